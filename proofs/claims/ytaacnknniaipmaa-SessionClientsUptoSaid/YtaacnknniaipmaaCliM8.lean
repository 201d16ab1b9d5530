/-
  The texts of this proof, joined: Y4, Y5, Y6.
-/
import Derived.Test.YtaacnknniaipmaaCliM7
import Derived.Test.YtaacnknniaipmaaCliM5

/-
  Acts of a client as arguments of a law.
-/
namespace Go.Proofs.Ytaacnknniaipmaa
open Go.RowKit Go.ChangeShapes Go.WideShapes Go.ChangeAt Go.Deep

theorem ln7 {α : Type _} {l : List α} (h : l.length = 7) : ∃ a0 a1 a2 a3 a4 a5 a6, l = [a0, a1, a2, a3, a4, a5, a6] := match l, h with | [a0, a1, a2, a3, a4, a5, a6], _ => ⟨a0, a1, a2, a3, a4, a5, a6, rfl⟩
theorem ln8 {α : Type _} {l : List α} (h : l.length = 8) : ∃ a0 a1 a2 a3 a4 a5 a6 a7, l = [a0, a1, a2, a3, a4, a5, a6, a7] := match l, h with | [a0, a1, a2, a3, a4, a5, a6, a7], _ => ⟨a0, a1, a2, a3, a4, a5, a6, a7, rfl⟩
theorem ln13 {α : Type _} {l : List α} (h : l.length = 13) : ∃ a0 a1 a2 a3 a4 a5 a6 a7 a8 a9 a10 a11 a12, l = [a0, a1, a2, a3, a4, a5, a6, a7, a8, a9, a10, a11, a12] := match l, h with | [a0, a1, a2, a3, a4, a5, a6, a7, a8, a9, a10, a11, a12], _ => ⟨a0, a1, a2, a3, a4, a5, a6, a7, a8, a9, a10, a11, a12, rfl⟩
theorem opens_i : Opens Try.prog 3 iEl 1 (fun _ => 0) (fun _ => True) := fun {H} enc W fuel cs x h => by
  obtain ⟨a, h0, hl, _, b⟩ := opens_int Try.underlying3 enc W fuel cs x h
  exact ⟨a, h0, hl, trivial, b⟩
theorem tkI1 : RowK Try.prog 104 3 1 (.int .i64 0) 8 := ⟨Try.underlying104, by kernel_rfl, by simp [Value.cells], by decide⟩
theorem opens_is : Opens Try.prog 104 (fun l : List Int => rowEl 1 (l.map iEl)) 1 (sumB fun _ => 0) (fun l => ∀ a ∈ l, True) := opens_slice tkI1 (by kernel_rfl) opens_i
theorem opens_col : Opens Try.prog 177 coEl 3 coW (fun _ => True) := fun {H} enc W fuel cs x h => by
  obtain ⟨xs, n, rfl, rfl, hl, hx, hf⟩ := DataW.trod_struct Try.underlying177 h
  replace hl : cs.length = 3 := hl.trans (by kernel_rfl)
  obtain ⟨c0, c1, c2, rfl⟩ := ln3 hl
  obtain ⟨y0, y1, y2, rfl⟩ := ln3 hx
  obtain ⟨a0, h0, _, k0, b0⟩ := opens_str Try.underlying9 enc W n [c0] y0 (field_at hf (i := 0) (off := 0) (k := 1) (t := 9) rfl rfl rfl (by kernel_rfl))
  obtain ⟨a1, h1, _, k1, b1⟩ := opens_int Try.underlying3 enc W n [c1] y1 (field_at hf (i := 1) (off := 1) (k := 1) (t := 3) rfl rfl rfl (by kernel_rfl))
  obtain ⟨a2, h2, _, k2, b2⟩ := opens_bool Try.underlying4 enc W n [c2] y2 (field_at hf (i := 2) (off := 2) (k := 1) (t := 4) rfl rfl rfl (by kernel_rfl))
  obtain rfl : c0 = str a0 := by simpa [vEl] using h0
  replace b0 : a0.length + 1 ≤ _ := b0
  obtain rfl : c1 = .int .i64 a1 := by simpa [vEl] using h1
  have k1' : -9223372036854775808 ≤ a1 ∧ a1 ≤ 9223372036854775807 := by simpa [Lit.wf, IntKind.min, IntKind.max, IntKind.signed, IntKind.bits] using k1
  obtain rfl : c2 = .bool a2 := by simpa [vEl] using h2
  refine ⟨⟨a0, a1, a2⟩, rfl, rfl, trivial, ?_⟩
  simp only [coW, Rows.uptoBulk, Rows.uptoBulkAll, List.map_cons, List.map_nil]
  omega
theorem opens_cols : Opens Try.prog 100 (fun l : List ColM => rowEl 3 (l.map coEl)) 1 (sumB coW) (fun l => ∀ a ∈ l, True) := opens_slice tkCo (by kernel_rfl) opens_col
theorem opens_ix : Opens Try.prog 106 ixEl 3 ixW (fun _ => True) := fun {H} enc W fuel cs x h => by
  obtain ⟨xs, n, rfl, rfl, hl, hx, hf⟩ := DataW.trod_struct Try.underlying106 h
  replace hl : cs.length = 3 := hl.trans (by kernel_rfl)
  obtain ⟨c0, c1, c2, rfl⟩ := ln3 hl
  obtain ⟨y0, y1, y2, rfl⟩ := ln3 hx
  obtain ⟨a0, h0, _, k0, b0⟩ := opens_str Try.underlying9 enc W n [c0] y0 (field_at hf (i := 0) (off := 0) (k := 1) (t := 9) rfl rfl rfl (by kernel_rfl))
  obtain ⟨a1, h1, _, k1, b1⟩ := opens_is enc W n [c1] y1 (field_at hf (i := 1) (off := 1) (k := 1) (t := 104) rfl rfl rfl (by kernel_rfl))
  obtain ⟨a2, h2, _, k2, b2⟩ := opens_bool Try.underlying4 enc W n [c2] y2 (field_at hf (i := 2) (off := 2) (k := 1) (t := 4) rfl rfl rfl (by kernel_rfl))
  obtain rfl : c0 = str a0 := by simpa [vEl] using h0
  replace b0 : a0.length + 1 ≤ _ := b0
  have h1' := h1
  obtain ⟨A1, d1, e1, _⟩ := h1
  rw [List.length_map] at e1
  obtain rfl : c1 = .slice A1 a1.length d1 := by simpa using e1
  replace b1 : sumB (fun _ => 0) a1 + 1 ≤ _ := b1
  obtain rfl : c2 = .bool a2 := by simpa [vEl] using h2
  refine ⟨⟨a0, a1, a2⟩, ⟨A1, d1, rfl, h1'⟩, rfl, trivial, ?_⟩
  simp only [ixW, Rows.uptoBulk, Rows.uptoBulkAll, List.map_cons, List.map_nil]
  omega
theorem opens_ixs : Opens Try.prog 101 (fun l : List IxM => rowEl 3 (l.map ixEl)) 1 (sumB ixW) (fun l => ∀ a ∈ l, True) := opens_slice tkIx (by kernel_rfl) opens_ix
def tbEl (t : TbM) : El where
  P w S cs := ∃ (C : Option Addr) (c : Nat) (X : Option Addr) (x : Nat), cs = tbV t C c X x ∧ (rowEl 3 (t.cols.map coEl)).P w S [.slice C t.cols.length c] ∧ (rowEl 3 (t.ixs.map ixEl)).P w S [.slice X t.ixs.length x]
  move := by rintro w w' S S' cs ⟨C, c, X, x, h, h1, h2⟩ hz hm; exact ⟨C, c, X, x, h, El.move _ h1 hz hm, El.move _ h2 hz hm⟩
theorem opens_tb : Opens Try.prog 103 tbEl 5 tbW (fun _ => True) := fun {H} enc W fuel cs x h => by
  obtain ⟨xs, n, rfl, rfl, hl, hx, hf⟩ := DataW.trod_struct Try.underlying103 h
  replace hl : cs.length = 5 := hl.trans (by kernel_rfl)
  obtain ⟨c0, c1, c2, c3, c4, rfl⟩ := ln5 hl
  obtain ⟨y0, y1, y2, y3, y4, rfl⟩ := ln5 hx
  obtain ⟨a0, h0, _, k0, b0⟩ := opens_int Try.underlying3 enc W n [c0] y0 (field_at hf (i := 0) (off := 0) (k := 1) (t := 3) rfl rfl rfl (by kernel_rfl))
  obtain ⟨a1, h1, _, k1, b1⟩ := opens_str Try.underlying9 enc W n [c1] y1 (field_at hf (i := 1) (off := 1) (k := 1) (t := 9) rfl rfl rfl (by kernel_rfl))
  obtain ⟨a2, h2, _, k2, b2⟩ := opens_cols enc W n [c2] y2 (field_at hf (i := 2) (off := 2) (k := 1) (t := 100) rfl rfl rfl (by kernel_rfl))
  obtain ⟨a3, h3, _, k3, b3⟩ := opens_int Try.underlying3 enc W n [c3] y3 (field_at hf (i := 3) (off := 3) (k := 1) (t := 3) rfl rfl rfl (by kernel_rfl))
  obtain ⟨a4, h4, _, k4, b4⟩ := opens_ixs enc W n [c4] y4 (field_at hf (i := 4) (off := 4) (k := 1) (t := 101) rfl rfl rfl (by kernel_rfl))
  obtain rfl : c0 = .int .i64 a0 := by simpa [vEl] using h0
  have k0' : -9223372036854775808 ≤ a0 ∧ a0 ≤ 9223372036854775807 := by simpa [Lit.wf, IntKind.min, IntKind.max, IntKind.signed, IntKind.bits] using k0
  obtain rfl : c1 = str a1 := by simpa [vEl] using h1
  replace b1 : a1.length + 1 ≤ _ := b1
  have h2' := h2
  obtain ⟨A2, d2, e2, _⟩ := h2
  rw [List.length_map] at e2
  obtain rfl : c2 = .slice A2 a2.length d2 := by simpa using e2
  replace b2 : sumB coW a2 + 1 ≤ _ := b2
  obtain rfl : c3 = .int .i64 a3 := by simpa [vEl] using h3
  have k3' : -9223372036854775808 ≤ a3 ∧ a3 ≤ 9223372036854775807 := by simpa [Lit.wf, IntKind.min, IntKind.max, IntKind.signed, IntKind.bits] using k3
  have h4' := h4
  obtain ⟨A4, d4, e4, _⟩ := h4
  rw [List.length_map] at e4
  obtain rfl : c4 = .slice A4 a4.length d4 := by simpa using e4
  replace b4 : sumB ixW a4 + 1 ≤ _ := b4
  refine ⟨⟨a0, a1, a2, a3, a4⟩, ⟨A2, d2, A4, d4, rfl, h2', h4'⟩, rfl, trivial, ?_⟩
  simp only [tbW, Rows.uptoBulk, Rows.uptoBulkAll, List.map_cons, List.map_nil]
  omega
theorem opens_lc : Opens Try.prog 112 lcEl 5 lcB (fun _ => True) := fun {H} enc W fuel cs x h => by
  obtain ⟨xs, n, rfl, rfl, hl, hx, hf⟩ := DataW.trod_struct Try.underlying112 h
  replace hl : cs.length = 5 := hl.trans (by kernel_rfl)
  obtain ⟨c0, c1, c2, c3, c4, rfl⟩ := ln5 hl
  obtain ⟨y0, y1, y2, y3, y4, rfl⟩ := ln5 hx
  obtain ⟨a0, h0, _, k0, b0⟩ := opens_int Try.underlying3 enc W n [c0] y0 (field_at hf (i := 0) (off := 0) (k := 1) (t := 3) rfl rfl rfl (by kernel_rfl))
  obtain ⟨a1, h1, _, k1, b1⟩ := opens_bool Try.underlying4 enc W n [c1] y1 (field_at hf (i := 1) (off := 1) (k := 1) (t := 4) rfl rfl rfl (by kernel_rfl))
  obtain ⟨a2, h2, _, k2, b2⟩ := opens_int Try.underlying2 enc W n [c2] y2 (field_at hf (i := 2) (off := 2) (k := 1) (t := 2) rfl rfl rfl (by kernel_rfl))
  obtain ⟨a3, h3, _, k3, b3⟩ := opens_str Try.underlying9 enc W n [c3] y3 (field_at hf (i := 3) (off := 3) (k := 1) (t := 9) rfl rfl rfl (by kernel_rfl))
  obtain ⟨a4, h4, _, k4, b4⟩ := opens_bytes enc W n [c4] y4 (field_at hf (i := 4) (off := 4) (k := 1) (t := 32) rfl rfl rfl (by kernel_rfl))
  obtain rfl : c0 = .int .i64 a0 := by simpa [vEl] using h0
  have k0' : -9223372036854775808 ≤ a0 ∧ a0 ≤ 9223372036854775807 := by simpa [Lit.wf, IntKind.min, IntKind.max, IntKind.signed, IntKind.bits] using k0
  obtain rfl : c1 = .bool a1 := by simpa [vEl] using h1
  obtain rfl : c2 = .int .i64 a2 := by simpa [vEl] using h2
  have k2' : -9223372036854775808 ≤ a2 ∧ a2 ≤ 9223372036854775807 := by simpa [Lit.wf, IntKind.min, IntKind.max, IntKind.signed, IntKind.bits] using k2
  obtain rfl : c3 = str a3 := by simpa [vEl] using h3
  replace b3 : a3.length + 1 ≤ _ := b3
  have h4' := h4
  obtain ⟨A4, d4, e4, _⟩ := h4
  obtain rfl : c4 = .slice A4 a4.length d4 := by simpa using e4
  replace b4 : a4.length + 1 ≤ _ := b4
  refine ⟨⟨a0, a1, a2, a3, a4⟩, ⟨A4, d4, rfl, h4'⟩, rfl, trivial, ?_⟩
  simp only [lcB, Rows.uptoBulk, Rows.uptoBulkAll, List.map_cons, List.map_nil]
  omega
theorem opens_lcs : Opens Try.prog 107 (fun l : List LcM => rowEl 5 (l.map lcEl)) 1 (sumB lcB) (fun l => ∀ a ∈ l, True) := opens_slice tkLc (by kernel_rfl) opens_lc
theorem opens_op : Opens Try.prog 109 opEl 13 opW (fun _ => True) := fun {H} enc W fuel cs x h => by
  obtain ⟨xs, n, rfl, rfl, hl, hx, hf⟩ := DataW.trod_struct Try.underlying109 h
  replace hl : cs.length = 13 := hl.trans (by kernel_rfl)
  obtain ⟨c0, c1, c2, c3, c4, c5, c6, c7, c8, c9, c10, c11, c12, rfl⟩ := ln13 hl
  obtain ⟨y0, y1, y2, y3, y4, y5, y6, rfl⟩ := ln7 hx
  obtain ⟨a0, h0, _, k0, b0⟩ := opens_int Try.underlying3 enc W n [c0] y0 (field_at hf (i := 0) (off := 0) (k := 1) (t := 3) rfl rfl rfl (by kernel_rfl))
  obtain ⟨a1, h1, _, k1, b1⟩ := opens_str Try.underlying9 enc W n [c1] y1 (field_at hf (i := 1) (off := 1) (k := 1) (t := 9) rfl rfl rfl (by kernel_rfl))
  obtain ⟨a2, h2, _, k2, b2⟩ := opens_str Try.underlying9 enc W n [c2] y2 (field_at hf (i := 2) (off := 2) (k := 1) (t := 9) rfl rfl rfl (by kernel_rfl))
  obtain ⟨a3, h3, _, k3, b3⟩ := opens_tb enc W n [c3, c4, c5, c6, c7] y3 (field_at hf (i := 3) (off := 3) (k := 5) (t := 103) rfl rfl rfl (by kernel_rfl))
  obtain ⟨a4, h4, _, k4, b4⟩ := opens_ix enc W n [c8, c9, c10] y4 (field_at hf (i := 4) (off := 8) (k := 3) (t := 106) rfl rfl rfl (by kernel_rfl))
  obtain ⟨a5, h5, _, k5, b5⟩ := opens_lcs enc W n [c11] y5 (field_at hf (i := 5) (off := 11) (k := 1) (t := 107) rfl rfl rfl (by kernel_rfl))
  obtain ⟨a6, h6, _, k6, b6⟩ := opens_int Try.underlying3 enc W n [c12] y6 (field_at hf (i := 6) (off := 12) (k := 1) (t := 3) rfl rfl rfl (by kernel_rfl))
  obtain rfl : c0 = .int .i64 a0 := by simpa [vEl] using h0
  have k0' : -9223372036854775808 ≤ a0 ∧ a0 ≤ 9223372036854775807 := by simpa [Lit.wf, IntKind.min, IntKind.max, IntKind.signed, IntKind.bits] using k0
  obtain rfl : c1 = str a1 := by simpa [vEl] using h1
  replace b1 : a1.length + 1 ≤ _ := b1
  obtain rfl : c2 = str a2 := by simpa [vEl] using h2
  replace b2 : a2.length + 1 ≤ _ := b2
  obtain ⟨C3, d3, X3, x3, t3, q3, s3⟩ := h3
  simp only [tbV, List.cons.injEq, and_true] at t3
  obtain ⟨rfl, rfl, rfl, rfl, rfl⟩ := t3
  obtain ⟨I4, d4, t4, q4⟩ := h4
  simp only [ixV, List.cons.injEq, and_true] at t4
  obtain ⟨rfl, rfl, rfl⟩ := t4
  have h5' := h5
  obtain ⟨A5, d5, e5, _⟩ := h5
  rw [List.length_map] at e5
  obtain rfl : c11 = .slice A5 a5.length d5 := by simpa using e5
  replace b5 : sumB lcB a5 + 1 ≤ _ := b5
  obtain rfl : c12 = .int .i64 a6 := by simpa [vEl] using h6
  have k6' : -9223372036854775808 ≤ a6 ∧ a6 ≤ 9223372036854775807 := by simpa [Lit.wf, IntKind.min, IntKind.max, IntKind.signed, IntKind.bits] using k6
  refine ⟨⟨a0, a1, a2, a3, a4, a5, a6⟩, ⟨C3, d3, X3, x3, I4, d4, A5, d5, rfl, q3, s3, q4, h5'⟩, rfl, trivial, ?_⟩
  simp only [opW, Rows.uptoBulk, Rows.uptoBulkAll, List.map_cons, List.map_nil]
  omega
theorem opens_ops : Opens Try.prog 43 (fun l : List OpM => rowEl 13 (l.map opEl)) 1 (sumB opW) (fun l => ∀ a ∈ l, True) := opens_slice tkQp (by kernel_rfl) opens_op
structure ActM where
  kind : Int
  to : Int
  code : Int
  err : Int
  at_ : Int
  seq : Nat
  ops : List OpM
  junk : By
def acV (a : ActM) (O : Option Addr) (o : Nat) (J : Option Addr) (j : Nat) : List Value := [.int .i64 a.kind, .int .i64 a.to, .int .i64 a.code, .int .i64 a.err, .int .i64 a.at_, .int .u64 (a.seq : Int), .slice O a.ops.length o, .slice J a.junk.length j]
def acEl (a : ActM) : El where
  P w S cs := ∃ (O : Option Addr) (o : Nat) (J : Option Addr) (j : Nat), cs = acV a O o J j ∧ (rowEl 13 (a.ops.map opEl)).P w S [.slice O a.ops.length o] ∧ (byEl a.junk).P w S [.slice J a.junk.length j]
  move := by rintro w w' S S' cs ⟨O, o, J, j, h, h1, h2⟩ hz hm; exact ⟨O, o, J, j, h, El.move _ h1 hz hm, El.move _ h2 hz hm⟩
def acB (a : ActM) : Nat := sumB opW a.ops + a.junk.length
def zAc : ActM := ⟨0, 0, 0, 0, 0, 0, [], []⟩
theorem sAc : StT Try.prog 45 8 := ⟨by kernel_rfl, by kernel_rfl⟩
theorem zeroAc : (Try.prog.info? 45).map (·.zero) = some (some (.agg (acV zAc none 0 none 0).toArray)) := by kernel_rfl
theorem tkAc : RowK Try.prog 23 45 8 (.agg (acV zAc none 0 none 0).toArray) 96 := ⟨Try.underlying23, by kernel_rfl, by simp [acV, Value.cells], by decide⟩
theorem opens_act : Opens Try.prog 45 acEl 8 acB (fun _ => True) := fun {H} enc W fuel cs x h => by
  obtain ⟨xs, n, rfl, rfl, hl, hx, hf⟩ := DataW.trod_struct Try.underlying45 h
  replace hl : cs.length = 8 := hl.trans (by kernel_rfl)
  obtain ⟨c0, c1, c2, c3, c4, c5, c6, c7, rfl⟩ := ln8 hl
  obtain ⟨y0, y1, y2, y3, y4, y5, y6, y7, rfl⟩ := ln8 hx
  obtain ⟨a0, h0, _, k0, b0⟩ := opens_int Try.underlying3 enc W n [c0] y0 (field_at hf (i := 0) (off := 0) (k := 1) (t := 3) rfl rfl rfl (by kernel_rfl))
  obtain ⟨a1, h1, _, k1, b1⟩ := opens_int Try.underlying3 enc W n [c1] y1 (field_at hf (i := 1) (off := 1) (k := 1) (t := 3) rfl rfl rfl (by kernel_rfl))
  obtain ⟨a2, h2, _, k2, b2⟩ := opens_int Try.underlying3 enc W n [c2] y2 (field_at hf (i := 2) (off := 2) (k := 1) (t := 3) rfl rfl rfl (by kernel_rfl))
  obtain ⟨a3, h3, _, k3, b3⟩ := opens_int Try.underlying3 enc W n [c3] y3 (field_at hf (i := 3) (off := 3) (k := 1) (t := 3) rfl rfl rfl (by kernel_rfl))
  obtain ⟨a4, h4, _, k4, b4⟩ := opens_int Try.underlying3 enc W n [c4] y4 (field_at hf (i := 4) (off := 4) (k := 1) (t := 3) rfl rfl rfl (by kernel_rfl))
  obtain ⟨a5, h5, _, k5, b5⟩ := opens_int Try.underlying22 enc W n [c5] y5 (field_at hf (i := 5) (off := 5) (k := 1) (t := 22) rfl rfl rfl (by kernel_rfl))
  obtain ⟨a6, h6, _, k6, b6⟩ := opens_ops enc W n [c6] y6 (field_at hf (i := 6) (off := 6) (k := 1) (t := 43) rfl rfl rfl (by kernel_rfl))
  obtain ⟨a7, h7, _, k7, b7⟩ := opens_bytes enc W n [c7] y7 (field_at hf (i := 7) (off := 7) (k := 1) (t := 32) rfl rfl rfl (by kernel_rfl))
  obtain rfl : c0 = .int .i64 a0 := by simpa [vEl] using h0
  have k0' : -9223372036854775808 ≤ a0 ∧ a0 ≤ 9223372036854775807 := by simpa [Lit.wf, IntKind.min, IntKind.max, IntKind.signed, IntKind.bits] using k0
  obtain rfl : c1 = .int .i64 a1 := by simpa [vEl] using h1
  have k1' : -9223372036854775808 ≤ a1 ∧ a1 ≤ 9223372036854775807 := by simpa [Lit.wf, IntKind.min, IntKind.max, IntKind.signed, IntKind.bits] using k1
  obtain rfl : c2 = .int .i64 a2 := by simpa [vEl] using h2
  have k2' : -9223372036854775808 ≤ a2 ∧ a2 ≤ 9223372036854775807 := by simpa [Lit.wf, IntKind.min, IntKind.max, IntKind.signed, IntKind.bits] using k2
  obtain rfl : c3 = .int .i64 a3 := by simpa [vEl] using h3
  have k3' : -9223372036854775808 ≤ a3 ∧ a3 ≤ 9223372036854775807 := by simpa [Lit.wf, IntKind.min, IntKind.max, IntKind.signed, IntKind.bits] using k3
  obtain rfl : c4 = .int .i64 a4 := by simpa [vEl] using h4
  have k4' : -9223372036854775808 ≤ a4 ∧ a4 ≤ 9223372036854775807 := by simpa [Lit.wf, IntKind.min, IntKind.max, IntKind.signed, IntKind.bits] using k4
  obtain rfl : c5 = .int .u64 a5 := by simpa [vEl] using h5
  have k5' : 0 ≤ a5 ∧ a5 ≤ 18446744073709551615 := by simpa [Lit.wf, IntKind.min, IntKind.max, IntKind.signed, IntKind.bits] using k5
  obtain ⟨a5, rfl⟩ := Int.eq_ofNat_of_zero_le k5'.1
  have k5' : a5 < 2 ^ 64 := by have := k5'.2; omega
  have h6' := h6
  obtain ⟨A6, d6, e6, _⟩ := h6
  rw [List.length_map] at e6
  obtain rfl : c6 = .slice A6 a6.length d6 := by simpa using e6
  replace b6 : sumB opW a6 + 1 ≤ _ := b6
  have h7' := h7
  obtain ⟨A7, d7, e7, _⟩ := h7
  obtain rfl : c7 = .slice A7 a7.length d7 := by simpa using e7
  replace b7 : a7.length + 1 ≤ _ := b7
  refine ⟨⟨a0, a1, a2, a3, a4, a5, a6, a7⟩, ⟨A6, d6, A7, d7, rfl, h6', h7'⟩, rfl, trivial, ?_⟩
  simp only [acB, Rows.uptoBulk, Rows.uptoBulkAll, List.map_cons, List.map_nil]
  omega
theorem opens_acts : Opens Try.prog 23 (fun l : List ActM => rowEl 8 (l.map acEl)) 1 (sumB acB) (fun l => ∀ a ∈ l, True) := opens_slice tkAc (by kernel_rfl) opens_act
end Go.Proofs.Ytaacnknniaipmaa

/-
  The walk over SessionClients.
-/
namespace Go.Proofs.Ytaacnknniaipmaa
open Go.RowKit

theorem g1_ops : Cell1 Try.prog 43 := ⟨by kernel_rfl, by rw [Try.underlying43]⟩
theorem fa_Ac0 : FieldAt Try.prog 45 0 0 := fieldAt_mk Try.underlying45 rfl rfl (by kernel_rfl)
theorem fa_Ac1 : FieldAt Try.prog 45 1 1 := fieldAt_mk Try.underlying45 rfl rfl (by kernel_rfl)
theorem fa_Ac2 : FieldAt Try.prog 45 2 2 := fieldAt_mk Try.underlying45 rfl rfl (by kernel_rfl)
theorem fa_Ac3 : FieldAt Try.prog 45 3 3 := fieldAt_mk Try.underlying45 rfl rfl (by kernel_rfl)
theorem fa_Ac4 : FieldAt Try.prog 45 4 4 := fieldAt_mk Try.underlying45 rfl rfl (by kernel_rfl)
theorem fa_Ac5 : FieldAt Try.prog 45 5 5 := fieldAt_mk Try.underlying45 rfl rfl (by kernel_rfl)
theorem fa_Ac6 : FieldAt Try.prog 45 6 6 := fieldAt_mk Try.underlying45 rfl rfl (by kernel_rfl)
theorem fa_Ac7 : FieldAt Try.prog 45 7 7 := fieldAt_mk Try.underlying45 rfl rfl (by kernel_rfl)
theorem tkRq : RowK Try.prog 27 64 3 (.agg (rpV zRp none 0).toArray) 40 := ⟨Try.underlying27, by kernel_rfl, by simp [rpV, Value.cells], by decide⟩
def CSt (w wr : World) (id g g9 seq : Nat) (op : Bool) (Gt : Option Addr) (gc : Nat) (reps : List By) : Prop :=
  ∃ (A : Option Addr) (c : Nat) (req : By) (R : Option Addr) (d : Nat) (vs : List Value) (css : List (List Value)) (K3 : World → Prop) (lk : Int) (ltx : Nat × Nat) (lcode : Int) (ldata : By) (LD : Option Addr) (lcd : Nat),
    (∀ r ∈ reps, r.length ≤ 16777216) ∧ AllK K3 QRp (reps.map fun b => (readRp b).1) css ∧ ldata.length ≤ lcd ∧ ldata.length ≤ 16777216 ∧ (op = true → req.length ≤ 8000) ∧
    St NoB w wr [.blk g 98 (clV id seq A req.length c op R reps.length d), .ow 5 A req.length c (bvs req), .ow 32 R reps.length d vs, .ck (elC w vs reps), .rg 3 64 Gt gc (css.map rawEl), .ck (kp K3), .blk g9 42 (pkYV lk ltx lcode ldata LD lcd), .ck (kp fun w' => RdB w' LD ldata)]
def CliI (w : World) (acts : List ActM) (Aa : Option Addr) (ac id g g9 : Nat) : FL → World → Nat → Prop := fun L wr q =>
  ∃ (i seq : Nat) (op : Bool) (Gt : Option Addr) (gc : Nat) (reps : List By), L = [(0, .int .u64 (id : Int)), (1, .slice Aa acts.length ac), (5, .pointer (some ⟨g, 0, none⟩)), (6, .int .u64 (seq : Int)), (7, .bool op), (8, .slice Gt reps.length gc), (9, .pointer (some ⟨g9, 0, none⟩)), (10, .int .i64 (i : Int))] ∧ i ≤ acts.length ∧ i ≤ 40 ∧ seq ≤ i ∧ reps.length ≤ i ∧ CSt w wr id g g9 seq op Gt gc reps ∧ q = 40 - i
def CliJ (w : World) (acts : List ActM) (Aa : Option Addr) (ac id g g9 i : Nat) : FL → World → Prop := fun L wr =>
  ∃ (seq : Nat) (op : Bool) (Gt : Option Addr) (gc : Nat) (reps : List By), L = [(0, .int .u64 (id : Int)), (1, .slice Aa acts.length ac), (5, .pointer (some ⟨g, 0, none⟩)), (6, .int .u64 (seq : Int)), (7, .bool op), (8, .slice Gt reps.length gc), (9, .pointer (some ⟨g9, 0, none⟩)), (10, .int .i64 (i : Int))] ∧ seq ≤ i + 1 ∧ reps.length ≤ i + 1 ∧ CSt w wr id g g9 seq op Gt gc reps
def CliR (w : World) (acts : List ActM) (Aa : Option Addr) (ac id g g9 i seq : Nat) (op : Bool) (Gt : Option Addr) (gc : Nat) (reps : List By) (X : Option Addr) (xc : Nat) : FL → World → Nat → Prop := fun L wr q =>
  ∃ (k : Nat), L = [(0, .int .u64 (id : Int)), (1, .slice Aa acts.length ac), (5, .pointer (some ⟨g, 0, none⟩)), (6, .int .u64 (seq : Int)), (7, .bool op), (8, .slice Gt reps.length gc), (9, .pointer (some ⟨g9, 0, none⟩)), (10, .int .i64 (i : Int)), (26, .slice X reps.length xc), (261, .int .i64 (reps.length : Int)), (262, .int .i64 (k : Int))] ∧ k ≤ reps.length ∧ CSt w wr id g g9 seq op Gt gc reps ∧ RdR 3 wr All X (reps.map fun b => rpEl (readRp b).1) ∧ q = reps.length - k
theorem CSt.below {w wr w' : World} {id g g9 seq : Nat} {op : Bool} {Gt : Option Addr} {gc : Nat} {reps : List By} (h : CSt w wr id g g9 seq op Gt gc reps) (hb : Below wr.heap.size wr w') : CSt w w' id g g9 seq op Gt gc reps := by
  obtain ⟨A, c, req, R, d, vs, css, K3, lk, ltx, lcode, ldata, LD, lcd, h1, h2, h3, h4, h5, hs⟩ := h
  exact ⟨A, c, req, R, d, vs, css, K3, lk, ltx, lcode, ldata, LD, lcd, h1, h2, h3, h4, h5, hs.below hb⟩
theorem CSt.got {w wr : World} {id g g9 seq : Nat} {op : Bool} {Gt : Option Addr} {gc : Nat} {reps : List By} (h : CSt w wr id g g9 seq op Gt gc reps) : RdR 3 wr All Gt (reps.map fun b => rpEl (readRp b).1) := by
  obtain ⟨A, c, req, R, d, vs, css, K3, lk, ltx, lcode, ldata, LD, lcd, h1, h2, h3, h4, h5, hs⟩ := h
  have := h2.rdr (el := rpEl) (hs.kp 5 rfl) (fun x cs h => rp_of h) (hs.rg 4 rfl)
  rw [List.map_map] at this
  exact this
theorem ccall_no {g ses seq n c m d : Nat} {A R : Option Addr} {to : Int} {w : World} (ha : Ar w g 98 (clV ses seq A n c false R m d)) :
    CallsV Try.prog 12 #[.pointer (some ⟨g, 0, none⟩), .int .i64 to] w fun v w' => v = .tuple #[.agg (pkZ zPk).toArray, .bool false] ∧ Below w.heap.size w w' := by
  have hs := St.init w
  unfold clV at ha
  refine calls_in (N := _) Try.func12 rfl Try.ntmps12 rfl ?_; show WC _ _ _ _ _ _
  refine wc_sr ?_
  refine ws_new hs zeroPk rfl ?_; clear hs; intro g4 _ hs
  have ha2 := ha.bel hs.bel
  clear ha
  refine wl_as rfl rfl ?_; refine wl_ns ?_; refine wc_seq ?_; refine wc_sr ?_; refine wl_mv rfl rfl ?_; apply wl_val; apply opv_nilOk; exact rfl; exact rfl; apply wl_val; apply opv_fa; exact fa_Cl3; exact rfl; exact rfl; apply wl_val; apply opv_ldX; exact rfl; assumption; exact g1_bool; exact rfl; exact rfl; apply wl_val; apply opv_not; exact rfl; exact rfl; refine wl_ns ?_; apply wc_condTb; exact rfl; exact Bool.not_false; refine wc_sr ?_
  refine wl_val (opv_build (vs := []) (cs := pkZ zPk) trivial (by kernel_rfl)) rfl ?_
  apply ws_stS hs 0; exact rfl; exact rfl; exact rfl; exact sPk; exact rfl; exact rfl; clear hs; intro _ hs; dsimp only [setC] at hs; refine wl_as rfl rfl ?_; refine wl_ns ?_; refine wc_ret ?_; refine we_seq_ret ?_
  exact we_retC1 rfl rfl rfl (hs.ar 0 rfl) sPk ⟨_, rfl, rfl, hs.bel⟩
set_option maxHeartbeats 16000000 in
set_option maxRecDepth 16000 in
theorem clients24_any {id : Nat} {acts : List ActM} {Aa : Option Addr} {ac : Nat} {w : World} (rA : RdR 8 w All Aa (acts.map acEl)) (hl : sumB acB acts ≤ 1048576) (hid : id < 2 ^ 64) :
    CallsV Try.prog 3 #[.int .u64 (id : Int), .slice Aa acts.length ac] w (RetTrue w) := by
  have hs := St.init w
  have hmax : maxLen = 9223372036854775807 := rfl
  refine calls_in (N := _) Try.func3 rfl Try.ntmps3 rfl ?_; show WC _ _ _ _ _ _
  refine wc_sr ?_; refine wl_as rfl rfl ?_; refine wl_ns ?_; refine wc_seq ?_; refine wc_sr ?_
  refine wl_call ok_caissonlaw24_awake (awake24_any _) trivial rfl ?_
  rintro _ _ ⟨rfl, hbx⟩
  replace hs := hs.below hbx
  clear hbx
  apply wl_val; apply opv_not; exact rfl; exact rfl; refine wl_ns ?_; apply wc_condFb; exact rfl; exact Bool.not_true; refine wc_skip ?_; refine we_seq ?_; refine wc_sr ?_; refine wl_mv rfl rfl ?_
  refine wl_call ok_session_New (cnew_any id _) ⟨rfl, trivial⟩ rfl ?_
  rintro _ _ ⟨g, rfl, hsx⟩
  replace hs := hs.call hsx
  clear hsx
  dsimp only [List.cons_append, List.nil_append] at hs
  refine wl_as rfl rfl ?_; refine wl_ns ?_; refine wc_sr ?_; refine wl_as rfl rfl ?_; refine wl_as rfl rfl ?_; refine wl_ns ?_; refine wc_sr ?_; refine wl_as rfl rfl ?_; refine wl_ns ?_; refine wc_sr ?_
  refine ws_new hs zeroPk rfl ?_; clear hs; intro g9 _ hs
  replace hs := ((((((hs.kpNil (K := fun w' => RdB w' none []) fun _ => Rd.nil _ _).kpNil (K := fun _ => True) fun _ => trivial).nilG 3 64).elNil).nilO 32).nilO 5)
  replace hs := ((((((((hs.front 5 rfl).front 6 rfl).front 6 rfl).front 6 rfl).front 6 rfl).front 6 rfl).front 6 rfl).front 7 rfl)
  refine wl_ns ?_; refine wc_seq ?_; refine wc_sr ?_; refine wl_as rfl rfl ?_; refine wl_ns ?_; refine wc_block ?_
  refine wc_loop (CliI w acts Aa ac id g g9) [(0, .int .u64 (id : Int)), (1, .slice Aa acts.length ac), (5, .pointer (some ⟨g, 0, none⟩)), (6, .int .u64 ((0 : Nat) : Int)), (7, .bool false), (8, .slice none 0 0), (9, .pointer (some ⟨g9, 0, none⟩)), (10, .int .i64 ((0 : Nat) : Int))] 40 ⟨0, 0, false, none, 0, [], rfl, Nat.zero_le _, Nat.zero_le _, Nat.le_refl _, Nat.le_refl _, ⟨none, 0, [], none, 0, [], [], _, 0, (0, 0), 0, [], none, 0, by simp, AllK.nil, Nat.le_refl _, Nat.zero_le _, by simp, hs⟩, rfl⟩ ⟨rfl, rfl, rfl, rfl, rfl, rfl, rfl, rfl, trivial⟩ ?_
  clear hs
  rintro _ w3 q ⟨i, seq, op, Gt, gc, reps, rfl, hi, hi4, hsq, hrl, hC, rfl⟩
  refine wc_seq ?_; refine wc_sr ?_; refine wl_mv rfl rfl ?_; refine wl_mv rfl rfl ?_; apply wl_val; apply opv_len; exact rfl; exact tkAc.sl; exact rfl; refine wl_bin rfl rfl bin_lss rfl ?_; refine wl_mv rfl rfl ?_
  by_cases hi1 : i < acts.length
  rotate_left
  · have hi1' : ¬ (i : Int) < (acts.length : Int) := by omega
    apply wl_skip; exact rfl; exact rfl; exact rfl; refine bFn ?_; (with_reducible assumption); exact rfl; apply wl_skip; exact rfl; exact rfl; exact rfl; refine bFn ?_; (with_reducible assumption); exact rfl; apply wl_val; apply opv_pickF; exact rfl; refine bF ?_; (with_reducible assumption); exact rfl; exact rfl; refine wl_ns ?_; apply wc_condFb; exact rfl; exact rfl; refine wc_exit ?_; refine we_seq_exit ?_; refine we_loop_exit ?_; refine we_block_exit ?_; refine we_seq ?_; refine wc_sr ?_; refine wl_as rfl rfl ?_; refine wl_ns ?_; refine wc_ret ?_
    obtain ⟨A, c, req, R, d, vs, css, K3, lk, ltx, lcode, ldata, LD, lcd, hreps, hA, hl1, hl2, hop, hs⟩ := hC
    exact we_ret1 rfl rfl ⟨_, rfl, rfl, hs.bel⟩
  have hi1' : (i : Int) < (acts.length : Int) := by omega
  by_cases hi2 : i < 40
  rotate_left
  · have hi2' : ¬ (i : Int) < 40 := by omega
    apply wl_take; exact rfl; exact rfl; exact rfl; refine bT ?_; (with_reducible assumption); refine wl_mv rfl rfl ?_; apply wl_take; exact rfl; exact rfl; exact rfl; refine bT ?_; (with_reducible assumption); refine wl_bin rfl rfl bin_lss rfl ?_; apply wl_val; apply opv_pickT; exact rfl; refine bT ?_; (with_reducible assumption); exact rfl; exact rfl; refine wl_ns ?_; apply wc_decF; exact rfl; (with_reducible assumption); refine wc_exit ?_; refine we_seq_exit ?_; refine we_loop_exit ?_; refine we_block_exit ?_; refine we_seq ?_; refine wc_sr ?_; refine wl_as rfl rfl ?_; refine wl_ns ?_; refine wc_ret ?_
    obtain ⟨A, c, req, R, d, vs, css, K3, lk, ltx, lcode, ldata, LD, lcd, hreps, hA, hl1, hl2, hop, hs⟩ := hC
    exact we_ret1 rfl rfl ⟨_, rfl, rfl, hs.bel⟩
  have hi2' : (i : Int) < 40 := by omega
  obtain ⟨a, ha⟩ : ∃ a, acts[i]? = some a := ⟨_, List.getElem?_eq_getElem hi1⟩
  obtain ⟨b0, o0, cs, hAe, _, _, ⟨O, oc, J, jc, rfl, hO, hJ⟩, hw⟩ := RdR.at (k := 8) (by decide) rA (E := acEl a) (i := i) (by rw [List.getElem?_map, ha]; rfl)
  obtain ⟨A, c, req, R, d, vs, css, K3, lk, ltx, lcode, ldata, LD, lcd, hreps, hA, hl1, hl2, hop, hs⟩ := hC
  have i1 := hw.below hs.bel
  have rO := (rowEl.rd hO).2.2
  have rJ := by_rd hJ
  have hal := sum_le hl a (List.mem_of_getElem? ha)
  have hol : sumB opW a.ops ≤ 1048576 := by unfold acB at hal; omega
  have hjl : a.junk.length ≤ 1048576 := by unfold acB at hal; omega
  subst hAe
  apply wl_take; exact rfl; exact rfl; exact rfl; refine bT ?_; (with_reducible assumption); refine wl_mv rfl rfl ?_; apply wl_take; exact rfl; exact rfl; exact rfl; refine bT ?_; (with_reducible assumption); refine wl_bin rfl rfl bin_lss rfl ?_; apply wl_val; apply opv_pickT; exact rfl; refine bT ?_; (with_reducible assumption); exact rfl; exact rfl; refine wl_ns ?_; apply wc_decT; exact rfl; (with_reducible assumption); refine wc_skip ?_; refine we_seq ?_; refine wc_seq ?_; refine wc_block ?_; refine wc_sr ?_; refine wl_mv rfl rfl ?_; refine wl_mv rfl rfl ?_; apply wl_val; apply opv_idxG tkAc; exact rfl; exact rfl; exact rfl; omega; exact rfl; apply wl_val; apply opv_ldG; exact rfl; assumption; exact sAc; exact rfl
  refine ws_var (cs := acV a O oc J jc) hs zeroAc sAc rfl (fun _ => rfl) (by first | rfl | simp [Value.oneCell']) rfl ?_; clear hs; intro g11 _ hs
  refine wl_ns ?_
  clear i1 hw
  refine wc_cut (CliJ w acts (some ⟨b0, o0, none⟩) ac id g g9 i) ?_ ?_
  · unfold acV at hs
    by_cases k1 : a.kind = 1
    · refine wc_sr ?_; apply wl_val; apply opv_fa; exact fa_Ac0; exact rfl; exact rfl; apply wl_val; apply opv_ldX; exact rfl; exact hs.ar 0 rfl; exact g1_int; exact rfl; exact rfl; refine wl_ns ?_; refine wc_block ?_; refine wc_sr ?_; refine wl_bin rfl rfl bin_eql rfl ?_; refine wl_as rfl rfl ?_; refine wl_ns ?_; apply wc_decT; exact rfl; (with_reducible assumption); refine wc_sr ?_; refine wl_mv rfl rfl ?_; apply wl_val; apply opv_fa; exact fa_Ac6; exact rfl; exact rfl; apply wl_val; apply opv_ldX; exact rfl; exact hs.ar 0 rfl; exact g1_ops; exact rfl; exact rfl
      refine wl_call ok_caissonlaw22_Ops (ops_any hs.bel rO hol) ⟨rfl, trivial⟩ rfl ?_
      rintro _ _ ⟨R5, c5, rfl, hsx⟩
      replace hs := hs.call hsx
      clear hsx
      dsimp only [List.cons_append, List.nil_append] at hs
      have henl : (framed (a.ops.map opB)).length ≤ 400 * 1048576 := by have := fr_sum (b := opW) (K := 400) (l := a.ops) (fun o ho => opB_le o (sum_le hol o ho)) (by omega); omega
      skip
      replace hs := hs.front 2 rfl
      dsimp only [delC] at hs
      cases op with
      | true =>
        obtain ⟨S2, hS2, hB2, hM2, hH2, hB⟩ := St.lend (H1 := [_]) (H2 := [_, _, _, _, _, _, _, _, _]) hs
        refine wl_call ok_session_Client_Ask (cask_busy hS2) ⟨rfl, rfl, trivial⟩ rfl ?_
        rintro _ _ ⟨rfl, hsx⟩
        replace hs := hB _ _ hsx
        clear hsx hB hH2 hM2 hB2 hS2
        dsimp only [List.cons_append, List.nil_append] at hs
        refine wl_mv rfl rfl ?_; apply wl_val; apply opv_extract; exact rfl; exact rfl; exact rfl; apply wl_val; apply opv_extract; exact rfl; exact rfl; exact rfl
        refine ws_var (cs := txW (0, 0)) hs zeroTx sTxn rfl (fun _ => rfl) (by first | rfl | simp [Value.oneCell']) rfl ?_; clear hs; intro g12 _ hs
        unfold txW at hs
        refine wl_as rfl rfl ?_; refine wl_ns ?_; refine wc_seq ?_; refine wc_sr ?_; refine wl_mv rfl rfl ?_; refine wl_ns ?_; apply wc_condTb; exact rfl; exact rfl; refine wc_seq ?_; refine wc_sr ?_; refine wl_mv rfl rfl ?_; refine wl_bin rfl rfl bin_neq rfl ?_; refine wl_mv rfl rfl ?_; apply wl_take; exact rfl; exact rfl; exact rfl; refine bF ?_; (with_reducible exact nne); apply wl_val; apply opv_loadX; exact rfl; exact hs.ar 0 rfl; exact sTxn; exact rfl; apply wl_take; exact rfl; exact rfl; exact rfl; refine bF ?_; (with_reducible exact nne)
        refine wl_val (opv_build (vs := []) (cs := txW (0, 0)) trivial (by kernel_rfl)) rfl ?_
        apply wl_take; exact rfl; exact rfl; exact rfl; refine bF ?_; (with_reducible exact nne); apply wl_val; apply opv_bin; exact rfl; exact rfl; exact bin_neqTw _ _; exact rfl; apply wl_val; apply opv_pickF; exact rfl; refine bF ?_; (with_reducible exact nne); exact rfl; exact rfl; refine wl_ns ?_; apply wc_condFb; exact rfl; exact rfl; refine wc_skip ?_; refine we_seq ?_; refine wc_exit ?_; refine we_seq_exit ?_; refine we_block_exit ?_
        exact we_cut _ ⟨seq, true, Gt, gc, reps, rfl, by omega, by omega, A, c, req, R, d, vs, css, K3, lk, ltx, lcode, ldata, LD, lcd, hreps, hA, hl1, hl2, hop, (((((((((((hs.front 10 rfl).front 10 rfl).front 10 rfl).front 10 rfl).front 10 rfl).front 10 rfl).front 10 rfl).front 8 rfl).drop 8 rfl).drop 8 rfl).drop 8 rfl)⟩ ⟨rfl, rfl, rfl, rfl, rfl, rfl, rfl, rfl, trivial⟩
      | false =>
        obtain ⟨S2, hS2, hB2, hM2, hH2, hB⟩ := St.lend (H1 := [_]) (H2 := [_, _, _, _, _, _, _, _, _]) hs
        refine wl_call ok_session_Client_Ask (cask_any hS2 (enc := (framed (a.ops.map opB))) (fun w' k => penc_any (hM2 w' k).below (Sat.kp (i := 0) (hH2 w' k) rfl) hol) (by omega) (by omega)) ⟨rfl, rfl, trivial⟩ rfl ?_
        rintro _ _ (⟨h8, rfl, hsx⟩ | ⟨h8, rfl, B, cb, hsx⟩)
        · replace hs := hB _ _ hsx
          clear hsx hB hH2 hM2 hB2 hS2
          dsimp only [List.cons_append, List.nil_append] at hs
          refine wl_mv rfl rfl ?_; apply wl_val; apply opv_extract; exact rfl; exact rfl; exact rfl; apply wl_val; apply opv_extract; exact rfl; exact rfl; exact rfl
          refine ws_var (cs := txW (0, 0)) hs zeroTx sTxn rfl (fun _ => rfl) (by first | rfl | simp [Value.oneCell']) rfl ?_; clear hs; intro g12 _ hs
          unfold txW at hs
          refine wl_as rfl rfl ?_; refine wl_ns ?_; refine wc_seq ?_; refine wc_sr ?_; refine wl_mv rfl rfl ?_; refine wl_ns ?_; apply wc_condFb; exact rfl; exact rfl; refine wc_skip ?_; refine we_seq ?_; refine wc_seq ?_; refine wc_sr ?_; apply wl_val; apply opv_fa; exact fa_Ac6; exact rfl; exact rfl; apply wl_val; apply opv_ldX; exact rfl; exact hs.ar 3 rfl; exact g1_ops; exact rfl; exact rfl
          refine wl_call ok_caissonlaw22_Ops (ops_any hs.bel rO hol) ⟨rfl, trivial⟩ rfl ?_
          rintro _ _ ⟨R6, c6, rfl, hsx⟩
          replace hs := hs.call hsx
          clear hsx
          dsimp only [List.cons_append, List.nil_append] at hs
          skip
          refine wl_call ok_plan_Encode (penc_any hs.bel (hs.kp 0 rfl) hol) ⟨rfl, trivial⟩ rfl ?_
          rintro _ _ ⟨E6, e6, rfl, hsx⟩
          replace hs := hs.call hsx
          clear hsx
          dsimp only [List.cons_append, List.nil_append] at hs
          apply wl_val; apply opv_len; exact rfl; exact tyB.sl; exact rfl; refine wl_bin rfl rfl bin_gtr rfl ?_; refine wl_ns ?_; apply wc_decT; exact rfl; omega; refine wc_seq ?_; refine wc_sr ?_; refine wl_mv rfl rfl ?_; refine wl_bin rfl rfl bin_neq rfl ?_; refine wl_ns ?_; apply wc_condFb; exact rfl; exact rfl; refine wc_skip ?_; refine we_seq ?_; refine wc_exit ?_; refine we_seq_exit ?_; refine we_block_exit ?_
          have h8' : (8000 : Int) < ((framed (a.ops.map opB)).length : Int) := by omega
          skip
          exact we_cut _ ⟨seq, false, Gt, gc, reps, rfl, by omega, by omega, A, c, req, R, d, vs, css, K3, lk, ltx, lcode, ldata, LD, lcd, hreps, hA, hl1, hl2, hop, (((((((((((((hs.front 12 rfl).front 12 rfl).front 12 rfl).front 12 rfl).front 12 rfl).front 12 rfl).front 12 rfl).front 10 rfl).drop 8 rfl).drop 8 rfl).drop 8 rfl).drop 8 rfl).drop 8 rfl)⟩ ⟨rfl, rfl, rfl, rfl, rfl, rfl, rfl, rfl, trivial⟩
        · replace hs := hB _ _ hsx
          clear hsx hB hH2 hM2 hB2 hS2
          dsimp only [List.cons_append, List.nil_append] at hs
          refine wl_mv rfl rfl ?_; apply wl_val; apply opv_extract; exact rfl; exact rfl; exact rfl; apply wl_val; apply opv_extract; exact rfl; exact rfl; exact rfl
          refine ws_var (cs := txW (id, seq + 1)) hs zeroTx sTxn rfl (fun _ => rfl) (by first | rfl | simp [Value.oneCell']) rfl ?_; clear hs; intro g12 _ hs
          unfold txW at hs
          refine wl_as rfl rfl ?_; refine wl_ns ?_; refine wc_seq ?_; refine wc_sr ?_; refine wl_mv rfl rfl ?_; refine wl_ns ?_; apply wc_condFb; exact rfl; exact rfl; refine wc_skip ?_; refine we_seq ?_; refine wc_seq ?_; refine wc_sr ?_; apply wl_val; apply opv_fa; exact fa_Ac6; exact rfl; exact rfl; apply wl_val; apply opv_ldX; exact rfl; exact hs.ar 4 rfl; exact g1_ops; exact rfl; exact rfl
          refine wl_call ok_caissonlaw22_Ops (ops_any hs.bel rO hol) ⟨rfl, trivial⟩ rfl ?_
          rintro _ _ ⟨R6, c6, rfl, hsx⟩
          replace hs := hs.call hsx
          clear hsx
          dsimp only [List.cons_append, List.nil_append] at hs
          skip
          refine wl_call ok_plan_Encode (penc_any hs.bel (hs.kp 0 rfl) hol) ⟨rfl, trivial⟩ rfl ?_
          rintro _ _ ⟨E6, e6, rfl, hsx⟩
          replace hs := hs.call hsx
          clear hsx
          dsimp only [List.cons_append, List.nil_append] at hs
          apply wl_val; apply opv_len; exact rfl; exact tyB.sl; exact rfl; refine wl_bin rfl rfl bin_gtr rfl ?_; refine wl_ns ?_; apply wc_decF; exact rfl; omega; refine wc_skip ?_; refine we_seq ?_; refine wc_sr ?_; refine wl_mv rfl rfl ?_
          have h8' : ¬ (8000 : Int) < ((framed (a.ops.map opB)).length : Int) := by omega
          have hw : IntKind.u64.wrap ((seq : Int) + 1) = ((seq + 1 : Nat) : Int) := by rw [IntWalk.u64_in _ (by omega)]; omega
          skip
          refine wl_bin rfl rfl (bin_add.to (congrArg (Value.int .u64) hw)) rfl ?_
          refine wl_as rfl rfl ?_; refine wl_as rfl rfl ?_; refine wl_ns ?_; refine wc_seq ?_; refine wc_sr ?_; refine wl_mv rfl rfl ?_; refine wl_bin rfl rfl bin_neq rfl ?_; refine wl_mv rfl rfl ?_; apply wl_take; exact rfl; exact rfl; exact rfl; refine bF ?_; (with_reducible exact nne); apply wl_val; apply opv_fa; exact fa_Tx0; exact rfl; exact rfl; apply wl_take; exact rfl; exact rfl; exact rfl; refine bF ?_; (with_reducible exact nne); apply wl_val; apply opv_ldX; exact rfl; exact hs.ar 2 rfl; exact g1_u64; exact rfl; exact rfl; apply wl_take; exact rfl; exact rfl; exact rfl; refine bF ?_; (with_reducible exact nne); refine wl_mv rfl rfl ?_; apply wl_take; exact rfl; exact rfl; exact rfl; refine bF ?_; (with_reducible exact nne); refine wl_bin rfl rfl bin_neq rfl ?_; apply wl_val; apply opv_pickF; exact rfl; refine bF ?_; (with_reducible exact nne); exact rfl; exact rfl; refine wl_mv rfl rfl ?_; apply wl_take; exact rfl; exact rfl; exact rfl; refine bF ?_; (with_reducible exact nne); apply wl_val; apply opv_fa; exact fa_Tx1; exact rfl; exact rfl; apply wl_take; exact rfl; exact rfl; exact rfl; refine bF ?_; (with_reducible exact nne); apply wl_val; apply opv_ldX; exact rfl; exact hs.ar 2 rfl; exact g1_u64; exact rfl; exact rfl; apply wl_take; exact rfl; exact rfl; exact rfl; refine bF ?_; (with_reducible exact nne); refine wl_mv rfl rfl ?_; apply wl_take; exact rfl; exact rfl; exact rfl; refine bF ?_; (with_reducible exact nne); refine wl_bin rfl rfl bin_neq rfl ?_; apply wl_val; apply opv_pickF; exact rfl; refine bF ?_; (with_reducible exact nne); exact rfl; exact rfl; refine wl_ns ?_; apply wc_decF; exact rfl; (with_reducible exact nne); refine wc_skip ?_; refine we_seq ?_; refine wc_sr ?_; refine wl_mv rfl rfl ?_; apply wl_val; apply opv_fa; exact fa_Ac1; exact rfl; exact rfl; apply wl_val; apply opv_ldX; exact rfl; exact hs.ar 6 rfl; exact g1_int; exact rfl; exact rfl
          refine wl_call ok_session_Client_Call (ccall_any (hs.ar 3 rfl) (hs.ow 4 rfl).rd h8) ⟨rfl, rfl, trivial⟩ rfl ?_
          rintro _ _ ⟨D, cd, rfl, hsx⟩
          replace hs := hs.call hsx
          clear hsx
          dsimp only [List.cons_append, List.nil_append] at hs
          refine wl_mv rfl rfl ?_; apply wl_val; apply opv_extract; exact rfl; exact rfl; exact rfl; apply wl_val; apply opv_extract; exact rfl; exact rfl; exact rfl
          refine ws_var (cs := (pkV ⟨4, 0, a.to, 0, 0, 0, 0, (id, seq + 1), 0, zMsg, zRes, (framed (a.ops.map opB))⟩ (msV zMsg none 0 none 0) (reV zRes none 0 none 0 none 0) D cd)) hs zeroPk sPk rfl (fun _ => rfl) (by first | rfl | simp [Value.oneCell']) rfl ?_; clear hs; intro g14 _ hs
          refine wl_as rfl rfl ?_; refine wl_ns ?_; refine wc_seq ?_
          replace hs := hs.below (Below.refl _ _).drew
          refine wc_held (fun w' => Ar w' g14 42 (pkV ⟨4, 0, a.to, 0, 0, 0, 0, (id, seq + 1), 0, zMsg, zRes, (framed (a.ops.map opB))⟩ (msV zMsg none 0 none 0) (reV zRes none 0 none 0 none 0) D cd) ∧ Ar w' g11 45 [.int .i64 a.kind, .int .i64 a.to, .int .i64 a.code, .int .i64 a.err, .int .i64 a.at_, .int .u64 (a.seq : Int), .slice O a.ops.length oc, .slice J a.junk.length jc]) mixed ?_
          have hS := And.intro (hs.ar 0 rfl) (hs.ar 8 rfl)
          apply wh_takeH 0; exact rfl; intro _ hw_; apply opv_move; exact rfl; exact rfl; kernel_rfl; exact hS; apply wh_takeH 1; exact rfl; intro _ hw_; apply opv_not; exact rfl; exact rfl; kernel_rfl; exact hS; apply wh_takeH 2; exact rfl; intro _ hw_; apply opv_move; exact rfl; exact rfl; kernel_rfl; exact hS; apply wh_takeGH 3; exact rfl; exact rfl; exact rfl; exact rfl; exact Bool.not_true; intro _ hw_; apply opv_fa; exact fa_Pk11; exact rfl; exact rfl; kernel_rfl; exact hS; apply wh_takeGH 4; exact rfl; exact rfl; exact rfl; exact rfl; exact Bool.not_true; intro _ hw_; apply opv_ldX; exact rfl; exact hw_.1; exact g1_by; exact rfl; exact rfl; kernel_rfl; exact hS; apply wh_takeGH 5; exact rfl; exact rfl; exact rfl; exact rfl; exact Bool.not_true; intro _ hw_; apply opv_fa; exact fa_Ac6; exact rfl; exact rfl; kernel_rfl; exact hS; apply wh_takeGH 6; exact rfl; exact rfl; exact rfl; exact rfl; exact Bool.not_true; intro _ hw_; apply opv_ldX; exact rfl; exact hw_.2; exact g1_ops; exact rfl; exact rfl; kernel_rfl; exact hS
          clear hS
          refine wh_one 7 (o := ⟨_, _, _, _, _, _⟩) (by kernel_rfl) rfl ?_
          apply wl_take; exact rfl; exact rfl; exact rfl; exact Bool.not_true
          refine wl_call ok_caissonlaw22_Ops (ops_any hs.bel rO hol) ⟨rfl, trivial⟩ rfl ?_
          rintro _ _ ⟨R7, c7, rfl, hsx⟩
          replace hs := hs.call hsx
          clear hsx
          dsimp only [List.cons_append, List.nil_append] at hs
          refine wl_nil ?_
          refine we_held ⟨hs.ar 1 rfl, hs.ar 9 rfl⟩ ?_
          refine wh_one 8 (o := ⟨_, _, _, _, _, _⟩) (by kernel_rfl) rfl ?_
          apply wl_take; exact rfl; exact rfl; exact rfl; exact Bool.not_true
          refine wl_call ok_plan_Encode (penc_any hs.bel (hs.kp 0 rfl) hol) ⟨rfl, trivial⟩ rfl ?_
          rintro _ _ ⟨E7, e7, rfl, hsx⟩
          replace hs := hs.call hsx
          clear hsx
          dsimp only [List.cons_append, List.nil_append] at hs
          refine wl_nil ?_
          refine we_held ⟨hs.ar 2 rfl, hs.ar 10 rfl⟩ ?_
          refine wh_one 9 (o := ⟨_, _, _, _, _, _⟩) (by kernel_rfl) rfl ?_
          apply wl_take; exact rfl; exact rfl; exact rfl; exact Bool.not_true
          refine wl_call ok_caissonref01_Equal (equal_yes rfl (hs.ow 3 rfl).rd (hs.ow 0 rfl).rd rfl rfl (by omega)) ⟨rfl, rfl, trivial⟩ rfl ?_
          rintro _ _ ⟨rfl, hbx⟩
          replace hs := hs.below hbx
          clear hbx
          refine wl_nil ?_
          refine we_held ⟨hs.ar 2 rfl, hs.ar 10 rfl⟩ ?_
          refine wh_one 10 (o := ⟨_, _, _, _, _, _⟩) (by kernel_rfl) rfl ?_
          apply wl_take; exact rfl; exact rfl; exact rfl; exact Bool.not_true; apply wl_val; apply opv_not; exact rfl; exact rfl; refine wl_nil ?_
          refine we_held ⟨hs.ar 2 rfl, hs.ar 10 rfl⟩ ?_
          refine wh_one 11 (o := ⟨_, _, _, _, _, _⟩) (by kernel_rfl) rfl ?_
          apply wl_val; apply opv_pickF; exact rfl; exact Bool.not_true; exact rfl; exact rfl; refine wl_nil ?_
          refine we_held ⟨hs.ar 2 rfl, hs.ar 10 rfl⟩ ?_
          refine wh_done (by kernel_rfl) ?_
          refine we_seq ?_; apply wc_condFb; exact rfl; exact Bool.not_true; refine wc_skip ?_; refine we_block_norm ?_
          exact we_cut _ ⟨(seq + 1), true, Gt, gc, reps, rfl, by omega, by omega, B, cb, (framed (a.ops.map opB)), R, d, vs, css, K3, lk, ltx, lcode, ldata, LD, lcd, hreps, hA, hl1, hl2, (fun _ => h8), ((((((((((((((((((hs.front 17 rfl).front 17 rfl).front 17 rfl).front 17 rfl).front 17 rfl).front 17 rfl).front 14 rfl).front 14 rfl).drop 8 rfl).drop 8 rfl).drop 8 rfl).drop 8 rfl).drop 8 rfl).drop 8 rfl).drop 8 rfl).drop 8 rfl).drop 8 rfl).drop 8 rfl)⟩ ⟨rfl, rfl, rfl, rfl, rfl, rfl, rfl, rfl, trivial⟩
    by_cases k2 : a.kind = 2
    · cases op with
      | false =>
        refine wc_sr ?_; apply wl_val; apply opv_fa; exact fa_Ac0; exact rfl; exact rfl; apply wl_val; apply opv_ldX; exact rfl; exact hs.ar 0 rfl; exact g1_int; exact rfl; exact rfl; refine wl_ns ?_; refine wc_block ?_; refine wc_sr ?_; refine wl_bin rfl rfl bin_eql rfl ?_; refine wl_as rfl rfl ?_; refine wl_ns ?_; apply wc_decF; exact rfl; (with_reducible assumption); refine wc_sr ?_; refine wl_bin rfl rfl bin_eql rfl ?_; refine wl_as rfl rfl ?_; refine wl_ns ?_; apply wc_decT; exact rfl; (with_reducible assumption); refine wc_sr ?_; refine wl_mv rfl rfl ?_; apply wl_val; apply opv_fa; exact fa_Ac1; exact rfl; exact rfl; apply wl_val; apply opv_ldX; exact rfl; exact hs.ar 0 rfl; exact g1_int; exact rfl; exact rfl
        refine wl_call ok_session_Client_Call (ccall_no (hs.ar 1 rfl)) ⟨rfl, rfl, trivial⟩ rfl ?_
        rintro _ _ ⟨rfl, hbx⟩
        replace hs := hs.below hbx
        clear hbx
        refine wl_mv rfl rfl ?_; apply wl_val; apply opv_extract; exact rfl; exact rfl; exact rfl; apply wl_val; apply opv_extract; exact rfl; exact rfl; exact rfl
        refine ws_var (cs := pkZ zPk) hs zeroPk sPk rfl (fun _ => rfl) (by first | rfl | simp [Value.oneCell']) rfl ?_; clear hs; intro g16 _ hs
        unfold pkZ zPk at hs
        dsimp only at hs
        refine wl_as rfl rfl ?_; refine wl_ns ?_; refine wc_sr ?_; refine wl_mv rfl rfl ?_; refine wl_mv rfl rfl ?_; apply wl_val; apply opv_bin; exact rfl; exact rfl; exact bin_neqBb tyBool24; exact rfl; refine wl_mv rfl rfl ?_; apply wl_take; exact rfl; exact rfl; exact rfl; refine bF ?_; (with_reducible exact nne); refine wl_mv rfl rfl ?_; apply wl_take; exact rfl; exact rfl; exact rfl; refine bF ?_; (with_reducible exact nne); refine wl_mv rfl rfl ?_; apply wl_skip; exact rfl; exact rfl; exact rfl; exact bR2; exact rfl; apply wl_skip; exact rfl; exact rfl; exact rfl; exact bR2; exact rfl; apply wl_skip; exact rfl; exact rfl; exact rfl; exact bR2; exact rfl; apply wl_skip; exact rfl; exact rfl; exact rfl; exact bR2; exact rfl; apply wl_skipU; exact rfl; exact rfl; exact rfl; exact rfl; apply wl_skipU; exact rfl; exact rfl; exact rfl; exact rfl; apply wl_skipU; exact rfl; exact rfl; exact rfl; exact rfl; apply wl_skipU; exact rfl; exact rfl; exact rfl; exact rfl; apply wl_skipU; exact rfl; exact rfl; exact rfl; exact rfl; apply wl_skip; exact rfl; exact rfl; exact rfl; exact bR2; exact rfl; apply wl_skip; exact rfl; exact rfl; exact rfl; exact bR2; exact rfl; apply wl_skipU; exact rfl; exact rfl; exact rfl; exact rfl; apply wl_skipU; exact rfl; exact rfl; exact rfl; exact rfl; apply wl_skipU; exact rfl; exact rfl; exact rfl; exact rfl; apply wl_skipU; exact rfl; exact rfl; exact rfl; exact rfl; apply wl_skipU; exact rfl; exact rfl; exact rfl; exact rfl; apply wl_skip; exact rfl; exact rfl; exact rfl; exact bR2; exact rfl; apply wl_skip; exact rfl; exact rfl; exact rfl; exact bR2; exact rfl; apply wl_skipU; exact rfl; exact rfl; exact rfl; exact rfl; apply wl_skipU; exact rfl; exact rfl; exact rfl; exact rfl; apply wl_skipU; exact rfl; exact rfl; exact rfl; exact rfl; apply wl_skipU; exact rfl; exact rfl; exact rfl; exact rfl; apply wl_skipU; exact rfl; exact rfl; exact rfl; exact rfl; apply wl_skip; exact rfl; exact rfl; exact rfl; exact bR2; exact rfl; apply wl_take; exact rfl; exact rfl; exact rfl; refine bF ?_; (with_reducible exact nne); apply wl_val; apply opv_pickF; exact rfl; exact rfl; exact rfl; exact rfl; apply wl_val; apply opv_pickF; exact rfl; refine bF ?_; (with_reducible exact nne); exact rfl; exact rfl; refine wl_ns ?_; apply wc_condFb; exact rfl; exact rfl; refine wc_skip ?_; refine we_block_norm ?_
        exact we_cut _ ⟨seq, false, Gt, gc, reps, rfl, by omega, by omega, A, c, req, R, d, vs, css, K3, lk, ltx, lcode, ldata, LD, lcd, hreps, hA, hl1, hl2, hop, ((((((((((hs.front 9 rfl).front 9 rfl).front 9 rfl).front 9 rfl).front 9 rfl).front 9 rfl).front 9 rfl).front 9 rfl).drop 8 rfl).drop 8 rfl)⟩ ⟨rfl, rfl, rfl, rfl, rfl, rfl, rfl, rfl, trivial⟩
      | true =>
        refine wc_sr ?_; apply wl_val; apply opv_fa; exact fa_Ac0; exact rfl; exact rfl; apply wl_val; apply opv_ldX; exact rfl; exact hs.ar 0 rfl; exact g1_int; exact rfl; exact rfl; refine wl_ns ?_; refine wc_block ?_; refine wc_sr ?_; refine wl_bin rfl rfl bin_eql rfl ?_; refine wl_as rfl rfl ?_; refine wl_ns ?_; apply wc_decF; exact rfl; (with_reducible assumption); refine wc_sr ?_; refine wl_bin rfl rfl bin_eql rfl ?_; refine wl_as rfl rfl ?_; refine wl_ns ?_; apply wc_decT; exact rfl; (with_reducible assumption); refine wc_sr ?_; refine wl_mv rfl rfl ?_; apply wl_val; apply opv_fa; exact fa_Ac1; exact rfl; exact rfl; apply wl_val; apply opv_ldX; exact rfl; exact hs.ar 0 rfl; exact g1_int; exact rfl; exact rfl
        refine wl_call ok_session_Client_Call (ccall_any (hs.ar 1 rfl) (hs.ow 2 rfl).rd (hop rfl)) ⟨rfl, rfl, trivial⟩ rfl ?_
        rintro _ _ ⟨D, cd, rfl, hsx⟩
        replace hs := hs.call hsx
        clear hsx
        dsimp only [List.cons_append, List.nil_append] at hs
        refine wl_mv rfl rfl ?_; apply wl_val; apply opv_extract; exact rfl; exact rfl; exact rfl; apply wl_val; apply opv_extract; exact rfl; exact rfl; exact rfl
        refine ws_var (cs := pkV ⟨4, 0, a.to, 0, 0, 0, 0, (id, seq), 0, zMsg, zRes, req⟩ (msV zMsg none 0 none 0) (reV zRes none 0 none 0 none 0) D cd) hs zeroPk sPk rfl (fun _ => rfl) (by first | rfl | simp [Value.oneCell']) rfl ?_; clear hs; intro g16 _ hs
        unfold pkV msV reV zMsg zRes at hs
        dsimp only [List.cons_append, List.nil_append] at hs
        refine wl_as rfl rfl ?_; refine wl_ns ?_; refine wc_sr ?_; refine wl_mv rfl rfl ?_; refine wl_mv rfl rfl ?_; apply wl_val; apply opv_bin; exact rfl; exact rfl; exact bin_neqBb tyBool24; exact rfl; refine wl_mv rfl rfl ?_; apply wl_take; exact rfl; exact rfl; exact rfl; refine bF ?_; (with_reducible exact nne); refine wl_mv rfl rfl ?_; apply wl_take; exact rfl; exact rfl; exact rfl; refine bF ?_; (with_reducible exact nne); refine wl_mv rfl rfl ?_; apply wl_take; exact rfl; exact rfl; exact rfl; exact rfl; apply wl_val; apply opv_fa; exact fa_Pk0; exact rfl; exact rfl; apply wl_take; exact rfl; exact rfl; exact rfl; exact rfl; apply wl_val; apply opv_ldX; exact rfl; exact hs.ar 0 rfl; exact g1_int; exact rfl; exact rfl; apply wl_take; exact rfl; exact rfl; exact rfl; exact rfl; refine wl_bin rfl rfl bin_neq rfl ?_; apply wl_take; exact rfl; exact rfl; exact rfl; exact rfl; refine wl_mv rfl rfl ?_; apply wl_take; exact rfl; exact rfl; exact rfl; refine bF ?_; (with_reducible exact nne); apply wl_val; apply opv_fa; exact fa_Pk2; exact rfl; exact rfl; apply wl_take; exact rfl; exact rfl; exact rfl; refine bF ?_; (with_reducible exact nne); apply wl_val; apply opv_ldX; exact rfl; exact hs.ar 0 rfl; exact g1_int; exact rfl; exact rfl; apply wl_take; exact rfl; exact rfl; exact rfl; refine bF ?_; (with_reducible exact nne); apply wl_val; apply opv_fa; exact fa_Ac1; exact rfl; exact rfl; apply wl_take; exact rfl; exact rfl; exact rfl; refine bF ?_; (with_reducible exact nne); apply wl_val; apply opv_ldX; exact rfl; exact hs.ar 2 rfl; exact g1_int; exact rfl; exact rfl; apply wl_take; exact rfl; exact rfl; exact rfl; refine bF ?_; (with_reducible exact nne); refine wl_bin rfl rfl bin_neq rfl ?_; apply wl_take; exact rfl; exact rfl; exact rfl; exact rfl; apply wl_val; apply opv_pickF; exact rfl; refine bF ?_; (with_reducible exact nne); exact rfl; exact rfl; apply wl_take; exact rfl; exact rfl; exact rfl; exact rfl; refine wl_mv rfl rfl ?_; apply wl_take; exact rfl; exact rfl; exact rfl; refine bF ?_; (with_reducible exact nne); apply wl_val; apply opv_fa; exact fa_Pk7; exact rfl; exact rfl; apply wl_take; exact rfl; exact rfl; exact rfl; refine bF ?_; (with_reducible exact nne); apply wl_val; apply opv_fa; exact fa_Tx0; exact rfl; exact rfl; apply wl_take; exact rfl; exact rfl; exact rfl; refine bF ?_; (with_reducible exact nne); apply wl_val; apply opv_ldX; exact rfl; exact hs.ar 0 rfl; exact g1_u64; exact rfl; exact rfl; apply wl_take; exact rfl; exact rfl; exact rfl; refine bF ?_; (with_reducible exact nne); refine wl_mv rfl rfl ?_; apply wl_take; exact rfl; exact rfl; exact rfl; refine bF ?_; (with_reducible exact nne); refine wl_bin rfl rfl bin_neq rfl ?_; apply wl_take; exact rfl; exact rfl; exact rfl; exact rfl; apply wl_val; apply opv_pickF; exact rfl; refine bF ?_; (with_reducible exact nne); exact rfl; exact rfl; apply wl_take; exact rfl; exact rfl; exact rfl; exact rfl; refine wl_mv rfl rfl ?_; apply wl_take; exact rfl; exact rfl; exact rfl; refine bF ?_; (with_reducible exact nne); apply wl_val; apply opv_fa; exact fa_Pk7; exact rfl; exact rfl; apply wl_take; exact rfl; exact rfl; exact rfl; refine bF ?_; (with_reducible exact nne); apply wl_val; apply opv_fa; exact fa_Tx1; exact rfl; exact rfl; apply wl_take; exact rfl; exact rfl; exact rfl; refine bF ?_; (with_reducible exact nne); apply wl_val; apply opv_ldX; exact rfl; exact hs.ar 0 rfl; exact g1_u64; exact rfl; exact rfl; apply wl_take; exact rfl; exact rfl; exact rfl; refine bF ?_; (with_reducible exact nne); refine wl_mv rfl rfl ?_; apply wl_take; exact rfl; exact rfl; exact rfl; refine bF ?_; (with_reducible exact nne); refine wl_bin rfl rfl bin_neq rfl ?_; apply wl_take; exact rfl; exact rfl; exact rfl; exact rfl; apply wl_val; apply opv_pickF; exact rfl; refine bF ?_; (with_reducible exact nne); exact rfl; exact rfl; apply wl_take; exact rfl; exact rfl; exact rfl; refine bF ?_; (with_reducible exact nne); apply wl_val; apply opv_pickT; exact rfl; exact rfl; exact rfl; exact rfl; apply wl_val; apply opv_pickF; exact rfl; refine bF ?_; (with_reducible exact nne); exact rfl; exact rfl; refine wl_ns ?_; apply wc_decF; exact rfl; (with_reducible exact nne); refine wc_skip ?_; refine we_block_norm ?_
        exact we_cut _ ⟨seq, true, Gt, gc, reps, rfl, by omega, by omega, A, c, req, R, d, vs, css, K3, lk, ltx, lcode, ldata, LD, lcd, hreps, hA, hl1, hl2, hop, (((((((((((hs.front 10 rfl).front 10 rfl).front 10 rfl).front 10 rfl).front 10 rfl).front 10 rfl).front 10 rfl).front 10 rfl).drop 8 rfl).drop 8 rfl).drop 8 rfl)⟩ ⟨rfl, rfl, rfl, rfl, rfl, rfl, rfl, rfl, trivial⟩
    by_cases n3 : a.kind = 3
    · have n4 : ¬ a.kind = 4 := by omega
      have n5 : ¬ a.kind = 5 := by omega
      refine wc_sr ?_; apply wl_val; apply opv_fa; exact fa_Ac0; exact rfl; exact rfl; apply wl_val; apply opv_ldX; exact rfl; exact hs.ar 0 rfl; exact g1_int; exact rfl; exact rfl; refine wl_ns ?_; refine wc_block ?_; refine wc_sr ?_; refine wl_bin rfl rfl bin_eql rfl ?_; refine wl_as rfl rfl ?_; refine wl_ns ?_; apply wc_decF; exact rfl; (with_reducible assumption); refine wc_sr ?_; refine wl_bin rfl rfl bin_eql rfl ?_; refine wl_as rfl rfl ?_; refine wl_ns ?_; apply wc_decF; exact rfl; (with_reducible assumption); refine wc_seq ?_; refine wc_sr ?_; refine wl_bin rfl rfl bin_eql rfl ?_; refine wl_as rfl rfl ?_; refine wl_ns ?_; apply wc_decT; exact rfl; (with_reducible assumption); refine wc_skip ?_; refine we_seq ?_; apply wc_decT; exact rfl; (with_reducible assumption); refine wc_seq ?_
      refine wc_cutE (fun L w' => ∃ (g18 : Nat) (X : Option Addr) (x : Nat), L = [(0, .int .u64 (id : Int)), (1, .slice (some ⟨b0, o0, none⟩) acts.length ac), (5, .pointer (some ⟨g, 0, none⟩)), (6, .int .u64 (seq : Int)), (7, .bool op), (8, .slice Gt reps.length gc), (9, .pointer (some ⟨g9, 0, none⟩)), (10, .int .i64 (i : Int)), (11, .pointer (some ⟨g11, 0, none⟩)), (18, .pointer (some ⟨g18, 0, none⟩))] ∧ St NoB w w' ([.blk g18 42 (pkYV 5 (id, a.seq) a.code (rbB a.err a.at_) X x), .ow 5 X (rbB a.err a.at_).length x (bvs (rbB a.err a.at_)), .blk g11 45 [.int .i64 a.kind, .int .i64 a.to, .int .i64 a.code, .int .i64 a.err, .int .i64 a.at_, .int .u64 (a.seq : Int), .slice O a.ops.length oc, .slice J a.junk.length jc], .blk g 98 (clV id seq A req.length c op R reps.length d), .ow 5 A req.length c (bvs req), .ow 32 R reps.length d vs, .ck (elC w vs reps), .rg 3 64 Gt gc (css.map rawEl), .ck (kp K3), .blk g9 42 (pkYV lk ltx lcode ldata LD lcd), .ck (kp fun w' => RdB w' LD ldata)]) ) ?_ ?_
      · refine wc_heldG (fun w' => Ar w' g11 45 [.int .i64 a.kind, .int .i64 a.to, .int .i64 a.code, .int .i64 a.err, .int .i64 a.at_, .int .u64 (a.seq : Int), .slice O a.ops.length oc, .slice J a.junk.length jc]) 14 mixed ?_
        replace hs := hs.below (Below.refl _ _).drew
        have hS := hs.ar 0 rfl
        apply wm_take 0; exact rfl; intro _ hw_; apply opv_move; exact rfl; exact rfl; kernel_rfl; exact hS; apply wm_take 1; exact rfl; intro _ hw_; apply opv_fa; exact fa_Ac5; exact rfl; exact rfl; kernel_rfl; exact hS; apply wm_take 2; exact rfl; intro _ hw_; apply opv_ldX; exact rfl; assumption; exact g1_u64; exact rfl; exact rfl; kernel_rfl; exact hS
        refine wm_takeP 3 rfl (fun _ => opv_build (vs := [(0, .int .u64 (id : Int)), (1, .int .u64 (a.seq : Int))]) (cs := txW (id, a.seq)) ⟨rfl, rfl, rfl, rfl, trivial⟩ (by kernel_rfl)) rfl (by kernel_rfl) (fun _ => hS) ?_
        apply wm_take 4; exact rfl; intro _ hw_; apply opv_fa; exact fa_Ac2; exact rfl; exact rfl; kernel_rfl; exact hS; apply wm_take 5; exact rfl; intro _ hw_; apply opv_ldX; exact rfl; assumption; exact g1_int; exact rfl; exact rfl; kernel_rfl; exact hS; apply wm_take 6; exact rfl; intro _ hw_; apply opv_fa; exact fa_Ac3; exact rfl; exact rfl; kernel_rfl; exact hS; apply wm_take 7; exact rfl; intro _ hw_; apply opv_ldX; exact rfl; assumption; exact g1_int; exact rfl; exact rfl; kernel_rfl; exact hS; apply wm_take 8; exact rfl; intro _ hw_; apply opv_fa; exact fa_Ac4; exact rfl; exact rfl; kernel_rfl; exact hS; apply wm_take 9; exact rfl; intro _ hw_; apply opv_ldX; exact rfl; assumption; exact g1_int; exact rfl; exact rfl; kernel_rfl; exact hS
        refine wm_takeP 10 rfl (fun _ => opv_build (vs := [(0, .int .i64 a.err), (1, .int .i64 a.at_)]) (cs := rpV ⟨a.err, a.at_, []⟩ none 0) ⟨rfl, rfl, rfl, rfl, trivial⟩ (by kernel_rfl)) rfl (by kernel_rfl) (fun _ => hS) ?_
        clear hS
        refine wm_two 11 13 (by kernel_rfl) rfl rfl ?_ ?_ <;> dsimp only [List.getElem_toArray, List.getElem_cons_succ, List.getElem_cons_zero]
        · refine wl_call ok_plan_Reply_Bytes (rbytes_any a.err a.at_ _) ⟨rfl, trivial⟩ rfl ?_
          rintro _ _ ⟨X11, x11, rfl, hsx⟩
          replace hs := hs.call hsx
          clear hsx
          dsimp only [List.cons_append, List.nil_append] at hs
          refine wl_nil ?_
          refine we_heldM (fun _ => hs.ar 1 rfl) ?_
          have hS := hs.ar 1 rfl
          refine wm_takeP 12 rfl (fun _ => opv_build (vs := [(0, .int .i64 5), (7, .agg (txW (id, a.seq)).toArray), (8, .int .i64 a.code), (11, .slice X11 (rbB a.err a.at_).length x11)]) (cs := pkYV 5 (id, a.seq) a.code (rbB a.err a.at_) X11 x11) ⟨rfl, rfl, rfl, rfl, rfl, rfl, rfl, rfl, trivial⟩ (by kernel_rfl)) rfl (by kernel_rfl) (fun _ => hS) ?_
          clear hS
          refine wm_one 13 (by kernel_rfl) rfl ?_; dsimp only [List.getElem_toArray, List.getElem_cons_succ, List.getElem_cons_zero]
          refine ws_new hs zeroPk rfl ?_; clear hs; intro g18 _ hs
          refine wl_nil ?_
          refine we_heldM (fun _ => hs.ar 2 rfl) ?_
          refine wm_one 14 (by kernel_rfl) rfl ?_; dsimp only [List.getElem_toArray, List.getElem_cons_succ, List.getElem_cons_zero]
          apply ws_stS hs 0; exact rfl; exact rfl; exact rfl; exact sPk; exact rfl; exact rfl; clear hs; intro _ hs; dsimp only [setC] at hs; refine wl_nil ?_
          refine we_heldM (fun h => absurd h (by decide)) ?_
          refine wm_done (by kernel_rfl) ?_
          exact we_cut _ ⟨g18, X11, x11, rfl, (((((((((((hs.front 10 rfl).front 10 rfl).front 10 rfl).front 10 rfl).front 10 rfl).front 10 rfl).front 10 rfl).front 10 rfl).front 10 rfl).front 10 rfl).front 10 rfl)⟩ ⟨rfl, rfl, rfl, rfl, rfl, rfl, rfl, rfl, rfl, rfl, trivial⟩
        · refine ws_new hs zeroPk rfl ?_; clear hs; intro g18 _ hs
          refine wl_nil ?_
          refine we_heldM (fun _ => hs.ar 1 rfl) ?_
          refine wm_one 11 (by kernel_rfl) rfl ?_; dsimp only [List.getElem_toArray, List.getElem_cons_succ, List.getElem_cons_zero]
          refine wl_call ok_plan_Reply_Bytes (rbytes_any a.err a.at_ _) ⟨rfl, trivial⟩ rfl ?_
          rintro _ _ ⟨X11, x11, rfl, hsx⟩
          replace hs := hs.call hsx
          clear hsx
          dsimp only [List.cons_append, List.nil_append] at hs
          refine wl_nil ?_
          refine we_heldM (fun _ => hs.ar 2 rfl) ?_
          have hS := hs.ar 2 rfl
          refine wm_takeP 12 rfl (fun _ => opv_build (vs := [(0, .int .i64 5), (7, .agg (txW (id, a.seq)).toArray), (8, .int .i64 a.code), (11, .slice X11 (rbB a.err a.at_).length x11)]) (cs := pkYV 5 (id, a.seq) a.code (rbB a.err a.at_) X11 x11) ⟨rfl, rfl, rfl, rfl, rfl, rfl, rfl, rfl, trivial⟩ (by kernel_rfl)) rfl (by kernel_rfl) (fun _ => hS) ?_
          clear hS
          refine wm_one 14 (by kernel_rfl) rfl ?_; dsimp only [List.getElem_toArray, List.getElem_cons_succ, List.getElem_cons_zero]
          apply ws_stS hs 1; exact rfl; exact rfl; exact rfl; exact sPk; exact rfl; exact rfl; clear hs; intro _ hs; dsimp only [setC] at hs; refine wl_nil ?_
          refine we_heldM (fun h => absurd h (by decide)) ?_
          refine wm_done (by kernel_rfl) ?_
          exact we_cut _ ⟨g18, X11, x11, rfl, (((((((((((hs.front 10 rfl).front 10 rfl).front 10 rfl).front 10 rfl).front 10 rfl).front 10 rfl).front 10 rfl).front 10 rfl).front 10 rfl).front 9 rfl).front 10 rfl)⟩ ⟨rfl, rfl, rfl, rfl, rfl, rfl, rfl, rfl, rfl, rfl, trivial⟩
      clear hs
      rintro _ w6 ⟨g18, X, x, rfl, hs⟩
      have hxc := OwB.cap (hs.ow 1 rfl)
      have hrb := rbB_le a.err a.at_
      obtain ⟨pd, hpde⟩ : ∃ pd, rbB a.err a.at_ = pd := ⟨_, rfl⟩
      rw [hpde] at hs hxc hrb
      refine we_seq ?_; refine wc_seq ?_; refine wc_sr ?_; apply wl_val; apply opv_fa; exact fa_Ac0; exact rfl; exact rfl; apply wl_val; apply opv_ldX; exact rfl; exact hs.ar 2 rfl; exact g1_int; exact rfl; exact rfl; refine wl_bin rfl rfl bin_eql rfl ?_; refine wl_ns ?_; apply wc_decF; exact rfl; (with_reducible assumption); refine wc_skip ?_; refine we_seq ?_; refine wc_seq ?_; refine wc_sr ?_; apply wl_val; apply opv_fa; exact fa_Ac0; exact rfl; exact rfl; apply wl_val; apply opv_ldX; exact rfl; exact hs.ar 2 rfl; exact g1_int; exact rfl; exact rfl; refine wl_bin rfl rfl bin_eql rfl ?_; refine wl_ns ?_; apply wc_decF; exact rfl; (with_reducible assumption); refine wc_skip ?_; refine we_seq ?_; refine wc_sr ?_; apply wl_val; apply opv_fa; exact fa_Pk11; exact rfl; exact rfl; apply wl_val; apply opv_ldX; exact rfl; exact hs.ar 0 rfl; exact g1_by; exact rfl; exact rfl
      replace hs := (St.kpOf (K := (fun w' => RdB w' LD ldata ∧ RdB w' X pd)) (H1 := [_, _]) (((((((((((hs.front 9 rfl).front 9 rfl).front 9 rfl).front 9 rfl).front 9 rfl).front 9 rfl).front 9 rfl).front 7 rfl).front 10 rfl).front 9 rfl).drop 10 rfl) fun w S hS => ⟨Sat.kp (i := 1) hS rfl, (sat_ow hS 0 rfl).rd⟩)
      have hpd := hxc
      have hpl : pd.length ≤ 16777216 := by omega
      dsimp only [delC] at hs
      unfold pkYV pkY pkV msV reV zMsg zRes at hs
      dsimp only [List.cons_append, List.nil_append, List.length_nil] at hs
      skip
      obtain ⟨⟨rr, re⟩, hrq⟩ : ∃ q, readRp pd = q := ⟨_, rfl⟩
      have hcall := lread_any (hs.kp 0 rfl).2 rfl hpd (by omega)
      rw [hrq] at hcall
      refine wl_call ok_plan_Read hcall ⟨rfl, trivial⟩ rfl ?_
      clear hcall
      rintro _ _ ⟨E0, ce0, rfl, _, hsx⟩
      replace hs := (hs.call hsx).drop 0 rfl
      clear hsx
      dsimp only [List.cons_append, List.nil_append, delC] at hs
      refine wl_mv rfl rfl ?_; apply wl_val; apply opv_extract; exact rfl; exact rfl; exact rfl; apply wl_val; apply opv_extract; exact rfl; exact rfl; exact rfl
      refine ws_var (cs := rpV rr E0 ce0) hs zeroRp sRp rfl (fun _ => rfl) (by first | rfl | simp [Value.oneCell']) rfl ?_; clear hs; intro g19 _ hs
      refine wl_as rfl rfl ?_
      refine wl_ns ?_
      refine wc_cut (fun L w' => L = [(0, .int .u64 (id : Int)), (1, .slice (some ⟨b0, o0, none⟩) acts.length ac), (5, .pointer (some ⟨g, 0, none⟩)), (6, .int .u64 (seq : Int)), (7, .bool op), (8, .slice Gt reps.length gc), (9, .pointer (some ⟨g9, 0, none⟩)), (10, .int .i64 (i : Int)), (18, .pointer (some ⟨g18, 0, none⟩)), (21, .bool (decide (op = true ∧ (5 : Int) = 5 ∧ (id, a.seq) = (id, seq) ∧ a.code = 0 ∧ re = 0)))] ∧ St NoB w w' [.ck (kp (fun w' => RdB w' LD ldata ∧ RdB w' X pd)), .blk g18 42 (pkYV 5 (id, a.seq) a.code pd X x), .blk g 98 (clV id seq A req.length c op R reps.length d), .ow 5 A req.length c (bvs req), .ow 32 R reps.length d vs, .ck (elC w vs reps), .rg 3 64 Gt gc (css.map rawEl), .ck (kp K3), .blk g9 42 (pkYV lk ltx lcode ldata LD lcd)]) ?_ ?_
      · cases op with
        | false =>
          have hW : ¬ (false = true ∧ (5 : Int) = 5 ∧ (id, a.seq) = (id, seq) ∧ a.code = 0 ∧ re = 0) := fun z => absurd z.1 (by decide)
          refine wc_region ?_; refine wl_mv rfl rfl ?_; refine wl_mv rfl rfl ?_; apply wl_skip; exact rfl; exact rfl; exact rfl; exact bR2; exact rfl; apply wl_skip; exact rfl; exact rfl; exact rfl; exact bR2; exact rfl; apply wl_skip; exact rfl; exact rfl; exact rfl; exact bR2; exact rfl; apply wl_val; apply opv_pickF; exact rfl; exact rfl; exact rfl; exact rfl; refine wl_mv rfl rfl ?_; apply wl_skip; exact rfl; exact rfl; exact rfl; exact bR2; exact rfl; apply wl_skip; exact rfl; exact rfl; exact rfl; exact bR2; exact rfl; apply wl_skip; exact rfl; exact rfl; exact rfl; exact bR2; exact rfl; apply wl_skip; exact rfl; exact rfl; exact rfl; exact bR2; exact rfl; apply wl_skip; exact rfl; exact rfl; exact rfl; exact bR2; exact rfl; apply wl_val; apply opv_pickF; exact rfl; exact rfl; exact rfl; exact rfl; refine wl_mv rfl rfl ?_; apply wl_skip; exact rfl; exact rfl; exact rfl; exact bR2; exact rfl; apply wl_skip; exact rfl; exact rfl; exact rfl; exact bR2; exact rfl; apply wl_skip; exact rfl; exact rfl; exact rfl; exact bR2; exact rfl; apply wl_skip; exact rfl; exact rfl; exact rfl; exact bR2; exact rfl; apply wl_skip; exact rfl; exact rfl; exact rfl; exact bR2; exact rfl; apply wl_val; apply opv_pickF; exact rfl; exact rfl; exact rfl; exact rfl; refine wl_mv rfl rfl ?_; apply wl_skip; exact rfl; exact rfl; exact rfl; exact bR2; exact rfl; apply wl_skip; exact rfl; exact rfl; exact rfl; exact bR2; exact rfl; apply wl_skip; exact rfl; exact rfl; exact rfl; exact bR2; exact rfl; apply wl_val; apply opv_pickF; exact rfl; exact rfl; exact rfl; exact rfl; refine wl_mv rfl rfl ?_; apply wl_skip; exact rfl; exact rfl; exact rfl; exact bR2; exact rfl; apply wl_skip; exact rfl; exact rfl; exact rfl; exact bR2; exact rfl; apply wl_val; apply opv_pickF; exact rfl; exact rfl; exact rfl; exact rfl; refine wl_as rfl rfl ?_; refine wl_nil ?_
          exact we_cut _ ⟨rfl, hs.drop 0 rfl⟩ ⟨rfl, rfl, rfl, rfl, rfl, rfl, rfl, rfl, rfl, by first | exact congrArg (fun b => some (Value.bool b)) (bF hW).symm, trivial⟩
        | true =>
          by_cases q3 : (a.seq : Int) = (seq : Int)
          rotate_left
          · have hW : ¬ (true = true ∧ (5 : Int) = 5 ∧ (id, a.seq) = (id, seq) ∧ a.code = 0 ∧ re = 0) := fun z => q3 (by have := congrArg Prod.snd z.2.2.1; dsimp only at this; omega)
            refine wc_region ?_; refine wl_mv rfl rfl ?_; refine wl_mv rfl rfl ?_; apply wl_take; exact rfl; exact rfl; exact rfl; exact rfl; apply wl_val; apply opv_fa; exact fa_Pk0; exact rfl; exact rfl; apply wl_take; exact rfl; exact rfl; exact rfl; exact rfl; apply wl_val; apply opv_ldX; exact rfl; exact hs.ar 2 rfl; exact g1_int; exact rfl; exact rfl; apply wl_take; exact rfl; exact rfl; exact rfl; exact rfl; refine wl_bin rfl rfl bin_eql rfl ?_; apply wl_val; apply opv_pickT; exact rfl; exact rfl; exact rfl; exact rfl; refine wl_mv rfl rfl ?_; apply wl_take; exact rfl; exact rfl; exact rfl; refine bT ?_; (with_reducible rfl); apply wl_val; apply opv_fa; exact fa_Pk7; exact rfl; exact rfl; apply wl_take; exact rfl; exact rfl; exact rfl; refine bT ?_; (with_reducible rfl); apply wl_val; apply opv_fa; exact fa_Tx0; exact rfl; exact rfl; apply wl_take; exact rfl; exact rfl; exact rfl; refine bT ?_; (with_reducible rfl); apply wl_val; apply opv_ldX; exact rfl; exact hs.ar 2 rfl; exact g1_u64; exact rfl; exact rfl; apply wl_take; exact rfl; exact rfl; exact rfl; refine bT ?_; (with_reducible rfl); refine wl_mv rfl rfl ?_; apply wl_take; exact rfl; exact rfl; exact rfl; refine bT ?_; (with_reducible rfl); refine wl_bin rfl rfl bin_eql rfl ?_; apply wl_val; apply opv_pickT; exact rfl; refine bT ?_; (with_reducible rfl); exact rfl; exact rfl; refine wl_mv rfl rfl ?_; apply wl_take; exact rfl; exact rfl; exact rfl; refine bT ?_; (with_reducible rfl); apply wl_val; apply opv_fa; exact fa_Pk7; exact rfl; exact rfl; apply wl_take; exact rfl; exact rfl; exact rfl; refine bT ?_; (with_reducible rfl); apply wl_val; apply opv_fa; exact fa_Tx1; exact rfl; exact rfl; apply wl_take; exact rfl; exact rfl; exact rfl; refine bT ?_; (with_reducible rfl); apply wl_val; apply opv_ldX; exact rfl; exact hs.ar 2 rfl; exact g1_u64; exact rfl; exact rfl; apply wl_take; exact rfl; exact rfl; exact rfl; refine bT ?_; (with_reducible rfl); refine wl_mv rfl rfl ?_; apply wl_take; exact rfl; exact rfl; exact rfl; refine bT ?_; (with_reducible rfl); refine wl_bin rfl rfl bin_eql rfl ?_; apply wl_val; apply opv_pickT; exact rfl; refine bT ?_; (with_reducible rfl); exact rfl; exact rfl; refine wl_mv rfl rfl ?_; apply wl_skip; exact rfl; exact rfl; exact rfl; refine bFn ?_; (with_reducible assumption); exact rfl; apply wl_skip; exact rfl; exact rfl; exact rfl; refine bFn ?_; (with_reducible assumption); exact rfl; apply wl_skip; exact rfl; exact rfl; exact rfl; refine bFn ?_; (with_reducible assumption); exact rfl; apply wl_val; apply opv_pickF; exact rfl; refine bF ?_; (with_reducible assumption); exact rfl; exact rfl; refine wl_mv rfl rfl ?_; apply wl_skip; exact rfl; exact rfl; exact rfl; exact bR2; exact rfl; apply wl_skip; exact rfl; exact rfl; exact rfl; exact bR2; exact rfl; apply wl_val; apply opv_pickF; exact rfl; exact rfl; exact rfl; exact rfl; refine wl_as rfl rfl ?_; refine wl_nil ?_
            exact we_cut _ ⟨rfl, hs.drop 0 rfl⟩ ⟨rfl, rfl, rfl, rfl, rfl, rfl, rfl, rfl, rfl, by first | exact congrArg (fun b => some (Value.bool b)) (bF hW).symm | exact congrArg (fun b => some (Value.bool b)) ((bF q3).trans (bF hW).symm), trivial⟩
          by_cases q4 : a.code = 0
          rotate_left
          · have hW : ¬ (true = true ∧ (5 : Int) = 5 ∧ (id, a.seq) = (id, seq) ∧ a.code = 0 ∧ re = 0) := fun z => q4 (z.2.2.2.1)
            refine wc_region ?_; refine wl_mv rfl rfl ?_; refine wl_mv rfl rfl ?_; apply wl_take; exact rfl; exact rfl; exact rfl; exact rfl; apply wl_val; apply opv_fa; exact fa_Pk0; exact rfl; exact rfl; apply wl_take; exact rfl; exact rfl; exact rfl; exact rfl; apply wl_val; apply opv_ldX; exact rfl; exact hs.ar 2 rfl; exact g1_int; exact rfl; exact rfl; apply wl_take; exact rfl; exact rfl; exact rfl; exact rfl; refine wl_bin rfl rfl bin_eql rfl ?_; apply wl_val; apply opv_pickT; exact rfl; exact rfl; exact rfl; exact rfl; refine wl_mv rfl rfl ?_; apply wl_take; exact rfl; exact rfl; exact rfl; refine bT ?_; (with_reducible rfl); apply wl_val; apply opv_fa; exact fa_Pk7; exact rfl; exact rfl; apply wl_take; exact rfl; exact rfl; exact rfl; refine bT ?_; (with_reducible rfl); apply wl_val; apply opv_fa; exact fa_Tx0; exact rfl; exact rfl; apply wl_take; exact rfl; exact rfl; exact rfl; refine bT ?_; (with_reducible rfl); apply wl_val; apply opv_ldX; exact rfl; exact hs.ar 2 rfl; exact g1_u64; exact rfl; exact rfl; apply wl_take; exact rfl; exact rfl; exact rfl; refine bT ?_; (with_reducible rfl); refine wl_mv rfl rfl ?_; apply wl_take; exact rfl; exact rfl; exact rfl; refine bT ?_; (with_reducible rfl); refine wl_bin rfl rfl bin_eql rfl ?_; apply wl_val; apply opv_pickT; exact rfl; refine bT ?_; (with_reducible rfl); exact rfl; exact rfl; refine wl_mv rfl rfl ?_; apply wl_take; exact rfl; exact rfl; exact rfl; refine bT ?_; (with_reducible rfl); apply wl_val; apply opv_fa; exact fa_Pk7; exact rfl; exact rfl; apply wl_take; exact rfl; exact rfl; exact rfl; refine bT ?_; (with_reducible rfl); apply wl_val; apply opv_fa; exact fa_Tx1; exact rfl; exact rfl; apply wl_take; exact rfl; exact rfl; exact rfl; refine bT ?_; (with_reducible rfl); apply wl_val; apply opv_ldX; exact rfl; exact hs.ar 2 rfl; exact g1_u64; exact rfl; exact rfl; apply wl_take; exact rfl; exact rfl; exact rfl; refine bT ?_; (with_reducible rfl); refine wl_mv rfl rfl ?_; apply wl_take; exact rfl; exact rfl; exact rfl; refine bT ?_; (with_reducible rfl); refine wl_bin rfl rfl bin_eql rfl ?_; apply wl_val; apply opv_pickT; exact rfl; refine bT ?_; (with_reducible rfl); exact rfl; exact rfl; refine wl_mv rfl rfl ?_; apply wl_take; exact rfl; exact rfl; exact rfl; refine bT ?_; (with_reducible assumption); apply wl_val; apply opv_fa; exact fa_Pk8; exact rfl; exact rfl; apply wl_take; exact rfl; exact rfl; exact rfl; refine bT ?_; (with_reducible assumption); apply wl_val; apply opv_ldX; exact rfl; exact hs.ar 2 rfl; exact g1_err; exact rfl; exact rfl; apply wl_take; exact rfl; exact rfl; exact rfl; refine bT ?_; (with_reducible assumption); refine wl_bin rfl rfl bin_eql rfl ?_; apply wl_val; apply opv_pickT; exact rfl; refine bT ?_; (with_reducible assumption); exact rfl; exact rfl; refine wl_mv rfl rfl ?_; apply wl_skip; exact rfl; exact rfl; exact rfl; refine bFn ?_; (with_reducible assumption); exact rfl; apply wl_skip; exact rfl; exact rfl; exact rfl; refine bFn ?_; (with_reducible assumption); exact rfl; apply wl_val; apply opv_pickF; exact rfl; refine bF ?_; (with_reducible assumption); exact rfl; exact rfl; refine wl_as rfl rfl ?_; refine wl_nil ?_
            exact we_cut _ ⟨rfl, hs.drop 0 rfl⟩ ⟨rfl, rfl, rfl, rfl, rfl, rfl, rfl, rfl, rfl, by first | exact congrArg (fun b => some (Value.bool b)) (bF hW).symm | exact congrArg (fun b => some (Value.bool b)) ((bF q4).trans (bF hW).symm), trivial⟩
          by_cases q5 : (re : Int) = 0
          rotate_left
          · have hW : ¬ (true = true ∧ (5 : Int) = 5 ∧ (id, a.seq) = (id, seq) ∧ a.code = 0 ∧ re = 0) := fun z => q5 (by have := z.2.2.2.2; omega)
            refine wc_region ?_; refine wl_mv rfl rfl ?_; refine wl_mv rfl rfl ?_; apply wl_take; exact rfl; exact rfl; exact rfl; exact rfl; apply wl_val; apply opv_fa; exact fa_Pk0; exact rfl; exact rfl; apply wl_take; exact rfl; exact rfl; exact rfl; exact rfl; apply wl_val; apply opv_ldX; exact rfl; exact hs.ar 2 rfl; exact g1_int; exact rfl; exact rfl; apply wl_take; exact rfl; exact rfl; exact rfl; exact rfl; refine wl_bin rfl rfl bin_eql rfl ?_; apply wl_val; apply opv_pickT; exact rfl; exact rfl; exact rfl; exact rfl; refine wl_mv rfl rfl ?_; apply wl_take; exact rfl; exact rfl; exact rfl; refine bT ?_; (with_reducible rfl); apply wl_val; apply opv_fa; exact fa_Pk7; exact rfl; exact rfl; apply wl_take; exact rfl; exact rfl; exact rfl; refine bT ?_; (with_reducible rfl); apply wl_val; apply opv_fa; exact fa_Tx0; exact rfl; exact rfl; apply wl_take; exact rfl; exact rfl; exact rfl; refine bT ?_; (with_reducible rfl); apply wl_val; apply opv_ldX; exact rfl; exact hs.ar 2 rfl; exact g1_u64; exact rfl; exact rfl; apply wl_take; exact rfl; exact rfl; exact rfl; refine bT ?_; (with_reducible rfl); refine wl_mv rfl rfl ?_; apply wl_take; exact rfl; exact rfl; exact rfl; refine bT ?_; (with_reducible rfl); refine wl_bin rfl rfl bin_eql rfl ?_; apply wl_val; apply opv_pickT; exact rfl; refine bT ?_; (with_reducible rfl); exact rfl; exact rfl; refine wl_mv rfl rfl ?_; apply wl_take; exact rfl; exact rfl; exact rfl; refine bT ?_; (with_reducible rfl); apply wl_val; apply opv_fa; exact fa_Pk7; exact rfl; exact rfl; apply wl_take; exact rfl; exact rfl; exact rfl; refine bT ?_; (with_reducible rfl); apply wl_val; apply opv_fa; exact fa_Tx1; exact rfl; exact rfl; apply wl_take; exact rfl; exact rfl; exact rfl; refine bT ?_; (with_reducible rfl); apply wl_val; apply opv_ldX; exact rfl; exact hs.ar 2 rfl; exact g1_u64; exact rfl; exact rfl; apply wl_take; exact rfl; exact rfl; exact rfl; refine bT ?_; (with_reducible rfl); refine wl_mv rfl rfl ?_; apply wl_take; exact rfl; exact rfl; exact rfl; refine bT ?_; (with_reducible rfl); refine wl_bin rfl rfl bin_eql rfl ?_; apply wl_val; apply opv_pickT; exact rfl; refine bT ?_; (with_reducible rfl); exact rfl; exact rfl; refine wl_mv rfl rfl ?_; apply wl_take; exact rfl; exact rfl; exact rfl; refine bT ?_; (with_reducible assumption); apply wl_val; apply opv_fa; exact fa_Pk8; exact rfl; exact rfl; apply wl_take; exact rfl; exact rfl; exact rfl; refine bT ?_; (with_reducible assumption); apply wl_val; apply opv_ldX; exact rfl; exact hs.ar 2 rfl; exact g1_err; exact rfl; exact rfl; apply wl_take; exact rfl; exact rfl; exact rfl; refine bT ?_; (with_reducible assumption); refine wl_bin rfl rfl bin_eql rfl ?_; apply wl_val; apply opv_pickT; exact rfl; refine bT ?_; (with_reducible assumption); exact rfl; exact rfl; refine wl_mv rfl rfl ?_; apply wl_take; exact rfl; exact rfl; exact rfl; refine bT ?_; (with_reducible assumption); refine wl_mv rfl rfl ?_; apply wl_take; exact rfl; exact rfl; exact rfl; refine bT ?_; (with_reducible assumption); refine wl_bin rfl rfl bin_eql rfl ?_; apply wl_val; apply opv_pickT; exact rfl; refine bT ?_; (with_reducible assumption); exact rfl; exact rfl; refine wl_as rfl rfl ?_; refine wl_nil ?_
            exact we_cut _ ⟨rfl, hs.drop 0 rfl⟩ ⟨rfl, rfl, rfl, rfl, rfl, rfl, rfl, rfl, rfl, by first | exact congrArg (fun b => some (Value.bool b)) (bF hW).symm | exact congrArg (fun b => some (Value.bool b)) ((bF q5).trans (bF hW).symm), trivial⟩
          have hW : true = true ∧ (5 : Int) = 5 ∧ (id, a.seq) = (id, seq) ∧ a.code = 0 ∧ re = 0 := ⟨rfl, rfl, Prod.ext (by first | rfl | (dsimp only; omega)) (by first | rfl | (dsimp only; omega)), q4, by omega⟩
          refine wc_region ?_; refine wl_mv rfl rfl ?_; refine wl_mv rfl rfl ?_; apply wl_take; exact rfl; exact rfl; exact rfl; exact rfl; apply wl_val; apply opv_fa; exact fa_Pk0; exact rfl; exact rfl; apply wl_take; exact rfl; exact rfl; exact rfl; exact rfl; apply wl_val; apply opv_ldX; exact rfl; exact hs.ar 2 rfl; exact g1_int; exact rfl; exact rfl; apply wl_take; exact rfl; exact rfl; exact rfl; exact rfl; refine wl_bin rfl rfl bin_eql rfl ?_; apply wl_val; apply opv_pickT; exact rfl; exact rfl; exact rfl; exact rfl; refine wl_mv rfl rfl ?_; apply wl_take; exact rfl; exact rfl; exact rfl; refine bT ?_; (with_reducible rfl); apply wl_val; apply opv_fa; exact fa_Pk7; exact rfl; exact rfl; apply wl_take; exact rfl; exact rfl; exact rfl; refine bT ?_; (with_reducible rfl); apply wl_val; apply opv_fa; exact fa_Tx0; exact rfl; exact rfl; apply wl_take; exact rfl; exact rfl; exact rfl; refine bT ?_; (with_reducible rfl); apply wl_val; apply opv_ldX; exact rfl; exact hs.ar 2 rfl; exact g1_u64; exact rfl; exact rfl; apply wl_take; exact rfl; exact rfl; exact rfl; refine bT ?_; (with_reducible rfl); refine wl_mv rfl rfl ?_; apply wl_take; exact rfl; exact rfl; exact rfl; refine bT ?_; (with_reducible rfl); refine wl_bin rfl rfl bin_eql rfl ?_; apply wl_val; apply opv_pickT; exact rfl; refine bT ?_; (with_reducible rfl); exact rfl; exact rfl; refine wl_mv rfl rfl ?_; apply wl_take; exact rfl; exact rfl; exact rfl; refine bT ?_; (with_reducible rfl); apply wl_val; apply opv_fa; exact fa_Pk7; exact rfl; exact rfl; apply wl_take; exact rfl; exact rfl; exact rfl; refine bT ?_; (with_reducible rfl); apply wl_val; apply opv_fa; exact fa_Tx1; exact rfl; exact rfl; apply wl_take; exact rfl; exact rfl; exact rfl; refine bT ?_; (with_reducible rfl); apply wl_val; apply opv_ldX; exact rfl; exact hs.ar 2 rfl; exact g1_u64; exact rfl; exact rfl; apply wl_take; exact rfl; exact rfl; exact rfl; refine bT ?_; (with_reducible rfl); refine wl_mv rfl rfl ?_; apply wl_take; exact rfl; exact rfl; exact rfl; refine bT ?_; (with_reducible rfl); refine wl_bin rfl rfl bin_eql rfl ?_; apply wl_val; apply opv_pickT; exact rfl; refine bT ?_; (with_reducible rfl); exact rfl; exact rfl; refine wl_mv rfl rfl ?_; apply wl_take; exact rfl; exact rfl; exact rfl; refine bT ?_; (with_reducible assumption); apply wl_val; apply opv_fa; exact fa_Pk8; exact rfl; exact rfl; apply wl_take; exact rfl; exact rfl; exact rfl; refine bT ?_; (with_reducible assumption); apply wl_val; apply opv_ldX; exact rfl; exact hs.ar 2 rfl; exact g1_err; exact rfl; exact rfl; apply wl_take; exact rfl; exact rfl; exact rfl; refine bT ?_; (with_reducible assumption); refine wl_bin rfl rfl bin_eql rfl ?_; apply wl_val; apply opv_pickT; exact rfl; refine bT ?_; (with_reducible assumption); exact rfl; exact rfl; refine wl_mv rfl rfl ?_; apply wl_take; exact rfl; exact rfl; exact rfl; refine bT ?_; (with_reducible assumption); refine wl_mv rfl rfl ?_; apply wl_take; exact rfl; exact rfl; exact rfl; refine bT ?_; (with_reducible assumption); refine wl_bin rfl rfl bin_eql rfl ?_; apply wl_val; apply opv_pickT; exact rfl; refine bT ?_; (with_reducible assumption); exact rfl; exact rfl; refine wl_as rfl rfl ?_; refine wl_nil ?_
          exact we_cut _ ⟨rfl, hs.drop 0 rfl⟩ ⟨rfl, rfl, rfl, rfl, rfl, rfl, rfl, rfl, rfl, congrArg (fun b => some (Value.bool b)) ((bT q5).trans (bT hW).symm), trivial⟩
      clear hs
      rintro _ w8 ⟨rfl, hs⟩
      replace hs := (((((((((hs.front 7 rfl).front 7 rfl).front 5 rfl).front 8 rfl).front 5 rfl).front 5 rfl).front 8 rfl).front 8 rfl).front 8 rfl)
      refine wc_sr ?_; refine wl_mv rfl rfl ?_; apply wl_val; apply opv_loadX; exact rfl; exact hs.ar 4 rfl; exact sPk; exact rfl
      obtain ⟨S2, hS2, hB2, hM2, hH2, hB⟩ := St.lend (H1 := [_, _, _]) (H2 := [_, _, _, _, _, _]) hs
      refine wl_call ok_session_Client_Take (ctake_any hS2 (fun w' k => (Sat.kp (i := 0) (hH2 w' k) rfl).2) hpd hpl (by omega)) ⟨rfl, rfl, trivial⟩ rfl ?_
      rintro v8 _ hct
      unfold CtR at hct
      rw [hrq] at hct
      try dsimp only at hct
      by_cases hW : op = true ∧ (5 : Int) = 5 ∧ (id, a.seq) = (id, seq) ∧ a.code = 0 ∧ re = 0
      · rw [if_pos hW] at hct
        obtain ⟨E, ce, R2, d2, vs2, rfl, hce, hsx⟩ := hct
        replace hs := hB _ _ hsx
        clear hsx hB hH2 hM2 hB2 hS2
        dsimp only [List.cons_append, List.nil_append] at hs
        rw [bT hW]
        refine wl_mv rfl rfl ?_; apply wl_val; apply opv_extract; exact rfl; exact rfl; exact rfl; apply wl_val; apply opv_extract; exact rfl; exact rfl; exact rfl
        refine ws_var (cs := rpV rr E ce) hs zeroRp sRp rfl (fun _ => rfl) (by first | rfl | simp [Value.oneCell']) rfl ?_; clear hs; intro g22 _ hs
        unfold rpV at hs
        refine wl_as rfl rfl ?_; refine wl_ns ?_; refine wc_seq ?_; refine wc_sr ?_; refine wl_mv rfl rfl ?_; refine wl_mv rfl rfl ?_; apply wl_val; apply opv_bin; exact rfl; exact rfl; exact bin_neqBb tyBool24; exact rfl; refine wl_ns ?_; apply wc_condFb; exact rfl; exact rfl; refine wc_skip ?_; refine we_seq ?_; refine wc_sr ?_; refine wl_mv rfl rfl ?_; refine wl_ns ?_; apply wc_condTb; exact rfl; exact rfl; refine wc_seq ?_
        refine wc_heldG (fun w' => Ar w' g18 42 (pkYV 5 (id, a.seq) a.code pd X x)) 2 mixed ?_
        replace hs := hs.below (Below.refl _ _).drew
        have hS := hs.ar 6 rfl
        apply wm_take 0; exact rfl; intro _ hw_; apply opv_loadX; exact rfl; exact hw_; exact sPk; exact rfl; kernel_rfl; exact hS; apply wm_take 1; exact rfl; intro _ hw_; apply opv_assign; exact rfl; exact rfl; kernel_rfl; exact hS
        clear hS
        refine wm_one 2 (by kernel_rfl) rfl ?_; dsimp only [List.getElem_toArray, List.getElem_cons_succ, List.getElem_cons_zero]
        apply ws_stS hs 7; exact rfl; exact rfl; exact rfl; exact sPk; exact rfl; exact rfl; clear hs; intro _ hs; dsimp only [setC] at hs; refine wl_nil ?_
        refine we_heldM (fun h => absurd h (by decide)) ?_
        refine wm_done (by kernel_rfl) ?_
        refine we_seq ?_; refine wc_region ?_; refine wl_mv rfl rfl ?_; apply wl_val; apply opv_fa; exact fa_Rp0; exact rfl; exact rfl; apply wl_val; apply opv_ldX; exact rfl; exact hs.ar 0 rfl; exact g1_err; exact rfl; exact rfl; apply wl_val; apply opv_fa; exact fa_Rp1; exact rfl; exact rfl; apply wl_val; apply opv_ldX; exact rfl; exact hs.ar 0 rfl; exact g1_int; exact rfl; exact rfl; apply wl_val; apply opv_fa; exact fa_Rp2; exact rfl; exact rfl; apply wl_val; apply opv_ldX; exact rfl; exact hs.ar 0 rfl; exact g1_rss; exact rfl; exact rfl
        refine wl_val (opv_build (vs := [(0, .int .i64 rr.err), (1, .int .i64 rr.at_), (2, .slice E rr.rows.length ce)]) (cs := rpV rr E ce) ⟨rfl, rfl, rfl, rfl, rfl, rfl, trivial⟩ (by kernel_rfl)) rfl ?_
        refine ws_bsR (cs := rpV rr E ce) hs tkRq ⟨_, rfl, rfl⟩ rfl (by decide) rfl ?_
        clear hs; intro B3 _ hs
        skip
        have hcl : css.length = reps.length := by rw [hA.1, List.length_map]
        refine ws_appR (css := [rpV rr E ce]) hs 10 rfl rfl tkRq (by simp [hcl]) rfl (hs.rg 0 rfl).rd rfl (by simp [rpV, Value.oneCell']) (by omega) (by simp only [maxLen]; omega) rfl ?_
        clear hs; intro G2 gc2 _ hs; dsimp only [setC] at hs
        refine wl_as rfl rfl ?_; refine wl_nil ?_; refine we_block_norm ?_
        replace hs := (St.kpAnd ((((((((((((hs.front 6 rfl).front 8 rfl).front 10 rfl).front 7 rfl).front 7 rfl).front 10 rfl).front 8 rfl).front 11 rfl).front 10 rfl).drop 9 rfl).drop 9 rfl).drop 9 rfl))
        replace hs := (hs.front 7 rfl).kpMono (K' := fun w' => RdB w' X pd) fun _ h => h.2
        dsimp only [delC] at hs
        rw [show css.map rawEl ++ [rpV rr E ce].map rawEl = (css ++ [rpV rr E ce]).map rawEl by simp] at hs
        have hlen : (reps ++ [pd]).length = reps.length + 1 := by simp
        refine we_cut _ ⟨seq, false, G2, gc2, reps ++ [pd], rfl, by omega, by omega, A, c, req, R2, d2, vs2, css ++ [rpV rr E ce], _, 5, (id, a.seq), a.code, pd, X, x, ?_, ?_, hpd, hpl, fun z => absurd z (by decide), (((((((hs.front 7 rfl).front 2 rfl).front 7 rfl).front 7 rfl).front 7 rfl).front 7 rfl).front 7 rfl)⟩ ⟨rfl, rfl, rfl, rfl, rfl, by rw [hlen]; rfl, rfl, rfl, trivial⟩
        · intro r hr
          rcases List.mem_append.1 hr with hr | hr
          · exact hreps r hr
          · rw [List.mem_singleton] at hr; subst hr; exact hpl
        · rw [List.map_append, List.map_cons, List.map_nil, hrq]
          exact (hA.weak fun w h => h.2).snoc fun w' h => ⟨E, ce, rfl, hce, h.1⟩
      · rw [if_neg hW] at hct
        obtain ⟨rfl, hsx⟩ := hct
        replace hs := hB _ _ hsx
        clear hsx hB hH2 hM2 hB2 hS2
        dsimp only [List.cons_append, List.nil_append] at hs
        rw [bF hW]
        refine wl_mv rfl rfl ?_; apply wl_val; apply opv_extract; exact rfl; exact rfl; exact rfl; apply wl_val; apply opv_extract; exact rfl; exact rfl; exact rfl
        refine ws_var (cs := rpV zRp none 0) hs zeroRp sRp rfl (fun _ => rfl) (by first | rfl | simp [Value.oneCell']) rfl ?_; clear hs; intro g22 _ hs
        refine wl_as rfl rfl ?_; refine wl_ns ?_; refine wc_seq ?_; refine wc_sr ?_; refine wl_mv rfl rfl ?_; refine wl_mv rfl rfl ?_; apply wl_val; apply opv_bin; exact rfl; exact rfl; exact bin_neqBb tyBool24; exact rfl; refine wl_ns ?_; apply wc_condFb; exact rfl; exact rfl; refine wc_skip ?_; refine we_seq ?_; refine wc_sr ?_; refine wl_mv rfl rfl ?_; refine wl_ns ?_; apply wc_condFb; exact rfl; exact rfl; refine wc_skip ?_; refine we_block_norm ?_
        replace hs := (hs.front 4 rfl).kpMono (K' := fun w' => RdB w' LD ldata) fun _ h => h.1
        dsimp only [delC] at hs
        exact we_cut _ ⟨seq, op, Gt, gc, reps, rfl, by omega, by omega, A, c, req, R, d, vs, css, K3, lk, ltx, lcode, ldata, LD, lcd, hreps, hA, hl1, hl2, hop, (((((((((hs.front 6 rfl).front 9 rfl).front 9 rfl).front 7 rfl).front 7 rfl).front 9 rfl).front 8 rfl).drop 8 rfl).drop 8 rfl)⟩ ⟨rfl, rfl, rfl, rfl, rfl, rfl, rfl, rfl, trivial⟩
    by_cases n4 : a.kind = 4
    · have n3 : ¬ a.kind = 3 := by omega
      have n5 : ¬ a.kind = 5 := by omega
      refine wc_sr ?_; apply wl_val; apply opv_fa; exact fa_Ac0; exact rfl; exact rfl; apply wl_val; apply opv_ldX; exact rfl; exact hs.ar 0 rfl; exact g1_int; exact rfl; exact rfl; refine wl_ns ?_; refine wc_block ?_; refine wc_sr ?_; refine wl_bin rfl rfl bin_eql rfl ?_; refine wl_as rfl rfl ?_; refine wl_ns ?_; apply wc_decF; exact rfl; (with_reducible assumption); refine wc_sr ?_; refine wl_bin rfl rfl bin_eql rfl ?_; refine wl_as rfl rfl ?_; refine wl_ns ?_; apply wc_decF; exact rfl; (with_reducible assumption); refine wc_seq ?_; refine wc_sr ?_; refine wl_bin rfl rfl bin_eql rfl ?_; refine wl_as rfl rfl ?_; refine wl_ns ?_; apply wc_decF; exact rfl; (with_reducible assumption); refine wc_sr ?_; refine wl_bin rfl rfl bin_eql rfl ?_; refine wl_as rfl rfl ?_; refine wl_ns ?_; apply wc_decT; exact rfl; (with_reducible assumption); refine wc_skip ?_; refine we_seq ?_; apply wc_decT; exact rfl; (with_reducible assumption); refine wc_seq ?_
      refine wc_cutE (fun L w' => ∃ (g18 : Nat) (X : Option Addr) (x : Nat), L = [(0, .int .u64 (id : Int)), (1, .slice (some ⟨b0, o0, none⟩) acts.length ac), (5, .pointer (some ⟨g, 0, none⟩)), (6, .int .u64 (seq : Int)), (7, .bool op), (8, .slice Gt reps.length gc), (9, .pointer (some ⟨g9, 0, none⟩)), (10, .int .i64 (i : Int)), (11, .pointer (some ⟨g11, 0, none⟩)), (18, .pointer (some ⟨g18, 0, none⟩))] ∧ St NoB w w' ([.blk g18 42 (pkYV 5 (id, a.seq) a.code (rbB a.err a.at_) X x), .ow 5 X (rbB a.err a.at_).length x (bvs (rbB a.err a.at_)), .blk g11 45 [.int .i64 a.kind, .int .i64 a.to, .int .i64 a.code, .int .i64 a.err, .int .i64 a.at_, .int .u64 (a.seq : Int), .slice O a.ops.length oc, .slice J a.junk.length jc], .blk g 98 (clV id seq A req.length c op R reps.length d), .ow 5 A req.length c (bvs req), .ow 32 R reps.length d vs, .ck (elC w vs reps), .rg 3 64 Gt gc (css.map rawEl), .ck (kp K3), .blk g9 42 (pkYV lk ltx lcode ldata LD lcd), .ck (kp fun w' => RdB w' LD ldata)]) ) ?_ ?_
      · refine wc_heldG (fun w' => Ar w' g11 45 [.int .i64 a.kind, .int .i64 a.to, .int .i64 a.code, .int .i64 a.err, .int .i64 a.at_, .int .u64 (a.seq : Int), .slice O a.ops.length oc, .slice J a.junk.length jc]) 14 mixed ?_
        replace hs := hs.below (Below.refl _ _).drew
        have hS := hs.ar 0 rfl
        apply wm_take 0; exact rfl; intro _ hw_; apply opv_move; exact rfl; exact rfl; kernel_rfl; exact hS; apply wm_take 1; exact rfl; intro _ hw_; apply opv_fa; exact fa_Ac5; exact rfl; exact rfl; kernel_rfl; exact hS; apply wm_take 2; exact rfl; intro _ hw_; apply opv_ldX; exact rfl; assumption; exact g1_u64; exact rfl; exact rfl; kernel_rfl; exact hS
        refine wm_takeP 3 rfl (fun _ => opv_build (vs := [(0, .int .u64 (id : Int)), (1, .int .u64 (a.seq : Int))]) (cs := txW (id, a.seq)) ⟨rfl, rfl, rfl, rfl, trivial⟩ (by kernel_rfl)) rfl (by kernel_rfl) (fun _ => hS) ?_
        apply wm_take 4; exact rfl; intro _ hw_; apply opv_fa; exact fa_Ac2; exact rfl; exact rfl; kernel_rfl; exact hS; apply wm_take 5; exact rfl; intro _ hw_; apply opv_ldX; exact rfl; assumption; exact g1_int; exact rfl; exact rfl; kernel_rfl; exact hS; apply wm_take 6; exact rfl; intro _ hw_; apply opv_fa; exact fa_Ac3; exact rfl; exact rfl; kernel_rfl; exact hS; apply wm_take 7; exact rfl; intro _ hw_; apply opv_ldX; exact rfl; assumption; exact g1_int; exact rfl; exact rfl; kernel_rfl; exact hS; apply wm_take 8; exact rfl; intro _ hw_; apply opv_fa; exact fa_Ac4; exact rfl; exact rfl; kernel_rfl; exact hS; apply wm_take 9; exact rfl; intro _ hw_; apply opv_ldX; exact rfl; assumption; exact g1_int; exact rfl; exact rfl; kernel_rfl; exact hS
        refine wm_takeP 10 rfl (fun _ => opv_build (vs := [(0, .int .i64 a.err), (1, .int .i64 a.at_)]) (cs := rpV ⟨a.err, a.at_, []⟩ none 0) ⟨rfl, rfl, rfl, rfl, trivial⟩ (by kernel_rfl)) rfl (by kernel_rfl) (fun _ => hS) ?_
        clear hS
        refine wm_two 11 13 (by kernel_rfl) rfl rfl ?_ ?_ <;> dsimp only [List.getElem_toArray, List.getElem_cons_succ, List.getElem_cons_zero]
        · refine wl_call ok_plan_Reply_Bytes (rbytes_any a.err a.at_ _) ⟨rfl, trivial⟩ rfl ?_
          rintro _ _ ⟨X11, x11, rfl, hsx⟩
          replace hs := hs.call hsx
          clear hsx
          dsimp only [List.cons_append, List.nil_append] at hs
          refine wl_nil ?_
          refine we_heldM (fun _ => hs.ar 1 rfl) ?_
          have hS := hs.ar 1 rfl
          refine wm_takeP 12 rfl (fun _ => opv_build (vs := [(0, .int .i64 5), (7, .agg (txW (id, a.seq)).toArray), (8, .int .i64 a.code), (11, .slice X11 (rbB a.err a.at_).length x11)]) (cs := pkYV 5 (id, a.seq) a.code (rbB a.err a.at_) X11 x11) ⟨rfl, rfl, rfl, rfl, rfl, rfl, rfl, rfl, trivial⟩ (by kernel_rfl)) rfl (by kernel_rfl) (fun _ => hS) ?_
          clear hS
          refine wm_one 13 (by kernel_rfl) rfl ?_; dsimp only [List.getElem_toArray, List.getElem_cons_succ, List.getElem_cons_zero]
          refine ws_new hs zeroPk rfl ?_; clear hs; intro g18 _ hs
          refine wl_nil ?_
          refine we_heldM (fun _ => hs.ar 2 rfl) ?_
          refine wm_one 14 (by kernel_rfl) rfl ?_; dsimp only [List.getElem_toArray, List.getElem_cons_succ, List.getElem_cons_zero]
          apply ws_stS hs 0; exact rfl; exact rfl; exact rfl; exact sPk; exact rfl; exact rfl; clear hs; intro _ hs; dsimp only [setC] at hs; refine wl_nil ?_
          refine we_heldM (fun h => absurd h (by decide)) ?_
          refine wm_done (by kernel_rfl) ?_
          exact we_cut _ ⟨g18, X11, x11, rfl, (((((((((((hs.front 10 rfl).front 10 rfl).front 10 rfl).front 10 rfl).front 10 rfl).front 10 rfl).front 10 rfl).front 10 rfl).front 10 rfl).front 10 rfl).front 10 rfl)⟩ ⟨rfl, rfl, rfl, rfl, rfl, rfl, rfl, rfl, rfl, rfl, trivial⟩
        · refine ws_new hs zeroPk rfl ?_; clear hs; intro g18 _ hs
          refine wl_nil ?_
          refine we_heldM (fun _ => hs.ar 1 rfl) ?_
          refine wm_one 11 (by kernel_rfl) rfl ?_; dsimp only [List.getElem_toArray, List.getElem_cons_succ, List.getElem_cons_zero]
          refine wl_call ok_plan_Reply_Bytes (rbytes_any a.err a.at_ _) ⟨rfl, trivial⟩ rfl ?_
          rintro _ _ ⟨X11, x11, rfl, hsx⟩
          replace hs := hs.call hsx
          clear hsx
          dsimp only [List.cons_append, List.nil_append] at hs
          refine wl_nil ?_
          refine we_heldM (fun _ => hs.ar 2 rfl) ?_
          have hS := hs.ar 2 rfl
          refine wm_takeP 12 rfl (fun _ => opv_build (vs := [(0, .int .i64 5), (7, .agg (txW (id, a.seq)).toArray), (8, .int .i64 a.code), (11, .slice X11 (rbB a.err a.at_).length x11)]) (cs := pkYV 5 (id, a.seq) a.code (rbB a.err a.at_) X11 x11) ⟨rfl, rfl, rfl, rfl, rfl, rfl, rfl, rfl, trivial⟩ (by kernel_rfl)) rfl (by kernel_rfl) (fun _ => hS) ?_
          clear hS
          refine wm_one 14 (by kernel_rfl) rfl ?_; dsimp only [List.getElem_toArray, List.getElem_cons_succ, List.getElem_cons_zero]
          apply ws_stS hs 1; exact rfl; exact rfl; exact rfl; exact sPk; exact rfl; exact rfl; clear hs; intro _ hs; dsimp only [setC] at hs; refine wl_nil ?_
          refine we_heldM (fun h => absurd h (by decide)) ?_
          refine wm_done (by kernel_rfl) ?_
          exact we_cut _ ⟨g18, X11, x11, rfl, (((((((((((hs.front 10 rfl).front 10 rfl).front 10 rfl).front 10 rfl).front 10 rfl).front 10 rfl).front 10 rfl).front 10 rfl).front 10 rfl).front 9 rfl).front 10 rfl)⟩ ⟨rfl, rfl, rfl, rfl, rfl, rfl, rfl, rfl, rfl, rfl, trivial⟩
      clear hs
      rintro _ w6 ⟨g18, X, x, rfl, hs⟩
      have hxc := OwB.cap (hs.ow 1 rfl)
      have hrb := rbB_le a.err a.at_
      obtain ⟨pd, hpde⟩ : ∃ pd, rbB a.err a.at_ = pd := ⟨_, rfl⟩
      rw [hpde] at hs hxc hrb
      refine we_seq ?_; refine wc_seq ?_; refine wc_sr ?_; apply wl_val; apply opv_fa; exact fa_Ac0; exact rfl; exact rfl; apply wl_val; apply opv_ldX; exact rfl; exact hs.ar 2 rfl; exact g1_int; exact rfl; exact rfl; refine wl_bin rfl rfl bin_eql rfl ?_; refine wl_ns ?_; apply wc_decT; exact rfl; (with_reducible assumption); refine wc_region ?_; apply wl_val; apply opv_loadX; exact rfl; exact hs.ar 9 rfl; exact sPk; exact rfl; apply ws_stS hs 0; exact rfl; exact rfl; exact rfl; exact sPk; exact rfl; exact rfl; clear hs; intro _ hs; dsimp only [setC] at hs; refine wl_ns ?_; refine wc_seq ?_; refine wc_sr ?_; apply wl_val; apply opv_fa; exact fa_Ac0; exact rfl; exact rfl; apply wl_val; apply opv_ldX; exact rfl; exact hs.ar 2 rfl; exact g1_int; exact rfl; exact rfl; refine wl_bin rfl rfl bin_eql rfl ?_; refine wl_ns ?_; apply wc_decF; exact rfl; (with_reducible assumption); refine wc_skip ?_; refine we_seq ?_; refine wc_sr ?_; apply wl_val; apply opv_fa; exact fa_Pk11; exact rfl; exact rfl; apply wl_val; apply opv_ldX; exact rfl; exact hs.ar 0 rfl; exact g1_by; exact rfl; exact rfl
      replace hs := ((((((((((((hs.front 9 rfl).front 9 rfl).front 9 rfl).front 9 rfl).front 9 rfl).front 9 rfl).front 9 rfl).front 7 rfl).front 10 rfl).drop 9 rfl).drop 9 rfl)).kpMono (K' := (fun w' => RdB w' LD ldata ∧ RdB w' LD ldata)) fun _ h => ⟨h, h⟩
      have hpd := hl1
      have hpl := hl2
      dsimp only [delC] at hs
      unfold pkYV pkY pkV msV reV zMsg zRes at hs
      dsimp only [List.cons_append, List.nil_append, List.length_nil] at hs
      skip
      obtain ⟨⟨rr, re⟩, hrq⟩ : ∃ q, readRp ldata = q := ⟨_, rfl⟩
      have hcall := lread_any (hs.kp 0 rfl).2 rfl hpd (by omega)
      rw [hrq] at hcall
      refine wl_call ok_plan_Read hcall ⟨rfl, trivial⟩ rfl ?_
      clear hcall
      rintro _ _ ⟨E0, ce0, rfl, _, hsx⟩
      replace hs := (hs.call hsx).drop 0 rfl
      clear hsx
      dsimp only [List.cons_append, List.nil_append, delC] at hs
      refine wl_mv rfl rfl ?_; apply wl_val; apply opv_extract; exact rfl; exact rfl; exact rfl; apply wl_val; apply opv_extract; exact rfl; exact rfl; exact rfl
      refine ws_var (cs := rpV rr E0 ce0) hs zeroRp sRp rfl (fun _ => rfl) (by first | rfl | simp [Value.oneCell']) rfl ?_; clear hs; intro g19 _ hs
      refine wl_as rfl rfl ?_
      refine wl_ns ?_
      refine wc_cut (fun L w' => L = [(0, .int .u64 (id : Int)), (1, .slice (some ⟨b0, o0, none⟩) acts.length ac), (5, .pointer (some ⟨g, 0, none⟩)), (6, .int .u64 (seq : Int)), (7, .bool op), (8, .slice Gt reps.length gc), (9, .pointer (some ⟨g9, 0, none⟩)), (10, .int .i64 (i : Int)), (18, .pointer (some ⟨g18, 0, none⟩)), (21, .bool (decide (op = true ∧ (lk : Int) = 5 ∧ ltx = (id, seq) ∧ lcode = 0 ∧ re = 0)))] ∧ St NoB w w' [.ck (kp (fun w' => RdB w' LD ldata ∧ RdB w' LD ldata)), .blk g18 42 (pkYV lk ltx lcode ldata LD lcd), .blk g 98 (clV id seq A req.length c op R reps.length d), .ow 5 A req.length c (bvs req), .ow 32 R reps.length d vs, .ck (elC w vs reps), .rg 3 64 Gt gc (css.map rawEl), .ck (kp K3), .blk g9 42 (pkYV lk ltx lcode ldata LD lcd)]) ?_ ?_
      · cases op with
        | false =>
          have hW : ¬ (false = true ∧ (lk : Int) = 5 ∧ ltx = (id, seq) ∧ lcode = 0 ∧ re = 0) := fun z => absurd z.1 (by decide)
          refine wc_region ?_; refine wl_mv rfl rfl ?_; refine wl_mv rfl rfl ?_; apply wl_skip; exact rfl; exact rfl; exact rfl; exact bR2; exact rfl; apply wl_skip; exact rfl; exact rfl; exact rfl; exact bR2; exact rfl; apply wl_skip; exact rfl; exact rfl; exact rfl; exact bR2; exact rfl; apply wl_val; apply opv_pickF; exact rfl; exact rfl; exact rfl; exact rfl; refine wl_mv rfl rfl ?_; apply wl_skip; exact rfl; exact rfl; exact rfl; exact bR2; exact rfl; apply wl_skip; exact rfl; exact rfl; exact rfl; exact bR2; exact rfl; apply wl_skip; exact rfl; exact rfl; exact rfl; exact bR2; exact rfl; apply wl_skip; exact rfl; exact rfl; exact rfl; exact bR2; exact rfl; apply wl_skip; exact rfl; exact rfl; exact rfl; exact bR2; exact rfl; apply wl_val; apply opv_pickF; exact rfl; exact rfl; exact rfl; exact rfl; refine wl_mv rfl rfl ?_; apply wl_skip; exact rfl; exact rfl; exact rfl; exact bR2; exact rfl; apply wl_skip; exact rfl; exact rfl; exact rfl; exact bR2; exact rfl; apply wl_skip; exact rfl; exact rfl; exact rfl; exact bR2; exact rfl; apply wl_skip; exact rfl; exact rfl; exact rfl; exact bR2; exact rfl; apply wl_skip; exact rfl; exact rfl; exact rfl; exact bR2; exact rfl; apply wl_val; apply opv_pickF; exact rfl; exact rfl; exact rfl; exact rfl; refine wl_mv rfl rfl ?_; apply wl_skip; exact rfl; exact rfl; exact rfl; exact bR2; exact rfl; apply wl_skip; exact rfl; exact rfl; exact rfl; exact bR2; exact rfl; apply wl_skip; exact rfl; exact rfl; exact rfl; exact bR2; exact rfl; apply wl_val; apply opv_pickF; exact rfl; exact rfl; exact rfl; exact rfl; refine wl_mv rfl rfl ?_; apply wl_skip; exact rfl; exact rfl; exact rfl; exact bR2; exact rfl; apply wl_skip; exact rfl; exact rfl; exact rfl; exact bR2; exact rfl; apply wl_val; apply opv_pickF; exact rfl; exact rfl; exact rfl; exact rfl; refine wl_as rfl rfl ?_; refine wl_nil ?_
          exact we_cut _ ⟨rfl, hs.drop 0 rfl⟩ ⟨rfl, rfl, rfl, rfl, rfl, rfl, rfl, rfl, rfl, by first | exact congrArg (fun b => some (Value.bool b)) (bF hW).symm, trivial⟩
        | true =>
          by_cases q1 : lk = 5
          rotate_left
          · have hW : ¬ (true = true ∧ (lk : Int) = 5 ∧ ltx = (id, seq) ∧ lcode = 0 ∧ re = 0) := fun z => q1 (z.2.1)
            refine wc_region ?_; refine wl_mv rfl rfl ?_; refine wl_mv rfl rfl ?_; apply wl_take; exact rfl; exact rfl; exact rfl; exact rfl; apply wl_val; apply opv_fa; exact fa_Pk0; exact rfl; exact rfl; apply wl_take; exact rfl; exact rfl; exact rfl; exact rfl; apply wl_val; apply opv_ldX; exact rfl; exact hs.ar 2 rfl; exact g1_int; exact rfl; exact rfl; apply wl_take; exact rfl; exact rfl; exact rfl; exact rfl; refine wl_bin rfl rfl bin_eql rfl ?_; apply wl_val; apply opv_pickT; exact rfl; exact rfl; exact rfl; exact rfl; refine wl_mv rfl rfl ?_; apply wl_skip; exact rfl; exact rfl; exact rfl; refine bFn ?_; (with_reducible assumption); exact rfl; apply wl_skip; exact rfl; exact rfl; exact rfl; refine bFn ?_; (with_reducible assumption); exact rfl; apply wl_skip; exact rfl; exact rfl; exact rfl; refine bFn ?_; (with_reducible assumption); exact rfl; apply wl_skip; exact rfl; exact rfl; exact rfl; refine bFn ?_; (with_reducible assumption); exact rfl; apply wl_skip; exact rfl; exact rfl; exact rfl; refine bFn ?_; (with_reducible assumption); exact rfl; apply wl_val; apply opv_pickF; exact rfl; refine bF ?_; (with_reducible assumption); exact rfl; exact rfl; refine wl_mv rfl rfl ?_; apply wl_skip; exact rfl; exact rfl; exact rfl; exact bR2; exact rfl; apply wl_skip; exact rfl; exact rfl; exact rfl; exact bR2; exact rfl; apply wl_skip; exact rfl; exact rfl; exact rfl; exact bR2; exact rfl; apply wl_skip; exact rfl; exact rfl; exact rfl; exact bR2; exact rfl; apply wl_skip; exact rfl; exact rfl; exact rfl; exact bR2; exact rfl; apply wl_val; apply opv_pickF; exact rfl; exact rfl; exact rfl; exact rfl; refine wl_mv rfl rfl ?_; apply wl_skip; exact rfl; exact rfl; exact rfl; exact bR2; exact rfl; apply wl_skip; exact rfl; exact rfl; exact rfl; exact bR2; exact rfl; apply wl_skip; exact rfl; exact rfl; exact rfl; exact bR2; exact rfl; apply wl_val; apply opv_pickF; exact rfl; exact rfl; exact rfl; exact rfl; refine wl_mv rfl rfl ?_; apply wl_skip; exact rfl; exact rfl; exact rfl; exact bR2; exact rfl; apply wl_skip; exact rfl; exact rfl; exact rfl; exact bR2; exact rfl; apply wl_val; apply opv_pickF; exact rfl; exact rfl; exact rfl; exact rfl; refine wl_as rfl rfl ?_; refine wl_nil ?_
            exact we_cut _ ⟨rfl, hs.drop 0 rfl⟩ ⟨rfl, rfl, rfl, rfl, rfl, rfl, rfl, rfl, rfl, by first | exact congrArg (fun b => some (Value.bool b)) (bF hW).symm | exact congrArg (fun b => some (Value.bool b)) ((bF q1).trans (bF hW).symm), trivial⟩
          by_cases q2 : ((ltx).1 : Int) = (id : Int)
          rotate_left
          · have hW : ¬ (true = true ∧ (lk : Int) = 5 ∧ ltx = (id, seq) ∧ lcode = 0 ∧ re = 0) := fun z => q2 (by have := congrArg Prod.fst z.2.2.1; dsimp only at this; omega)
            refine wc_region ?_; refine wl_mv rfl rfl ?_; refine wl_mv rfl rfl ?_; apply wl_take; exact rfl; exact rfl; exact rfl; exact rfl; apply wl_val; apply opv_fa; exact fa_Pk0; exact rfl; exact rfl; apply wl_take; exact rfl; exact rfl; exact rfl; exact rfl; apply wl_val; apply opv_ldX; exact rfl; exact hs.ar 2 rfl; exact g1_int; exact rfl; exact rfl; apply wl_take; exact rfl; exact rfl; exact rfl; exact rfl; refine wl_bin rfl rfl bin_eql rfl ?_; apply wl_val; apply opv_pickT; exact rfl; exact rfl; exact rfl; exact rfl; refine wl_mv rfl rfl ?_; apply wl_take; exact rfl; exact rfl; exact rfl; refine bT ?_; (with_reducible assumption); apply wl_val; apply opv_fa; exact fa_Pk7; exact rfl; exact rfl; apply wl_take; exact rfl; exact rfl; exact rfl; refine bT ?_; (with_reducible assumption); apply wl_val; apply opv_fa; exact fa_Tx0; exact rfl; exact rfl; apply wl_take; exact rfl; exact rfl; exact rfl; refine bT ?_; (with_reducible assumption); apply wl_val; apply opv_ldX; exact rfl; exact hs.ar 2 rfl; exact g1_u64; exact rfl; exact rfl; apply wl_take; exact rfl; exact rfl; exact rfl; refine bT ?_; (with_reducible assumption); refine wl_mv rfl rfl ?_; apply wl_take; exact rfl; exact rfl; exact rfl; refine bT ?_; (with_reducible assumption); refine wl_bin rfl rfl bin_eql rfl ?_; apply wl_val; apply opv_pickT; exact rfl; refine bT ?_; (with_reducible assumption); exact rfl; exact rfl; refine wl_mv rfl rfl ?_; apply wl_skip; exact rfl; exact rfl; exact rfl; refine bFn ?_; (with_reducible assumption); exact rfl; apply wl_skip; exact rfl; exact rfl; exact rfl; refine bFn ?_; (with_reducible assumption); exact rfl; apply wl_skip; exact rfl; exact rfl; exact rfl; refine bFn ?_; (with_reducible assumption); exact rfl; apply wl_skip; exact rfl; exact rfl; exact rfl; refine bFn ?_; (with_reducible assumption); exact rfl; apply wl_skip; exact rfl; exact rfl; exact rfl; refine bFn ?_; (with_reducible assumption); exact rfl; apply wl_val; apply opv_pickF; exact rfl; refine bF ?_; (with_reducible assumption); exact rfl; exact rfl; refine wl_mv rfl rfl ?_; apply wl_skip; exact rfl; exact rfl; exact rfl; exact bR2; exact rfl; apply wl_skip; exact rfl; exact rfl; exact rfl; exact bR2; exact rfl; apply wl_skip; exact rfl; exact rfl; exact rfl; exact bR2; exact rfl; apply wl_val; apply opv_pickF; exact rfl; exact rfl; exact rfl; exact rfl; refine wl_mv rfl rfl ?_; apply wl_skip; exact rfl; exact rfl; exact rfl; exact bR2; exact rfl; apply wl_skip; exact rfl; exact rfl; exact rfl; exact bR2; exact rfl; apply wl_val; apply opv_pickF; exact rfl; exact rfl; exact rfl; exact rfl; refine wl_as rfl rfl ?_; refine wl_nil ?_
            exact we_cut _ ⟨rfl, hs.drop 0 rfl⟩ ⟨rfl, rfl, rfl, rfl, rfl, rfl, rfl, rfl, rfl, by first | exact congrArg (fun b => some (Value.bool b)) (bF hW).symm | exact congrArg (fun b => some (Value.bool b)) ((bF q2).trans (bF hW).symm), trivial⟩
          by_cases q3 : ((ltx).2 : Int) = (seq : Int)
          rotate_left
          · have hW : ¬ (true = true ∧ (lk : Int) = 5 ∧ ltx = (id, seq) ∧ lcode = 0 ∧ re = 0) := fun z => q3 (by have := congrArg Prod.snd z.2.2.1; dsimp only at this; omega)
            refine wc_region ?_; refine wl_mv rfl rfl ?_; refine wl_mv rfl rfl ?_; apply wl_take; exact rfl; exact rfl; exact rfl; exact rfl; apply wl_val; apply opv_fa; exact fa_Pk0; exact rfl; exact rfl; apply wl_take; exact rfl; exact rfl; exact rfl; exact rfl; apply wl_val; apply opv_ldX; exact rfl; exact hs.ar 2 rfl; exact g1_int; exact rfl; exact rfl; apply wl_take; exact rfl; exact rfl; exact rfl; exact rfl; refine wl_bin rfl rfl bin_eql rfl ?_; apply wl_val; apply opv_pickT; exact rfl; exact rfl; exact rfl; exact rfl; refine wl_mv rfl rfl ?_; apply wl_take; exact rfl; exact rfl; exact rfl; refine bT ?_; (with_reducible assumption); apply wl_val; apply opv_fa; exact fa_Pk7; exact rfl; exact rfl; apply wl_take; exact rfl; exact rfl; exact rfl; refine bT ?_; (with_reducible assumption); apply wl_val; apply opv_fa; exact fa_Tx0; exact rfl; exact rfl; apply wl_take; exact rfl; exact rfl; exact rfl; refine bT ?_; (with_reducible assumption); apply wl_val; apply opv_ldX; exact rfl; exact hs.ar 2 rfl; exact g1_u64; exact rfl; exact rfl; apply wl_take; exact rfl; exact rfl; exact rfl; refine bT ?_; (with_reducible assumption); refine wl_mv rfl rfl ?_; apply wl_take; exact rfl; exact rfl; exact rfl; refine bT ?_; (with_reducible assumption); refine wl_bin rfl rfl bin_eql rfl ?_; apply wl_val; apply opv_pickT; exact rfl; refine bT ?_; (with_reducible assumption); exact rfl; exact rfl; refine wl_mv rfl rfl ?_; apply wl_take; exact rfl; exact rfl; exact rfl; refine bT ?_; (with_reducible assumption); apply wl_val; apply opv_fa; exact fa_Pk7; exact rfl; exact rfl; apply wl_take; exact rfl; exact rfl; exact rfl; refine bT ?_; (with_reducible assumption); apply wl_val; apply opv_fa; exact fa_Tx1; exact rfl; exact rfl; apply wl_take; exact rfl; exact rfl; exact rfl; refine bT ?_; (with_reducible assumption); apply wl_val; apply opv_ldX; exact rfl; exact hs.ar 2 rfl; exact g1_u64; exact rfl; exact rfl; apply wl_take; exact rfl; exact rfl; exact rfl; refine bT ?_; (with_reducible assumption); refine wl_mv rfl rfl ?_; apply wl_take; exact rfl; exact rfl; exact rfl; refine bT ?_; (with_reducible assumption); refine wl_bin rfl rfl bin_eql rfl ?_; apply wl_val; apply opv_pickT; exact rfl; refine bT ?_; (with_reducible assumption); exact rfl; exact rfl; refine wl_mv rfl rfl ?_; apply wl_skip; exact rfl; exact rfl; exact rfl; refine bFn ?_; (with_reducible assumption); exact rfl; apply wl_skip; exact rfl; exact rfl; exact rfl; refine bFn ?_; (with_reducible assumption); exact rfl; apply wl_skip; exact rfl; exact rfl; exact rfl; refine bFn ?_; (with_reducible assumption); exact rfl; apply wl_val; apply opv_pickF; exact rfl; refine bF ?_; (with_reducible assumption); exact rfl; exact rfl; refine wl_mv rfl rfl ?_; apply wl_skip; exact rfl; exact rfl; exact rfl; exact bR2; exact rfl; apply wl_skip; exact rfl; exact rfl; exact rfl; exact bR2; exact rfl; apply wl_val; apply opv_pickF; exact rfl; exact rfl; exact rfl; exact rfl; refine wl_as rfl rfl ?_; refine wl_nil ?_
            exact we_cut _ ⟨rfl, hs.drop 0 rfl⟩ ⟨rfl, rfl, rfl, rfl, rfl, rfl, rfl, rfl, rfl, by first | exact congrArg (fun b => some (Value.bool b)) (bF hW).symm | exact congrArg (fun b => some (Value.bool b)) ((bF q3).trans (bF hW).symm), trivial⟩
          by_cases q4 : lcode = 0
          rotate_left
          · have hW : ¬ (true = true ∧ (lk : Int) = 5 ∧ ltx = (id, seq) ∧ lcode = 0 ∧ re = 0) := fun z => q4 (z.2.2.2.1)
            refine wc_region ?_; refine wl_mv rfl rfl ?_; refine wl_mv rfl rfl ?_; apply wl_take; exact rfl; exact rfl; exact rfl; exact rfl; apply wl_val; apply opv_fa; exact fa_Pk0; exact rfl; exact rfl; apply wl_take; exact rfl; exact rfl; exact rfl; exact rfl; apply wl_val; apply opv_ldX; exact rfl; exact hs.ar 2 rfl; exact g1_int; exact rfl; exact rfl; apply wl_take; exact rfl; exact rfl; exact rfl; exact rfl; refine wl_bin rfl rfl bin_eql rfl ?_; apply wl_val; apply opv_pickT; exact rfl; exact rfl; exact rfl; exact rfl; refine wl_mv rfl rfl ?_; apply wl_take; exact rfl; exact rfl; exact rfl; refine bT ?_; (with_reducible assumption); apply wl_val; apply opv_fa; exact fa_Pk7; exact rfl; exact rfl; apply wl_take; exact rfl; exact rfl; exact rfl; refine bT ?_; (with_reducible assumption); apply wl_val; apply opv_fa; exact fa_Tx0; exact rfl; exact rfl; apply wl_take; exact rfl; exact rfl; exact rfl; refine bT ?_; (with_reducible assumption); apply wl_val; apply opv_ldX; exact rfl; exact hs.ar 2 rfl; exact g1_u64; exact rfl; exact rfl; apply wl_take; exact rfl; exact rfl; exact rfl; refine bT ?_; (with_reducible assumption); refine wl_mv rfl rfl ?_; apply wl_take; exact rfl; exact rfl; exact rfl; refine bT ?_; (with_reducible assumption); refine wl_bin rfl rfl bin_eql rfl ?_; apply wl_val; apply opv_pickT; exact rfl; refine bT ?_; (with_reducible assumption); exact rfl; exact rfl; refine wl_mv rfl rfl ?_; apply wl_take; exact rfl; exact rfl; exact rfl; refine bT ?_; (with_reducible assumption); apply wl_val; apply opv_fa; exact fa_Pk7; exact rfl; exact rfl; apply wl_take; exact rfl; exact rfl; exact rfl; refine bT ?_; (with_reducible assumption); apply wl_val; apply opv_fa; exact fa_Tx1; exact rfl; exact rfl; apply wl_take; exact rfl; exact rfl; exact rfl; refine bT ?_; (with_reducible assumption); apply wl_val; apply opv_ldX; exact rfl; exact hs.ar 2 rfl; exact g1_u64; exact rfl; exact rfl; apply wl_take; exact rfl; exact rfl; exact rfl; refine bT ?_; (with_reducible assumption); refine wl_mv rfl rfl ?_; apply wl_take; exact rfl; exact rfl; exact rfl; refine bT ?_; (with_reducible assumption); refine wl_bin rfl rfl bin_eql rfl ?_; apply wl_val; apply opv_pickT; exact rfl; refine bT ?_; (with_reducible assumption); exact rfl; exact rfl; refine wl_mv rfl rfl ?_; apply wl_take; exact rfl; exact rfl; exact rfl; refine bT ?_; (with_reducible assumption); apply wl_val; apply opv_fa; exact fa_Pk8; exact rfl; exact rfl; apply wl_take; exact rfl; exact rfl; exact rfl; refine bT ?_; (with_reducible assumption); apply wl_val; apply opv_ldX; exact rfl; exact hs.ar 2 rfl; exact g1_err; exact rfl; exact rfl; apply wl_take; exact rfl; exact rfl; exact rfl; refine bT ?_; (with_reducible assumption); refine wl_bin rfl rfl bin_eql rfl ?_; apply wl_val; apply opv_pickT; exact rfl; refine bT ?_; (with_reducible assumption); exact rfl; exact rfl; refine wl_mv rfl rfl ?_; apply wl_skip; exact rfl; exact rfl; exact rfl; refine bFn ?_; (with_reducible assumption); exact rfl; apply wl_skip; exact rfl; exact rfl; exact rfl; refine bFn ?_; (with_reducible assumption); exact rfl; apply wl_val; apply opv_pickF; exact rfl; refine bF ?_; (with_reducible assumption); exact rfl; exact rfl; refine wl_as rfl rfl ?_; refine wl_nil ?_
            exact we_cut _ ⟨rfl, hs.drop 0 rfl⟩ ⟨rfl, rfl, rfl, rfl, rfl, rfl, rfl, rfl, rfl, by first | exact congrArg (fun b => some (Value.bool b)) (bF hW).symm | exact congrArg (fun b => some (Value.bool b)) ((bF q4).trans (bF hW).symm), trivial⟩
          by_cases q5 : (re : Int) = 0
          rotate_left
          · have hW : ¬ (true = true ∧ (lk : Int) = 5 ∧ ltx = (id, seq) ∧ lcode = 0 ∧ re = 0) := fun z => q5 (by have := z.2.2.2.2; omega)
            refine wc_region ?_; refine wl_mv rfl rfl ?_; refine wl_mv rfl rfl ?_; apply wl_take; exact rfl; exact rfl; exact rfl; exact rfl; apply wl_val; apply opv_fa; exact fa_Pk0; exact rfl; exact rfl; apply wl_take; exact rfl; exact rfl; exact rfl; exact rfl; apply wl_val; apply opv_ldX; exact rfl; exact hs.ar 2 rfl; exact g1_int; exact rfl; exact rfl; apply wl_take; exact rfl; exact rfl; exact rfl; exact rfl; refine wl_bin rfl rfl bin_eql rfl ?_; apply wl_val; apply opv_pickT; exact rfl; exact rfl; exact rfl; exact rfl; refine wl_mv rfl rfl ?_; apply wl_take; exact rfl; exact rfl; exact rfl; refine bT ?_; (with_reducible assumption); apply wl_val; apply opv_fa; exact fa_Pk7; exact rfl; exact rfl; apply wl_take; exact rfl; exact rfl; exact rfl; refine bT ?_; (with_reducible assumption); apply wl_val; apply opv_fa; exact fa_Tx0; exact rfl; exact rfl; apply wl_take; exact rfl; exact rfl; exact rfl; refine bT ?_; (with_reducible assumption); apply wl_val; apply opv_ldX; exact rfl; exact hs.ar 2 rfl; exact g1_u64; exact rfl; exact rfl; apply wl_take; exact rfl; exact rfl; exact rfl; refine bT ?_; (with_reducible assumption); refine wl_mv rfl rfl ?_; apply wl_take; exact rfl; exact rfl; exact rfl; refine bT ?_; (with_reducible assumption); refine wl_bin rfl rfl bin_eql rfl ?_; apply wl_val; apply opv_pickT; exact rfl; refine bT ?_; (with_reducible assumption); exact rfl; exact rfl; refine wl_mv rfl rfl ?_; apply wl_take; exact rfl; exact rfl; exact rfl; refine bT ?_; (with_reducible assumption); apply wl_val; apply opv_fa; exact fa_Pk7; exact rfl; exact rfl; apply wl_take; exact rfl; exact rfl; exact rfl; refine bT ?_; (with_reducible assumption); apply wl_val; apply opv_fa; exact fa_Tx1; exact rfl; exact rfl; apply wl_take; exact rfl; exact rfl; exact rfl; refine bT ?_; (with_reducible assumption); apply wl_val; apply opv_ldX; exact rfl; exact hs.ar 2 rfl; exact g1_u64; exact rfl; exact rfl; apply wl_take; exact rfl; exact rfl; exact rfl; refine bT ?_; (with_reducible assumption); refine wl_mv rfl rfl ?_; apply wl_take; exact rfl; exact rfl; exact rfl; refine bT ?_; (with_reducible assumption); refine wl_bin rfl rfl bin_eql rfl ?_; apply wl_val; apply opv_pickT; exact rfl; refine bT ?_; (with_reducible assumption); exact rfl; exact rfl; refine wl_mv rfl rfl ?_; apply wl_take; exact rfl; exact rfl; exact rfl; refine bT ?_; (with_reducible assumption); apply wl_val; apply opv_fa; exact fa_Pk8; exact rfl; exact rfl; apply wl_take; exact rfl; exact rfl; exact rfl; refine bT ?_; (with_reducible assumption); apply wl_val; apply opv_ldX; exact rfl; exact hs.ar 2 rfl; exact g1_err; exact rfl; exact rfl; apply wl_take; exact rfl; exact rfl; exact rfl; refine bT ?_; (with_reducible assumption); refine wl_bin rfl rfl bin_eql rfl ?_; apply wl_val; apply opv_pickT; exact rfl; refine bT ?_; (with_reducible assumption); exact rfl; exact rfl; refine wl_mv rfl rfl ?_; apply wl_take; exact rfl; exact rfl; exact rfl; refine bT ?_; (with_reducible assumption); refine wl_mv rfl rfl ?_; apply wl_take; exact rfl; exact rfl; exact rfl; refine bT ?_; (with_reducible assumption); refine wl_bin rfl rfl bin_eql rfl ?_; apply wl_val; apply opv_pickT; exact rfl; refine bT ?_; (with_reducible assumption); exact rfl; exact rfl; refine wl_as rfl rfl ?_; refine wl_nil ?_
            exact we_cut _ ⟨rfl, hs.drop 0 rfl⟩ ⟨rfl, rfl, rfl, rfl, rfl, rfl, rfl, rfl, rfl, by first | exact congrArg (fun b => some (Value.bool b)) (bF hW).symm | exact congrArg (fun b => some (Value.bool b)) ((bF q5).trans (bF hW).symm), trivial⟩
          have hW : true = true ∧ (lk : Int) = 5 ∧ ltx = (id, seq) ∧ lcode = 0 ∧ re = 0 := ⟨rfl, q1, Prod.ext (by first | rfl | (dsimp only; omega)) (by first | rfl | (dsimp only; omega)), q4, by omega⟩
          refine wc_region ?_; refine wl_mv rfl rfl ?_; refine wl_mv rfl rfl ?_; apply wl_take; exact rfl; exact rfl; exact rfl; exact rfl; apply wl_val; apply opv_fa; exact fa_Pk0; exact rfl; exact rfl; apply wl_take; exact rfl; exact rfl; exact rfl; exact rfl; apply wl_val; apply opv_ldX; exact rfl; exact hs.ar 2 rfl; exact g1_int; exact rfl; exact rfl; apply wl_take; exact rfl; exact rfl; exact rfl; exact rfl; refine wl_bin rfl rfl bin_eql rfl ?_; apply wl_val; apply opv_pickT; exact rfl; exact rfl; exact rfl; exact rfl; refine wl_mv rfl rfl ?_; apply wl_take; exact rfl; exact rfl; exact rfl; refine bT ?_; (with_reducible assumption); apply wl_val; apply opv_fa; exact fa_Pk7; exact rfl; exact rfl; apply wl_take; exact rfl; exact rfl; exact rfl; refine bT ?_; (with_reducible assumption); apply wl_val; apply opv_fa; exact fa_Tx0; exact rfl; exact rfl; apply wl_take; exact rfl; exact rfl; exact rfl; refine bT ?_; (with_reducible assumption); apply wl_val; apply opv_ldX; exact rfl; exact hs.ar 2 rfl; exact g1_u64; exact rfl; exact rfl; apply wl_take; exact rfl; exact rfl; exact rfl; refine bT ?_; (with_reducible assumption); refine wl_mv rfl rfl ?_; apply wl_take; exact rfl; exact rfl; exact rfl; refine bT ?_; (with_reducible assumption); refine wl_bin rfl rfl bin_eql rfl ?_; apply wl_val; apply opv_pickT; exact rfl; refine bT ?_; (with_reducible assumption); exact rfl; exact rfl; refine wl_mv rfl rfl ?_; apply wl_take; exact rfl; exact rfl; exact rfl; refine bT ?_; (with_reducible assumption); apply wl_val; apply opv_fa; exact fa_Pk7; exact rfl; exact rfl; apply wl_take; exact rfl; exact rfl; exact rfl; refine bT ?_; (with_reducible assumption); apply wl_val; apply opv_fa; exact fa_Tx1; exact rfl; exact rfl; apply wl_take; exact rfl; exact rfl; exact rfl; refine bT ?_; (with_reducible assumption); apply wl_val; apply opv_ldX; exact rfl; exact hs.ar 2 rfl; exact g1_u64; exact rfl; exact rfl; apply wl_take; exact rfl; exact rfl; exact rfl; refine bT ?_; (with_reducible assumption); refine wl_mv rfl rfl ?_; apply wl_take; exact rfl; exact rfl; exact rfl; refine bT ?_; (with_reducible assumption); refine wl_bin rfl rfl bin_eql rfl ?_; apply wl_val; apply opv_pickT; exact rfl; refine bT ?_; (with_reducible assumption); exact rfl; exact rfl; refine wl_mv rfl rfl ?_; apply wl_take; exact rfl; exact rfl; exact rfl; refine bT ?_; (with_reducible assumption); apply wl_val; apply opv_fa; exact fa_Pk8; exact rfl; exact rfl; apply wl_take; exact rfl; exact rfl; exact rfl; refine bT ?_; (with_reducible assumption); apply wl_val; apply opv_ldX; exact rfl; exact hs.ar 2 rfl; exact g1_err; exact rfl; exact rfl; apply wl_take; exact rfl; exact rfl; exact rfl; refine bT ?_; (with_reducible assumption); refine wl_bin rfl rfl bin_eql rfl ?_; apply wl_val; apply opv_pickT; exact rfl; refine bT ?_; (with_reducible assumption); exact rfl; exact rfl; refine wl_mv rfl rfl ?_; apply wl_take; exact rfl; exact rfl; exact rfl; refine bT ?_; (with_reducible assumption); refine wl_mv rfl rfl ?_; apply wl_take; exact rfl; exact rfl; exact rfl; refine bT ?_; (with_reducible assumption); refine wl_bin rfl rfl bin_eql rfl ?_; apply wl_val; apply opv_pickT; exact rfl; refine bT ?_; (with_reducible assumption); exact rfl; exact rfl; refine wl_as rfl rfl ?_; refine wl_nil ?_
          exact we_cut _ ⟨rfl, hs.drop 0 rfl⟩ ⟨rfl, rfl, rfl, rfl, rfl, rfl, rfl, rfl, rfl, congrArg (fun b => some (Value.bool b)) ((bT q5).trans (bT hW).symm), trivial⟩
      clear hs
      rintro _ w8 ⟨rfl, hs⟩
      replace hs := (((((((((hs.front 7 rfl).front 7 rfl).front 5 rfl).front 8 rfl).front 5 rfl).front 5 rfl).front 8 rfl).front 8 rfl).front 8 rfl)
      refine wc_sr ?_; refine wl_mv rfl rfl ?_; apply wl_val; apply opv_loadX; exact rfl; exact hs.ar 4 rfl; exact sPk; exact rfl
      obtain ⟨S2, hS2, hB2, hM2, hH2, hB⟩ := St.lend (H1 := [_, _, _]) (H2 := [_, _, _, _, _, _]) hs
      refine wl_call ok_session_Client_Take (ctake_any hS2 (fun w' k => (Sat.kp (i := 0) (hH2 w' k) rfl).2) hpd hpl (by omega)) ⟨rfl, rfl, trivial⟩ rfl ?_
      rintro v8 _ hct
      unfold CtR at hct
      rw [hrq] at hct
      try dsimp only at hct
      by_cases hW : op = true ∧ (lk : Int) = 5 ∧ ltx = (id, seq) ∧ lcode = 0 ∧ re = 0
      · rw [if_pos hW] at hct
        obtain ⟨E, ce, R2, d2, vs2, rfl, hce, hsx⟩ := hct
        replace hs := hB _ _ hsx
        clear hsx hB hH2 hM2 hB2 hS2
        dsimp only [List.cons_append, List.nil_append] at hs
        rw [bT hW]
        refine wl_mv rfl rfl ?_; apply wl_val; apply opv_extract; exact rfl; exact rfl; exact rfl; apply wl_val; apply opv_extract; exact rfl; exact rfl; exact rfl
        refine ws_var (cs := rpV rr E ce) hs zeroRp sRp rfl (fun _ => rfl) (by first | rfl | simp [Value.oneCell']) rfl ?_; clear hs; intro g22 _ hs
        unfold rpV at hs
        refine wl_as rfl rfl ?_; refine wl_ns ?_; refine wc_seq ?_; refine wc_sr ?_; refine wl_mv rfl rfl ?_; refine wl_mv rfl rfl ?_; apply wl_val; apply opv_bin; exact rfl; exact rfl; exact bin_neqBb tyBool24; exact rfl; refine wl_ns ?_; apply wc_condFb; exact rfl; exact rfl; refine wc_skip ?_; refine we_seq ?_; refine wc_sr ?_; refine wl_mv rfl rfl ?_; refine wl_ns ?_; apply wc_condTb; exact rfl; exact rfl; refine wc_seq ?_
        refine wc_heldG (fun w' => Ar w' g18 42 (pkYV lk ltx lcode ldata LD lcd)) 2 mixed ?_
        replace hs := hs.below (Below.refl _ _).drew
        have hS := hs.ar 6 rfl
        apply wm_take 0; exact rfl; intro _ hw_; apply opv_loadX; exact rfl; exact hw_; exact sPk; exact rfl; kernel_rfl; exact hS; apply wm_take 1; exact rfl; intro _ hw_; apply opv_assign; exact rfl; exact rfl; kernel_rfl; exact hS
        clear hS
        refine wm_one 2 (by kernel_rfl) rfl ?_; dsimp only [List.getElem_toArray, List.getElem_cons_succ, List.getElem_cons_zero]
        apply ws_stS hs 7; exact rfl; exact rfl; exact rfl; exact sPk; exact rfl; exact rfl; clear hs; intro _ hs; dsimp only [setC] at hs; refine wl_nil ?_
        refine we_heldM (fun h => absurd h (by decide)) ?_
        refine wm_done (by kernel_rfl) ?_
        refine we_seq ?_; refine wc_region ?_; refine wl_mv rfl rfl ?_; apply wl_val; apply opv_fa; exact fa_Rp0; exact rfl; exact rfl; apply wl_val; apply opv_ldX; exact rfl; exact hs.ar 0 rfl; exact g1_err; exact rfl; exact rfl; apply wl_val; apply opv_fa; exact fa_Rp1; exact rfl; exact rfl; apply wl_val; apply opv_ldX; exact rfl; exact hs.ar 0 rfl; exact g1_int; exact rfl; exact rfl; apply wl_val; apply opv_fa; exact fa_Rp2; exact rfl; exact rfl; apply wl_val; apply opv_ldX; exact rfl; exact hs.ar 0 rfl; exact g1_rss; exact rfl; exact rfl
        refine wl_val (opv_build (vs := [(0, .int .i64 rr.err), (1, .int .i64 rr.at_), (2, .slice E rr.rows.length ce)]) (cs := rpV rr E ce) ⟨rfl, rfl, rfl, rfl, rfl, rfl, trivial⟩ (by kernel_rfl)) rfl ?_
        refine ws_bsR (cs := rpV rr E ce) hs tkRq ⟨_, rfl, rfl⟩ rfl (by decide) rfl ?_
        clear hs; intro B3 _ hs
        skip
        have hcl : css.length = reps.length := by rw [hA.1, List.length_map]
        refine ws_appR (css := [rpV rr E ce]) hs 10 rfl rfl tkRq (by simp [hcl]) rfl (hs.rg 0 rfl).rd rfl (by simp [rpV, Value.oneCell']) (by omega) (by simp only [maxLen]; omega) rfl ?_
        clear hs; intro G2 gc2 _ hs; dsimp only [setC] at hs
        refine wl_as rfl rfl ?_; refine wl_nil ?_; refine we_block_norm ?_
        replace hs := (St.kpAnd ((((((((((((hs.front 6 rfl).front 8 rfl).front 10 rfl).front 7 rfl).front 7 rfl).front 10 rfl).front 8 rfl).front 11 rfl).front 10 rfl).drop 9 rfl).drop 9 rfl).drop 9 rfl))
        replace hs := (hs.front 7 rfl).kpMono (K' := fun w' => RdB w' LD ldata) fun _ h => h.2
        dsimp only [delC] at hs
        rw [show css.map rawEl ++ [rpV rr E ce].map rawEl = (css ++ [rpV rr E ce]).map rawEl by simp] at hs
        have hlen : (reps ++ [ldata]).length = reps.length + 1 := by simp
        refine we_cut _ ⟨seq, false, G2, gc2, reps ++ [ldata], rfl, by omega, by omega, A, c, req, R2, d2, vs2, css ++ [rpV rr E ce], _, lk, ltx, lcode, ldata, LD, lcd, ?_, ?_, hpd, hpl, fun z => absurd z (by decide), (((((((hs.front 7 rfl).front 2 rfl).front 7 rfl).front 7 rfl).front 7 rfl).front 7 rfl).front 7 rfl)⟩ ⟨rfl, rfl, rfl, rfl, rfl, by rw [hlen]; rfl, rfl, rfl, trivial⟩
        · intro r hr
          rcases List.mem_append.1 hr with hr | hr
          · exact hreps r hr
          · rw [List.mem_singleton] at hr; subst hr; exact hpl
        · rw [List.map_append, List.map_cons, List.map_nil, hrq]
          exact (hA.weak fun w h => h.2).snoc fun w' h => ⟨E, ce, rfl, hce, h.1⟩
      · rw [if_neg hW] at hct
        obtain ⟨rfl, hsx⟩ := hct
        replace hs := hB _ _ hsx
        clear hsx hB hH2 hM2 hB2 hS2
        dsimp only [List.cons_append, List.nil_append] at hs
        rw [bF hW]
        refine wl_mv rfl rfl ?_; apply wl_val; apply opv_extract; exact rfl; exact rfl; exact rfl; apply wl_val; apply opv_extract; exact rfl; exact rfl; exact rfl
        refine ws_var (cs := rpV zRp none 0) hs zeroRp sRp rfl (fun _ => rfl) (by first | rfl | simp [Value.oneCell']) rfl ?_; clear hs; intro g22 _ hs
        refine wl_as rfl rfl ?_; refine wl_ns ?_; refine wc_seq ?_; refine wc_sr ?_; refine wl_mv rfl rfl ?_; refine wl_mv rfl rfl ?_; apply wl_val; apply opv_bin; exact rfl; exact rfl; exact bin_neqBb tyBool24; exact rfl; refine wl_ns ?_; apply wc_condFb; exact rfl; exact rfl; refine wc_skip ?_; refine we_seq ?_; refine wc_sr ?_; refine wl_mv rfl rfl ?_; refine wl_ns ?_; apply wc_condFb; exact rfl; exact rfl; refine wc_skip ?_; refine we_block_norm ?_
        replace hs := (hs.front 4 rfl).kpMono (K' := fun w' => RdB w' LD ldata) fun _ h => h.1
        dsimp only [delC] at hs
        exact we_cut _ ⟨seq, op, Gt, gc, reps, rfl, by omega, by omega, A, c, req, R, d, vs, css, K3, lk, ltx, lcode, ldata, LD, lcd, hreps, hA, hl1, hl2, hop, (((((((((hs.front 6 rfl).front 9 rfl).front 9 rfl).front 7 rfl).front 7 rfl).front 9 rfl).front 8 rfl).drop 8 rfl).drop 8 rfl)⟩ ⟨rfl, rfl, rfl, rfl, rfl, rfl, rfl, rfl, trivial⟩
    by_cases n5 : a.kind = 5
    · have n3 : ¬ a.kind = 3 := by omega
      have n4 : ¬ a.kind = 4 := by omega
      refine wc_sr ?_; apply wl_val; apply opv_fa; exact fa_Ac0; exact rfl; exact rfl; apply wl_val; apply opv_ldX; exact rfl; exact hs.ar 0 rfl; exact g1_int; exact rfl; exact rfl; refine wl_ns ?_; refine wc_block ?_; refine wc_sr ?_; refine wl_bin rfl rfl bin_eql rfl ?_; refine wl_as rfl rfl ?_; refine wl_ns ?_; apply wc_decF; exact rfl; (with_reducible assumption); refine wc_sr ?_; refine wl_bin rfl rfl bin_eql rfl ?_; refine wl_as rfl rfl ?_; refine wl_ns ?_; apply wc_decF; exact rfl; (with_reducible assumption); refine wc_seq ?_; refine wc_sr ?_; refine wl_bin rfl rfl bin_eql rfl ?_; refine wl_as rfl rfl ?_; refine wl_ns ?_; apply wc_decF; exact rfl; (with_reducible assumption); refine wc_sr ?_; refine wl_bin rfl rfl bin_eql rfl ?_; refine wl_as rfl rfl ?_; refine wl_ns ?_; apply wc_decF; exact rfl; (with_reducible assumption); refine wc_region ?_; refine wl_bin rfl rfl bin_eql rfl ?_; refine wl_as rfl rfl ?_; refine wl_ns ?_; apply wc_decT; exact rfl; (with_reducible assumption); refine wc_seq ?_
      refine wc_cutE (fun L w' => ∃ (g18 : Nat) (X : Option Addr) (x : Nat), L = [(0, .int .u64 (id : Int)), (1, .slice (some ⟨b0, o0, none⟩) acts.length ac), (5, .pointer (some ⟨g, 0, none⟩)), (6, .int .u64 (seq : Int)), (7, .bool op), (8, .slice Gt reps.length gc), (9, .pointer (some ⟨g9, 0, none⟩)), (10, .int .i64 (i : Int)), (11, .pointer (some ⟨g11, 0, none⟩)), (18, .pointer (some ⟨g18, 0, none⟩))] ∧ St NoB w w' ([.blk g18 42 (pkYV 5 (id, a.seq) a.code (rbB a.err a.at_) X x), .ow 5 X (rbB a.err a.at_).length x (bvs (rbB a.err a.at_)), .blk g11 45 [.int .i64 a.kind, .int .i64 a.to, .int .i64 a.code, .int .i64 a.err, .int .i64 a.at_, .int .u64 (a.seq : Int), .slice O a.ops.length oc, .slice J a.junk.length jc], .blk g 98 (clV id seq A req.length c op R reps.length d), .ow 5 A req.length c (bvs req), .ow 32 R reps.length d vs, .ck (elC w vs reps), .rg 3 64 Gt gc (css.map rawEl), .ck (kp K3), .blk g9 42 (pkYV lk ltx lcode ldata LD lcd), .ck (kp fun w' => RdB w' LD ldata)]) ) ?_ ?_
      · refine wc_heldG (fun w' => Ar w' g11 45 [.int .i64 a.kind, .int .i64 a.to, .int .i64 a.code, .int .i64 a.err, .int .i64 a.at_, .int .u64 (a.seq : Int), .slice O a.ops.length oc, .slice J a.junk.length jc]) 14 mixed ?_
        replace hs := hs.below (Below.refl _ _).drew
        have hS := hs.ar 0 rfl
        apply wm_take 0; exact rfl; intro _ hw_; apply opv_move; exact rfl; exact rfl; kernel_rfl; exact hS; apply wm_take 1; exact rfl; intro _ hw_; apply opv_fa; exact fa_Ac5; exact rfl; exact rfl; kernel_rfl; exact hS; apply wm_take 2; exact rfl; intro _ hw_; apply opv_ldX; exact rfl; assumption; exact g1_u64; exact rfl; exact rfl; kernel_rfl; exact hS
        refine wm_takeP 3 rfl (fun _ => opv_build (vs := [(0, .int .u64 (id : Int)), (1, .int .u64 (a.seq : Int))]) (cs := txW (id, a.seq)) ⟨rfl, rfl, rfl, rfl, trivial⟩ (by kernel_rfl)) rfl (by kernel_rfl) (fun _ => hS) ?_
        apply wm_take 4; exact rfl; intro _ hw_; apply opv_fa; exact fa_Ac2; exact rfl; exact rfl; kernel_rfl; exact hS; apply wm_take 5; exact rfl; intro _ hw_; apply opv_ldX; exact rfl; assumption; exact g1_int; exact rfl; exact rfl; kernel_rfl; exact hS; apply wm_take 6; exact rfl; intro _ hw_; apply opv_fa; exact fa_Ac3; exact rfl; exact rfl; kernel_rfl; exact hS; apply wm_take 7; exact rfl; intro _ hw_; apply opv_ldX; exact rfl; assumption; exact g1_int; exact rfl; exact rfl; kernel_rfl; exact hS; apply wm_take 8; exact rfl; intro _ hw_; apply opv_fa; exact fa_Ac4; exact rfl; exact rfl; kernel_rfl; exact hS; apply wm_take 9; exact rfl; intro _ hw_; apply opv_ldX; exact rfl; assumption; exact g1_int; exact rfl; exact rfl; kernel_rfl; exact hS
        refine wm_takeP 10 rfl (fun _ => opv_build (vs := [(0, .int .i64 a.err), (1, .int .i64 a.at_)]) (cs := rpV ⟨a.err, a.at_, []⟩ none 0) ⟨rfl, rfl, rfl, rfl, trivial⟩ (by kernel_rfl)) rfl (by kernel_rfl) (fun _ => hS) ?_
        clear hS
        refine wm_two 11 13 (by kernel_rfl) rfl rfl ?_ ?_ <;> dsimp only [List.getElem_toArray, List.getElem_cons_succ, List.getElem_cons_zero]
        · refine wl_call ok_plan_Reply_Bytes (rbytes_any a.err a.at_ _) ⟨rfl, trivial⟩ rfl ?_
          rintro _ _ ⟨X11, x11, rfl, hsx⟩
          replace hs := hs.call hsx
          clear hsx
          dsimp only [List.cons_append, List.nil_append] at hs
          refine wl_nil ?_
          refine we_heldM (fun _ => hs.ar 1 rfl) ?_
          have hS := hs.ar 1 rfl
          refine wm_takeP 12 rfl (fun _ => opv_build (vs := [(0, .int .i64 5), (7, .agg (txW (id, a.seq)).toArray), (8, .int .i64 a.code), (11, .slice X11 (rbB a.err a.at_).length x11)]) (cs := pkYV 5 (id, a.seq) a.code (rbB a.err a.at_) X11 x11) ⟨rfl, rfl, rfl, rfl, rfl, rfl, rfl, rfl, trivial⟩ (by kernel_rfl)) rfl (by kernel_rfl) (fun _ => hS) ?_
          clear hS
          refine wm_one 13 (by kernel_rfl) rfl ?_; dsimp only [List.getElem_toArray, List.getElem_cons_succ, List.getElem_cons_zero]
          refine ws_new hs zeroPk rfl ?_; clear hs; intro g18 _ hs
          refine wl_nil ?_
          refine we_heldM (fun _ => hs.ar 2 rfl) ?_
          refine wm_one 14 (by kernel_rfl) rfl ?_; dsimp only [List.getElem_toArray, List.getElem_cons_succ, List.getElem_cons_zero]
          apply ws_stS hs 0; exact rfl; exact rfl; exact rfl; exact sPk; exact rfl; exact rfl; clear hs; intro _ hs; dsimp only [setC] at hs; refine wl_nil ?_
          refine we_heldM (fun h => absurd h (by decide)) ?_
          refine wm_done (by kernel_rfl) ?_
          exact we_cut _ ⟨g18, X11, x11, rfl, (((((((((((hs.front 10 rfl).front 10 rfl).front 10 rfl).front 10 rfl).front 10 rfl).front 10 rfl).front 10 rfl).front 10 rfl).front 10 rfl).front 10 rfl).front 10 rfl)⟩ ⟨rfl, rfl, rfl, rfl, rfl, rfl, rfl, rfl, rfl, rfl, trivial⟩
        · refine ws_new hs zeroPk rfl ?_; clear hs; intro g18 _ hs
          refine wl_nil ?_
          refine we_heldM (fun _ => hs.ar 1 rfl) ?_
          refine wm_one 11 (by kernel_rfl) rfl ?_; dsimp only [List.getElem_toArray, List.getElem_cons_succ, List.getElem_cons_zero]
          refine wl_call ok_plan_Reply_Bytes (rbytes_any a.err a.at_ _) ⟨rfl, trivial⟩ rfl ?_
          rintro _ _ ⟨X11, x11, rfl, hsx⟩
          replace hs := hs.call hsx
          clear hsx
          dsimp only [List.cons_append, List.nil_append] at hs
          refine wl_nil ?_
          refine we_heldM (fun _ => hs.ar 2 rfl) ?_
          have hS := hs.ar 2 rfl
          refine wm_takeP 12 rfl (fun _ => opv_build (vs := [(0, .int .i64 5), (7, .agg (txW (id, a.seq)).toArray), (8, .int .i64 a.code), (11, .slice X11 (rbB a.err a.at_).length x11)]) (cs := pkYV 5 (id, a.seq) a.code (rbB a.err a.at_) X11 x11) ⟨rfl, rfl, rfl, rfl, rfl, rfl, rfl, rfl, trivial⟩ (by kernel_rfl)) rfl (by kernel_rfl) (fun _ => hS) ?_
          clear hS
          refine wm_one 14 (by kernel_rfl) rfl ?_; dsimp only [List.getElem_toArray, List.getElem_cons_succ, List.getElem_cons_zero]
          apply ws_stS hs 1; exact rfl; exact rfl; exact rfl; exact sPk; exact rfl; exact rfl; clear hs; intro _ hs; dsimp only [setC] at hs; refine wl_nil ?_
          refine we_heldM (fun h => absurd h (by decide)) ?_
          refine wm_done (by kernel_rfl) ?_
          exact we_cut _ ⟨g18, X11, x11, rfl, (((((((((((hs.front 10 rfl).front 10 rfl).front 10 rfl).front 10 rfl).front 10 rfl).front 10 rfl).front 10 rfl).front 10 rfl).front 10 rfl).front 9 rfl).front 10 rfl)⟩ ⟨rfl, rfl, rfl, rfl, rfl, rfl, rfl, rfl, rfl, rfl, trivial⟩
      clear hs
      rintro _ w6 ⟨g18, X, x, rfl, hs⟩
      have hxc := OwB.cap (hs.ow 1 rfl)
      have hrb := rbB_le a.err a.at_
      obtain ⟨pd, hpde⟩ : ∃ pd, rbB a.err a.at_ = pd := ⟨_, rfl⟩
      rw [hpde] at hs hxc hrb
      unfold pkYV pkY pkV msV reV zMsg zRes at hs
      dsimp only [List.cons_append, List.nil_append, List.length_nil] at hs
      refine we_seq ?_; refine wc_seq ?_; refine wc_sr ?_; apply wl_val; apply opv_fa; exact fa_Ac0; exact rfl; exact rfl; apply wl_val; apply opv_ldX; exact rfl; exact hs.ar 2 rfl; exact g1_int; exact rfl; exact rfl; refine wl_bin rfl rfl bin_eql rfl ?_; refine wl_ns ?_; apply wc_decF; exact rfl; (with_reducible assumption); refine wc_skip ?_; refine we_seq ?_; refine wc_seq ?_; refine wc_sr ?_; apply wl_val; apply opv_fa; exact fa_Ac0; exact rfl; exact rfl; apply wl_val; apply opv_ldX; exact rfl; exact hs.ar 2 rfl; exact g1_int; exact rfl; exact rfl; refine wl_bin rfl rfl bin_eql rfl ?_; refine wl_ns ?_; apply wc_decT; exact rfl; (with_reducible assumption); refine wc_region ?_; apply wl_val; apply opv_fa; exact fa_Ac7; exact rfl; exact rfl; apply wl_val; apply opv_ldX; exact rfl; exact hs.ar 2 rfl; exact g1_by; exact rfl; exact rfl
      refine wl_call ok_caissonref01_Copy (copy_any (rJ.1.below hs.bel) rfl (by omega)) ⟨rfl, trivial⟩ rfl ?_
      rintro _ _ ⟨X2, x2, rfl, o_, hbx⟩
      have hpd := OwB.cap o_
      replace hs := hs.newO hbx o_ (Nat.le_refl _)
      clear hbx o_
      apply wl_val; apply opv_fa; exact fa_Pk11; exact rfl; exact rfl; apply ws_st hs 1; exact rfl; exact rfl; exact g1_by; exact rfl; exact rfl; exact rfl; clear hs; intro _ hs; dsimp only [setC, List.set] at hs; refine wl_ns ?_; refine wc_sr ?_; apply wl_val; apply opv_fa; exact fa_Pk11; exact rfl; exact rfl; apply wl_val; apply opv_ldX; exact rfl; exact hs.ar 1 rfl; exact g1_by; exact rfl; exact rfl
      have hpl : a.junk.length ≤ 16777216 := by omega
      replace hs := (St.kpOf (K := (fun w' => RdB w' LD ldata ∧ RdB w' X2 a.junk)) (H1 := [_, _]) ((((((((((((hs.front 10 rfl).front 10 rfl).front 10 rfl).front 10 rfl).front 10 rfl).front 10 rfl).front 10 rfl).front 8 rfl).front 11 rfl).front 9 rfl).drop 10 rfl).drop 10 rfl) fun w S hS => ⟨Sat.kp (i := 1) hS rfl, (sat_ow hS 0 rfl).rd⟩)
      dsimp only [delC] at hs
      skip
      obtain ⟨⟨rr, re⟩, hrq⟩ : ∃ q, readRp a.junk = q := ⟨_, rfl⟩
      have hcall := lread_any (hs.kp 0 rfl).2 rfl hpd (by omega)
      rw [hrq] at hcall
      refine wl_call ok_plan_Read hcall ⟨rfl, trivial⟩ rfl ?_
      clear hcall
      rintro _ _ ⟨E0, ce0, rfl, _, hsx⟩
      replace hs := (hs.call hsx).drop 0 rfl
      clear hsx
      dsimp only [List.cons_append, List.nil_append, delC] at hs
      refine wl_mv rfl rfl ?_; apply wl_val; apply opv_extract; exact rfl; exact rfl; exact rfl; apply wl_val; apply opv_extract; exact rfl; exact rfl; exact rfl
      refine ws_var (cs := rpV rr E0 ce0) hs zeroRp sRp rfl (fun _ => rfl) (by first | rfl | simp [Value.oneCell']) rfl ?_; clear hs; intro g19 _ hs
      refine wl_as rfl rfl ?_
      refine wl_ns ?_
      refine wc_cut (fun L w' => L = [(0, .int .u64 (id : Int)), (1, .slice (some ⟨b0, o0, none⟩) acts.length ac), (5, .pointer (some ⟨g, 0, none⟩)), (6, .int .u64 (seq : Int)), (7, .bool op), (8, .slice Gt reps.length gc), (9, .pointer (some ⟨g9, 0, none⟩)), (10, .int .i64 (i : Int)), (18, .pointer (some ⟨g18, 0, none⟩)), (21, .bool (decide (op = true ∧ (5 : Int) = 5 ∧ (id, a.seq) = (id, seq) ∧ a.code = 0 ∧ re = 0)))] ∧ St NoB w w' [.ck (kp (fun w' => RdB w' LD ldata ∧ RdB w' X2 a.junk)), .blk g18 42 (pkYV 5 (id, a.seq) a.code a.junk X2 x2), .blk g 98 (clV id seq A req.length c op R reps.length d), .ow 5 A req.length c (bvs req), .ow 32 R reps.length d vs, .ck (elC w vs reps), .rg 3 64 Gt gc (css.map rawEl), .ck (kp K3), .blk g9 42 (pkYV lk ltx lcode ldata LD lcd)]) ?_ ?_
      · cases op with
        | false =>
          have hW : ¬ (false = true ∧ (5 : Int) = 5 ∧ (id, a.seq) = (id, seq) ∧ a.code = 0 ∧ re = 0) := fun z => absurd z.1 (by decide)
          refine wc_region ?_; refine wl_mv rfl rfl ?_; refine wl_mv rfl rfl ?_; apply wl_skip; exact rfl; exact rfl; exact rfl; exact bR2; exact rfl; apply wl_skip; exact rfl; exact rfl; exact rfl; exact bR2; exact rfl; apply wl_skip; exact rfl; exact rfl; exact rfl; exact bR2; exact rfl; apply wl_val; apply opv_pickF; exact rfl; exact rfl; exact rfl; exact rfl; refine wl_mv rfl rfl ?_; apply wl_skip; exact rfl; exact rfl; exact rfl; exact bR2; exact rfl; apply wl_skip; exact rfl; exact rfl; exact rfl; exact bR2; exact rfl; apply wl_skip; exact rfl; exact rfl; exact rfl; exact bR2; exact rfl; apply wl_skip; exact rfl; exact rfl; exact rfl; exact bR2; exact rfl; apply wl_skip; exact rfl; exact rfl; exact rfl; exact bR2; exact rfl; apply wl_val; apply opv_pickF; exact rfl; exact rfl; exact rfl; exact rfl; refine wl_mv rfl rfl ?_; apply wl_skip; exact rfl; exact rfl; exact rfl; exact bR2; exact rfl; apply wl_skip; exact rfl; exact rfl; exact rfl; exact bR2; exact rfl; apply wl_skip; exact rfl; exact rfl; exact rfl; exact bR2; exact rfl; apply wl_skip; exact rfl; exact rfl; exact rfl; exact bR2; exact rfl; apply wl_skip; exact rfl; exact rfl; exact rfl; exact bR2; exact rfl; apply wl_val; apply opv_pickF; exact rfl; exact rfl; exact rfl; exact rfl; refine wl_mv rfl rfl ?_; apply wl_skip; exact rfl; exact rfl; exact rfl; exact bR2; exact rfl; apply wl_skip; exact rfl; exact rfl; exact rfl; exact bR2; exact rfl; apply wl_skip; exact rfl; exact rfl; exact rfl; exact bR2; exact rfl; apply wl_val; apply opv_pickF; exact rfl; exact rfl; exact rfl; exact rfl; refine wl_mv rfl rfl ?_; apply wl_skip; exact rfl; exact rfl; exact rfl; exact bR2; exact rfl; apply wl_skip; exact rfl; exact rfl; exact rfl; exact bR2; exact rfl; apply wl_val; apply opv_pickF; exact rfl; exact rfl; exact rfl; exact rfl; refine wl_as rfl rfl ?_; refine wl_nil ?_
          exact we_cut _ ⟨rfl, hs.drop 0 rfl⟩ ⟨rfl, rfl, rfl, rfl, rfl, rfl, rfl, rfl, rfl, by first | exact congrArg (fun b => some (Value.bool b)) (bF hW).symm, trivial⟩
        | true =>
          by_cases q3 : (a.seq : Int) = (seq : Int)
          rotate_left
          · have hW : ¬ (true = true ∧ (5 : Int) = 5 ∧ (id, a.seq) = (id, seq) ∧ a.code = 0 ∧ re = 0) := fun z => q3 (by have := congrArg Prod.snd z.2.2.1; dsimp only at this; omega)
            refine wc_region ?_; refine wl_mv rfl rfl ?_; refine wl_mv rfl rfl ?_; apply wl_take; exact rfl; exact rfl; exact rfl; exact rfl; apply wl_val; apply opv_fa; exact fa_Pk0; exact rfl; exact rfl; apply wl_take; exact rfl; exact rfl; exact rfl; exact rfl; apply wl_val; apply opv_ldX; exact rfl; exact hs.ar 2 rfl; exact g1_int; exact rfl; exact rfl; apply wl_take; exact rfl; exact rfl; exact rfl; exact rfl; refine wl_bin rfl rfl bin_eql rfl ?_; apply wl_val; apply opv_pickT; exact rfl; exact rfl; exact rfl; exact rfl; refine wl_mv rfl rfl ?_; apply wl_take; exact rfl; exact rfl; exact rfl; refine bT ?_; (with_reducible rfl); apply wl_val; apply opv_fa; exact fa_Pk7; exact rfl; exact rfl; apply wl_take; exact rfl; exact rfl; exact rfl; refine bT ?_; (with_reducible rfl); apply wl_val; apply opv_fa; exact fa_Tx0; exact rfl; exact rfl; apply wl_take; exact rfl; exact rfl; exact rfl; refine bT ?_; (with_reducible rfl); apply wl_val; apply opv_ldX; exact rfl; exact hs.ar 2 rfl; exact g1_u64; exact rfl; exact rfl; apply wl_take; exact rfl; exact rfl; exact rfl; refine bT ?_; (with_reducible rfl); refine wl_mv rfl rfl ?_; apply wl_take; exact rfl; exact rfl; exact rfl; refine bT ?_; (with_reducible rfl); refine wl_bin rfl rfl bin_eql rfl ?_; apply wl_val; apply opv_pickT; exact rfl; refine bT ?_; (with_reducible rfl); exact rfl; exact rfl; refine wl_mv rfl rfl ?_; apply wl_take; exact rfl; exact rfl; exact rfl; refine bT ?_; (with_reducible rfl); apply wl_val; apply opv_fa; exact fa_Pk7; exact rfl; exact rfl; apply wl_take; exact rfl; exact rfl; exact rfl; refine bT ?_; (with_reducible rfl); apply wl_val; apply opv_fa; exact fa_Tx1; exact rfl; exact rfl; apply wl_take; exact rfl; exact rfl; exact rfl; refine bT ?_; (with_reducible rfl); apply wl_val; apply opv_ldX; exact rfl; exact hs.ar 2 rfl; exact g1_u64; exact rfl; exact rfl; apply wl_take; exact rfl; exact rfl; exact rfl; refine bT ?_; (with_reducible rfl); refine wl_mv rfl rfl ?_; apply wl_take; exact rfl; exact rfl; exact rfl; refine bT ?_; (with_reducible rfl); refine wl_bin rfl rfl bin_eql rfl ?_; apply wl_val; apply opv_pickT; exact rfl; refine bT ?_; (with_reducible rfl); exact rfl; exact rfl; refine wl_mv rfl rfl ?_; apply wl_skip; exact rfl; exact rfl; exact rfl; refine bFn ?_; (with_reducible assumption); exact rfl; apply wl_skip; exact rfl; exact rfl; exact rfl; refine bFn ?_; (with_reducible assumption); exact rfl; apply wl_skip; exact rfl; exact rfl; exact rfl; refine bFn ?_; (with_reducible assumption); exact rfl; apply wl_val; apply opv_pickF; exact rfl; refine bF ?_; (with_reducible assumption); exact rfl; exact rfl; refine wl_mv rfl rfl ?_; apply wl_skip; exact rfl; exact rfl; exact rfl; exact bR2; exact rfl; apply wl_skip; exact rfl; exact rfl; exact rfl; exact bR2; exact rfl; apply wl_val; apply opv_pickF; exact rfl; exact rfl; exact rfl; exact rfl; refine wl_as rfl rfl ?_; refine wl_nil ?_
            exact we_cut _ ⟨rfl, hs.drop 0 rfl⟩ ⟨rfl, rfl, rfl, rfl, rfl, rfl, rfl, rfl, rfl, by first | exact congrArg (fun b => some (Value.bool b)) (bF hW).symm | exact congrArg (fun b => some (Value.bool b)) ((bF q3).trans (bF hW).symm), trivial⟩
          by_cases q4 : a.code = 0
          rotate_left
          · have hW : ¬ (true = true ∧ (5 : Int) = 5 ∧ (id, a.seq) = (id, seq) ∧ a.code = 0 ∧ re = 0) := fun z => q4 (z.2.2.2.1)
            refine wc_region ?_; refine wl_mv rfl rfl ?_; refine wl_mv rfl rfl ?_; apply wl_take; exact rfl; exact rfl; exact rfl; exact rfl; apply wl_val; apply opv_fa; exact fa_Pk0; exact rfl; exact rfl; apply wl_take; exact rfl; exact rfl; exact rfl; exact rfl; apply wl_val; apply opv_ldX; exact rfl; exact hs.ar 2 rfl; exact g1_int; exact rfl; exact rfl; apply wl_take; exact rfl; exact rfl; exact rfl; exact rfl; refine wl_bin rfl rfl bin_eql rfl ?_; apply wl_val; apply opv_pickT; exact rfl; exact rfl; exact rfl; exact rfl; refine wl_mv rfl rfl ?_; apply wl_take; exact rfl; exact rfl; exact rfl; refine bT ?_; (with_reducible rfl); apply wl_val; apply opv_fa; exact fa_Pk7; exact rfl; exact rfl; apply wl_take; exact rfl; exact rfl; exact rfl; refine bT ?_; (with_reducible rfl); apply wl_val; apply opv_fa; exact fa_Tx0; exact rfl; exact rfl; apply wl_take; exact rfl; exact rfl; exact rfl; refine bT ?_; (with_reducible rfl); apply wl_val; apply opv_ldX; exact rfl; exact hs.ar 2 rfl; exact g1_u64; exact rfl; exact rfl; apply wl_take; exact rfl; exact rfl; exact rfl; refine bT ?_; (with_reducible rfl); refine wl_mv rfl rfl ?_; apply wl_take; exact rfl; exact rfl; exact rfl; refine bT ?_; (with_reducible rfl); refine wl_bin rfl rfl bin_eql rfl ?_; apply wl_val; apply opv_pickT; exact rfl; refine bT ?_; (with_reducible rfl); exact rfl; exact rfl; refine wl_mv rfl rfl ?_; apply wl_take; exact rfl; exact rfl; exact rfl; refine bT ?_; (with_reducible rfl); apply wl_val; apply opv_fa; exact fa_Pk7; exact rfl; exact rfl; apply wl_take; exact rfl; exact rfl; exact rfl; refine bT ?_; (with_reducible rfl); apply wl_val; apply opv_fa; exact fa_Tx1; exact rfl; exact rfl; apply wl_take; exact rfl; exact rfl; exact rfl; refine bT ?_; (with_reducible rfl); apply wl_val; apply opv_ldX; exact rfl; exact hs.ar 2 rfl; exact g1_u64; exact rfl; exact rfl; apply wl_take; exact rfl; exact rfl; exact rfl; refine bT ?_; (with_reducible rfl); refine wl_mv rfl rfl ?_; apply wl_take; exact rfl; exact rfl; exact rfl; refine bT ?_; (with_reducible rfl); refine wl_bin rfl rfl bin_eql rfl ?_; apply wl_val; apply opv_pickT; exact rfl; refine bT ?_; (with_reducible rfl); exact rfl; exact rfl; refine wl_mv rfl rfl ?_; apply wl_take; exact rfl; exact rfl; exact rfl; refine bT ?_; (with_reducible assumption); apply wl_val; apply opv_fa; exact fa_Pk8; exact rfl; exact rfl; apply wl_take; exact rfl; exact rfl; exact rfl; refine bT ?_; (with_reducible assumption); apply wl_val; apply opv_ldX; exact rfl; exact hs.ar 2 rfl; exact g1_err; exact rfl; exact rfl; apply wl_take; exact rfl; exact rfl; exact rfl; refine bT ?_; (with_reducible assumption); refine wl_bin rfl rfl bin_eql rfl ?_; apply wl_val; apply opv_pickT; exact rfl; refine bT ?_; (with_reducible assumption); exact rfl; exact rfl; refine wl_mv rfl rfl ?_; apply wl_skip; exact rfl; exact rfl; exact rfl; refine bFn ?_; (with_reducible assumption); exact rfl; apply wl_skip; exact rfl; exact rfl; exact rfl; refine bFn ?_; (with_reducible assumption); exact rfl; apply wl_val; apply opv_pickF; exact rfl; refine bF ?_; (with_reducible assumption); exact rfl; exact rfl; refine wl_as rfl rfl ?_; refine wl_nil ?_
            exact we_cut _ ⟨rfl, hs.drop 0 rfl⟩ ⟨rfl, rfl, rfl, rfl, rfl, rfl, rfl, rfl, rfl, by first | exact congrArg (fun b => some (Value.bool b)) (bF hW).symm | exact congrArg (fun b => some (Value.bool b)) ((bF q4).trans (bF hW).symm), trivial⟩
          by_cases q5 : (re : Int) = 0
          rotate_left
          · have hW : ¬ (true = true ∧ (5 : Int) = 5 ∧ (id, a.seq) = (id, seq) ∧ a.code = 0 ∧ re = 0) := fun z => q5 (by have := z.2.2.2.2; omega)
            refine wc_region ?_; refine wl_mv rfl rfl ?_; refine wl_mv rfl rfl ?_; apply wl_take; exact rfl; exact rfl; exact rfl; exact rfl; apply wl_val; apply opv_fa; exact fa_Pk0; exact rfl; exact rfl; apply wl_take; exact rfl; exact rfl; exact rfl; exact rfl; apply wl_val; apply opv_ldX; exact rfl; exact hs.ar 2 rfl; exact g1_int; exact rfl; exact rfl; apply wl_take; exact rfl; exact rfl; exact rfl; exact rfl; refine wl_bin rfl rfl bin_eql rfl ?_; apply wl_val; apply opv_pickT; exact rfl; exact rfl; exact rfl; exact rfl; refine wl_mv rfl rfl ?_; apply wl_take; exact rfl; exact rfl; exact rfl; refine bT ?_; (with_reducible rfl); apply wl_val; apply opv_fa; exact fa_Pk7; exact rfl; exact rfl; apply wl_take; exact rfl; exact rfl; exact rfl; refine bT ?_; (with_reducible rfl); apply wl_val; apply opv_fa; exact fa_Tx0; exact rfl; exact rfl; apply wl_take; exact rfl; exact rfl; exact rfl; refine bT ?_; (with_reducible rfl); apply wl_val; apply opv_ldX; exact rfl; exact hs.ar 2 rfl; exact g1_u64; exact rfl; exact rfl; apply wl_take; exact rfl; exact rfl; exact rfl; refine bT ?_; (with_reducible rfl); refine wl_mv rfl rfl ?_; apply wl_take; exact rfl; exact rfl; exact rfl; refine bT ?_; (with_reducible rfl); refine wl_bin rfl rfl bin_eql rfl ?_; apply wl_val; apply opv_pickT; exact rfl; refine bT ?_; (with_reducible rfl); exact rfl; exact rfl; refine wl_mv rfl rfl ?_; apply wl_take; exact rfl; exact rfl; exact rfl; refine bT ?_; (with_reducible rfl); apply wl_val; apply opv_fa; exact fa_Pk7; exact rfl; exact rfl; apply wl_take; exact rfl; exact rfl; exact rfl; refine bT ?_; (with_reducible rfl); apply wl_val; apply opv_fa; exact fa_Tx1; exact rfl; exact rfl; apply wl_take; exact rfl; exact rfl; exact rfl; refine bT ?_; (with_reducible rfl); apply wl_val; apply opv_ldX; exact rfl; exact hs.ar 2 rfl; exact g1_u64; exact rfl; exact rfl; apply wl_take; exact rfl; exact rfl; exact rfl; refine bT ?_; (with_reducible rfl); refine wl_mv rfl rfl ?_; apply wl_take; exact rfl; exact rfl; exact rfl; refine bT ?_; (with_reducible rfl); refine wl_bin rfl rfl bin_eql rfl ?_; apply wl_val; apply opv_pickT; exact rfl; refine bT ?_; (with_reducible rfl); exact rfl; exact rfl; refine wl_mv rfl rfl ?_; apply wl_take; exact rfl; exact rfl; exact rfl; refine bT ?_; (with_reducible assumption); apply wl_val; apply opv_fa; exact fa_Pk8; exact rfl; exact rfl; apply wl_take; exact rfl; exact rfl; exact rfl; refine bT ?_; (with_reducible assumption); apply wl_val; apply opv_ldX; exact rfl; exact hs.ar 2 rfl; exact g1_err; exact rfl; exact rfl; apply wl_take; exact rfl; exact rfl; exact rfl; refine bT ?_; (with_reducible assumption); refine wl_bin rfl rfl bin_eql rfl ?_; apply wl_val; apply opv_pickT; exact rfl; refine bT ?_; (with_reducible assumption); exact rfl; exact rfl; refine wl_mv rfl rfl ?_; apply wl_take; exact rfl; exact rfl; exact rfl; refine bT ?_; (with_reducible assumption); refine wl_mv rfl rfl ?_; apply wl_take; exact rfl; exact rfl; exact rfl; refine bT ?_; (with_reducible assumption); refine wl_bin rfl rfl bin_eql rfl ?_; apply wl_val; apply opv_pickT; exact rfl; refine bT ?_; (with_reducible assumption); exact rfl; exact rfl; refine wl_as rfl rfl ?_; refine wl_nil ?_
            exact we_cut _ ⟨rfl, hs.drop 0 rfl⟩ ⟨rfl, rfl, rfl, rfl, rfl, rfl, rfl, rfl, rfl, by first | exact congrArg (fun b => some (Value.bool b)) (bF hW).symm | exact congrArg (fun b => some (Value.bool b)) ((bF q5).trans (bF hW).symm), trivial⟩
          have hW : true = true ∧ (5 : Int) = 5 ∧ (id, a.seq) = (id, seq) ∧ a.code = 0 ∧ re = 0 := ⟨rfl, rfl, Prod.ext (by first | rfl | (dsimp only; omega)) (by first | rfl | (dsimp only; omega)), q4, by omega⟩
          refine wc_region ?_; refine wl_mv rfl rfl ?_; refine wl_mv rfl rfl ?_; apply wl_take; exact rfl; exact rfl; exact rfl; exact rfl; apply wl_val; apply opv_fa; exact fa_Pk0; exact rfl; exact rfl; apply wl_take; exact rfl; exact rfl; exact rfl; exact rfl; apply wl_val; apply opv_ldX; exact rfl; exact hs.ar 2 rfl; exact g1_int; exact rfl; exact rfl; apply wl_take; exact rfl; exact rfl; exact rfl; exact rfl; refine wl_bin rfl rfl bin_eql rfl ?_; apply wl_val; apply opv_pickT; exact rfl; exact rfl; exact rfl; exact rfl; refine wl_mv rfl rfl ?_; apply wl_take; exact rfl; exact rfl; exact rfl; refine bT ?_; (with_reducible rfl); apply wl_val; apply opv_fa; exact fa_Pk7; exact rfl; exact rfl; apply wl_take; exact rfl; exact rfl; exact rfl; refine bT ?_; (with_reducible rfl); apply wl_val; apply opv_fa; exact fa_Tx0; exact rfl; exact rfl; apply wl_take; exact rfl; exact rfl; exact rfl; refine bT ?_; (with_reducible rfl); apply wl_val; apply opv_ldX; exact rfl; exact hs.ar 2 rfl; exact g1_u64; exact rfl; exact rfl; apply wl_take; exact rfl; exact rfl; exact rfl; refine bT ?_; (with_reducible rfl); refine wl_mv rfl rfl ?_; apply wl_take; exact rfl; exact rfl; exact rfl; refine bT ?_; (with_reducible rfl); refine wl_bin rfl rfl bin_eql rfl ?_; apply wl_val; apply opv_pickT; exact rfl; refine bT ?_; (with_reducible rfl); exact rfl; exact rfl; refine wl_mv rfl rfl ?_; apply wl_take; exact rfl; exact rfl; exact rfl; refine bT ?_; (with_reducible rfl); apply wl_val; apply opv_fa; exact fa_Pk7; exact rfl; exact rfl; apply wl_take; exact rfl; exact rfl; exact rfl; refine bT ?_; (with_reducible rfl); apply wl_val; apply opv_fa; exact fa_Tx1; exact rfl; exact rfl; apply wl_take; exact rfl; exact rfl; exact rfl; refine bT ?_; (with_reducible rfl); apply wl_val; apply opv_ldX; exact rfl; exact hs.ar 2 rfl; exact g1_u64; exact rfl; exact rfl; apply wl_take; exact rfl; exact rfl; exact rfl; refine bT ?_; (with_reducible rfl); refine wl_mv rfl rfl ?_; apply wl_take; exact rfl; exact rfl; exact rfl; refine bT ?_; (with_reducible rfl); refine wl_bin rfl rfl bin_eql rfl ?_; apply wl_val; apply opv_pickT; exact rfl; refine bT ?_; (with_reducible rfl); exact rfl; exact rfl; refine wl_mv rfl rfl ?_; apply wl_take; exact rfl; exact rfl; exact rfl; refine bT ?_; (with_reducible assumption); apply wl_val; apply opv_fa; exact fa_Pk8; exact rfl; exact rfl; apply wl_take; exact rfl; exact rfl; exact rfl; refine bT ?_; (with_reducible assumption); apply wl_val; apply opv_ldX; exact rfl; exact hs.ar 2 rfl; exact g1_err; exact rfl; exact rfl; apply wl_take; exact rfl; exact rfl; exact rfl; refine bT ?_; (with_reducible assumption); refine wl_bin rfl rfl bin_eql rfl ?_; apply wl_val; apply opv_pickT; exact rfl; refine bT ?_; (with_reducible assumption); exact rfl; exact rfl; refine wl_mv rfl rfl ?_; apply wl_take; exact rfl; exact rfl; exact rfl; refine bT ?_; (with_reducible assumption); refine wl_mv rfl rfl ?_; apply wl_take; exact rfl; exact rfl; exact rfl; refine bT ?_; (with_reducible assumption); refine wl_bin rfl rfl bin_eql rfl ?_; apply wl_val; apply opv_pickT; exact rfl; refine bT ?_; (with_reducible assumption); exact rfl; exact rfl; refine wl_as rfl rfl ?_; refine wl_nil ?_
          exact we_cut _ ⟨rfl, hs.drop 0 rfl⟩ ⟨rfl, rfl, rfl, rfl, rfl, rfl, rfl, rfl, rfl, congrArg (fun b => some (Value.bool b)) ((bT q5).trans (bT hW).symm), trivial⟩
      clear hs
      rintro _ w8 ⟨rfl, hs⟩
      replace hs := (((((((((hs.front 7 rfl).front 7 rfl).front 5 rfl).front 8 rfl).front 5 rfl).front 5 rfl).front 8 rfl).front 8 rfl).front 8 rfl)
      refine wc_sr ?_; refine wl_mv rfl rfl ?_; apply wl_val; apply opv_loadX; exact rfl; exact hs.ar 4 rfl; exact sPk; exact rfl
      obtain ⟨S2, hS2, hB2, hM2, hH2, hB⟩ := St.lend (H1 := [_, _, _]) (H2 := [_, _, _, _, _, _]) hs
      refine wl_call ok_session_Client_Take (ctake_any hS2 (fun w' k => (Sat.kp (i := 0) (hH2 w' k) rfl).2) hpd hpl (by omega)) ⟨rfl, rfl, trivial⟩ rfl ?_
      rintro v8 _ hct
      unfold CtR at hct
      rw [hrq] at hct
      try dsimp only at hct
      by_cases hW : op = true ∧ (5 : Int) = 5 ∧ (id, a.seq) = (id, seq) ∧ a.code = 0 ∧ re = 0
      · rw [if_pos hW] at hct
        obtain ⟨E, ce, R2, d2, vs2, rfl, hce, hsx⟩ := hct
        replace hs := hB _ _ hsx
        clear hsx hB hH2 hM2 hB2 hS2
        dsimp only [List.cons_append, List.nil_append] at hs
        rw [bT hW]
        refine wl_mv rfl rfl ?_; apply wl_val; apply opv_extract; exact rfl; exact rfl; exact rfl; apply wl_val; apply opv_extract; exact rfl; exact rfl; exact rfl
        refine ws_var (cs := rpV rr E ce) hs zeroRp sRp rfl (fun _ => rfl) (by first | rfl | simp [Value.oneCell']) rfl ?_; clear hs; intro g22 _ hs
        unfold rpV at hs
        refine wl_as rfl rfl ?_; refine wl_ns ?_; refine wc_seq ?_; refine wc_sr ?_; refine wl_mv rfl rfl ?_; refine wl_mv rfl rfl ?_; apply wl_val; apply opv_bin; exact rfl; exact rfl; exact bin_neqBb tyBool24; exact rfl; refine wl_ns ?_; apply wc_condFb; exact rfl; exact rfl; refine wc_skip ?_; refine we_seq ?_; refine wc_sr ?_; refine wl_mv rfl rfl ?_; refine wl_ns ?_; apply wc_condTb; exact rfl; exact rfl; refine wc_seq ?_
        refine wc_heldG (fun w' => Ar w' g18 42 (pkYV 5 (id, a.seq) a.code a.junk X2 x2)) 2 mixed ?_
        replace hs := hs.below (Below.refl _ _).drew
        have hS := hs.ar 6 rfl
        apply wm_take 0; exact rfl; intro _ hw_; apply opv_loadX; exact rfl; exact hw_; exact sPk; exact rfl; kernel_rfl; exact hS; apply wm_take 1; exact rfl; intro _ hw_; apply opv_assign; exact rfl; exact rfl; kernel_rfl; exact hS
        clear hS
        refine wm_one 2 (by kernel_rfl) rfl ?_; dsimp only [List.getElem_toArray, List.getElem_cons_succ, List.getElem_cons_zero]
        apply ws_stS hs 7; exact rfl; exact rfl; exact rfl; exact sPk; exact rfl; exact rfl; clear hs; intro _ hs; dsimp only [setC] at hs; refine wl_nil ?_
        refine we_heldM (fun h => absurd h (by decide)) ?_
        refine wm_done (by kernel_rfl) ?_
        refine we_seq ?_; refine wc_region ?_; refine wl_mv rfl rfl ?_; apply wl_val; apply opv_fa; exact fa_Rp0; exact rfl; exact rfl; apply wl_val; apply opv_ldX; exact rfl; exact hs.ar 0 rfl; exact g1_err; exact rfl; exact rfl; apply wl_val; apply opv_fa; exact fa_Rp1; exact rfl; exact rfl; apply wl_val; apply opv_ldX; exact rfl; exact hs.ar 0 rfl; exact g1_int; exact rfl; exact rfl; apply wl_val; apply opv_fa; exact fa_Rp2; exact rfl; exact rfl; apply wl_val; apply opv_ldX; exact rfl; exact hs.ar 0 rfl; exact g1_rss; exact rfl; exact rfl
        refine wl_val (opv_build (vs := [(0, .int .i64 rr.err), (1, .int .i64 rr.at_), (2, .slice E rr.rows.length ce)]) (cs := rpV rr E ce) ⟨rfl, rfl, rfl, rfl, rfl, rfl, trivial⟩ (by kernel_rfl)) rfl ?_
        refine ws_bsR (cs := rpV rr E ce) hs tkRq ⟨_, rfl, rfl⟩ rfl (by decide) rfl ?_
        clear hs; intro B3 _ hs
        skip
        have hcl : css.length = reps.length := by rw [hA.1, List.length_map]
        refine ws_appR (css := [rpV rr E ce]) hs 10 rfl rfl tkRq (by simp [hcl]) rfl (hs.rg 0 rfl).rd rfl (by simp [rpV, Value.oneCell']) (by omega) (by simp only [maxLen]; omega) rfl ?_
        clear hs; intro G2 gc2 _ hs; dsimp only [setC] at hs
        refine wl_as rfl rfl ?_; refine wl_nil ?_; refine we_block_norm ?_
        replace hs := (St.kpAnd ((((((((((((hs.front 6 rfl).front 8 rfl).front 10 rfl).front 7 rfl).front 7 rfl).front 10 rfl).front 8 rfl).front 11 rfl).front 10 rfl).drop 9 rfl).drop 9 rfl).drop 9 rfl))
        replace hs := (hs.front 7 rfl).kpMono (K' := fun w' => RdB w' X2 a.junk) fun _ h => h.2
        dsimp only [delC] at hs
        rw [show css.map rawEl ++ [rpV rr E ce].map rawEl = (css ++ [rpV rr E ce]).map rawEl by simp] at hs
        have hlen : (reps ++ [a.junk]).length = reps.length + 1 := by simp
        refine we_cut _ ⟨seq, false, G2, gc2, reps ++ [a.junk], rfl, by omega, by omega, A, c, req, R2, d2, vs2, css ++ [rpV rr E ce], _, 5, (id, a.seq), a.code, a.junk, X2, x2, ?_, ?_, hpd, hpl, fun z => absurd z (by decide), (((((((hs.front 7 rfl).front 2 rfl).front 7 rfl).front 7 rfl).front 7 rfl).front 7 rfl).front 7 rfl)⟩ ⟨rfl, rfl, rfl, rfl, rfl, by rw [hlen]; rfl, rfl, rfl, trivial⟩
        · intro r hr
          rcases List.mem_append.1 hr with hr | hr
          · exact hreps r hr
          · rw [List.mem_singleton] at hr; subst hr; exact hpl
        · rw [List.map_append, List.map_cons, List.map_nil, hrq]
          exact (hA.weak fun w h => h.2).snoc fun w' h => ⟨E, ce, rfl, hce, h.1⟩
      · rw [if_neg hW] at hct
        obtain ⟨rfl, hsx⟩ := hct
        replace hs := hB _ _ hsx
        clear hsx hB hH2 hM2 hB2 hS2
        dsimp only [List.cons_append, List.nil_append] at hs
        rw [bF hW]
        refine wl_mv rfl rfl ?_; apply wl_val; apply opv_extract; exact rfl; exact rfl; exact rfl; apply wl_val; apply opv_extract; exact rfl; exact rfl; exact rfl
        refine ws_var (cs := rpV zRp none 0) hs zeroRp sRp rfl (fun _ => rfl) (by first | rfl | simp [Value.oneCell']) rfl ?_; clear hs; intro g22 _ hs
        refine wl_as rfl rfl ?_; refine wl_ns ?_; refine wc_seq ?_; refine wc_sr ?_; refine wl_mv rfl rfl ?_; refine wl_mv rfl rfl ?_; apply wl_val; apply opv_bin; exact rfl; exact rfl; exact bin_neqBb tyBool24; exact rfl; refine wl_ns ?_; apply wc_condFb; exact rfl; exact rfl; refine wc_skip ?_; refine we_seq ?_; refine wc_sr ?_; refine wl_mv rfl rfl ?_; refine wl_ns ?_; apply wc_condFb; exact rfl; exact rfl; refine wc_skip ?_; refine we_block_norm ?_
        replace hs := (hs.front 4 rfl).kpMono (K' := fun w' => RdB w' LD ldata) fun _ h => h.1
        dsimp only [delC] at hs
        exact we_cut _ ⟨seq, op, Gt, gc, reps, rfl, by omega, by omega, A, c, req, R, d, vs, css, K3, lk, ltx, lcode, ldata, LD, lcd, hreps, hA, hl1, hl2, hop, (((((((((hs.front 6 rfl).front 9 rfl).front 9 rfl).front 7 rfl).front 7 rfl).front 9 rfl).front 8 rfl).drop 8 rfl).drop 8 rfl)⟩ ⟨rfl, rfl, rfl, rfl, rfl, rfl, rfl, rfl, trivial⟩
    refine wc_sr ?_; apply wl_val; apply opv_fa; exact fa_Ac0; exact rfl; exact rfl; apply wl_val; apply opv_ldX; exact rfl; exact hs.ar 0 rfl; exact g1_int; exact rfl; exact rfl; refine wl_ns ?_; refine wc_block ?_; refine wc_sr ?_; refine wl_bin rfl rfl bin_eql rfl ?_; refine wl_as rfl rfl ?_; refine wl_ns ?_; apply wc_decF; exact rfl; (with_reducible assumption); refine wc_sr ?_; refine wl_bin rfl rfl bin_eql rfl ?_; refine wl_as rfl rfl ?_; refine wl_ns ?_; apply wc_decF; exact rfl; (with_reducible assumption); refine wc_seq ?_; refine wc_sr ?_; refine wl_bin rfl rfl bin_eql rfl ?_; refine wl_as rfl rfl ?_; refine wl_ns ?_; apply wc_decF; exact rfl; (with_reducible assumption); refine wc_sr ?_; refine wl_bin rfl rfl bin_eql rfl ?_; refine wl_as rfl rfl ?_; refine wl_ns ?_; apply wc_decF; exact rfl; (with_reducible assumption); refine wc_region ?_; refine wl_bin rfl rfl bin_eql rfl ?_; refine wl_as rfl rfl ?_; refine wl_ns ?_; apply wc_decF; exact rfl; (with_reducible assumption); refine wc_skip ?_; refine we_block_norm ?_
    exact we_cut _ ⟨seq, op, Gt, gc, reps, rfl, by omega, by omega, A, c, req, R, d, vs, css, K3, lk, ltx, lcode, ldata, LD, lcd, hreps, hA, hl1, hl2, hop, (((((((((hs.front 8 rfl).front 8 rfl).front 8 rfl).front 8 rfl).front 8 rfl).front 8 rfl).front 8 rfl).front 8 rfl).drop 8 rfl)⟩ ⟨rfl, rfl, rfl, rfl, rfl, rfl, rfl, rfl, trivial⟩
  · clear hs hop hl1 hl2 hA hreps hsq hrl vs css K3 lk ltx lcode ldata LD lcd A c req R d reps Gt gc op seq
    rintro _ w4 ⟨seq, op, Gt, gc, reps, rfl, hsq, hrl, A, c, req, R, d, vs, css, K3, lk, ltx, lcode, ldata, LD, lcd, hreps, hA, hl1, hl2, hop, hs⟩
    refine wc_sr ?_; refine wl_mv rfl rfl ?_
    cases op with
    | false =>
      refine wl_call ok_session_Client_Open (copen_any (hs.ar 0 rfl)) ⟨rfl, trivial⟩ rfl ?_
      rintro _ _ ⟨rfl, hbx⟩
      replace hs := hs.below hbx
      clear hbx
      refine wl_mv rfl rfl ?_; apply wl_val; apply opv_extract; exact rfl; exact rfl; exact rfl; apply wl_val; apply opv_extract; exact rfl; exact rfl; exact rfl
      refine ws_var (cs := txW (0, 0)) hs zeroTx sTxn rfl (fun _ => rfl) (by first | rfl | simp [Value.oneCell']) rfl ?_; clear hs; intro g24 _ hs
      refine wl_as rfl rfl ?_; refine wl_ns ?_; refine wc_sr ?_; refine wl_mv rfl rfl ?_
      refine wl_call ok_session_Client_Replies (creps_any (hs.ar 1 rfl) (hs.bb 3 4 rfl rfl) hreps (by omega)) ⟨rfl, trivial⟩ rfl ?_
      rintro _ _ ⟨X, xc, rfl, hsx⟩
      replace hs := hs.call hsx
      clear hsx
      dsimp only [List.cons_append, List.nil_append] at hs
      unfold txW at hs
      refine wl_as rfl rfl ?_; refine wl_ns ?_; refine wc_seq ?_; refine wc_sr ?_; refine wl_mv rfl rfl ?_; refine wl_mv rfl rfl ?_; apply wl_val; apply opv_bin; exact rfl; exact rfl; exact bin_neqBb tyBool24; exact rfl; refine wl_mv rfl rfl ?_; apply wl_take; exact rfl; exact rfl; exact rfl; refine bF ?_; (with_reducible exact nne); refine wl_mv rfl rfl ?_; apply wl_take; exact rfl; exact rfl; exact rfl; refine bF ?_; (with_reducible exact nne); refine wl_mv rfl rfl ?_; apply wl_skip; exact rfl; exact rfl; exact rfl; exact bR2; exact rfl; apply wl_skip; exact rfl; exact rfl; exact rfl; exact bR2; exact rfl; apply wl_skip; exact rfl; exact rfl; exact rfl; exact bR2; exact rfl; apply wl_skip; exact rfl; exact rfl; exact rfl; exact bR2; exact rfl; apply wl_take; exact rfl; exact rfl; exact rfl; refine bF ?_; (with_reducible exact nne); apply wl_val; apply opv_pickF; exact rfl; exact rfl; exact rfl; exact rfl; apply wl_val; apply opv_pickF; exact rfl; refine bF ?_; (with_reducible exact nne); exact rfl; exact rfl; refine wl_mv rfl rfl ?_; apply wl_take; exact rfl; exact rfl; exact rfl; exact rfl; refine wl_mv rfl rfl ?_; apply wl_take; exact rfl; exact rfl; exact rfl; exact rfl; apply wl_val; apply opv_len; exact rfl; exact tkRp.sl; exact rfl; apply wl_take; exact rfl; exact rfl; exact rfl; exact rfl; refine wl_mv rfl rfl ?_; apply wl_take; exact rfl; exact rfl; exact rfl; exact rfl; apply wl_val; apply opv_len; exact rfl; exact tkRq.sl; exact rfl; apply wl_take; exact rfl; exact rfl; exact rfl; exact rfl; refine wl_bin rfl rfl bin_neq rfl ?_; apply wl_val; apply opv_pickF; exact rfl; exact rfl; exact rfl; exact rfl; refine wl_ns ?_; apply wc_decF; exact rfl; (with_reducible exact nne); refine wc_skip ?_; refine we_seq ?_; refine wc_sr ?_; refine wl_mv rfl rfl ?_; apply wl_val; apply opv_len; exact rfl; exact tkRp.sl; exact rfl; refine wl_mv rfl rfl ?_; refine wl_ns ?_; refine wc_block ?_
      have hX := hs.kp 0 rfl
      replace hs := (hs.drop 0 rfl).drop 0 rfl
      dsimp only [delC] at hs
      refine wc_loop (CliR w acts (some ⟨b0, o0, none⟩) ac id g g9 i seq false Gt gc reps X xc) [(0, .int .u64 (id : Int)), (1, .slice (some ⟨b0, o0, none⟩) acts.length ac), (5, .pointer (some ⟨g, 0, none⟩)), (6, .int .u64 (seq : Int)), (7, .bool false), (8, .slice Gt reps.length gc), (9, .pointer (some ⟨g9, 0, none⟩)), (10, .int .i64 (i : Int)), (26, .slice X reps.length xc), (261, .int .i64 (reps.length : Int)), (262, .int .i64 (0 : Nat))] reps.length ⟨0, rfl, Nat.zero_le _, ⟨A, c, req, R, d, vs, css, K3, lk, ltx, lcode, ldata, LD, lcd, hreps, hA, hl1, hl2, hop, hs⟩, hX, rfl⟩ ⟨rfl, rfl, rfl, rfl, rfl, rfl, rfl, rfl, rfl, rfl, rfl, trivial⟩ ?_
      clear hs hX
      rintro _ w5 q ⟨k, rfl, hk, hC, hX, rfl⟩
      refine wc_sr ?_; refine wl_bin rfl rfl bin_lss rfl ?_; refine wl_ns ?_; refine wc_seq ?_
      refine wc_cond rfl (fun h1 => ?_) (fun h1 => ?_)
      · obtain ⟨b, hb0⟩ : ∃ b, reps[k]? = some b := ⟨_, List.getElem?_eq_getElem (by omega)⟩
        have hG := hC.got
        obtain ⟨b1, o1, cs, hXe, _, _, ⟨E1, e1, rfl, hE1⟩, i1⟩ := RdR.at (k := 3) (by decide) hX (E := rpEl (readRp b).1) (i := k) (by rw [List.getElem?_map, hb0]; rfl)
        obtain ⟨b2, o2, cs, hGe, _, _, ⟨E2, e2, rfl, hE2⟩, i2⟩ := RdR.at (k := 3) (by decide) hG (E := rpEl (readRp b).1) (i := k) (by rw [List.getElem?_map, hb0]; rfl)
        have hq : ∀ w', Below w5.heap.size w5 w' → CallsV Try.prog 20 #[.agg (rpV (readRp b).1 E1 e1).toArray, .agg (rpV (readRp b).1 E2 e2).toArray] w' fun v w2 => v = .bool true ∧ Below w5.heap.size w5 w2 := fun w' hw => (replyis_yes (RdR.below (rowEl.rd hE1).2.2 hw) (RdR.below (rowEl.rd hE2).2.2 hw) (readRp_rws (hreps b (List.mem_of_getElem? hb0)))).mono fun v w2 ⟨hv, h2⟩ => ⟨hv, hw.trans (h2.mono hw.size)⟩
        subst hXe hGe
        refine wc_skip ?_; refine we_seq ?_; refine wc_seq ?_; refine wc_block ?_; refine wc_sr ?_; refine wl_mv rfl rfl ?_; refine wl_as rfl rfl ?_; refine wl_ns ?_; refine wc_seq ?_
        refine wc_drawB mixed (by kernel_rfl) ?_
        try dsimp only [List.append]
        apply wq_val; intro _ hw_; apply opv_move; exact rfl; exact rfl; apply wq_val; intro _ hw_; apply opv_move; exact rfl; exact rfl; apply wq_val; intro _ hw_; apply opv_idxG tkRp; exact rfl; exact rfl; exact rfl; omega; exact rfl; apply wq_val; intro _ hw_; apply opv_ldG; exact rfl; exact Wi.below (by assumption) hw_; exact sRp; exact rfl; apply wq_val; intro _ hw_; apply opv_move; exact rfl; exact rfl; apply wq_val; intro _ hw_; apply opv_move; exact rfl; exact rfl; apply wq_val; intro _ hw_; apply opv_idxG tkRq; exact rfl; exact rfl; exact rfl; omega; exact rfl; apply wq_val; intro _ hw_; apply opv_ldG; exact rfl; exact Wi.below (by assumption) hw_; exact sRq; exact rfl
        refine wq_call (v := .bool true) ok_caissonlaw22_ReplyIs hq ⟨rfl, rfl, trivial⟩ rfl ?_
        apply wq_val; intro _ hw_; apply opv_not; exact rfl; exact rfl; refine wq_nil fun w1 hw1 => ?_
        refine we_seq ?_; apply wc_condFb; exact rfl; exact Bool.not_true; refine wc_skip ?_; refine we_block_norm ?_; refine we_seq ?_; refine wc_region ?_; apply wl_val; apply opv_bin; exact rfl; exact rfl; exact bin_add64 (by omega); exact rfl; refine wl_mv rfl rfl ?_; refine wl_nil ?_
        exact we_loop _ (reps.length - (k + 1)) ⟨k + 1, rfl, by omega, hC.below hw1, hX.below hw1, rfl⟩ (by omega) ⟨rfl, rfl, rfl, rfl, rfl, rfl, rfl, rfl, rfl, rfl, by rw [show ((k + 1 : Nat) : Int) = (k : Int) + 1 by omega]; rfl, trivial⟩
      · refine wc_exit ?_; refine we_seq_exit ?_; refine we_loop_exit ?_; refine we_block_exit ?_; refine we_block_norm ?_; refine we_seq ?_; refine wc_region ?_; refine wl_mv rfl rfl ?_; apply wl_val; apply opv_bin; exact rfl; exact rfl; exact bin_add64 (by omega); exact rfl; refine wl_as rfl rfl ?_; refine wl_nil ?_
        exact we_loop _ (40 - (i + 1)) ⟨i + 1, seq, false, Gt, gc, reps, rfl, by omega, by omega, hsq, hrl, hC, rfl⟩ (by omega) ⟨rfl, rfl, rfl, rfl, rfl, rfl, rfl, by rw [show ((i + 1 : Nat) : Int) = (i : Int) + 1 by omega]; rfl, trivial⟩
    | true =>
      refine wl_call ok_session_Client_Open (copen_any (hs.ar 0 rfl)) ⟨rfl, trivial⟩ rfl ?_
      rintro _ _ ⟨rfl, hbx⟩
      replace hs := hs.below hbx
      clear hbx
      refine wl_mv rfl rfl ?_; apply wl_val; apply opv_extract; exact rfl; exact rfl; exact rfl; apply wl_val; apply opv_extract; exact rfl; exact rfl; exact rfl
      refine ws_var (cs := txW (id, seq)) hs zeroTx sTxn rfl (fun _ => rfl) (by first | rfl | simp [Value.oneCell']) rfl ?_; clear hs; intro g24 _ hs
      refine wl_as rfl rfl ?_; refine wl_ns ?_; refine wc_sr ?_; refine wl_mv rfl rfl ?_
      refine wl_call ok_session_Client_Replies (creps_any (hs.ar 1 rfl) (hs.bb 3 4 rfl rfl) hreps (by omega)) ⟨rfl, trivial⟩ rfl ?_
      rintro _ _ ⟨X, xc, rfl, hsx⟩
      replace hs := hs.call hsx
      clear hsx
      dsimp only [List.cons_append, List.nil_append] at hs
      unfold txW at hs
      refine wl_as rfl rfl ?_; refine wl_ns ?_; refine wc_seq ?_; refine wc_sr ?_; refine wl_mv rfl rfl ?_; refine wl_mv rfl rfl ?_; apply wl_val; apply opv_bin; exact rfl; exact rfl; exact bin_neqBb tyBool24; exact rfl; refine wl_mv rfl rfl ?_; apply wl_take; exact rfl; exact rfl; exact rfl; refine bF ?_; (with_reducible exact nne); refine wl_mv rfl rfl ?_; apply wl_take; exact rfl; exact rfl; exact rfl; refine bF ?_; (with_reducible exact nne); refine wl_mv rfl rfl ?_; apply wl_take; exact rfl; exact rfl; exact rfl; exact rfl; apply wl_val; apply opv_fa; exact fa_Tx1; exact rfl; exact rfl; apply wl_take; exact rfl; exact rfl; exact rfl; exact rfl; apply wl_val; apply opv_ldX; exact rfl; exact hs.ar 1 rfl; exact g1_u64; exact rfl; exact rfl; apply wl_take; exact rfl; exact rfl; exact rfl; exact rfl; refine wl_mv rfl rfl ?_; apply wl_take; exact rfl; exact rfl; exact rfl; exact rfl; refine wl_bin rfl rfl bin_neq rfl ?_; apply wl_take; exact rfl; exact rfl; exact rfl; refine bF ?_; (with_reducible exact nne); apply wl_val; apply opv_pickT; exact rfl; exact rfl; exact rfl; exact rfl; apply wl_val; apply opv_pickF; exact rfl; refine bF ?_; (with_reducible exact nne); exact rfl; exact rfl; refine wl_mv rfl rfl ?_; apply wl_take; exact rfl; exact rfl; exact rfl; refine bF ?_; (with_reducible exact nne); refine wl_mv rfl rfl ?_; apply wl_take; exact rfl; exact rfl; exact rfl; refine bF ?_; (with_reducible exact nne); apply wl_val; apply opv_len; exact rfl; exact tkRp.sl; exact rfl; apply wl_take; exact rfl; exact rfl; exact rfl; refine bF ?_; (with_reducible exact nne); refine wl_mv rfl rfl ?_; apply wl_take; exact rfl; exact rfl; exact rfl; refine bF ?_; (with_reducible exact nne); apply wl_val; apply opv_len; exact rfl; exact tkRq.sl; exact rfl; apply wl_take; exact rfl; exact rfl; exact rfl; refine bF ?_; (with_reducible exact nne); refine wl_bin rfl rfl bin_neq rfl ?_; apply wl_val; apply opv_pickF; exact rfl; refine bF ?_; (with_reducible exact nne); exact rfl; exact rfl; refine wl_ns ?_; apply wc_decF; exact rfl; (with_reducible exact nne); refine wc_skip ?_; refine we_seq ?_; refine wc_sr ?_; refine wl_mv rfl rfl ?_; apply wl_val; apply opv_len; exact rfl; exact tkRp.sl; exact rfl; refine wl_mv rfl rfl ?_; refine wl_ns ?_; refine wc_block ?_
      have hX := hs.kp 0 rfl
      replace hs := (hs.drop 0 rfl).drop 0 rfl
      dsimp only [delC] at hs
      refine wc_loop (CliR w acts (some ⟨b0, o0, none⟩) ac id g g9 i seq true Gt gc reps X xc) [(0, .int .u64 (id : Int)), (1, .slice (some ⟨b0, o0, none⟩) acts.length ac), (5, .pointer (some ⟨g, 0, none⟩)), (6, .int .u64 (seq : Int)), (7, .bool true), (8, .slice Gt reps.length gc), (9, .pointer (some ⟨g9, 0, none⟩)), (10, .int .i64 (i : Int)), (26, .slice X reps.length xc), (261, .int .i64 (reps.length : Int)), (262, .int .i64 (0 : Nat))] reps.length ⟨0, rfl, Nat.zero_le _, ⟨A, c, req, R, d, vs, css, K3, lk, ltx, lcode, ldata, LD, lcd, hreps, hA, hl1, hl2, hop, hs⟩, hX, rfl⟩ ⟨rfl, rfl, rfl, rfl, rfl, rfl, rfl, rfl, rfl, rfl, rfl, trivial⟩ ?_
      clear hs hX
      rintro _ w5 q ⟨k, rfl, hk, hC, hX, rfl⟩
      refine wc_sr ?_; refine wl_bin rfl rfl bin_lss rfl ?_; refine wl_ns ?_; refine wc_seq ?_
      refine wc_cond rfl (fun h1 => ?_) (fun h1 => ?_)
      · obtain ⟨b, hb0⟩ : ∃ b, reps[k]? = some b := ⟨_, List.getElem?_eq_getElem (by omega)⟩
        have hG := hC.got
        obtain ⟨b1, o1, cs, hXe, _, _, ⟨E1, e1, rfl, hE1⟩, i1⟩ := RdR.at (k := 3) (by decide) hX (E := rpEl (readRp b).1) (i := k) (by rw [List.getElem?_map, hb0]; rfl)
        obtain ⟨b2, o2, cs, hGe, _, _, ⟨E2, e2, rfl, hE2⟩, i2⟩ := RdR.at (k := 3) (by decide) hG (E := rpEl (readRp b).1) (i := k) (by rw [List.getElem?_map, hb0]; rfl)
        have hq : ∀ w', Below w5.heap.size w5 w' → CallsV Try.prog 20 #[.agg (rpV (readRp b).1 E1 e1).toArray, .agg (rpV (readRp b).1 E2 e2).toArray] w' fun v w2 => v = .bool true ∧ Below w5.heap.size w5 w2 := fun w' hw => (replyis_yes (RdR.below (rowEl.rd hE1).2.2 hw) (RdR.below (rowEl.rd hE2).2.2 hw) (readRp_rws (hreps b (List.mem_of_getElem? hb0)))).mono fun v w2 ⟨hv, h2⟩ => ⟨hv, hw.trans (h2.mono hw.size)⟩
        subst hXe hGe
        refine wc_skip ?_; refine we_seq ?_; refine wc_seq ?_; refine wc_block ?_; refine wc_sr ?_; refine wl_mv rfl rfl ?_; refine wl_as rfl rfl ?_; refine wl_ns ?_; refine wc_seq ?_
        refine wc_drawB mixed (by kernel_rfl) ?_
        try dsimp only [List.append]
        apply wq_val; intro _ hw_; apply opv_move; exact rfl; exact rfl; apply wq_val; intro _ hw_; apply opv_move; exact rfl; exact rfl; apply wq_val; intro _ hw_; apply opv_idxG tkRp; exact rfl; exact rfl; exact rfl; omega; exact rfl; apply wq_val; intro _ hw_; apply opv_ldG; exact rfl; exact Wi.below (by assumption) hw_; exact sRp; exact rfl; apply wq_val; intro _ hw_; apply opv_move; exact rfl; exact rfl; apply wq_val; intro _ hw_; apply opv_move; exact rfl; exact rfl; apply wq_val; intro _ hw_; apply opv_idxG tkRq; exact rfl; exact rfl; exact rfl; omega; exact rfl; apply wq_val; intro _ hw_; apply opv_ldG; exact rfl; exact Wi.below (by assumption) hw_; exact sRq; exact rfl
        refine wq_call (v := .bool true) ok_caissonlaw22_ReplyIs hq ⟨rfl, rfl, trivial⟩ rfl ?_
        apply wq_val; intro _ hw_; apply opv_not; exact rfl; exact rfl; refine wq_nil fun w1 hw1 => ?_
        refine we_seq ?_; apply wc_condFb; exact rfl; exact Bool.not_true; refine wc_skip ?_; refine we_block_norm ?_; refine we_seq ?_; refine wc_region ?_; apply wl_val; apply opv_bin; exact rfl; exact rfl; exact bin_add64 (by omega); exact rfl; refine wl_mv rfl rfl ?_; refine wl_nil ?_
        exact we_loop _ (reps.length - (k + 1)) ⟨k + 1, rfl, by omega, hC.below hw1, hX.below hw1, rfl⟩ (by omega) ⟨rfl, rfl, rfl, rfl, rfl, rfl, rfl, rfl, rfl, rfl, by rw [show ((k + 1 : Nat) : Int) = (k : Int) + 1 by omega]; rfl, trivial⟩
      · refine wc_exit ?_; refine we_seq_exit ?_; refine we_loop_exit ?_; refine we_block_exit ?_; refine we_block_norm ?_; refine we_seq ?_; refine wc_region ?_; refine wl_mv rfl rfl ?_; apply wl_val; apply opv_bin; exact rfl; exact rfl; exact bin_add64 (by omega); exact rfl; refine wl_as rfl rfl ?_; refine wl_nil ?_
        exact we_loop _ (40 - (i + 1)) ⟨i + 1, seq, true, Gt, gc, reps, rfl, by omega, by omega, hsq, hrl, hC, rfl⟩ (by omega) ⟨rfl, rfl, rfl, rfl, rfl, rfl, rfl, by rw [show ((i + 1 : Nat) : Int) = (i : Int) + 1 by omega]; rfl, trivial⟩
end Go.Proofs.Ytaacnknniaipmaa

/-
  SessionClients over its arguments.
-/
namespace Go.Proofs.Ytaacnknniaipmaa
open Go.RowKit
theorem clients_op {id n c : Nat} {A : Option Addr} {l : List ActM} {w : World} (hid : id < 18446744073709551616) (hr : RdR 8 w All A (l.map acEl)) (hn : l.length = n) (_hc : n ≤ c) (_hx : ∀ a ∈ l, True) (hl : sumB acB l ≤ 1048576) :
    CallsV Try.prog 3 #[.int .u64 (id : Int), .slice A n c] w fun v w' => v = .bool true ∧ Below w.heap.size w w' := by
  subst hn
  exact clients24_any hr hl hid
end Go.Proofs.Ytaacnknniaipmaa
