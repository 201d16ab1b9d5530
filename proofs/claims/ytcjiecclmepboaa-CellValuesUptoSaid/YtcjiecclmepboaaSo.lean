
/-
  How an argument that is a cell, or a list of cells, is read; CellValues at what is read.
-/
import Derived.Test.YtcjiecclmepboaaSn
import Derived.Test.YtcjiecclmepboaaOp
namespace Go.Proofs.Ytcjiecclmepboaa
open Go.RowKit Go.ChangeShapes Go.WideShapes Go.ChangeAt Go.Deep

/-- The texts and bytes of a cell, counted. -/
def ceB (x : Ce) : Nat := x.text.length + x.data.length
structure CeOk (x : Ce) : Prop where
  kind : -9223372036854775808 ≤ x.kind ∧ x.kind ≤ 9223372036854775807
  num : -9223372036854775808 ≤ x.num ∧ x.num ≤ 9223372036854775807
theorem opens_cell : Opens Try.prog 53 ceEl 5 ceB CeOk := fun {H} enc W fuel cs x h => by
  obtain ⟨xs, n, rfl, rfl, hl, hx, hf⟩ := DataW.trod_struct Try.underlying53 h
  replace hl : cs.length = 5 := hl.trans (by kernel_rfl)
  obtain ⟨c0, c1, c2, c3, c4, rfl⟩ := len5 hl
  obtain ⟨y0, y1, y2, y3, y4, rfl⟩ := len5 hx
  obtain ⟨a0, h0, _, k0, b0⟩ := opens_int Try.underlying3 enc W n [c0] y0 (field_at hf (i := 0) (off := 0) (k := 1) (t := 3) rfl rfl rfl (by kernel_rfl))
  obtain ⟨a1, h1, _, k1, b1⟩ := opens_bool Try.underlying4 enc W n [c1] y1 (field_at hf (i := 1) (off := 1) (k := 1) (t := 4) rfl rfl rfl (by kernel_rfl))
  obtain ⟨a2, h2, _, k2, b2⟩ := opens_int Try.underlying2 enc W n [c2] y2 (field_at hf (i := 2) (off := 2) (k := 1) (t := 2) rfl rfl rfl (by kernel_rfl))
  obtain ⟨a3, h3, _, k3, b3⟩ := opens_str Try.underlying9 enc W n [c3] y3 (field_at hf (i := 3) (off := 3) (k := 1) (t := 9) rfl rfl rfl (by kernel_rfl))
  obtain ⟨a4, h4, _, k4, b4⟩ := opens_bytes enc W n [c4] y4 (field_at hf (i := 4) (off := 4) (k := 1) (t := 30) rfl rfl rfl (by kernel_rfl))
  obtain rfl : c0 = .int .i64 a0 := by simpa [vEl] using h0
  obtain rfl : c1 = .bool a1 := by simpa [vEl] using h1
  obtain rfl : c2 = .int .i64 a2 := by simpa [vEl] using h2
  obtain rfl : c3 = str a3 := by simpa [vEl] using h3
  have h4' := h4
  obtain ⟨A, c, e4, _⟩ := h4
  obtain rfl : c4 = .slice A a4.length c := by simpa using e4
  refine ⟨⟨a0, a1, a2, a3, a4⟩, ⟨A, c, rfl, h4'⟩, rfl, ⟨by simpa [Lit.wf, IntKind.min, IntKind.max, IntKind.signed, IntKind.bits] using k0, by simpa [Lit.wf, IntKind.min, IntKind.max, IntKind.signed, IntKind.bits] using k2⟩, ?_⟩
  replace b3 : a3.length + 1 ≤ _ := b3
  replace b4 : a4.length + 1 ≤ _ := b4
  simp only [ceB, Rows.uptoBulk, Rows.uptoBulkAll, List.map_cons, List.map_nil]
  omega
theorem opens_cells : Opens Try.prog 46 (fun l : List Ce => rowEl 5 (l.map ceEl)) 1 (sumB ceB) (fun l => ∀ x ∈ l, CeOk x) := opens_slice tkC (by kernel_rfl) opens_cell
theorem cellValues_op {x : Ce} {cs : Array Value} {w : World} (hr : (ceEl x).P w All cs.toList) (hok : CeOk x) (hl : ceB x ≤ 1048576) :
    CallsV Try.prog 8 #[.agg cs] w (RetTr w) := by
  obtain ⟨A, c, hcs, hx⟩ := hr
  obtain rfl : cs = (ceV x A c).toArray := by rw [← hcs]
  unfold ceB at hl
  exact cellValues_walk (byEl.rd hx).1 hok.num (by omega)
end Go.Proofs.Ytcjiecclmepboaa
