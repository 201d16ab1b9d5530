/-
  How an argument that is a list of lists of bytes is read.
-/
import Derived.Test.YtdppekhnahnjjaaArgs
import Derived.Test.YtdppekhnahnjjaaRow
namespace Go.Proofs.Ytdppekhnahnjjaa
open Go.RowKit Go.ChangeShapes Go.WideShapes Go.ChangeAt Go.Deep

theorem bulk_row {H : Type} {k : IntKind} {A : Option Addr} {n : Nat} {zs : List Int} (hn : n ≤ zs.length) (h : A = none → n = 0) : n + 1 ≤ Rows.uptoBulk (intRow (H := H) k A n zs) := by
  cases A with
  | none => simp [intRow, Rows.uptoBulk, h rfl]
  | some a =>
    have h3 := bulk_len (H := H) (lits k (zs.take n))
    simp only [intRow, Rows.uptoBulk]
    simp [lits] at h3 ⊢
    omega
theorem bulk_sum {H : Type} (D : Nat → DataW H) (R : Nat → List UInt8) : ∀ (l : List Nat), (∀ r ∈ l, (R r).length + 1 ≤ Rows.uptoBulk (D r)) → (l.map R).flatten.length + l.length ≤ Rows.uptoBulkAll (l.map D)
  | [], _ => by simp [Rows.uptoBulkAll]
  | r :: l, h => by
    have h1 := h r (by simp)
    have h2 := bulk_sum D R l (fun x hx => h x (by simp [hx]))
    simp only [List.map_cons, List.flatten_cons, List.length_append, List.length_cons, Rows.uptoBulkAll]
    omega

section
variable {H : Type} {enc : TypeId × Value → H} {W : World} {a0 : Option Addr} {len0 cap0 : Nat} {d0 : DataW H} {p0 : List MemPlace}

theorem arg_rows (h0 : DataW.Trod enc Try.prog W 0 (fun _ => true) true 22 (.slice a0 len0 cap0) d0 p0) :
    ∃ rows : List (List UInt8), rows.length = len0 ∧ RdBB W a0 rows ∧ len0 ≤ cap0 ∧ cap0 ≤ maxLen ∧ rows.flatten.length + rows.length + 1 ≤ Rows.uptoBulk d0 ∧ True := by
  obtain ⟨fuel, hf⟩ := h0
  rcases open_int_rows Try.underlying22 Try.underlying24 Try.underlying5 (by kernel_rfl) (by kernel_rfl) hf with ⟨hcs, hx⟩ | ⟨a, len, cap, A, L, C, Z, hcs, _, hl, hm, hx, hrow⟩
  · simp [Value.cells] at hcs
    obtain ⟨rfl, rfl, rfl⟩ := hcs
    injection hx with hd _
    subst hd
    exact ⟨[], rfl, ⟨[], Rd.nil _ _, by simp⟩, by omega, by simp [maxLen], by simp [Rows.uptoBulk], trivial⟩
  · simp [Value.cells] at hcs
    obtain ⟨rfl, rfl, rfl⟩ := hcs
    injection hx with hd _
    have each : ∀ r, r < cap0 → ∃ xs : List UInt8, xs.length = L r ∧ RdB W (A r) xs := by
      intro r hr
      obtain ⟨_, h1, _, h3, h4, h5, h6⟩ := hrow r hr
      cases hA : A r with
      | none => exact ⟨[], by have := h5 hA; simp; omega, Rd.nil _ _⟩
      | some x => exact bytes_of (n := L r) (by omega) (fun i hi => (h6 x hA).2 i (by omega)) h4
    have hch : ∃ R : Nat → List UInt8, ∀ r, r < cap0 → (R r).length = L r ∧ RdB W (A r) (R r) :=
      ⟨fun r => if h : r < cap0 then Classical.choose (each r h) else [], fun r hr => by
        simp only [dif_pos hr]; exact Classical.choose_spec (each r hr)⟩
    obtain ⟨R, hR⟩ := hch
    refine ⟨(List.range len0).map R, by simp, ⟨(List.range len0).map fun r => .slice (A r) (L r) (C r), ⟨by simp, fun h0 => ?_⟩, fun i q hi => ?_⟩, hl, hm, ?_, trivial⟩
    · simp only [List.length_map, List.length_range] at h0
      obtain ⟨b, o, spot⟩ := a
      have hc0 := (hrow 0 (by omega)).1
      have hspot : spot = none := by simpa [Addr.add] using World.cell?_spot hc0
      subst hspot
      refine ⟨b, o, rfl, World.block_lt_of_cell? W _ (by simpa [Addr.add] using hc0), fun j u hu => ?_⟩
      simp only [List.getElem?_map] at hu
      by_cases hj : j < len0
      · rw [List.getElem?_range hj] at hu
        simp only [Option.map_some, Option.some.injEq] at hu
        have h1 := (hrow j (by omega)).1
        rw [Addr.add_lit] at h1
        rw [h1, hu]
      · rw [List.getElem?_eq_none (by simp; omega)] at hu; simp at hu
    · simp only [List.getElem?_map] at hi
      by_cases hj : i < len0
      · rw [List.getElem?_range hj] at hi
        simp only [Option.map_some, Option.some.injEq] at hi
        subst hi
        obtain ⟨e1, e2⟩ := hR i (by omega)
        exact ⟨A i, C i, by rw [List.getElem?_map, List.getElem?_range hj, e1]; rfl, e2, by rw [e1]; exact (hrow i (by omega)).2.1⟩
      · rw [List.getElem?_eq_none (by simp; omega)] at hi; simp at hi
    · rw [hd]
      simp only [Rows.uptoBulk]
      have := bulk_sum (fun r => intRow (H := H) .u8 (A r) (L r) (Z r)) R (List.range len0) (fun r hr => by
        have hr' := List.mem_range.1 hr
        obtain ⟨_, h1, _, h3, h4, h5, h6⟩ := hrow r (by omega)
        rw [(hR r (by omega)).1]
        exact bulk_row (by omega) (fun h => by have := h5 h; omega))
      simp only [List.length_map, List.length_range] at this ⊢
      omega
end
end Go.Proofs.Ytdppekhnahnjjaa
