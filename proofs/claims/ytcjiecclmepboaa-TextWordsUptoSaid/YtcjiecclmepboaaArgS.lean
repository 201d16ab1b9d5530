
/-
  How an argument that is a list of texts is read.
-/
import Derived.Test.YtcjiecclmepboaaArgs
import Derived.Test.YtcjiecclmepboaaStr
import Derived.SliceStrings
namespace Go.Proofs.Ytcjiecclmepboaa
open Go.RowKit Go.ChangeShapes Go.WideShapes Go.ChangeAt

theorem bulk_strs {H : Type} : ∀ (ss : List ByteArray), Rows.uptoBulkAll (strs (H := H) ss) = (ss.map fun s => s.data.toList).flatten.length + ss.length
  | [] => rfl
  | s :: ss => by
    have ih := bulk_strs (H := H) ss
    simp only [strs] at ih
    simp only [strs, List.map_cons, Rows.uptoBulkAll, Rows.uptoBulk, ih, List.flatten_cons, List.length_append, List.length_cons]
    omega
section
variable {H : Type} {enc : TypeId × Value → H} {W : World} {a0 : Option Addr} {len0 cap0 : Nat} {d0 : DataW H} {p0 : List MemPlace}

theorem arg_texts (h0 : DataW.Trod enc Try.prog W 0 (fun _ => true) true 41 (.slice a0 len0 cap0) d0 p0) :
    ∃ L : List (List UInt8), L.length = len0 ∧ Rd W a0 len0 (L.map str) ∧ len0 ≤ cap0 ∧ cap0 ≤ maxLen ∧ L.flatten.length + L.length + 1 ≤ Rows.uptoBulk d0 ∧ True := by
  obtain ⟨fuel, hf⟩ := h0
  rcases open_strings Try.underlying41 Try.underlying9 (by kernel_rfl) hf with ⟨hcs, hx⟩ | ⟨a, l, c, ss, hcs, _, hl, hm, hz, hx, hcell, hsz⟩
  · simp [Value.cells] at hcs
    obtain ⟨rfl, rfl, rfl⟩ := hcs
    injection hx with hd _
    subst hd
    exact ⟨[], rfl, Rd.nil _ _, by omega, by simp [maxLen], by simp [Rows.uptoBulk], trivial⟩
  · simp [Value.cells] at hcs
    obtain ⟨rfl, rfl, rfl⟩ := hcs
    injection hx with hd _
    have hz' : ss.length = cap0 := by simpa using hz
    refine ⟨(ss.take len0).map fun s => s.data.toList, by simp; omega, ⟨by simp; omega, fun h0 => ?_⟩, hl, hm, ?_, trivial⟩
    · obtain ⟨b, o, spot⟩ := a
      have hlen : 0 < ss.length := by omega
      have hc := hcell 0 hlen
      have hspot : spot = none := by simpa [Addr.add] using World.cell?_spot hc
      subst hspot
      refine ⟨b, o, rfl, World.block_lt_of_cell? W _ (by simpa [Addr.add] using hc), fun j u hu => ?_⟩
      simp only [List.map_map, List.getElem?_map, List.getElem?_take] at hu
      by_cases hj : j < len0
      · rw [if_pos hj] at hu
        have hjz : j < ss.length := by omega
        rw [List.getElem?_eq_getElem hjz] at hu
        simp only [Option.map_some, Option.some.injEq, Function.comp_apply] at hu
        have h1 := hcell j hjz
        rw [Addr.add_lit] at h1
        rw [h1, ← hu]
        simp [str, List.getD, List.getElem?_eq_getElem hjz]
      · rw [if_neg hj] at hu; cases hu
    · rw [hd]
      simp only [Rows.uptoBulk, bulk_strs, List.length_map]
      omega
end
end Go.Proofs.Ytcjiecclmepboaa
