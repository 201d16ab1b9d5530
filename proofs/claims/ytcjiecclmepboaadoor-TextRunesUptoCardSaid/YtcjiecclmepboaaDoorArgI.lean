
/-
  How an argument that is a list of ints is read.
-/
import Derived.Test.YtcjiecclmepboaaDoorArgs
namespace Go.Proofs.YtcjiecclmepboaaDoor
open Go.RowKit Go.ChangeShapes Go.WideShapes Go.ChangeAt
section
variable {H : Type} {enc : TypeId × Value → H} {W : World} {a0 : Option Addr} {len0 cap0 : Nat} {d0 : DataW H} {p0 : List MemPlace}
theorem arg_ints (h0 : DataW.Trod enc Tryd.prog W 0 (fun _ => true) true 28 (.slice a0 len0 cap0) d0 p0) :
    ∃ zs : List Int, zs.length = len0 ∧ Rd W a0 len0 (zs.map fun z => Value.int .i64 z) ∧ len0 ≤ cap0 ∧ cap0 ≤ maxLen ∧ zs.length + 1 ≤ Rows.uptoBulk d0 ∧ ∀ z ∈ zs, -9223372036854775808 ≤ z ∧ z ≤ 9223372036854775807 := by
  obtain ⟨fuel, hf⟩ := h0
  rcases open_ints Tryd.underlying28 Tryd.underlying3 (by kernel_rfl) hf with ⟨hcs, hx⟩ | ⟨a, l, c, zs, hcs, _, hl, hm, hz, hx, hcell, hwz⟩
  · simp [Value.cells] at hcs
    obtain ⟨rfl, rfl, rfl⟩ := hcs
    injection hx with hd _
    subst hd
    exact ⟨[], rfl, Rd.nil _ _, by omega, by simp [maxLen], by simp [Rows.uptoBulk], by simp⟩
  · simp [Value.cells] at hcs
    obtain ⟨rfl, rfl, rfl⟩ := hcs
    injection hx with hd _
    have hz' : zs.length = cap0 := by simpa using hz
    refine ⟨zs.take len0, by simp; omega, ⟨by simp; omega, fun h0 => ?_⟩, hl, hm, ?_, fun z hzm => ?_⟩
    · obtain ⟨b, o, spot⟩ := a
      have hlen : 0 < zs.length := by omega
      have hc := hcell 0 hlen
      have hspot : spot = none := by simpa [Addr.add] using World.cell?_spot hc
      subst hspot
      refine ⟨b, o, rfl, World.block_lt_of_cell? W _ (by simpa [Addr.add] using hc), fun j u hu => ?_⟩
      simp only [List.getElem?_map, List.getElem?_take] at hu
      by_cases hj : j < len0
      · rw [if_pos hj] at hu
        have hjz : j < zs.length := by omega
        rw [List.getElem?_eq_getElem hjz] at hu
        simp only [Option.map_some, Option.some.injEq] at hu
        have h1 := hcell j hjz
        rw [Addr.add_lit] at h1
        rw [h1, ← hu]
        simp [List.getD, List.getElem?_eq_getElem hjz]
      · rw [if_neg hj] at hu; cases hu
    · rw [hd]
      have h3 := bulk_len (H := H) (lits .i64 (zs.take len0))
      simp only [Rows.uptoBulk]
      simp [lits] at h3 ⊢
      omega
    · have := hwz z (List.mem_of_mem_take hzm)
      simpa [Lit.wf, IntKind.min, IntKind.max, IntKind.signed, IntKind.bits] using this
end
end Go.Proofs.YtcjiecclmepboaaDoor
