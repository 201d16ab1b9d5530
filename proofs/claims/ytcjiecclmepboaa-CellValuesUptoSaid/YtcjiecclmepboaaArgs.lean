
/-
  How the arguments of a law are read: bytes, and lists of bytes; what a bound on all that is read gives.
-/
import Derived.Test.YtcjiecclmepboaaTy
import Derived.ProofKit
import Derived.OpenShut
import Derived.JoinedCond
import Derived.SizedLaws
import Derived.Deep.Matrix
import Derived.Carry
namespace Go.Proofs.Ytcjiecclmepboaa
open Go.RowKit Go.ChangeShapes Go.WideShapes Go.ChangeAt

theorem own : ownKnob Try.prog.godebug = none := by kernel_rfl
theorem laidOut : laidOutB Try.prog = true := by kernel_rfl

theorem bulk_one {H : Type} (d : DataW H) : 1 ≤ Rows.uptoBulk d := by
  cases d with
  | lit l => cases l <;> simp [Rows.uptoBulk]
  | nil => simp [Rows.uptoBulk]
  | ptr d => simp [Rows.uptoBulk]
  | slice elems spare => simp [Rows.uptoBulk]
  | agg parts => simp [Rows.uptoBulk]
  | iface t d => simp [Rows.uptoBulk]
  | map entries => simp [Rows.uptoBulk]
  | held h => simp [Rows.uptoBulk]
theorem bulk_len {H : Type} (l : List (DataW H)) : l.length ≤ Rows.uptoBulkAll l := by
  induction l with
  | nil => simp [Rows.uptoBulkAll]
  | cons x r ih => have := bulk_one x; simp only [Rows.uptoBulkAll, List.length_cons]; omega

section
variable {H : Type} {enc : TypeId × Value → H} {W : World} {a0 : Option Addr} {len0 cap0 : Nat} {d0 : DataW H} {p0 : List MemPlace}

theorem bytes_of {w : World} {x : Addr} {zs : List Int} {n : Nat} (hn : n ≤ zs.length) (hcell : ∀ i, i < zs.length → w.cell? (x.add i) = some (.int .u8 (zs.getD i 0))) (hw : ∀ z ∈ zs, (Lit.int .u8 z).wf = true) :
    ∃ xs : List UInt8, xs.length = n ∧ RdB w (some x) xs := by
  refine ⟨(zs.take n).map fun z => UInt8.ofNat z.toNat, by simp; omega, by simp [bvs], fun h0 => ?_⟩
  have hpos : 0 < zs.length := by simp at h0; omega
  obtain ⟨b, o, spot⟩ := x
  have hc := hcell 0 hpos
  have hspot : spot = none := by simpa [Addr.add] using World.cell?_spot hc
  subst hspot
  refine ⟨b, o, rfl, World.block_lt_of_cell? w _ (by simpa [Addr.add] using hc), fun j u hu => ?_⟩
  simp only [bvs, List.map_map, List.getElem?_map, List.getElem?_take] at hu
  by_cases hj : j < n
  · rw [if_pos hj] at hu
    have hjz : j < zs.length := by omega
    rw [List.getElem?_eq_getElem hjz] at hu
    simp only [Option.map_some, Option.some.injEq, Function.comp_apply] at hu
    have h1 := hcell j hjz
    rw [Addr.add_lit] at h1
    rw [h1, ← hu]
    have hz := hw zs[j] (List.getElem_mem hjz)
    have hb : 0 ≤ zs[j] ∧ zs[j] ≤ 255 := by simpa [Lit.wf, IntKind.min, IntKind.max, IntKind.signed, IntKind.bits] using hz
    have e : zs.getD j 0 = zs[j] := by simp [List.getD, List.getElem?_eq_getElem hjz]
    have e2 : zs[j].toNat % 256 = zs[j].toNat := Nat.mod_eq_of_lt (by omega)
    rw [e]
    simp [bv, e2]
    omega
  · rw [if_neg hj] at hu; cases hu

theorem arg_bytes (h0 : DataW.Trod enc Try.prog W 0 (fun _ => true) true 30 (.slice a0 len0 cap0) d0 p0) :
    ∃ xs : List UInt8, xs.length = len0 ∧ RdB W a0 xs ∧ len0 ≤ cap0 ∧ cap0 ≤ maxLen ∧ len0 + 1 ≤ Rows.uptoBulk d0 ∧ ((d0 = .nil ∧ cap0 = 0) ∨ ∃ e s, d0 = .slice e s ∧ e.length + s.length = cap0) := by
  obtain ⟨fuel, hf⟩ := h0
  rcases open_ints Try.underlying30 Try.underlying5 (by kernel_rfl) hf with ⟨hcs, hx⟩ | ⟨x, l, c, zs, hcs, _, hl, hm, hz, hx, hcell, hwz⟩
  · simp [Value.cells] at hcs
    obtain ⟨rfl, rfl, rfl⟩ := hcs
    injection hx with hd _
    subst hd
    exact ⟨[], rfl, Rd.nil _ _, by omega, by simp [maxLen], by simp [Rows.uptoBulk], .inl ⟨rfl, rfl⟩⟩
  · simp [Value.cells] at hcs
    obtain ⟨rfl, rfl, rfl⟩ := hcs
    injection hx with hd _
    have hz' : zs.length = cap0 := by simpa using hz
    obtain ⟨xs, h1, h2⟩ := bytes_of (n := len0) (by omega) hcell hwz
    have h3 := bulk_len (H := H) (lits .u8 (zs.take len0))
    refine ⟨xs, h1, h2, hl, hm, ?_, .inr ⟨_, _, hd, by simp [lits]; omega⟩⟩
    rw [hd]
    simp only [Rows.uptoBulk]
    simp [lits] at h3 ⊢
    omega
end
end Go.Proofs.Ytcjiecclmepboaa
