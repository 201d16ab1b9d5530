
/-
  Walks over twin, and over the functions that look into one value: Kind, IntOf, TextOf, BoolOf, BytesOf, MustInt, MustText.
-/
import Derived.Test.YtcjiecclmepboaaSd
namespace Go.Proofs.Ytcjiecclmepboaa
open Go.RowKit

/-- A cell whose bytes lie in new memory. -/
def RetC (w : World) (x : Ce) (v : Value) (w' : World) : Prop := ∃ (A : Option Addr) (c : Nat), v = .agg (ceV x A c).toArray ∧ OwB w' w.heap.size A c x.data ∧ Below w.heap.size w w'
theorem twin_any {x : Ce} {A : Option Addr} {c : Nat} {w : World} (hr : RdB w A x.data) (hl : x.data.length ≤ 140737488355328) :
    CallsV Try.prog 34 #[.agg (ceV x A c).toArray] w (RetC w x) := by
  obtain ⟨k, b, n, s, d⟩ := x
  refine calls_in (N := _) Try.func34 rfl Try.ntmps34 rfl ?_; show WC _ _ _ _ _ _
  refine wc_sr ?_
  refine wl_box (cs := ceV ⟨k, b, n, s, d⟩ A c) rfl rfl fun g w1 hg a1 hb1 => ?_
  refine wl_new (cs := zC) zeroC rfl fun g2 w2 hg2 a2 hb2 => ?_
  have hlt0 := a1.lt
  replace a1 := a1.bel hb2
  replace hb2 := hb1.trans (hb2.mono hb1.size)
  have hr' : RdB w2 A d := RdB.below hr hb2
  unfold ceV at a1
  refine wl_ns ?_; refine wc_sr ?_; apply wl_val; apply opv_fa; exact fa_sC (by decide); exact rfl; exact rfl; apply wl_val; apply opv_ldX; exact rfl; assumption; exact c1_by; exact rfl; exact rfl
  refine wl_call ok_caissonref01_Copy (copy_any hr' rfl hl) ⟨rfl, trivial⟩ rfl ?_
  rintro _ w3 ⟨B, e, rfl, o3, hb3⟩
  have hlt := a2.lt
  have hlt1 := a1.lt
  have hs2 := hb2.size
  have a31 := a1.bel hb3
  have a32 := a2.bel hb3
  have hb13 := hb2.trans (hb3.mono hb2.size)
  apply wl_val; apply opv_fa; exact fa_sC (by decide); exact rfl; exact rfl
  refine wl_stA c1_by a31 rfl (show 0 + 4 < 5 by decide) rfl rfl fun w4 a41 g4 _ => ?_
  have hb4 := g4.belowI hb13 hg hb13.size
  have a42 := a32.grA g4 (fun a ha => by cases ha; exact (show g ≠ g2 by have := hb1.size; omega))
  have o4 : OwB w4 w2.heap.size B e d := Ow.gr (base' := 0) (e' := 0) o3 g4 fun a x ha hx => by
    cases hx
    have := (Ow.lt o3 a ha).1
    exact (show a.block ≠ g by omega)
  have a41' : Ar w4 g 53 [.int .i64 k, .bool b, .int .i64 n, str s, .slice B d.length e] := a41
  refine wl_ns ?_; refine wc_sr ?_; apply wl_val; apply opv_loadX; exact rfl; assumption; exact sC; exact rfl
  refine wl_storeS (cs' := ceV ⟨k, b, n, s, d⟩ B e) sC a42 rfl rfl rfl rfl fun w5 a5 g5 _ => ?_
  have hb5 := g5.belowI hb4 (by have := hb1.size; omega) hb4.size
  have o5 : OwB w5 w.heap.size B e d := Ow.gr (base' := 0) (e' := 0) (Ow.mono o4 hs2) g5 fun a x ha hx => by
    cases hx
    have := (Ow.lt o4 a ha).1
    exact (show a.block ≠ g2 by omega)
  refine wl_ns ?_; refine wc_ret ?_
  exact we_retC rfl rfl a5 sC ⟨_, rfl, B, e, rfl, o5, hb5⟩
theorem kind_any {u : Va} {A : Option Addr} {c : Nat} {w : World} (hr : RdB w A (vaC u).data) (hl : (vaC u).data.length ≤ 140737488355328) :
    CallsV Try.prog 39 #[vaV u A c] w fun v w' => v = .tuple #[.int .i64 (vaC u).kind, .int .i64 0] ∧ Below w.heap.size w w' := by
  refine calls_in (N := _) Try.func39 rfl Try.ntmps39 rfl ?_; show WC _ _ _ _ _ _
  refine wc_sr ?_; refine wl_as rfl rfl ?_; refine wl_as rfl rfl ?_; refine wl_ns ?_; refine wc_sr ?_; refine wl_mv rfl rfl ?_
  refine wl_call ok_cell_Cell (cell_any hr hl) ⟨rfl, trivial⟩ rfl ?_
  rintro _ w1 ⟨B, e, rfl, o1, hb1⟩
  obtain ⟨x, hx⟩ : ∃ x, vaC u = x := ⟨_, rfl⟩
  rw [hx] at o1 ⊢
  refine wl_mv rfl rfl ?_; apply wl_val; apply opv_extract; exact rfl; exact rfl; exact rfl; apply wl_val; apply opv_extract; exact rfl; exact rfl; exact rfl
  refine wl_new (cs := zC) zeroC rfl fun g2 w2 hg2 a2 hb2 => ?_
  refine wl_storeS (cs' := ceV x B e) sC a2 rfl rfl rfl rfl fun w3 a3 g3 _ => ?_
  have hb3 := g3.belowI (hb1.trans (hb2.mono hb1.size)) (by have := hb1.size; omega) (by have := hb1.size; have := hb2.size; omega)
  unfold ceV at a3
  refine wl_as rfl rfl ?_; refine wl_ns ?_; refine wc_sr ?_; apply wl_val; apply opv_fa; exact fa_sC (by decide); exact rfl; exact rfl; apply wl_val; apply opv_ldX; exact rfl; assumption; exact c1_int; exact rfl; exact rfl; refine wl_mv rfl rfl ?_; refine wl_as rfl rfl ?_; refine wl_as rfl rfl ?_; refine wl_ns ?_; refine wc_ret ?_
  exact we_ret2 rfl rfl rfl ⟨_, rfl, rfl, hb3⟩
end Go.Proofs.Ytcjiecclmepboaa
