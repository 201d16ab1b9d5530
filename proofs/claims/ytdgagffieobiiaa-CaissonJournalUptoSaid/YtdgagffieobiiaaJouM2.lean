/-
  The texts of this proof, joined: Pb, Wg, Sd, Se, Sf, Sg, Sh, Ge, Gf, Wb, Pc, Wh, Pd, Wi.
-/
import Derived.Test.YtdgagffieobiiaaJouM1
import Derived.Deep.MidRow
import Derived.Lib.AppendStr

/-
  Plain functions on lists of bytes, for layer 1 (codec): bytes with an end are read back; numbers of eight bytes; frames; what stands next. Nothing here names the program or the model.
-/
namespace Go.Proofs.Ytdgagffieobiiaa

/-! ### What stands next -/
end Go.Proofs.Ytdgagffieobiiaa

/-
  Walks over bytes.Clone and over Next of the program and of the reference.
-/
namespace Go.Proofs.Ytdgagffieobiiaa
open Go.RowKit

theorem rd_none {w : World} {xs : List UInt8} (h : RdB w none xs) : xs = [] := by
  cases xs with
  | nil => rfl
  | cons x r => obtain ⟨_, _, h, _⟩ := h.2 (by simp); cases h

theorem clone_any {A : Option Addr} {n c : Nat} {xs : List UInt8} {w : World} (hr : RdB w A xs) (hn : xs.length = n) (hl : xs.length ≤ 140737488355328) : CallsV Try.prog 28 #[.slice A n c] w (RetB w xs) := by
  subst hn
  refine calls_in (N := _) Try.func28 rfl Try.ntmps28 rfl ?_; show WC _ _ _ _ _ _
  refine wc_sr ?_; refine wl_as rfl rfl ?_; refine wl_ns ?_; refine wc_seq ?_; refine wc_sr ?_; refine wl_mv rfl rfl ?_
  refine wl_val (opv_bin rfl rfl (bin_eqlSliceNil Try.underlying30)) rfl ?_
  refine wl_ns ?_
  refine wc_condB rfl (fun h => ?_) (fun h => ?_)
  · obtain rfl : A = none := by cases A <;> simp at h ⊢
    obtain rfl := rd_none hr
    refine wc_sr ?_; refine wl_as rfl rfl ?_; refine wl_ns ?_; refine wc_ret ?_; refine we_seq_ret ?_
    exact we_ret1 rfl rfl ⟨_, rfl, none, 0, rfl, Ow.nil _ _ _, Below.refl _ _⟩
  · refine wc_skip ?_; refine we_seq ?_; refine wc_sr ?_
    refine wl_bs (vs := []) tyB trivial rfl (by decide) rfl fun A1 w1 ho hb _ => ?_
    refine wl_mv rfl rfl ?_
    refine wl_app tyB rfl ho rfl (RdB.below hr hb) (bvs_one _) (by omega) (by simp only [maxLen]; omega) hb.size rfl fun A' c' w' ho' hg _ => ?_
    refine wl_as rfl rfl ?_; refine wl_ns ?_; refine wc_ret ?_
    refine we_ret1 rfl rfl ⟨_, rfl, A', c', by simp, ?_, ?_⟩
    · have := ho'; simp only [Nat.zero_add, List.nil_append] at this; exact this
    · exact hg.below hb ho (Nat.le_refl _) hb.size

end Go.Proofs.Ytdgagffieobiiaa

/-
  Walks over twin, Cell and what leans on it: values of any type, and their cells.
-/
namespace Go.Proofs.Ytdgagffieobiiaa
open Go.RowKit

/-- A value that a cell may hold. -/
inductive Va where
  | nil
  | bool (b : Bool)
  | int (n : Int)
  | text (s : List UInt8)
  | bytes (d : List UInt8)
def vaV : Va → Option Addr → Nat → Value
  | .nil, _, _ => .nilIface
  | .bool b, _, _ => .iface 4 (.bool b)
  | .int n, _, _ => .iface 2 (.int .i64 n)
  | .text s, _, _ => .iface 9 (str s)
  | .bytes d, A, c => .iface 30 (.slice A d.length c)
def vaC : Va → Ce
  | .nil => ⟨0, false, 0, [], []⟩
  | .bool b => ⟨1, b, 0, [], []⟩
  | .int n => ⟨2, false, n, [], []⟩
  | .text s => ⟨3, false, 0, s, []⟩
  | .bytes d => ⟨4, false, 0, [], d⟩
def ceVa (x : Ce) : Va := if x.kind = 1 then .bool x.tr else if x.kind = 2 then .int x.num else if x.kind = 3 then .text x.text else if x.kind = 4 then .bytes x.data else .nil
theorem vaC_ceVa {x : Ce} (h : goodC x = true) : vaC (ceVa x) = x := by
  have h := of_decide_eq_true h
  obtain ⟨k, b, n, s, d⟩ := x
  simp only at h
  have hk : k = 0 ∨ k = 1 ∨ k = 2 ∨ k = 3 ∨ k = 4 := by omega
  rcases hk with rfl | rfl | rfl | rfl | rfl <;> simp_all [ceVa, vaC]
/-- A cell and an error, the cell's bytes in new memory. -/
def RetCe (w : World) (x : Ce) (e : Int) (v : Value) (w' : World) : Prop :=
  ∃ (A : Option Addr) (c : Nat), v = .tuple #[.agg (ceV x A c).toArray, .int .i64 e] ∧ OwB w' w.heap.size A c x.data ∧ Below w.heap.size w w'
def zC : List Value := [.int .i64 0, .bool false, .int .i64 0, str [], .slice none 0 0]
theorem zeroC : (Try.prog.info? 60).map (·.zero) = some (some (.agg zC.toArray)) := by kernel_rfl
set_option maxHeartbeats 1000000 in
theorem cell_any {u : Va} {A : Option Addr} {c : Nat} {w : World} (hr : RdB w A (vaC u).data) (hl : (vaC u).data.length ≤ 140737488355328) :
    CallsV Try.prog 24 #[vaV u A c] w (RetCe w (vaC u) 0) := by
  refine calls_in (N := _) Try.func24 rfl Try.ntmps24 rfl ?_; show WC _ _ _ _ _ _
  refine wc_sr ?_
  refine wl_new (cs := zC) zeroC rfl fun g w1 hg a1 hb1 => ?_
  refine wl_as rfl rfl ?_; refine wl_ns ?_; refine wc_sr ?_
  refine wl_val (opv_build (vs := []) (cs := zC) trivial (by kernel_rfl)) rfl ?_
  refine wl_new (cs := zC) zeroC rfl fun g2 w2 hg2 a2 hb2 => ?_
  refine wl_storeS (cs' := zC) sC a2 rfl rfl rfl rfl fun w3 a3 g3 _ => ?_
  have hlt := a1.lt
  have b1 := (a1.bel hb2).grA g3 (fun a ha => by cases ha; exact (show g2 ≠ g by omega))
  have hb3 := g3.belowI (hb1.trans (hb2.mono hb1.size)) (by have := hb1.size; omega) (by have := hb1.size; have := hb2.size; omega)
  clear a1 a2
  unfold zC at a3
  cases u with
  | nil =>
    rw [vaV]
    refine wl_ns ?_; refine wc_seq ?_; refine wc_sr ?_; refine wl_mv rfl rfl ?_; apply wl_val; apply opv_bin; exact rfl; exact rfl; exact bin_eqlNN iAny.2; exact rfl; refine wl_ns ?_; apply wc_condTb; exact rfl; exact rfl; refine wc_sr ?_; apply wl_val; apply opv_loadX; exact rfl; assumption; exact sC; exact rfl
    refine wl_storeS (cs' := zC) sC b1 rfl rfl rfl rfl fun w4 a4 g4 _ => ?_
    have hb4 := g4.belowI hb3 (by omega) hb3.size
    refine wl_as rfl rfl ?_; refine wl_ns ?_; refine wc_ret ?_; refine we_seq_ret ?_
    exact we_retC1 rfl rfl rfl a4 sC ⟨_, rfl, none, 0, rfl, Ow.nil _ _ _, hb4⟩
  | bool b =>
    rw [vaV]
    refine wl_ns ?_; refine wc_seq ?_; refine wc_sr ?_; refine wl_mv rfl rfl ?_; apply wl_val; apply opv_bin; exact rfl; exact rfl; exact bin_eqlIN iAny.1; exact rfl; refine wl_ns ?_; apply wc_condFb; exact rfl; exact rfl; refine wc_skip ?_; refine we_seq ?_; refine wc_seq ?_; refine wc_sr ?_; refine wl_mv rfl rfl ?_; apply wl_val; apply opv_asT; kernel_rfl; exact rfl; exact rfl; refine wl_mv rfl rfl ?_; apply wl_val; apply opv_extract; exact rfl; exact rfl; exact rfl; apply wl_val; apply opv_extract; exact rfl; exact rfl; exact rfl; refine wl_as rfl rfl ?_; refine wl_as rfl rfl ?_; refine wl_ns ?_; refine wc_sr ?_; refine wl_mv rfl rfl ?_; refine wl_ns ?_; apply wc_condTb; exact rfl; exact rfl; refine wc_sr ?_; refine wl_mv rfl rfl ?_
    refine wl_val (opv_build (vs := [(0, .int .i64 1), (1, .bool b)]) (cs := [.int .i64 1, .bool b, .int .i64 0, str [], .slice none 0 0]) ⟨rfl, rfl, rfl, rfl, trivial⟩ (by kernel_rfl)) rfl ?_
    refine wl_storeS (cs' := [.int .i64 1, .bool b, .int .i64 0, str [], .slice none 0 0]) sC b1 rfl rfl rfl rfl fun w4 a4 g4 _ => ?_
    have hb4 := g4.belowI hb3 (by omega) hb3.size
    refine wl_as rfl rfl ?_; refine wl_ns ?_; refine wc_ret ?_; refine we_seq_ret ?_
    exact we_retC1 rfl rfl rfl a4 sC ⟨_, rfl, none, 0, rfl, Ow.nil _ _ _, hb4⟩
  | int n =>
    rw [vaV]
    refine wl_ns ?_; refine wc_seq ?_; refine wc_sr ?_; refine wl_mv rfl rfl ?_; apply wl_val; apply opv_bin; exact rfl; exact rfl; exact bin_eqlIN iAny.1; exact rfl; refine wl_ns ?_; apply wc_condFb; exact rfl; exact rfl; refine wc_skip ?_; refine we_seq ?_; refine wc_seq ?_; refine wc_sr ?_; refine wl_mv rfl rfl ?_; apply wl_val; apply opv_asF; kernel_rfl; exact z_bool; exact rfl; exact rfl; exact rfl; refine wl_mv rfl rfl ?_; apply wl_val; apply opv_extract; exact rfl; exact rfl; exact rfl; apply wl_val; apply opv_extract; exact rfl; exact rfl; exact rfl; refine wl_as rfl rfl ?_; refine wl_as rfl rfl ?_; refine wl_ns ?_; refine wc_sr ?_; refine wl_mv rfl rfl ?_; refine wl_ns ?_; apply wc_condFb; exact rfl; exact rfl; refine wc_skip ?_; refine we_seq ?_; refine wc_seq ?_; refine wc_sr ?_; refine wl_mv rfl rfl ?_; apply wl_val; apply opv_asT; kernel_rfl; exact rfl; exact rfl; refine wl_mv rfl rfl ?_; apply wl_val; apply opv_extract; exact rfl; exact rfl; exact rfl; apply wl_val; apply opv_extract; exact rfl; exact rfl; exact rfl; refine wl_as rfl rfl ?_; refine wl_as rfl rfl ?_; refine wl_ns ?_; refine wc_sr ?_; refine wl_mv rfl rfl ?_; refine wl_ns ?_; apply wc_condTb; exact rfl; exact rfl; refine wc_sr ?_; refine wl_mv rfl rfl ?_
    refine wl_val (opv_build (vs := [(0, .int .i64 2), (2, .int .i64 n)]) (cs := [.int .i64 2, .bool false, .int .i64 n, str [], .slice none 0 0]) ⟨rfl, rfl, rfl, rfl, trivial⟩ (by kernel_rfl)) rfl ?_
    refine wl_storeS (cs' := [.int .i64 2, .bool false, .int .i64 n, str [], .slice none 0 0]) sC b1 rfl rfl rfl rfl fun w4 a4 g4 _ => ?_
    have hb4 := g4.belowI hb3 (by omega) hb3.size
    refine wl_as rfl rfl ?_; refine wl_ns ?_; refine wc_ret ?_; refine we_seq_ret ?_
    exact we_retC1 rfl rfl rfl a4 sC ⟨_, rfl, none, 0, rfl, Ow.nil _ _ _, hb4⟩
  | text s =>
    rw [vaV]
    refine wl_ns ?_; refine wc_seq ?_; refine wc_sr ?_; refine wl_mv rfl rfl ?_; apply wl_val; apply opv_bin; exact rfl; exact rfl; exact bin_eqlIN iAny.1; exact rfl; refine wl_ns ?_; apply wc_condFb; exact rfl; exact rfl; refine wc_skip ?_; refine we_seq ?_; refine wc_seq ?_; refine wc_sr ?_; refine wl_mv rfl rfl ?_; apply wl_val; apply opv_asF; kernel_rfl; exact z_bool; exact rfl; exact rfl; exact rfl; refine wl_mv rfl rfl ?_; apply wl_val; apply opv_extract; exact rfl; exact rfl; exact rfl; apply wl_val; apply opv_extract; exact rfl; exact rfl; exact rfl; refine wl_as rfl rfl ?_; refine wl_as rfl rfl ?_; refine wl_ns ?_; refine wc_sr ?_; refine wl_mv rfl rfl ?_; refine wl_ns ?_; apply wc_condFb; exact rfl; exact rfl; refine wc_skip ?_; refine we_seq ?_; refine wc_seq ?_; refine wc_sr ?_; refine wl_mv rfl rfl ?_; apply wl_val; apply opv_asF; kernel_rfl; exact z_i64; exact rfl; exact rfl; exact rfl; refine wl_mv rfl rfl ?_; apply wl_val; apply opv_extract; exact rfl; exact rfl; exact rfl; apply wl_val; apply opv_extract; exact rfl; exact rfl; exact rfl; refine wl_as rfl rfl ?_; refine wl_as rfl rfl ?_; refine wl_ns ?_; refine wc_sr ?_; refine wl_mv rfl rfl ?_; refine wl_ns ?_; apply wc_condFb; exact rfl; exact rfl; refine wc_skip ?_; refine we_seq ?_; refine wc_seq ?_; refine wc_sr ?_; refine wl_mv rfl rfl ?_; apply wl_val; apply opv_asT; kernel_rfl; exact rfl; exact rfl; refine wl_mv rfl rfl ?_; apply wl_val; apply opv_extract; exact rfl; exact rfl; exact rfl; apply wl_val; apply opv_extract; exact rfl; exact rfl; exact rfl; refine wl_as rfl rfl ?_; refine wl_as rfl rfl ?_; refine wl_ns ?_; refine wc_sr ?_; refine wl_mv rfl rfl ?_; refine wl_ns ?_; apply wc_condTb; exact rfl; exact rfl; refine wc_sr ?_; refine wl_mv rfl rfl ?_
    refine wl_val (opv_build (vs := [(0, .int .i64 3), (3, str s)]) (cs := [.int .i64 3, .bool false, .int .i64 0, str s, .slice none 0 0]) ⟨rfl, rfl, rfl, rfl, trivial⟩ (by kernel_rfl)) rfl ?_
    refine wl_storeS (cs' := [.int .i64 3, .bool false, .int .i64 0, str s, .slice none 0 0]) sC b1 rfl rfl rfl rfl fun w4 a4 g4 _ => ?_
    have hb4 := g4.belowI hb3 (by omega) hb3.size
    refine wl_as rfl rfl ?_; refine wl_ns ?_; refine wc_ret ?_; refine we_seq_ret ?_
    exact we_retC1 rfl rfl rfl a4 sC ⟨_, rfl, none, 0, rfl, Ow.nil _ _ _, hb4⟩
  | bytes d =>
    have hr' : RdB w3 A d := RdB.below hr hb3
    rw [vaV]
    refine wl_ns ?_; refine wc_seq ?_; refine wc_sr ?_; refine wl_mv rfl rfl ?_; apply wl_val; apply opv_bin; exact rfl; exact rfl; exact bin_eqlIN iAny.1; exact rfl; refine wl_ns ?_; apply wc_condFb; exact rfl; exact rfl; refine wc_skip ?_; refine we_seq ?_; refine wc_seq ?_; refine wc_sr ?_; refine wl_mv rfl rfl ?_; apply wl_val; apply opv_asF; kernel_rfl; exact z_bool; exact rfl; exact rfl; exact rfl; refine wl_mv rfl rfl ?_; apply wl_val; apply opv_extract; exact rfl; exact rfl; exact rfl; apply wl_val; apply opv_extract; exact rfl; exact rfl; exact rfl; refine wl_as rfl rfl ?_; refine wl_as rfl rfl ?_; refine wl_ns ?_; refine wc_sr ?_; refine wl_mv rfl rfl ?_; refine wl_ns ?_; apply wc_condFb; exact rfl; exact rfl; refine wc_skip ?_; refine we_seq ?_; refine wc_seq ?_; refine wc_sr ?_; refine wl_mv rfl rfl ?_; apply wl_val; apply opv_asF; kernel_rfl; exact z_i64; exact rfl; exact rfl; exact rfl; refine wl_mv rfl rfl ?_; apply wl_val; apply opv_extract; exact rfl; exact rfl; exact rfl; apply wl_val; apply opv_extract; exact rfl; exact rfl; exact rfl; refine wl_as rfl rfl ?_; refine wl_as rfl rfl ?_; refine wl_ns ?_; refine wc_sr ?_; refine wl_mv rfl rfl ?_; refine wl_ns ?_; apply wc_condFb; exact rfl; exact rfl; refine wc_skip ?_; refine we_seq ?_; refine wc_seq ?_; refine wc_sr ?_; refine wl_mv rfl rfl ?_; apply wl_val; apply opv_asF; kernel_rfl; exact z_str; exact rfl; exact rfl; exact rfl; refine wl_mv rfl rfl ?_; apply wl_val; apply opv_extract; exact rfl; exact rfl; exact rfl; apply wl_val; apply opv_extract; exact rfl; exact rfl; exact rfl; refine wl_as rfl rfl ?_; refine wl_as rfl rfl ?_; refine wl_ns ?_; refine wc_sr ?_; refine wl_mv rfl rfl ?_; refine wl_ns ?_; apply wc_condFb; exact rfl; exact rfl; refine wc_skip ?_; refine we_seq ?_; refine wc_seq ?_; refine wc_sr ?_; refine wl_mv rfl rfl ?_; apply wl_val; apply opv_asT; kernel_rfl; exact rfl; exact rfl; refine wl_mv rfl rfl ?_; apply wl_val; apply opv_extract; exact rfl; exact rfl; exact rfl; apply wl_val; apply opv_extract; exact rfl; exact rfl; exact rfl; refine wl_as rfl rfl ?_; refine wl_as rfl rfl ?_; refine wl_ns ?_; refine wc_sr ?_; refine wl_mv rfl rfl ?_; refine wl_ns ?_; apply wc_condTb; exact rfl; exact rfl; refine wc_sr ?_; refine wl_mv rfl rfl ?_
    refine wl_call ok_bytes_Clone (clone_any hr' rfl hl) ⟨rfl, trivial⟩ rfl ?_
    rintro _ w5 ⟨B, e, rfl, o5, hb5⟩
    have b5 := b1.bel hb5
    have hb35 := hb3.trans (hb5.mono hb3.size)
    refine wl_val (opv_build (vs := [(0, .int .i64 4), (4, .slice B d.length e)]) (cs := [.int .i64 4, .bool false, .int .i64 0, str [], .slice B d.length e]) ⟨rfl, rfl, rfl, rfl, trivial⟩ (by kernel_rfl)) rfl ?_
    refine wl_storeS (cs' := [.int .i64 4, .bool false, .int .i64 0, str [], .slice B d.length e]) sC b5 rfl rfl rfl rfl fun w4 a4 g4 _ => ?_
    have hb4 := g4.belowI hb35 (by omega) hb35.size
    have hs3 := hb3.size
    have hgw : g < w3.heap.size := b1.lt
    have o4 : OwB w4 w.heap.size B e d := Ow.gr (base' := 0) (e' := 0) (Ow.mono o5 hs3) g4 fun a x ha hx => by
      cases hx
      have := (Ow.lt o5 a ha).1
      exact (show a.block ≠ g by omega)
    refine wl_as rfl rfl ?_; refine wl_ns ?_; refine wc_ret ?_; refine we_seq_ret ?_
    exact we_retC1 rfl rfl rfl a4 sC ⟨_, rfl, B, e, rfl, o4, hb4⟩
end Go.Proofs.Ytdgagffieobiiaa

/-
  Walks over twin, and over the functions that look into one value: Kind, IntOf, TextOf, BoolOf, BytesOf, MustInt, MustText.
-/
namespace Go.Proofs.Ytdgagffieobiiaa
open Go.RowKit

end Go.Proofs.Ytdgagffieobiiaa

/-
  The walk over Of: a cell in form is told as its value, every other one is refused. Printed by gen_sf.py.
-/
namespace Go.Proofs.Ytdgagffieobiiaa
open Go.RowKit

/-- What a cell is told as: its value, the bytes in new memory; or none, and the error of form. -/
def RetOf (w : World) (x : Ce) (v : Value) (w' : World) : Prop :=
  (goodC x = true ∧ ∃ (B : Option Addr) (d : Nat), v = .tuple #[vaV (ceVa x) B d, .int .i64 0] ∧ OwB w' w.heap.size B d x.data ∧ Below w.heap.size w w') ∨
  (goodC x = false ∧ v = .tuple #[.nilIface, .int .i64 3] ∧ Below w.heap.size w w')
theorem of_k0 {b : Bool} {n : Int} {s d : List UInt8} {A : Option Addr} {c : Nat} {w : World} (hr : RdB w A d) (hl : d.length ≤ 70368744177664) :
    CallsV Try.prog 40 #[.agg (ceV ⟨0, b, n, s, d⟩ A c).toArray] w (RetOf w ⟨0, b, n, s, d⟩) := by
  refine calls_in (N := _) Try.func40 rfl Try.ntmps40 rfl ?_; show WC _ _ _ _ _ _
  refine wc_sr ?_
  refine wl_box (cs := ceV ⟨0, b, n, s, d⟩ A c) rfl rfl fun g w1 hg a1 hb1 => ?_
  have hlt := a1.lt
  unfold ceV at a1
  simp only at a1
  refine wl_as rfl rfl ?_; refine wl_as rfl rfl ?_; refine wl_ns ?_; refine wc_sr ?_; refine wl_as rfl rfl ?_; refine wl_ns ?_; refine wc_seq ?_; refine wc_sr ?_; apply wl_val; apply opv_fa; exact fa_sC (by decide); exact rfl; exact rfl; apply wl_val; apply opv_ldX; exact rfl; assumption; exact c1_int; exact rfl; exact rfl; refine wl_ns ?_; refine wc_block ?_; refine wc_sr ?_; refine wl_bin rfl rfl bin_eql rfl ?_; refine wl_as rfl rfl ?_; refine wl_ns ?_; apply wc_condTb; exact rfl; exact rfl; refine wc_skip ?_; refine we_block_norm ?_; refine we_seq ?_; refine wc_seq ?_; refine wc_sr ?_; refine wl_mv rfl rfl ?_
  refine wl_call ok_cell_Cell (cell_any (u := .nil) (A := none) (c := 0) (Rd.nil _ _) (by simp [vaC])) ⟨rfl, trivial⟩ rfl ?_
  rintro _ w2 ⟨B, e, rfl, o2, hb2⟩
  replace a1 := a1.bel hb2
  have hb12 := hb1.trans (hb2.mono hb1.size)
  refine wl_mv rfl rfl ?_; apply wl_val; apply opv_extract; exact rfl; exact rfl; exact rfl; apply wl_val; apply opv_extract; exact rfl; exact rfl; exact rfl
  refine wl_new (cs := zC) zeroC rfl fun g2 w3 hg2 a3 hb3 => ?_
  refine wl_storeS (cs' := ceV (vaC (.nil)) B e) sC a3 rfl rfl rfl rfl fun w4 a4 g4 _ => ?_
  have hs1 := hb1.size; have hs2 := hb2.size; have hs3 := hb3.size
  replace a1 := (a1.bel hb3).grA g4 (fun a ha => by cases ha; exact (show g2 ≠ g by omega))
  have hb4 := g4.belowI (hb12.trans (hb3.mono hb12.size)) (by omega) (by omega)
  unfold ceV vaC at a4
  simp only at a4
  cases b with
  | true =>
    have hft : false ≠ true := Bool.false_ne_true
    refine wl_as rfl rfl ?_; refine wl_ns ?_; refine wc_sr ?_; apply wl_val; apply opv_fa; exact fa_sC (by decide); exact rfl; exact rfl; apply wl_val; apply opv_ldX; exact rfl; assumption; exact c1_bool; exact rfl; exact rfl; apply wl_val; apply opv_fa; exact fa_sC (by decide); exact rfl; exact rfl; apply wl_val; apply opv_ldX; exact rfl; assumption; exact c1_bool; exact rfl; exact rfl; apply wl_val; apply opv_bin; exact rfl; exact rfl; exact bin_neqB tyBool; exact rfl; refine wl_mv rfl rfl ?_; apply wl_skip; exact rfl; exact rfl; exact rfl; refine bTn ?_; (with_reducible assumption); exact rfl; apply wl_skip; exact rfl; exact rfl; exact rfl; refine bTn ?_; (with_reducible assumption); exact rfl; apply wl_skip; exact rfl; exact rfl; exact rfl; refine bTn ?_; (with_reducible assumption); exact rfl; apply wl_skip; exact rfl; exact rfl; exact rfl; refine bTn ?_; (with_reducible assumption); exact rfl; apply wl_skip; exact rfl; exact rfl; exact rfl; refine bTn ?_; (with_reducible assumption); exact rfl; apply wl_val; apply opv_pickT; exact rfl; refine bT ?_; (with_reducible assumption); exact rfl; exact rfl; refine wl_mv rfl rfl ?_; apply wl_skip; exact rfl; exact rfl; exact rfl; exact bR1; exact rfl; apply wl_skip; exact rfl; exact rfl; exact rfl; exact bR1; exact rfl; apply wl_skip; exact rfl; exact rfl; exact rfl; exact bR1; exact rfl; apply wl_skip; exact rfl; exact rfl; exact rfl; exact bR1; exact rfl; apply wl_skip; exact rfl; exact rfl; exact rfl; exact bR1; exact rfl; apply wl_val; apply opv_pickT; exact rfl; exact rfl; exact rfl; exact rfl; refine wl_mv rfl rfl ?_; apply wl_skip; exact rfl; exact rfl; exact rfl; exact bR1; exact rfl; apply wl_skip; exact rfl; exact rfl; exact rfl; exact bR1; exact rfl; apply wl_skip; exact rfl; exact rfl; exact rfl; exact bR1; exact rfl; apply wl_skip; exact rfl; exact rfl; exact rfl; exact bR1; exact rfl; apply wl_skip; exact rfl; exact rfl; exact rfl; exact bR1; exact rfl; apply wl_skip; exact rfl; exact rfl; exact rfl; exact bR1; exact rfl; apply wl_skip; exact rfl; exact rfl; exact rfl; exact bR1; exact rfl; apply wl_val; apply opv_pickT; exact rfl; exact rfl; exact rfl; exact rfl; refine wl_ns ?_; apply wc_condTb; exact rfl; exact rfl; refine wc_sr ?_; refine wl_as rfl rfl ?_; refine wl_as rfl rfl ?_; refine wl_ns ?_; refine wc_ret ?_; refine we_seq_ret ?_
    exact we_ret2 rfl rfl rfl ⟨_, rfl, .inr ⟨by simp [goodC], rfl, hb4⟩⟩
  | false =>
  by_cases hn : (0 : Int) = n
  case neg =>
    have hn' : ¬ n = (0 : Int) := fun e => hn e.symm
    refine wl_as rfl rfl ?_; refine wl_ns ?_; refine wc_sr ?_; apply wl_val; apply opv_fa; exact fa_sC (by decide); exact rfl; exact rfl; apply wl_val; apply opv_ldX; exact rfl; assumption; exact c1_bool; exact rfl; exact rfl; apply wl_val; apply opv_fa; exact fa_sC (by decide); exact rfl; exact rfl; apply wl_val; apply opv_ldX; exact rfl; assumption; exact c1_bool; exact rfl; exact rfl; apply wl_val; apply opv_bin; exact rfl; exact rfl; exact bin_neqB tyBool; exact rfl; refine wl_mv rfl rfl ?_; apply wl_take; exact rfl; exact rfl; exact rfl; refine bF ?_; (with_reducible exact nne); apply wl_val; apply opv_fa; exact fa_sC (by decide); exact rfl; exact rfl; apply wl_take; exact rfl; exact rfl; exact rfl; refine bF ?_; (with_reducible exact nne); apply wl_val; apply opv_ldX; exact rfl; assumption; exact c1_i64; exact rfl; exact rfl; apply wl_take; exact rfl; exact rfl; exact rfl; refine bF ?_; (with_reducible exact nne); apply wl_val; apply opv_fa; exact fa_sC (by decide); exact rfl; exact rfl; apply wl_take; exact rfl; exact rfl; exact rfl; refine bF ?_; (with_reducible exact nne); apply wl_val; apply opv_ldX; exact rfl; assumption; exact c1_i64; exact rfl; exact rfl; apply wl_take; exact rfl; exact rfl; exact rfl; refine bF ?_; (with_reducible exact nne); refine wl_bin rfl rfl bin_neq rfl ?_; apply wl_val; apply opv_pickF; exact rfl; refine bF ?_; (with_reducible exact nne); exact rfl; exact rfl; refine wl_mv rfl rfl ?_; apply wl_skip; exact rfl; exact rfl; exact rfl; refine bTn ?_; (with_reducible assumption); exact rfl; apply wl_skip; exact rfl; exact rfl; exact rfl; refine bTn ?_; (with_reducible assumption); exact rfl; apply wl_skip; exact rfl; exact rfl; exact rfl; refine bTn ?_; (with_reducible assumption); exact rfl; apply wl_skip; exact rfl; exact rfl; exact rfl; refine bTn ?_; (with_reducible assumption); exact rfl; apply wl_skip; exact rfl; exact rfl; exact rfl; refine bTn ?_; (with_reducible assumption); exact rfl; apply wl_val; apply opv_pickT; exact rfl; refine bT ?_; (with_reducible assumption); exact rfl; exact rfl; refine wl_mv rfl rfl ?_; apply wl_skip; exact rfl; exact rfl; exact rfl; exact bR1; exact rfl; apply wl_skip; exact rfl; exact rfl; exact rfl; exact bR1; exact rfl; apply wl_skip; exact rfl; exact rfl; exact rfl; exact bR1; exact rfl; apply wl_skip; exact rfl; exact rfl; exact rfl; exact bR1; exact rfl; apply wl_skip; exact rfl; exact rfl; exact rfl; exact bR1; exact rfl; apply wl_skip; exact rfl; exact rfl; exact rfl; exact bR1; exact rfl; apply wl_skip; exact rfl; exact rfl; exact rfl; exact bR1; exact rfl; apply wl_val; apply opv_pickT; exact rfl; exact rfl; exact rfl; exact rfl; refine wl_ns ?_; apply wc_condTb; exact rfl; exact rfl; refine wc_sr ?_; refine wl_as rfl rfl ?_; refine wl_as rfl rfl ?_; refine wl_ns ?_; refine wc_ret ?_; refine we_seq_ret ?_
    exact we_ret2 rfl rfl rfl ⟨_, rfl, .inr ⟨by simp [goodC, hn'], rfl, hb4⟩⟩
  subst hn
  by_cases hs : ([] : List UInt8) = s
  case neg =>
    have hs' : ¬ s = ([] : List UInt8) := fun e => hs e.symm
    refine wl_as rfl rfl ?_; refine wl_ns ?_; refine wc_sr ?_; apply wl_val; apply opv_fa; exact fa_sC (by decide); exact rfl; exact rfl; apply wl_val; apply opv_ldX; exact rfl; assumption; exact c1_bool; exact rfl; exact rfl; apply wl_val; apply opv_fa; exact fa_sC (by decide); exact rfl; exact rfl; apply wl_val; apply opv_ldX; exact rfl; assumption; exact c1_bool; exact rfl; exact rfl; apply wl_val; apply opv_bin; exact rfl; exact rfl; exact bin_neqB tyBool; exact rfl; refine wl_mv rfl rfl ?_; apply wl_take; exact rfl; exact rfl; exact rfl; refine bF ?_; (with_reducible exact nne); apply wl_val; apply opv_fa; exact fa_sC (by decide); exact rfl; exact rfl; apply wl_take; exact rfl; exact rfl; exact rfl; refine bF ?_; (with_reducible exact nne); apply wl_val; apply opv_ldX; exact rfl; assumption; exact c1_i64; exact rfl; exact rfl; apply wl_take; exact rfl; exact rfl; exact rfl; refine bF ?_; (with_reducible exact nne); apply wl_val; apply opv_fa; exact fa_sC (by decide); exact rfl; exact rfl; apply wl_take; exact rfl; exact rfl; exact rfl; refine bF ?_; (with_reducible exact nne); apply wl_val; apply opv_ldX; exact rfl; assumption; exact c1_i64; exact rfl; exact rfl; apply wl_take; exact rfl; exact rfl; exact rfl; refine bF ?_; (with_reducible exact nne); refine wl_bin rfl rfl bin_neq rfl ?_; apply wl_val; apply opv_pickF; exact rfl; refine bF ?_; (with_reducible exact nne); exact rfl; exact rfl; refine wl_mv rfl rfl ?_; apply wl_take; exact rfl; exact rfl; exact rfl; refine bF ?_; (with_reducible exact nne); apply wl_val; apply opv_fa; exact fa_sC (by decide); exact rfl; exact rfl; apply wl_take; exact rfl; exact rfl; exact rfl; refine bF ?_; (with_reducible exact nne); apply wl_val; apply opv_ldX; exact rfl; assumption; exact c1_str; exact rfl; exact rfl; apply wl_take; exact rfl; exact rfl; exact rfl; refine bF ?_; (with_reducible exact nne); apply wl_val; apply opv_fa; exact fa_sC (by decide); exact rfl; exact rfl; apply wl_take; exact rfl; exact rfl; exact rfl; refine bF ?_; (with_reducible exact nne); apply wl_val; apply opv_ldX; exact rfl; assumption; exact c1_str; exact rfl; exact rfl; apply wl_take; exact rfl; exact rfl; exact rfl; refine bF ?_; (with_reducible exact nne); refine wl_bin rfl rfl bin_neqS rfl ?_; apply wl_val; apply opv_pickF; exact rfl; refine bF ?_; (with_reducible exact nne); exact rfl; exact rfl; refine wl_mv rfl rfl ?_; apply wl_skip; exact rfl; exact rfl; exact rfl; refine bTn ?_; (with_reducible assumption); exact rfl; apply wl_skip; exact rfl; exact rfl; exact rfl; refine bTn ?_; (with_reducible assumption); exact rfl; apply wl_skip; exact rfl; exact rfl; exact rfl; refine bTn ?_; (with_reducible assumption); exact rfl; apply wl_skip; exact rfl; exact rfl; exact rfl; refine bTn ?_; (with_reducible assumption); exact rfl; apply wl_skip; exact rfl; exact rfl; exact rfl; refine bTn ?_; (with_reducible assumption); exact rfl; apply wl_skip; exact rfl; exact rfl; exact rfl; refine bTn ?_; (with_reducible assumption); exact rfl; apply wl_skip; exact rfl; exact rfl; exact rfl; refine bTn ?_; (with_reducible assumption); exact rfl; apply wl_val; apply opv_pickT; exact rfl; refine bT ?_; (with_reducible assumption); exact rfl; exact rfl; refine wl_ns ?_; apply wc_condTb; exact rfl; exact rfl; refine wc_sr ?_; refine wl_as rfl rfl ?_; refine wl_as rfl rfl ?_; refine wl_ns ?_; refine wc_ret ?_; refine we_seq_ret ?_
    exact we_ret2 rfl rfl rfl ⟨_, rfl, .inr ⟨by simp [goodC, hs'], rfl, hb4⟩⟩
  subst hs
  by_cases hd : ([] : List UInt8) = d
  case neg =>
    have hd' : ¬ d = ([] : List UInt8) := fun e => hd e.symm
    have hdl : ¬ ((([] : List UInt8).length : Nat) : Int) = (d.length : Int) := fun e => hd' (List.length_eq_zero_iff.1 (by simp at e; omega))
    refine wl_as rfl rfl ?_; refine wl_ns ?_; refine wc_sr ?_; apply wl_val; apply opv_fa; exact fa_sC (by decide); exact rfl; exact rfl; apply wl_val; apply opv_ldX; exact rfl; assumption; exact c1_bool; exact rfl; exact rfl; apply wl_val; apply opv_fa; exact fa_sC (by decide); exact rfl; exact rfl; apply wl_val; apply opv_ldX; exact rfl; assumption; exact c1_bool; exact rfl; exact rfl; apply wl_val; apply opv_bin; exact rfl; exact rfl; exact bin_neqB tyBool; exact rfl; refine wl_mv rfl rfl ?_; apply wl_take; exact rfl; exact rfl; exact rfl; refine bF ?_; (with_reducible exact nne); apply wl_val; apply opv_fa; exact fa_sC (by decide); exact rfl; exact rfl; apply wl_take; exact rfl; exact rfl; exact rfl; refine bF ?_; (with_reducible exact nne); apply wl_val; apply opv_ldX; exact rfl; assumption; exact c1_i64; exact rfl; exact rfl; apply wl_take; exact rfl; exact rfl; exact rfl; refine bF ?_; (with_reducible exact nne); apply wl_val; apply opv_fa; exact fa_sC (by decide); exact rfl; exact rfl; apply wl_take; exact rfl; exact rfl; exact rfl; refine bF ?_; (with_reducible exact nne); apply wl_val; apply opv_ldX; exact rfl; assumption; exact c1_i64; exact rfl; exact rfl; apply wl_take; exact rfl; exact rfl; exact rfl; refine bF ?_; (with_reducible exact nne); refine wl_bin rfl rfl bin_neq rfl ?_; apply wl_val; apply opv_pickF; exact rfl; refine bF ?_; (with_reducible exact nne); exact rfl; exact rfl; refine wl_mv rfl rfl ?_; apply wl_take; exact rfl; exact rfl; exact rfl; refine bF ?_; (with_reducible exact nne); apply wl_val; apply opv_fa; exact fa_sC (by decide); exact rfl; exact rfl; apply wl_take; exact rfl; exact rfl; exact rfl; refine bF ?_; (with_reducible exact nne); apply wl_val; apply opv_ldX; exact rfl; assumption; exact c1_str; exact rfl; exact rfl; apply wl_take; exact rfl; exact rfl; exact rfl; refine bF ?_; (with_reducible exact nne); apply wl_val; apply opv_fa; exact fa_sC (by decide); exact rfl; exact rfl; apply wl_take; exact rfl; exact rfl; exact rfl; refine bF ?_; (with_reducible exact nne); apply wl_val; apply opv_ldX; exact rfl; assumption; exact c1_str; exact rfl; exact rfl; apply wl_take; exact rfl; exact rfl; exact rfl; refine bF ?_; (with_reducible exact nne); refine wl_bin rfl rfl bin_neqS rfl ?_; apply wl_val; apply opv_pickF; exact rfl; refine bF ?_; (with_reducible exact nne); exact rfl; exact rfl; refine wl_mv rfl rfl ?_; apply wl_take; exact rfl; exact rfl; exact rfl; refine bF ?_; (with_reducible exact nne); apply wl_val; apply opv_fa; exact fa_sC (by decide); exact rfl; exact rfl; apply wl_take; exact rfl; exact rfl; exact rfl; refine bF ?_; (with_reducible exact nne); apply wl_val; apply opv_ldX; exact rfl; assumption; exact c1_by; exact rfl; exact rfl; apply wl_take; exact rfl; exact rfl; exact rfl; refine bF ?_; (with_reducible exact nne); apply wl_val; apply opv_len; exact rfl; exact tyB.sl; exact rfl; apply wl_take; exact rfl; exact rfl; exact rfl; refine bF ?_; (with_reducible exact nne); apply wl_val; apply opv_fa; exact fa_sC (by decide); exact rfl; exact rfl; apply wl_take; exact rfl; exact rfl; exact rfl; refine bF ?_; (with_reducible exact nne); apply wl_val; apply opv_ldX; exact rfl; assumption; exact c1_by; exact rfl; exact rfl; apply wl_take; exact rfl; exact rfl; exact rfl; refine bF ?_; (with_reducible exact nne); apply wl_val; apply opv_len; exact rfl; exact tyB.sl; exact rfl; apply wl_take; exact rfl; exact rfl; exact rfl; refine bF ?_; (with_reducible exact nne); refine wl_bin rfl rfl bin_neq rfl ?_; apply wl_val; apply opv_pickF; exact rfl; refine bF ?_; (with_reducible exact nne); exact rfl; exact rfl; refine wl_ns ?_; apply wc_decT; exact rfl; (with_reducible assumption); refine wc_sr ?_; refine wl_as rfl rfl ?_; refine wl_as rfl rfl ?_; refine wl_ns ?_; refine wc_ret ?_; refine we_seq_ret ?_
    exact we_ret2 rfl rfl rfl ⟨_, rfl, .inr ⟨by simp [goodC, hd'], rfl, hb4⟩⟩
  subst hd
  refine wl_as rfl rfl ?_; refine wl_ns ?_; refine wc_sr ?_; apply wl_val; apply opv_fa; exact fa_sC (by decide); exact rfl; exact rfl; apply wl_val; apply opv_ldX; exact rfl; assumption; exact c1_bool; exact rfl; exact rfl; apply wl_val; apply opv_fa; exact fa_sC (by decide); exact rfl; exact rfl; apply wl_val; apply opv_ldX; exact rfl; assumption; exact c1_bool; exact rfl; exact rfl; apply wl_val; apply opv_bin; exact rfl; exact rfl; exact bin_neqB tyBool; exact rfl; refine wl_mv rfl rfl ?_; apply wl_take; exact rfl; exact rfl; exact rfl; refine bF ?_; (with_reducible exact nne); apply wl_val; apply opv_fa; exact fa_sC (by decide); exact rfl; exact rfl; apply wl_take; exact rfl; exact rfl; exact rfl; refine bF ?_; (with_reducible exact nne); apply wl_val; apply opv_ldX; exact rfl; assumption; exact c1_i64; exact rfl; exact rfl; apply wl_take; exact rfl; exact rfl; exact rfl; refine bF ?_; (with_reducible exact nne); apply wl_val; apply opv_fa; exact fa_sC (by decide); exact rfl; exact rfl; apply wl_take; exact rfl; exact rfl; exact rfl; refine bF ?_; (with_reducible exact nne); apply wl_val; apply opv_ldX; exact rfl; assumption; exact c1_i64; exact rfl; exact rfl; apply wl_take; exact rfl; exact rfl; exact rfl; refine bF ?_; (with_reducible exact nne); refine wl_bin rfl rfl bin_neq rfl ?_; apply wl_val; apply opv_pickF; exact rfl; refine bF ?_; (with_reducible exact nne); exact rfl; exact rfl; refine wl_mv rfl rfl ?_; apply wl_take; exact rfl; exact rfl; exact rfl; refine bF ?_; (with_reducible exact nne); apply wl_val; apply opv_fa; exact fa_sC (by decide); exact rfl; exact rfl; apply wl_take; exact rfl; exact rfl; exact rfl; refine bF ?_; (with_reducible exact nne); apply wl_val; apply opv_ldX; exact rfl; assumption; exact c1_str; exact rfl; exact rfl; apply wl_take; exact rfl; exact rfl; exact rfl; refine bF ?_; (with_reducible exact nne); apply wl_val; apply opv_fa; exact fa_sC (by decide); exact rfl; exact rfl; apply wl_take; exact rfl; exact rfl; exact rfl; refine bF ?_; (with_reducible exact nne); apply wl_val; apply opv_ldX; exact rfl; assumption; exact c1_str; exact rfl; exact rfl; apply wl_take; exact rfl; exact rfl; exact rfl; refine bF ?_; (with_reducible exact nne); refine wl_bin rfl rfl bin_neqS rfl ?_; apply wl_val; apply opv_pickF; exact rfl; refine bF ?_; (with_reducible exact nne); exact rfl; exact rfl; refine wl_mv rfl rfl ?_; apply wl_take; exact rfl; exact rfl; exact rfl; refine bF ?_; (with_reducible exact nne); apply wl_val; apply opv_fa; exact fa_sC (by decide); exact rfl; exact rfl; apply wl_take; exact rfl; exact rfl; exact rfl; refine bF ?_; (with_reducible exact nne); apply wl_val; apply opv_ldX; exact rfl; assumption; exact c1_by; exact rfl; exact rfl; apply wl_take; exact rfl; exact rfl; exact rfl; refine bF ?_; (with_reducible exact nne); apply wl_val; apply opv_len; exact rfl; exact tyB.sl; exact rfl; apply wl_take; exact rfl; exact rfl; exact rfl; refine bF ?_; (with_reducible exact nne); apply wl_val; apply opv_fa; exact fa_sC (by decide); exact rfl; exact rfl; apply wl_take; exact rfl; exact rfl; exact rfl; refine bF ?_; (with_reducible exact nne); apply wl_val; apply opv_ldX; exact rfl; assumption; exact c1_by; exact rfl; exact rfl; apply wl_take; exact rfl; exact rfl; exact rfl; refine bF ?_; (with_reducible exact nne); apply wl_val; apply opv_len; exact rfl; exact tyB.sl; exact rfl; apply wl_take; exact rfl; exact rfl; exact rfl; refine bF ?_; (with_reducible exact nne); refine wl_bin rfl rfl bin_neq rfl ?_; apply wl_val; apply opv_pickF; exact rfl; refine bF ?_; (with_reducible exact nne); exact rfl; exact rfl; refine wl_ns ?_; apply wc_condFb; exact rfl; exact rfl; refine wc_skip ?_; refine we_seq ?_; refine wc_sr ?_; refine wl_mv rfl rfl ?_; refine wl_as rfl rfl ?_; refine wl_as rfl rfl ?_; refine wl_ns ?_; refine wc_ret ?_
  exact we_ret2 rfl rfl rfl ⟨_, rfl, .inl ⟨by simp [goodC], none, 0, rfl, Ow.nil _ _ _, hb4⟩⟩
theorem of_k1 {b : Bool} {n : Int} {s d : List UInt8} {A : Option Addr} {c : Nat} {w : World} (hr : RdB w A d) (hl : d.length ≤ 70368744177664) :
    CallsV Try.prog 40 #[.agg (ceV ⟨1, b, n, s, d⟩ A c).toArray] w (RetOf w ⟨1, b, n, s, d⟩) := by
  refine calls_in (N := _) Try.func40 rfl Try.ntmps40 rfl ?_; show WC _ _ _ _ _ _
  refine wc_sr ?_
  refine wl_box (cs := ceV ⟨1, b, n, s, d⟩ A c) rfl rfl fun g w1 hg a1 hb1 => ?_
  have hlt := a1.lt
  unfold ceV at a1
  simp only at a1
  refine wl_as rfl rfl ?_; refine wl_as rfl rfl ?_; refine wl_ns ?_; refine wc_sr ?_; refine wl_as rfl rfl ?_; refine wl_ns ?_; refine wc_seq ?_; refine wc_sr ?_; apply wl_val; apply opv_fa; exact fa_sC (by decide); exact rfl; exact rfl; apply wl_val; apply opv_ldX; exact rfl; assumption; exact c1_int; exact rfl; exact rfl; refine wl_ns ?_; refine wc_block ?_; refine wc_sr ?_; refine wl_bin rfl rfl bin_eql rfl ?_; refine wl_as rfl rfl ?_; refine wl_ns ?_; apply wc_condFb; exact rfl; exact rfl; refine wc_sr ?_; refine wl_bin rfl rfl bin_eql rfl ?_; refine wl_as rfl rfl ?_; refine wl_ns ?_; apply wc_condTb; exact rfl; exact rfl; refine wc_region ?_; apply wl_val; apply opv_fa; exact fa_sC (by decide); exact rfl; exact rfl; apply wl_val; apply opv_ldX; exact rfl; assumption; exact c1_bool; exact rfl; exact rfl; apply wl_val; apply opv_mkI; kernel_rfl; exact rfl; exact rfl; refine wl_as rfl rfl ?_; refine wl_nil ?_; refine we_block_norm ?_; refine we_seq ?_; refine wc_seq ?_; refine wc_sr ?_; refine wl_mv rfl rfl ?_
  refine wl_call ok_cell_Cell (cell_any (u := .bool b) (A := none) (c := 0) (Rd.nil _ _) (by simp [vaC])) ⟨rfl, trivial⟩ rfl ?_
  rintro _ w2 ⟨B, e, rfl, o2, hb2⟩
  replace a1 := a1.bel hb2
  have hb12 := hb1.trans (hb2.mono hb1.size)
  refine wl_mv rfl rfl ?_; apply wl_val; apply opv_extract; exact rfl; exact rfl; exact rfl; apply wl_val; apply opv_extract; exact rfl; exact rfl; exact rfl
  refine wl_new (cs := zC) zeroC rfl fun g2 w3 hg2 a3 hb3 => ?_
  refine wl_storeS (cs' := ceV (vaC (.bool b)) B e) sC a3 rfl rfl rfl rfl fun w4 a4 g4 _ => ?_
  have hs1 := hb1.size; have hs2 := hb2.size; have hs3 := hb3.size
  replace a1 := (a1.bel hb3).grA g4 (fun a ha => by cases ha; exact (show g2 ≠ g by omega))
  have hb4 := g4.belowI (hb12.trans (hb3.mono hb12.size)) (by omega) (by omega)
  unfold ceV vaC at a4
  simp only at a4
  by_cases hn : (0 : Int) = n
  case neg =>
    have hn' : ¬ n = (0 : Int) := fun e => hn e.symm
    refine wl_as rfl rfl ?_; refine wl_ns ?_; refine wc_sr ?_; apply wl_val; apply opv_fa; exact fa_sC (by decide); exact rfl; exact rfl; apply wl_val; apply opv_ldX; exact rfl; assumption; exact c1_bool; exact rfl; exact rfl; apply wl_val; apply opv_fa; exact fa_sC (by decide); exact rfl; exact rfl; apply wl_val; apply opv_ldX; exact rfl; assumption; exact c1_bool; exact rfl; exact rfl; apply wl_val; apply opv_bin; exact rfl; exact rfl; exact bin_neqB tyBool; exact rfl; refine wl_mv rfl rfl ?_; apply wl_take; exact rfl; exact rfl; exact rfl; refine bF ?_; (with_reducible exact nne); apply wl_val; apply opv_fa; exact fa_sC (by decide); exact rfl; exact rfl; apply wl_take; exact rfl; exact rfl; exact rfl; refine bF ?_; (with_reducible exact nne); apply wl_val; apply opv_ldX; exact rfl; assumption; exact c1_i64; exact rfl; exact rfl; apply wl_take; exact rfl; exact rfl; exact rfl; refine bF ?_; (with_reducible exact nne); apply wl_val; apply opv_fa; exact fa_sC (by decide); exact rfl; exact rfl; apply wl_take; exact rfl; exact rfl; exact rfl; refine bF ?_; (with_reducible exact nne); apply wl_val; apply opv_ldX; exact rfl; assumption; exact c1_i64; exact rfl; exact rfl; apply wl_take; exact rfl; exact rfl; exact rfl; refine bF ?_; (with_reducible exact nne); refine wl_bin rfl rfl bin_neq rfl ?_; apply wl_val; apply opv_pickF; exact rfl; refine bF ?_; (with_reducible exact nne); exact rfl; exact rfl; refine wl_mv rfl rfl ?_; apply wl_skip; exact rfl; exact rfl; exact rfl; refine bTn ?_; (with_reducible assumption); exact rfl; apply wl_skip; exact rfl; exact rfl; exact rfl; refine bTn ?_; (with_reducible assumption); exact rfl; apply wl_skip; exact rfl; exact rfl; exact rfl; refine bTn ?_; (with_reducible assumption); exact rfl; apply wl_skip; exact rfl; exact rfl; exact rfl; refine bTn ?_; (with_reducible assumption); exact rfl; apply wl_skip; exact rfl; exact rfl; exact rfl; refine bTn ?_; (with_reducible assumption); exact rfl; apply wl_val; apply opv_pickT; exact rfl; refine bT ?_; (with_reducible assumption); exact rfl; exact rfl; refine wl_mv rfl rfl ?_; apply wl_skip; exact rfl; exact rfl; exact rfl; exact bR1; exact rfl; apply wl_skip; exact rfl; exact rfl; exact rfl; exact bR1; exact rfl; apply wl_skip; exact rfl; exact rfl; exact rfl; exact bR1; exact rfl; apply wl_skip; exact rfl; exact rfl; exact rfl; exact bR1; exact rfl; apply wl_skip; exact rfl; exact rfl; exact rfl; exact bR1; exact rfl; apply wl_skip; exact rfl; exact rfl; exact rfl; exact bR1; exact rfl; apply wl_skip; exact rfl; exact rfl; exact rfl; exact bR1; exact rfl; apply wl_val; apply opv_pickT; exact rfl; exact rfl; exact rfl; exact rfl; refine wl_ns ?_; apply wc_condTb; exact rfl; exact rfl; refine wc_sr ?_; refine wl_as rfl rfl ?_; refine wl_as rfl rfl ?_; refine wl_ns ?_; refine wc_ret ?_; refine we_seq_ret ?_
    exact we_ret2 rfl rfl rfl ⟨_, rfl, .inr ⟨by simp [goodC, hn'], rfl, hb4⟩⟩
  subst hn
  by_cases hs : ([] : List UInt8) = s
  case neg =>
    have hs' : ¬ s = ([] : List UInt8) := fun e => hs e.symm
    refine wl_as rfl rfl ?_; refine wl_ns ?_; refine wc_sr ?_; apply wl_val; apply opv_fa; exact fa_sC (by decide); exact rfl; exact rfl; apply wl_val; apply opv_ldX; exact rfl; assumption; exact c1_bool; exact rfl; exact rfl; apply wl_val; apply opv_fa; exact fa_sC (by decide); exact rfl; exact rfl; apply wl_val; apply opv_ldX; exact rfl; assumption; exact c1_bool; exact rfl; exact rfl; apply wl_val; apply opv_bin; exact rfl; exact rfl; exact bin_neqB tyBool; exact rfl; refine wl_mv rfl rfl ?_; apply wl_take; exact rfl; exact rfl; exact rfl; refine bF ?_; (with_reducible exact nne); apply wl_val; apply opv_fa; exact fa_sC (by decide); exact rfl; exact rfl; apply wl_take; exact rfl; exact rfl; exact rfl; refine bF ?_; (with_reducible exact nne); apply wl_val; apply opv_ldX; exact rfl; assumption; exact c1_i64; exact rfl; exact rfl; apply wl_take; exact rfl; exact rfl; exact rfl; refine bF ?_; (with_reducible exact nne); apply wl_val; apply opv_fa; exact fa_sC (by decide); exact rfl; exact rfl; apply wl_take; exact rfl; exact rfl; exact rfl; refine bF ?_; (with_reducible exact nne); apply wl_val; apply opv_ldX; exact rfl; assumption; exact c1_i64; exact rfl; exact rfl; apply wl_take; exact rfl; exact rfl; exact rfl; refine bF ?_; (with_reducible exact nne); refine wl_bin rfl rfl bin_neq rfl ?_; apply wl_val; apply opv_pickF; exact rfl; refine bF ?_; (with_reducible exact nne); exact rfl; exact rfl; refine wl_mv rfl rfl ?_; apply wl_take; exact rfl; exact rfl; exact rfl; refine bF ?_; (with_reducible exact nne); apply wl_val; apply opv_fa; exact fa_sC (by decide); exact rfl; exact rfl; apply wl_take; exact rfl; exact rfl; exact rfl; refine bF ?_; (with_reducible exact nne); apply wl_val; apply opv_ldX; exact rfl; assumption; exact c1_str; exact rfl; exact rfl; apply wl_take; exact rfl; exact rfl; exact rfl; refine bF ?_; (with_reducible exact nne); apply wl_val; apply opv_fa; exact fa_sC (by decide); exact rfl; exact rfl; apply wl_take; exact rfl; exact rfl; exact rfl; refine bF ?_; (with_reducible exact nne); apply wl_val; apply opv_ldX; exact rfl; assumption; exact c1_str; exact rfl; exact rfl; apply wl_take; exact rfl; exact rfl; exact rfl; refine bF ?_; (with_reducible exact nne); refine wl_bin rfl rfl bin_neqS rfl ?_; apply wl_val; apply opv_pickF; exact rfl; refine bF ?_; (with_reducible exact nne); exact rfl; exact rfl; refine wl_mv rfl rfl ?_; apply wl_skip; exact rfl; exact rfl; exact rfl; refine bTn ?_; (with_reducible assumption); exact rfl; apply wl_skip; exact rfl; exact rfl; exact rfl; refine bTn ?_; (with_reducible assumption); exact rfl; apply wl_skip; exact rfl; exact rfl; exact rfl; refine bTn ?_; (with_reducible assumption); exact rfl; apply wl_skip; exact rfl; exact rfl; exact rfl; refine bTn ?_; (with_reducible assumption); exact rfl; apply wl_skip; exact rfl; exact rfl; exact rfl; refine bTn ?_; (with_reducible assumption); exact rfl; apply wl_skip; exact rfl; exact rfl; exact rfl; refine bTn ?_; (with_reducible assumption); exact rfl; apply wl_skip; exact rfl; exact rfl; exact rfl; refine bTn ?_; (with_reducible assumption); exact rfl; apply wl_val; apply opv_pickT; exact rfl; refine bT ?_; (with_reducible assumption); exact rfl; exact rfl; refine wl_ns ?_; apply wc_condTb; exact rfl; exact rfl; refine wc_sr ?_; refine wl_as rfl rfl ?_; refine wl_as rfl rfl ?_; refine wl_ns ?_; refine wc_ret ?_; refine we_seq_ret ?_
    exact we_ret2 rfl rfl rfl ⟨_, rfl, .inr ⟨by simp [goodC, hs'], rfl, hb4⟩⟩
  subst hs
  by_cases hd : ([] : List UInt8) = d
  case neg =>
    have hd' : ¬ d = ([] : List UInt8) := fun e => hd e.symm
    have hdl : ¬ ((([] : List UInt8).length : Nat) : Int) = (d.length : Int) := fun e => hd' (List.length_eq_zero_iff.1 (by simp at e; omega))
    refine wl_as rfl rfl ?_; refine wl_ns ?_; refine wc_sr ?_; apply wl_val; apply opv_fa; exact fa_sC (by decide); exact rfl; exact rfl; apply wl_val; apply opv_ldX; exact rfl; assumption; exact c1_bool; exact rfl; exact rfl; apply wl_val; apply opv_fa; exact fa_sC (by decide); exact rfl; exact rfl; apply wl_val; apply opv_ldX; exact rfl; assumption; exact c1_bool; exact rfl; exact rfl; apply wl_val; apply opv_bin; exact rfl; exact rfl; exact bin_neqB tyBool; exact rfl; refine wl_mv rfl rfl ?_; apply wl_take; exact rfl; exact rfl; exact rfl; refine bF ?_; (with_reducible exact nne); apply wl_val; apply opv_fa; exact fa_sC (by decide); exact rfl; exact rfl; apply wl_take; exact rfl; exact rfl; exact rfl; refine bF ?_; (with_reducible exact nne); apply wl_val; apply opv_ldX; exact rfl; assumption; exact c1_i64; exact rfl; exact rfl; apply wl_take; exact rfl; exact rfl; exact rfl; refine bF ?_; (with_reducible exact nne); apply wl_val; apply opv_fa; exact fa_sC (by decide); exact rfl; exact rfl; apply wl_take; exact rfl; exact rfl; exact rfl; refine bF ?_; (with_reducible exact nne); apply wl_val; apply opv_ldX; exact rfl; assumption; exact c1_i64; exact rfl; exact rfl; apply wl_take; exact rfl; exact rfl; exact rfl; refine bF ?_; (with_reducible exact nne); refine wl_bin rfl rfl bin_neq rfl ?_; apply wl_val; apply opv_pickF; exact rfl; refine bF ?_; (with_reducible exact nne); exact rfl; exact rfl; refine wl_mv rfl rfl ?_; apply wl_take; exact rfl; exact rfl; exact rfl; refine bF ?_; (with_reducible exact nne); apply wl_val; apply opv_fa; exact fa_sC (by decide); exact rfl; exact rfl; apply wl_take; exact rfl; exact rfl; exact rfl; refine bF ?_; (with_reducible exact nne); apply wl_val; apply opv_ldX; exact rfl; assumption; exact c1_str; exact rfl; exact rfl; apply wl_take; exact rfl; exact rfl; exact rfl; refine bF ?_; (with_reducible exact nne); apply wl_val; apply opv_fa; exact fa_sC (by decide); exact rfl; exact rfl; apply wl_take; exact rfl; exact rfl; exact rfl; refine bF ?_; (with_reducible exact nne); apply wl_val; apply opv_ldX; exact rfl; assumption; exact c1_str; exact rfl; exact rfl; apply wl_take; exact rfl; exact rfl; exact rfl; refine bF ?_; (with_reducible exact nne); refine wl_bin rfl rfl bin_neqS rfl ?_; apply wl_val; apply opv_pickF; exact rfl; refine bF ?_; (with_reducible exact nne); exact rfl; exact rfl; refine wl_mv rfl rfl ?_; apply wl_take; exact rfl; exact rfl; exact rfl; refine bF ?_; (with_reducible exact nne); apply wl_val; apply opv_fa; exact fa_sC (by decide); exact rfl; exact rfl; apply wl_take; exact rfl; exact rfl; exact rfl; refine bF ?_; (with_reducible exact nne); apply wl_val; apply opv_ldX; exact rfl; assumption; exact c1_by; exact rfl; exact rfl; apply wl_take; exact rfl; exact rfl; exact rfl; refine bF ?_; (with_reducible exact nne); apply wl_val; apply opv_len; exact rfl; exact tyB.sl; exact rfl; apply wl_take; exact rfl; exact rfl; exact rfl; refine bF ?_; (with_reducible exact nne); apply wl_val; apply opv_fa; exact fa_sC (by decide); exact rfl; exact rfl; apply wl_take; exact rfl; exact rfl; exact rfl; refine bF ?_; (with_reducible exact nne); apply wl_val; apply opv_ldX; exact rfl; assumption; exact c1_by; exact rfl; exact rfl; apply wl_take; exact rfl; exact rfl; exact rfl; refine bF ?_; (with_reducible exact nne); apply wl_val; apply opv_len; exact rfl; exact tyB.sl; exact rfl; apply wl_take; exact rfl; exact rfl; exact rfl; refine bF ?_; (with_reducible exact nne); refine wl_bin rfl rfl bin_neq rfl ?_; apply wl_val; apply opv_pickF; exact rfl; refine bF ?_; (with_reducible exact nne); exact rfl; exact rfl; refine wl_ns ?_; apply wc_decT; exact rfl; (with_reducible assumption); refine wc_sr ?_; refine wl_as rfl rfl ?_; refine wl_as rfl rfl ?_; refine wl_ns ?_; refine wc_ret ?_; refine we_seq_ret ?_
    exact we_ret2 rfl rfl rfl ⟨_, rfl, .inr ⟨by simp [goodC, hd'], rfl, hb4⟩⟩
  subst hd
  refine wl_as rfl rfl ?_; refine wl_ns ?_; refine wc_sr ?_; apply wl_val; apply opv_fa; exact fa_sC (by decide); exact rfl; exact rfl; apply wl_val; apply opv_ldX; exact rfl; assumption; exact c1_bool; exact rfl; exact rfl; apply wl_val; apply opv_fa; exact fa_sC (by decide); exact rfl; exact rfl; apply wl_val; apply opv_ldX; exact rfl; assumption; exact c1_bool; exact rfl; exact rfl; apply wl_val; apply opv_bin; exact rfl; exact rfl; exact bin_neqB tyBool; exact rfl; refine wl_mv rfl rfl ?_; apply wl_take; exact rfl; exact rfl; exact rfl; refine bF ?_; (with_reducible exact nne); apply wl_val; apply opv_fa; exact fa_sC (by decide); exact rfl; exact rfl; apply wl_take; exact rfl; exact rfl; exact rfl; refine bF ?_; (with_reducible exact nne); apply wl_val; apply opv_ldX; exact rfl; assumption; exact c1_i64; exact rfl; exact rfl; apply wl_take; exact rfl; exact rfl; exact rfl; refine bF ?_; (with_reducible exact nne); apply wl_val; apply opv_fa; exact fa_sC (by decide); exact rfl; exact rfl; apply wl_take; exact rfl; exact rfl; exact rfl; refine bF ?_; (with_reducible exact nne); apply wl_val; apply opv_ldX; exact rfl; assumption; exact c1_i64; exact rfl; exact rfl; apply wl_take; exact rfl; exact rfl; exact rfl; refine bF ?_; (with_reducible exact nne); refine wl_bin rfl rfl bin_neq rfl ?_; apply wl_val; apply opv_pickF; exact rfl; refine bF ?_; (with_reducible exact nne); exact rfl; exact rfl; refine wl_mv rfl rfl ?_; apply wl_take; exact rfl; exact rfl; exact rfl; refine bF ?_; (with_reducible exact nne); apply wl_val; apply opv_fa; exact fa_sC (by decide); exact rfl; exact rfl; apply wl_take; exact rfl; exact rfl; exact rfl; refine bF ?_; (with_reducible exact nne); apply wl_val; apply opv_ldX; exact rfl; assumption; exact c1_str; exact rfl; exact rfl; apply wl_take; exact rfl; exact rfl; exact rfl; refine bF ?_; (with_reducible exact nne); apply wl_val; apply opv_fa; exact fa_sC (by decide); exact rfl; exact rfl; apply wl_take; exact rfl; exact rfl; exact rfl; refine bF ?_; (with_reducible exact nne); apply wl_val; apply opv_ldX; exact rfl; assumption; exact c1_str; exact rfl; exact rfl; apply wl_take; exact rfl; exact rfl; exact rfl; refine bF ?_; (with_reducible exact nne); refine wl_bin rfl rfl bin_neqS rfl ?_; apply wl_val; apply opv_pickF; exact rfl; refine bF ?_; (with_reducible exact nne); exact rfl; exact rfl; refine wl_mv rfl rfl ?_; apply wl_take; exact rfl; exact rfl; exact rfl; refine bF ?_; (with_reducible exact nne); apply wl_val; apply opv_fa; exact fa_sC (by decide); exact rfl; exact rfl; apply wl_take; exact rfl; exact rfl; exact rfl; refine bF ?_; (with_reducible exact nne); apply wl_val; apply opv_ldX; exact rfl; assumption; exact c1_by; exact rfl; exact rfl; apply wl_take; exact rfl; exact rfl; exact rfl; refine bF ?_; (with_reducible exact nne); apply wl_val; apply opv_len; exact rfl; exact tyB.sl; exact rfl; apply wl_take; exact rfl; exact rfl; exact rfl; refine bF ?_; (with_reducible exact nne); apply wl_val; apply opv_fa; exact fa_sC (by decide); exact rfl; exact rfl; apply wl_take; exact rfl; exact rfl; exact rfl; refine bF ?_; (with_reducible exact nne); apply wl_val; apply opv_ldX; exact rfl; assumption; exact c1_by; exact rfl; exact rfl; apply wl_take; exact rfl; exact rfl; exact rfl; refine bF ?_; (with_reducible exact nne); apply wl_val; apply opv_len; exact rfl; exact tyB.sl; exact rfl; apply wl_take; exact rfl; exact rfl; exact rfl; refine bF ?_; (with_reducible exact nne); refine wl_bin rfl rfl bin_neq rfl ?_; apply wl_val; apply opv_pickF; exact rfl; refine bF ?_; (with_reducible exact nne); exact rfl; exact rfl; refine wl_ns ?_; apply wc_condFb; exact rfl; exact rfl; refine wc_skip ?_; refine we_seq ?_; refine wc_sr ?_; refine wl_mv rfl rfl ?_; refine wl_as rfl rfl ?_; refine wl_as rfl rfl ?_; refine wl_ns ?_; refine wc_ret ?_
  exact we_ret2 rfl rfl rfl ⟨_, rfl, .inl ⟨by simp [goodC], none, 0, rfl, Ow.nil _ _ _, hb4⟩⟩
theorem of_k2 {b : Bool} {n : Int} {s d : List UInt8} {A : Option Addr} {c : Nat} {w : World} (hr : RdB w A d) (hl : d.length ≤ 70368744177664) :
    CallsV Try.prog 40 #[.agg (ceV ⟨2, b, n, s, d⟩ A c).toArray] w (RetOf w ⟨2, b, n, s, d⟩) := by
  refine calls_in (N := _) Try.func40 rfl Try.ntmps40 rfl ?_; show WC _ _ _ _ _ _
  refine wc_sr ?_
  refine wl_box (cs := ceV ⟨2, b, n, s, d⟩ A c) rfl rfl fun g w1 hg a1 hb1 => ?_
  have hlt := a1.lt
  unfold ceV at a1
  simp only at a1
  refine wl_as rfl rfl ?_; refine wl_as rfl rfl ?_; refine wl_ns ?_; refine wc_sr ?_; refine wl_as rfl rfl ?_; refine wl_ns ?_; refine wc_seq ?_; refine wc_sr ?_; apply wl_val; apply opv_fa; exact fa_sC (by decide); exact rfl; exact rfl; apply wl_val; apply opv_ldX; exact rfl; assumption; exact c1_int; exact rfl; exact rfl; refine wl_ns ?_; refine wc_block ?_; refine wc_sr ?_; refine wl_bin rfl rfl bin_eql rfl ?_; refine wl_as rfl rfl ?_; refine wl_ns ?_; apply wc_condFb; exact rfl; exact rfl; refine wc_sr ?_; refine wl_bin rfl rfl bin_eql rfl ?_; refine wl_as rfl rfl ?_; refine wl_ns ?_; apply wc_condFb; exact rfl; exact rfl; refine wc_sr ?_; refine wl_bin rfl rfl bin_eql rfl ?_; refine wl_as rfl rfl ?_; refine wl_ns ?_; apply wc_condTb; exact rfl; exact rfl; refine wc_region ?_; apply wl_val; apply opv_fa; exact fa_sC (by decide); exact rfl; exact rfl; apply wl_val; apply opv_ldX; exact rfl; assumption; exact c1_i64; exact rfl; exact rfl; apply wl_val; apply opv_mkI; kernel_rfl; exact rfl; exact rfl; refine wl_as rfl rfl ?_; refine wl_nil ?_; refine we_block_norm ?_; refine we_seq ?_; refine wc_seq ?_; refine wc_sr ?_; refine wl_mv rfl rfl ?_
  refine wl_call ok_cell_Cell (cell_any (u := .int n) (A := none) (c := 0) (Rd.nil _ _) (by simp [vaC])) ⟨rfl, trivial⟩ rfl ?_
  rintro _ w2 ⟨B, e, rfl, o2, hb2⟩
  replace a1 := a1.bel hb2
  have hb12 := hb1.trans (hb2.mono hb1.size)
  refine wl_mv rfl rfl ?_; apply wl_val; apply opv_extract; exact rfl; exact rfl; exact rfl; apply wl_val; apply opv_extract; exact rfl; exact rfl; exact rfl
  refine wl_new (cs := zC) zeroC rfl fun g2 w3 hg2 a3 hb3 => ?_
  refine wl_storeS (cs' := ceV (vaC (.int n)) B e) sC a3 rfl rfl rfl rfl fun w4 a4 g4 _ => ?_
  have hs1 := hb1.size; have hs2 := hb2.size; have hs3 := hb3.size
  replace a1 := (a1.bel hb3).grA g4 (fun a ha => by cases ha; exact (show g2 ≠ g by omega))
  have hb4 := g4.belowI (hb12.trans (hb3.mono hb12.size)) (by omega) (by omega)
  unfold ceV vaC at a4
  simp only at a4
  cases b with
  | true =>
    have hft : false ≠ true := Bool.false_ne_true
    refine wl_as rfl rfl ?_; refine wl_ns ?_; refine wc_sr ?_; apply wl_val; apply opv_fa; exact fa_sC (by decide); exact rfl; exact rfl; apply wl_val; apply opv_ldX; exact rfl; assumption; exact c1_bool; exact rfl; exact rfl; apply wl_val; apply opv_fa; exact fa_sC (by decide); exact rfl; exact rfl; apply wl_val; apply opv_ldX; exact rfl; assumption; exact c1_bool; exact rfl; exact rfl; apply wl_val; apply opv_bin; exact rfl; exact rfl; exact bin_neqB tyBool; exact rfl; refine wl_mv rfl rfl ?_; apply wl_skip; exact rfl; exact rfl; exact rfl; refine bTn ?_; (with_reducible assumption); exact rfl; apply wl_skip; exact rfl; exact rfl; exact rfl; refine bTn ?_; (with_reducible assumption); exact rfl; apply wl_skip; exact rfl; exact rfl; exact rfl; refine bTn ?_; (with_reducible assumption); exact rfl; apply wl_skip; exact rfl; exact rfl; exact rfl; refine bTn ?_; (with_reducible assumption); exact rfl; apply wl_skip; exact rfl; exact rfl; exact rfl; refine bTn ?_; (with_reducible assumption); exact rfl; apply wl_val; apply opv_pickT; exact rfl; refine bT ?_; (with_reducible assumption); exact rfl; exact rfl; refine wl_mv rfl rfl ?_; apply wl_skip; exact rfl; exact rfl; exact rfl; exact bR1; exact rfl; apply wl_skip; exact rfl; exact rfl; exact rfl; exact bR1; exact rfl; apply wl_skip; exact rfl; exact rfl; exact rfl; exact bR1; exact rfl; apply wl_skip; exact rfl; exact rfl; exact rfl; exact bR1; exact rfl; apply wl_skip; exact rfl; exact rfl; exact rfl; exact bR1; exact rfl; apply wl_val; apply opv_pickT; exact rfl; exact rfl; exact rfl; exact rfl; refine wl_mv rfl rfl ?_; apply wl_skip; exact rfl; exact rfl; exact rfl; exact bR1; exact rfl; apply wl_skip; exact rfl; exact rfl; exact rfl; exact bR1; exact rfl; apply wl_skip; exact rfl; exact rfl; exact rfl; exact bR1; exact rfl; apply wl_skip; exact rfl; exact rfl; exact rfl; exact bR1; exact rfl; apply wl_skip; exact rfl; exact rfl; exact rfl; exact bR1; exact rfl; apply wl_skip; exact rfl; exact rfl; exact rfl; exact bR1; exact rfl; apply wl_skip; exact rfl; exact rfl; exact rfl; exact bR1; exact rfl; apply wl_val; apply opv_pickT; exact rfl; exact rfl; exact rfl; exact rfl; refine wl_ns ?_; apply wc_condTb; exact rfl; exact rfl; refine wc_sr ?_; refine wl_as rfl rfl ?_; refine wl_as rfl rfl ?_; refine wl_ns ?_; refine wc_ret ?_; refine we_seq_ret ?_
    exact we_ret2 rfl rfl rfl ⟨_, rfl, .inr ⟨by simp [goodC], rfl, hb4⟩⟩
  | false =>
  by_cases hs : ([] : List UInt8) = s
  case neg =>
    have hs' : ¬ s = ([] : List UInt8) := fun e => hs e.symm
    refine wl_as rfl rfl ?_; refine wl_ns ?_; refine wc_sr ?_; apply wl_val; apply opv_fa; exact fa_sC (by decide); exact rfl; exact rfl; apply wl_val; apply opv_ldX; exact rfl; assumption; exact c1_bool; exact rfl; exact rfl; apply wl_val; apply opv_fa; exact fa_sC (by decide); exact rfl; exact rfl; apply wl_val; apply opv_ldX; exact rfl; assumption; exact c1_bool; exact rfl; exact rfl; apply wl_val; apply opv_bin; exact rfl; exact rfl; exact bin_neqB tyBool; exact rfl; refine wl_mv rfl rfl ?_; apply wl_take; exact rfl; exact rfl; exact rfl; refine bF ?_; (with_reducible exact nne); apply wl_val; apply opv_fa; exact fa_sC (by decide); exact rfl; exact rfl; apply wl_take; exact rfl; exact rfl; exact rfl; refine bF ?_; (with_reducible exact nne); apply wl_val; apply opv_ldX; exact rfl; assumption; exact c1_i64; exact rfl; exact rfl; apply wl_take; exact rfl; exact rfl; exact rfl; refine bF ?_; (with_reducible exact nne); apply wl_val; apply opv_fa; exact fa_sC (by decide); exact rfl; exact rfl; apply wl_take; exact rfl; exact rfl; exact rfl; refine bF ?_; (with_reducible exact nne); apply wl_val; apply opv_ldX; exact rfl; assumption; exact c1_i64; exact rfl; exact rfl; apply wl_take; exact rfl; exact rfl; exact rfl; refine bF ?_; (with_reducible exact nne); refine wl_bin rfl rfl bin_neq rfl ?_; apply wl_val; apply opv_pickF; exact rfl; refine bF ?_; (with_reducible exact nne); exact rfl; exact rfl; refine wl_mv rfl rfl ?_; apply wl_take; exact rfl; exact rfl; exact rfl; refine bF ?_; (with_reducible exact nne); apply wl_val; apply opv_fa; exact fa_sC (by decide); exact rfl; exact rfl; apply wl_take; exact rfl; exact rfl; exact rfl; refine bF ?_; (with_reducible exact nne); apply wl_val; apply opv_ldX; exact rfl; assumption; exact c1_str; exact rfl; exact rfl; apply wl_take; exact rfl; exact rfl; exact rfl; refine bF ?_; (with_reducible exact nne); apply wl_val; apply opv_fa; exact fa_sC (by decide); exact rfl; exact rfl; apply wl_take; exact rfl; exact rfl; exact rfl; refine bF ?_; (with_reducible exact nne); apply wl_val; apply opv_ldX; exact rfl; assumption; exact c1_str; exact rfl; exact rfl; apply wl_take; exact rfl; exact rfl; exact rfl; refine bF ?_; (with_reducible exact nne); refine wl_bin rfl rfl bin_neqS rfl ?_; apply wl_val; apply opv_pickF; exact rfl; refine bF ?_; (with_reducible exact nne); exact rfl; exact rfl; refine wl_mv rfl rfl ?_; apply wl_skip; exact rfl; exact rfl; exact rfl; refine bTn ?_; (with_reducible assumption); exact rfl; apply wl_skip; exact rfl; exact rfl; exact rfl; refine bTn ?_; (with_reducible assumption); exact rfl; apply wl_skip; exact rfl; exact rfl; exact rfl; refine bTn ?_; (with_reducible assumption); exact rfl; apply wl_skip; exact rfl; exact rfl; exact rfl; refine bTn ?_; (with_reducible assumption); exact rfl; apply wl_skip; exact rfl; exact rfl; exact rfl; refine bTn ?_; (with_reducible assumption); exact rfl; apply wl_skip; exact rfl; exact rfl; exact rfl; refine bTn ?_; (with_reducible assumption); exact rfl; apply wl_skip; exact rfl; exact rfl; exact rfl; refine bTn ?_; (with_reducible assumption); exact rfl; apply wl_val; apply opv_pickT; exact rfl; refine bT ?_; (with_reducible assumption); exact rfl; exact rfl; refine wl_ns ?_; apply wc_condTb; exact rfl; exact rfl; refine wc_sr ?_; refine wl_as rfl rfl ?_; refine wl_as rfl rfl ?_; refine wl_ns ?_; refine wc_ret ?_; refine we_seq_ret ?_
    exact we_ret2 rfl rfl rfl ⟨_, rfl, .inr ⟨by simp [goodC, hs'], rfl, hb4⟩⟩
  subst hs
  by_cases hd : ([] : List UInt8) = d
  case neg =>
    have hd' : ¬ d = ([] : List UInt8) := fun e => hd e.symm
    have hdl : ¬ ((([] : List UInt8).length : Nat) : Int) = (d.length : Int) := fun e => hd' (List.length_eq_zero_iff.1 (by simp at e; omega))
    refine wl_as rfl rfl ?_; refine wl_ns ?_; refine wc_sr ?_; apply wl_val; apply opv_fa; exact fa_sC (by decide); exact rfl; exact rfl; apply wl_val; apply opv_ldX; exact rfl; assumption; exact c1_bool; exact rfl; exact rfl; apply wl_val; apply opv_fa; exact fa_sC (by decide); exact rfl; exact rfl; apply wl_val; apply opv_ldX; exact rfl; assumption; exact c1_bool; exact rfl; exact rfl; apply wl_val; apply opv_bin; exact rfl; exact rfl; exact bin_neqB tyBool; exact rfl; refine wl_mv rfl rfl ?_; apply wl_take; exact rfl; exact rfl; exact rfl; refine bF ?_; (with_reducible exact nne); apply wl_val; apply opv_fa; exact fa_sC (by decide); exact rfl; exact rfl; apply wl_take; exact rfl; exact rfl; exact rfl; refine bF ?_; (with_reducible exact nne); apply wl_val; apply opv_ldX; exact rfl; assumption; exact c1_i64; exact rfl; exact rfl; apply wl_take; exact rfl; exact rfl; exact rfl; refine bF ?_; (with_reducible exact nne); apply wl_val; apply opv_fa; exact fa_sC (by decide); exact rfl; exact rfl; apply wl_take; exact rfl; exact rfl; exact rfl; refine bF ?_; (with_reducible exact nne); apply wl_val; apply opv_ldX; exact rfl; assumption; exact c1_i64; exact rfl; exact rfl; apply wl_take; exact rfl; exact rfl; exact rfl; refine bF ?_; (with_reducible exact nne); refine wl_bin rfl rfl bin_neq rfl ?_; apply wl_val; apply opv_pickF; exact rfl; refine bF ?_; (with_reducible exact nne); exact rfl; exact rfl; refine wl_mv rfl rfl ?_; apply wl_take; exact rfl; exact rfl; exact rfl; refine bF ?_; (with_reducible exact nne); apply wl_val; apply opv_fa; exact fa_sC (by decide); exact rfl; exact rfl; apply wl_take; exact rfl; exact rfl; exact rfl; refine bF ?_; (with_reducible exact nne); apply wl_val; apply opv_ldX; exact rfl; assumption; exact c1_str; exact rfl; exact rfl; apply wl_take; exact rfl; exact rfl; exact rfl; refine bF ?_; (with_reducible exact nne); apply wl_val; apply opv_fa; exact fa_sC (by decide); exact rfl; exact rfl; apply wl_take; exact rfl; exact rfl; exact rfl; refine bF ?_; (with_reducible exact nne); apply wl_val; apply opv_ldX; exact rfl; assumption; exact c1_str; exact rfl; exact rfl; apply wl_take; exact rfl; exact rfl; exact rfl; refine bF ?_; (with_reducible exact nne); refine wl_bin rfl rfl bin_neqS rfl ?_; apply wl_val; apply opv_pickF; exact rfl; refine bF ?_; (with_reducible exact nne); exact rfl; exact rfl; refine wl_mv rfl rfl ?_; apply wl_take; exact rfl; exact rfl; exact rfl; refine bF ?_; (with_reducible exact nne); apply wl_val; apply opv_fa; exact fa_sC (by decide); exact rfl; exact rfl; apply wl_take; exact rfl; exact rfl; exact rfl; refine bF ?_; (with_reducible exact nne); apply wl_val; apply opv_ldX; exact rfl; assumption; exact c1_by; exact rfl; exact rfl; apply wl_take; exact rfl; exact rfl; exact rfl; refine bF ?_; (with_reducible exact nne); apply wl_val; apply opv_len; exact rfl; exact tyB.sl; exact rfl; apply wl_take; exact rfl; exact rfl; exact rfl; refine bF ?_; (with_reducible exact nne); apply wl_val; apply opv_fa; exact fa_sC (by decide); exact rfl; exact rfl; apply wl_take; exact rfl; exact rfl; exact rfl; refine bF ?_; (with_reducible exact nne); apply wl_val; apply opv_ldX; exact rfl; assumption; exact c1_by; exact rfl; exact rfl; apply wl_take; exact rfl; exact rfl; exact rfl; refine bF ?_; (with_reducible exact nne); apply wl_val; apply opv_len; exact rfl; exact tyB.sl; exact rfl; apply wl_take; exact rfl; exact rfl; exact rfl; refine bF ?_; (with_reducible exact nne); refine wl_bin rfl rfl bin_neq rfl ?_; apply wl_val; apply opv_pickF; exact rfl; refine bF ?_; (with_reducible exact nne); exact rfl; exact rfl; refine wl_ns ?_; apply wc_decT; exact rfl; (with_reducible assumption); refine wc_sr ?_; refine wl_as rfl rfl ?_; refine wl_as rfl rfl ?_; refine wl_ns ?_; refine wc_ret ?_; refine we_seq_ret ?_
    exact we_ret2 rfl rfl rfl ⟨_, rfl, .inr ⟨by simp [goodC, hd'], rfl, hb4⟩⟩
  subst hd
  refine wl_as rfl rfl ?_; refine wl_ns ?_; refine wc_sr ?_; apply wl_val; apply opv_fa; exact fa_sC (by decide); exact rfl; exact rfl; apply wl_val; apply opv_ldX; exact rfl; assumption; exact c1_bool; exact rfl; exact rfl; apply wl_val; apply opv_fa; exact fa_sC (by decide); exact rfl; exact rfl; apply wl_val; apply opv_ldX; exact rfl; assumption; exact c1_bool; exact rfl; exact rfl; apply wl_val; apply opv_bin; exact rfl; exact rfl; exact bin_neqB tyBool; exact rfl; refine wl_mv rfl rfl ?_; apply wl_take; exact rfl; exact rfl; exact rfl; refine bF ?_; (with_reducible exact nne); apply wl_val; apply opv_fa; exact fa_sC (by decide); exact rfl; exact rfl; apply wl_take; exact rfl; exact rfl; exact rfl; refine bF ?_; (with_reducible exact nne); apply wl_val; apply opv_ldX; exact rfl; assumption; exact c1_i64; exact rfl; exact rfl; apply wl_take; exact rfl; exact rfl; exact rfl; refine bF ?_; (with_reducible exact nne); apply wl_val; apply opv_fa; exact fa_sC (by decide); exact rfl; exact rfl; apply wl_take; exact rfl; exact rfl; exact rfl; refine bF ?_; (with_reducible exact nne); apply wl_val; apply opv_ldX; exact rfl; assumption; exact c1_i64; exact rfl; exact rfl; apply wl_take; exact rfl; exact rfl; exact rfl; refine bF ?_; (with_reducible exact nne); refine wl_bin rfl rfl bin_neq rfl ?_; apply wl_val; apply opv_pickF; exact rfl; refine bF ?_; (with_reducible exact nne); exact rfl; exact rfl; refine wl_mv rfl rfl ?_; apply wl_take; exact rfl; exact rfl; exact rfl; refine bF ?_; (with_reducible exact nne); apply wl_val; apply opv_fa; exact fa_sC (by decide); exact rfl; exact rfl; apply wl_take; exact rfl; exact rfl; exact rfl; refine bF ?_; (with_reducible exact nne); apply wl_val; apply opv_ldX; exact rfl; assumption; exact c1_str; exact rfl; exact rfl; apply wl_take; exact rfl; exact rfl; exact rfl; refine bF ?_; (with_reducible exact nne); apply wl_val; apply opv_fa; exact fa_sC (by decide); exact rfl; exact rfl; apply wl_take; exact rfl; exact rfl; exact rfl; refine bF ?_; (with_reducible exact nne); apply wl_val; apply opv_ldX; exact rfl; assumption; exact c1_str; exact rfl; exact rfl; apply wl_take; exact rfl; exact rfl; exact rfl; refine bF ?_; (with_reducible exact nne); refine wl_bin rfl rfl bin_neqS rfl ?_; apply wl_val; apply opv_pickF; exact rfl; refine bF ?_; (with_reducible exact nne); exact rfl; exact rfl; refine wl_mv rfl rfl ?_; apply wl_take; exact rfl; exact rfl; exact rfl; refine bF ?_; (with_reducible exact nne); apply wl_val; apply opv_fa; exact fa_sC (by decide); exact rfl; exact rfl; apply wl_take; exact rfl; exact rfl; exact rfl; refine bF ?_; (with_reducible exact nne); apply wl_val; apply opv_ldX; exact rfl; assumption; exact c1_by; exact rfl; exact rfl; apply wl_take; exact rfl; exact rfl; exact rfl; refine bF ?_; (with_reducible exact nne); apply wl_val; apply opv_len; exact rfl; exact tyB.sl; exact rfl; apply wl_take; exact rfl; exact rfl; exact rfl; refine bF ?_; (with_reducible exact nne); apply wl_val; apply opv_fa; exact fa_sC (by decide); exact rfl; exact rfl; apply wl_take; exact rfl; exact rfl; exact rfl; refine bF ?_; (with_reducible exact nne); apply wl_val; apply opv_ldX; exact rfl; assumption; exact c1_by; exact rfl; exact rfl; apply wl_take; exact rfl; exact rfl; exact rfl; refine bF ?_; (with_reducible exact nne); apply wl_val; apply opv_len; exact rfl; exact tyB.sl; exact rfl; apply wl_take; exact rfl; exact rfl; exact rfl; refine bF ?_; (with_reducible exact nne); refine wl_bin rfl rfl bin_neq rfl ?_; apply wl_val; apply opv_pickF; exact rfl; refine bF ?_; (with_reducible exact nne); exact rfl; exact rfl; refine wl_ns ?_; apply wc_condFb; exact rfl; exact rfl; refine wc_skip ?_; refine we_seq ?_; refine wc_sr ?_; refine wl_mv rfl rfl ?_; refine wl_as rfl rfl ?_; refine wl_as rfl rfl ?_; refine wl_ns ?_; refine wc_ret ?_
  exact we_ret2 rfl rfl rfl ⟨_, rfl, .inl ⟨by simp [goodC], none, 0, rfl, Ow.nil _ _ _, hb4⟩⟩
theorem of_k3 {b : Bool} {n : Int} {s d : List UInt8} {A : Option Addr} {c : Nat} {w : World} (hr : RdB w A d) (hl : d.length ≤ 70368744177664) :
    CallsV Try.prog 40 #[.agg (ceV ⟨3, b, n, s, d⟩ A c).toArray] w (RetOf w ⟨3, b, n, s, d⟩) := by
  refine calls_in (N := _) Try.func40 rfl Try.ntmps40 rfl ?_; show WC _ _ _ _ _ _
  refine wc_sr ?_
  refine wl_box (cs := ceV ⟨3, b, n, s, d⟩ A c) rfl rfl fun g w1 hg a1 hb1 => ?_
  have hlt := a1.lt
  unfold ceV at a1
  simp only at a1
  refine wl_as rfl rfl ?_; refine wl_as rfl rfl ?_; refine wl_ns ?_; refine wc_sr ?_; refine wl_as rfl rfl ?_; refine wl_ns ?_; refine wc_seq ?_; refine wc_sr ?_; apply wl_val; apply opv_fa; exact fa_sC (by decide); exact rfl; exact rfl; apply wl_val; apply opv_ldX; exact rfl; assumption; exact c1_int; exact rfl; exact rfl; refine wl_ns ?_; refine wc_block ?_; refine wc_sr ?_; refine wl_bin rfl rfl bin_eql rfl ?_; refine wl_as rfl rfl ?_; refine wl_ns ?_; apply wc_condFb; exact rfl; exact rfl; refine wc_sr ?_; refine wl_bin rfl rfl bin_eql rfl ?_; refine wl_as rfl rfl ?_; refine wl_ns ?_; apply wc_condFb; exact rfl; exact rfl; refine wc_sr ?_; refine wl_bin rfl rfl bin_eql rfl ?_; refine wl_as rfl rfl ?_; refine wl_ns ?_; apply wc_condFb; exact rfl; exact rfl; refine wc_sr ?_; refine wl_bin rfl rfl bin_eql rfl ?_; refine wl_as rfl rfl ?_; refine wl_ns ?_; apply wc_condTb; exact rfl; exact rfl; refine wc_region ?_; apply wl_val; apply opv_fa; exact fa_sC (by decide); exact rfl; exact rfl; apply wl_val; apply opv_ldX; exact rfl; assumption; exact c1_str; exact rfl; exact rfl; apply wl_val; apply opv_mkI; kernel_rfl; exact rfl; exact rfl; refine wl_as rfl rfl ?_; refine wl_nil ?_; refine we_block_norm ?_; refine we_seq ?_; refine wc_seq ?_; refine wc_sr ?_; refine wl_mv rfl rfl ?_
  refine wl_call ok_cell_Cell (cell_any (u := .text s) (A := none) (c := 0) (Rd.nil _ _) (by simp [vaC])) ⟨rfl, trivial⟩ rfl ?_
  rintro _ w2 ⟨B, e, rfl, o2, hb2⟩
  replace a1 := a1.bel hb2
  have hb12 := hb1.trans (hb2.mono hb1.size)
  refine wl_mv rfl rfl ?_; apply wl_val; apply opv_extract; exact rfl; exact rfl; exact rfl; apply wl_val; apply opv_extract; exact rfl; exact rfl; exact rfl
  refine wl_new (cs := zC) zeroC rfl fun g2 w3 hg2 a3 hb3 => ?_
  refine wl_storeS (cs' := ceV (vaC (.text s)) B e) sC a3 rfl rfl rfl rfl fun w4 a4 g4 _ => ?_
  have hs1 := hb1.size; have hs2 := hb2.size; have hs3 := hb3.size
  replace a1 := (a1.bel hb3).grA g4 (fun a ha => by cases ha; exact (show g2 ≠ g by omega))
  have hb4 := g4.belowI (hb12.trans (hb3.mono hb12.size)) (by omega) (by omega)
  unfold ceV vaC at a4
  simp only at a4
  cases b with
  | true =>
    have hft : false ≠ true := Bool.false_ne_true
    refine wl_as rfl rfl ?_; refine wl_ns ?_; refine wc_sr ?_; apply wl_val; apply opv_fa; exact fa_sC (by decide); exact rfl; exact rfl; apply wl_val; apply opv_ldX; exact rfl; assumption; exact c1_bool; exact rfl; exact rfl; apply wl_val; apply opv_fa; exact fa_sC (by decide); exact rfl; exact rfl; apply wl_val; apply opv_ldX; exact rfl; assumption; exact c1_bool; exact rfl; exact rfl; apply wl_val; apply opv_bin; exact rfl; exact rfl; exact bin_neqB tyBool; exact rfl; refine wl_mv rfl rfl ?_; apply wl_skip; exact rfl; exact rfl; exact rfl; refine bTn ?_; (with_reducible assumption); exact rfl; apply wl_skip; exact rfl; exact rfl; exact rfl; refine bTn ?_; (with_reducible assumption); exact rfl; apply wl_skip; exact rfl; exact rfl; exact rfl; refine bTn ?_; (with_reducible assumption); exact rfl; apply wl_skip; exact rfl; exact rfl; exact rfl; refine bTn ?_; (with_reducible assumption); exact rfl; apply wl_skip; exact rfl; exact rfl; exact rfl; refine bTn ?_; (with_reducible assumption); exact rfl; apply wl_val; apply opv_pickT; exact rfl; refine bT ?_; (with_reducible assumption); exact rfl; exact rfl; refine wl_mv rfl rfl ?_; apply wl_skip; exact rfl; exact rfl; exact rfl; exact bR1; exact rfl; apply wl_skip; exact rfl; exact rfl; exact rfl; exact bR1; exact rfl; apply wl_skip; exact rfl; exact rfl; exact rfl; exact bR1; exact rfl; apply wl_skip; exact rfl; exact rfl; exact rfl; exact bR1; exact rfl; apply wl_skip; exact rfl; exact rfl; exact rfl; exact bR1; exact rfl; apply wl_val; apply opv_pickT; exact rfl; exact rfl; exact rfl; exact rfl; refine wl_mv rfl rfl ?_; apply wl_skip; exact rfl; exact rfl; exact rfl; exact bR1; exact rfl; apply wl_skip; exact rfl; exact rfl; exact rfl; exact bR1; exact rfl; apply wl_skip; exact rfl; exact rfl; exact rfl; exact bR1; exact rfl; apply wl_skip; exact rfl; exact rfl; exact rfl; exact bR1; exact rfl; apply wl_skip; exact rfl; exact rfl; exact rfl; exact bR1; exact rfl; apply wl_skip; exact rfl; exact rfl; exact rfl; exact bR1; exact rfl; apply wl_skip; exact rfl; exact rfl; exact rfl; exact bR1; exact rfl; apply wl_val; apply opv_pickT; exact rfl; exact rfl; exact rfl; exact rfl; refine wl_ns ?_; apply wc_condTb; exact rfl; exact rfl; refine wc_sr ?_; refine wl_as rfl rfl ?_; refine wl_as rfl rfl ?_; refine wl_ns ?_; refine wc_ret ?_; refine we_seq_ret ?_
    exact we_ret2 rfl rfl rfl ⟨_, rfl, .inr ⟨by simp [goodC], rfl, hb4⟩⟩
  | false =>
  by_cases hn : (0 : Int) = n
  case neg =>
    have hn' : ¬ n = (0 : Int) := fun e => hn e.symm
    refine wl_as rfl rfl ?_; refine wl_ns ?_; refine wc_sr ?_; apply wl_val; apply opv_fa; exact fa_sC (by decide); exact rfl; exact rfl; apply wl_val; apply opv_ldX; exact rfl; assumption; exact c1_bool; exact rfl; exact rfl; apply wl_val; apply opv_fa; exact fa_sC (by decide); exact rfl; exact rfl; apply wl_val; apply opv_ldX; exact rfl; assumption; exact c1_bool; exact rfl; exact rfl; apply wl_val; apply opv_bin; exact rfl; exact rfl; exact bin_neqB tyBool; exact rfl; refine wl_mv rfl rfl ?_; apply wl_take; exact rfl; exact rfl; exact rfl; refine bF ?_; (with_reducible exact nne); apply wl_val; apply opv_fa; exact fa_sC (by decide); exact rfl; exact rfl; apply wl_take; exact rfl; exact rfl; exact rfl; refine bF ?_; (with_reducible exact nne); apply wl_val; apply opv_ldX; exact rfl; assumption; exact c1_i64; exact rfl; exact rfl; apply wl_take; exact rfl; exact rfl; exact rfl; refine bF ?_; (with_reducible exact nne); apply wl_val; apply opv_fa; exact fa_sC (by decide); exact rfl; exact rfl; apply wl_take; exact rfl; exact rfl; exact rfl; refine bF ?_; (with_reducible exact nne); apply wl_val; apply opv_ldX; exact rfl; assumption; exact c1_i64; exact rfl; exact rfl; apply wl_take; exact rfl; exact rfl; exact rfl; refine bF ?_; (with_reducible exact nne); refine wl_bin rfl rfl bin_neq rfl ?_; apply wl_val; apply opv_pickF; exact rfl; refine bF ?_; (with_reducible exact nne); exact rfl; exact rfl; refine wl_mv rfl rfl ?_; apply wl_skip; exact rfl; exact rfl; exact rfl; refine bTn ?_; (with_reducible assumption); exact rfl; apply wl_skip; exact rfl; exact rfl; exact rfl; refine bTn ?_; (with_reducible assumption); exact rfl; apply wl_skip; exact rfl; exact rfl; exact rfl; refine bTn ?_; (with_reducible assumption); exact rfl; apply wl_skip; exact rfl; exact rfl; exact rfl; refine bTn ?_; (with_reducible assumption); exact rfl; apply wl_skip; exact rfl; exact rfl; exact rfl; refine bTn ?_; (with_reducible assumption); exact rfl; apply wl_val; apply opv_pickT; exact rfl; refine bT ?_; (with_reducible assumption); exact rfl; exact rfl; refine wl_mv rfl rfl ?_; apply wl_skip; exact rfl; exact rfl; exact rfl; exact bR1; exact rfl; apply wl_skip; exact rfl; exact rfl; exact rfl; exact bR1; exact rfl; apply wl_skip; exact rfl; exact rfl; exact rfl; exact bR1; exact rfl; apply wl_skip; exact rfl; exact rfl; exact rfl; exact bR1; exact rfl; apply wl_skip; exact rfl; exact rfl; exact rfl; exact bR1; exact rfl; apply wl_skip; exact rfl; exact rfl; exact rfl; exact bR1; exact rfl; apply wl_skip; exact rfl; exact rfl; exact rfl; exact bR1; exact rfl; apply wl_val; apply opv_pickT; exact rfl; exact rfl; exact rfl; exact rfl; refine wl_ns ?_; apply wc_condTb; exact rfl; exact rfl; refine wc_sr ?_; refine wl_as rfl rfl ?_; refine wl_as rfl rfl ?_; refine wl_ns ?_; refine wc_ret ?_; refine we_seq_ret ?_
    exact we_ret2 rfl rfl rfl ⟨_, rfl, .inr ⟨by simp [goodC, hn'], rfl, hb4⟩⟩
  subst hn
  by_cases hd : ([] : List UInt8) = d
  case neg =>
    have hd' : ¬ d = ([] : List UInt8) := fun e => hd e.symm
    have hdl : ¬ ((([] : List UInt8).length : Nat) : Int) = (d.length : Int) := fun e => hd' (List.length_eq_zero_iff.1 (by simp at e; omega))
    refine wl_as rfl rfl ?_; refine wl_ns ?_; refine wc_sr ?_; apply wl_val; apply opv_fa; exact fa_sC (by decide); exact rfl; exact rfl; apply wl_val; apply opv_ldX; exact rfl; assumption; exact c1_bool; exact rfl; exact rfl; apply wl_val; apply opv_fa; exact fa_sC (by decide); exact rfl; exact rfl; apply wl_val; apply opv_ldX; exact rfl; assumption; exact c1_bool; exact rfl; exact rfl; apply wl_val; apply opv_bin; exact rfl; exact rfl; exact bin_neqB tyBool; exact rfl; refine wl_mv rfl rfl ?_; apply wl_take; exact rfl; exact rfl; exact rfl; refine bF ?_; (with_reducible exact nne); apply wl_val; apply opv_fa; exact fa_sC (by decide); exact rfl; exact rfl; apply wl_take; exact rfl; exact rfl; exact rfl; refine bF ?_; (with_reducible exact nne); apply wl_val; apply opv_ldX; exact rfl; assumption; exact c1_i64; exact rfl; exact rfl; apply wl_take; exact rfl; exact rfl; exact rfl; refine bF ?_; (with_reducible exact nne); apply wl_val; apply opv_fa; exact fa_sC (by decide); exact rfl; exact rfl; apply wl_take; exact rfl; exact rfl; exact rfl; refine bF ?_; (with_reducible exact nne); apply wl_val; apply opv_ldX; exact rfl; assumption; exact c1_i64; exact rfl; exact rfl; apply wl_take; exact rfl; exact rfl; exact rfl; refine bF ?_; (with_reducible exact nne); refine wl_bin rfl rfl bin_neq rfl ?_; apply wl_val; apply opv_pickF; exact rfl; refine bF ?_; (with_reducible exact nne); exact rfl; exact rfl; refine wl_mv rfl rfl ?_; apply wl_take; exact rfl; exact rfl; exact rfl; refine bF ?_; (with_reducible exact nne); apply wl_val; apply opv_fa; exact fa_sC (by decide); exact rfl; exact rfl; apply wl_take; exact rfl; exact rfl; exact rfl; refine bF ?_; (with_reducible exact nne); apply wl_val; apply opv_ldX; exact rfl; assumption; exact c1_str; exact rfl; exact rfl; apply wl_take; exact rfl; exact rfl; exact rfl; refine bF ?_; (with_reducible exact nne); apply wl_val; apply opv_fa; exact fa_sC (by decide); exact rfl; exact rfl; apply wl_take; exact rfl; exact rfl; exact rfl; refine bF ?_; (with_reducible exact nne); apply wl_val; apply opv_ldX; exact rfl; assumption; exact c1_str; exact rfl; exact rfl; apply wl_take; exact rfl; exact rfl; exact rfl; refine bF ?_; (with_reducible exact nne); refine wl_bin rfl rfl bin_neqS rfl ?_; apply wl_val; apply opv_pickF; exact rfl; refine bF ?_; (with_reducible exact nne); exact rfl; exact rfl; refine wl_mv rfl rfl ?_; apply wl_take; exact rfl; exact rfl; exact rfl; refine bF ?_; (with_reducible exact nne); apply wl_val; apply opv_fa; exact fa_sC (by decide); exact rfl; exact rfl; apply wl_take; exact rfl; exact rfl; exact rfl; refine bF ?_; (with_reducible exact nne); apply wl_val; apply opv_ldX; exact rfl; assumption; exact c1_by; exact rfl; exact rfl; apply wl_take; exact rfl; exact rfl; exact rfl; refine bF ?_; (with_reducible exact nne); apply wl_val; apply opv_len; exact rfl; exact tyB.sl; exact rfl; apply wl_take; exact rfl; exact rfl; exact rfl; refine bF ?_; (with_reducible exact nne); apply wl_val; apply opv_fa; exact fa_sC (by decide); exact rfl; exact rfl; apply wl_take; exact rfl; exact rfl; exact rfl; refine bF ?_; (with_reducible exact nne); apply wl_val; apply opv_ldX; exact rfl; assumption; exact c1_by; exact rfl; exact rfl; apply wl_take; exact rfl; exact rfl; exact rfl; refine bF ?_; (with_reducible exact nne); apply wl_val; apply opv_len; exact rfl; exact tyB.sl; exact rfl; apply wl_take; exact rfl; exact rfl; exact rfl; refine bF ?_; (with_reducible exact nne); refine wl_bin rfl rfl bin_neq rfl ?_; apply wl_val; apply opv_pickF; exact rfl; refine bF ?_; (with_reducible exact nne); exact rfl; exact rfl; refine wl_ns ?_; apply wc_decT; exact rfl; (with_reducible assumption); refine wc_sr ?_; refine wl_as rfl rfl ?_; refine wl_as rfl rfl ?_; refine wl_ns ?_; refine wc_ret ?_; refine we_seq_ret ?_
    exact we_ret2 rfl rfl rfl ⟨_, rfl, .inr ⟨by simp [goodC, hd'], rfl, hb4⟩⟩
  subst hd
  refine wl_as rfl rfl ?_; refine wl_ns ?_; refine wc_sr ?_; apply wl_val; apply opv_fa; exact fa_sC (by decide); exact rfl; exact rfl; apply wl_val; apply opv_ldX; exact rfl; assumption; exact c1_bool; exact rfl; exact rfl; apply wl_val; apply opv_fa; exact fa_sC (by decide); exact rfl; exact rfl; apply wl_val; apply opv_ldX; exact rfl; assumption; exact c1_bool; exact rfl; exact rfl; apply wl_val; apply opv_bin; exact rfl; exact rfl; exact bin_neqB tyBool; exact rfl; refine wl_mv rfl rfl ?_; apply wl_take; exact rfl; exact rfl; exact rfl; refine bF ?_; (with_reducible exact nne); apply wl_val; apply opv_fa; exact fa_sC (by decide); exact rfl; exact rfl; apply wl_take; exact rfl; exact rfl; exact rfl; refine bF ?_; (with_reducible exact nne); apply wl_val; apply opv_ldX; exact rfl; assumption; exact c1_i64; exact rfl; exact rfl; apply wl_take; exact rfl; exact rfl; exact rfl; refine bF ?_; (with_reducible exact nne); apply wl_val; apply opv_fa; exact fa_sC (by decide); exact rfl; exact rfl; apply wl_take; exact rfl; exact rfl; exact rfl; refine bF ?_; (with_reducible exact nne); apply wl_val; apply opv_ldX; exact rfl; assumption; exact c1_i64; exact rfl; exact rfl; apply wl_take; exact rfl; exact rfl; exact rfl; refine bF ?_; (with_reducible exact nne); refine wl_bin rfl rfl bin_neq rfl ?_; apply wl_val; apply opv_pickF; exact rfl; refine bF ?_; (with_reducible exact nne); exact rfl; exact rfl; refine wl_mv rfl rfl ?_; apply wl_take; exact rfl; exact rfl; exact rfl; refine bF ?_; (with_reducible exact nne); apply wl_val; apply opv_fa; exact fa_sC (by decide); exact rfl; exact rfl; apply wl_take; exact rfl; exact rfl; exact rfl; refine bF ?_; (with_reducible exact nne); apply wl_val; apply opv_ldX; exact rfl; assumption; exact c1_str; exact rfl; exact rfl; apply wl_take; exact rfl; exact rfl; exact rfl; refine bF ?_; (with_reducible exact nne); apply wl_val; apply opv_fa; exact fa_sC (by decide); exact rfl; exact rfl; apply wl_take; exact rfl; exact rfl; exact rfl; refine bF ?_; (with_reducible exact nne); apply wl_val; apply opv_ldX; exact rfl; assumption; exact c1_str; exact rfl; exact rfl; apply wl_take; exact rfl; exact rfl; exact rfl; refine bF ?_; (with_reducible exact nne); refine wl_bin rfl rfl bin_neqS rfl ?_; apply wl_val; apply opv_pickF; exact rfl; refine bF ?_; (with_reducible exact nne); exact rfl; exact rfl; refine wl_mv rfl rfl ?_; apply wl_take; exact rfl; exact rfl; exact rfl; refine bF ?_; (with_reducible exact nne); apply wl_val; apply opv_fa; exact fa_sC (by decide); exact rfl; exact rfl; apply wl_take; exact rfl; exact rfl; exact rfl; refine bF ?_; (with_reducible exact nne); apply wl_val; apply opv_ldX; exact rfl; assumption; exact c1_by; exact rfl; exact rfl; apply wl_take; exact rfl; exact rfl; exact rfl; refine bF ?_; (with_reducible exact nne); apply wl_val; apply opv_len; exact rfl; exact tyB.sl; exact rfl; apply wl_take; exact rfl; exact rfl; exact rfl; refine bF ?_; (with_reducible exact nne); apply wl_val; apply opv_fa; exact fa_sC (by decide); exact rfl; exact rfl; apply wl_take; exact rfl; exact rfl; exact rfl; refine bF ?_; (with_reducible exact nne); apply wl_val; apply opv_ldX; exact rfl; assumption; exact c1_by; exact rfl; exact rfl; apply wl_take; exact rfl; exact rfl; exact rfl; refine bF ?_; (with_reducible exact nne); apply wl_val; apply opv_len; exact rfl; exact tyB.sl; exact rfl; apply wl_take; exact rfl; exact rfl; exact rfl; refine bF ?_; (with_reducible exact nne); refine wl_bin rfl rfl bin_neq rfl ?_; apply wl_val; apply opv_pickF; exact rfl; refine bF ?_; (with_reducible exact nne); exact rfl; exact rfl; refine wl_ns ?_; apply wc_condFb; exact rfl; exact rfl; refine wc_skip ?_; refine we_seq ?_; refine wc_sr ?_; refine wl_mv rfl rfl ?_; refine wl_as rfl rfl ?_; refine wl_as rfl rfl ?_; refine wl_ns ?_; refine wc_ret ?_
  exact we_ret2 rfl rfl rfl ⟨_, rfl, .inl ⟨by simp [goodC], none, 0, rfl, Ow.nil _ _ _, hb4⟩⟩
theorem of_k4 {b : Bool} {n : Int} {s d : List UInt8} {A : Option Addr} {c : Nat} {w : World} (hr : RdB w A d) (hl : d.length ≤ 70368744177664) :
    CallsV Try.prog 40 #[.agg (ceV ⟨4, b, n, s, d⟩ A c).toArray] w (RetOf w ⟨4, b, n, s, d⟩) := by
  refine calls_in (N := _) Try.func40 rfl Try.ntmps40 rfl ?_; show WC _ _ _ _ _ _
  refine wc_sr ?_
  refine wl_box (cs := ceV ⟨4, b, n, s, d⟩ A c) rfl rfl fun g w1 hg a1 hb1 => ?_
  have hlt := a1.lt
  unfold ceV at a1
  simp only at a1
  refine wl_as rfl rfl ?_; refine wl_as rfl rfl ?_; refine wl_ns ?_; refine wc_sr ?_; refine wl_as rfl rfl ?_; refine wl_ns ?_; refine wc_seq ?_; refine wc_sr ?_; apply wl_val; apply opv_fa; exact fa_sC (by decide); exact rfl; exact rfl; apply wl_val; apply opv_ldX; exact rfl; assumption; exact c1_int; exact rfl; exact rfl; refine wl_ns ?_; refine wc_block ?_; refine wc_sr ?_; refine wl_bin rfl rfl bin_eql rfl ?_; refine wl_as rfl rfl ?_; refine wl_ns ?_; apply wc_condFb; exact rfl; exact rfl; refine wc_sr ?_; refine wl_bin rfl rfl bin_eql rfl ?_; refine wl_as rfl rfl ?_; refine wl_ns ?_; apply wc_condFb; exact rfl; exact rfl; refine wc_sr ?_; refine wl_bin rfl rfl bin_eql rfl ?_; refine wl_as rfl rfl ?_; refine wl_ns ?_; apply wc_condFb; exact rfl; exact rfl; refine wc_sr ?_; refine wl_bin rfl rfl bin_eql rfl ?_; refine wl_as rfl rfl ?_; refine wl_ns ?_; apply wc_condFb; exact rfl; exact rfl; refine wc_sr ?_; refine wl_bin rfl rfl bin_eql rfl ?_; refine wl_as rfl rfl ?_; refine wl_ns ?_; apply wc_condTb; exact rfl; exact rfl; refine wc_region ?_
  refine wl_bs (vs := []) tyB trivial rfl (by decide) rfl fun A1 w5 o5 hb5 _ => ?_
  replace a1 := a1.bel hb5
  have hb15 := hb1.trans (hb5.mono hb1.size)
  apply wl_val; apply opv_fa; exact fa_sC (by decide); exact rfl; exact rfl; apply wl_val; apply opv_ldX; exact rfl; assumption; exact c1_by; exact rfl; exact rfl
  refine wl_app tyB rfl o5 rfl (RdB.below hr hb15) (bvs_one _) (by omega) (by simp only [maxLen]; omega) hb5.size rfl fun B0 d0 w6 o6 g6 _ => ?_
  rw [show 0 + d.length = d.length from Nat.zero_add _]
  have hb6 := g6.below hb5 o5 (Nat.le_refl _) hb5.size
  replace a1 := a1.grA g6 (fun a ha => by have := (Ow.lt o5 a ha).1; omega)
  have hsz := hb1.size
  replace hb1 := hb1.trans (hb6.mono hb1.size)
  have o7 : OwB w6 w.heap.size B0 d0 d := by have := Ow.mono o6 hsz; simp only [Nat.zero_add, List.nil_append] at this; exact this
  have hr2 : RdB w6 B0 d := o7.rd
  replace hlt := a1.lt
  apply wl_val; apply opv_mkI; kernel_rfl; exact rfl; exact rfl; refine wl_as rfl rfl ?_; refine wl_nil ?_; refine we_block_norm ?_; refine we_seq ?_; refine wc_seq ?_; refine wc_sr ?_; refine wl_mv rfl rfl ?_
  refine wl_call ok_cell_Cell (cell_any (u := .bytes d) (A := B0) (c := d0) hr2 (by simp only [vaC]; omega)) ⟨rfl, trivial⟩ rfl ?_
  rintro _ w2 ⟨B, e, rfl, o2, hb2⟩
  replace a1 := a1.bel hb2
  have hb12 := hb1.trans (hb2.mono hb1.size)
  refine wl_mv rfl rfl ?_; apply wl_val; apply opv_extract; exact rfl; exact rfl; exact rfl; apply wl_val; apply opv_extract; exact rfl; exact rfl; exact rfl
  refine wl_new (cs := zC) zeroC rfl fun g2 w3 hg2 a3 hb3 => ?_
  refine wl_storeS (cs' := ceV (vaC (.bytes d)) B e) sC a3 rfl rfl rfl rfl fun w4 a4 g4 _ => ?_
  have hs1 := hb1.size; have hs2 := hb2.size; have hs3 := hb3.size
  replace a1 := (a1.bel hb3).grA g4 (fun a ha => by cases ha; exact (show g2 ≠ g by omega))
  have hb4 := g4.belowI (hb12.trans (hb3.mono hb12.size)) (by omega) (by omega)
  unfold ceV vaC at a4
  simp only at a4
  have o8 : OwB w4 w.heap.size B0 d0 d := Ow.gr (base' := 0) (e' := 0) (OwB.below (OwB.below o7 hb2) hb3) g4 fun a x ha hx => by
    cases hx
    have := (Ow.lt o7 a ha).2
    exact (show a.block ≠ g2 by omega)
  cases b with
  | true =>
    have hft : false ≠ true := Bool.false_ne_true
    refine wl_as rfl rfl ?_; refine wl_ns ?_; refine wc_sr ?_; apply wl_val; apply opv_fa; exact fa_sC (by decide); exact rfl; exact rfl; apply wl_val; apply opv_ldX; exact rfl; assumption; exact c1_bool; exact rfl; exact rfl; apply wl_val; apply opv_fa; exact fa_sC (by decide); exact rfl; exact rfl; apply wl_val; apply opv_ldX; exact rfl; assumption; exact c1_bool; exact rfl; exact rfl; apply wl_val; apply opv_bin; exact rfl; exact rfl; exact bin_neqB tyBool; exact rfl; refine wl_mv rfl rfl ?_; apply wl_skip; exact rfl; exact rfl; exact rfl; refine bTn ?_; (with_reducible assumption); exact rfl; apply wl_skip; exact rfl; exact rfl; exact rfl; refine bTn ?_; (with_reducible assumption); exact rfl; apply wl_skip; exact rfl; exact rfl; exact rfl; refine bTn ?_; (with_reducible assumption); exact rfl; apply wl_skip; exact rfl; exact rfl; exact rfl; refine bTn ?_; (with_reducible assumption); exact rfl; apply wl_skip; exact rfl; exact rfl; exact rfl; refine bTn ?_; (with_reducible assumption); exact rfl; apply wl_val; apply opv_pickT; exact rfl; refine bT ?_; (with_reducible assumption); exact rfl; exact rfl; refine wl_mv rfl rfl ?_; apply wl_skip; exact rfl; exact rfl; exact rfl; exact bR1; exact rfl; apply wl_skip; exact rfl; exact rfl; exact rfl; exact bR1; exact rfl; apply wl_skip; exact rfl; exact rfl; exact rfl; exact bR1; exact rfl; apply wl_skip; exact rfl; exact rfl; exact rfl; exact bR1; exact rfl; apply wl_skip; exact rfl; exact rfl; exact rfl; exact bR1; exact rfl; apply wl_val; apply opv_pickT; exact rfl; exact rfl; exact rfl; exact rfl; refine wl_mv rfl rfl ?_; apply wl_skip; exact rfl; exact rfl; exact rfl; exact bR1; exact rfl; apply wl_skip; exact rfl; exact rfl; exact rfl; exact bR1; exact rfl; apply wl_skip; exact rfl; exact rfl; exact rfl; exact bR1; exact rfl; apply wl_skip; exact rfl; exact rfl; exact rfl; exact bR1; exact rfl; apply wl_skip; exact rfl; exact rfl; exact rfl; exact bR1; exact rfl; apply wl_skip; exact rfl; exact rfl; exact rfl; exact bR1; exact rfl; apply wl_skip; exact rfl; exact rfl; exact rfl; exact bR1; exact rfl; apply wl_val; apply opv_pickT; exact rfl; exact rfl; exact rfl; exact rfl; refine wl_ns ?_; apply wc_condTb; exact rfl; exact rfl; refine wc_sr ?_; refine wl_as rfl rfl ?_; refine wl_as rfl rfl ?_; refine wl_ns ?_; refine wc_ret ?_; refine we_seq_ret ?_
    exact we_ret2 rfl rfl rfl ⟨_, rfl, .inr ⟨by simp [goodC], rfl, hb4⟩⟩
  | false =>
  by_cases hn : (0 : Int) = n
  case neg =>
    have hn' : ¬ n = (0 : Int) := fun e => hn e.symm
    refine wl_as rfl rfl ?_; refine wl_ns ?_; refine wc_sr ?_; apply wl_val; apply opv_fa; exact fa_sC (by decide); exact rfl; exact rfl; apply wl_val; apply opv_ldX; exact rfl; assumption; exact c1_bool; exact rfl; exact rfl; apply wl_val; apply opv_fa; exact fa_sC (by decide); exact rfl; exact rfl; apply wl_val; apply opv_ldX; exact rfl; assumption; exact c1_bool; exact rfl; exact rfl; apply wl_val; apply opv_bin; exact rfl; exact rfl; exact bin_neqB tyBool; exact rfl; refine wl_mv rfl rfl ?_; apply wl_take; exact rfl; exact rfl; exact rfl; refine bF ?_; (with_reducible exact nne); apply wl_val; apply opv_fa; exact fa_sC (by decide); exact rfl; exact rfl; apply wl_take; exact rfl; exact rfl; exact rfl; refine bF ?_; (with_reducible exact nne); apply wl_val; apply opv_ldX; exact rfl; assumption; exact c1_i64; exact rfl; exact rfl; apply wl_take; exact rfl; exact rfl; exact rfl; refine bF ?_; (with_reducible exact nne); apply wl_val; apply opv_fa; exact fa_sC (by decide); exact rfl; exact rfl; apply wl_take; exact rfl; exact rfl; exact rfl; refine bF ?_; (with_reducible exact nne); apply wl_val; apply opv_ldX; exact rfl; assumption; exact c1_i64; exact rfl; exact rfl; apply wl_take; exact rfl; exact rfl; exact rfl; refine bF ?_; (with_reducible exact nne); refine wl_bin rfl rfl bin_neq rfl ?_; apply wl_val; apply opv_pickF; exact rfl; refine bF ?_; (with_reducible exact nne); exact rfl; exact rfl; refine wl_mv rfl rfl ?_; apply wl_skip; exact rfl; exact rfl; exact rfl; refine bTn ?_; (with_reducible assumption); exact rfl; apply wl_skip; exact rfl; exact rfl; exact rfl; refine bTn ?_; (with_reducible assumption); exact rfl; apply wl_skip; exact rfl; exact rfl; exact rfl; refine bTn ?_; (with_reducible assumption); exact rfl; apply wl_skip; exact rfl; exact rfl; exact rfl; refine bTn ?_; (with_reducible assumption); exact rfl; apply wl_skip; exact rfl; exact rfl; exact rfl; refine bTn ?_; (with_reducible assumption); exact rfl; apply wl_val; apply opv_pickT; exact rfl; refine bT ?_; (with_reducible assumption); exact rfl; exact rfl; refine wl_mv rfl rfl ?_; apply wl_skip; exact rfl; exact rfl; exact rfl; exact bR1; exact rfl; apply wl_skip; exact rfl; exact rfl; exact rfl; exact bR1; exact rfl; apply wl_skip; exact rfl; exact rfl; exact rfl; exact bR1; exact rfl; apply wl_skip; exact rfl; exact rfl; exact rfl; exact bR1; exact rfl; apply wl_skip; exact rfl; exact rfl; exact rfl; exact bR1; exact rfl; apply wl_skip; exact rfl; exact rfl; exact rfl; exact bR1; exact rfl; apply wl_skip; exact rfl; exact rfl; exact rfl; exact bR1; exact rfl; apply wl_val; apply opv_pickT; exact rfl; exact rfl; exact rfl; exact rfl; refine wl_ns ?_; apply wc_condTb; exact rfl; exact rfl; refine wc_sr ?_; refine wl_as rfl rfl ?_; refine wl_as rfl rfl ?_; refine wl_ns ?_; refine wc_ret ?_; refine we_seq_ret ?_
    exact we_ret2 rfl rfl rfl ⟨_, rfl, .inr ⟨by simp [goodC, hn'], rfl, hb4⟩⟩
  subst hn
  by_cases hs : ([] : List UInt8) = s
  case neg =>
    have hs' : ¬ s = ([] : List UInt8) := fun e => hs e.symm
    refine wl_as rfl rfl ?_; refine wl_ns ?_; refine wc_sr ?_; apply wl_val; apply opv_fa; exact fa_sC (by decide); exact rfl; exact rfl; apply wl_val; apply opv_ldX; exact rfl; assumption; exact c1_bool; exact rfl; exact rfl; apply wl_val; apply opv_fa; exact fa_sC (by decide); exact rfl; exact rfl; apply wl_val; apply opv_ldX; exact rfl; assumption; exact c1_bool; exact rfl; exact rfl; apply wl_val; apply opv_bin; exact rfl; exact rfl; exact bin_neqB tyBool; exact rfl; refine wl_mv rfl rfl ?_; apply wl_take; exact rfl; exact rfl; exact rfl; refine bF ?_; (with_reducible exact nne); apply wl_val; apply opv_fa; exact fa_sC (by decide); exact rfl; exact rfl; apply wl_take; exact rfl; exact rfl; exact rfl; refine bF ?_; (with_reducible exact nne); apply wl_val; apply opv_ldX; exact rfl; assumption; exact c1_i64; exact rfl; exact rfl; apply wl_take; exact rfl; exact rfl; exact rfl; refine bF ?_; (with_reducible exact nne); apply wl_val; apply opv_fa; exact fa_sC (by decide); exact rfl; exact rfl; apply wl_take; exact rfl; exact rfl; exact rfl; refine bF ?_; (with_reducible exact nne); apply wl_val; apply opv_ldX; exact rfl; assumption; exact c1_i64; exact rfl; exact rfl; apply wl_take; exact rfl; exact rfl; exact rfl; refine bF ?_; (with_reducible exact nne); refine wl_bin rfl rfl bin_neq rfl ?_; apply wl_val; apply opv_pickF; exact rfl; refine bF ?_; (with_reducible exact nne); exact rfl; exact rfl; refine wl_mv rfl rfl ?_; apply wl_take; exact rfl; exact rfl; exact rfl; refine bF ?_; (with_reducible exact nne); apply wl_val; apply opv_fa; exact fa_sC (by decide); exact rfl; exact rfl; apply wl_take; exact rfl; exact rfl; exact rfl; refine bF ?_; (with_reducible exact nne); apply wl_val; apply opv_ldX; exact rfl; assumption; exact c1_str; exact rfl; exact rfl; apply wl_take; exact rfl; exact rfl; exact rfl; refine bF ?_; (with_reducible exact nne); apply wl_val; apply opv_fa; exact fa_sC (by decide); exact rfl; exact rfl; apply wl_take; exact rfl; exact rfl; exact rfl; refine bF ?_; (with_reducible exact nne); apply wl_val; apply opv_ldX; exact rfl; assumption; exact c1_str; exact rfl; exact rfl; apply wl_take; exact rfl; exact rfl; exact rfl; refine bF ?_; (with_reducible exact nne); refine wl_bin rfl rfl bin_neqS rfl ?_; apply wl_val; apply opv_pickF; exact rfl; refine bF ?_; (with_reducible exact nne); exact rfl; exact rfl; refine wl_mv rfl rfl ?_; apply wl_skip; exact rfl; exact rfl; exact rfl; refine bTn ?_; (with_reducible assumption); exact rfl; apply wl_skip; exact rfl; exact rfl; exact rfl; refine bTn ?_; (with_reducible assumption); exact rfl; apply wl_skip; exact rfl; exact rfl; exact rfl; refine bTn ?_; (with_reducible assumption); exact rfl; apply wl_skip; exact rfl; exact rfl; exact rfl; refine bTn ?_; (with_reducible assumption); exact rfl; apply wl_skip; exact rfl; exact rfl; exact rfl; refine bTn ?_; (with_reducible assumption); exact rfl; apply wl_skip; exact rfl; exact rfl; exact rfl; refine bTn ?_; (with_reducible assumption); exact rfl; apply wl_skip; exact rfl; exact rfl; exact rfl; refine bTn ?_; (with_reducible assumption); exact rfl; apply wl_val; apply opv_pickT; exact rfl; refine bT ?_; (with_reducible assumption); exact rfl; exact rfl; refine wl_ns ?_; apply wc_condTb; exact rfl; exact rfl; refine wc_sr ?_; refine wl_as rfl rfl ?_; refine wl_as rfl rfl ?_; refine wl_ns ?_; refine wc_ret ?_; refine we_seq_ret ?_
    exact we_ret2 rfl rfl rfl ⟨_, rfl, .inr ⟨by simp [goodC, hs'], rfl, hb4⟩⟩
  subst hs
  refine wl_as rfl rfl ?_; refine wl_ns ?_; refine wc_sr ?_; apply wl_val; apply opv_fa; exact fa_sC (by decide); exact rfl; exact rfl; apply wl_val; apply opv_ldX; exact rfl; assumption; exact c1_bool; exact rfl; exact rfl; apply wl_val; apply opv_fa; exact fa_sC (by decide); exact rfl; exact rfl; apply wl_val; apply opv_ldX; exact rfl; assumption; exact c1_bool; exact rfl; exact rfl; apply wl_val; apply opv_bin; exact rfl; exact rfl; exact bin_neqB tyBool; exact rfl; refine wl_mv rfl rfl ?_; apply wl_take; exact rfl; exact rfl; exact rfl; refine bF ?_; (with_reducible exact nne); apply wl_val; apply opv_fa; exact fa_sC (by decide); exact rfl; exact rfl; apply wl_take; exact rfl; exact rfl; exact rfl; refine bF ?_; (with_reducible exact nne); apply wl_val; apply opv_ldX; exact rfl; assumption; exact c1_i64; exact rfl; exact rfl; apply wl_take; exact rfl; exact rfl; exact rfl; refine bF ?_; (with_reducible exact nne); apply wl_val; apply opv_fa; exact fa_sC (by decide); exact rfl; exact rfl; apply wl_take; exact rfl; exact rfl; exact rfl; refine bF ?_; (with_reducible exact nne); apply wl_val; apply opv_ldX; exact rfl; assumption; exact c1_i64; exact rfl; exact rfl; apply wl_take; exact rfl; exact rfl; exact rfl; refine bF ?_; (with_reducible exact nne); refine wl_bin rfl rfl bin_neq rfl ?_; apply wl_val; apply opv_pickF; exact rfl; refine bF ?_; (with_reducible exact nne); exact rfl; exact rfl; refine wl_mv rfl rfl ?_; apply wl_take; exact rfl; exact rfl; exact rfl; refine bF ?_; (with_reducible exact nne); apply wl_val; apply opv_fa; exact fa_sC (by decide); exact rfl; exact rfl; apply wl_take; exact rfl; exact rfl; exact rfl; refine bF ?_; (with_reducible exact nne); apply wl_val; apply opv_ldX; exact rfl; assumption; exact c1_str; exact rfl; exact rfl; apply wl_take; exact rfl; exact rfl; exact rfl; refine bF ?_; (with_reducible exact nne); apply wl_val; apply opv_fa; exact fa_sC (by decide); exact rfl; exact rfl; apply wl_take; exact rfl; exact rfl; exact rfl; refine bF ?_; (with_reducible exact nne); apply wl_val; apply opv_ldX; exact rfl; assumption; exact c1_str; exact rfl; exact rfl; apply wl_take; exact rfl; exact rfl; exact rfl; refine bF ?_; (with_reducible exact nne); refine wl_bin rfl rfl bin_neqS rfl ?_; apply wl_val; apply opv_pickF; exact rfl; refine bF ?_; (with_reducible exact nne); exact rfl; exact rfl; refine wl_mv rfl rfl ?_; apply wl_take; exact rfl; exact rfl; exact rfl; refine bF ?_; (with_reducible exact nne); apply wl_val; apply opv_fa; exact fa_sC (by decide); exact rfl; exact rfl; apply wl_take; exact rfl; exact rfl; exact rfl; refine bF ?_; (with_reducible exact nne); apply wl_val; apply opv_ldX; exact rfl; assumption; exact c1_by; exact rfl; exact rfl; apply wl_take; exact rfl; exact rfl; exact rfl; refine bF ?_; (with_reducible exact nne); apply wl_val; apply opv_len; exact rfl; exact tyB.sl; exact rfl; apply wl_take; exact rfl; exact rfl; exact rfl; refine bF ?_; (with_reducible exact nne); apply wl_val; apply opv_fa; exact fa_sC (by decide); exact rfl; exact rfl; apply wl_take; exact rfl; exact rfl; exact rfl; refine bF ?_; (with_reducible exact nne); apply wl_val; apply opv_ldX; exact rfl; assumption; exact c1_by; exact rfl; exact rfl; apply wl_take; exact rfl; exact rfl; exact rfl; refine bF ?_; (with_reducible exact nne); apply wl_val; apply opv_len; exact rfl; exact tyB.sl; exact rfl; apply wl_take; exact rfl; exact rfl; exact rfl; refine bF ?_; (with_reducible exact nne); refine wl_bin rfl rfl bin_neq rfl ?_; apply wl_val; apply opv_pickF; exact rfl; refine bF ?_; (with_reducible exact nne); exact rfl; exact rfl; refine wl_ns ?_; apply wc_decF; exact rfl; (with_reducible exact nne); refine wc_skip ?_; refine we_seq ?_; refine wc_sr ?_; refine wl_mv rfl rfl ?_; refine wl_as rfl rfl ?_; refine wl_as rfl rfl ?_; refine wl_ns ?_; refine wc_ret ?_
  exact we_ret2 rfl rfl rfl ⟨_, rfl, .inl ⟨by simp [goodC], B0, d0, rfl, o8, hb4⟩⟩
theorem ofC_any {x : Ce} {A : Option Addr} {c : Nat} {w : World} (hr : RdB w A x.data) (hl : x.data.length ≤ 70368744177664) :
    CallsV Try.prog 40 #[.agg (ceV x A c).toArray] w (RetOf w x) := by
  obtain ⟨k, b, n, s, d⟩ := x
  by_cases h0 : k = 0
  · subst h0; exact of_k0 hr hl
  by_cases h1 : k = 1
  · subst h1; exact of_k1 hr hl
  by_cases h2 : k = 2
  · subst h2; exact of_k2 hr hl
  by_cases h3 : k = 3
  · subst h3; exact of_k3 hr hl
  by_cases h4 : k = 4
  · subst h4; exact of_k4 hr hl
  refine calls_in (N := _) Try.func40 rfl Try.ntmps40 rfl ?_; show WC _ _ _ _ _ _
  refine wc_sr ?_
  refine wl_box (cs := ceV ⟨k, b, n, s, d⟩ A c) rfl rfl fun g w1 hg a1 hb1 => ?_
  unfold ceV at a1
  simp only at a1
  refine wl_as rfl rfl ?_; refine wl_as rfl rfl ?_; refine wl_ns ?_; refine wc_sr ?_; refine wl_as rfl rfl ?_; refine wl_ns ?_; refine wc_seq ?_; refine wc_sr ?_; apply wl_val; apply opv_fa; exact fa_sC (by decide); exact rfl; exact rfl; apply wl_val; apply opv_ldX; exact rfl; assumption; exact c1_int; exact rfl; exact rfl; refine wl_ns ?_; refine wc_block ?_; refine wc_sr ?_; refine wl_bin rfl rfl bin_eql rfl ?_; refine wl_as rfl rfl ?_; refine wl_ns ?_; apply wc_decF; exact rfl; (with_reducible assumption); refine wc_sr ?_; refine wl_bin rfl rfl bin_eql rfl ?_; refine wl_as rfl rfl ?_; refine wl_ns ?_; apply wc_decF; exact rfl; (with_reducible assumption); refine wc_sr ?_; refine wl_bin rfl rfl bin_eql rfl ?_; refine wl_as rfl rfl ?_; refine wl_ns ?_; apply wc_decF; exact rfl; (with_reducible assumption); refine wc_sr ?_; refine wl_bin rfl rfl bin_eql rfl ?_; refine wl_as rfl rfl ?_; refine wl_ns ?_; apply wc_decF; exact rfl; (with_reducible assumption); refine wc_sr ?_; refine wl_bin rfl rfl bin_eql rfl ?_; refine wl_as rfl rfl ?_; refine wl_ns ?_; apply wc_decF; exact rfl; (with_reducible assumption); refine wc_sr ?_; refine wl_as rfl rfl ?_; refine wl_as rfl rfl ?_; refine wl_ns ?_; refine wc_ret ?_; refine we_block_ret ?_; refine we_seq_ret ?_
  exact we_ret2 rfl rfl rfl ⟨_, rfl, .inr ⟨decide_eq_false (fun h => by have e1 := h.1; have e2 := h.2.1; simp only at e1 e2; omega), rfl, hb1⟩⟩
end Go.Proofs.Ytdgagffieobiiaa

/-
  Walks over the functions that ask a value for one type.
-/
namespace Go.Proofs.Ytdgagffieobiiaa
open Go.RowKit

end Go.Proofs.Ytdgagffieobiiaa

/-
  The walk over the reference's Same, and over BytesOf.
-/
namespace Go.Proofs.Ytdgagffieobiiaa
open Go.RowKit

def sameC (x y : Ce) : Bool := decide (x.kind = y.kind ∧ x.tr = y.tr ∧ x.num = y.num ∧ x.text = y.text ∧ x.data = y.data)
theorem same_any {x y : Ce} {A B : Option Addr} {c e : Nat} {w : World} (hr : RdB w A x.data) (hs : RdB w B y.data) (hl : x.data.length ≤ 140737488355328) :
    CallsV Try.prog 25 #[.agg (ceV x A c).toArray, .agg (ceV y B e).toArray] w fun v w' => v = .bool (sameC x y) ∧ Below w.heap.size w w' := by
  obtain ⟨k, b, n, s, d⟩ := x
  obtain ⟨k', b', n', s', d'⟩ := y
  simp only at hr hs hl
  refine calls_in (N := _) Try.func25 rfl Try.ntmps25 rfl ?_; show WC _ _ _ _ _ _
  refine wc_sr ?_
  refine wl_box (cs := ceV ⟨k, b, n, s, d⟩ A c) rfl rfl fun g w1 hg a1 hb1 => ?_
  refine wl_box (cs := ceV ⟨k', b', n', s', d'⟩ B e) rfl rfl fun g2 w2 hg2 a2 hb2 => ?_
  replace a1 := a1.bel hb2
  replace hb2 := hb1.trans (hb2.mono hb1.size)
  replace hr := hr.below hb2
  replace hs := hs.below hb2
  unfold ceV at a1 a2
  simp only at a1 a2
  by_cases hk : k = k'
  case neg => (refine wl_as rfl rfl ?_; refine wl_ns ?_; refine wc_sr ?_; apply wl_val; apply opv_fa; exact fa_sC (by decide); exact rfl; exact rfl; apply wl_val; apply opv_ldX; exact rfl; assumption; exact c1_int; exact rfl; exact rfl; apply wl_val; apply opv_fa; exact fa_sC (by decide); exact rfl; exact rfl; apply wl_val; apply opv_ldX; exact rfl; assumption; exact c1_int; exact rfl; exact rfl; refine wl_bin rfl rfl bin_eql rfl ?_; refine wl_mv rfl rfl ?_; apply wl_skip; exact rfl; exact rfl; exact rfl; refine bFn ?_; (with_reducible assumption); exact rfl; apply wl_skip; exact rfl; exact rfl; exact rfl; refine bFn ?_; (with_reducible assumption); exact rfl; apply wl_skip; exact rfl; exact rfl; exact rfl; refine bFn ?_; (with_reducible assumption); exact rfl; apply wl_skip; exact rfl; exact rfl; exact rfl; refine bFn ?_; (with_reducible assumption); exact rfl; apply wl_skip; exact rfl; exact rfl; exact rfl; refine bFn ?_; (with_reducible assumption); exact rfl; apply wl_val; apply opv_pickF; exact rfl; refine bF ?_; (with_reducible assumption); exact rfl; exact rfl; refine wl_mv rfl rfl ?_; apply wl_skip; exact rfl; exact rfl; exact rfl; exact bR2; exact rfl; apply wl_skip; exact rfl; exact rfl; exact rfl; exact bR2; exact rfl; apply wl_skip; exact rfl; exact rfl; exact rfl; exact bR2; exact rfl; apply wl_skip; exact rfl; exact rfl; exact rfl; exact bR2; exact rfl; apply wl_skip; exact rfl; exact rfl; exact rfl; exact bR2; exact rfl; apply wl_val; apply opv_pickF; exact rfl; exact rfl; exact rfl; exact rfl; refine wl_mv rfl rfl ?_; apply wl_skip; exact rfl; exact rfl; exact rfl; exact bR2; exact rfl; apply wl_skip; exact rfl; exact rfl; exact rfl; exact bR2; exact rfl; apply wl_skip; exact rfl; exact rfl; exact rfl; exact bR2; exact rfl; apply wl_skip; exact rfl; exact rfl; exact rfl; exact bR2; exact rfl; apply wl_skip; exact rfl; exact rfl; exact rfl; exact bR2; exact rfl; apply wl_val; apply opv_pickF; exact rfl; exact rfl; exact rfl; exact rfl; refine wl_mv rfl rfl ?_; apply wl_skip; exact rfl; exact rfl; exact rfl; exact bR2; exact rfl; apply wl_skip; exact rfl; exact rfl; exact rfl; exact bR2; exact rfl; apply wl_skip; exact rfl; exact rfl; exact rfl; exact bR2; exact rfl; apply wl_skip; exact rfl; exact rfl; exact rfl; exact bR2; exact rfl; apply wl_skip; exact rfl; exact rfl; exact rfl; exact bR2; exact rfl; apply wl_val; apply opv_pickF; exact rfl; exact rfl; exact rfl; exact rfl; refine wl_as rfl rfl ?_; refine wl_ns ?_; refine wc_ret ?_; exact we_ret1 rfl rfl ⟨_, rfl, congrArg Value.bool (by simp [sameC, hk]), hb2⟩)
  subst hk
  by_cases hb : b = b'
  case neg => (refine wl_as rfl rfl ?_; refine wl_ns ?_; refine wc_sr ?_; apply wl_val; apply opv_fa; exact fa_sC (by decide); exact rfl; exact rfl; apply wl_val; apply opv_ldX; exact rfl; assumption; exact c1_int; exact rfl; exact rfl; apply wl_val; apply opv_fa; exact fa_sC (by decide); exact rfl; exact rfl; apply wl_val; apply opv_ldX; exact rfl; assumption; exact c1_int; exact rfl; exact rfl; refine wl_bin rfl rfl bin_eql rfl ?_; refine wl_mv rfl rfl ?_; apply wl_take; exact rfl; exact rfl; exact rfl; refine bT ?_; (with_reducible rfl); apply wl_val; apply opv_fa; exact fa_sC (by decide); exact rfl; exact rfl; apply wl_take; exact rfl; exact rfl; exact rfl; refine bT ?_; (with_reducible rfl); apply wl_val; apply opv_ldX; exact rfl; assumption; exact c1_bool; exact rfl; exact rfl; apply wl_take; exact rfl; exact rfl; exact rfl; refine bT ?_; (with_reducible rfl); apply wl_val; apply opv_fa; exact fa_sC (by decide); exact rfl; exact rfl; apply wl_take; exact rfl; exact rfl; exact rfl; refine bT ?_; (with_reducible rfl); apply wl_val; apply opv_ldX; exact rfl; assumption; exact c1_bool; exact rfl; exact rfl; apply wl_take; exact rfl; exact rfl; exact rfl; refine bT ?_; (with_reducible rfl); apply wl_val; apply opv_bin; exact rfl; exact rfl; exact bin_eqlB tyBool; exact rfl; apply wl_val; apply opv_pickT; exact rfl; refine bT ?_; (with_reducible rfl); exact rfl; exact rfl; refine wl_mv rfl rfl ?_; apply wl_skip; exact rfl; exact rfl; exact rfl; refine bFn ?_; (with_reducible assumption); exact rfl; apply wl_skip; exact rfl; exact rfl; exact rfl; refine bFn ?_; (with_reducible assumption); exact rfl; apply wl_skip; exact rfl; exact rfl; exact rfl; refine bFn ?_; (with_reducible assumption); exact rfl; apply wl_skip; exact rfl; exact rfl; exact rfl; refine bFn ?_; (with_reducible assumption); exact rfl; apply wl_skip; exact rfl; exact rfl; exact rfl; refine bFn ?_; (with_reducible assumption); exact rfl; apply wl_val; apply opv_pickF; exact rfl; refine bF ?_; (with_reducible assumption); exact rfl; exact rfl; refine wl_mv rfl rfl ?_; apply wl_skip; exact rfl; exact rfl; exact rfl; exact bR2; exact rfl; apply wl_skip; exact rfl; exact rfl; exact rfl; exact bR2; exact rfl; apply wl_skip; exact rfl; exact rfl; exact rfl; exact bR2; exact rfl; apply wl_skip; exact rfl; exact rfl; exact rfl; exact bR2; exact rfl; apply wl_skip; exact rfl; exact rfl; exact rfl; exact bR2; exact rfl; apply wl_val; apply opv_pickF; exact rfl; exact rfl; exact rfl; exact rfl; refine wl_mv rfl rfl ?_; apply wl_skip; exact rfl; exact rfl; exact rfl; exact bR2; exact rfl; apply wl_skip; exact rfl; exact rfl; exact rfl; exact bR2; exact rfl; apply wl_skip; exact rfl; exact rfl; exact rfl; exact bR2; exact rfl; apply wl_skip; exact rfl; exact rfl; exact rfl; exact bR2; exact rfl; apply wl_skip; exact rfl; exact rfl; exact rfl; exact bR2; exact rfl; apply wl_val; apply opv_pickF; exact rfl; exact rfl; exact rfl; exact rfl; refine wl_as rfl rfl ?_; refine wl_ns ?_; refine wc_ret ?_; exact we_ret1 rfl rfl ⟨_, rfl, congrArg Value.bool (by simp [sameC, hb]), hb2⟩)
  subst hb
  by_cases hn : n = n'
  case neg => (refine wl_as rfl rfl ?_; refine wl_ns ?_; refine wc_sr ?_; apply wl_val; apply opv_fa; exact fa_sC (by decide); exact rfl; exact rfl; apply wl_val; apply opv_ldX; exact rfl; assumption; exact c1_int; exact rfl; exact rfl; apply wl_val; apply opv_fa; exact fa_sC (by decide); exact rfl; exact rfl; apply wl_val; apply opv_ldX; exact rfl; assumption; exact c1_int; exact rfl; exact rfl; refine wl_bin rfl rfl bin_eql rfl ?_; refine wl_mv rfl rfl ?_; apply wl_take; exact rfl; exact rfl; exact rfl; refine bT ?_; (with_reducible rfl); apply wl_val; apply opv_fa; exact fa_sC (by decide); exact rfl; exact rfl; apply wl_take; exact rfl; exact rfl; exact rfl; refine bT ?_; (with_reducible rfl); apply wl_val; apply opv_ldX; exact rfl; assumption; exact c1_bool; exact rfl; exact rfl; apply wl_take; exact rfl; exact rfl; exact rfl; refine bT ?_; (with_reducible rfl); apply wl_val; apply opv_fa; exact fa_sC (by decide); exact rfl; exact rfl; apply wl_take; exact rfl; exact rfl; exact rfl; refine bT ?_; (with_reducible rfl); apply wl_val; apply opv_ldX; exact rfl; assumption; exact c1_bool; exact rfl; exact rfl; apply wl_take; exact rfl; exact rfl; exact rfl; refine bT ?_; (with_reducible rfl); apply wl_val; apply opv_bin; exact rfl; exact rfl; exact bin_eqlB tyBool; exact rfl; apply wl_val; apply opv_pickT; exact rfl; refine bT ?_; (with_reducible rfl); exact rfl; exact rfl; refine wl_mv rfl rfl ?_; apply wl_take; exact rfl; exact rfl; exact rfl; refine bT ?_; (with_reducible rfl); apply wl_val; apply opv_fa; exact fa_sC (by decide); exact rfl; exact rfl; apply wl_take; exact rfl; exact rfl; exact rfl; refine bT ?_; (with_reducible rfl); apply wl_val; apply opv_ldX; exact rfl; assumption; exact c1_i64; exact rfl; exact rfl; apply wl_take; exact rfl; exact rfl; exact rfl; refine bT ?_; (with_reducible rfl); apply wl_val; apply opv_fa; exact fa_sC (by decide); exact rfl; exact rfl; apply wl_take; exact rfl; exact rfl; exact rfl; refine bT ?_; (with_reducible rfl); apply wl_val; apply opv_ldX; exact rfl; assumption; exact c1_i64; exact rfl; exact rfl; apply wl_take; exact rfl; exact rfl; exact rfl; refine bT ?_; (with_reducible rfl); refine wl_bin rfl rfl bin_eql rfl ?_; apply wl_val; apply opv_pickT; exact rfl; refine bT ?_; (with_reducible rfl); exact rfl; exact rfl; refine wl_mv rfl rfl ?_; apply wl_skip; exact rfl; exact rfl; exact rfl; refine bFn ?_; (with_reducible assumption); exact rfl; apply wl_skip; exact rfl; exact rfl; exact rfl; refine bFn ?_; (with_reducible assumption); exact rfl; apply wl_skip; exact rfl; exact rfl; exact rfl; refine bFn ?_; (with_reducible assumption); exact rfl; apply wl_skip; exact rfl; exact rfl; exact rfl; refine bFn ?_; (with_reducible assumption); exact rfl; apply wl_skip; exact rfl; exact rfl; exact rfl; refine bFn ?_; (with_reducible assumption); exact rfl; apply wl_val; apply opv_pickF; exact rfl; refine bF ?_; (with_reducible assumption); exact rfl; exact rfl; refine wl_mv rfl rfl ?_; apply wl_skip; exact rfl; exact rfl; exact rfl; exact bR2; exact rfl; apply wl_skip; exact rfl; exact rfl; exact rfl; exact bR2; exact rfl; apply wl_skip; exact rfl; exact rfl; exact rfl; exact bR2; exact rfl; apply wl_skip; exact rfl; exact rfl; exact rfl; exact bR2; exact rfl; apply wl_skip; exact rfl; exact rfl; exact rfl; exact bR2; exact rfl; apply wl_val; apply opv_pickF; exact rfl; exact rfl; exact rfl; exact rfl; refine wl_as rfl rfl ?_; refine wl_ns ?_; refine wc_ret ?_; exact we_ret1 rfl rfl ⟨_, rfl, congrArg Value.bool (by simp [sameC, hn]), hb2⟩)
  subst hn
  by_cases ht : s = s'
  case neg => (refine wl_as rfl rfl ?_; refine wl_ns ?_; refine wc_sr ?_; apply wl_val; apply opv_fa; exact fa_sC (by decide); exact rfl; exact rfl; apply wl_val; apply opv_ldX; exact rfl; assumption; exact c1_int; exact rfl; exact rfl; apply wl_val; apply opv_fa; exact fa_sC (by decide); exact rfl; exact rfl; apply wl_val; apply opv_ldX; exact rfl; assumption; exact c1_int; exact rfl; exact rfl; refine wl_bin rfl rfl bin_eql rfl ?_; refine wl_mv rfl rfl ?_; apply wl_take; exact rfl; exact rfl; exact rfl; refine bT ?_; (with_reducible rfl); apply wl_val; apply opv_fa; exact fa_sC (by decide); exact rfl; exact rfl; apply wl_take; exact rfl; exact rfl; exact rfl; refine bT ?_; (with_reducible rfl); apply wl_val; apply opv_ldX; exact rfl; assumption; exact c1_bool; exact rfl; exact rfl; apply wl_take; exact rfl; exact rfl; exact rfl; refine bT ?_; (with_reducible rfl); apply wl_val; apply opv_fa; exact fa_sC (by decide); exact rfl; exact rfl; apply wl_take; exact rfl; exact rfl; exact rfl; refine bT ?_; (with_reducible rfl); apply wl_val; apply opv_ldX; exact rfl; assumption; exact c1_bool; exact rfl; exact rfl; apply wl_take; exact rfl; exact rfl; exact rfl; refine bT ?_; (with_reducible rfl); apply wl_val; apply opv_bin; exact rfl; exact rfl; exact bin_eqlB tyBool; exact rfl; apply wl_val; apply opv_pickT; exact rfl; refine bT ?_; (with_reducible rfl); exact rfl; exact rfl; refine wl_mv rfl rfl ?_; apply wl_take; exact rfl; exact rfl; exact rfl; refine bT ?_; (with_reducible rfl); apply wl_val; apply opv_fa; exact fa_sC (by decide); exact rfl; exact rfl; apply wl_take; exact rfl; exact rfl; exact rfl; refine bT ?_; (with_reducible rfl); apply wl_val; apply opv_ldX; exact rfl; assumption; exact c1_i64; exact rfl; exact rfl; apply wl_take; exact rfl; exact rfl; exact rfl; refine bT ?_; (with_reducible rfl); apply wl_val; apply opv_fa; exact fa_sC (by decide); exact rfl; exact rfl; apply wl_take; exact rfl; exact rfl; exact rfl; refine bT ?_; (with_reducible rfl); apply wl_val; apply opv_ldX; exact rfl; assumption; exact c1_i64; exact rfl; exact rfl; apply wl_take; exact rfl; exact rfl; exact rfl; refine bT ?_; (with_reducible rfl); refine wl_bin rfl rfl bin_eql rfl ?_; apply wl_val; apply opv_pickT; exact rfl; refine bT ?_; (with_reducible rfl); exact rfl; exact rfl; refine wl_mv rfl rfl ?_; apply wl_take; exact rfl; exact rfl; exact rfl; refine bT ?_; (with_reducible rfl); apply wl_val; apply opv_fa; exact fa_sC (by decide); exact rfl; exact rfl; apply wl_take; exact rfl; exact rfl; exact rfl; refine bT ?_; (with_reducible rfl); apply wl_val; apply opv_ldX; exact rfl; assumption; exact c1_str; exact rfl; exact rfl; apply wl_take; exact rfl; exact rfl; exact rfl; refine bT ?_; (with_reducible rfl); apply wl_val; apply opv_fa; exact fa_sC (by decide); exact rfl; exact rfl; apply wl_take; exact rfl; exact rfl; exact rfl; refine bT ?_; (with_reducible rfl); apply wl_val; apply opv_ldX; exact rfl; assumption; exact c1_str; exact rfl; exact rfl; apply wl_take; exact rfl; exact rfl; exact rfl; refine bT ?_; (with_reducible rfl); refine wl_bin rfl rfl bin_eqlS rfl ?_; apply wl_val; apply opv_pickT; exact rfl; refine bT ?_; (with_reducible rfl); exact rfl; exact rfl; refine wl_mv rfl rfl ?_; apply wl_skip; exact rfl; exact rfl; exact rfl; refine bFn ?_; (with_reducible assumption); exact rfl; apply wl_skip; exact rfl; exact rfl; exact rfl; refine bFn ?_; (with_reducible assumption); exact rfl; apply wl_skip; exact rfl; exact rfl; exact rfl; refine bFn ?_; (with_reducible assumption); exact rfl; apply wl_skip; exact rfl; exact rfl; exact rfl; refine bFn ?_; (with_reducible assumption); exact rfl; apply wl_skip; exact rfl; exact rfl; exact rfl; refine bFn ?_; (with_reducible assumption); exact rfl; apply wl_val; apply opv_pickF; exact rfl; refine bF ?_; (with_reducible assumption); exact rfl; exact rfl; refine wl_as rfl rfl ?_; refine wl_ns ?_; refine wc_ret ?_; exact we_ret1 rfl rfl ⟨_, rfl, congrArg Value.bool (by simp [sameC, ht]), hb2⟩)
  subst ht
  refine wl_as rfl rfl ?_; refine wl_ns ?_; refine wc_sr ?_; apply wl_val; apply opv_fa; exact fa_sC (by decide); exact rfl; exact rfl; apply wl_val; apply opv_ldX; exact rfl; assumption; exact c1_int; exact rfl; exact rfl; apply wl_val; apply opv_fa; exact fa_sC (by decide); exact rfl; exact rfl; apply wl_val; apply opv_ldX; exact rfl; assumption; exact c1_int; exact rfl; exact rfl; refine wl_bin rfl rfl bin_eql rfl ?_; refine wl_mv rfl rfl ?_; apply wl_take; exact rfl; exact rfl; exact rfl; refine bT ?_; (with_reducible rfl); apply wl_val; apply opv_fa; exact fa_sC (by decide); exact rfl; exact rfl; apply wl_take; exact rfl; exact rfl; exact rfl; refine bT ?_; (with_reducible rfl); apply wl_val; apply opv_ldX; exact rfl; assumption; exact c1_bool; exact rfl; exact rfl; apply wl_take; exact rfl; exact rfl; exact rfl; refine bT ?_; (with_reducible rfl); apply wl_val; apply opv_fa; exact fa_sC (by decide); exact rfl; exact rfl; apply wl_take; exact rfl; exact rfl; exact rfl; refine bT ?_; (with_reducible rfl); apply wl_val; apply opv_ldX; exact rfl; assumption; exact c1_bool; exact rfl; exact rfl; apply wl_take; exact rfl; exact rfl; exact rfl; refine bT ?_; (with_reducible rfl); apply wl_val; apply opv_bin; exact rfl; exact rfl; exact bin_eqlB tyBool; exact rfl; apply wl_val; apply opv_pickT; exact rfl; refine bT ?_; (with_reducible rfl); exact rfl; exact rfl; refine wl_mv rfl rfl ?_; apply wl_take; exact rfl; exact rfl; exact rfl; refine bT ?_; (with_reducible rfl); apply wl_val; apply opv_fa; exact fa_sC (by decide); exact rfl; exact rfl; apply wl_take; exact rfl; exact rfl; exact rfl; refine bT ?_; (with_reducible rfl); apply wl_val; apply opv_ldX; exact rfl; assumption; exact c1_i64; exact rfl; exact rfl; apply wl_take; exact rfl; exact rfl; exact rfl; refine bT ?_; (with_reducible rfl); apply wl_val; apply opv_fa; exact fa_sC (by decide); exact rfl; exact rfl; apply wl_take; exact rfl; exact rfl; exact rfl; refine bT ?_; (with_reducible rfl); apply wl_val; apply opv_ldX; exact rfl; assumption; exact c1_i64; exact rfl; exact rfl; apply wl_take; exact rfl; exact rfl; exact rfl; refine bT ?_; (with_reducible rfl); refine wl_bin rfl rfl bin_eql rfl ?_; apply wl_val; apply opv_pickT; exact rfl; refine bT ?_; (with_reducible rfl); exact rfl; exact rfl; refine wl_mv rfl rfl ?_; apply wl_take; exact rfl; exact rfl; exact rfl; refine bT ?_; (with_reducible rfl); apply wl_val; apply opv_fa; exact fa_sC (by decide); exact rfl; exact rfl; apply wl_take; exact rfl; exact rfl; exact rfl; refine bT ?_; (with_reducible rfl); apply wl_val; apply opv_ldX; exact rfl; assumption; exact c1_str; exact rfl; exact rfl; apply wl_take; exact rfl; exact rfl; exact rfl; refine bT ?_; (with_reducible rfl); apply wl_val; apply opv_fa; exact fa_sC (by decide); exact rfl; exact rfl; apply wl_take; exact rfl; exact rfl; exact rfl; refine bT ?_; (with_reducible rfl); apply wl_val; apply opv_ldX; exact rfl; assumption; exact c1_str; exact rfl; exact rfl; apply wl_take; exact rfl; exact rfl; exact rfl; refine bT ?_; (with_reducible rfl); refine wl_bin rfl rfl bin_eqlS rfl ?_; apply wl_val; apply opv_pickT; exact rfl; refine bT ?_; (with_reducible rfl); exact rfl; exact rfl; refine wl_mv rfl rfl ?_; apply wl_take; exact rfl; exact rfl; exact rfl; refine bT ?_; (with_reducible rfl); apply wl_val; apply opv_fa; exact fa_sC (by decide); exact rfl; exact rfl; apply wl_take; exact rfl; exact rfl; exact rfl; refine bT ?_; (with_reducible rfl); apply wl_val; apply opv_ldX; exact rfl; assumption; exact c1_by; exact rfl; exact rfl; apply wl_take; exact rfl; exact rfl; exact rfl; refine bT ?_; (with_reducible rfl); apply wl_val; apply opv_fa; exact fa_sC (by decide); exact rfl; exact rfl; apply wl_take; exact rfl; exact rfl; exact rfl; refine bT ?_; (with_reducible rfl); apply wl_val; apply opv_ldX; exact rfl; assumption; exact c1_by; exact rfl; exact rfl; apply wl_take; exact rfl; exact rfl; exact rfl; refine bT ?_; (with_reducible rfl)
  refine wl_call ok_caissonref01_Equal (equal_any hr hs rfl rfl (by simp only [maxLen]; omega)) ⟨rfl, rfl, trivial⟩ rfl ?_
  rintro _ w3 ⟨rfl, hb3⟩
  apply wl_val; apply opv_pickT; exact rfl; refine bT ?_; (with_reducible rfl); exact rfl; exact rfl; refine wl_as rfl rfl ?_; refine wl_ns ?_; refine wc_ret ?_
  exact we_ret1 rfl rfl ⟨_, rfl, congrArg Value.bool (by simp [sameC]), hb2.trans (hb3.mono hb2.size)⟩
end Go.Proofs.Ytdgagffieobiiaa

/-
  Rows whose elements have several cells, and whose cells may lead on to other rows: read, and held in rows of the call's own; the rules to index, load, write out, append and cut them. Nothing here names the program.
-/
namespace Go.Proofs.Ytdgagffieobiiaa
open Go.RowKit

/-- What some cells hold, as far as the blocks of a set tell it. -/
structure El where
  P : World → (Nat → Prop) → List Value → Prop
  move : ∀ {w w' : World} {S S' : Nat → Prop} {cs : List Value}, P w S cs → w.heap.size ≤ w'.heap.size → (∀ b, b < w.heap.size → S b → S' b ∧ w'.heap[b]? = w.heap[b]?) → P w' S' cs
/-- All blocks. -/
def All : Nat → Prop := fun _ => True
/-- All blocks but that of an address. -/
def But (A : Option Addr) : Nat → Prop := fun b => ∀ a, A = some a → b ≠ a.block
section
variable {w w' : World} {S S' : Nat → Prop} {cs : List Value} {E : El}
theorem El.mono (h : E.P w S cs) (hs : ∀ b, b < w.heap.size → S b → S' b) : E.P w S' cs := E.move h (Nat.le_refl _) fun b hb h => ⟨hs b hb h, rfl⟩
theorem El.all (h : E.P w S cs) : E.P w All cs := El.mono h fun _ _ _ => trivial
theorem El.below (h : E.P w S cs) (hb : Below w.heap.size w w') : E.P w' S cs := E.move h hb.size fun b hlt h => ⟨h, hb.block b hlt⟩
theorem El.belowI {B : Nat} (h : E.P w S cs) (hb : Below B w w') (hs : ∀ b, b < w.heap.size → S b → b < B) : E.P w' S cs := E.move h hb.size fun b hlt h => ⟨h, hb.block b (hs b hlt h)⟩
theorem El.gr {A : Option Addr} (h : E.P w S cs) (g : Gr w w' A) (hs : ∀ b, b < w.heap.size → S b → But A b) : E.P w' S cs := E.move h g.size fun b hlt h => ⟨h, g.block b hlt fun hk => by
  cases A with
  | none => simp at hk
  | some a => simp at hk; exact hs b hlt h a rfl hk⟩
end
/-- A cell that holds just this. -/
def vEl (u : Value) : El where
  P _ _ cs := cs = [u]
  move h _ _ := h
/-- A cell that holds bytes. -/
def byEl (xs : List UInt8) : El where
  P w S cs := ∃ (A : Option Addr) (c : Nat), cs = [.slice A xs.length c] ∧ xs.length ≤ c ∧ Rd w A xs.length (bvs xs) ∧ (∀ a, A = some a → 0 < xs.length → S a.block)
  move := by
    rintro w w' S S' cs ⟨A, c, rfl, hc, hr, hs⟩ hz h
    refine ⟨A, c, rfl, hc, ⟨hr.1, fun hn => ?_⟩, fun a ha hn => ?_⟩
    · obtain ⟨b, o, rfl, hb, hcell⟩ := hr.2 hn
      exact ⟨b, o, rfl, by omega, fun j u hu => (World.cell?_of_block (a := ⟨b, o + j, none⟩) (h b hb (hs _ rfl hn)).2).trans (hcell j u hu)⟩
    · obtain ⟨b, o, rfl, hb, _⟩ := hr.2 hn
      cases ha
      exact (h b hb (hs _ rfl hn)).1
theorem byEl.mk {w : World} {A : Option Addr} {c : Nat} {xs : List UInt8} {S : Nat → Prop} (hr : Rd w A xs.length (bvs xs)) (hc : xs.length ≤ c) (hs : ∀ a, A = some a → 0 < xs.length → S a.block) : (byEl xs).P w S [.slice A xs.length c] := ⟨A, c, rfl, hc, hr, hs⟩

/-- Groups of k cells hold the elements. -/
def Grp (k : Nat) (w : World) (S : Nat → Prop) (els : List El) (css : List (List Value)) : Prop :=
  css.length = els.length ∧ ∀ (i : Nat) cs, css[i]? = some cs → cs.length = k ∧ ∃ E, els[i]? = some E ∧ E.P w S cs
section
variable {k : Nat} {w w' : World} {S S' : Nat → Prop} {els : List El} {css : List (List Value)}
theorem Grp.move (h : Grp k w S els css) (hz : w.heap.size ≤ w'.heap.size) (hm : ∀ b, b < w.heap.size → S b → S' b ∧ w'.heap[b]? = w.heap[b]?) : Grp k w' S' els css :=
  ⟨h.1, fun i cs hi => by obtain ⟨h1, E, h2, h3⟩ := h.2 i cs hi; exact ⟨h1, E, h2, E.move h3 hz hm⟩⟩
theorem Grp.mono (h : Grp k w S els css) (hs : ∀ b, b < w.heap.size → S b → S' b) : Grp k w S' els css := h.move (Nat.le_refl _) fun b hb h => ⟨hs b hb h, rfl⟩
theorem Grp.all (h : Grp k w S els css) : Grp k w All els css := h.mono fun _ _ _ => trivial
theorem Grp.below (h : Grp k w S els css) (hb : Below w.heap.size w w') : Grp k w' S els css := h.move hb.size fun b hlt h => ⟨h, hb.block b hlt⟩
theorem Grp.gr {A : Option Addr} (h : Grp k w S els css) (g : Gr w w' A) (hs : ∀ b, b < w.heap.size → S b → But A b) : Grp k w' S els css := h.move g.size fun b hlt h => ⟨h, g.block b hlt fun hk => by
  cases A with
  | none => simp at hk
  | some a => simp at hk; exact hs b hlt h a rfl hk⟩
theorem Grp.len (h : Grp k w S els css) : css.flatten.length = els.length * k := by
  rw [← h.1]
  have h2 : ∀ cs ∈ css, cs.length = k := fun cs hc => by obtain ⟨i, hi, rfl⟩ := List.getElem_of_mem hc; exact (h.2 i _ (List.getElem?_eq_getElem hi)).1
  clear h
  induction css with
  | nil => simp
  | cons x css ih =>
    simp only [List.flatten_cons, List.length_append, List.length_cons, ih fun cs hc => h2 cs (List.mem_cons_of_mem _ hc), h2 x List.mem_cons_self]
    rw [Nat.add_mul]; omega
theorem Grp.nil (k : Nat) (w : World) (S : Nat → Prop) : Grp k w S [] [] := ⟨rfl, by simp⟩
theorem Grp.append {els' : List El} {css' : List (List Value)} (h : Grp k w S els css) (h' : Grp k w S els' css') : Grp k w S (els ++ els') (css ++ css') := by
  refine ⟨by simp [h.1, h'.1], fun i cs hi => ?_⟩
  rw [List.getElem?_append] at hi ⊢
  rw [← h.1]
  split at hi
  · rename_i hlt
    rw [if_pos hlt]; exact h.2 i cs hi
  · rename_i hlt
    rw [if_neg hlt]; exact h'.2 _ cs hi
theorem Grp.one {cs : List Value} {E : El} (h : E.P w S cs) (hk : cs.length = k) : Grp k w S [E] [cs] := by
  refine ⟨rfl, fun i cs' hi => ?_⟩
  match i, hi with
  | 0, hi => simp at hi; subst hi; exact ⟨hk, E, rfl, h⟩
theorem Grp.take (h : Grp k w S els css) (n : Nat) : Grp k w S (els.take n) (css.take n) := by
  refine ⟨by simp [h.1], fun i cs hi => ?_⟩
  rw [List.getElem?_take] at hi ⊢
  split at hi
  · rename_i hlt; rw [if_pos hlt]; exact h.2 i cs hi
  · cases hi
theorem Grp.drop (h : Grp k w S els css) (n : Nat) : Grp k w S (els.drop n) (css.drop n) := by
  refine ⟨by simp [h.1], fun i cs hi => ?_⟩
  rw [List.getElem?_drop] at hi ⊢
  exact h.2 _ cs hi
theorem Grp.at (h : Grp k w S els css) {i : Nat} {E : El} (hi : els[i]? = some E) : ∃ cs, css[i]? = some cs ∧ cs.length = k ∧ E.P w S cs := by
  have hlt : i < css.length := by rw [h.1]; exact (List.getElem?_eq_some_iff.1 hi).1
  obtain ⟨h1, E', h2, h3⟩ := h.2 i _ (List.getElem?_eq_getElem hlt)
  rw [hi] at h2; cases h2
  exact ⟨_, List.getElem?_eq_getElem hlt, h1, h3⟩
theorem flat_get : ∀ {css : List (List Value)} {i j : Nat} {cs : List Value} {u : Value}, (∀ cs ∈ css, cs.length = k) → css[i]? = some cs → cs[j]? = some u → css.flatten[i * k + j]? = some u
  | [], i, j, cs, u, _, hi, _ => by simp at hi
  | x :: css, 0, j, cs, u, hk, hi, hj => by
    simp at hi; subst hi
    have hl := (List.getElem?_eq_some_iff.1 hj).1
    rw [List.flatten_cons, Nat.zero_mul, Nat.zero_add, List.getElem?_append_left hl]; exact hj
  | x :: css, i + 1, j, cs, u, hk, hi, hj => by
    have hx := hk x List.mem_cons_self
    rw [List.flatten_cons, List.getElem?_append_right (by rw [hx, Nat.add_mul]; omega), hx, show (i + 1) * k + j - k = i * k + j by rw [Nat.add_mul]; omega]
    exact flat_get (fun cs hc => hk cs (List.mem_cons_of_mem _ hc)) (by simpa using hi) hj
theorem Grp.ks (h : Grp k w S els css) : ∀ cs ∈ css, cs.length = k := fun cs hc => by obtain ⟨i, hi, rfl⟩ := List.getElem_of_mem hc; exact (h.2 i _ (List.getElem?_eq_getElem hi)).1
theorem flat_take (n : Nat) : ∀ {css : List (List Value)}, (∀ cs ∈ css, cs.length = k) → css.flatten.take (n * k) = (css.take n).flatten := by
  induction n with
  | zero => intro css _; simp
  | succ n ih =>
    intro css hk
    cases css with
    | nil => simp
    | cons x css =>
      have hx := hk x List.mem_cons_self
      rw [List.flatten_cons, List.take_succ_cons, List.flatten_cons, List.take_append, hx, List.take_of_length_le (by rw [hx, Nat.add_mul]; omega), show (n + 1) * k - k = n * k by rw [Nat.add_mul]; omega, ih fun cs hc => hk cs (List.mem_cons_of_mem _ hc)]
theorem flat_drop (n : Nat) : ∀ {css : List (List Value)}, (∀ cs ∈ css, cs.length = k) → css.flatten.drop (n * k) = (css.drop n).flatten := by
  induction n with
  | zero => intro css _; simp
  | succ n ih =>
    intro css hk
    cases css with
    | nil => simp
    | cons x css =>
      have hx := hk x List.mem_cons_self
      rw [List.flatten_cons, List.drop_succ_cons, List.drop_append, hx, List.drop_of_length_le (by rw [hx, Nat.add_mul]; omega), show (n + 1) * k - k = n * k by rw [Nat.add_mul]; omega, ih fun cs hc => hk cs (List.mem_cons_of_mem _ hc)]
      simp
end

/-- The slice at A reads as these elements, of k cells each. -/
def RdR (k : Nat) (w : World) (S : Nat → Prop) (A : Option Addr) (els : List El) : Prop :=
  ∃ css, Grp k w S els css ∧ Rd w A (els.length * k) css.flatten ∧ (∀ a, A = some a → 0 < els.length → S a.block)
/-- It is a row of the call's own, the elements' own memory lying in blocks of S and in other blocks than the row. -/
def OwR (k : Nat) (e : TypeId) (w : World) (base : Nat) (S : Nat → Prop) (A : Option Addr) (c : Nat) (els : List El) : Prop :=
  ∃ css, Grp k w (fun b => S b ∧ But A b) els css ∧ w.ownsRow base e k (.slice A els.length c) els.length css.flatten
/-- The cells from offset o of block b on. -/
def Wi (w : World) (b o : Nat) (cs : List Value) : Prop := b < w.heap.size ∧ w.rangeAt b o cs
section
variable {k : Nat} {w w' : World} {S S' : Nat → Prop} {els : List El} {A : Option Addr} {e : TypeId} {base c : Nat}
theorem Wi.below {b o : Nat} {cs : List Value} (h : Wi w b o cs) (hb : Below w.heap.size w w') : Wi w' b o cs := ⟨Nat.lt_of_lt_of_le h.1 hb.size, fun j u hu => (World.cell?_of_block (a := ⟨b, o + j, none⟩) (hb.block b h.1)).trans (h.2 j u hu)⟩
theorem Wi.gr {b o : Nat} {cs : List Value} (h : Wi w b o cs) (g : Gr w w' A) (hne : But A b) : Wi w' b o cs := ⟨Nat.lt_of_lt_of_le h.1 g.size, fun j u hu => (World.cell?_of_block (a := ⟨b, o + j, none⟩) (g.block b h.1 fun hk => by
  cases A with
  | none => simp at hk
  | some a => simp at hk; exact hne a rfl hk)).trans (h.2 j u hu)⟩
theorem Rd.sizes {n : Nat} {xs : List Value} (h : Rd w A n xs) (hz : w.heap.size ≤ w'.heap.size) (hm : ∀ a, A = some a → 0 < n → a.block < w.heap.size → w'.heap[a.block]? = w.heap[a.block]?) : Rd w' A n xs := ⟨h.1, fun hn => by
  obtain ⟨b, o, rfl, hb, hc⟩ := h.2 hn
  exact ⟨b, o, rfl, by omega, fun j u hu => (World.cell?_of_block (a := ⟨b, o + j, none⟩) (hm ⟨b, o, none⟩ rfl hn hb)).trans (hc j u hu)⟩⟩
theorem RdR.move (hk : 0 < k) (h : RdR k w S A els) (hz : w.heap.size ≤ w'.heap.size) (hm : ∀ b, b < w.heap.size → S b → S' b ∧ w'.heap[b]? = w.heap[b]?) : RdR k w' S' A els := by
  obtain ⟨css, h1, h2, h3⟩ := h
  have hpos : 0 < els.length → 0 < els.length * k := fun hn => Nat.mul_pos hn hk
  refine ⟨css, h1.move hz hm, h2.sizes hz fun a ha hn hb => (hm _ hb (h3 a ha ?_)).2, fun a ha hn => ?_⟩
  · rcases Nat.eq_zero_or_pos els.length with h0 | h0
    · rw [h0] at hn; simp at hn
    · exact h0
  · obtain ⟨b, o, rfl, hb, _⟩ := h2.2 (hpos hn)
    cases ha
    exact (hm b hb (h3 _ rfl hn)).1
theorem RdR.below (h : RdR k w S A els) (hb : Below w.heap.size w w') : RdR k w' S A els := by
  obtain ⟨css, h1, h2, h3⟩ := h
  exact ⟨css, h1.below hb, h2.below hb, h3⟩
theorem RdR.all (h : RdR k w S A els) : RdR k w All A els := by
  obtain ⟨css, h1, h2, h3⟩ := h
  exact ⟨css, h1.all, h2, fun _ _ _ => trivial⟩
theorem RdR.nil (A : Option Addr) : RdR k w S A [] := ⟨[], Grp.nil _ _ _, by simpa using Rd.nil w A, fun _ _ h => absurd h (by simp)⟩
theorem RdR.at (hk : 0 < k) (h : RdR k w S A els) {i : Nat} {E : El} (hi : els[i]? = some E) : ∃ b o cs, A = some ⟨b, o, none⟩ ∧ S b ∧ cs.length = k ∧ E.P w S cs ∧ Wi w b (o + i * k) cs := by
  obtain ⟨css, h1, h2, h3⟩ := h
  have hlt := (List.getElem?_eq_some_iff.1 hi).1
  have hn : 0 < els.length := by omega
  obtain ⟨b, o, rfl, hb, hc⟩ := h2.2 (Nat.mul_pos hn hk)
  obtain ⟨cs, hcs, hl, hp⟩ := h1.at hi
  exact ⟨b, o, cs, rfl, h3 _ rfl hn, hl, hp, hb, fun j u hu => by rw [Nat.add_assoc]; exact hc _ u (flat_get h1.ks hcs hu)⟩
/-- The address of the part of a slice from l on. -/
def cutK (A : Option Addr) (c l k : Nat) : Option Addr := if c = l then A else A.map (·.add (l * k))
theorem RdR.cut {n l h : Nat} (hr : RdR k w S A els) (hn : els.length = n) (h1 : l ≤ h) (h2 : h ≤ n) (hc : n ≤ c) : RdR k w S (cutK A c l k) ((els.take h).drop l) := by
  subst hn
  obtain ⟨css, g1, g2, g3⟩ := hr
  have hle : h ≤ css.length := by rw [g1.1]; exact h2
  refine ⟨(css.take h).drop l, (g1.take h).drop l, ⟨?_, fun hp => ?_⟩, fun a ha hp => ?_⟩
  · rw [((g1.take h).drop l).len]
  · have hlt : l < h := by
      rcases Nat.lt_or_ge l h with h' | h'
      · exact h'
      · exfalso
        have : ((els.take h).drop l).length = 0 := by simp; omega
        rw [this] at hp; simp at hp
    have hk : 0 < k := by
      rcases Nat.eq_zero_or_pos k with h0 | h0
      · rw [h0] at hp; simp at hp
      · exact h0
    obtain ⟨b, o, rfl, hb, hcell⟩ := g2.2 (Nat.mul_pos (by omega) hk)
    have hne : ¬ c = l := by omega
    refine ⟨b, o + l * k, by simp [cutK, hne, Addr.add_lit], hb, fun j u hu => ?_⟩
    rw [← flat_drop l (fun cs hcs => g1.ks cs (List.mem_of_mem_take hcs)), ← flat_take h g1.ks, List.getElem?_drop, List.getElem?_take] at hu
    split at hu
    · rw [Nat.add_assoc]; exact hcell _ u hu
    · cases hu
  · have hlt : l < h := by simp at hp; omega
    have hne : ¬ c = l := by omega
    unfold cutK at ha
    rw [if_neg hne] at ha
    cases A with
    | none => simp at ha
    | some a0 =>
      have : a.block = a0.block := by
        simp only [Option.map_some, Option.some.injEq] at ha
        rw [← ha]; unfold Addr.add; split <;> rfl
      rw [this]
      exact g3 a0 rfl (by omega)
theorem OwR.lt (h : OwR k e w base S A c els) : ∀ a, A = some a → base ≤ a.block ∧ a.block < w.heap.size := fun a ha => by
  obtain ⟨css, _, h2⟩ := h
  exact World.ownsRow.lt h2 a.block (by rw [ha]; rfl)
theorem own_rd {n : Nat} {xs : List Value} (h : w.ownsRow base e k (.slice A n c) n xs) : Rd w A (n * k) xs := by
  refine ⟨h.1, fun hn => ?_⟩
  rcases h.2 with ⟨hv, h0⟩ | ⟨g, cap, cur, hv, _, hg, _⟩
  · rw [h0] at hn; simp at hn
  · injection hv with hA hn' hc
    subst hA
    have hcells := World.ownsRow.cells h (g := g) rfl
    exact ⟨g, 0, rfl, (Array.getElem?_eq_some_iff.1 hg).1, fun j u hu => by have := hcells j u hu; simpa [Addr.add_lit] using this⟩
theorem OwR.rd (h : OwR k e w base S A c els) : RdR k w All A els := by
  obtain ⟨css, h1, h2⟩ := h
  exact ⟨css, h1.all, own_rd h2, fun _ _ _ => trivial⟩
theorem OwR.below (h : OwR k e w base S A c els) (hb : Below w.heap.size w w') : OwR k e w' base S A c els := by
  have hl := OwR.lt h
  obtain ⟨css, h1, h2⟩ := h
  refine ⟨css, h1.below hb, World.ownsRow.kept (row := none) h2 ⟨hb.os, hb.tape, hb.output, hb.size, fun k hk _ => hb.block k hk⟩ ?_⟩
  cases A with
  | none => exact .inl rfl
  | some a => exact .inr (by simp [Value.ownBlock])
theorem OwR.gr {B : Option Addr} (h : OwR k e w base S A c els) (g : Gr w w' B) (hs : ∀ b, b < w.heap.size → S b → But A b → But B b) (hA : ∀ a, A = some a → But B a.block) : OwR k e w' base S A c els := by
  obtain ⟨css, h1, h2⟩ := h
  refine ⟨css, h1.gr g fun b hb h => hs b hb h.1 h.2, World.ownsRow.kept h2 g ?_⟩
  cases A with
  | none => exact .inl rfl
  | some a =>
    refine .inr ?_
    cases B with
    | none => simp [Value.ownBlock]
    | some b => simpa [Value.ownBlock] using hA a rfl b rfl
theorem OwR.mono {base' : Nat} (h : OwR k e w base S A c els) (hb : base' ≤ base) (hs : ∀ b, b < w.heap.size → S b → S' b) : OwR k e w base' S' A c els := by
  obtain ⟨css, h1, h2⟩ := h
  refine ⟨css, h1.mono fun b hl h => ⟨hs b hl h.1, h.2⟩, h2.1, ?_⟩
  rcases h2.2 with hn | ⟨g, cap, cur, hv, hg, rest⟩
  · exact .inl hn
  · exact .inr ⟨g, cap, cur, hv, Nat.le_trans hb hg, rest⟩
theorem OwR.nil (w : World) (base : Nat) (S : Nat → Prop) : OwR k e w base S none 0 [] := ⟨[], Grp.nil _ _ _, World.ownsRow_nil w base e k⟩
end

/-- A slice type whose elements have k cells. -/
structure RowK (P : Program) (t e : TypeId) (k : Nat) (z : Value) (bytes : Nat) : Prop where
  sl : P.underlying t = some (.slice e)
  info : (P.info? e).map (fun i => (i.zero, i.size, i.bytes)) = some (some z, k, bytes)
  zs : z.cells.size = k
  pos : 0 < k
section
variable {P : Program} {N : Nat} {ops : Array Oper} {Q : Exit → Act → World → Prop} {rest : List Oper} {L : FL} {w : World} {t e : TypeId} {z : Value} {bytes k : Nat}
theorem RowK.size (T : RowK P t e k z bytes) (w : World) : (sizeOf e).run P w = .ok k w := by
  obtain ⟨i, hi, _, hs, _⟩ := info_parts T.info
  simp [sizeOf, typeInfo, hi, hs]
theorem RowK.zero (T : RowK P t e k z bytes) (w : World) : (zeroValue e).run P w = .ok z w := by
  obtain ⟨i, hi, hz, _, _⟩ := info_parts T.info
  simp [zeroValue, typeInfo, hi, hz]
theorem opv_idxG {x i : Operand} {ty : TypeId} {b o : Nat} {n c kk : Nat} {ik : IntKind} {q : Int} (T : RowK P t e k z bytes) (hx : look L x = some (.slice (some ⟨b, o, none⟩) n c)) (hi : look L i = some (.int ik q)) (hq : q = (kk : Int)) (hk : kk < n) :
    OpV P (.indexAddr t x i) ty L w (.pointer (some ⟨b, o + kk * k, none⟩)) w := fun ρ op hρ ho _ => by
  subst hq
  simp [execOp, ho, Instr.indexAt, asIntOf, hρ x _ hx, hρ i _ hi, run_underlying T.sl, hk, T.size, Addr.add_lit]
/-- A whole element, of several cells. -/
theorem opv_ldG {x : Operand} {ty : TypeId} {b o : Nat} {cs : List Value} (hx : look L x = some (.pointer (some ⟨b, o, none⟩))) (hr : Wi w b o cs) (S : StT P e cs.length) : OpV P (.load e x) ty L w (.agg cs.toArray) w := fun ρ op hρ ho _ => by
  obtain ⟨fs, hu⟩ := S.get
  have := run_loadVar_mid (P := P) w b o e cs _ hr.2 hu rfl S.size
  simp [execOp, ho, Instr.loadAt, Instr.sureAddr, hρ x _ hx, this]
/-- One of its cells. -/
theorem opv_ldW {x : Operand} {ty : TypeId} {b o j : Nat} {cs : List Value} {u : Value} (hx : look L x = some (.pointer (some ⟨b, o + j, none⟩))) (hr : Wi w b o cs) (E : Cell1 P e) (hj : cs[j]? = some u) : OpV P (.load e x) ty L w u w :=
  opv_loadC E hx (hr.2 j u hj)
theorem opv_ldW0 {x : Operand} {ty : TypeId} {b o : Nat} {cs : List Value} {u : Value} (hx : look L x = some (.pointer (some ⟨b, o, none⟩))) (hr : Wi w b o cs) (E : Cell1 P e) (hj : cs[0]? = some u) : OpV P (.load e x) ty L w u w :=
  opv_loadC E hx (hr.2 0 u hj)

/-- The parts of a slice that a statement writes out, each of k cells. -/
def GLooks (L : FL) (k : Nat) : Nat → List (Nat × Operand) → List (List Value) → Prop
  | _, [], [] => True
  | j, (i, x) :: ps, cs :: css => i = j ∧ (∃ v, look L x = some v ∧ v.cells = cs.toArray) ∧ cs.length = k ∧ GLooks L k (j + 1) ps css
  | _, _, _ => False
theorem put_at (cs : List Value) : ∀ (off : Nat) (cur : Array Value), off + cs.length ≤ cur.size →
    ((cs.toArray.zipIdx.foldl (fun cs (x : Value × Nat) => cs.setIfInBounds (off + x.2) x.1) cur)).toList = cur.toList.take off ++ cs ++ cur.toList.drop (off + cs.length) := by
  intro off cur h
  have key : ∀ (cs : List Value) (j : Nat) (cur : Array Value), off + j + cs.length ≤ cur.size →
      (((cs.zipIdx j).foldl (fun cs (x : Value × Nat) => cs.setIfInBounds (off + x.2) x.1) cur)).toList = cur.toList.take (off + j) ++ cs ++ cur.toList.drop (off + j + cs.length) := by
    intro cs
    induction cs with
    | nil => intro j cur h; simp
    | cons x cs ih =>
      intro j cur h
      simp only [List.length_cons] at h
      rw [List.zipIdx_cons, List.foldl_cons, ih (j + 1) _ (by simp; omega)]
      rw [Array.toList_setIfInBounds]
      apply List.ext_getElem?
      intro i
      have m1 : min (off + (j + 1)) cur.size = off + (j + 1) := by omega
      have m2 : min (off + j) cur.size = off + j := by omega
      simp only [List.getElem?_append, List.length_append, List.length_take, List.length_set, List.getElem?_take, List.getElem?_set, List.getElem?_drop, List.length_cons, Array.length_toList, m1, m2]
      rcases Nat.lt_trichotomy i (off + j) with hi | hi | hi
      · have e1 : i < off + (j + 1) := by omega
        have e2 : i < off + (j + 1) + cs.length := by omega
        have e3 : i < off + j + (cs.length + 1) := by omega
        have e4 : ¬ off + j = i := by omega
        simp [hi, e1, e2, e3, e4]
      · subst hi
        have e1 : off + j < off + (j + 1) := by omega
        have e2 : off + j < off + (j + 1) + cs.length := by omega
        have e5 : off + j < cur.size := by omega
        simp [e1, e2, e5]
      · have e1 : ¬ i < off + (j + 1) := by omega
        have e2 : ¬ i < off + j := by omega
        have e6 : i - (off + j) = (i - (off + (j + 1))) + 1 := by omega
        by_cases e7 : i < off + (j + 1) + cs.length
        · have e8 : i < off + j + (cs.length + 1) := by omega
          rw [if_pos e7, if_neg e1, if_pos e8, if_neg e2, e6]; simp
        · have e8 : ¬ i < off + j + (cs.length + 1) := by omega
          have e9 : off + (j + 1) + cs.length + (i - (off + (j + 1) + cs.length)) = i := by omega
          have e10 : off + j + (cs.length + 1) + (i - (off + j + (cs.length + 1))) = i := by omega
          rw [if_neg e7, if_neg e8, e9, e10]
          rw [if_neg (by omega)]
  have := key cs 0 cur (by omega)
  rw [← Array.foldl_toList, Array.toList_zipIdx]
  simpa using this
theorem GLooks.fill {ρ : Operand → Value} (hρ : ∀ x u, look L x = some u → ρ x = u) : ∀ {ps : List (Nat × Operand)} {css : List (List Value)} {j : Nat} (cur : Array Value), GLooks L k j ps css → (j + css.length) * k = cur.size →
    Instr.fill (fun i => some (i * k, k)) cur (ps.map fun p => (p.1, ρ p.2)) = some (cur.toList.take (j * k) ++ css.flatten).toArray
  | [], [], j, cur, _, hk => by
    simp only [List.map_nil, Instr.fill, List.flatten_nil, List.append_nil]
    rw [List.take_of_length_le (by simp at hk ⊢; omega)]
  | (i, x) :: ps, cs :: css, j, cur, h, hk => by
    obtain ⟨rfl, ⟨v, hx, hv⟩, h1, h2⟩ := h
    simp only [List.length_cons] at hk
    have e1 : (i + (css.length + 1)) * k = i * k + k + css.length * k := by rw [Nat.add_mul, Nat.add_mul]; omega
    simp only [List.map_cons, Instr.fill, hρ x v hx, hv]
    have hcond : ¬ (cs.toArray.size ≠ k ∨ i * k + cs.toArray.size > cur.size) := by simp [h1]; omega
    have hbool : ((cs.toArray.size ≠ k) || decide (i * k + cs.toArray.size > cur.size)) = false := by simp [h1]; omega
    rw [if_neg (by simpa using hcond)]
    have hput := put_at cs (i * k) cur (by omega)
    have hsz : (cs.toArray.zipIdx.foldl (fun cs (x : Value × Nat) => cs.setIfInBounds (i * k + x.2) x.1) cur).size = cur.size := by
      rw [← Array.length_toList, hput]
      simp; omega
    rw [GLooks.fill hρ _ h2 (by rw [hsz, ← hk]; congr 1; omega), hput]
    congr 2
    rw [List.flatten_cons]
    have : (cur.toList.take (i * k) ++ cs ++ cur.toList.drop (i * k + cs.length)).take ((i + 1) * k) = cur.toList.take (i * k) ++ cs := by
      rw [List.take_append_of_le_length (by simp [h1, Nat.add_mul]; omega), List.take_of_length_le (by simp [h1, Nat.add_mul]; omega)]
    rw [this, List.append_assoc]
  | [], _ :: _, _, _, h, _ => h.elim
  | _ :: _, [], _, _, h, _ => h.elim

theorem opv_bsG {len : Nat} {ps : List (Nat × Operand)} {css : List (List Value)} {ty : TypeId} (T : RowK P t e k z bytes) (hp : GLooks L k 0 ps css) (hl : css.length = len) (hle : len * k ≤ 16777216) (h0 : 0 < len) :
    OpV P (.buildSlice t len ps.toArray) ty L w (.slice (some ⟨w.heap.size, 0, none⟩) len len) (w.alloc (.cells css.flatten.toArray e)) := fun ρ o hρ ho _ => by
  have hne : ¬ len * k = 0 := by have := Nat.mul_pos h0 T.pos; omega
  have hf := GLooks.fill hρ ((Array.range (len * k)).map fun i => z.cells[i % z.cells.size]!) hp (by simp [hl])
  simp only [Nat.zero_mul, List.take_zero, List.nil_append] at hf
  have hmap : (Array.map (fun (x : Nat × Operand) => (x.1, ρ x.2)) ps.toArray).toList = ps.map fun p => (p.1, ρ p.2) := by simp
  unfold execOp
  simp only [ho, Instr.buildSlice, Sem.run_bind, run_underlying T.sl, Result.andThen_ok, T.size]
  have h24 : ¬ (len * k > 2 ^ 24) := by omega
  rw [if_neg h24]
  simp only [hne, if_false, Sem.run_bind, Sem.run_pure, Result.andThen_ok, T.zero]
  rw [hmap, hf]
  simp [newRow]
theorem GLooks.ks : ∀ {ps : List (Nat × Operand)} {css : List (List Value)} {j : Nat}, GLooks L k j ps css → css.flatten.length = css.length * k
  | [], [], _, _ => by simp
  | (i, x) :: ps, cs :: css, j, h => by
    obtain ⟨_, _, h1, h2⟩ := h
    rw [List.flatten_cons, List.length_append, h1, GLooks.ks h2, List.length_cons, Nat.add_mul]; omega
  | [], _ :: _, _, h => h.elim
  | _ :: _, [], _, h => h.elim
/-- A slice of elements of k cells that a statement writes out. -/
theorem wl_bsG {d len : Nat} {ps : List (Nat × Operand)} {css : List (List Value)} {S : Nat → Prop} {els : List El} {ty : TypeId} {pos : String} {aft : Array Edge} (T : RowK P t e k z bytes) (hp : GLooks L k 0 ps css) (hl : els.length = len) (hle : len * k ≤ 16777216) (h0 : 0 < len)
    (hg : Grp k w S els css) (hd : Nat.blt d N = true)
    (h : ∀ A w', OwR k e w' w.heap.size S A len els → Below w.heap.size w w' → w'.heap.size = w.heap.size + 1 → WL P N ops Q rest ((d, .slice A len len) :: L) w') :
    WL P N ops Q (⟨some d, .buildSlice t len ps.toArray, ty, pos, aft, none⟩ :: rest) L w := by
  have hcl : css.length = len := by rw [hg.1, hl]
  have hb : Below w.heap.size w (w.alloc (.cells css.flatten.toArray e)) := (Below.refl _ _).alloc (Nat.le_refl _) _
  refine wl_val (opv_bsG T hp hcl hle h0) hd (h (some ⟨w.heap.size, 0, none⟩) _ ⟨css, hg.move hb.size fun b hlt hs => ⟨⟨hs, ?_⟩, hb.block b hlt⟩, ?_⟩ hb (by simp))
  · intro a ha; cases ha; exact Nat.ne_of_lt hlt
  · subst hl
    have hk := T.pos
    have hmax : els.length ≤ maxLen := by
      have : els.length * 1 ≤ els.length * k := Nat.mul_le_mul_left _ hk
      simp only [maxLen]; omega
    have := World.ownsRow_lit (e := e) (size := k) (base := w.heap.size) w css.flatten.toArray els.length (Nat.le_refl _) hmax (by simpa using hg.len)
    simpa using this
theorem wpList_appG {o : Oper} {a : Act} {base : Nat} {A : Option Addr} {n c : Nat} {xs : List Value} (T : RowK P t e k z bytes) (hgd : o.guard = none) (s x : Operand)
    (ho : o.op = .call { callee := .builtin .append, args := #[s, x], argTypes := #[t, t] })
    (hs : a.eval s = .slice A n c) (hown : w.ownsRow base e k (.slice A n c) n xs) {B : Option Addr} {m d : Nat} {ys : List Value} (hx : a.eval x = .slice B m d) (hr : Rd w B (m * k) ys) (h1 : ∀ u ∈ ys, u.oneCell' = true)
    (hbytes : (n + m) * bytes ≤ 140737488355328) (hmax : n + m ≤ maxLen) (hbase : base ≤ w.heap.size)
    (h : ∀ A' c' w', w'.ownsRow base e k (.slice A' (n + m) c') (n + m) (xs ++ ys) → Gr w w' A → (A'.map (·.block) = A.map (·.block) ∨ A'.map (·.block) = some w.heap.size) → wpList P ops Q rest (a.put o.dst (.slice A' (n + m) c')) w') : wpList P ops Q (o :: rest) a w := by
  obtain ⟨i, hi0, hz, hs1, hby⟩ := info_parts T.info
  have hk := T.pos
  have hob : ∀ (A : Option Addr) n c, (Value.slice A n c).ownBlock = A.map (·.block) := fun A _ _ => by cases A <;> rfl
  have hfin : ∀ v' w', w'.ownsRow base e k v' (n + m) (xs ++ ys) → w.grownBy w' (Value.slice A n c).ownBlock → (v'.ownBlock = (Value.slice A n c).ownBlock ∨ v'.ownBlock = some w.heap.size) →
      wpList P ops Q rest (a.put o.dst v') w' := by
    intro v' w' h2 h3 h4
    rw [hob] at h3
    rcases h2.2 with ⟨rfl, h0⟩ | ⟨g, cap, cur, rfl, _⟩
    · have := h none 0 w' (by rw [h0] at h2 ⊢; exact h2) h3 (by simpa only [hob] using h4)
      rw [h0] at this
      exact this
    · exact h _ _ w' h2 h3 (by simpa only [hob] using h4)
  by_cases h0 : 0 < m
  · obtain ⟨b, of, hA, _, hc⟩ := hr.2 (Nat.mul_pos h0 hk)
    subst hA
    exact wpList_append_own_at w hgd s x t ho base e i z k bytes T.sl hi0 hz hs1 hby T.zs hk _ n xs hs hown _ m d ys hx (by simpa using hr.1)
      (fun j u hu => by rw [Addr.add_lit]; exact hc j u hu) h1 hmax hbytes hbase fun v' w' h2 h3 _ h4 => hfin v' w' h2 h3 h4
  · have hm : m = 0 := by omega
    subst hm
    have hn : ys = [] := List.eq_nil_of_length_eq_zero (by simpa using hr.1)
    subst hn
    cases B with
    | some ad =>
      exact wpList_append_own_at w hgd s x t ho base e i z k bytes T.sl hi0 hz hs1 hby T.zs hk _ n xs hs hown ad 0 d [] hx (by simp)
        (fun j u hu => by simp at hu) h1 hmax hbytes hbase fun v' w' h2 h3 _ h4 => hfin v' w' h2 h3 h4
    | none =>
      have hrun : (Builtin.append_ #[t, t] o.type #[.slice A n c, .slice none 0 d]).run P w = .ok (.slice A n c) w := by
        rcases hown.2 with ⟨hv, hn0⟩ | ⟨g, cap, cur, hv, _, _, hnc, _⟩
        · injection hv with hA hn hc; subst hA hn0 hc
          simp [Builtin.append_, run_underlying T.sl, sizeOf, typeInfo, hi0, Builtin.lenOf, Builtin.firstCells]
        · injection hv with hA hn hc; subst hA hc
          simp [Builtin.append_, run_underlying T.sl, sizeOf, typeInfo, hi0, Builtin.lenOf, Builtin.firstCells, hnc, storeCells]
      refine wpList_plain hgd fun K hK => ?_
      unfold Oper.wp execOp
      simp only [ho, resolve, invoke, builtin, Sem.run_bind, Sem.run_pure, Result.andThen_ok, List.map_toArray, List.map_cons, List.map_nil, hs, hx, hrun]
      refine hK _ _ (hfin _ _ (by rw [List.append_nil]; exact hown) ⟨rfl, rfl, rfl, Nat.le_refl _, fun _ _ _ => rfl⟩ (.inl rfl))
/-- append(s, x, y ..): the elements written out. -/
theorem wl_pushG {d1 d2 len : Nat} {ps : List (Nat × Operand)} {css' : List (List Value)} {s : Operand} {ty1 ty2 : TypeId} {p1 p2 : String} {f1 f2 : Array Edge} {base : Nat} {S : Nat → Prop} {A : Option Addr} {n c : Nat} {els els' : List El} (T : RowK P t e k z bytes)
    (hs1 : ∀ p, look ((d1, p) :: L) s = some (.slice A n c)) (hown : OwR k e w base S A c els) (hn : els.length = n) (hp : GLooks L k 0 ps css') (hg' : Grp k w (fun b => S b ∧ But A b) els' css') (hl : els'.length = len) (h1 : ∀ u ∈ css'.flatten, u.oneCell' = true) (hle : len * k ≤ 16777216) (h0 : 0 < len)
    (hbytes : (n + len) * bytes ≤ 140737488355328) (hmax : n + len ≤ maxLen) (hbase : base ≤ w.heap.size) (hd1 : Nat.blt d1 N = true) (hd2 : Nat.blt d2 N = true)
    (h : ∀ p A' c' w', OwR k e w' base S A' c' (els ++ els') → Gr w w' A → (A'.map (·.block) = A.map (·.block) ∨ ∀ a', A' = some a' → w.heap.size ≤ a'.block) → WL P N ops Q rest ((d2, .slice A' (n + len) c') :: (d1, p) :: L) w') :
    WL P N ops Q (⟨some d1, .buildSlice t len ps.toArray, ty1, p1, f1, none⟩ :: ⟨some d2, .call { callee := .builtin .append, args := #[s, .tmp d1], argTypes := #[t, t] }, ty2, p2, f2, none⟩ :: rest) L w := by
  subst hl
  have hcl : css'.length = els'.length := hg'.1
  refine wl_val (opv_bsG T hp hcl hle h0) hd1 ?_
  have hb : Below w.heap.size w (w.alloc (.cells css'.flatten.toArray e)) := (Below.refl _ _).alloc (Nat.le_refl _) _
  have hl := hg'.len
  intro a ha
  obtain ⟨css, hg, ho⟩ := hown
  subst hn
  have hrd : Rd (w.alloc (.cells css'.flatten.toArray e)) (some ⟨w.heap.size, 0, none⟩) (els'.length * k) css'.flatten := by
    have := Rd.new w css'.flatten.toArray e
    simpa [hl] using this
  have ho1 := World.ownsRow.alloc ho (.cells css'.flatten.toArray e)
  refine wpList_appG (B := some ⟨w.heap.size, 0, none⟩) (m := els'.length) (d := els'.length) T rfl s (.tmp d1) rfl (ha.eval (hs1 _)) ho1 (ha.eval (by simp [look, lookT])) hrd h1 hbytes hmax (by simp; omega) fun A' c' w' ho' hgr hat => ?_
  have hgr' : Gr w w' A := (Gr.of_below A hb (Nat.le_refl _)).trans hgr
  refine h _ A' c' w' ⟨css ++ css', ?_, by rw [List.length_append, List.flatten_append]; exact ho'⟩ hgr' ?_ _ (ha.put hd2 _)
  · refine (hg.append hg').move hgr'.size fun b hlt hb => ⟨⟨hb.1, fun a' ha' => ?_⟩, hgr'.block b hlt ?_⟩
    · subst ha'
      rcases hat with e | e
      · cases A with
        | none => simp at e
        | some a0 => simp only [Option.map_some, Option.some.injEq] at e; rw [e]; exact hb.2 a0 rfl
      · simp only [Option.map_some, Option.some.injEq] at e; simp at e; omega
    · intro hk
      cases A with
      | none => simp at hk
      | some a0 => simp only [Option.map_some, Option.some.injEq] at hk; exact hb.2 a0 rfl hk
  · rcases hat with e | e
    · exact .inl e
    · refine .inr fun a' ha' => ?_
      rw [ha'] at e
      simp at e
      omega
end
end Go.Proofs.Ytdgagffieobiiaa

/-
  More of the engine's rules: a variable that is made and set at once, append of a text to bytes, values without memory. Nothing here names the program.
-/
namespace Go.Proofs.Ytdgagffieobiiaa
open Go.RowKit
section
variable {P : Program} {N : Nat} {ops : Array Oper} {Q : Exit → Act → World → Prop} {rest : List Oper} {L : FL} {w w' : World} {t e : TypeId} {g : Nat} {cs cs' : List Value}
/-- A variable of a struct type that is made and set. -/
theorem wl_var {d : Nat} {x : Operand} {ty1 ty2 : TypeId} {p1 p2 : String} {f1 f2 : Array Edge} {zs : List Value} (hz : (P.info? t).map (·.zero) = some (some (.agg zs.toArray))) (S : StT P t cs.length) (hl : zs.length = cs.length)
    (hx : ∀ p, look ((d, p) :: L) x = some (.agg cs.toArray)) (h1 : cs.all (·.oneCell') = true) (hd : Nat.blt d N = true)
    (h : ∀ g w', w.heap.size ≤ g → Ar w' g t cs → Below w.heap.size w w' → WL P N ops Q rest ((d, .pointer (some ⟨g, 0, none⟩)) :: L) w') :
    WL P N ops Q (⟨some d, .alloc t, ty1, p1, f1, none⟩ :: ⟨none, .store t (.tmp d) x, ty2, p2, f2, none⟩ :: rest) L w := by
  refine wl_new hz hd fun g w1 hg a1 hb1 => ?_
  refine wl_storeS S a1 (by simp [look, lookT]) (hx _) hl h1 fun w2 a2 g2 _ => ?_
  exact h g w2 hg a2 (Gr.belowI g2 hb1 hg hb1.size)
/-- A block of another type is another block. -/
theorem Ar.ne_row {k base n c : Nat} {A : Option Addr} {xs : List Value} (h : Ar w g t cs) (ho : w.ownsRow base e k (.slice A n c) n xs) (hne : (t == e) = false) : ∀ a, A = some a → a.block ≠ g := by
  rintro a rfl hk
  rcases ho.2 with ⟨hv, _⟩ | ⟨g', cap, cur, hv, _, hg, _⟩
  · cases hv
  · injection hv with hA
    injection hA with hA
    subst hA
    simp only at hk
    subst hk
    unfold Ar at h
    rw [h] at hg
    simp only [Option.some.injEq, Obj.cells.injEq] at hg
    simp [hg.2.1] at hne
theorem Ar.ne_ow {base n c : Nat} {A : Option Addr} {xs : List Value} (h : Ar w g t cs) (ho : Ow w base e A n c xs) (hne : (t == e) = false) : ∀ a, A = some a → a.block ≠ g := Ar.ne_row h ho hne
theorem Ow.bel {base n c : Nat} {A : Option Addr} {xs : List Value} (h : Ow w base e A n c xs) (hb : Below w.heap.size w w') : Ow w' base e A n c xs := Ow.below h hb (Nat.le_refl _)
theorem Ow.re {base n c : Nat} {A : Option Addr} {xs : List UInt8} (h : Ow w base e A xs.length c (bvs xs)) (hn : xs.length = n) : Ow w base e A n c (bvs xs) := hn ▸ h
/-- Rows of elements where another row has been written. -/
theorem But.upd {A A' : Option Addr} (hat : A'.map (·.block) = A.map (·.block) ∨ ∀ a', A' = some a' → w.heap.size ≤ a'.block) : ∀ b, b < w.heap.size → But A b → But A' b := by
  rintro b hb h a rfl
  rcases hat with hat | hat
  · cases A with
    | none => simp at hat
    | some a0 => simp only [Option.map_some, Option.some.injEq] at hat; rw [hat]; exact h a0 rfl
  · have := hat a rfl; omega
theorem OwR.move {k base c : Nat} {S S' : Nat → Prop} {A B : Option Addr} {els : List El} (h : OwR k e w base S A c els) (g : Gr w w' B) (hs : ∀ b, b < w.heap.size → S b → But A b → S' b ∧ But B b) (hA : ∀ a, A = some a → But B a.block) : OwR k e w' base S' A c els := by
  obtain ⟨css, h1, h2⟩ := h
  refine ⟨css, h1.move g.size fun b hb h => ⟨⟨(hs b hb h.1 h.2).1, h.2⟩, g.block b hb fun hk => ?_⟩, World.ownsRow.kept h2 g ?_⟩
  · cases B with
    | none => simp at hk
    | some x => simp at hk; exact (hs b hb h.1 h.2).2 x rfl hk
  · cases A with
    | none => exact .inl rfl
    | some a =>
      refine .inr ?_
      cases B with
      | none => simp [Value.ownBlock]
      | some b => simpa [Value.ownBlock] using hA a rfl b rfl
theorem Gr.belowR {k base c B : Nat} {w0 : World} {S : Nat → Prop} {A : Option Addr} {els : List El} (g : Gr w w' A) (h : Below B w0 w) (ho : OwR k e w base S A c els) (hb : B ≤ base) (hB : B ≤ w.heap.size) : Below B w0 w' :=
  h.grown g hB fun k hk => by
    cases A with
    | none => simp at hk
    | some a => simp at hk; have := (OwR.lt ho a rfl).1; omega
theorem row_ne {e' : TypeId} {k k' base base' n m c d : Nat} {A B : Option Addr} {xs ys : List Value} (h : w.ownsRow base e k (.slice A n c) n xs) (h' : w.ownsRow base' e' k' (.slice B m d) m ys) (hne : (e == e') = false) : ∀ a b, A = some a → B = some b → a.block ≠ b.block := by
  rintro a b rfl rfl hk
  rcases h.2 with ⟨hv, _⟩ | ⟨g, cap, cur, hv, _, hg, _⟩
  · cases hv
  rcases h'.2 with ⟨hv', _⟩ | ⟨g', cap', cur', hv', _, hg', _⟩
  · cases hv'
  injection hv with hA; injection hA with hA; subst hA
  injection hv' with hB; injection hB with hB; subst hB
  simp only at hk
  subst hk
  rw [hg] at hg'
  simp only [Option.some.injEq, Obj.cells.injEq] at hg'
  simp [hg'.2.1] at hne
theorem OwR.ne {e' : TypeId} {k k' base base' c d : Nat} {S S' : Nat → Prop} {A B : Option Addr} {els els' : List El} (h : OwR k e w base S A c els) (h' : OwR k' e' w base' S' B d els') (hne : (e == e') = false) : ∀ a, A = some a → But B a.block := by
  obtain ⟨_, _, h2⟩ := h
  obtain ⟨_, _, h3⟩ := h'
  exact fun a ha b hb => row_ne h2 h3 hne a b ha hb
theorem OwR.ne_ow {e' : TypeId} {k base base' n c d : Nat} {S : Nat → Prop} {A B : Option Addr} {els : List El} {xs : List Value} (h : OwR k e w base S A c els) (h' : Ow w base' e' B n d xs) (hne : (e == e') = false) : ∀ a, A = some a → But B a.block := by
  obtain ⟨_, _, h2⟩ := h
  exact fun a ha b hb => row_ne h2 h' hne a b ha hb
/-- append(b, s...) of a text s. -/
theorem wl_appS {d : Nat} {s x : Operand} {ty : TypeId} {u : TypeId} {pos : String} {aft : Array Edge} {base : Nat} {A : Option Addr} {n c : Nat} {xs : List Value} {ys : List UInt8} (T : Row1 P t e (.int .u8 0) 1) (hu : P.underlying u = some .string)
    (hs : look L s = some (.slice A n c)) (hown : Ow w base e A n c xs) (hx : look L x = some (str ys)) (hbytes : n + ys.length ≤ 140737488355328) (hbase : base ≤ w.heap.size) (hd : Nat.blt d N = true)
    (h : ∀ A' c' w', Ow w' base e A' (n + ys.length) c' (xs ++ bvs ys) → Gr w w' A → WL P N ops Q rest ((d, .slice A' (n + ys.length) c') :: L) w') :
    WL P N ops Q (⟨some d, .call { callee := .builtin .append, args := #[s, x], argTypes := #[t, u] }, ty, pos, aft, none⟩ :: rest) L w := fun a ha => by
  obtain ⟨i, hi, hz, hs1, hby⟩ := info_parts T.info
  have e1 : Lib.strCells ⟨ys.toArray⟩ = bvs ys := by simp [Lib.strCells, bvs, bv]
  refine Lib.wpList_append_own_string w rfl s x t u rfl base e i T.sl hu hi hz hs1 hby _ n xs (ha.eval hs) hown ⟨ys.toArray⟩ (ha.eval hx) (by simp only [maxLen, size_list]; omega) (by simpa only [size_list] using hbytes) hbase fun v' w' h2 h3 _ => ?_
  rw [size_list, e1] at h2
  rw [ownBlock_slice] at h3
  rcases h2.2 with ⟨rfl, h0⟩ | ⟨g, cap, cur, rfl, _⟩
  · rw [h0] at h2
    have := h none 0 w' (by rw [h0]; exact h2) h3
    rw [h0] at this
    exact this _ (ha.put hd _)
  · exact h _ _ w' h2 h3 _ (ha.put hd _)
end
end Go.Proofs.Ytdgagffieobiiaa

/-
  Walks over PutU of the program and of the reference, inside, and GetU of both.
-/
namespace Go.Proofs.Ytdgagffieobiiaa
open Go.RowKit

def PutI (w : World) (n : Nat) (s : Nat) : FL → World → Nat → Prop := fun L wr m =>
  ∃ (pre : List UInt8) (A : Option Addr) (c : Nat), L = [(0, .int .u64 m), (s, .slice A pre.length c)] ∧ OwB wr w.heap.size A c pre ∧ putU n = pre ++ putU m ∧ Below w.heap.size w wr ∧ m < 2 ^ (64 - 7 * pre.length) ∧ 7 * pre.length ≤ 63
theorem PutI.start {w : World} {n s : Nat} (hn : n < 2 ^ 64) : PutI w n s [(0, .int .u64 n), (s, .slice none 0 0)] w n :=
  ⟨[], none, 0, rfl, Ow.nil _ _ _, rfl, Below.refl _ _, hn, by decide⟩
theorem PutI.next {w wr w' : World} {n m s : Nat} {pre : List UInt8} {A A' : Option Addr} {c c' : Nat} {v : Value} (hown : OwB wr w.heap.size A c pre) (heq : putU n = pre ++ putU m) (hbel : Below w.heap.size w wr) (hm : m < 2 ^ (64 - 7 * pre.length)) (hl : 7 * pre.length ≤ 63)
    (h : 128 ≤ m) (ho : Ow w' w.heap.size 5 A' (pre.length + 1) c' (bvs pre ++ [v])) (hg : Gr wr w' A) (hv : bv (UInt8.ofNat (m % 128 + 128)) = v) :
    PutI w n s [(0, .int .u64 (m / 128 : Nat)), (s, .slice A' (pre.length + 1) c')] w' (m / 128) := by
  have h7 : 8 ≤ 64 - 7 * pre.length := by
    rcases Nat.lt_or_ge 7 (64 - 7 * pre.length) with h' | h'
    · exact h'
    · have := Nat.lt_of_lt_of_le hm (Nat.pow_le_pow_right (by decide) h'); omega
  refine ⟨pre ++ [UInt8.ofNat (m % 128 + 128)], A', c', by simp, OwB.snoc ho hv, ?_, hg.below hbel hown (Nat.le_refl _) hbel.size, ?_, ?_⟩
  · rw [heq, putU, if_neg (by omega)]; simp
  · refine Nat.div_lt_of_lt_mul ?_
    rw [show 128 = 2 ^ 7 from rfl, ← Nat.pow_add]
    simp only [List.length_append, List.length_cons, List.length_nil]
    rw [show 7 + (64 - 7 * (pre.length + (0 + 1))) = 64 - 7 * pre.length by omega]
    exact hm
  · simp; omega
theorem PutI.last {w wr w' : World} {n m : Nat} {pre : List UInt8} {A A' : Option Addr} {c c' : Nat} {v : Value} (hown : OwB wr w.heap.size A c pre) (heq : putU n = pre ++ putU m) (hbel : Below w.heap.size w wr)
    (h : m < 128) (ho : Ow w' w.heap.size 5 A' (pre.length + 1) c' (bvs pre ++ [v])) (hg : Gr wr w' A) (hv : bv (UInt8.ofNat m) = v) :
    RetB w (putU n) (.slice A' (pre.length + 1) c') w' := by
  have e : putU n = pre ++ [UInt8.ofNat m] := by rw [heq, putU, if_pos h]
  rw [e]
  exact ⟨A', c', by simp, OwB.snoc ho hv, hg.below hbel hown (Nat.le_refl _) hbel.size⟩

theorem putU_any (n : Nat) (hn : n < 2 ^ 64) (w : World) : CallsV Try.prog 57 #[.int .u64 n] w (RetB w (putU n)) := by
  refine calls_in (N := _) Try.func57 rfl Try.ntmps57 rfl ?_; show WC _ _ _ _ _ _
  refine wc_sr ?_; refine wl_as rfl rfl ?_; refine wl_ns ?_; refine wc_sr ?_; refine wl_as rfl rfl ?_; refine wl_ns ?_; refine wc_seq ?_; refine wc_block ?_
  refine wc_loop (PutI w n 3) [(0, .int .u64 n), (3, .slice none 0 0)] n (PutI.start hn) ⟨rfl, rfl, trivial⟩ ?_
  rintro _ wr m ⟨pre, A, c, rfl, hown, heq, hbel, hm, hl⟩
  have hsz := hbel.size
  have hm64 : m < 2 ^ 64 := Nat.lt_of_lt_of_le hm (Nat.pow_le_pow_right (by decide) (by omega))
  refine wc_seq ?_; refine wc_sr ?_; refine wl_mv rfl rfl ?_; refine wl_bin rfl rfl bin_geq rfl ?_; refine wl_ns ?_
  refine wc_cond rfl (fun h => ?_) (fun h => ?_)
  · refine wc_skip ?_; refine we_seq ?_; refine wc_block ?_; refine wc_sr ?_; refine wl_mv rfl rfl ?_; refine wl_mv rfl rfl ?_; apply wl_val; apply opv_convR; exact rfl; exact Try.underlying47; exact Try.underlying5; exact wrap_nat rfl _; exact rfl
    refine wl_val (opv_bin (b := .int .u8 (128 : Nat)) rfl rfl (bin_or rfl (Nat.mod_lt _ (by decide)) (by decide))) rfl ?_
    refine wl_push (vs := [_]) tyB rfl hown ⟨rfl, rfl, rfl, trivial⟩ rfl (by decide) rfl (by omega) (by simp only [maxLen]; omega) hsz rfl rfl fun p A' c' w' ho hg hat => ?_
    refine wl_as rfl rfl ?_; refine wl_ns ?_; refine wc_region ?_; refine wl_mv rfl rfl ?_
    refine wl_val (opv_bin (b := .int .u64 (7 : Nat)) rfl rfl (bin_shr hm64)) rfl ?_
    refine wl_as rfl rfl ?_; refine wl_nil ?_; refine we_block_norm ?_
    refine we_loop _ (m / 128) (PutI.next hown heq hbel hm hl (by omega) ho hg ?_) (by omega) ⟨rfl, rfl, trivial⟩
    rw [bv_of (by omega), show IntKind.u8.bits = 8 from rfl, show 2 ^ 8 = 256 from rfl, or128]
  · refine wc_exit ?_; refine we_seq_exit ?_; refine we_loop_exit ?_; refine we_block_exit ?_; refine we_seq ?_; refine wc_sr ?_; refine wl_mv rfl rfl ?_; refine wl_mv rfl rfl ?_; apply wl_val; apply opv_convR; exact rfl; exact Try.underlying47; exact Try.underlying5; exact IntWalk.u8_in _ (by omega); exact rfl
    refine wl_push (vs := [_]) tyB rfl hown ⟨rfl, rfl, rfl, trivial⟩ rfl (by decide) rfl (by omega) (by simp only [maxLen]; omega) hsz rfl rfl fun p A' c' w' ho hg hat => ?_
    refine wl_as rfl rfl ?_; refine wl_ns ?_; refine wc_ret ?_
    exact we_ret1 rfl rfl ⟨_, rfl, PutI.last hown heq hbel (by omega) ho hg (bv_of (by omega))⟩
theorem inside_any {A : Option Addr} {n c : Nat} (p : Int) (w : World) : CallsV Try.prog 68 #[.slice A n c, .int .i64 p] w fun v w' => v = .bool (decide (0 ≤ p ∧ p ≤ n)) ∧ w = w' := by
  refine calls_in (N := _) Try.func68 rfl Try.ntmps68 rfl ?_; show WC _ _ _ _ _ _
  refine wc_sr ?_; refine wl_as rfl rfl ?_; refine wl_ns ?_; refine wc_sr ?_; refine wl_mv rfl rfl ?_; refine wl_bin rfl rfl bin_geq rfl ?_; refine wl_mv rfl rfl ?_
  refine wl_cutV 5 12 (.bool (decide ((0 ≤ p) ∧ (p ≤ n)))) ?c8 ?_; (case c8 => (dsimp only [List.take]; by_cases hc0 : (0 ≤ p); (focus (apply wl_take; exact rfl; exact rfl; exact rfl; refine bT ?_; (with_reducible assumption); refine wl_mv rfl rfl ?_; apply wl_take; exact rfl; exact rfl; exact rfl; refine bT ?_; (with_reducible assumption); refine wl_mv rfl rfl ?_; apply wl_take; exact rfl; exact rfl; exact rfl; refine bT ?_; (with_reducible assumption); apply wl_val; apply opv_len; exact rfl; exact tyB.sl; exact rfl; apply wl_take; exact rfl; exact rfl; exact rfl; refine bT ?_; (with_reducible assumption); refine wl_bin rfl rfl bin_leq rfl ?_; apply wl_val; apply opv_pickT; exact rfl; refine bT ?_; (with_reducible assumption); exact rfl; exact rfl; refine wl_nil ?_; refine we_cut _ ⟨rfl, rfl⟩ ⟨congrArg (fun b => some (Value.bool b)) ?e8_0, ?s8_0⟩; (case e8_0 => ((simp [hc0]; done))); (case s8_0 => (refine And.intro rfl ?_; refine And.intro rfl ?_; refine And.intro rfl ?_; refine And.intro rfl ?_; refine And.intro rfl ?_; refine And.intro rfl ?_; exact True.intro)))); (focus (apply wl_skip; exact rfl; exact rfl; exact rfl; refine bFn ?_; (with_reducible assumption); exact rfl; apply wl_skip; exact rfl; exact rfl; exact rfl; refine bFn ?_; (with_reducible assumption); exact rfl; apply wl_skip; exact rfl; exact rfl; exact rfl; refine bFn ?_; (with_reducible assumption); exact rfl; apply wl_skip; exact rfl; exact rfl; exact rfl; refine bFn ?_; (with_reducible assumption); exact rfl; apply wl_val; apply opv_pickF; exact rfl; refine bF ?_; (with_reducible assumption); exact rfl; exact rfl; refine wl_nil ?_; refine we_cut _ ⟨rfl, rfl⟩ ⟨congrArg (fun b => some (Value.bool b)) ?e8_1, ?s8_1⟩; (case e8_1 => ((simp [hc0]; done))); (case s8_1 => (refine And.intro rfl ?_; refine And.intro rfl ?_; refine And.intro rfl ?_; refine And.intro rfl ?_; refine And.intro rfl ?_; refine And.intro rfl ?_; exact True.intro)))))); dsimp only [List.drop]
  refine wl_as rfl rfl ?_; refine wl_ns ?_; refine wc_ret ?_
  exact we_ret1 rfl rfl ⟨_, rfl, rfl, rfl⟩
/-- A number, a place and an error are handed back. -/
def RetN (w : World) (r : Nat × Int × Nat) (v : Value) (w' : World) : Prop := v = .tuple #[.int .u64 (r.1 : Int), .int .i64 r.2.1, .int .i64 (r.2.2 : Int)] ∧ Below w.heap.size w w'

theorem getU_any {A : Option Addr} {n c : Nat} {xs : List UInt8} {p : Int} {w : World} (hr : RdB w A xs) (hn : xs.length = n) (hl : xs.length ≤ maxLen) (hp : -9223372036854775808 ≤ p ∧ p ≤ 9223372036854775807) :
    CallsV Try.prog 59 #[.slice A n c, .int .i64 p] w (RetN w (getU xs p)) := by
  subst hn
  have hmx : xs.length ≤ 9223372036854775807 := by simpa only [maxLen] using hl
  clear hl
  refine calls_in (N := _) Try.func59 rfl Try.ntmps59 rfl ?_; show WC _ _ _ _ _ _
  refine wc_sr ?_; refine wl_as rfl rfl ?_; refine wl_as rfl rfl ?_; refine wl_as rfl rfl ?_; refine wl_ns ?_; refine wc_seq ?_; refine wc_sr ?_; refine wl_mv rfl rfl ?_; refine wl_mv rfl rfl ?_
  refine wl_call ok_codec_inside (inside_any p w) ⟨rfl, rfl, trivial⟩ rfl ?_
  rintro _ _ ⟨rfl, rfl⟩
  apply wl_val; apply opv_notD; exact rfl; exact rfl; refine wl_ns ?_
  refine wc_cond rfl (fun h => ?_) (fun h => ?_)
  · refine wc_sr ?_; refine wl_as rfl rfl ?_; refine wl_as rfl rfl ?_; refine wl_as rfl rfl ?_; refine wl_ns ?_; refine wc_ret ?_; refine we_seq_ret ?_
    exact we_ret3 rfl rfl rfl rfl ⟨_, rfl, by rw [getU_arg h]; rfl, Below.refl _ _⟩
  · have h' : 0 ≤ p ∧ p ≤ xs.length := by simpa using h
    obtain ⟨q, rfl⟩ := Int.eq_ofNat_of_zero_le h'.1
    have hq : q ≤ xs.length := by omega
    refine wc_skip ?_; refine we_seq ?_; refine wc_sr ?_; refine wl_as rfl rfl ?_; refine wl_ns ?_; refine wc_seq ?_; refine wc_sr ?_; refine wl_as rfl rfl ?_; refine wl_ns ?_; refine wc_block ?_
    refine wc_loop (fun L wr m => ∃ i n : Nat, L = [(0, .slice A xs.length c), (1, .int .i64 (q : Int)), (7, .int .u64 (n : Int)), (8, .int .i64 (i : Int))] ∧ q + i ≤ xs.length ∧ i ≤ 9 ∧ n < 128 ^ i ∧ getAux 0 0 (xs.drop q) = getAux i n (xs.drop (q + i)) ∧ w = wr ∧ m = xs.length - i)
      [(0, .slice A xs.length c), (1, .int .i64 (q : Int)), (7, .int .u64 (0 : Nat)), (8, .int .i64 (0 : Nat))] xs.length ⟨0, 0, rfl, hq, by omega, by omega, rfl, rfl, rfl⟩ ⟨rfl, rfl, rfl, rfl, trivial⟩ ?_
    rintro _ _ m ⟨i, n, rfl, hqi, hi, hn, heq, rfl, rfl⟩
    refine wc_seq ?_; refine wc_sr ?_; refine wl_mv rfl rfl ?_; refine wl_mv rfl rfl ?_; apply wl_val; apply opv_bin; exact rfl; exact rfl; exact bin_add64 (by omega); exact rfl; refine wl_mv rfl rfl ?_; apply wl_val; apply opv_len; exact rfl; exact tyB.sl; exact rfl; refine wl_bin rfl rfl bin_lss rfl ?_; refine wl_ns ?_
    refine wc_cond rfl (fun h1 => ?_) (fun h1 => ?_)
    · have hlt : q + i < xs.length := by omega
      refine wc_skip ?_; refine we_seq ?_; refine wc_seq ?_; refine wc_block ?_; refine wc_sr ?_; refine wl_mv rfl rfl ?_; refine wl_mv rfl rfl ?_; refine wl_mv rfl rfl ?_; apply wl_val; apply opv_bin; exact rfl; exact rfl; exact bin_add64 (by omega); exact rfl
      refine wl_by (kk := q + i) tyB rfl rfl hr (by simp) hlt rfl rfl fun p1 x hx => ?_
      have hdrop := drop_get hx
      have hx256 := x.toNat_lt
      apply wl_val; apply opv_convR; exact rfl; exact Try.underlying5; exact Try.underlying47; exact IntWalk.u64_in _ (by omega); exact rfl; refine wl_as rfl rfl ?_; refine wl_ns ?_; refine wc_seq ?_; refine wc_sr ?_; refine wl_mv rfl rfl ?_; refine wl_bin rfl rfl bin_eql rfl ?_; refine wl_mv rfl rfl ?_
      refine wl_cutV 3 34 (.bool (decide ((i : Int) = 9 ∧ 1 < (x.toNat : Int)))) ?c22 ?_; (case c22 => (dsimp only [List.take]; by_cases hc0 : ((i : Int) = 9); (focus (by_cases hc1 : (1 < (x.toNat : Int)); (focus (apply wl_take; exact rfl; exact rfl; exact rfl; refine bT ?_; (with_reducible assumption); refine wl_mv rfl rfl ?_; apply wl_take; exact rfl; exact rfl; exact rfl; refine bT ?_; (with_reducible assumption); refine wl_bin rfl rfl bin_gtr rfl ?_; apply wl_val; apply opv_pickT; exact rfl; refine bT ?_; (with_reducible assumption); exact rfl; exact rfl; refine wl_nil ?_; refine we_cut _ ⟨rfl, rfl⟩ ⟨congrArg (fun b => some (Value.bool b)) ?e22_0, ?s22_0⟩; (case e22_0 => ((simp [hc0, hc1]; done))); (case s22_0 => (refine And.intro rfl ?_; refine And.intro rfl ?_; refine And.intro rfl ?_; refine And.intro rfl ?_; refine And.intro rfl ?_; refine And.intro rfl ?_; refine And.intro rfl ?_; refine And.intro rfl ?_; refine And.intro rfl ?_; refine And.intro rfl ?_; refine And.intro rfl ?_; refine And.intro rfl ?_; refine And.intro rfl ?_; refine And.intro rfl ?_; refine And.intro rfl ?_; refine And.intro rfl ?_; refine And.intro rfl ?_; refine And.intro rfl ?_; refine And.intro rfl ?_; refine And.intro rfl ?_; refine And.intro rfl ?_; exact True.intro)))); (focus (apply wl_take; exact rfl; exact rfl; exact rfl; refine bT ?_; (with_reducible assumption); refine wl_mv rfl rfl ?_; apply wl_take; exact rfl; exact rfl; exact rfl; refine bT ?_; (with_reducible assumption); refine wl_bin rfl rfl bin_gtr rfl ?_; apply wl_val; apply opv_pickT; exact rfl; refine bT ?_; (with_reducible assumption); exact rfl; exact rfl; refine wl_nil ?_; refine we_cut _ ⟨rfl, rfl⟩ ⟨congrArg (fun b => some (Value.bool b)) ?e22_1, ?s22_1⟩; (case e22_1 => ((simp [hc0, hc1]; done))); (case s22_1 => (refine And.intro rfl ?_; refine And.intro rfl ?_; refine And.intro rfl ?_; refine And.intro rfl ?_; refine And.intro rfl ?_; refine And.intro rfl ?_; refine And.intro rfl ?_; refine And.intro rfl ?_; refine And.intro rfl ?_; refine And.intro rfl ?_; refine And.intro rfl ?_; refine And.intro rfl ?_; refine And.intro rfl ?_; refine And.intro rfl ?_; refine And.intro rfl ?_; refine And.intro rfl ?_; refine And.intro rfl ?_; refine And.intro rfl ?_; refine And.intro rfl ?_; refine And.intro rfl ?_; refine And.intro rfl ?_; exact True.intro)))))); (focus (by_cases hc1 : (1 < (x.toNat : Int)); (focus (apply wl_skip; exact rfl; exact rfl; exact rfl; refine bFn ?_; (with_reducible assumption); exact rfl; apply wl_skip; exact rfl; exact rfl; exact rfl; refine bFn ?_; (with_reducible assumption); exact rfl; apply wl_val; apply opv_pickF; exact rfl; refine bF ?_; (with_reducible assumption); exact rfl; exact rfl; refine wl_nil ?_; refine we_cut _ ⟨rfl, rfl⟩ ⟨congrArg (fun b => some (Value.bool b)) ?e22_2, ?s22_2⟩; (case e22_2 => ((simp [hc0, hc1]; done))); (case s22_2 => (refine And.intro rfl ?_; refine And.intro rfl ?_; refine And.intro rfl ?_; refine And.intro rfl ?_; refine And.intro rfl ?_; refine And.intro rfl ?_; refine And.intro rfl ?_; refine And.intro rfl ?_; refine And.intro rfl ?_; refine And.intro rfl ?_; refine And.intro rfl ?_; refine And.intro rfl ?_; refine And.intro rfl ?_; refine And.intro rfl ?_; refine And.intro rfl ?_; refine And.intro rfl ?_; refine And.intro rfl ?_; refine And.intro rfl ?_; refine And.intro rfl ?_; refine And.intro rfl ?_; refine And.intro rfl ?_; exact True.intro)))); (focus (apply wl_skip; exact rfl; exact rfl; exact rfl; refine bFn ?_; (with_reducible assumption); exact rfl; apply wl_skip; exact rfl; exact rfl; exact rfl; refine bFn ?_; (with_reducible assumption); exact rfl; apply wl_val; apply opv_pickF; exact rfl; refine bF ?_; (with_reducible assumption); exact rfl; exact rfl; refine wl_nil ?_; refine we_cut _ ⟨rfl, rfl⟩ ⟨congrArg (fun b => some (Value.bool b)) ?e22_3, ?s22_3⟩; (case e22_3 => ((simp [hc0, hc1]; done))); (case s22_3 => (refine And.intro rfl ?_; refine And.intro rfl ?_; refine And.intro rfl ?_; refine And.intro rfl ?_; refine And.intro rfl ?_; refine And.intro rfl ?_; refine And.intro rfl ?_; refine And.intro rfl ?_; refine And.intro rfl ?_; refine And.intro rfl ?_; refine And.intro rfl ?_; refine And.intro rfl ?_; refine And.intro rfl ?_; refine And.intro rfl ?_; refine And.intro rfl ?_; refine And.intro rfl ?_; refine And.intro rfl ?_; refine And.intro rfl ?_; refine And.intro rfl ?_; refine And.intro rfl ?_; refine And.intro rfl ?_; exact True.intro)))))))); dsimp only [List.drop]
      refine wl_mv rfl rfl ?_
      refine wl_cutV 7 42 (.bool (decide (((i : Int) = 9 ∧ 1 < (x.toNat : Int)) ∨ ((x.toNat : Int) = 0 ∧ 0 < (i : Int))))) ?c35 ?_; (case c35 => (dsimp only [List.take]; by_cases hc0 : ((i : Int) = 9 ∧ 1 < (x.toNat : Int)); (focus (by_cases hc1 : ((x.toNat : Int) = 0); (focus (by_cases hc2 : (0 < (i : Int)); (focus (apply wl_take; exact rfl; exact rfl; exact rfl; refine bF ?_; omega; refine wl_mv rfl rfl ?_; apply wl_take; exact rfl; exact rfl; exact rfl; refine bF ?_; omega; refine wl_bin rfl rfl bin_eql rfl ?_; apply wl_take; exact rfl; exact rfl; exact rfl; refine bF ?_; omega; refine wl_mv rfl rfl ?_; apply wl_take; exact rfl; exact rfl; exact rfl; refine bT ?_; (with_reducible assumption); refine wl_mv rfl rfl ?_; apply wl_take; exact rfl; exact rfl; exact rfl; refine bT ?_; (with_reducible assumption); refine wl_bin rfl rfl bin_gtr rfl ?_; apply wl_take; exact rfl; exact rfl; exact rfl; refine bF ?_; omega; apply wl_val; apply opv_pickT; exact rfl; refine bT ?_; (with_reducible assumption); exact rfl; exact rfl; apply wl_val; apply opv_pickT; exact rfl; refine bT ?_; (with_reducible assumption); exact rfl; exact rfl; refine wl_nil ?_; refine we_cut _ ⟨rfl, rfl⟩ ⟨congrArg (fun b => some (Value.bool b)) ?e35_0, ?s35_0⟩; (case e35_0 => ((simp [hc0, hc1, hc2]; done))); (case s35_0 => (refine And.intro rfl ?_; refine And.intro rfl ?_; refine And.intro rfl ?_; refine And.intro rfl ?_; refine And.intro rfl ?_; refine And.intro rfl ?_; refine And.intro rfl ?_; refine And.intro rfl ?_; refine And.intro rfl ?_; refine And.intro rfl ?_; refine And.intro rfl ?_; refine And.intro rfl ?_; refine And.intro rfl ?_; refine And.intro rfl ?_; refine And.intro rfl ?_; refine And.intro rfl ?_; refine And.intro rfl ?_; refine And.intro rfl ?_; refine And.intro rfl ?_; refine And.intro rfl ?_; refine And.intro rfl ?_; refine And.intro rfl ?_; refine And.intro rfl ?_; exact True.intro)))); (focus (apply wl_take; exact rfl; exact rfl; exact rfl; refine bF ?_; omega; refine wl_mv rfl rfl ?_; apply wl_take; exact rfl; exact rfl; exact rfl; refine bF ?_; omega; refine wl_bin rfl rfl bin_eql rfl ?_; apply wl_take; exact rfl; exact rfl; exact rfl; refine bF ?_; omega; refine wl_mv rfl rfl ?_; apply wl_take; exact rfl; exact rfl; exact rfl; refine bT ?_; (with_reducible assumption); refine wl_mv rfl rfl ?_; apply wl_take; exact rfl; exact rfl; exact rfl; refine bT ?_; (with_reducible assumption); refine wl_bin rfl rfl bin_gtr rfl ?_; apply wl_take; exact rfl; exact rfl; exact rfl; refine bF ?_; omega; apply wl_val; apply opv_pickT; exact rfl; refine bT ?_; (with_reducible assumption); exact rfl; exact rfl; apply wl_val; apply opv_pickT; exact rfl; refine bT ?_; (with_reducible assumption); exact rfl; exact rfl; refine wl_nil ?_; refine we_cut _ ⟨rfl, rfl⟩ ⟨congrArg (fun b => some (Value.bool b)) ?e35_1, ?s35_1⟩; (case e35_1 => ((simp [hc0, hc1, hc2]; done))); (case s35_1 => (refine And.intro rfl ?_; refine And.intro rfl ?_; refine And.intro rfl ?_; refine And.intro rfl ?_; refine And.intro rfl ?_; refine And.intro rfl ?_; refine And.intro rfl ?_; refine And.intro rfl ?_; refine And.intro rfl ?_; refine And.intro rfl ?_; refine And.intro rfl ?_; refine And.intro rfl ?_; refine And.intro rfl ?_; refine And.intro rfl ?_; refine And.intro rfl ?_; refine And.intro rfl ?_; refine And.intro rfl ?_; refine And.intro rfl ?_; refine And.intro rfl ?_; refine And.intro rfl ?_; refine And.intro rfl ?_; refine And.intro rfl ?_; refine And.intro rfl ?_; exact True.intro)))))); (focus (by_cases hc2 : (0 < (i : Int)); (focus (apply wl_skip; exact rfl; exact rfl; exact rfl; refine bTn ?_; (with_reducible assumption); exact rfl; apply wl_skip; exact rfl; exact rfl; exact rfl; refine bTn ?_; (with_reducible assumption); exact rfl; apply wl_skip; exact rfl; exact rfl; exact rfl; refine bTn ?_; (with_reducible assumption); exact rfl; apply wl_skipU; exact rfl; exact rfl; exact rfl; exact rfl; apply wl_skipU; exact rfl; exact rfl; exact rfl; exact rfl; apply wl_skip; exact rfl; exact rfl; exact rfl; refine bTn ?_; (with_reducible assumption); exact rfl; apply wl_val; apply opv_pickT; exact rfl; refine bT ?_; (with_reducible assumption); exact rfl; exact rfl; refine wl_nil ?_; refine we_cut _ ⟨rfl, rfl⟩ ⟨congrArg (fun b => some (Value.bool b)) ?e35_2, ?s35_2⟩; (case e35_2 => ((simp [hc0, hc1, hc2]; done))); (case s35_2 => (refine And.intro rfl ?_; refine And.intro rfl ?_; refine And.intro rfl ?_; refine And.intro rfl ?_; refine And.intro rfl ?_; refine And.intro rfl ?_; refine And.intro rfl ?_; refine And.intro rfl ?_; refine And.intro rfl ?_; refine And.intro rfl ?_; refine And.intro rfl ?_; refine And.intro rfl ?_; refine And.intro rfl ?_; refine And.intro rfl ?_; refine And.intro rfl ?_; refine And.intro rfl ?_; refine And.intro rfl ?_; refine And.intro rfl ?_; refine And.intro rfl ?_; refine And.intro rfl ?_; refine And.intro rfl ?_; refine And.intro rfl ?_; refine And.intro rfl ?_; exact True.intro)))); (focus (apply wl_take; exact rfl; exact rfl; exact rfl; refine bF ?_; omega; refine wl_mv rfl rfl ?_; apply wl_take; exact rfl; exact rfl; exact rfl; refine bF ?_; omega; refine wl_bin rfl rfl bin_eql rfl ?_; apply wl_take; exact rfl; exact rfl; exact rfl; refine bF ?_; omega; refine wl_mv rfl rfl ?_; apply wl_take; exact rfl; exact rfl; exact rfl; refine bT ?_; omega; refine wl_mv rfl rfl ?_; apply wl_take; exact rfl; exact rfl; exact rfl; refine bT ?_; omega; refine wl_bin rfl rfl bin_gtr rfl ?_; apply wl_take; exact rfl; exact rfl; exact rfl; refine bF ?_; omega; apply wl_val; apply opv_pickT; exact rfl; refine bT ?_; omega; exact rfl; exact rfl; apply wl_val; apply opv_pickT; exact rfl; refine bT ?_; (with_reducible assumption); exact rfl; exact rfl; refine wl_nil ?_; refine we_cut _ ⟨rfl, rfl⟩ ⟨congrArg (fun b => some (Value.bool b)) ?e35_3, ?s35_3⟩; (case e35_3 => ((simp [hc0, hc1, hc2]; done))); (case s35_3 => (refine And.intro rfl ?_; refine And.intro rfl ?_; refine And.intro rfl ?_; refine And.intro rfl ?_; refine And.intro rfl ?_; refine And.intro rfl ?_; refine And.intro rfl ?_; refine And.intro rfl ?_; refine And.intro rfl ?_; refine And.intro rfl ?_; refine And.intro rfl ?_; refine And.intro rfl ?_; refine And.intro rfl ?_; refine And.intro rfl ?_; refine And.intro rfl ?_; refine And.intro rfl ?_; refine And.intro rfl ?_; refine And.intro rfl ?_; refine And.intro rfl ?_; refine And.intro rfl ?_; refine And.intro rfl ?_; refine And.intro rfl ?_; refine And.intro rfl ?_; exact True.intro)))))))); (focus (by_cases hc1 : ((x.toNat : Int) = 0); (focus (by_cases hc2 : (0 < (i : Int)); (focus (apply wl_take; exact rfl; exact rfl; exact rfl; refine bF ?_; (with_reducible assumption); refine wl_mv rfl rfl ?_; apply wl_take; exact rfl; exact rfl; exact rfl; refine bF ?_; (with_reducible assumption); refine wl_bin rfl rfl bin_eql rfl ?_; apply wl_take; exact rfl; exact rfl; exact rfl; refine bF ?_; (with_reducible assumption); refine wl_mv rfl rfl ?_; apply wl_take; exact rfl; exact rfl; exact rfl; refine bT ?_; (with_reducible assumption); refine wl_mv rfl rfl ?_; apply wl_take; exact rfl; exact rfl; exact rfl; refine bT ?_; (with_reducible assumption); refine wl_bin rfl rfl bin_gtr rfl ?_; apply wl_take; exact rfl; exact rfl; exact rfl; refine bF ?_; (with_reducible assumption); apply wl_val; apply opv_pickT; exact rfl; refine bT ?_; (with_reducible assumption); exact rfl; exact rfl; apply wl_val; apply opv_pickF; exact rfl; refine bF ?_; (with_reducible assumption); exact rfl; exact rfl; refine wl_nil ?_; refine we_cut _ ⟨rfl, rfl⟩ ⟨congrArg (fun b => some (Value.bool b)) ?e35_4, ?s35_4⟩; (case e35_4 => ((simp [hc0, hc1, hc2]; done))); (case s35_4 => (refine And.intro rfl ?_; refine And.intro rfl ?_; refine And.intro rfl ?_; refine And.intro rfl ?_; refine And.intro rfl ?_; refine And.intro rfl ?_; refine And.intro rfl ?_; refine And.intro rfl ?_; refine And.intro rfl ?_; refine And.intro rfl ?_; refine And.intro rfl ?_; refine And.intro rfl ?_; refine And.intro rfl ?_; refine And.intro rfl ?_; refine And.intro rfl ?_; refine And.intro rfl ?_; refine And.intro rfl ?_; refine And.intro rfl ?_; refine And.intro rfl ?_; refine And.intro rfl ?_; refine And.intro rfl ?_; refine And.intro rfl ?_; refine And.intro rfl ?_; exact True.intro)))); (focus (apply wl_take; exact rfl; exact rfl; exact rfl; refine bF ?_; (with_reducible assumption); refine wl_mv rfl rfl ?_; apply wl_take; exact rfl; exact rfl; exact rfl; refine bF ?_; (with_reducible assumption); refine wl_bin rfl rfl bin_eql rfl ?_; apply wl_take; exact rfl; exact rfl; exact rfl; refine bF ?_; (with_reducible assumption); refine wl_mv rfl rfl ?_; apply wl_take; exact rfl; exact rfl; exact rfl; refine bT ?_; (with_reducible assumption); refine wl_mv rfl rfl ?_; apply wl_take; exact rfl; exact rfl; exact rfl; refine bT ?_; (with_reducible assumption); refine wl_bin rfl rfl bin_gtr rfl ?_; apply wl_take; exact rfl; exact rfl; exact rfl; refine bF ?_; (with_reducible assumption); apply wl_val; apply opv_pickT; exact rfl; refine bT ?_; (with_reducible assumption); exact rfl; exact rfl; apply wl_val; apply opv_pickF; exact rfl; refine bF ?_; (with_reducible assumption); exact rfl; exact rfl; refine wl_nil ?_; refine we_cut _ ⟨rfl, rfl⟩ ⟨congrArg (fun b => some (Value.bool b)) ?e35_5, ?s35_5⟩; (case e35_5 => ((simp [hc0, hc1, hc2]; done))); (case s35_5 => (refine And.intro rfl ?_; refine And.intro rfl ?_; refine And.intro rfl ?_; refine And.intro rfl ?_; refine And.intro rfl ?_; refine And.intro rfl ?_; refine And.intro rfl ?_; refine And.intro rfl ?_; refine And.intro rfl ?_; refine And.intro rfl ?_; refine And.intro rfl ?_; refine And.intro rfl ?_; refine And.intro rfl ?_; refine And.intro rfl ?_; refine And.intro rfl ?_; refine And.intro rfl ?_; refine And.intro rfl ?_; refine And.intro rfl ?_; refine And.intro rfl ?_; refine And.intro rfl ?_; refine And.intro rfl ?_; refine And.intro rfl ?_; refine And.intro rfl ?_; exact True.intro)))))); (focus (by_cases hc2 : (0 < (i : Int)); (focus (apply wl_take; exact rfl; exact rfl; exact rfl; refine bF ?_; (with_reducible assumption); refine wl_mv rfl rfl ?_; apply wl_take; exact rfl; exact rfl; exact rfl; refine bF ?_; (with_reducible assumption); refine wl_bin rfl rfl bin_eql rfl ?_; apply wl_take; exact rfl; exact rfl; exact rfl; refine bF ?_; (with_reducible assumption); refine wl_mv rfl rfl ?_; apply wl_skip; exact rfl; exact rfl; exact rfl; refine bFn ?_; (with_reducible assumption); exact rfl; apply wl_skip; exact rfl; exact rfl; exact rfl; refine bFn ?_; (with_reducible assumption); exact rfl; apply wl_take; exact rfl; exact rfl; exact rfl; refine bF ?_; (with_reducible assumption); apply wl_val; apply opv_pickF; exact rfl; refine bF ?_; (with_reducible assumption); exact rfl; exact rfl; apply wl_val; apply opv_pickF; exact rfl; refine bF ?_; (with_reducible assumption); exact rfl; exact rfl; refine wl_nil ?_; refine we_cut _ ⟨rfl, rfl⟩ ⟨congrArg (fun b => some (Value.bool b)) ?e35_6, ?s35_6⟩; (case e35_6 => ((rw [Bool.eq_iff_iff]; simp only [decide_eq_true_eq, Bool.false_eq_true, true_iff, false_iff]; omega))); (case s35_6 => (refine And.intro rfl ?_; refine And.intro rfl ?_; refine And.intro rfl ?_; refine And.intro rfl ?_; refine And.intro rfl ?_; refine And.intro rfl ?_; refine And.intro rfl ?_; refine And.intro rfl ?_; refine And.intro rfl ?_; refine And.intro rfl ?_; refine And.intro rfl ?_; refine And.intro rfl ?_; refine And.intro rfl ?_; refine And.intro rfl ?_; refine And.intro rfl ?_; refine And.intro rfl ?_; refine And.intro rfl ?_; refine And.intro rfl ?_; refine And.intro rfl ?_; refine And.intro rfl ?_; refine And.intro rfl ?_; refine And.intro rfl ?_; refine And.intro rfl ?_; exact True.intro)))); (focus (apply wl_take; exact rfl; exact rfl; exact rfl; refine bF ?_; (with_reducible assumption); refine wl_mv rfl rfl ?_; apply wl_take; exact rfl; exact rfl; exact rfl; refine bF ?_; (with_reducible assumption); refine wl_bin rfl rfl bin_eql rfl ?_; apply wl_take; exact rfl; exact rfl; exact rfl; refine bF ?_; (with_reducible assumption); refine wl_mv rfl rfl ?_; apply wl_skip; exact rfl; exact rfl; exact rfl; refine bFn ?_; (with_reducible assumption); exact rfl; apply wl_skip; exact rfl; exact rfl; exact rfl; refine bFn ?_; (with_reducible assumption); exact rfl; apply wl_take; exact rfl; exact rfl; exact rfl; refine bF ?_; (with_reducible assumption); apply wl_val; apply opv_pickF; exact rfl; refine bF ?_; (with_reducible assumption); exact rfl; exact rfl; apply wl_val; apply opv_pickF; exact rfl; refine bF ?_; (with_reducible assumption); exact rfl; exact rfl; refine wl_nil ?_; refine we_cut _ ⟨rfl, rfl⟩ ⟨congrArg (fun b => some (Value.bool b)) ?e35_7, ?s35_7⟩; (case e35_7 => ((rw [Bool.eq_iff_iff]; simp only [decide_eq_true_eq, Bool.false_eq_true, true_iff, false_iff]; omega))); (case s35_7 => (refine And.intro rfl ?_; refine And.intro rfl ?_; refine And.intro rfl ?_; refine And.intro rfl ?_; refine And.intro rfl ?_; refine And.intro rfl ?_; refine And.intro rfl ?_; refine And.intro rfl ?_; refine And.intro rfl ?_; refine And.intro rfl ?_; refine And.intro rfl ?_; refine And.intro rfl ?_; refine And.intro rfl ?_; refine And.intro rfl ?_; refine And.intro rfl ?_; refine And.intro rfl ?_; refine And.intro rfl ?_; refine And.intro rfl ?_; refine And.intro rfl ?_; refine And.intro rfl ?_; refine And.intro rfl ?_; refine And.intro rfl ?_; refine And.intro rfl ?_; exact True.intro)))))))))); dsimp only [List.drop]
      refine wl_ns ?_
      refine wc_cond rfl (fun h2 => ?_) (fun h2 => ?_)
      · refine wc_sr ?_; refine wl_as rfl rfl ?_; refine wl_as rfl rfl ?_; refine wl_as rfl rfl ?_; refine wl_ns ?_; refine wc_ret ?_; refine we_seq_ret ?_; refine we_block_ret ?_; refine we_seq_ret ?_; refine we_loop_ret ?_; refine we_block_ret ?_; refine we_seq_ret ?_
        have e := getU_bad hq (heq.trans (by rw [hdrop]; exact getAux_form (by omega)))
        exact we_ret3 rfl rfl rfl rfl ⟨_, rfl, by rw [e]; rfl, Below.refl _ _⟩
      · have h3 : ¬ ((i = 9 ∧ 1 < x.toNat) ∨ (x.toNat = 0 ∧ 0 < i)) := by omega
        refine wc_skip ?_; refine we_seq ?_; refine wc_sr ?_; refine wl_mv rfl rfl ?_; refine wl_mv rfl rfl ?_
        refine wl_val (opv_bin (b := .int .u64 (128 : Nat)) rfl rfl (bin_andNot rfl (Nat.lt_trans hx256 (by decide)) (by decide))) rfl ?_
        refine wl_mv rfl rfl ?_
        refine wl_val (opv_bin (a := .int .i64 (7 : Nat)) rfl rfl (bin_mulN (by omega))) rfl ?_
        skip
        refine wl_val (opv_bin rfl rfl (bin_shl rfl)) rfl ?_
        have e9 : (128 : Nat) ^ i ≤ 128 ^ 9 := Nat.pow_le_pow_right (by decide) hi
        have hsum := sum_lt hn hi (x := x.toNat) (by omega)
        have hn64 : n < 2 ^ IntKind.u64.bits := by rw [pow128_9] at e9; simp only [IntKind.bits]; omega
        have hor : (n ||| (x.toNat &&& 2 ^ IntKind.u64.bits - 1 - 128) * 2 ^ (7 * i) % 2 ^ IntKind.u64.bits) = n + x.toNat % 128 * 128 ^ i := by
          rw [show 2 ^ IntKind.u64.bits - 1 - 128 = 18446744073709551615 - 128 from rfl, andNot128]
          have e : (128 : Nat) ^ i = 2 ^ (7 * i) := by rw [Nat.pow_mul]
          rw [← e, Nat.mod_eq_of_lt (by simp only [IntKind.bits]; omega), e, or_shift hn, e]
        refine wl_val (opv_bin rfl rfl ((bin_or rfl hn64 (Nat.mod_lt _ (by decide))).to (by rw [hor]))) rfl ?_
        refine wl_as rfl rfl ?_; refine wl_ns ?_; refine wc_sr ?_; refine wl_mv rfl rfl ?_; refine wl_bin rfl rfl bin_lss rfl ?_; refine wl_ns ?_
        refine wc_cond rfl (fun h4 => ?_) (fun h4 => ?_)
        · refine wc_sr ?_; refine wl_mv rfl rfl ?_; refine wl_mv rfl rfl ?_; refine wl_mv rfl rfl ?_; apply wl_val; apply opv_bin; exact rfl; exact rfl; exact bin_add64 (by omega); exact rfl; apply wl_val; apply opv_bin; exact rfl; exact rfl; exact bin_add64 (by omega); exact rfl; refine wl_as rfl rfl ?_; refine wl_as rfl rfl ?_; refine wl_as rfl rfl ?_; refine wl_ns ?_; refine wc_ret ?_; refine we_block_ret ?_; refine we_seq_ret ?_; refine we_loop_ret ?_; refine we_block_ret ?_; refine we_seq_ret ?_
          have e := getU_ok hq (heq.trans (by rw [hdrop]; exact getAux_last h3 (by omega)))
          refine we_ret3 rfl rfl rfl rfl ⟨_, rfl, ?_, Below.refl _ _⟩
          rw [e]
          have : ((q : Int) + ↑(i + 1)) = q + i + 1 := by omega
          rw [this]; rfl
        · have hi9 : i ≤ 8 := by omega
          refine wc_skip ?_; refine we_block_norm ?_; refine we_seq ?_; refine wc_region ?_; refine wl_mv rfl rfl ?_; apply wl_val; apply opv_bin; exact rfl; exact rfl; exact bin_add64 (by omega); exact rfl; refine wl_as rfl rfl ?_; refine wl_nil ?_
          refine we_loop [(0, .slice A xs.length c), (1, .int .i64 (q : Int)), (7, .int .u64 ((n + x.toNat % 128 * 128 ^ i : Nat) : Int)), (8, .int .i64 ((i + 1 : Nat) : Int))] (xs.length - (i + 1)) ⟨i + 1, _, rfl, by omega, by omega, group_lt hn (Nat.mod_lt _ (by decide)), ?_, rfl, rfl⟩ (by omega) ⟨rfl, rfl, rfl, rfl, trivial⟩
          rw [heq, hdrop, getAux_step h3 (by omega)]; rfl
    · refine wc_exit ?_; refine we_seq_exit ?_; refine we_loop_exit ?_; refine we_block_exit ?_; refine we_seq ?_; refine wc_sr ?_; refine wl_as rfl rfl ?_; refine wl_as rfl rfl ?_; refine wl_as rfl rfl ?_; refine wl_ns ?_; refine wc_ret ?_
      have hqe : q + i = xs.length := by omega
      have e := getU_bad hq (heq.trans (by rw [hqe, List.drop_length]; rfl))
      exact we_ret3 rfl rfl rfl rfl ⟨_, rfl, by rw [e]; rfl, Below.refl _ _⟩

theorem getU_at {A : Option Addr} {n c : Nat} {xs : List UInt8} {p : Int} {w : World} {v e : Nat} {x : Int} (h : getU xs p = (v, x, e)) (hr : RdB w A xs) (hn : xs.length = n) (hl : xs.length ≤ maxLen) (hp : -9223372036854775808 ≤ p ∧ p ≤ 9223372036854775807) :
    CallsV Try.prog 59 #[.slice A n c, .int .i64 p] w fun u w' => u = .tuple #[.int .u64 (v : Int), .int .i64 x, .int .i64 (e : Int)] ∧ Below w.heap.size w w' := by
  have := getU_any (c := c) hr hn hl hp
  rw [h] at this
  exact this
end Go.Proofs.Ytdgagffieobiiaa

/-
  Plain laws of lists: tuples of written lists, frames, numbers of eight bytes. No program in sight.
-/
namespace Go.Proofs.Ytdgagffieobiiaa

/-! ### Tuples -/

theorem take_getR {α : Type} {l : List α} {k : Nat} {b : α} (h : l[k]? = some b) : l.take (k + 1) = l.take k ++ [b] := by
  rw [List.take_add_one, h]; rfl
theorem flat_mem : ∀ {l : List (List UInt8)} {k : Nat} {x : List UInt8}, l[k]? = some x → x.length ≤ l.flatten.length
  | [], _, _, h => by simp at h
  | y :: l, 0, x, h => by
    simp only [List.getElem?_cons_zero, Option.some.injEq] at h
    subst h
    rw [List.flatten_cons, List.length_append]; omega
  | y :: l, k + 1, x, h => by
    simp only [List.getElem?_cons_succ] at h
    have := flat_mem h
    rw [List.flatten_cons, List.length_append]; omega
end Go.Proofs.Ytdgagffieobiiaa

/-
  Walks over Copies and Equals of the references.
-/
namespace Go.Proofs.Ytdgagffieobiiaa
open Go.RowKit

theorem equals_any {A B : Option Addr} {n m c d : Nat} {xs ys : List (List UInt8)} {w : World} (hx : RdBB w A xs) (hy : RdBB w B ys) (hn : xs.length = n) (hm : ys.length = m) (hlx : xs.flatten.length ≤ maxLen) (hl2 : xs.length ≤ maxLen) :
    CallsV Try.prog 16 #[.slice A n c, .slice B m d] w fun v w' => v = .bool (decide (xs = ys)) ∧ Below w.heap.size w w' := by
  subst hn hm
  simp only [maxLen] at hlx hl2
  refine calls_in (N := _) Try.func16 rfl Try.ntmps16 rfl ?_; show WC _ _ _ _ _ _
  refine wc_sr ?_; refine wl_as rfl rfl ?_; refine wl_ns ?_; refine wc_seq ?_; refine wc_sr ?_; refine wl_mv rfl rfl ?_; apply wl_val; apply opv_len; exact rfl; exact tyBB.sl; exact rfl; refine wl_mv rfl rfl ?_; apply wl_val; apply opv_len; exact rfl; exact tyBB.sl; exact rfl; refine wl_bin rfl rfl bin_neq rfl ?_; refine wl_ns ?_
  refine wc_cond rfl (fun h => ?_) (fun h => ?_)
  · refine wc_sr ?_; refine wl_as rfl rfl ?_; refine wl_ns ?_; refine wc_ret ?_; refine we_seq_ret ?_
    refine we_ret1 rfl rfl ⟨_, rfl, ?_, Below.refl _ _⟩
    have hne : ¬ xs = ys := fun e => h (by rw [e])
    simp [hne]
  · have hlen : xs.length = ys.length := by omega
    refine wc_skip ?_; refine we_seq ?_; refine wc_seq ?_; refine wc_sr ?_; refine wl_as rfl rfl ?_; refine wl_ns ?_; refine wc_block ?_
    refine wc_loop (fun L wr m => ∃ k : Nat, L = [(0, .slice A xs.length c), (1, .slice B ys.length d), (5, .int .i64 k)] ∧ k ≤ xs.length ∧ xs.take k = ys.take k ∧ Below w.heap.size w wr ∧ m = xs.length - k)
      [(0, .slice A xs.length c), (1, .slice B ys.length d), (5, .int .i64 (0 : Nat))] xs.length ⟨0, rfl, by omega, rfl, Below.refl _ _, rfl⟩ ⟨rfl, rfl, rfl, trivial⟩ ?_
    rintro _ wr m ⟨k, rfl, hk, heq, hbel, rfl⟩
    have hrx := RdBB.below hx hbel
    have hry := RdBB.below hy hbel
    refine wc_seq ?_; refine wc_sr ?_; refine wl_mv rfl rfl ?_; refine wl_mv rfl rfl ?_; apply wl_val; apply opv_len; exact rfl; exact tyBB.sl; exact rfl; refine wl_bin rfl rfl bin_lss rfl ?_; refine wl_ns ?_
    refine wc_cond rfl (fun h1 => ?_) (fun h1 => ?_)
    · obtain ⟨x, hxk⟩ : ∃ x, xs[k]? = some x := ⟨_, List.getElem?_eq_getElem (by omega)⟩
      obtain ⟨y, hyk⟩ : ∃ y, ys[k]? = some y := ⟨_, List.getElem?_eq_getElem (by omega)⟩
      obtain ⟨vs, X, cx, hv, hvk, rx, hcx⟩ := hrx.at hxk
      obtain ⟨us, Y, cy, hu, huk, ry, hcy⟩ := hry.at hyk
      have hxm := flat_mem hxk
      refine wc_skip ?_; refine we_seq ?_; refine wc_seq ?_; refine wc_block ?_; refine wc_seq ?_
      refine wc_drawB mixed (by kernel_rfl) ?_
      apply wq_val; intro _ hw_; apply opv_move; exact rfl; exact rfl; apply wq_val; intro _ hw_; apply opv_move; exact rfl; exact rfl; apply wq_elK (T := tyBB) (hr := hv) (hb := hvk); exact rfl; exact rfl; exact rfl; exact rfl; exact rfl; intro _; apply wq_val; intro _ hw_; apply opv_move; exact rfl; exact rfl; apply wq_val; intro _ hw_; apply opv_move; exact rfl; exact rfl; apply wq_elK (T := tyBB) (hr := hu) (hb := huk); exact rfl; exact rfl; exact rfl; exact rfl; exact rfl; intro _
      refine wq_call ok_caissonref01_Equal (fun w hw => (equal_any (RdB.below rx hw) (RdB.below ry hw) rfl rfl (by simp only [maxLen]; omega)).mono (fun v w' h => ⟨h.1, hw.trans (h.2.mono hw.size)⟩)) ⟨rfl, rfl, trivial⟩ rfl ?_
      apply wq_val; intro _ hw_; apply opv_notD; exact rfl; exact rfl; refine wq_nil fun w1 hw1 => ?_
      have hb1 := hbel.trans (hw1.mono hbel.size)
      refine we_seq ?_
      refine wc_cond rfl (fun h2 => ?_) (fun h2 => ?_)
      · refine wc_sr ?_; refine wl_as rfl rfl ?_; refine wl_ns ?_; refine wc_ret ?_; refine we_block_ret ?_; refine we_seq_ret ?_; refine we_loop_ret ?_; refine we_block_ret ?_; refine we_seq_ret ?_
        refine we_ret1 rfl rfl ⟨_, rfl, ?_, hb1⟩
        have hne : ¬ xs = ys := fun e => by subst e; rw [hxk] at hyk; cases hyk; exact h2 rfl
        simp [hne]
      · refine wc_skip ?_; refine we_block_norm ?_; refine we_seq ?_; refine wc_region ?_; refine wl_mv rfl rfl ?_; apply wl_val; apply opv_bin; exact rfl; exact rfl; exact bin_add64 (by omega); exact rfl; refine wl_as rfl rfl ?_; refine wl_nil ?_
        refine we_loop [(0, .slice A xs.length c), (1, .slice B ys.length d), (5, .int .i64 (k + 1 : Nat))] (xs.length - (k + 1)) ⟨k + 1, rfl, by omega, ?_, hb1, rfl⟩ (by omega) ⟨rfl, rfl, by simp [lookT], trivial⟩
        have : x = y := Decidable.not_not.1 h2
        rw [take_getR hxk, take_getR hyk, heq, this]
    · refine wc_exit ?_; refine we_seq_exit ?_; refine we_loop_exit ?_; refine we_block_exit ?_; refine we_seq ?_; refine wc_sr ?_; refine wl_as rfl rfl ?_; refine wl_ns ?_; refine wc_ret ?_
      refine we_ret1 rfl rfl ⟨_, rfl, ?_, hbel⟩
      have hkl : k = xs.length := by omega
      rw [hkl, List.take_length, hlen, List.take_length] at heq
      simp [heq]
theorem equals_yes {A B : Option Addr} {n m c d : Nat} {xs ys : List (List UInt8)} {w : World} (he : xs = ys) (hx : RdBB w A xs) (hy : RdBB w B ys) (hn : xs.length = n) (hm : ys.length = m) (hlx : xs.flatten.length ≤ maxLen) (hl2 : xs.length ≤ maxLen) :
    CallsV Try.prog 16 #[.slice A n c, .slice B m d] w fun v w' => v = .bool true ∧ Below w.heap.size w w' :=
  (equals_any hx hy hn hm hlx hl2).mono fun v w' ⟨h, hb⟩ => ⟨by rw [h]; simp [he], hb⟩
end Go.Proofs.Ytdgagffieobiiaa

/-
  Plain laws of frames. No program in sight.
-/
namespace Go.Proofs.Ytdgagffieobiiaa

def framed (l : List (List UInt8)) : List UInt8 := l.flatMap fun r => putU r.length ++ r
/-- The parts behind place q; out: those ahead of it. -/
def partsF : Nat → List UInt8 → Nat → List (List UInt8) → List (List UInt8) × Nat
  | 0, _, _, out => (out, 0)
  | f + 1, b, q, out =>
    if b.length ≤ q then (out, 0)
    else if (getU b q).2.2 = 0 then
      if b.length < (getU b q).2.1.toNat + (getU b q).1 then ([], 5)
      else partsF f b ((getU b q).2.1.toNat + (getU b q).1) (out ++ [(b.take ((getU b q).2.1.toNat + (getU b q).1)).drop (getU b q).2.1.toNat])
    else ([], (getU b q).2.2)
def parts (b : List UInt8) : List (List UInt8) × Nat := partsF b.length b 0 []

theorem putU_pos (n : Nat) : 0 < (putU n).length := by
  rw [putU]; split <;> simp
theorem getU_next {b : List UInt8} {q n : Nat} {x : Int} (h : getU b q = (n, x, 0)) : ∃ k : Nat, x = k ∧ q < k ∧ k ≤ b.length := by
  obtain ⟨q', k, hq, rfl, h1, h2, h3, _⟩ := getU_inv h
  obtain rfl : q = q' := by omega
  have := congrArg List.length h3
  have hp := putU_pos n
  refine ⟨k, rfl, ?_, h2⟩
  simp at this; omega
theorem partsF_end {f : Nat} {b : List UInt8} {q : Nat} {out : List (List UInt8)} (h : b.length ≤ q) : partsF f b q out = (out, 0) := by
  cases f with
  | zero => rfl
  | succ f => rw [partsF, if_pos h]
theorem partsF_err {f : Nat} {b : List UInt8} {q n e : Nat} {x : Int} {out : List (List UInt8)} (h : ¬ b.length ≤ q) (hu : getU b q = (n, x, e)) (he : ¬ e = 0) : partsF (f + 1) b q out = ([], e) := by
  rw [partsF, if_neg h, hu, if_neg he]
theorem partsF_short {f : Nat} {b : List UInt8} {q n k : Nat} {out : List (List UInt8)} (h : ¬ b.length ≤ q) (hu : getU b q = (n, (k : Int), 0)) (hs : b.length < k + n) : partsF (f + 1) b q out = ([], 5) := by
  rw [partsF, if_neg h, hu, if_pos rfl]
  simp only [Int.toNat_natCast]
  rw [if_pos hs]
theorem partsF_step {f : Nat} {b : List UInt8} {q n k : Nat} {out : List (List UInt8)} (h : ¬ b.length ≤ q) (hu : getU b q = (n, (k : Int), 0)) (hs : ¬ b.length < k + n) : partsF (f + 1) b q out = partsF f b (k + n) (out ++ [(b.take (k + n)).drop k]) := by
  rw [partsF, if_neg h, hu, if_pos rfl]
  simp only [Int.toNat_natCast]
  rw [if_neg hs]
/-- How much a list's parts hold, and what error there is. -/
theorem partsF_size : ∀ (f : Nat) (b : List UInt8) (q : Nat) (out : List (List UInt8)), q ≤ b.length → out.length + out.flatten.length ≤ q → (partsF f b q out).1.length + (partsF f b q out).1.flatten.length ≤ b.length
  | 0, b, q, out, hq, h => by simp only [partsF]; omega
  | f + 1, b, q, out, hq, h => by
    by_cases h1 : b.length ≤ q
    · rw [partsF_end h1]; exact Nat.le_trans h hq
    · obtain ⟨n, x, e, hu⟩ : ∃ n x e, getU b q = (n, x, e) := ⟨_, _, _, rfl⟩
      by_cases he : e = 0
      · subst he
        obtain ⟨k, rfl, h2, h3⟩ := getU_next hu
        by_cases hs : b.length < k + n
        · rw [partsF_short h1 hu hs]; simp
        · rw [partsF_step h1 hu hs]
          refine partsF_size f b _ _ (by omega) ?_
          simp only [List.flatten_append, List.flatten_cons, List.flatten_nil, List.length_append, List.length_cons, List.length_nil, List.length_drop, List.length_take]
          omega
      · rw [partsF_err h1 hu he]; simp
theorem getU_mid {pre rest : List UInt8} {n : Nat} (hn : n < 2 ^ 64) : getU (pre ++ (putU n ++ rest)) pre.length = (n, ((pre.length + (putU n).length : Nat) : Int), 0) := by
  have h := getAux_putU rest n 0 0 (by decide) hn (by omega) (.inl rfl)
  have := getU_ok (b := pre ++ (putU n ++ rest)) (q := pre.length) (n := n) (k := (putU n).length) (by simp) (by rw [List.drop_left, h]; simp)
  rw [this]; simp
theorem partsF_framed : ∀ (l : List (List UInt8)) (f : Nat) (pre : List UInt8) (out : List (List UInt8)), (∀ r ∈ l, r.length < 2 ^ 64) → (framed l).length ≤ f → partsF f (pre ++ framed l) pre.length out = (out ++ l, 0)
  | [], f, pre, out, _, _ => by rw [partsF_end (by simp [framed])]; simp
  | r :: l, f, pre, out, hr, hf => by
    have e : framed (r :: l) = putU r.length ++ (r ++ framed l) := by simp [framed]
    rw [e] at hf ⊢
    have hp := putU_pos r.length
    simp only [List.length_append] at hf
    obtain ⟨f, rfl⟩ : ∃ g, f = g + 1 := ⟨f - 1, by omega⟩
    have hg := getU_mid (pre := pre) (rest := r ++ framed l) (hr r (by simp))
    rw [partsF_step (by simp; omega) hg (by simp only [List.length_append]; omega)]
    have hb : pre ++ (putU r.length ++ (r ++ framed l)) = (pre ++ putU r.length ++ r) ++ framed l := by simp
    have hlen : (pre ++ putU r.length ++ r).length = pre.length + (putU r.length).length + r.length := by simp only [List.length_append]
    have hcut : ((pre ++ (putU r.length ++ (r ++ framed l))).take (pre.length + (putU r.length).length + r.length)).drop (pre.length + (putU r.length).length) = r := by
      rw [hb, ← hlen, List.take_left, show pre.length + (putU r.length).length = (pre ++ putU r.length).length by simp, List.drop_left]
    rw [hcut, hb, ← hlen, partsF_framed l f _ _ (fun x hx => hr x (by simp [hx])) (by omega)]
    simp
theorem parts_framed {l : List (List UInt8)} (h : ∀ r ∈ l, r.length < 2 ^ 64) : parts (framed l) = (l, 0) := by
  have := partsF_framed l (framed l).length [] [] h (Nat.le_refl _)
  simpa [parts] using this
theorem framed_take {l : List (List UInt8)} {k : Nat} {x : List UInt8} (h : l[k]? = some x) : framed (l.take (k + 1)) = framed (l.take k) ++ putU x.length ++ x := by
  rw [take_getR h]; simp [framed]
theorem framed_length : ∀ (l : List (List UInt8)), (∀ r ∈ l, r.length < 2 ^ 64) → (framed l).length ≤ l.flatten.length + 10 * l.length
  | [], _ => by simp [framed]
  | x :: l, h => by
    have h1 := framed_length l (fun r hr => h r (by simp [hr]))
    have h2 := putU_le (h x (by simp))
    simp only [framed, List.flatMap_cons, List.length_append, List.flatten_cons, List.length_cons] at h1 ⊢
    omega
theorem framed_take_le (l : List (List UInt8)) (k : Nat) : (framed (l.take k)).length ≤ (framed l).length := by
  have : framed l = framed (l.take k) ++ framed (l.drop k) := by
    rw [framed, framed, framed, ← List.flatMap_append, List.take_append_drop]
  rw [this, List.length_append]; omega
theorem mem_flat {l : List (List UInt8)} {x : List UInt8} (h : x ∈ l) : x.length ≤ l.flatten.length := by
  obtain ⟨k, hk, rfl⟩ := List.getElem_of_mem h
  exact flat_mem (List.getElem?_eq_getElem hk)
end Go.Proofs.Ytdgagffieobiiaa

/-
  Walks over Frame and Parts of the program and of the references.
-/
namespace Go.Proofs.Ytdgagffieobiiaa
open Go.RowKit

theorem frame_any {A : Option Addr} {n c : Nat} {rows : List (List UInt8)} {w : World} (hr : RdBB w A rows) (hn : rows.length = n) (hl : rows.flatten.length + 10 * rows.length ≤ 17592186044416) : CallsV Try.prog 43 #[.slice A n c] w (RetB w (framed rows)) := by
  subst hn
  have hfl := framed_length rows (fun r h => by have := mem_flat h; omega)
  refine calls_in (N := _) Try.func43 rfl Try.ntmps43 rfl ?_; show WC _ _ _ _ _ _
  refine wc_sr ?_; refine wl_as rfl rfl ?_; refine wl_ns ?_; refine wc_sr ?_; refine wl_as rfl rfl ?_; refine wl_ns ?_; refine wc_seq ?_; refine wc_sr ?_; refine wl_mv rfl rfl ?_; apply wl_val; apply opv_len; exact rfl; exact tyBB.sl; exact rfl; refine wl_mv rfl rfl ?_; refine wl_ns ?_; refine wc_block ?_
  refine wc_loop (fun L wr m => ∃ (k : Nat) (P : Option Addr) (cp : Nat), L = [(3, .slice P (framed (rows.take k)).length cp), (6, .slice A rows.length c), (7, .int .i64 (rows.length : Int)), (8, .int .i64 (k : Int))] ∧ k ≤ rows.length ∧ OwB wr w.heap.size P cp (framed (rows.take k)) ∧ Below w.heap.size w wr ∧ m = rows.length - k)
    [(3, .slice none 0 0), (6, .slice A rows.length c), (7, .int .i64 (rows.length : Int)), (8, .int .i64 (0 : Nat))] rows.length ⟨0, none, 0, rfl, by omega, Ow.nil _ _ _, Below.refl _ _, rfl⟩ ⟨rfl, rfl, rfl, rfl, trivial⟩ ?_
  rintro _ w1 m ⟨k, P, cp, rfl, hk, o1, hb1, rfl⟩
  have hle := framed_take_le rows k
  refine wc_sr ?_; refine wl_bin rfl rfl bin_lss rfl ?_; refine wl_ns ?_; refine wc_seq ?_
  refine wc_cond rfl (fun h1 => ?_) (fun h1 => ?_)
  · obtain ⟨x, hx⟩ : ∃ x, rows[k]? = some x := ⟨_, List.getElem?_eq_getElem (by omega)⟩
    obtain ⟨vs, X, cx, hv0, hvk, rx, hcx⟩ := hr.at hx
    have hv := hv0.below hb1
    have hxm := flat_mem hx
    have hpl := putU_le (n := x.length) (by omega)
    have hle2 := framed_take_le rows (k + 1)
    have e2 := framed_take hx
    have e3 := congrArg List.length e2
    simp only [List.length_append] at e3
    refine wc_skip ?_; refine we_seq ?_; refine wc_seq ?_; refine wc_block ?_; refine wc_sr ?_; apply wl_elK (T := tyBB) (hr := hv) (hb := hvk); exact rfl; exact rfl; exact rfl; exact rfl; exact rfl; intro _; refine wl_as rfl rfl ?_; refine wl_ns ?_; refine wc_region ?_; refine wl_mv rfl rfl ?_; refine wl_mv rfl rfl ?_; apply wl_val; apply opv_len; exact rfl; exact tyB.sl; exact rfl; apply wl_val; apply opv_convR; exact rfl; exact Try.underlying3; exact Try.underlying47; exact IntWalk.u64_in _ (by omega); exact rfl
    refine wl_call ok_codec_PutU (putU_any x.length (by omega) _) ⟨rfl, trivial⟩ rfl ?_
    rintro _ w2 ⟨A2, c2, rfl, o2, h2⟩
    have o1' := OwB.below o1 h2
    refine wl_app tyB rfl o1' rfl o2.rd (bvs_one _) (by omega) (by simp only [maxLen]; omega) (Nat.le_trans hb1.size h2.size) rfl fun A4 c4 w4 o4 g4 _ => ?_
    have hb4 := g4.below (hb1.trans (h2.mono hb1.size)) o1' (Nat.le_refl _) (Nat.le_trans hb1.size h2.size)
    have o5 := OwB.app o4
    refine wl_mv rfl rfl ?_
    refine wl_app tyB rfl o4 rfl (RdB.below rx hb4) (bvs_one _) (by omega) (by simp only [maxLen]; omega) hb4.size rfl fun A6 c6 w6 o6 g6 _ => ?_
    have hb6 := g6.below hb4 o4 (Nat.le_refl _) hb4.size
    have o7 : OwB w6 w.heap.size A6 c6 (framed (rows.take (k + 1))) := by
      rw [e2]; unfold OwB; rw [List.length_append, List.length_append, bvs_append, bvs_append]; exact o6
    refine wl_as rfl rfl ?_; refine wl_nil ?_; refine we_block_norm ?_; refine we_seq ?_; refine wc_region ?_; apply wl_val; apply opv_bin; exact rfl; exact rfl; exact bin_add64 (by omega); exact rfl; refine wl_mv rfl rfl ?_; refine wl_nil ?_
    refine we_loop [(3, .slice A6 (framed (rows.take (k + 1))).length c6), (6, .slice A rows.length c), (7, .int .i64 (rows.length : Int)), (8, .int .i64 ((k + 1 : Nat) : Int))] (rows.length - (k + 1)) ⟨k + 1, A6, c6, rfl, by omega, o7, hb6, rfl⟩ (by omega) ⟨by rw [e3]; rfl, rfl, rfl, by simp [lookT], trivial⟩
  · obtain rfl : k = rows.length := by omega
    rw [List.take_length] at o1 ⊢
    refine wc_exit ?_; refine we_seq_exit ?_; refine we_loop_exit ?_; refine we_block_exit ?_; refine we_seq ?_; refine wc_sr ?_; refine wl_mv rfl rfl ?_; refine wl_as rfl rfl ?_; refine wl_ns ?_; refine wc_ret ?_
    exact we_ret1 rfl rfl ⟨_, rfl, P, cp, rfl, o1, hb1⟩

end Go.Proofs.Ytdgagffieobiiaa
