
/-
  Walks over twin, Cell and what leans on it: values of any type, and their cells.
-/
import Derived.Test.YtcjiecclmepboaaSc
import Derived.Test.YtcjiecclmepboaaWa
import Derived.Test.YtcjiecclmepboaaWg
namespace Go.Proofs.Ytcjiecclmepboaa
open Go.RowKit

/-- A value that a cell may hold. -/
inductive Va where
  | nil
  | bool (b : Bool)
  | int (n : Int)
  | text (s : List UInt8)
  | bytes (d : List UInt8)
def vaV : Va → Option Addr → Nat → Value
  | .nil, _, _ => .nilIface
  | .bool b, _, _ => .iface 4 (.bool b)
  | .int n, _, _ => .iface 2 (.int .i64 n)
  | .text s, _, _ => .iface 9 (str s)
  | .bytes d, A, c => .iface 30 (.slice A d.length c)
def vaC : Va → Ce
  | .nil => ⟨0, false, 0, [], []⟩
  | .bool b => ⟨1, b, 0, [], []⟩
  | .int n => ⟨2, false, n, [], []⟩
  | .text s => ⟨3, false, 0, s, []⟩
  | .bytes d => ⟨4, false, 0, [], d⟩
def ceVa (x : Ce) : Va := if x.kind = 1 then .bool x.tr else if x.kind = 2 then .int x.num else if x.kind = 3 then .text x.text else if x.kind = 4 then .bytes x.data else .nil
theorem vaC_ceVa {x : Ce} (h : goodC x = true) : vaC (ceVa x) = x := by
  have h := of_decide_eq_true h
  obtain ⟨k, b, n, s, d⟩ := x
  simp only at h
  have hk : k = 0 ∨ k = 1 ∨ k = 2 ∨ k = 3 ∨ k = 4 := by omega
  rcases hk with rfl | rfl | rfl | rfl | rfl <;> simp_all [ceVa, vaC]
/-- A cell and an error, the cell's bytes in new memory. -/
def RetCe (w : World) (x : Ce) (e : Int) (v : Value) (w' : World) : Prop :=
  ∃ (A : Option Addr) (c : Nat), v = .tuple #[.agg (ceV x A c).toArray, .int .i64 e] ∧ OwB w' w.heap.size A c x.data ∧ Below w.heap.size w w'
def zC : List Value := [.int .i64 0, .bool false, .int .i64 0, str [], .slice none 0 0]
theorem zeroC : (Try.prog.info? 53).map (·.zero) = some (some (.agg zC.toArray)) := by kernel_rfl
set_option maxHeartbeats 1000000 in
theorem cell_any {u : Va} {A : Option Addr} {c : Nat} {w : World} (hr : RdB w A (vaC u).data) (hl : (vaC u).data.length ≤ 140737488355328) :
    CallsV Try.prog 38 #[vaV u A c] w (RetCe w (vaC u) 0) := by
  refine calls_in (N := _) Try.func38 rfl Try.ntmps38 rfl ?_; show WC _ _ _ _ _ _
  refine wc_sr ?_
  refine wl_new (cs := zC) zeroC rfl fun g w1 hg a1 hb1 => ?_
  refine wl_as rfl rfl ?_; refine wl_ns ?_; refine wc_sr ?_
  refine wl_val (opv_build (vs := []) (cs := zC) trivial (by kernel_rfl)) rfl ?_
  refine wl_new (cs := zC) zeroC rfl fun g2 w2 hg2 a2 hb2 => ?_
  refine wl_storeS (cs' := zC) sC a2 rfl rfl rfl rfl fun w3 a3 g3 _ => ?_
  have hlt := a1.lt
  have b1 := (a1.bel hb2).grA g3 (fun a ha => by cases ha; exact (show g2 ≠ g by omega))
  have hb3 := g3.belowI (hb1.trans (hb2.mono hb1.size)) (by have := hb1.size; omega) (by have := hb1.size; have := hb2.size; omega)
  clear a1 a2
  unfold zC at a3
  cases u with
  | nil =>
    rw [vaV]
    refine wl_ns ?_; refine wc_seq ?_; refine wc_sr ?_; refine wl_mv rfl rfl ?_; apply wl_val; apply opv_bin; exact rfl; exact rfl; exact bin_eqlNN iAny.2; exact rfl; refine wl_ns ?_; apply wc_condTb; exact rfl; exact rfl; refine wc_sr ?_; apply wl_val; apply opv_loadX; exact rfl; assumption; exact sC; exact rfl
    refine wl_storeS (cs' := zC) sC b1 rfl rfl rfl rfl fun w4 a4 g4 _ => ?_
    have hb4 := g4.belowI hb3 (by omega) hb3.size
    refine wl_as rfl rfl ?_; refine wl_ns ?_; refine wc_ret ?_; refine we_seq_ret ?_
    exact we_retC1 rfl rfl rfl a4 sC ⟨_, rfl, none, 0, rfl, Ow.nil _ _ _, hb4⟩
  | bool b =>
    rw [vaV]
    refine wl_ns ?_; refine wc_seq ?_; refine wc_sr ?_; refine wl_mv rfl rfl ?_; apply wl_val; apply opv_bin; exact rfl; exact rfl; exact bin_eqlIN iAny.1; exact rfl; refine wl_ns ?_; apply wc_condFb; exact rfl; exact rfl; refine wc_skip ?_; refine we_seq ?_; refine wc_seq ?_; refine wc_sr ?_; refine wl_mv rfl rfl ?_; apply wl_val; apply opv_asT; kernel_rfl; exact rfl; exact rfl; refine wl_mv rfl rfl ?_; apply wl_val; apply opv_extract; exact rfl; exact rfl; exact rfl; apply wl_val; apply opv_extract; exact rfl; exact rfl; exact rfl; refine wl_as rfl rfl ?_; refine wl_as rfl rfl ?_; refine wl_ns ?_; refine wc_sr ?_; refine wl_mv rfl rfl ?_; refine wl_ns ?_; apply wc_condTb; exact rfl; exact rfl; refine wc_sr ?_; refine wl_mv rfl rfl ?_
    refine wl_val (opv_build (vs := [(0, .int .i64 1), (1, .bool b)]) (cs := [.int .i64 1, .bool b, .int .i64 0, str [], .slice none 0 0]) ⟨rfl, rfl, rfl, rfl, trivial⟩ (by kernel_rfl)) rfl ?_
    refine wl_storeS (cs' := [.int .i64 1, .bool b, .int .i64 0, str [], .slice none 0 0]) sC b1 rfl rfl rfl rfl fun w4 a4 g4 _ => ?_
    have hb4 := g4.belowI hb3 (by omega) hb3.size
    refine wl_as rfl rfl ?_; refine wl_ns ?_; refine wc_ret ?_; refine we_seq_ret ?_
    exact we_retC1 rfl rfl rfl a4 sC ⟨_, rfl, none, 0, rfl, Ow.nil _ _ _, hb4⟩
  | int n =>
    rw [vaV]
    refine wl_ns ?_; refine wc_seq ?_; refine wc_sr ?_; refine wl_mv rfl rfl ?_; apply wl_val; apply opv_bin; exact rfl; exact rfl; exact bin_eqlIN iAny.1; exact rfl; refine wl_ns ?_; apply wc_condFb; exact rfl; exact rfl; refine wc_skip ?_; refine we_seq ?_; refine wc_seq ?_; refine wc_sr ?_; refine wl_mv rfl rfl ?_; apply wl_val; apply opv_asF; kernel_rfl; exact z_bool; exact rfl; exact rfl; exact rfl; refine wl_mv rfl rfl ?_; apply wl_val; apply opv_extract; exact rfl; exact rfl; exact rfl; apply wl_val; apply opv_extract; exact rfl; exact rfl; exact rfl; refine wl_as rfl rfl ?_; refine wl_as rfl rfl ?_; refine wl_ns ?_; refine wc_sr ?_; refine wl_mv rfl rfl ?_; refine wl_ns ?_; apply wc_condFb; exact rfl; exact rfl; refine wc_skip ?_; refine we_seq ?_; refine wc_seq ?_; refine wc_sr ?_; refine wl_mv rfl rfl ?_; apply wl_val; apply opv_asT; kernel_rfl; exact rfl; exact rfl; refine wl_mv rfl rfl ?_; apply wl_val; apply opv_extract; exact rfl; exact rfl; exact rfl; apply wl_val; apply opv_extract; exact rfl; exact rfl; exact rfl; refine wl_as rfl rfl ?_; refine wl_as rfl rfl ?_; refine wl_ns ?_; refine wc_sr ?_; refine wl_mv rfl rfl ?_; refine wl_ns ?_; apply wc_condTb; exact rfl; exact rfl; refine wc_sr ?_; refine wl_mv rfl rfl ?_
    refine wl_val (opv_build (vs := [(0, .int .i64 2), (2, .int .i64 n)]) (cs := [.int .i64 2, .bool false, .int .i64 n, str [], .slice none 0 0]) ⟨rfl, rfl, rfl, rfl, trivial⟩ (by kernel_rfl)) rfl ?_
    refine wl_storeS (cs' := [.int .i64 2, .bool false, .int .i64 n, str [], .slice none 0 0]) sC b1 rfl rfl rfl rfl fun w4 a4 g4 _ => ?_
    have hb4 := g4.belowI hb3 (by omega) hb3.size
    refine wl_as rfl rfl ?_; refine wl_ns ?_; refine wc_ret ?_; refine we_seq_ret ?_
    exact we_retC1 rfl rfl rfl a4 sC ⟨_, rfl, none, 0, rfl, Ow.nil _ _ _, hb4⟩
  | text s =>
    rw [vaV]
    refine wl_ns ?_; refine wc_seq ?_; refine wc_sr ?_; refine wl_mv rfl rfl ?_; apply wl_val; apply opv_bin; exact rfl; exact rfl; exact bin_eqlIN iAny.1; exact rfl; refine wl_ns ?_; apply wc_condFb; exact rfl; exact rfl; refine wc_skip ?_; refine we_seq ?_; refine wc_seq ?_; refine wc_sr ?_; refine wl_mv rfl rfl ?_; apply wl_val; apply opv_asF; kernel_rfl; exact z_bool; exact rfl; exact rfl; exact rfl; refine wl_mv rfl rfl ?_; apply wl_val; apply opv_extract; exact rfl; exact rfl; exact rfl; apply wl_val; apply opv_extract; exact rfl; exact rfl; exact rfl; refine wl_as rfl rfl ?_; refine wl_as rfl rfl ?_; refine wl_ns ?_; refine wc_sr ?_; refine wl_mv rfl rfl ?_; refine wl_ns ?_; apply wc_condFb; exact rfl; exact rfl; refine wc_skip ?_; refine we_seq ?_; refine wc_seq ?_; refine wc_sr ?_; refine wl_mv rfl rfl ?_; apply wl_val; apply opv_asF; kernel_rfl; exact z_i64; exact rfl; exact rfl; exact rfl; refine wl_mv rfl rfl ?_; apply wl_val; apply opv_extract; exact rfl; exact rfl; exact rfl; apply wl_val; apply opv_extract; exact rfl; exact rfl; exact rfl; refine wl_as rfl rfl ?_; refine wl_as rfl rfl ?_; refine wl_ns ?_; refine wc_sr ?_; refine wl_mv rfl rfl ?_; refine wl_ns ?_; apply wc_condFb; exact rfl; exact rfl; refine wc_skip ?_; refine we_seq ?_; refine wc_seq ?_; refine wc_sr ?_; refine wl_mv rfl rfl ?_; apply wl_val; apply opv_asT; kernel_rfl; exact rfl; exact rfl; refine wl_mv rfl rfl ?_; apply wl_val; apply opv_extract; exact rfl; exact rfl; exact rfl; apply wl_val; apply opv_extract; exact rfl; exact rfl; exact rfl; refine wl_as rfl rfl ?_; refine wl_as rfl rfl ?_; refine wl_ns ?_; refine wc_sr ?_; refine wl_mv rfl rfl ?_; refine wl_ns ?_; apply wc_condTb; exact rfl; exact rfl; refine wc_sr ?_; refine wl_mv rfl rfl ?_
    refine wl_val (opv_build (vs := [(0, .int .i64 3), (3, str s)]) (cs := [.int .i64 3, .bool false, .int .i64 0, str s, .slice none 0 0]) ⟨rfl, rfl, rfl, rfl, trivial⟩ (by kernel_rfl)) rfl ?_
    refine wl_storeS (cs' := [.int .i64 3, .bool false, .int .i64 0, str s, .slice none 0 0]) sC b1 rfl rfl rfl rfl fun w4 a4 g4 _ => ?_
    have hb4 := g4.belowI hb3 (by omega) hb3.size
    refine wl_as rfl rfl ?_; refine wl_ns ?_; refine wc_ret ?_; refine we_seq_ret ?_
    exact we_retC1 rfl rfl rfl a4 sC ⟨_, rfl, none, 0, rfl, Ow.nil _ _ _, hb4⟩
  | bytes d =>
    have hr' : RdB w3 A d := RdB.below hr hb3
    rw [vaV]
    refine wl_ns ?_; refine wc_seq ?_; refine wc_sr ?_; refine wl_mv rfl rfl ?_; apply wl_val; apply opv_bin; exact rfl; exact rfl; exact bin_eqlIN iAny.1; exact rfl; refine wl_ns ?_; apply wc_condFb; exact rfl; exact rfl; refine wc_skip ?_; refine we_seq ?_; refine wc_seq ?_; refine wc_sr ?_; refine wl_mv rfl rfl ?_; apply wl_val; apply opv_asF; kernel_rfl; exact z_bool; exact rfl; exact rfl; exact rfl; refine wl_mv rfl rfl ?_; apply wl_val; apply opv_extract; exact rfl; exact rfl; exact rfl; apply wl_val; apply opv_extract; exact rfl; exact rfl; exact rfl; refine wl_as rfl rfl ?_; refine wl_as rfl rfl ?_; refine wl_ns ?_; refine wc_sr ?_; refine wl_mv rfl rfl ?_; refine wl_ns ?_; apply wc_condFb; exact rfl; exact rfl; refine wc_skip ?_; refine we_seq ?_; refine wc_seq ?_; refine wc_sr ?_; refine wl_mv rfl rfl ?_; apply wl_val; apply opv_asF; kernel_rfl; exact z_i64; exact rfl; exact rfl; exact rfl; refine wl_mv rfl rfl ?_; apply wl_val; apply opv_extract; exact rfl; exact rfl; exact rfl; apply wl_val; apply opv_extract; exact rfl; exact rfl; exact rfl; refine wl_as rfl rfl ?_; refine wl_as rfl rfl ?_; refine wl_ns ?_; refine wc_sr ?_; refine wl_mv rfl rfl ?_; refine wl_ns ?_; apply wc_condFb; exact rfl; exact rfl; refine wc_skip ?_; refine we_seq ?_; refine wc_seq ?_; refine wc_sr ?_; refine wl_mv rfl rfl ?_; apply wl_val; apply opv_asF; kernel_rfl; exact z_str; exact rfl; exact rfl; exact rfl; refine wl_mv rfl rfl ?_; apply wl_val; apply opv_extract; exact rfl; exact rfl; exact rfl; apply wl_val; apply opv_extract; exact rfl; exact rfl; exact rfl; refine wl_as rfl rfl ?_; refine wl_as rfl rfl ?_; refine wl_ns ?_; refine wc_sr ?_; refine wl_mv rfl rfl ?_; refine wl_ns ?_; apply wc_condFb; exact rfl; exact rfl; refine wc_skip ?_; refine we_seq ?_; refine wc_seq ?_; refine wc_sr ?_; refine wl_mv rfl rfl ?_; apply wl_val; apply opv_asT; kernel_rfl; exact rfl; exact rfl; refine wl_mv rfl rfl ?_; apply wl_val; apply opv_extract; exact rfl; exact rfl; exact rfl; apply wl_val; apply opv_extract; exact rfl; exact rfl; exact rfl; refine wl_as rfl rfl ?_; refine wl_as rfl rfl ?_; refine wl_ns ?_; refine wc_sr ?_; refine wl_mv rfl rfl ?_; refine wl_ns ?_; apply wc_condTb; exact rfl; exact rfl; refine wc_sr ?_; refine wl_mv rfl rfl ?_
    refine wl_call ok_bytes_Clone (clone_any hr' rfl hl) ⟨rfl, trivial⟩ rfl ?_
    rintro _ w5 ⟨B, e, rfl, o5, hb5⟩
    have b5 := b1.bel hb5
    have hb35 := hb3.trans (hb5.mono hb3.size)
    refine wl_val (opv_build (vs := [(0, .int .i64 4), (4, .slice B d.length e)]) (cs := [.int .i64 4, .bool false, .int .i64 0, str [], .slice B d.length e]) ⟨rfl, rfl, rfl, rfl, trivial⟩ (by kernel_rfl)) rfl ?_
    refine wl_storeS (cs' := [.int .i64 4, .bool false, .int .i64 0, str [], .slice B d.length e]) sC b5 rfl rfl rfl rfl fun w4 a4 g4 _ => ?_
    have hb4 := g4.belowI hb35 (by omega) hb35.size
    have hs3 := hb3.size
    have hgw : g < w3.heap.size := b1.lt
    have o4 : OwB w4 w.heap.size B e d := Ow.gr (base' := 0) (e' := 0) (Ow.mono o5 hs3) g4 fun a x ha hx => by
      cases hx
      have := (Ow.lt o5 a ha).1
      exact (show a.block ≠ g by omega)
    refine wl_as rfl rfl ?_; refine wl_ns ?_; refine wc_ret ?_; refine we_seq_ret ?_
    exact we_retC1 rfl rfl rfl a4 sC ⟨_, rfl, B, e, rfl, o4, hb4⟩
end Go.Proofs.Ytcjiecclmepboaa
