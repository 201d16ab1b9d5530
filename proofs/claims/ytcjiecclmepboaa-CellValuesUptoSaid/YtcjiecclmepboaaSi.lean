
/-
  The walk over BytesOf.
-/
import Derived.Test.YtcjiecclmepboaaSh
namespace Go.Proofs.Ytcjiecclmepboaa
open Go.RowKit

theorem bytesOf_any {u : Va} {A : Option Addr} {c : Nat} {w : World} (hr : RdB w A (vaC u).data) (hl : (vaC u).data.length ≤ 140737488355328) :
    CallsV Try.prog 43 #[vaV u A c] w fun v w' => ∃ (B : Option Addr) (e : Nat), v = .tuple #[.slice B (vaC u).data.length e, .bool (decide ((vaC u).kind = 4))] ∧ OwB w' w.heap.size B e (vaC u).data ∧ Below w.heap.size w w' := by
  refine calls_in (N := _) Try.func43 rfl Try.ntmps43 rfl ?_; show WC _ _ _ _ _ _
  cases u with
  | nil =>
    rw [vaV]
    refine wc_sr ?_; refine wl_as rfl rfl ?_; refine wl_as rfl rfl ?_; refine wl_ns ?_; refine wc_sr ?_; refine wl_mv rfl rfl ?_; apply wl_val; apply opv_asN; kernel_rfl; exact z_by; exact rfl; exact rfl; refine wl_mv rfl rfl ?_; apply wl_val; apply opv_extract; exact rfl; exact rfl; exact rfl; apply wl_val; apply opv_extract; exact rfl; exact rfl; exact rfl; refine wl_as rfl rfl ?_; refine wl_as rfl rfl ?_; refine wl_ns ?_; refine wc_sr ?_; refine wl_mv rfl rfl ?_
    refine wl_call ok_bytes_Clone (clone_any (xs := []) (Rd.nil _ _) rfl (by decide)) ⟨rfl, trivial⟩ rfl ?_
    rintro _ w1 ⟨B, e, rfl, o1, hb1⟩
    refine wl_mv rfl rfl ?_; refine wl_as rfl rfl ?_; refine wl_as rfl rfl ?_; refine wl_ns ?_; refine wc_ret ?_
    exact we_ret2 rfl rfl rfl ⟨_, rfl, B, e, rfl, o1, hb1⟩
  | bool b =>
    rw [vaV]
    refine wc_sr ?_; refine wl_as rfl rfl ?_; refine wl_as rfl rfl ?_; refine wl_ns ?_; refine wc_sr ?_; refine wl_mv rfl rfl ?_; apply wl_val; apply opv_asF; kernel_rfl; exact z_by; exact rfl; exact rfl; exact rfl; refine wl_mv rfl rfl ?_; apply wl_val; apply opv_extract; exact rfl; exact rfl; exact rfl; apply wl_val; apply opv_extract; exact rfl; exact rfl; exact rfl; refine wl_as rfl rfl ?_; refine wl_as rfl rfl ?_; refine wl_ns ?_; refine wc_sr ?_; refine wl_mv rfl rfl ?_
    refine wl_call ok_bytes_Clone (clone_any (xs := []) (Rd.nil _ _) rfl (by decide)) ⟨rfl, trivial⟩ rfl ?_
    rintro _ w1 ⟨B, e, rfl, o1, hb1⟩
    refine wl_mv rfl rfl ?_; refine wl_as rfl rfl ?_; refine wl_as rfl rfl ?_; refine wl_ns ?_; refine wc_ret ?_
    exact we_ret2 rfl rfl rfl ⟨_, rfl, B, e, rfl, o1, hb1⟩
  | int n =>
    rw [vaV]
    refine wc_sr ?_; refine wl_as rfl rfl ?_; refine wl_as rfl rfl ?_; refine wl_ns ?_; refine wc_sr ?_; refine wl_mv rfl rfl ?_; apply wl_val; apply opv_asF; kernel_rfl; exact z_by; exact rfl; exact rfl; exact rfl; refine wl_mv rfl rfl ?_; apply wl_val; apply opv_extract; exact rfl; exact rfl; exact rfl; apply wl_val; apply opv_extract; exact rfl; exact rfl; exact rfl; refine wl_as rfl rfl ?_; refine wl_as rfl rfl ?_; refine wl_ns ?_; refine wc_sr ?_; refine wl_mv rfl rfl ?_
    refine wl_call ok_bytes_Clone (clone_any (xs := []) (Rd.nil _ _) rfl (by decide)) ⟨rfl, trivial⟩ rfl ?_
    rintro _ w1 ⟨B, e, rfl, o1, hb1⟩
    refine wl_mv rfl rfl ?_; refine wl_as rfl rfl ?_; refine wl_as rfl rfl ?_; refine wl_ns ?_; refine wc_ret ?_
    exact we_ret2 rfl rfl rfl ⟨_, rfl, B, e, rfl, o1, hb1⟩
  | text s =>
    rw [vaV]
    refine wc_sr ?_; refine wl_as rfl rfl ?_; refine wl_as rfl rfl ?_; refine wl_ns ?_; refine wc_sr ?_; refine wl_mv rfl rfl ?_; apply wl_val; apply opv_asF; kernel_rfl; exact z_by; exact rfl; exact rfl; exact rfl; refine wl_mv rfl rfl ?_; apply wl_val; apply opv_extract; exact rfl; exact rfl; exact rfl; apply wl_val; apply opv_extract; exact rfl; exact rfl; exact rfl; refine wl_as rfl rfl ?_; refine wl_as rfl rfl ?_; refine wl_ns ?_; refine wc_sr ?_; refine wl_mv rfl rfl ?_
    refine wl_call ok_bytes_Clone (clone_any (xs := []) (Rd.nil _ _) rfl (by decide)) ⟨rfl, trivial⟩ rfl ?_
    rintro _ w1 ⟨B, e, rfl, o1, hb1⟩
    refine wl_mv rfl rfl ?_; refine wl_as rfl rfl ?_; refine wl_as rfl rfl ?_; refine wl_ns ?_; refine wc_ret ?_
    exact we_ret2 rfl rfl rfl ⟨_, rfl, B, e, rfl, o1, hb1⟩
  | bytes d =>
    rw [vaV]
    refine wc_sr ?_; refine wl_as rfl rfl ?_; refine wl_as rfl rfl ?_; refine wl_ns ?_; refine wc_sr ?_; refine wl_mv rfl rfl ?_; apply wl_val; apply opv_asT; kernel_rfl; exact rfl; exact rfl; refine wl_mv rfl rfl ?_; apply wl_val; apply opv_extract; exact rfl; exact rfl; exact rfl; apply wl_val; apply opv_extract; exact rfl; exact rfl; exact rfl; refine wl_as rfl rfl ?_; refine wl_as rfl rfl ?_; refine wl_ns ?_; refine wc_sr ?_; refine wl_mv rfl rfl ?_
    refine wl_call ok_bytes_Clone (clone_any (xs := d) hr rfl hl) ⟨rfl, trivial⟩ rfl ?_
    rintro _ w1 ⟨B, e, rfl, o1, hb1⟩
    refine wl_mv rfl rfl ?_; refine wl_as rfl rfl ?_; refine wl_as rfl rfl ?_; refine wl_ns ?_; refine wc_ret ?_
    exact we_ret2 rfl rfl rfl ⟨_, rfl, B, e, rfl, o1, hb1⟩
end Go.Proofs.Ytcjiecclmepboaa
