
/-
  Cell at a value of a type that no cell holds.
-/
import Derived.Test.YtcjiecclmepboaaSj
namespace Go.Proofs.Ytcjiecclmepboaa
open Go.RowKit

theorem cell_other {t : TypeId} {x : Value} {w : World} (h1 : (t == 4) = false) (h2 : (t == 2) = false) (h3 : (t == 9) = false) (h4 : (t == 30) = false) :
    CallsV Try.prog 38 #[.iface t x] w fun v w' => v = .tuple #[.agg zC.toArray, .int .i64 10] ∧ Below w.heap.size w w' := by
  refine calls_in (N := _) Try.func38 rfl Try.ntmps38 rfl ?_; show WC _ _ _ _ _ _
  refine wc_sr ?_
  refine wl_new (cs := zC) zeroC rfl fun g w1 hg a1 hb1 => ?_
  refine wl_as rfl rfl ?_; refine wl_ns ?_; refine wc_sr ?_
  refine wl_val (opv_build (vs := []) (cs := zC) trivial (by kernel_rfl)) rfl ?_
  refine wl_new (cs := zC) zeroC rfl fun g2 w2 hg2 a2 hb2 => ?_
  refine wl_storeS (cs' := zC) sC a2 rfl rfl rfl rfl fun w3 a3 g3 _ => ?_
  have hlt := a1.lt
  have b1 := (a1.bel hb2).grA g3 (fun a ha => by cases ha; exact (show g2 ≠ g by omega))
  have hb3 := g3.belowI (hb1.trans (hb2.mono hb1.size)) (by have := hb1.size; omega) (by have := hb1.size; have := hb2.size; omega)
  clear a1 a2
  refine wl_ns ?_; refine wc_seq ?_; refine wc_sr ?_; refine wl_mv rfl rfl ?_; apply wl_val; apply opv_bin; exact rfl; exact rfl; exact bin_eqlIN iAny.1; exact rfl; refine wl_ns ?_; apply wc_condFb; exact rfl; exact rfl; refine wc_skip ?_; refine we_seq ?_; refine wc_seq ?_; refine wc_sr ?_; refine wl_mv rfl rfl ?_
  refine wl_val (opv_asF (by kernel_rfl) z_bool rfl h1) rfl ?_
  refine wl_mv rfl rfl ?_; apply wl_val; apply opv_extract; exact rfl; exact rfl; exact rfl; apply wl_val; apply opv_extract; exact rfl; exact rfl; exact rfl; refine wl_as rfl rfl ?_; refine wl_as rfl rfl ?_; refine wl_ns ?_; refine wc_sr ?_; refine wl_mv rfl rfl ?_; refine wl_ns ?_; apply wc_condFb; exact rfl; exact rfl; refine wc_skip ?_; refine we_seq ?_; refine wc_seq ?_; refine wc_sr ?_; refine wl_mv rfl rfl ?_
  refine wl_val (opv_asF (by kernel_rfl) z_i64 rfl h2) rfl ?_
  refine wl_mv rfl rfl ?_; apply wl_val; apply opv_extract; exact rfl; exact rfl; exact rfl; apply wl_val; apply opv_extract; exact rfl; exact rfl; exact rfl; refine wl_as rfl rfl ?_; refine wl_as rfl rfl ?_; refine wl_ns ?_; refine wc_sr ?_; refine wl_mv rfl rfl ?_; refine wl_ns ?_; apply wc_condFb; exact rfl; exact rfl; refine wc_skip ?_; refine we_seq ?_; refine wc_seq ?_; refine wc_sr ?_; refine wl_mv rfl rfl ?_
  refine wl_val (opv_asF (by kernel_rfl) z_str rfl h3) rfl ?_
  refine wl_mv rfl rfl ?_; apply wl_val; apply opv_extract; exact rfl; exact rfl; exact rfl; apply wl_val; apply opv_extract; exact rfl; exact rfl; exact rfl; refine wl_as rfl rfl ?_; refine wl_as rfl rfl ?_; refine wl_ns ?_; refine wc_sr ?_; refine wl_mv rfl rfl ?_; refine wl_ns ?_; apply wc_condFb; exact rfl; exact rfl; refine wc_skip ?_; refine we_seq ?_; refine wc_seq ?_; refine wc_sr ?_; refine wl_mv rfl rfl ?_
  refine wl_val (opv_asF (by kernel_rfl) z_by rfl h4) rfl ?_
  refine wl_mv rfl rfl ?_; apply wl_val; apply opv_extract; exact rfl; exact rfl; exact rfl; apply wl_val; apply opv_extract; exact rfl; exact rfl; exact rfl; refine wl_as rfl rfl ?_; refine wl_as rfl rfl ?_; refine wl_ns ?_; refine wc_sr ?_; refine wl_mv rfl rfl ?_; refine wl_ns ?_; apply wc_condFb; exact rfl; exact rfl; refine wc_skip ?_; refine we_seq ?_; refine wc_sr ?_; apply wl_val; apply opv_loadX; exact rfl; assumption; exact sC; exact rfl
  refine wl_storeS (cs' := zC) sC b1 rfl rfl rfl rfl fun w4 a4 g4 _ => ?_
  have hb4 := g4.belowI hb3 (by omega) hb3.size
  refine wl_as rfl rfl ?_; refine wl_ns ?_; refine wc_ret ?_
  exact we_retC1 rfl rfl rfl a4 sC ⟨_, rfl, rfl, hb4⟩
end Go.Proofs.Ytcjiecclmepboaa
