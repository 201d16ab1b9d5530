
/-
  The walk over the reference's Over, at bytes that lie in memory of one's own.
-/
import Derived.Test.YtcjiecclmepboaaSi
namespace Go.Proofs.Ytcjiecclmepboaa
open Go.RowKit

theorem bvs_setO (l : List UInt8) (i : Nat) (b : UInt8) : (bvs l).set i (bv b) = bvs (l.set i b) := by rw [bvs, bvs, List.map_set]
theorem overO_any {A : Option Addr} {n c base : Nat} {l : List UInt8} {w : World} (ho : OwB w base A c l) (hn : l.length = n) (hl : l.length ≤ 2199023255552) :
    CallsV Try.prog 37 #[.slice A n c] w fun _ w' => ∃ l' : List UInt8, l'.length = l.length ∧ OwB w' base A c l' ∧ Gr w w' A := by
  subst hn
  refine calls_in (N := _) Try.func37 rfl Try.ntmps37 rfl ?_; show WC _ _ _ _ _ _
  refine wc_sr ?_; refine wl_as rfl rfl ?_; refine wl_ns ?_; refine wc_block ?_
  refine wc_loop (fun L wr m => ∃ (i : Nat) (l' : List UInt8), L = [(0, .slice A l.length c), (2, .int .i64 (i : Int))] ∧ i ≤ l.length ∧ l'.length = l.length ∧ OwB wr base A c l' ∧ Gr w wr A ∧ m = l.length - i)
    [(0, .slice A l.length c), (2, .int .i64 (0 : Nat))] l.length ⟨0, l, rfl, by omega, rfl, ho, Gr.refl _ _, rfl⟩ ⟨rfl, rfl, trivial⟩ ?_
  rintro _ w1 m ⟨i, l', rfl, hi, hl', o1, g1, rfl⟩
  have o1' : Ow w1 base 5 A l.length c (bvs l') := by rw [← hl']; exact o1
  have r1 : Rd w1 A l.length (bvs l') := by rw [← hl']; exact o1.rd
  refine wc_seq ?_; refine wc_sr ?_; refine wl_mv rfl rfl ?_; refine wl_mv rfl rfl ?_; apply wl_val; apply opv_len; exact rfl; exact tyB.sl; exact rfl; refine wl_bin rfl rfl bin_lss rfl ?_; refine wl_ns ?_
  refine wc_cond rfl (fun h1 => ?_) (fun h1 => ?_)
  · obtain ⟨x, hx⟩ : ∃ x, l'[i]? = some x := ⟨_, List.getElem?_eq_getElem (by omega)⟩
    have hxl := x.toNat_lt
    have hxx : x.toNat ^^^ 90 < 256 := Nat.xor_lt_two_pow (n := 8) hxl (by decide)
    refine wc_skip ?_; refine we_seq ?_; refine wc_seq ?_; refine wc_block ?_; refine wc_region ?_; refine wl_mv rfl rfl ?_; refine wl_mv rfl rfl ?_; refine wl_mv rfl rfl ?_; refine wl_mv rfl rfl ?_; apply wl_byK (T := tyB) (hr := r1) (hb := hx); exact rfl; exact rfl; exact rfl; exact rfl; exact rfl; intro _
    refine wl_val (opv_bin (b := .int .u8 (90 : Nat)) rfl rfl (bin_xor rfl hxl (by decide))) rfl ?_
    refine wl_set (n := l.length) (kk := i) tyB rfl rfl o1' rfl (by omega) (fun _ => rfl) rfl rfl fun p w2 o2 g2 _ => ?_
    have eu : Value.int .u8 ((x.toNat ^^^ 90 : Nat) : Int) = bv (UInt8.ofNat (x.toNat ^^^ 90)) := by
      unfold bv; rw [UInt8.toNat_ofNat', Nat.mod_eq_of_lt hxx]
    rw [eu, bvs_setO] at o2
    have o2' : OwB w2 base A c (l'.set i (UInt8.ofNat (x.toNat ^^^ 90))) := by unfold OwB; rw [List.length_set, hl']; exact o2
    refine wl_nil ?_; refine we_block_norm ?_; refine we_seq ?_; refine wc_region ?_; refine wl_mv rfl rfl ?_; apply wl_val; apply opv_bin; exact rfl; exact rfl; exact bin_add64 (by omega); exact rfl; refine wl_as rfl rfl ?_; refine wl_nil ?_
    refine we_loop [(0, .slice A l.length c), (2, .int .i64 ((i + 1 : Nat) : Int))] (l.length - (i + 1)) ⟨i + 1, _, rfl, by omega, by rw [List.length_set]; exact hl', o2', g1.trans g2, rfl⟩ (by omega) ⟨rfl, by simp [lookT], trivial⟩
  · refine wc_exit ?_; refine we_seq_exit ?_; refine we_loop_exit ?_; refine we_block_exit ?_
    exact we_end0 rfl ⟨_, rfl, l', hl', o1, g1⟩
end Go.Proofs.Ytcjiecclmepboaa
