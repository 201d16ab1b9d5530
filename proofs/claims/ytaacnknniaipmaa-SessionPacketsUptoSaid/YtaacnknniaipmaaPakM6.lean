/-
  The texts of this proof, joined: Xy, Xz, X0, X1.
-/
import Derived.Test.YtaacnknniaipmaaPakM5
import Derived.Test.YtaacnknniaipmaaPakM3

/-
  Walks over the comparison of packets: uses, messages, results.
-/
namespace Go.Proofs.Ytaacnknniaipmaa
open Go.RowKit

theorem tyBool24 : Try.prog.underlying 4 = some .bool := Try.underlying4
theorem bin_neqBb {P : Program} {t : TypeId} {a b : Bool} (ht : P.underlying t = some .bool) : BinV P .neq t (.bool a) (.bool b) (.bool (decide (a ≠ b))) := .mk fun x y w => by
  have h : ∀ d : Nat, (Op.equalIn (d + 1) t (.bool a) (.bool b)).run P w = .ok (a == b) w := fun d => by simp [Op.equalIn, run_underlying ht]
  simp [eqGuard, binOp, Op.equal, Op.maxDepth, h 9999]
  cases a <;> cases b <;> rfl
theorem bin_eqlBb {P : Program} {t : TypeId} {a b : Bool} (ht : P.underlying t = some .bool) : BinV P .eql t (.bool a) (.bool b) (.bool (decide (a = b))) := .mk fun x y w => by
  have h : ∀ d : Nat, (Op.equalIn (d + 1) t (.bool a) (.bool b)).run P w = .ok (a == b) w := fun d => by simp [Op.equalIn, run_underlying ht]
  simp [eqGuard, binOp, Op.equal, Op.maxDepth, h 9999]
  cases a <;> cases b <;> rfl
theorem has_any {l : By} {x : UInt8} {w : World} (hl : l.length ≤ 64) : CallsV Try.prog 54 #[str l, .int .u8 (x.toNat : Int)] w fun v w' => v = .bool (l.contains x) ∧ w = w' := by
  refine calls_in (N := _) Try.func54 rfl Try.ntmps54 rfl ?_; show WC _ _ _ _ _ _
  refine wc_sr ?_; refine wl_as rfl rfl ?_; refine wl_ns ?_; refine wc_seq ?_; refine wc_sr ?_; refine wl_as rfl rfl ?_; refine wl_ns ?_; refine wc_block ?_
  refine wc_loop (fun L wr m => ∃ k : Nat, L = [(0, str l), (1, .int .u8 (x.toNat : Int)), (5, .int .i64 (k : Int))] ∧ k ≤ l.length ∧ (l.take k).contains x = false ∧ w = wr ∧ m = l.length - k) [(0, str l), (1, .int .u8 (x.toNat : Int)), (5, .int .i64 (0 : Nat))] l.length ⟨0, rfl, by omega, rfl, rfl, rfl⟩ ⟨rfl, rfl, rfl, trivial⟩ ?_
  rintro _ w1 m ⟨k, rfl, hk, hc, rfl, rfl⟩
  refine wc_seq ?_; refine wc_sr ?_; refine wl_mv rfl rfl ?_; refine wl_mv rfl rfl ?_; apply wl_val; apply opv_lenL; exact rfl; exact Try.underlying9; exact rfl; refine wl_bin rfl rfl bin_lss rfl ?_; refine wl_ns ?_
  refine wc_cond rfl (fun h1 => ?_) (fun h1 => ?_)
  · obtain ⟨b, hb⟩ : ∃ b, l[k]? = some b := ⟨_, List.getElem?_eq_getElem (by omega)⟩
    refine wc_skip ?_; refine we_seq ?_; refine wc_seq ?_; refine wc_block ?_; refine wc_sr ?_; refine wl_mv rfl rfl ?_; refine wl_mv rfl rfl ?_
    refine wl_val (opv_idxS (kk := k) (b := b) Try.underlying9 rfl rfl rfl hb) rfl ?_
    have exy : (b.toNat : Int) = (x.toNat : Int) ↔ b = x := by rw [Int.ofNat_inj]; exact UInt8.toNat_inj
    by_cases h2 : b = x
    · have h2' := exy.2 h2
      refine wl_mv rfl rfl ?_; refine wl_bin rfl rfl bin_eql rfl ?_; refine wl_ns ?_; apply wc_decT; exact rfl; (with_reducible assumption); refine wc_sr ?_; refine wl_as rfl rfl ?_; refine wl_ns ?_; refine wc_ret ?_; refine we_block_ret ?_; refine we_seq_ret ?_; refine we_loop_ret ?_; refine we_block_ret ?_; refine we_seq_ret ?_
      exact we_ret1 rfl rfl ⟨_, rfl, by rw [show l.contains x = true from by rw [List.contains_iff_mem]; exact h2 ▸ List.mem_of_getElem? hb], rfl⟩
    · have h2' : ¬ (b.toNat : Int) = (x.toNat : Int) := fun h => h2 (exy.1 h)
      refine wl_mv rfl rfl ?_; refine wl_bin rfl rfl bin_eql rfl ?_; refine wl_ns ?_; apply wc_decF; exact rfl; (with_reducible assumption); refine wc_skip ?_; refine we_block_norm ?_; refine we_seq ?_; refine wc_region ?_; refine wl_mv rfl rfl ?_; apply wl_val; apply opv_bin; exact rfl; exact rfl; exact bin_add64 (by omega); exact rfl; refine wl_as rfl rfl ?_; refine wl_nil ?_
      exact we_loop _ (l.length - (k + 1)) ⟨k + 1, rfl, by omega, by rw [take_getR hb]; simp only [List.contains_eq_any_beq, List.any_append] at hc ⊢; rw [hc]; simp [Ne.symm h2], rfl, rfl⟩ (by omega) ⟨rfl, rfl, by simp [lookT], trivial⟩
  · obtain rfl : k = l.length := by omega
    rw [List.take_length] at hc
    refine wc_exit ?_; refine we_seq_exit ?_; refine we_loop_exit ?_; refine we_block_exit ?_; refine we_seq ?_; refine wc_sr ?_; refine wl_as rfl rfl ?_; refine wl_ns ?_; refine wc_ret ?_
    exact we_ret1 rfl rfl ⟨_, rfl, by rw [hc], rfl⟩
theorem has_is {l : By} {x : UInt8} {n : Int} {b : Bool} {w : World} (hl : l.length ≤ 64) (hn : n = (x.toNat : Int)) (h : l.contains x = b) : CallsV Try.prog 54 #[str l, .int .u8 n] w fun v w' => v = .bool b ∧ w = w' := by
  subst hn h
  exact has_any hl
def usesL (k : Int) : By := if k = 1 then [70, 84, 83, 77] else if k = 2 then [70, 84, 83, 82, 88, 68] else if k = 3 then [70, 84, 83, 82, 88, 67, 69, 76, 81] else if k = 4 then [84, 88, 68] else if k = 5 then [70, 88, 69, 68] else []
theorem uses_any (k : Int) (w : World) : CallsV Try.prog 23 #[.int .i64 k] w fun v w' => v = str (usesL k) ∧ w = w' := by
  refine calls_in (N := _) Try.func23 rfl Try.ntmps23 rfl ?_; show WC _ _ _ _ _ _
  refine wc_sr ?_; refine wl_as rfl rfl ?_; refine wl_ns ?_; refine wc_seq ?_; refine wc_sr ?_; refine wl_mv rfl rfl ?_; refine wl_ns ?_; refine wc_block ?_; refine wc_sr ?_; refine wl_bin rfl rfl bin_eql rfl ?_; refine wl_as rfl rfl ?_; refine wl_ns ?_
  unfold usesL
  by_cases h1 : k = 1
  · rw [if_pos h1]
    apply wc_decT; exact rfl; (with_reducible assumption); refine wc_sr ?_; refine wl_as rfl rfl ?_; refine wl_ns ?_; refine wc_ret ?_; refine we_block_ret ?_; refine we_seq_ret ?_
    exact we_ret1 rfl rfl ⟨_, rfl, rfl, rfl⟩
  rw [if_neg h1]
  by_cases h2 : k = 2
  · rw [if_pos h2]
    apply wc_decF; exact rfl; (with_reducible assumption); refine wc_sr ?_; refine wl_bin rfl rfl bin_eql rfl ?_; refine wl_as rfl rfl ?_; refine wl_ns ?_; apply wc_decT; exact rfl; (with_reducible assumption); refine wc_sr ?_; refine wl_as rfl rfl ?_; refine wl_ns ?_; refine wc_ret ?_; refine we_block_ret ?_; refine we_seq_ret ?_
    exact we_ret1 rfl rfl ⟨_, rfl, rfl, rfl⟩
  rw [if_neg h2]
  by_cases h3 : k = 3
  · rw [if_pos h3]
    apply wc_decF; exact rfl; (with_reducible assumption); refine wc_sr ?_; refine wl_bin rfl rfl bin_eql rfl ?_; refine wl_as rfl rfl ?_; refine wl_ns ?_; apply wc_decF; exact rfl; (with_reducible assumption); refine wc_sr ?_; refine wl_bin rfl rfl bin_eql rfl ?_; refine wl_as rfl rfl ?_; refine wl_ns ?_; apply wc_decT; exact rfl; (with_reducible assumption); refine wc_sr ?_; refine wl_as rfl rfl ?_; refine wl_ns ?_; refine wc_ret ?_; refine we_block_ret ?_; refine we_seq_ret ?_
    exact we_ret1 rfl rfl ⟨_, rfl, rfl, rfl⟩
  rw [if_neg h3]
  by_cases h4 : k = 4
  · rw [if_pos h4]
    apply wc_decF; exact rfl; (with_reducible assumption); refine wc_sr ?_; refine wl_bin rfl rfl bin_eql rfl ?_; refine wl_as rfl rfl ?_; refine wl_ns ?_; apply wc_decF; exact rfl; (with_reducible assumption); refine wc_sr ?_; refine wl_bin rfl rfl bin_eql rfl ?_; refine wl_as rfl rfl ?_; refine wl_ns ?_; apply wc_decF; exact rfl; (with_reducible assumption); refine wc_sr ?_; refine wl_bin rfl rfl bin_eql rfl ?_; refine wl_as rfl rfl ?_; refine wl_ns ?_; apply wc_decT; exact rfl; (with_reducible assumption); refine wc_sr ?_; refine wl_as rfl rfl ?_; refine wl_ns ?_; refine wc_ret ?_; refine we_block_ret ?_; refine we_seq_ret ?_
    exact we_ret1 rfl rfl ⟨_, rfl, rfl, rfl⟩
  rw [if_neg h4]
  by_cases h5 : k = 5
  · rw [if_pos h5]
    apply wc_decF; exact rfl; (with_reducible assumption); refine wc_sr ?_; refine wl_bin rfl rfl bin_eql rfl ?_; refine wl_as rfl rfl ?_; refine wl_ns ?_; apply wc_decF; exact rfl; (with_reducible assumption); refine wc_sr ?_; refine wl_bin rfl rfl bin_eql rfl ?_; refine wl_as rfl rfl ?_; refine wl_ns ?_; apply wc_decF; exact rfl; (with_reducible assumption); refine wc_sr ?_; refine wl_bin rfl rfl bin_eql rfl ?_; refine wl_as rfl rfl ?_; refine wl_ns ?_; apply wc_decF; exact rfl; (with_reducible assumption); refine wc_sr ?_; refine wl_bin rfl rfl bin_eql rfl ?_; refine wl_as rfl rfl ?_; refine wl_ns ?_; apply wc_decT; exact rfl; (with_reducible assumption); refine wc_sr ?_; refine wl_as rfl rfl ?_; refine wl_ns ?_; refine wc_ret ?_; refine we_block_ret ?_; refine we_seq_ret ?_
    exact we_ret1 rfl rfl ⟨_, rfl, rfl, rfl⟩
  rw [if_neg h5]
  apply wc_decF; exact rfl; (with_reducible assumption); refine wc_sr ?_; refine wl_bin rfl rfl bin_eql rfl ?_; refine wl_as rfl rfl ?_; refine wl_ns ?_; apply wc_decF; exact rfl; (with_reducible assumption); refine wc_sr ?_; refine wl_bin rfl rfl bin_eql rfl ?_; refine wl_as rfl rfl ?_; refine wl_ns ?_; apply wc_decF; exact rfl; (with_reducible assumption); refine wc_sr ?_; refine wl_bin rfl rfl bin_eql rfl ?_; refine wl_as rfl rfl ?_; refine wl_ns ?_; apply wc_decF; exact rfl; (with_reducible assumption); refine wc_sr ?_; refine wl_bin rfl rfl bin_eql rfl ?_; refine wl_as rfl rfl ?_; refine wl_ns ?_; apply wc_decF; exact rfl; (with_reducible assumption); refine wc_skip ?_; refine we_block_norm ?_; refine we_seq ?_; refine wc_sr ?_; refine wl_as rfl rfl ?_; refine wl_ns ?_; refine wc_ret ?_
  exact we_ret1 rfl rfl ⟨_, rfl, rfl, rfl⟩
theorem usesT_any {l : By} {b : Bool} {x : Nat × Nat} {w : World} (hl : l.length ≤ 64) (h : l.contains 88 = b) : CallsV Try.prog 55 #[str l, .agg (txW x).toArray] w fun v w' => v = .agg (txW (if b then x else (0, 0))).toArray ∧ Below w.heap.size w w' := by
  have hs := St.init w
  refine calls_in (N := _) Try.func55 rfl Try.ntmps55 rfl ?_; show WC _ _ _ _ _ _
  refine wc_sr ?_
  refine ws_box (cs := txW x) hs rfl rfl ?_; clear hs; intro g3 _ hs
  skip
  refine ws_new hs zeroTx rfl ?_; clear hs; intro g4 _ hs
  refine wl_ns ?_; refine wc_seq ?_; refine wc_sr ?_; refine wl_mv rfl rfl ?_
  refine wl_call ok_caissonref24_Has (has_is (x := 88) hl rfl h) ⟨rfl, rfl, trivial⟩ rfl ?_
  rintro _ _ ⟨rfl, rfl⟩
  cases b with
  | true =>
    refine wl_ns ?_; apply wc_condTb; exact rfl; exact rfl; refine wc_sr ?_; apply wl_val; apply opv_loadX; exact rfl; exact hs.ar 1 rfl; exact sTxn; exact rfl; apply ws_stS hs 0; exact rfl; exact rfl; exact rfl; exact sTxn; exact rfl; exact rfl; clear hs; intro _ hs; dsimp only [setC] at hs; refine wl_ns ?_; refine wc_ret ?_; refine we_seq_ret ?_
    exact we_retC rfl rfl (hs.ar 0 rfl) sTxn ⟨_, rfl, rfl, hs.bel⟩
  | false =>
    refine wl_ns ?_; apply wc_condFb; exact rfl; exact rfl; refine wc_skip ?_; refine we_seq ?_; refine wc_sr ?_
    refine wl_val (opv_build (vs := []) (cs := txW (0, 0)) trivial (by kernel_rfl)) rfl ?_
    apply ws_stS hs 0; exact rfl; exact rfl; exact rfl; exact sTxn; exact rfl; exact rfl; clear hs; intro _ hs; dsimp only [setC] at hs; refine wl_ns ?_; refine wc_ret ?_
    exact we_retC rfl rfl (hs.ar 0 rfl) sTxn ⟨_, rfl, rfl, hs.bel⟩
set_option maxRecDepth 8000 in
theorem sameMsg_yes {m : MsgM} {E M E' M' : Option Addr} {ce cm ce' cm' : Nat} {w : World} (rE : RdR 2 w All E (m.ents.map etEl)) (rE' : RdR 2 w All E' (m.ents.map etEl)) (rM : RdB w M m.data) (rM' : RdB w M' m.data) (hl : m.data.length ≤ 1099511627776) (hle : m.ents.length ≤ 4294967296) (hb : ∀ e ∈ m.ents, e.2.length ≤ 1099511627776) :
    CallsV Try.prog 56 #[.agg (msV m E ce M cm).toArray, .agg (msV m E' ce' M' cm').toArray] w (RetTrue w) := by
  have hs := St.init w
  have hmax : maxLen = 9223372036854775807 := rfl
  refine calls_in (N := _) Try.func56 rfl Try.ntmps56 rfl ?_; show WC _ _ _ _ _ _
  refine wc_sr ?_
  dsimp only [List.append]
  refine ws_box (cs := msV m E ce M cm) hs rfl rfl ?_; clear hs; intro g2 _ hs
  refine ws_box (cs := msV m E' ce' M' cm') hs rfl rfl ?_; clear hs; intro g3 _ hs
  unfold msV at hs
  refine wl_as rfl rfl ?_; refine wl_ns ?_; refine wc_seq ?_; refine wc_sr ?_; apply wl_val; apply opv_fa; exact fa_sMs (by decide); exact rfl; exact rfl; apply wl_val; apply opv_ldX; exact rfl; exact hs.ar 1 rfl; exact g1_int; exact rfl; exact rfl; apply wl_val; apply opv_fa; exact fa_sMs (by decide); exact rfl; exact rfl; apply wl_val; apply opv_ldX; exact rfl; exact hs.ar 0 rfl; exact g1_int; exact rfl; exact rfl; refine wl_bin rfl rfl bin_neq rfl ?_; refine wl_mv rfl rfl ?_; apply wl_take; exact rfl; exact rfl; exact rfl; refine bF ?_; (with_reducible exact nne); apply wl_val; apply opv_fa; exact fa_sMs (by decide); exact rfl; exact rfl; apply wl_take; exact rfl; exact rfl; exact rfl; refine bF ?_; (with_reducible exact nne); apply wl_val; apply opv_ldX; exact rfl; exact hs.ar 1 rfl; exact g1_int; exact rfl; exact rfl; apply wl_take; exact rfl; exact rfl; exact rfl; refine bF ?_; (with_reducible exact nne); apply wl_val; apply opv_fa; exact fa_sMs (by decide); exact rfl; exact rfl; apply wl_take; exact rfl; exact rfl; exact rfl; refine bF ?_; (with_reducible exact nne); apply wl_val; apply opv_ldX; exact rfl; exact hs.ar 0 rfl; exact g1_int; exact rfl; exact rfl; apply wl_take; exact rfl; exact rfl; exact rfl; refine bF ?_; (with_reducible exact nne); refine wl_bin rfl rfl bin_neq rfl ?_; apply wl_val; apply opv_pickF; exact rfl; refine bF ?_; (with_reducible exact nne); exact rfl; exact rfl; refine wl_mv rfl rfl ?_; apply wl_take; exact rfl; exact rfl; exact rfl; refine bF ?_; (with_reducible exact nne); apply wl_val; apply opv_fa; exact fa_sMs (by decide); exact rfl; exact rfl; apply wl_take; exact rfl; exact rfl; exact rfl; refine bF ?_; (with_reducible exact nne); apply wl_val; apply opv_ldX; exact rfl; exact hs.ar 1 rfl; exact g1_int; exact rfl; exact rfl; apply wl_take; exact rfl; exact rfl; exact rfl; refine bF ?_; (with_reducible exact nne); apply wl_val; apply opv_fa; exact fa_sMs (by decide); exact rfl; exact rfl; apply wl_take; exact rfl; exact rfl; exact rfl; refine bF ?_; (with_reducible exact nne); apply wl_val; apply opv_ldX; exact rfl; exact hs.ar 0 rfl; exact g1_int; exact rfl; exact rfl; apply wl_take; exact rfl; exact rfl; exact rfl; refine bF ?_; (with_reducible exact nne); refine wl_bin rfl rfl bin_neq rfl ?_; apply wl_val; apply opv_pickF; exact rfl; refine bF ?_; (with_reducible exact nne); exact rfl; exact rfl; refine wl_mv rfl rfl ?_; apply wl_take; exact rfl; exact rfl; exact rfl; refine bF ?_; (with_reducible exact nne); apply wl_val; apply opv_fa; exact fa_sMs (by decide); exact rfl; exact rfl; apply wl_take; exact rfl; exact rfl; exact rfl; refine bF ?_; (with_reducible exact nne); apply wl_val; apply opv_ldX; exact rfl; exact hs.ar 1 rfl; exact g1_u64; exact rfl; exact rfl; apply wl_take; exact rfl; exact rfl; exact rfl; refine bF ?_; (with_reducible exact nne); apply wl_val; apply opv_fa; exact fa_sMs (by decide); exact rfl; exact rfl; apply wl_take; exact rfl; exact rfl; exact rfl; refine bF ?_; (with_reducible exact nne); apply wl_val; apply opv_ldX; exact rfl; exact hs.ar 0 rfl; exact g1_u64; exact rfl; exact rfl; apply wl_take; exact rfl; exact rfl; exact rfl; refine bF ?_; (with_reducible exact nne); refine wl_bin rfl rfl bin_neq rfl ?_; apply wl_val; apply opv_pickF; exact rfl; refine bF ?_; (with_reducible exact nne); exact rfl; exact rfl; refine wl_mv rfl rfl ?_; apply wl_take; exact rfl; exact rfl; exact rfl; refine bF ?_; (with_reducible exact nne); apply wl_val; apply opv_fa; exact fa_sMs (by decide); exact rfl; exact rfl; apply wl_take; exact rfl; exact rfl; exact rfl; refine bF ?_; (with_reducible exact nne); apply wl_val; apply opv_ldX; exact rfl; exact hs.ar 1 rfl; exact g1_u64; exact rfl; exact rfl; apply wl_take; exact rfl; exact rfl; exact rfl; refine bF ?_; (with_reducible exact nne); apply wl_val; apply opv_fa; exact fa_sMs (by decide); exact rfl; exact rfl; apply wl_take; exact rfl; exact rfl; exact rfl; refine bF ?_; (with_reducible exact nne); apply wl_val; apply opv_ldX; exact rfl; exact hs.ar 0 rfl; exact g1_u64; exact rfl; exact rfl; apply wl_take; exact rfl; exact rfl; exact rfl; refine bF ?_; (with_reducible exact nne); refine wl_bin rfl rfl bin_neq rfl ?_; apply wl_val; apply opv_pickF; exact rfl; refine bF ?_; (with_reducible exact nne); exact rfl; exact rfl; refine wl_mv rfl rfl ?_; apply wl_take; exact rfl; exact rfl; exact rfl; refine bF ?_; (with_reducible exact nne); apply wl_val; apply opv_fa; exact fa_sMs (by decide); exact rfl; exact rfl; apply wl_take; exact rfl; exact rfl; exact rfl; refine bF ?_; (with_reducible exact nne); apply wl_val; apply opv_ldX; exact rfl; exact hs.ar 1 rfl; exact g1_u64; exact rfl; exact rfl; apply wl_take; exact rfl; exact rfl; exact rfl; refine bF ?_; (with_reducible exact nne); apply wl_val; apply opv_fa; exact fa_sMs (by decide); exact rfl; exact rfl; apply wl_take; exact rfl; exact rfl; exact rfl; refine bF ?_; (with_reducible exact nne); apply wl_val; apply opv_ldX; exact rfl; exact hs.ar 0 rfl; exact g1_u64; exact rfl; exact rfl; apply wl_take; exact rfl; exact rfl; exact rfl; refine bF ?_; (with_reducible exact nne); refine wl_bin rfl rfl bin_neq rfl ?_; apply wl_val; apply opv_pickF; exact rfl; refine bF ?_; (with_reducible exact nne); exact rfl; exact rfl; refine wl_mv rfl rfl ?_; apply wl_take; exact rfl; exact rfl; exact rfl; refine bF ?_; (with_reducible exact nne); apply wl_val; apply opv_fa; exact fa_sMs (by decide); exact rfl; exact rfl; apply wl_take; exact rfl; exact rfl; exact rfl; refine bF ?_; (with_reducible exact nne); apply wl_val; apply opv_ldX; exact rfl; exact hs.ar 1 rfl; exact g1_u64; exact rfl; exact rfl; apply wl_take; exact rfl; exact rfl; exact rfl; refine bF ?_; (with_reducible exact nne); apply wl_val; apply opv_fa; exact fa_sMs (by decide); exact rfl; exact rfl; apply wl_take; exact rfl; exact rfl; exact rfl; refine bF ?_; (with_reducible exact nne); apply wl_val; apply opv_ldX; exact rfl; exact hs.ar 0 rfl; exact g1_u64; exact rfl; exact rfl; apply wl_take; exact rfl; exact rfl; exact rfl; refine bF ?_; (with_reducible exact nne); refine wl_bin rfl rfl bin_neq rfl ?_; apply wl_val; apply opv_pickF; exact rfl; refine bF ?_; (with_reducible exact nne); exact rfl; exact rfl; refine wl_mv rfl rfl ?_; apply wl_take; exact rfl; exact rfl; exact rfl; refine bF ?_; (with_reducible exact nne); apply wl_val; apply opv_fa; exact fa_sMs (by decide); exact rfl; exact rfl; apply wl_take; exact rfl; exact rfl; exact rfl; refine bF ?_; (with_reducible exact nne); apply wl_val; apply opv_ldX; exact rfl; exact hs.ar 1 rfl; exact g1_bool; exact rfl; exact rfl; apply wl_take; exact rfl; exact rfl; exact rfl; refine bF ?_; (with_reducible exact nne); apply wl_val; apply opv_fa; exact fa_sMs (by decide); exact rfl; exact rfl; apply wl_take; exact rfl; exact rfl; exact rfl; refine bF ?_; (with_reducible exact nne); apply wl_val; apply opv_ldX; exact rfl; exact hs.ar 0 rfl; exact g1_bool; exact rfl; exact rfl; apply wl_take; exact rfl; exact rfl; exact rfl; refine bF ?_; (with_reducible exact nne); apply wl_val; apply opv_bin; exact rfl; exact rfl; exact bin_neqBb tyBool24; exact rfl; apply wl_val; apply opv_pickF; exact rfl; refine bF ?_; (with_reducible exact nne); exact rfl; exact rfl; refine wl_mv rfl rfl ?_; apply wl_take; exact rfl; exact rfl; exact rfl; refine bF ?_; (with_reducible exact nne); apply wl_val; apply opv_fa; exact fa_sMs (by decide); exact rfl; exact rfl; apply wl_take; exact rfl; exact rfl; exact rfl; refine bF ?_; (with_reducible exact nne); apply wl_val; apply opv_ldX; exact rfl; exact hs.ar 1 rfl; exact g1_by; exact rfl; exact rfl; apply wl_take; exact rfl; exact rfl; exact rfl; refine bF ?_; (with_reducible exact nne); apply wl_val; apply opv_fa; exact fa_sMs (by decide); exact rfl; exact rfl; apply wl_take; exact rfl; exact rfl; exact rfl; refine bF ?_; (with_reducible exact nne); apply wl_val; apply opv_ldX; exact rfl; exact hs.ar 0 rfl; exact g1_by; exact rfl; exact rfl; apply wl_take; exact rfl; exact rfl; exact rfl; refine bF ?_; (with_reducible exact nne)
  refine wl_call ok_caissonref01_Equal (equal_yes rfl (rM.below hs.bel) (rM'.below hs.bel) rfl rfl (by omega)) ⟨rfl, rfl, trivial⟩ rfl ?_
  rintro _ _ ⟨rfl, hbx⟩
  replace hs := hs.below hbx
  clear hbx
  apply wl_take; exact rfl; exact rfl; exact rfl; refine bF ?_; (with_reducible exact nne); apply wl_val; apply opv_not; exact rfl; exact rfl; apply wl_val; apply opv_pickF; exact rfl; refine bF ?_; (with_reducible exact nne); exact rfl; exact rfl; refine wl_mv rfl rfl ?_; apply wl_take; exact rfl; exact rfl; exact rfl; exact Bool.not_true; apply wl_val; apply opv_fa; exact fa_sMs (by decide); exact rfl; exact rfl; apply wl_take; exact rfl; exact rfl; exact rfl; exact Bool.not_true; apply wl_val; apply opv_ldX; exact rfl; exact hs.ar 1 rfl; exact g1_ens; exact rfl; exact rfl; apply wl_take; exact rfl; exact rfl; exact rfl; exact Bool.not_true; apply wl_val; apply opv_len; exact rfl; exact tkEn.sl; exact rfl; apply wl_take; exact rfl; exact rfl; exact rfl; exact Bool.not_true; apply wl_val; apply opv_fa; exact fa_sMs (by decide); exact rfl; exact rfl; apply wl_take; exact rfl; exact rfl; exact rfl; exact Bool.not_true; apply wl_val; apply opv_ldX; exact rfl; exact hs.ar 0 rfl; exact g1_ens; exact rfl; exact rfl; apply wl_take; exact rfl; exact rfl; exact rfl; exact Bool.not_true; apply wl_val; apply opv_len; exact rfl; exact tkEn.sl; exact rfl; apply wl_take; exact rfl; exact rfl; exact rfl; exact Bool.not_true; refine wl_bin rfl rfl bin_neq rfl ?_; apply wl_val; apply opv_pickF; exact rfl; exact Bool.not_true; exact rfl; exact rfl; refine wl_ns ?_; apply wc_decF; exact rfl; (with_reducible exact nne); refine wc_skip ?_; refine we_seq ?_; refine wc_seq ?_; refine wc_sr ?_; apply wl_val; apply opv_fa; exact fa_sMs (by decide); exact rfl; exact rfl; apply wl_val; apply opv_ldX; exact rfl; exact hs.ar 1 rfl; exact g1_ens; exact rfl; exact rfl; apply wl_val; apply opv_len; exact rfl; exact tkEn.sl; exact rfl; refine wl_mv rfl rfl ?_; refine wl_ns ?_; refine wc_block ?_
  refine wc_loop (fun L wr q => ∃ k : Nat, L = [(2, .pointer (some ⟨g2, 0, none⟩)), (3, .pointer (some ⟨g3, 0, none⟩)), (79, .int .i64 (m.ents.length : Int)), (80, .int .i64 (k : Int))] ∧ k ≤ m.ents.length ∧ St NoB w wr [.blk g3 34 (msV m E' ce' M' cm'), .blk g2 34 (msV m E ce M cm)] ∧ q = m.ents.length - k)
    [(2, .pointer (some ⟨g2, 0, none⟩)), (3, .pointer (some ⟨g3, 0, none⟩)), (79, .int .i64 (m.ents.length : Int)), (80, .int .i64 (0 : Nat))] m.ents.length ⟨0, rfl, by omega, hs, rfl⟩ ⟨rfl, rfl, rfl, rfl, trivial⟩ ?_
  clear hs
  rintro _ w1 q ⟨k, rfl, hk, hs, rfl⟩
  refine wc_sr ?_; refine wl_bin rfl rfl bin_lss rfl ?_; refine wl_ns ?_; refine wc_seq ?_
  refine wc_cond rfl (fun h1 => ?_) (fun h1 => ?_)
  · obtain ⟨e, he⟩ : ∃ e, m.ents[k]? = some e := ⟨_, List.getElem?_eq_getElem (by omega)⟩
    obtain ⟨b1, o1, cs, rfl, _, _, ⟨X, cx, rfl, hx⟩, i1⟩ := RdR.at (k := 2) (by decide) rE (E := etEl e) (i := k) (by rw [List.getElem?_map, he]; rfl)
    obtain ⟨b2, o2, cs, rfl, _, _, ⟨Y, cy, rfl, hy⟩, i2⟩ := RdR.at (k := 2) (by decide) rE' (E := etEl e) (i := k) (by rw [List.getElem?_map, he]; rfl)
    have rx := (by_rd hx).1.below hs.bel
    have ry := (by_rd hy).1.below hs.bel
    have hel := hb e (List.mem_of_getElem? he)
    replace i1 := i1.below hs.bel
    replace i2 := i2.below hs.bel
    have a2 := hs.ar 1 rfl
    have a3 := hs.ar 0 rfl
    unfold enV at i1 i2
    unfold msV at a2 a3
    have hq : ∀ w', Below w1.heap.size w1 w' → CallsV Try.prog 13 #[.slice X e.2.length cx, .slice Y e.2.length cy] w' fun v w2 => v = .bool true ∧ Below w1.heap.size w1 w2 := fun w' hw => (equal_yes rfl (RdB.below rx hw) (RdB.below ry hw) rfl rfl (by have := hel; omega)).mono fun v w2 ⟨hv, h2⟩ => ⟨hv, hw.trans (h2.mono hw.size)⟩
    refine wc_skip ?_; refine we_seq ?_; refine wc_seq ?_; refine wc_block ?_; refine wc_sr ?_; refine wl_mv rfl rfl ?_; refine wl_as rfl rfl ?_; refine wl_ns ?_; refine wc_seq ?_
    refine wc_drawB mixed (by kernel_rfl) ?_
    apply wq_val; intro _ hw_; apply opv_fa; exact fa_sMs (by decide); exact rfl; exact rfl; apply wq_val; intro _ hw_; apply opv_ldX; exact rfl; exact Ar.bel (by assumption) hw_; exact g1_ens; exact rfl; exact rfl; apply wq_val; intro _ hw_; apply opv_move; exact rfl; exact rfl; apply wq_val; intro _ hw_; apply opv_idxG tkEn; exact rfl; exact rfl; exact rfl; omega; exact rfl; apply wq_val; intro _ hw_; apply opv_fa; exact fa_sEn (by decide); exact rfl; exact rfl; apply wq_val; intro _ hw_; apply opv_ldW; exact rfl; exact Wi.below (by assumption) hw_; exact g1_u64; exact rfl; exact rfl; apply wq_val; intro _ hw_; apply opv_fa; exact fa_sMs (by decide); exact rfl; exact rfl; apply wq_val; intro _ hw_; apply opv_ldX; exact rfl; exact Ar.bel (by assumption) hw_; exact g1_ens; exact rfl; exact rfl; apply wq_val; intro _ hw_; apply opv_move; exact rfl; exact rfl; apply wq_val; intro _ hw_; apply opv_idxG tkEn; exact rfl; exact rfl; exact rfl; omega; exact rfl; apply wq_val; intro _ hw_; apply opv_fa; exact fa_sEn (by decide); exact rfl; exact rfl; apply wq_val; intro _ hw_; apply opv_ldW; exact rfl; exact Wi.below (by assumption) hw_; exact g1_u64; exact rfl; exact rfl; apply wq_val; intro _ hw_; apply opv_bin; exact rfl; exact rfl; exact bin_neq; exact rfl; apply wq_val; intro _ hw_; apply opv_move; exact rfl; exact rfl; apply wq_take; exact rfl; exact rfl; exact rfl; refine bF ?_; (with_reducible exact nne); apply wq_val; intro _ hw_; apply opv_fa; exact fa_sMs (by decide); exact rfl; exact rfl; apply wq_take; exact rfl; exact rfl; exact rfl; refine bF ?_; (with_reducible exact nne); apply wq_val; intro _ hw_; apply opv_ldX; exact rfl; exact Ar.bel (by assumption) hw_; exact g1_ens; exact rfl; exact rfl; apply wq_take; exact rfl; exact rfl; exact rfl; refine bF ?_; (with_reducible exact nne); apply wq_val; intro _ hw_; apply opv_move; exact rfl; exact rfl; apply wq_take; exact rfl; exact rfl; exact rfl; refine bF ?_; (with_reducible exact nne); apply wq_val; intro _ hw_; apply opv_idxG tkEn; exact rfl; exact rfl; exact rfl; omega; exact rfl; apply wq_take; exact rfl; exact rfl; exact rfl; refine bF ?_; (with_reducible exact nne); apply wq_val; intro _ hw_; apply opv_fa; exact fa_sEn (by decide); exact rfl; exact rfl; apply wq_take; exact rfl; exact rfl; exact rfl; refine bF ?_; (with_reducible exact nne); apply wq_val; intro _ hw_; apply opv_ldW; exact rfl; exact Wi.below (by assumption) hw_; exact g1_by; exact rfl; exact rfl; apply wq_take; exact rfl; exact rfl; exact rfl; refine bF ?_; (with_reducible exact nne); apply wq_val; intro _ hw_; apply opv_fa; exact fa_sMs (by decide); exact rfl; exact rfl; apply wq_take; exact rfl; exact rfl; exact rfl; refine bF ?_; (with_reducible exact nne); apply wq_val; intro _ hw_; apply opv_ldX; exact rfl; exact Ar.bel (by assumption) hw_; exact g1_ens; exact rfl; exact rfl; apply wq_take; exact rfl; exact rfl; exact rfl; refine bF ?_; (with_reducible exact nne); apply wq_val; intro _ hw_; apply opv_move; exact rfl; exact rfl; apply wq_take; exact rfl; exact rfl; exact rfl; refine bF ?_; (with_reducible exact nne); apply wq_val; intro _ hw_; apply opv_idxG tkEn; exact rfl; exact rfl; exact rfl; omega; exact rfl; apply wq_take; exact rfl; exact rfl; exact rfl; refine bF ?_; (with_reducible exact nne); apply wq_val; intro _ hw_; apply opv_fa; exact fa_sEn (by decide); exact rfl; exact rfl; apply wq_take; exact rfl; exact rfl; exact rfl; refine bF ?_; (with_reducible exact nne); apply wq_val; intro _ hw_; apply opv_ldW; exact rfl; exact Wi.below (by assumption) hw_; exact g1_by; exact rfl; exact rfl; apply wq_take; exact rfl; exact rfl; exact rfl; refine bF ?_; (with_reducible exact nne)
    refine wq_call (v := .bool true) ok_caissonref01_Equal hq ⟨rfl, rfl, trivial⟩ rfl ?_
    apply wq_take; exact rfl; exact rfl; exact rfl; refine bF ?_; (with_reducible exact nne); apply wq_val; intro _ hw_; apply opv_not; exact rfl; exact rfl; apply wq_val; intro _ hw_; apply opv_pickF; exact rfl; refine bF ?_; (with_reducible exact nne); exact rfl; exact rfl; refine wq_nil fun w1 hw1 => ?_
    replace hs := hs.below hw1
    refine we_seq ?_; apply wc_condFb; exact rfl; exact Bool.not_true; refine wc_skip ?_; refine we_block_norm ?_; refine we_seq ?_; refine wc_region ?_; apply wl_val; apply opv_bin; exact rfl; exact rfl; exact bin_add64 (by omega); exact rfl; refine wl_mv rfl rfl ?_; refine wl_nil ?_
    refine we_loop _ (m.ents.length - (k + 1)) ⟨k + 1, rfl, by omega, hs, rfl⟩ (by omega) ⟨rfl, rfl, rfl, by simp [lookT], trivial⟩
  · refine wc_exit ?_; refine we_seq_exit ?_; refine we_loop_exit ?_; refine we_block_exit ?_; refine we_seq ?_; refine wc_sr ?_; refine wl_as rfl rfl ?_; refine wl_ns ?_; refine wc_ret ?_
    exact we_ret1 rfl rfl ⟨_, rfl, rfl, hs.bel⟩
theorem same13_yes {A B : Option Addr} {n m c d : Nat} {l : List PairM} {w : World} (hr : RdR 2 w All A (l.map prEl)) (hs : RdR 2 w All B (l.map prEl)) (hn : l.length = n) (hm : l.length = m) (hl : l.length ≤ 4294967296) (hb : ∀ x ∈ l, x.1.length ≤ 1099511627776 ∧ x.2.length ≤ 1099511627776) :
    CallsV Try.prog 80 #[.slice A n c, .slice B m d] w (RetTrue w) := by
  subst hn hm
  have hmax : maxLen = 9223372036854775807 := rfl
  refine calls_in (N := _) Try.func80 rfl Try.ntmps80 rfl ?_; show WC _ _ _ _ _ _
  refine wc_sr ?_; refine wl_as rfl rfl ?_; refine wl_ns ?_; refine wc_seq ?_; refine wc_sr ?_; refine wl_mv rfl rfl ?_; apply wl_val; apply opv_len; exact rfl; exact tkPr.sl; exact rfl; refine wl_mv rfl rfl ?_; apply wl_val; apply opv_len; exact rfl; exact tkPr.sl; exact rfl; refine wl_bin rfl rfl bin_neq rfl ?_; refine wl_ns ?_; apply wc_decF; exact rfl; (with_reducible exact nne); refine wc_skip ?_; refine we_seq ?_; refine wc_seq ?_; refine wc_sr ?_; refine wl_as rfl rfl ?_; refine wl_ns ?_; refine wc_block ?_
  refine wc_loop (fun L wr q => ∃ k : Nat, L = [(0, .slice A l.length c), (1, .slice B l.length d), (5, .int .i64 (k : Int))] ∧ k ≤ l.length ∧ Below w.heap.size w wr ∧ q = l.length - k)
    [(0, .slice A l.length c), (1, .slice B l.length d), (5, .int .i64 (0 : Nat))] l.length ⟨0, rfl, by omega, Below.refl _ _, rfl⟩ ⟨rfl, rfl, rfl, trivial⟩ ?_
  rintro _ w1 q ⟨k, rfl, hk, hbw, rfl⟩
  refine wc_seq ?_; refine wc_sr ?_; refine wl_mv rfl rfl ?_; refine wl_mv rfl rfl ?_; apply wl_val; apply opv_len; exact rfl; exact tkPr.sl; exact rfl; refine wl_bin rfl rfl bin_lss rfl ?_; refine wl_ns ?_
  refine wc_cond rfl (fun h1 => ?_) (fun h1 => ?_)
  · obtain ⟨x, hx⟩ : ∃ x, l[k]? = some x := ⟨_, List.getElem?_eq_getElem (by omega)⟩
    obtain ⟨b1, o1, cs, rfl, _, _, ⟨X, x1, Y, y1, rfl, hx1, hy1⟩, i1⟩ := RdR.at (k := 2) (by decide) hr (E := prEl x) (i := k) (by rw [List.getElem?_map, hx]; rfl)
    obtain ⟨b2, o2, cs, rfl, _, _, ⟨Z, z1, V, v1, rfl, hz1, hv1⟩, i2⟩ := RdR.at (k := 2) (by decide) hs (E := prEl x) (i := k) (by rw [List.getElem?_map, hx]; rfl)
    have rx := (by_rd hx1).1.below hbw
    have ry := (by_rd hy1).1.below hbw
    have rz := (by_rd hz1).1.below hbw
    have rv := (by_rd hv1).1.below hbw
    have hel := hb x (List.mem_of_getElem? hx)
    replace i1 := i1.below hbw
    replace i2 := i2.below hbw
    unfold prV at i1 i2
    have hq : ∀ w', Below w1.heap.size w1 w' → CallsV Try.prog 13 #[.slice X x.1.length x1, .slice Z x.1.length z1] w' fun v w2 => v = .bool true ∧ Below w1.heap.size w1 w2 := fun w' hw => (equal_yes rfl (RdB.below rx hw) (RdB.below rz hw) rfl rfl (by have := hel; omega)).mono fun v w2 ⟨hv, h2⟩ => ⟨hv, hw.trans (h2.mono hw.size)⟩
    have hq2 : ∀ w', Below w1.heap.size w1 w' → CallsV Try.prog 13 #[.slice Y x.2.length y1, .slice V x.2.length v1] w' fun v w2 => v = .bool true ∧ Below w1.heap.size w1 w2 := fun w' hw => (equal_yes rfl (RdB.below ry hw) (RdB.below rv hw) rfl rfl (by have := hel; omega)).mono fun v w2 ⟨hv, h2⟩ => ⟨hv, hw.trans (h2.mono hw.size)⟩
    refine wc_skip ?_; refine we_seq ?_; refine wc_seq ?_; refine wc_block ?_; refine wc_seq ?_
    refine wc_drawB mixed (by kernel_rfl) ?_
    try dsimp only [List.append]
    apply wq_val; intro _ hw_; apply opv_move; exact rfl; exact rfl; apply wq_val; intro _ hw_; apply opv_move; exact rfl; exact rfl; apply wq_val; intro _ hw_; apply opv_idxG tkPr; exact rfl; exact rfl; exact rfl; omega; exact rfl; apply wq_val; intro _ hw_; apply opv_fa; exact fa_sPr (by decide); exact rfl; exact rfl; apply wq_val; intro _ hw_; apply opv_ldW; exact rfl; exact Wi.below (by assumption) hw_; exact g1_by; exact rfl; exact rfl; apply wq_val; intro _ hw_; apply opv_move; exact rfl; exact rfl; apply wq_val; intro _ hw_; apply opv_move; exact rfl; exact rfl; apply wq_val; intro _ hw_; apply opv_idxG tkPr; exact rfl; exact rfl; exact rfl; omega; exact rfl; apply wq_val; intro _ hw_; apply opv_fa; exact fa_sPr (by decide); exact rfl; exact rfl; apply wq_val; intro _ hw_; apply opv_ldW; exact rfl; exact Wi.below (by assumption) hw_; exact g1_by; exact rfl; exact rfl
    refine wq_call (v := .bool true) ok_caissonref01_Equal hq ⟨rfl, rfl, trivial⟩ rfl ?_
    apply wq_val; intro _ hw_; apply opv_not; exact rfl; exact rfl; apply wq_val; intro _ hw_; apply opv_move; exact rfl; exact rfl; apply wq_take; exact rfl; exact rfl; exact rfl; exact Bool.not_true; apply wq_val; intro _ hw_; apply opv_move; exact rfl; exact rfl; apply wq_take; exact rfl; exact rfl; exact rfl; exact Bool.not_true; apply wq_val; intro _ hw_; apply opv_move; exact rfl; exact rfl; apply wq_take; exact rfl; exact rfl; exact rfl; exact Bool.not_true; apply wq_val; intro _ hw_; apply opv_idxG tkPr; exact rfl; exact rfl; exact rfl; omega; exact rfl; apply wq_take; exact rfl; exact rfl; exact rfl; exact Bool.not_true; apply wq_val; intro _ hw_; apply opv_fa; exact fa_sPr (by decide); exact rfl; exact rfl; apply wq_take; exact rfl; exact rfl; exact rfl; exact Bool.not_true; apply wq_val; intro _ hw_; apply opv_ldW; exact rfl; exact Wi.below (by assumption) hw_; exact g1_by; exact rfl; exact rfl; apply wq_take; exact rfl; exact rfl; exact rfl; exact Bool.not_true; apply wq_val; intro _ hw_; apply opv_move; exact rfl; exact rfl; apply wq_take; exact rfl; exact rfl; exact rfl; exact Bool.not_true; apply wq_val; intro _ hw_; apply opv_move; exact rfl; exact rfl; apply wq_take; exact rfl; exact rfl; exact rfl; exact Bool.not_true; apply wq_val; intro _ hw_; apply opv_idxG tkPr; exact rfl; exact rfl; exact rfl; omega; exact rfl; apply wq_take; exact rfl; exact rfl; exact rfl; exact Bool.not_true; apply wq_val; intro _ hw_; apply opv_fa; exact fa_sPr (by decide); exact rfl; exact rfl; apply wq_take; exact rfl; exact rfl; exact rfl; exact Bool.not_true; apply wq_val; intro _ hw_; apply opv_ldW; exact rfl; exact Wi.below (by assumption) hw_; exact g1_by; exact rfl; exact rfl; apply wq_take; exact rfl; exact rfl; exact rfl; exact Bool.not_true
    refine wq_call (v := .bool true) ok_caissonref01_Equal hq2 ⟨rfl, rfl, trivial⟩ rfl ?_
    apply wq_take; exact rfl; exact rfl; exact rfl; exact Bool.not_true; apply wq_val; intro _ hw_; apply opv_not; exact rfl; exact rfl; apply wq_val; intro _ hw_; apply opv_pickF; exact rfl; exact Bool.not_true; exact rfl; exact rfl; refine wq_nil fun w1 hw1 => ?_
    replace hbw := hbw.trans (hw1.mono hbw.size)
    refine we_seq ?_; apply wc_condFb; exact rfl; exact Bool.not_true; refine wc_skip ?_; refine we_block_norm ?_; refine we_seq ?_; refine wc_region ?_; refine wl_mv rfl rfl ?_; apply wl_val; apply opv_bin; exact rfl; exact rfl; exact bin_add64 (by omega); exact rfl; refine wl_as rfl rfl ?_; refine wl_nil ?_
    refine we_loop _ (l.length - (k + 1)) ⟨k + 1, rfl, by omega, hbw, rfl⟩ (by omega) ⟨rfl, rfl, by simp [lookT], trivial⟩
  · refine wc_exit ?_; refine we_seq_exit ?_; refine we_loop_exit ?_; refine we_block_exit ?_; refine we_seq ?_; refine wc_sr ?_; refine wl_as rfl rfl ?_; refine wl_ns ?_; refine wc_ret ?_
    exact we_ret1 rfl rfl ⟨_, rfl, rfl, hbw⟩
theorem sameWr_yes {A B : Option Addr} {n m c d : Nat} {l : List WrM} {w : World} (hr : RdR 3 w All A (l.map wrEl)) (hs : RdR 3 w All B (l.map wrEl)) (hn : l.length = n) (hm : l.length = m) (hl : l.length ≤ 4294967296) (hb : ∀ x ∈ l, x.key.length ≤ 1099511627776 ∧ x.val.length ≤ 1099511627776) :
    CallsV Try.prog 81 #[.slice A n c, .slice B m d] w (RetTrue w) := by
  subst hn hm
  have hmax : maxLen = 9223372036854775807 := rfl
  refine calls_in (N := _) Try.func81 rfl Try.ntmps81 rfl ?_; show WC _ _ _ _ _ _
  refine wc_sr ?_; refine wl_as rfl rfl ?_; refine wl_ns ?_; refine wc_seq ?_; refine wc_sr ?_; refine wl_mv rfl rfl ?_; apply wl_val; apply opv_len; exact rfl; exact tkWr.sl; exact rfl; refine wl_mv rfl rfl ?_; apply wl_val; apply opv_len; exact rfl; exact tkWr.sl; exact rfl; refine wl_bin rfl rfl bin_neq rfl ?_; refine wl_ns ?_; apply wc_decF; exact rfl; (with_reducible exact nne); refine wc_skip ?_; refine we_seq ?_; refine wc_seq ?_; refine wc_sr ?_; refine wl_as rfl rfl ?_; refine wl_ns ?_; refine wc_block ?_
  refine wc_loop (fun L wr q => ∃ k : Nat, L = [(0, .slice A l.length c), (1, .slice B l.length d), (5, .int .i64 (k : Int))] ∧ k ≤ l.length ∧ Below w.heap.size w wr ∧ q = l.length - k)
    [(0, .slice A l.length c), (1, .slice B l.length d), (5, .int .i64 (0 : Nat))] l.length ⟨0, rfl, by omega, Below.refl _ _, rfl⟩ ⟨rfl, rfl, rfl, trivial⟩ ?_
  rintro _ w1 q ⟨k, rfl, hk, hbw, rfl⟩
  refine wc_seq ?_; refine wc_sr ?_; refine wl_mv rfl rfl ?_; refine wl_mv rfl rfl ?_; apply wl_val; apply opv_len; exact rfl; exact tkWr.sl; exact rfl; refine wl_bin rfl rfl bin_lss rfl ?_; refine wl_ns ?_
  refine wc_cond rfl (fun h1 => ?_) (fun h1 => ?_)
  · obtain ⟨x, hx⟩ : ∃ x, l[k]? = some x := ⟨_, List.getElem?_eq_getElem (by omega)⟩
    obtain ⟨b1, o1, cs, rfl, _, _, ⟨X, x1, Y, y1, rfl, hx1, hy1⟩, i1⟩ := RdR.at (k := 3) (by decide) hr (E := wrEl x) (i := k) (by rw [List.getElem?_map, hx]; rfl)
    obtain ⟨b2, o2, cs, rfl, _, _, ⟨Z, z1, V, v1, rfl, hz1, hv1⟩, i2⟩ := RdR.at (k := 3) (by decide) hs (E := wrEl x) (i := k) (by rw [List.getElem?_map, hx]; rfl)
    have rx := (by_rd hx1).1.below hbw
    have ry := (by_rd hy1).1.below hbw
    have rz := (by_rd hz1).1.below hbw
    have rv := (by_rd hv1).1.below hbw
    have hel := hb x (List.mem_of_getElem? hx)
    replace i1 := i1.below hbw
    replace i2 := i2.below hbw
    unfold wrV at i1 i2
    have hq : ∀ w', Below w1.heap.size w1 w' → CallsV Try.prog 13 #[.slice X x.key.length x1, .slice Z x.key.length z1] w' fun v w2 => v = .bool true ∧ Below w1.heap.size w1 w2 := fun w' hw => (equal_yes rfl (RdB.below rx hw) (RdB.below rz hw) rfl rfl (by have := hel; omega)).mono fun v w2 ⟨hv, h2⟩ => ⟨hv, hw.trans (h2.mono hw.size)⟩
    have hq2 : ∀ w', Below w1.heap.size w1 w' → CallsV Try.prog 13 #[.slice Y x.val.length y1, .slice V x.val.length v1] w' fun v w2 => v = .bool true ∧ Below w1.heap.size w1 w2 := fun w' hw => (equal_yes rfl (RdB.below ry hw) (RdB.below rv hw) rfl rfl (by have := hel; omega)).mono fun v w2 ⟨hv, h2⟩ => ⟨hv, hw.trans (h2.mono hw.size)⟩
    refine wc_skip ?_; refine we_seq ?_; refine wc_seq ?_; refine wc_block ?_; refine wc_seq ?_
    refine wc_drawB mixed (by kernel_rfl) ?_
    try dsimp only [List.append]
    apply wq_val; intro _ hw_; apply opv_move; exact rfl; exact rfl; apply wq_val; intro _ hw_; apply opv_move; exact rfl; exact rfl; apply wq_val; intro _ hw_; apply opv_idxG tkWr; exact rfl; exact rfl; exact rfl; omega; exact rfl; apply wq_val; intro _ hw_; apply opv_fa; exact fa_sWr (by decide); exact rfl; exact rfl; apply wq_val; intro _ hw_; apply opv_ldW; exact rfl; exact Wi.below (by assumption) hw_; exact g1_by; exact rfl; exact rfl; apply wq_val; intro _ hw_; apply opv_move; exact rfl; exact rfl; apply wq_val; intro _ hw_; apply opv_move; exact rfl; exact rfl; apply wq_val; intro _ hw_; apply opv_idxG tkWr; exact rfl; exact rfl; exact rfl; omega; exact rfl; apply wq_val; intro _ hw_; apply opv_fa; exact fa_sWr (by decide); exact rfl; exact rfl; apply wq_val; intro _ hw_; apply opv_ldW; exact rfl; exact Wi.below (by assumption) hw_; exact g1_by; exact rfl; exact rfl
    refine wq_call (v := .bool true) ok_caissonref01_Equal hq ⟨rfl, rfl, trivial⟩ rfl ?_
    apply wq_val; intro _ hw_; apply opv_not; exact rfl; exact rfl; apply wq_val; intro _ hw_; apply opv_move; exact rfl; exact rfl; apply wq_take; exact rfl; exact rfl; exact rfl; exact Bool.not_true; apply wq_val; intro _ hw_; apply opv_move; exact rfl; exact rfl; apply wq_take; exact rfl; exact rfl; exact rfl; exact Bool.not_true; apply wq_val; intro _ hw_; apply opv_move; exact rfl; exact rfl; apply wq_take; exact rfl; exact rfl; exact rfl; exact Bool.not_true; apply wq_val; intro _ hw_; apply opv_idxG tkWr; exact rfl; exact rfl; exact rfl; omega; exact rfl; apply wq_take; exact rfl; exact rfl; exact rfl; exact Bool.not_true; apply wq_val; intro _ hw_; apply opv_fa; exact fa_sWr (by decide); exact rfl; exact rfl; apply wq_take; exact rfl; exact rfl; exact rfl; exact Bool.not_true; apply wq_val; intro _ hw_; apply opv_ldW; exact rfl; exact Wi.below (by assumption) hw_; exact g1_by; exact rfl; exact rfl; apply wq_take; exact rfl; exact rfl; exact rfl; exact Bool.not_true; apply wq_val; intro _ hw_; apply opv_move; exact rfl; exact rfl; apply wq_take; exact rfl; exact rfl; exact rfl; exact Bool.not_true; apply wq_val; intro _ hw_; apply opv_move; exact rfl; exact rfl; apply wq_take; exact rfl; exact rfl; exact rfl; exact Bool.not_true; apply wq_val; intro _ hw_; apply opv_idxG tkWr; exact rfl; exact rfl; exact rfl; omega; exact rfl; apply wq_take; exact rfl; exact rfl; exact rfl; exact Bool.not_true; apply wq_val; intro _ hw_; apply opv_fa; exact fa_sWr (by decide); exact rfl; exact rfl; apply wq_take; exact rfl; exact rfl; exact rfl; exact Bool.not_true; apply wq_val; intro _ hw_; apply opv_ldW; exact rfl; exact Wi.below (by assumption) hw_; exact g1_by; exact rfl; exact rfl; apply wq_take; exact rfl; exact rfl; exact rfl; exact Bool.not_true
    refine wq_call (v := .bool true) ok_caissonref01_Equal hq2 ⟨rfl, rfl, trivial⟩ rfl ?_
    apply wq_take; exact rfl; exact rfl; exact rfl; exact Bool.not_true; apply wq_val; intro _ hw_; apply opv_not; exact rfl; exact rfl; apply wq_val; intro _ hw_; apply opv_pickF; exact rfl; exact Bool.not_true; exact rfl; exact rfl; apply wq_val; intro _ hw_; apply opv_move; exact rfl; exact rfl; apply wq_take; exact rfl; exact rfl; exact rfl; exact Bool.not_true; apply wq_val; intro _ hw_; apply opv_move; exact rfl; exact rfl; apply wq_take; exact rfl; exact rfl; exact rfl; exact Bool.not_true; apply wq_val; intro _ hw_; apply opv_move; exact rfl; exact rfl; apply wq_take; exact rfl; exact rfl; exact rfl; exact Bool.not_true; apply wq_val; intro _ hw_; apply opv_idxG tkWr; exact rfl; exact rfl; exact rfl; omega; exact rfl; apply wq_take; exact rfl; exact rfl; exact rfl; exact Bool.not_true; apply wq_val; intro _ hw_; apply opv_fa; exact fa_sWr (by decide); exact rfl; exact rfl; apply wq_take; exact rfl; exact rfl; exact rfl; exact Bool.not_true; apply wq_val; intro _ hw_; apply opv_ldW; exact rfl; exact Wi.below (by assumption) hw_; exact g1_bool; exact rfl; exact rfl; apply wq_take; exact rfl; exact rfl; exact rfl; exact Bool.not_true; apply wq_val; intro _ hw_; apply opv_move; exact rfl; exact rfl; apply wq_take; exact rfl; exact rfl; exact rfl; exact Bool.not_true; apply wq_val; intro _ hw_; apply opv_move; exact rfl; exact rfl; apply wq_take; exact rfl; exact rfl; exact rfl; exact Bool.not_true; apply wq_val; intro _ hw_; apply opv_idxG tkWr; exact rfl; exact rfl; exact rfl; omega; exact rfl; apply wq_take; exact rfl; exact rfl; exact rfl; exact Bool.not_true; apply wq_val; intro _ hw_; apply opv_fa; exact fa_sWr (by decide); exact rfl; exact rfl; apply wq_take; exact rfl; exact rfl; exact rfl; exact Bool.not_true; apply wq_val; intro _ hw_; apply opv_ldW; exact rfl; exact Wi.below (by assumption) hw_; exact g1_bool; exact rfl; exact rfl; apply wq_take; exact rfl; exact rfl; exact rfl; exact Bool.not_true; apply wq_val; intro _ hw_; apply opv_bin; exact rfl; exact rfl; exact bin_neqBb tyBool24; exact rfl; apply wq_val; intro _ hw_; apply opv_pickF; exact rfl; exact Bool.not_true; exact rfl; exact rfl; refine wq_nil fun w1 hw1 => ?_
    replace hbw := hbw.trans (hw1.mono hbw.size)
    refine we_seq ?_; apply wc_decF; exact rfl; (with_reducible exact nne); refine wc_skip ?_; refine we_block_norm ?_; refine we_seq ?_; refine wc_region ?_; refine wl_mv rfl rfl ?_; apply wl_val; apply opv_bin; exact rfl; exact rfl; exact bin_add64 (by omega); exact rfl; refine wl_as rfl rfl ?_; refine wl_nil ?_
    refine we_loop _ (l.length - (k + 1)) ⟨k + 1, rfl, by omega, hbw, rfl⟩ (by omega) ⟨rfl, rfl, by simp [lookT], trivial⟩
  · refine wc_exit ?_; refine we_seq_exit ?_; refine we_loop_exit ?_; refine we_block_exit ?_; refine we_seq ?_; refine wc_sr ?_; refine wl_as rfl rfl ?_; refine wl_ns ?_; refine wc_ret ?_
    exact we_ret1 rfl rfl ⟨_, rfl, rfl, hbw⟩
end Go.Proofs.Ytaacnknniaipmaa

/-
  Walks over the comparison of packets.
-/
namespace Go.Proofs.Ytaacnknniaipmaa
open Go.RowKit

def zRc : List Value := [.bool false, .int .u64 0, .slice none 0 0, .slice none 0 0]
theorem zeroRc : (Try.prog.info? 38).map (·.zero) = some (some (.agg zRc.toArray)) := by kernel_rfl
set_option maxRecDepth 8000 in
theorem sameRes_yes {r : ResM} {P W Y P' W' Y' : Option Addr} {cp cw cy cp' cw' cy' : Nat} {w : World} (rP : RdR 2 w All P (r.pairs.map prEl)) (rP' : RdR 2 w All P' (r.pairs.map prEl)) (rW : RdR 3 w All W (r.writes.map wrEl)) (rW' : RdR 3 w All W' (r.writes.map wrEl)) (rY : RdB w Y r.reply) (rY' : RdB w Y' r.reply)
    (hlp : r.pairs.length ≤ 4294967296) (hbp : ∀ x ∈ r.pairs, x.1.length ≤ 1099511627776 ∧ x.2.length ≤ 1099511627776) (hlw : r.writes.length ≤ 4294967296) (hbw : ∀ x ∈ r.writes, x.key.length ≤ 1099511627776 ∧ x.val.length ≤ 1099511627776) (hly : r.reply.length ≤ 1099511627776) :
    CallsV Try.prog 57 #[.agg (reV r P cp W cw Y cy).toArray, .agg (reV r P' cp' W' cw' Y' cy').toArray] w (RetTrue w) := by
  have hs := St.init w
  have hmax : maxLen = 9223372036854775807 := rfl
  refine calls_in (N := _) Try.func57 rfl Try.ntmps57 rfl ?_; show WC _ _ _ _ _ _
  refine wc_sr ?_
  refine ws_box (cs := reV r P cp W cw Y cy) hs rfl rfl ?_; clear hs; intro g2 _ hs
  refine ws_box (cs := reV r P' cp' W' cw' Y' cy') hs rfl rfl ?_; clear hs; intro g3 _ hs
  refine wl_as rfl rfl ?_; refine wl_ns ?_; refine wc_seq ?_
  refine wc_cutE (fun L w' => ∃ g5 g6 : Nat, L = [(2, .pointer (some ⟨g2, 0, none⟩)), (3, .pointer (some ⟨g3, 0, none⟩)), (5, .pointer (some ⟨g5, 0, none⟩)), (6, .pointer (some ⟨g6, 0, none⟩))] ∧
    St NoB w w' [.blk g5 38 [.bool r.commit, .int .u64 (r.rts : Int), .slice W r.writes.length cw, .slice Y r.reply.length cy], .blk g6 38 [.bool r.commit, .int .u64 (r.rts : Int), .slice W' r.writes.length cw', .slice Y' r.reply.length cy'], .blk g3 40 (reV r P' cp' W' cw' Y' cy'), .blk g2 40 (reV r P cp W cw Y cy)]) ?_ ?_
  · refine wc_heldG (fun w' => Ar w' g2 40 (reV r P cp W cw Y cy) ∧ Ar w' g3 40 (reV r P' cp' W' cw' Y' cy')) 7 mixed ?_
    replace hs := hs.below (Below.refl _ _).drew
    have hS := And.intro (hs.ar 1 rfl) (hs.ar 0 rfl)
    apply wm_take 0; exact rfl; intro _ hw_; apply opv_fa; exact fa_sRe (by decide); exact rfl; exact rfl; kernel_rfl; exact hS
    refine wm_take 1 rfl (fun w' hw => opv_ldG (cs := [.bool r.commit, .int .u64 (r.rts : Int), .slice W r.writes.length cw, .slice Y r.reply.length cy]) rfl (ar_wiP hw.1 4 [.bool r.commit, .int .u64 (r.rts : Int), .slice W r.writes.length cw, .slice Y r.reply.length cy] (fun j u hu => by
      match j, hu with
      | 0, hu => exact hu
      | 1, hu => exact hu
      | 2, hu => exact hu
      | 3, hu => exact hu)) sRc) rfl (by kernel_rfl) hS ?_
    apply wm_take 2; exact rfl; intro _ hw_; apply opv_fa; exact fa_sRe (by decide); exact rfl; exact rfl; kernel_rfl; exact hS
    refine wm_take 3 rfl (fun w' hw => opv_ldG (cs := [.bool r.commit, .int .u64 (r.rts : Int), .slice W' r.writes.length cw', .slice Y' r.reply.length cy']) rfl (ar_wiP hw.2 4 [.bool r.commit, .int .u64 (r.rts : Int), .slice W' r.writes.length cw', .slice Y' r.reply.length cy'] (fun j u hu => by
      match j, hu with
      | 0, hu => exact hu
      | 1, hu => exact hu
      | 2, hu => exact hu
      | 3, hu => exact hu)) sRc) rfl (by kernel_rfl) hS ?_
    clear hS
    refine wm_two 4 5 (by kernel_rfl) rfl rfl ?_ ?_ <;> dsimp only [List.getElem_toArray, List.getElem_cons_succ, List.getElem_cons_zero]
    · refine ws_new hs zeroRc rfl ?_
      clear hs; intro g5 _ hs
      refine wl_nil ?_
      refine we_heldM (fun _ => ⟨hs.ar 2 rfl, hs.ar 1 rfl⟩) ?_
      refine wm_one 5 (by kernel_rfl) rfl ?_; dsimp only [List.getElem_toArray, List.getElem_cons_succ, List.getElem_cons_zero]
      refine ws_new hs zeroRc rfl ?_
      clear hs; intro g6 _ hs
      refine wl_nil ?_
      refine we_heldM (fun _ => ⟨hs.ar 3 rfl, hs.ar 2 rfl⟩) ?_
      refine wm_one 6 (by kernel_rfl) rfl ?_; dsimp only [List.getElem_toArray, List.getElem_cons_succ, List.getElem_cons_zero]
      refine ws_stS (cs' := [.bool r.commit, .int .u64 (r.rts : Int), .slice W r.writes.length cw, .slice Y r.reply.length cy]) hs 1 rfl rfl rfl sRc rfl rfl ?_
      clear hs; intro _ hs; dsimp only [setC] at hs
      refine wl_nil ?_
      refine we_heldM (fun _ => ⟨hs.ar 3 rfl, hs.ar 2 rfl⟩) ?_
      refine wm_one 7 (by kernel_rfl) rfl ?_; dsimp only [List.getElem_toArray, List.getElem_cons_succ, List.getElem_cons_zero]
      refine ws_stS (cs' := [.bool r.commit, .int .u64 (r.rts : Int), .slice W' r.writes.length cw', .slice Y' r.reply.length cy']) hs 0 rfl rfl rfl sRc rfl rfl ?_
      clear hs; intro _ hs; dsimp only [setC] at hs
      refine wl_nil ?_
      refine we_heldM (fun h => absurd h (by decide)) ?_
      refine wm_done (by kernel_rfl) ?_
      exact we_cut _ ⟨g5, g6, rfl, ((((hs.front 3 rfl).front 3 rfl).front 2 rfl).front 3 rfl)⟩ ⟨rfl, rfl, rfl, rfl, trivial⟩
    · refine ws_new hs zeroRc rfl ?_
      clear hs; intro g6 _ hs
      refine wl_nil ?_
      refine we_heldM (fun _ => ⟨hs.ar 2 rfl, hs.ar 1 rfl⟩) ?_
      refine wm_one 4 (by kernel_rfl) rfl ?_; dsimp only [List.getElem_toArray, List.getElem_cons_succ, List.getElem_cons_zero]
      refine ws_new hs zeroRc rfl ?_
      clear hs; intro g5 _ hs
      refine wl_nil ?_
      refine we_heldM (fun _ => ⟨hs.ar 3 rfl, hs.ar 2 rfl⟩) ?_
      refine wm_one 6 (by kernel_rfl) rfl ?_; dsimp only [List.getElem_toArray, List.getElem_cons_succ, List.getElem_cons_zero]
      refine ws_stS (cs' := [.bool r.commit, .int .u64 (r.rts : Int), .slice W r.writes.length cw, .slice Y r.reply.length cy]) hs 0 rfl rfl rfl sRc rfl rfl ?_
      clear hs; intro _ hs; dsimp only [setC] at hs
      refine wl_nil ?_
      refine we_heldM (fun _ => ⟨hs.ar 3 rfl, hs.ar 2 rfl⟩) ?_
      refine wm_one 7 (by kernel_rfl) rfl ?_; dsimp only [List.getElem_toArray, List.getElem_cons_succ, List.getElem_cons_zero]
      refine ws_stS (cs' := [.bool r.commit, .int .u64 (r.rts : Int), .slice W' r.writes.length cw', .slice Y' r.reply.length cy']) hs 1 rfl rfl rfl sRc rfl rfl ?_
      clear hs; intro _ hs; dsimp only [setC] at hs
      refine wl_nil ?_
      refine we_heldM (fun h => absurd h (by decide)) ?_
      refine wm_done (by kernel_rfl) ?_
      exact we_cut _ ⟨g5, g6, rfl, ((((hs.front 3 rfl).front 3 rfl).front 3 rfl).front 3 rfl)⟩ ⟨rfl, rfl, rfl, rfl, trivial⟩
  clear hs
  rintro _ w5 ⟨g5, g6, rfl, hs⟩
  unfold reV at hs
  refine we_seq ?_; refine wc_sr ?_; apply wl_val; apply opv_fa; exact fa_sRe (by decide); exact rfl; exact rfl; apply wl_val; apply opv_ldX; exact rfl; exact hs.ar 3 rfl; exact g1_err; exact rfl; exact rfl; apply wl_val; apply opv_fa; exact fa_sRe (by decide); exact rfl; exact rfl; apply wl_val; apply opv_ldX; exact rfl; exact hs.ar 2 rfl; exact g1_err; exact rfl; exact rfl; refine wl_bin rfl rfl bin_eql rfl ?_; refine wl_mv rfl rfl ?_; apply wl_take; exact rfl; exact rfl; exact rfl; refine bT ?_; (with_reducible rfl); apply wl_val; apply opv_fa; exact fa_sRe (by decide); exact rfl; exact rfl; apply wl_take; exact rfl; exact rfl; exact rfl; refine bT ?_; (with_reducible rfl); apply wl_val; apply opv_ldX; exact rfl; exact hs.ar 3 rfl; exact g1_int; exact rfl; exact rfl; apply wl_take; exact rfl; exact rfl; exact rfl; refine bT ?_; (with_reducible rfl); apply wl_val; apply opv_fa; exact fa_sRe (by decide); exact rfl; exact rfl; apply wl_take; exact rfl; exact rfl; exact rfl; refine bT ?_; (with_reducible rfl); apply wl_val; apply opv_ldX; exact rfl; exact hs.ar 2 rfl; exact g1_int; exact rfl; exact rfl; apply wl_take; exact rfl; exact rfl; exact rfl; refine bT ?_; (with_reducible rfl); refine wl_bin rfl rfl bin_eql rfl ?_; apply wl_val; apply opv_pickT; exact rfl; refine bT ?_; (with_reducible rfl); exact rfl; exact rfl; refine wl_mv rfl rfl ?_; apply wl_take; exact rfl; exact rfl; exact rfl; refine bT ?_; (with_reducible rfl); apply wl_val; apply opv_fa; exact fa_sRe (by decide); exact rfl; exact rfl; apply wl_take; exact rfl; exact rfl; exact rfl; refine bT ?_; (with_reducible rfl); apply wl_val; apply opv_ldX; exact rfl; exact hs.ar 3 rfl; exact g1_u64; exact rfl; exact rfl; apply wl_take; exact rfl; exact rfl; exact rfl; refine bT ?_; (with_reducible rfl); apply wl_val; apply opv_fa; exact fa_sRe (by decide); exact rfl; exact rfl; apply wl_take; exact rfl; exact rfl; exact rfl; refine bT ?_; (with_reducible rfl); apply wl_val; apply opv_ldX; exact rfl; exact hs.ar 2 rfl; exact g1_u64; exact rfl; exact rfl; apply wl_take; exact rfl; exact rfl; exact rfl; refine bT ?_; (with_reducible rfl); refine wl_bin rfl rfl bin_eql rfl ?_; apply wl_val; apply opv_pickT; exact rfl; refine bT ?_; (with_reducible rfl); exact rfl; exact rfl; refine wl_mv rfl rfl ?_; apply wl_take; exact rfl; exact rfl; exact rfl; refine bT ?_; (with_reducible rfl); apply wl_val; apply opv_fa; exact fa_sRe (by decide); exact rfl; exact rfl; apply wl_take; exact rfl; exact rfl; exact rfl; refine bT ?_; (with_reducible rfl); apply wl_val; apply opv_ldX; exact rfl; exact hs.ar 3 rfl; exact g1_prs; exact rfl; exact rfl; apply wl_take; exact rfl; exact rfl; exact rfl; refine bT ?_; (with_reducible rfl); apply wl_val; apply opv_fa; exact fa_sRe (by decide); exact rfl; exact rfl; apply wl_take; exact rfl; exact rfl; exact rfl; refine bT ?_; (with_reducible rfl); apply wl_val; apply opv_ldX; exact rfl; exact hs.ar 2 rfl; exact g1_prs; exact rfl; exact rfl; apply wl_take; exact rfl; exact rfl; exact rfl; refine bT ?_; (with_reducible rfl)
  try dsimp only [List.append]
  skip
  refine wl_call ok_caissonref13_Same (same13_yes (rP.below hs.bel) (rP'.below hs.bel) rfl rfl hlp hbp) ⟨rfl, rfl, trivial⟩ rfl ?_
  rintro _ _ ⟨rfl, hbx⟩
  replace hs := hs.below hbx
  clear hbx
  apply wl_val; apply opv_pickT; exact rfl; refine bT ?_; (with_reducible rfl); exact rfl; exact rfl; refine wl_mv rfl rfl ?_; apply wl_take; exact rfl; exact rfl; exact rfl; exact rfl; apply wl_val; apply opv_fa; exact fa_sRc (by decide); exact rfl; exact rfl; apply wl_take; exact rfl; exact rfl; exact rfl; exact rfl; apply wl_val; apply opv_ldX; exact rfl; exact hs.ar 0 rfl; exact g1_bool; exact rfl; exact rfl; apply wl_take; exact rfl; exact rfl; exact rfl; exact rfl; apply wl_val; apply opv_fa; exact fa_sRc (by decide); exact rfl; exact rfl; apply wl_take; exact rfl; exact rfl; exact rfl; exact rfl; apply wl_val; apply opv_ldX; exact rfl; exact hs.ar 1 rfl; exact g1_bool; exact rfl; exact rfl; apply wl_take; exact rfl; exact rfl; exact rfl; exact rfl; apply wl_val; apply opv_bin; exact rfl; exact rfl; exact bin_eqlBb tyBool24; exact rfl; apply wl_val; apply opv_pickT; exact rfl; exact rfl; exact rfl; exact rfl; refine wl_mv rfl rfl ?_; apply wl_take; exact rfl; exact rfl; exact rfl; refine bT ?_; (with_reducible rfl); apply wl_val; apply opv_fa; exact fa_sRc (by decide); exact rfl; exact rfl; apply wl_take; exact rfl; exact rfl; exact rfl; refine bT ?_; (with_reducible rfl); apply wl_val; apply opv_ldX; exact rfl; exact hs.ar 0 rfl; exact g1_u64; exact rfl; exact rfl; apply wl_take; exact rfl; exact rfl; exact rfl; refine bT ?_; (with_reducible rfl); apply wl_val; apply opv_fa; exact fa_sRc (by decide); exact rfl; exact rfl; apply wl_take; exact rfl; exact rfl; exact rfl; refine bT ?_; (with_reducible rfl); apply wl_val; apply opv_ldX; exact rfl; exact hs.ar 1 rfl; exact g1_u64; exact rfl; exact rfl; apply wl_take; exact rfl; exact rfl; exact rfl; refine bT ?_; (with_reducible rfl); refine wl_bin rfl rfl bin_eql rfl ?_; apply wl_val; apply opv_pickT; exact rfl; refine bT ?_; (with_reducible rfl); exact rfl; exact rfl; refine wl_mv rfl rfl ?_; apply wl_take; exact rfl; exact rfl; exact rfl; refine bT ?_; (with_reducible rfl); apply wl_val; apply opv_fa; exact fa_sRc (by decide); exact rfl; exact rfl; apply wl_take; exact rfl; exact rfl; exact rfl; refine bT ?_; (with_reducible rfl); apply wl_val; apply opv_ldX; exact rfl; exact hs.ar 0 rfl; exact g1_by; exact rfl; exact rfl; apply wl_take; exact rfl; exact rfl; exact rfl; refine bT ?_; (with_reducible rfl); apply wl_val; apply opv_fa; exact fa_sRc (by decide); exact rfl; exact rfl; apply wl_take; exact rfl; exact rfl; exact rfl; refine bT ?_; (with_reducible rfl); apply wl_val; apply opv_ldX; exact rfl; exact hs.ar 1 rfl; exact g1_by; exact rfl; exact rfl; apply wl_take; exact rfl; exact rfl; exact rfl; refine bT ?_; (with_reducible rfl)
  refine wl_call ok_caissonref01_Equal (equal_yes rfl (rY.below hs.bel) (rY'.below hs.bel) rfl rfl (by omega)) ⟨rfl, rfl, trivial⟩ rfl ?_
  rintro _ _ ⟨rfl, hbx⟩
  replace hs := hs.below hbx
  clear hbx
  apply wl_val; apply opv_pickT; exact rfl; refine bT ?_; (with_reducible rfl); exact rfl; exact rfl; refine wl_mv rfl rfl ?_; apply wl_take; exact rfl; exact rfl; exact rfl; exact rfl; apply wl_val; apply opv_fa; exact fa_sRc (by decide); exact rfl; exact rfl; apply wl_take; exact rfl; exact rfl; exact rfl; exact rfl; apply wl_val; apply opv_ldX; exact rfl; exact hs.ar 0 rfl; exact g1_wrs; exact rfl; exact rfl; apply wl_take; exact rfl; exact rfl; exact rfl; exact rfl; apply wl_val; apply opv_fa; exact fa_sRc (by decide); exact rfl; exact rfl; apply wl_take; exact rfl; exact rfl; exact rfl; exact rfl; apply wl_val; apply opv_ldX; exact rfl; exact hs.ar 1 rfl; exact g1_wrs; exact rfl; exact rfl; apply wl_take; exact rfl; exact rfl; exact rfl; exact rfl
  refine wl_call ok_caissonref14_SameWrites (sameWr_yes (rW.below hs.bel) (rW'.below hs.bel) rfl rfl hlw hbw) ⟨rfl, rfl, trivial⟩ rfl ?_
  rintro _ _ ⟨rfl, hbx⟩
  replace hs := hs.below hbx
  clear hbx
  apply wl_val; apply opv_pickT; exact rfl; exact rfl; exact rfl; exact rfl; refine wl_as rfl rfl ?_; refine wl_ns ?_; refine wc_ret ?_
  exact we_ret1 rfl rfl ⟨_, rfl, rfl, hs.bel⟩
/-- What is known of a packet's memory. -/
structure PkR (w : World) (p : PkM) (E M P W Y D : Option Addr) : Prop where
  rE : RdR 2 w All E (p.msg.ents.map etEl)
  rM : RdB w M p.msg.data
  rP : RdR 2 w All P (p.res.pairs.map prEl)
  rW : RdR 3 w All W (p.res.writes.map wrEl)
  rY : RdB w Y p.res.reply
  rD : RdB w D p.data
/-- How great it is. -/
structure PkS (p : PkM) : Prop where
  sM : p.msg.data.length ≤ 1099511627776
  sE : p.msg.ents.length ≤ 4294967296
  sEb : ∀ e ∈ p.msg.ents, e.2.length ≤ 1099511627776
  sP : p.res.pairs.length ≤ 4294967296
  sPb : ∀ x ∈ p.res.pairs, x.1.length ≤ 1099511627776 ∧ x.2.length ≤ 1099511627776
  sW : p.res.writes.length ≤ 4294967296
  sWb : ∀ x ∈ p.res.writes, x.key.length ≤ 1099511627776 ∧ x.val.length ≤ 1099511627776
  sY : p.res.reply.length ≤ 1099511627776
  sD : p.data.length ≤ 1099511627776
def pkF (p : PkM) (E : Option Addr) (ce : Nat) (M : Option Addr) (cm : Nat) (P : Option Addr) (cp : Nat) (W : Option Addr) (cw : Nat) (Y : Option Addr) (cy : Nat) (D : Option Addr) (cd : Nat) : List Value := pkV p (msV p.msg E ce M cm) (reV p.res P cp W cw Y cy) D cd
theorem PkR.below {w w' : World} {p : PkM} {E M P W Y D : Option Addr} (h : PkR w p E M P W Y D) (hb : Below w.heap.size w w') : PkR w' p E M P W Y D := ⟨h.rE.below hb, h.rM.below hb, h.rP.below hb, h.rW.below hb, h.rY.below hb, h.rD.below hb⟩
theorem pk_mid10 {x0 x1 x2 x3 x4 x5 x6 x7 x8 x9 : Value} {B C : List Value} {j : Nat} {u : Value} (h : B[j]? = some u) : (x0 :: x1 :: x2 :: x3 :: x4 :: x5 :: x6 :: x7 :: x8 :: x9 :: (B ++ C))[10 + j]? = some u := pk_mid (A := [x0, x1, x2, x3, x4, x5, x6, x7, x8, x9]) h
theorem pk_mid20 {x0 x1 x2 x3 x4 x5 x6 x7 x8 x9 : Value} {B C D : List Value} {j : Nat} {u : Value} (hB : B.length = 10) (h : C[j]? = some u) : (x0 :: x1 :: x2 :: x3 :: x4 :: x5 :: x6 :: x7 :: x8 :: x9 :: (B ++ (C ++ D)))[20 + j]? = some u := by
  have := pk_mid2 (A := [x0, x1, x2, x3, x4, x5, x6, x7, x8, x9]) (B := B) (C := C) (D := D) h
  rw [hB] at this
  exact this
theorem trim_cond (x : PkM) : trimP x = ⟨x.kind, cond ((usesL x.kind).contains 70) x.fr 0, cond ((usesL x.kind).contains 84) x.to 0, cond ((usesL x.kind).contains 83) x.shard 0, cond ((usesL x.kind).contains 82) x.round 0, cond ((usesL x.kind).contains 67) x.cmd 0, cond ((usesL x.kind).contains 76) x.lead 0, if (usesL x.kind).contains 88 then x.tx else (0, 0), cond ((usesL x.kind).contains 69) x.code 0, cond ((usesL x.kind).contains 77) x.msg zMsg, cond ((usesL x.kind).contains 81) x.res zRes, cond ((usesL x.kind).contains 68) x.data []⟩ := by
  unfold trimP usesL
  by_cases h1 : x.kind = 1
  · simp only [if_pos h1]; rfl
  by_cases h2 : x.kind = 2
  · simp only [if_neg h1, if_pos h2]; rfl
  by_cases h3 : x.kind = 3
  · simp only [if_neg h1, if_neg h2, if_pos h3]; rfl
  by_cases h4 : x.kind = 4
  · simp only [if_neg h1, if_neg h2, if_neg h3, if_pos h4]; rfl
  by_cases h5 : x.kind = 5
  · simp only [if_neg h1, if_neg h2, if_neg h3, if_neg h4, if_pos h5]; rfl
  · simp only [if_neg h1, if_neg h2, if_neg h3, if_neg h4, if_neg h5]; rfl
theorem usesL_len (k : Int) : (usesL k).length ≤ 64 := by
  unfold usesL
  (repeat' split) <;> decide
set_option maxHeartbeats 8000000 in
set_option maxRecDepth 8000 in
theorem same24_any {x : PkM} {E M P W Y D E' M' P' W' Y' D' : Option Addr} {ce cm cp cw cy cd ce' cm' cp' cw' cy' cd' : Nat} {w : World} (ha : PkR w (trimP x) E M P W Y D) (hb : PkR w x E' M' P' W' Y' D') (hz : PkS (trimP x)) :
    CallsV Try.prog 25 #[.agg (pkF (trimP x) E ce M cm P cp W cw Y cy D cd).toArray, .agg (pkF x E' ce' M' cm' P' cp' W' cw' Y' cy' D' cd').toArray] w (RetTrue w) := by
  have hs := St.init w
  have hmax : maxLen = 9223372036854775807 := rfl
  have hq := trim_cond x
  have hul := usesL_len x.kind
  refine calls_in (N := _) Try.func25 rfl Try.ntmps25 rfl ?_; show WC _ _ _ _ _ _
  refine wc_sr ?_
  obtain ⟨ac, hac⟩ : ∃ ac, pkF (trimP x) E ce M cm P cp W cw Y cy D cd = ac := ⟨_, rfl⟩
  rw [hac]
  refine ws_box (cs := ac) hs rfl rfl ?_; clear hs; intro g2 _ hs
  refine ws_box (cs := pkF x E' ce' M' cm' P' cp' W' cw' Y' cy' D' cd') hs rfl rfl ?_; clear hs; intro g3 _ hs
  unfold pkF pkV msV reV at hs
  dsimp only [List.cons_append, List.nil_append] at hs
  refine wl_as rfl rfl ?_; refine wl_ns ?_; refine wc_sr ?_; apply wl_val; apply opv_fa; exact fa_Pk0; exact rfl; exact rfl; apply wl_val; apply opv_ldX; exact rfl; exact hs.ar 0 rfl; exact g1_int; exact rfl; exact rfl
  refine wl_call ok_caissonref24_Uses (uses_any x.kind _) ⟨rfl, trivial⟩ rfl ?_
  rintro _ _ ⟨rfl, rfl⟩
  obtain ⟨u, hu⟩ : ∃ u, usesL x.kind = u := ⟨_, rfl⟩
  rw [hu] at hq hul ⊢
  obtain ⟨zbF, hF⟩ : ∃ b, u.contains 70 = b := ⟨_, rfl⟩
  obtain ⟨zbT, hT⟩ : ∃ b, u.contains 84 = b := ⟨_, rfl⟩
  obtain ⟨zbS, hS⟩ : ∃ b, u.contains 83 = b := ⟨_, rfl⟩
  obtain ⟨zbR, hR⟩ : ∃ b, u.contains 82 = b := ⟨_, rfl⟩
  obtain ⟨zbC, hC⟩ : ∃ b, u.contains 67 = b := ⟨_, rfl⟩
  obtain ⟨zbL, hL⟩ : ∃ b, u.contains 76 = b := ⟨_, rfl⟩
  obtain ⟨zbE, hE⟩ : ∃ b, u.contains 69 = b := ⟨_, rfl⟩
  obtain ⟨zbM, hM⟩ : ∃ b, u.contains 77 = b := ⟨_, rfl⟩
  obtain ⟨zbQ, hQ⟩ : ∃ b, u.contains 81 = b := ⟨_, rfl⟩
  obtain ⟨zbD, hD⟩ : ∃ b, u.contains 68 = b := ⟨_, rfl⟩
  obtain ⟨zbX, hX⟩ : ∃ b, u.contains 88 = b := ⟨_, rfl⟩
  rw [hF, hT, hS, hR, hC, hL, hE, hM, hQ, hD, hX] at hq
  refine wl_as rfl rfl ?_
  refine wl_ns ?_
  refine wc_sub [(2, .pointer (some ⟨g2, 0, none⟩)), (3, .pointer (some ⟨g3, 0, none⟩)), (5, str u)] ⟨rfl, rfl, rfl, trivial⟩ ?_
  refine wc_cut (fun L w' => L = [(2, .pointer (some ⟨g2, 0, none⟩)), (3, .pointer (some ⟨g3, 0, none⟩)), (5, str u)] ∧ St NoB w w' [.blk g3 42 (pkV ⟨x.kind, (cond zbF x.fr 0), x.to, x.shard, x.round, x.cmd, x.lead, x.tx, x.code, x.msg, x.res, x.data⟩ (msV x.msg E' ce' M' cm') (reV x.res P' cp' W' cw' Y' cy') D' cd'), .blk g2 42 ac]) ?_ ?_
  · refine wc_sr ?_; refine wl_mv rfl rfl ?_
    refine wl_call ok_caissonref24_Has (has_is (x := 70) (b := zbF) hul rfl hF) ⟨rfl, rfl, trivial⟩ rfl ?_
    rintro _ _ ⟨rfl, rfl⟩
    cases zbF with
    | true =>
      apply wl_val; apply opv_not; exact rfl; exact rfl; refine wl_ns ?_; apply wc_condFb; exact rfl; exact Bool.not_true; refine wc_skip ?_
      exact we_cut _ ⟨rfl, hs⟩ ⟨rfl, rfl, rfl, trivial⟩
    | false =>
      apply wl_val; apply opv_not; exact rfl; exact rfl; refine wl_ns ?_; apply wc_condTb; exact rfl; exact Bool.not_false; refine wc_region ?_; apply wl_val; apply opv_fa; exact fa_Pk1; exact rfl; exact rfl; apply ws_st hs 0; exact rfl; exact rfl; exact g1_int; exact rfl; exact rfl; exact rfl; clear hs; intro _ hs; dsimp only [setC, List.set] at hs; refine wl_nil ?_
      exact we_cut _ ⟨rfl, hs⟩ ⟨rfl, rfl, rfl, trivial⟩
  clear hs
  rintro _ w10 ⟨rfl, hs⟩
  refine wc_cut (fun L w' => L = [(2, .pointer (some ⟨g2, 0, none⟩)), (3, .pointer (some ⟨g3, 0, none⟩)), (5, str u)] ∧ St NoB w w' [.blk g3 42 (pkV ⟨x.kind, (cond zbF x.fr 0), (cond zbT x.to 0), x.shard, x.round, x.cmd, x.lead, x.tx, x.code, x.msg, x.res, x.data⟩ (msV x.msg E' ce' M' cm') (reV x.res P' cp' W' cw' Y' cy') D' cd'), .blk g2 42 ac]) ?_ ?_
  · unfold pkV msV reV at hs
    dsimp only [List.cons_append, List.nil_append] at hs
    refine wc_sr ?_; refine wl_mv rfl rfl ?_
    refine wl_call ok_caissonref24_Has (has_is (x := 84) (b := zbT) hul rfl hT) ⟨rfl, rfl, trivial⟩ rfl ?_
    rintro _ _ ⟨rfl, rfl⟩
    cases zbT with
    | true =>
      apply wl_val; apply opv_not; exact rfl; exact rfl; refine wl_ns ?_; apply wc_condFb; exact rfl; exact Bool.not_true; refine wc_skip ?_
      exact we_cut _ ⟨rfl, hs⟩ ⟨rfl, rfl, rfl, trivial⟩
    | false =>
      apply wl_val; apply opv_not; exact rfl; exact rfl; refine wl_ns ?_; apply wc_condTb; exact rfl; exact Bool.not_false; refine wc_region ?_; apply wl_val; apply opv_fa; exact fa_Pk2; exact rfl; exact rfl; apply ws_st hs 0; exact rfl; exact rfl; exact g1_int; exact rfl; exact rfl; exact rfl; clear hs; intro _ hs; dsimp only [setC, List.set] at hs; refine wl_nil ?_
      exact we_cut _ ⟨rfl, hs⟩ ⟨rfl, rfl, rfl, trivial⟩
  clear hs
  rintro _ w11 ⟨rfl, hs⟩
  refine wc_cut (fun L w' => L = [(2, .pointer (some ⟨g2, 0, none⟩)), (3, .pointer (some ⟨g3, 0, none⟩)), (5, str u)] ∧ St NoB w w' [.blk g3 42 (pkV ⟨x.kind, (cond zbF x.fr 0), (cond zbT x.to 0), (cond zbS x.shard 0), x.round, x.cmd, x.lead, x.tx, x.code, x.msg, x.res, x.data⟩ (msV x.msg E' ce' M' cm') (reV x.res P' cp' W' cw' Y' cy') D' cd'), .blk g2 42 ac]) ?_ ?_
  · unfold pkV msV reV at hs
    dsimp only [List.cons_append, List.nil_append] at hs
    refine wc_sr ?_; refine wl_mv rfl rfl ?_
    refine wl_call ok_caissonref24_Has (has_is (x := 83) (b := zbS) hul rfl hS) ⟨rfl, rfl, trivial⟩ rfl ?_
    rintro _ _ ⟨rfl, rfl⟩
    cases zbS with
    | true =>
      apply wl_val; apply opv_not; exact rfl; exact rfl; refine wl_ns ?_; apply wc_condFb; exact rfl; exact Bool.not_true; refine wc_skip ?_
      exact we_cut _ ⟨rfl, hs⟩ ⟨rfl, rfl, rfl, trivial⟩
    | false =>
      apply wl_val; apply opv_not; exact rfl; exact rfl; refine wl_ns ?_; apply wc_condTb; exact rfl; exact Bool.not_false; refine wc_region ?_; apply wl_val; apply opv_fa; exact fa_Pk3; exact rfl; exact rfl; apply ws_st hs 0; exact rfl; exact rfl; exact g1_int; exact rfl; exact rfl; exact rfl; clear hs; intro _ hs; dsimp only [setC, List.set] at hs; refine wl_nil ?_
      exact we_cut _ ⟨rfl, hs⟩ ⟨rfl, rfl, rfl, trivial⟩
  clear hs
  rintro _ w12 ⟨rfl, hs⟩
  refine wc_cut (fun L w' => L = [(2, .pointer (some ⟨g2, 0, none⟩)), (3, .pointer (some ⟨g3, 0, none⟩)), (5, str u)] ∧ St NoB w w' [.blk g3 42 (pkV ⟨x.kind, (cond zbF x.fr 0), (cond zbT x.to 0), (cond zbS x.shard 0), (cond zbR x.round 0), x.cmd, x.lead, x.tx, x.code, x.msg, x.res, x.data⟩ (msV x.msg E' ce' M' cm') (reV x.res P' cp' W' cw' Y' cy') D' cd'), .blk g2 42 ac]) ?_ ?_
  · unfold pkV msV reV at hs
    dsimp only [List.cons_append, List.nil_append] at hs
    refine wc_sr ?_; refine wl_mv rfl rfl ?_
    refine wl_call ok_caissonref24_Has (has_is (x := 82) (b := zbR) hul rfl hR) ⟨rfl, rfl, trivial⟩ rfl ?_
    rintro _ _ ⟨rfl, rfl⟩
    cases zbR with
    | true =>
      apply wl_val; apply opv_not; exact rfl; exact rfl; refine wl_ns ?_; apply wc_condFb; exact rfl; exact Bool.not_true; refine wc_skip ?_
      exact we_cut _ ⟨rfl, hs⟩ ⟨rfl, rfl, rfl, trivial⟩
    | false =>
      apply wl_val; apply opv_not; exact rfl; exact rfl; refine wl_ns ?_; apply wc_condTb; exact rfl; exact Bool.not_false; refine wc_region ?_; apply wl_val; apply opv_fa; exact fa_Pk4; exact rfl; exact rfl; apply ws_st hs 0; exact rfl; exact rfl; exact g1_int; exact rfl; exact rfl; exact rfl; clear hs; intro _ hs; dsimp only [setC, List.set] at hs; refine wl_nil ?_
      exact we_cut _ ⟨rfl, hs⟩ ⟨rfl, rfl, rfl, trivial⟩
  clear hs
  rintro _ w13 ⟨rfl, hs⟩
  refine wc_cut (fun L w' => L = [(2, .pointer (some ⟨g2, 0, none⟩)), (3, .pointer (some ⟨g3, 0, none⟩)), (5, str u)] ∧ St NoB w w' [.blk g3 42 (pkV ⟨x.kind, (cond zbF x.fr 0), (cond zbT x.to 0), (cond zbS x.shard 0), (cond zbR x.round 0), (cond zbC x.cmd 0), x.lead, x.tx, x.code, x.msg, x.res, x.data⟩ (msV x.msg E' ce' M' cm') (reV x.res P' cp' W' cw' Y' cy') D' cd'), .blk g2 42 ac]) ?_ ?_
  · unfold pkV msV reV at hs
    dsimp only [List.cons_append, List.nil_append] at hs
    refine wc_sr ?_; refine wl_mv rfl rfl ?_
    refine wl_call ok_caissonref24_Has (has_is (x := 67) (b := zbC) hul rfl hC) ⟨rfl, rfl, trivial⟩ rfl ?_
    rintro _ _ ⟨rfl, rfl⟩
    cases zbC with
    | true =>
      apply wl_val; apply opv_not; exact rfl; exact rfl; refine wl_ns ?_; apply wc_condFb; exact rfl; exact Bool.not_true; refine wc_skip ?_
      exact we_cut _ ⟨rfl, hs⟩ ⟨rfl, rfl, rfl, trivial⟩
    | false =>
      apply wl_val; apply opv_not; exact rfl; exact rfl; refine wl_ns ?_; apply wc_condTb; exact rfl; exact Bool.not_false; refine wc_region ?_; apply wl_val; apply opv_fa; exact fa_Pk5; exact rfl; exact rfl; apply ws_st hs 0; exact rfl; exact rfl; exact g1_int; exact rfl; exact rfl; exact rfl; clear hs; intro _ hs; dsimp only [setC, List.set] at hs; refine wl_nil ?_
      exact we_cut _ ⟨rfl, hs⟩ ⟨rfl, rfl, rfl, trivial⟩
  clear hs
  rintro _ w14 ⟨rfl, hs⟩
  refine wc_cut (fun L w' => L = [(2, .pointer (some ⟨g2, 0, none⟩)), (3, .pointer (some ⟨g3, 0, none⟩)), (5, str u)] ∧ St NoB w w' [.blk g3 42 (pkV ⟨x.kind, (cond zbF x.fr 0), (cond zbT x.to 0), (cond zbS x.shard 0), (cond zbR x.round 0), (cond zbC x.cmd 0), (cond zbL x.lead 0), x.tx, x.code, x.msg, x.res, x.data⟩ (msV x.msg E' ce' M' cm') (reV x.res P' cp' W' cw' Y' cy') D' cd'), .blk g2 42 ac]) ?_ ?_
  · unfold pkV msV reV at hs
    dsimp only [List.cons_append, List.nil_append] at hs
    refine wc_sr ?_; refine wl_mv rfl rfl ?_
    refine wl_call ok_caissonref24_Has (has_is (x := 76) (b := zbL) hul rfl hL) ⟨rfl, rfl, trivial⟩ rfl ?_
    rintro _ _ ⟨rfl, rfl⟩
    cases zbL with
    | true =>
      apply wl_val; apply opv_not; exact rfl; exact rfl; refine wl_ns ?_; apply wc_condFb; exact rfl; exact Bool.not_true; refine wc_skip ?_
      exact we_cut _ ⟨rfl, hs⟩ ⟨rfl, rfl, rfl, trivial⟩
    | false =>
      apply wl_val; apply opv_not; exact rfl; exact rfl; refine wl_ns ?_; apply wc_condTb; exact rfl; exact Bool.not_false; refine wc_region ?_; apply wl_val; apply opv_fa; exact fa_Pk6; exact rfl; exact rfl; apply ws_st hs 0; exact rfl; exact rfl; exact g1_int; exact rfl; exact rfl; exact rfl; clear hs; intro _ hs; dsimp only [setC, List.set] at hs; refine wl_nil ?_
      exact we_cut _ ⟨rfl, hs⟩ ⟨rfl, rfl, rfl, trivial⟩
  clear hs
  rintro _ w15 ⟨rfl, hs⟩
  refine wc_cut (fun L w' => L = [(2, .pointer (some ⟨g2, 0, none⟩)), (3, .pointer (some ⟨g3, 0, none⟩)), (5, str u)] ∧ St NoB w w' [.blk g3 42 (pkV ⟨x.kind, (cond zbF x.fr 0), (cond zbT x.to 0), (cond zbS x.shard 0), (cond zbR x.round 0), (cond zbC x.cmd 0), (cond zbL x.lead 0), x.tx, (cond zbE x.code 0), x.msg, x.res, x.data⟩ (msV x.msg E' ce' M' cm') (reV x.res P' cp' W' cw' Y' cy') D' cd'), .blk g2 42 ac]) ?_ ?_
  · unfold pkV msV reV at hs
    dsimp only [List.cons_append, List.nil_append] at hs
    refine wc_sr ?_; refine wl_mv rfl rfl ?_
    refine wl_call ok_caissonref24_Has (has_is (x := 69) (b := zbE) hul rfl hE) ⟨rfl, rfl, trivial⟩ rfl ?_
    rintro _ _ ⟨rfl, rfl⟩
    cases zbE with
    | true =>
      apply wl_val; apply opv_not; exact rfl; exact rfl; refine wl_ns ?_; apply wc_condFb; exact rfl; exact Bool.not_true; refine wc_skip ?_
      exact we_cut _ ⟨rfl, hs⟩ ⟨rfl, rfl, rfl, trivial⟩
    | false =>
      apply wl_val; apply opv_not; exact rfl; exact rfl; refine wl_ns ?_; apply wc_condTb; exact rfl; exact Bool.not_false; refine wc_region ?_; apply wl_val; apply opv_fa; exact fa_Pk8; exact rfl; exact rfl; apply ws_st hs 0; exact rfl; exact rfl; exact g1_err; exact rfl; exact rfl; exact rfl; clear hs; intro _ hs; dsimp only [setC, List.set] at hs; refine wl_nil ?_
      exact we_cut _ ⟨rfl, hs⟩ ⟨rfl, rfl, rfl, trivial⟩
  clear hs
  rintro _ w16 ⟨rfl, hs⟩
  refine wc_cut (fun L w' => ∃ (E2 : Option Addr) (ce2 : Nat) (M2 : Option Addr) (cm2 : Nat), L = [(2, .pointer (some ⟨g2, 0, none⟩)), (3, .pointer (some ⟨g3, 0, none⟩)), (5, str u)] ∧ (RdR 2 w All E2 ((cond zbM x.msg zMsg).ents.map etEl) ∧ RdB w M2 (cond zbM x.msg zMsg).data) ∧ St NoB w w' [.blk g3 42 (pkV ⟨x.kind, (cond zbF x.fr 0), (cond zbT x.to 0), (cond zbS x.shard 0), (cond zbR x.round 0), (cond zbC x.cmd 0), (cond zbL x.lead 0), x.tx, (cond zbE x.code 0), (cond zbM x.msg zMsg), x.res, x.data⟩ (msV (cond zbM x.msg zMsg) E2 ce2 M2 cm2) (reV x.res P' cp' W' cw' Y' cy') D' cd'), .blk g2 42 ac]) ?_ ?_
  · unfold pkV msV reV at hs
    dsimp only [List.cons_append, List.nil_append] at hs
    refine wc_sr ?_; refine wl_mv rfl rfl ?_
    refine wl_call ok_caissonref24_Has (has_is (x := 77) (b := zbM) hul rfl hM) ⟨rfl, rfl, trivial⟩ rfl ?_
    rintro _ _ ⟨rfl, rfl⟩
    cases zbM with
    | true =>
      apply wl_val; apply opv_not; exact rfl; exact rfl; refine wl_ns ?_; apply wc_condFb; exact rfl; exact Bool.not_true; refine wc_skip ?_
      exact we_cut _ ⟨E', ce', M', cm', rfl, ⟨hb.rE, hb.rM⟩, hs⟩ ⟨rfl, rfl, rfl, trivial⟩
    | false =>
      apply wl_val; apply opv_not; exact rfl; exact rfl; refine wl_ns ?_; apply wc_condTb; exact rfl; exact Bool.not_false; refine wc_region ?_
      refine wl_val (opv_build (vs := []) (cs := [.int .i64 0, .int .i64 0, .int .i64 0, .int .u64 0, .int .u64 0, .int .u64 0, .int .u64 0, .slice none 0 0, .bool false, .slice none 0 0]) trivial (by kernel_rfl)) rfl ?_
      apply wl_val; apply opv_fa; exact fa_Pk9; exact rfl; exact rfl
      refine ws_stM (ds := [.int .i64 0, .int .i64 0, .int .i64 0, .int .u64 0, .int .u64 0, .int .u64 0, .int .u64 0, .slice none 0 0, .bool false, .slice none 0 0]) hs 0 rfl rfl rfl sMs (Nat.le_of_ble_eq_true rfl) rfl ?_
      clear hs; intro _ hs; dsimp only [setC, putN, List.set] at hs
      refine wl_nil ?_
      exact we_cut _ ⟨none, 0, none, 0, rfl, ⟨rdr_nil, Rd.nil _ _⟩, hs⟩ ⟨rfl, rfl, rfl, trivial⟩
  clear hs
  rintro _ w17 ⟨E2, ce2, M2, cm2, rfl, hm2, hs⟩
  refine wc_cut (fun L w' => ∃ (E2 : Option Addr) (ce2 : Nat) (M2 : Option Addr) (cm2 : Nat), ∃ (P2 : Option Addr) (cp2 : Nat) (W2 : Option Addr) (cw2 : Nat) (Y2 : Option Addr) (cy2 : Nat), L = [(2, .pointer (some ⟨g2, 0, none⟩)), (3, .pointer (some ⟨g3, 0, none⟩)), (5, str u)] ∧ (RdR 2 w All E2 ((cond zbM x.msg zMsg).ents.map etEl) ∧ RdB w M2 (cond zbM x.msg zMsg).data) ∧ (RdR 2 w All P2 ((cond zbQ x.res zRes).pairs.map prEl) ∧ RdR 3 w All W2 ((cond zbQ x.res zRes).writes.map wrEl) ∧ RdB w Y2 (cond zbQ x.res zRes).reply) ∧ St NoB w w' [.blk g3 42 (pkV ⟨x.kind, (cond zbF x.fr 0), (cond zbT x.to 0), (cond zbS x.shard 0), (cond zbR x.round 0), (cond zbC x.cmd 0), (cond zbL x.lead 0), x.tx, (cond zbE x.code 0), (cond zbM x.msg zMsg), (cond zbQ x.res zRes), x.data⟩ (msV (cond zbM x.msg zMsg) E2 ce2 M2 cm2) (reV (cond zbQ x.res zRes) P2 cp2 W2 cw2 Y2 cy2) D' cd'), .blk g2 42 ac]) ?_ ?_
  · unfold pkV msV reV at hs
    dsimp only [List.cons_append, List.nil_append] at hs
    refine wc_sr ?_; refine wl_mv rfl rfl ?_
    refine wl_call ok_caissonref24_Has (has_is (x := 81) (b := zbQ) hul rfl hQ) ⟨rfl, rfl, trivial⟩ rfl ?_
    rintro _ _ ⟨rfl, rfl⟩
    cases zbQ with
    | true =>
      apply wl_val; apply opv_not; exact rfl; exact rfl; refine wl_ns ?_; apply wc_condFb; exact rfl; exact Bool.not_true; refine wc_skip ?_
      exact we_cut _ ⟨E2, ce2, M2, cm2, P', cp', W', cw', Y', cy', rfl, hm2, ⟨hb.rP, hb.rW, hb.rY⟩, hs⟩ ⟨rfl, rfl, rfl, trivial⟩
    | false =>
      apply wl_val; apply opv_not; exact rfl; exact rfl; refine wl_ns ?_; apply wc_condTb; exact rfl; exact Bool.not_false; refine wc_region ?_
      refine wl_val (opv_build (vs := []) (cs := [.int .i64 0, .int .i64 0, .int .u64 0, .slice none 0 0, .bool false, .int .u64 0, .slice none 0 0, .slice none 0 0]) trivial (by kernel_rfl)) rfl ?_
      apply wl_val; apply opv_fa; exact fa_Pk10; exact rfl; exact rfl
      refine ws_stM (ds := [.int .i64 0, .int .i64 0, .int .u64 0, .slice none 0 0, .bool false, .int .u64 0, .slice none 0 0, .slice none 0 0]) hs 0 rfl rfl rfl sRe (Nat.le_of_ble_eq_true rfl) rfl ?_
      clear hs; intro _ hs; dsimp only [setC, putN, List.set] at hs
      refine wl_nil ?_
      exact we_cut _ ⟨E2, ce2, M2, cm2, none, 0, none, 0, none, 0, rfl, hm2, ⟨rdr_nil, rdr_nil, Rd.nil _ _⟩, hs⟩ ⟨rfl, rfl, rfl, trivial⟩
  clear hs
  rintro _ w18 ⟨E2, ce2, M2, cm2, P2, cp2, W2, cw2, Y2, cy2, rfl, hm2, hr2, hs⟩
  refine wc_cut (fun L w' => ∃ (E2 : Option Addr) (ce2 : Nat) (M2 : Option Addr) (cm2 : Nat), ∃ (P2 : Option Addr) (cp2 : Nat) (W2 : Option Addr) (cw2 : Nat) (Y2 : Option Addr) (cy2 : Nat), ∃ (D2 : Option Addr) (cd2 : Nat), L = [(2, .pointer (some ⟨g2, 0, none⟩)), (3, .pointer (some ⟨g3, 0, none⟩)), (5, str u)] ∧ (RdR 2 w All E2 ((cond zbM x.msg zMsg).ents.map etEl) ∧ RdB w M2 (cond zbM x.msg zMsg).data) ∧ (RdR 2 w All P2 ((cond zbQ x.res zRes).pairs.map prEl) ∧ RdR 3 w All W2 ((cond zbQ x.res zRes).writes.map wrEl) ∧ RdB w Y2 (cond zbQ x.res zRes).reply) ∧ (RdB w D2 (cond zbD x.data [])) ∧ St NoB w w' [.blk g3 42 (pkV ⟨x.kind, (cond zbF x.fr 0), (cond zbT x.to 0), (cond zbS x.shard 0), (cond zbR x.round 0), (cond zbC x.cmd 0), (cond zbL x.lead 0), x.tx, (cond zbE x.code 0), (cond zbM x.msg zMsg), (cond zbQ x.res zRes), (cond zbD x.data [])⟩ (msV (cond zbM x.msg zMsg) E2 ce2 M2 cm2) (reV (cond zbQ x.res zRes) P2 cp2 W2 cw2 Y2 cy2) D2 cd2), .blk g2 42 ac]) ?_ ?_
  · unfold pkV msV reV at hs
    dsimp only [List.cons_append, List.nil_append] at hs
    refine wc_sr ?_; refine wl_mv rfl rfl ?_
    refine wl_call ok_caissonref24_Has (has_is (x := 68) (b := zbD) hul rfl hD) ⟨rfl, rfl, trivial⟩ rfl ?_
    rintro _ _ ⟨rfl, rfl⟩
    cases zbD with
    | true =>
      apply wl_val; apply opv_not; exact rfl; exact rfl; refine wl_ns ?_; apply wc_condFb; exact rfl; exact Bool.not_true; refine wc_skip ?_
      exact we_cut _ ⟨E2, ce2, M2, cm2, P2, cp2, W2, cw2, Y2, cy2, D', cd', rfl, hm2, hr2, hb.rD, hs⟩ ⟨rfl, rfl, rfl, trivial⟩
    | false =>
      apply wl_val; apply opv_not; exact rfl; exact rfl; refine wl_ns ?_; apply wc_condTb; exact rfl; exact Bool.not_false; refine wc_region ?_; apply wl_val; apply opv_fa; exact fa_Pk11; exact rfl; exact rfl; apply ws_st hs 0; exact rfl; exact rfl; exact g1_by; exact rfl; exact rfl; exact rfl; clear hs; intro _ hs; dsimp only [setC, List.set] at hs; refine wl_nil ?_
      exact we_cut _ ⟨E2, ce2, M2, cm2, P2, cp2, W2, cw2, Y2, cy2, none, 0, rfl, hm2, hr2, Rd.nil _ _, hs⟩ ⟨rfl, rfl, rfl, trivial⟩
  clear hs
  rintro _ w19 ⟨E2, ce2, M2, cm2, P2, cp2, W2, cw2, Y2, cy2, D2, cd2, rfl, hm2, hr2, hd2, hs⟩
  rw [hq] at ha hz hac
  clear hq hb
  subst hac
  have rE := ha.rE
  have rM := ha.rM
  have rP := ha.rP
  have rW := ha.rW
  have rY := ha.rY
  have rD := ha.rD
  have sM := hz.sM
  have sD := hz.sD
  dsimp only at rE rM rP rW rY rD sM sD
  unfold pkF at hs
  dsimp only at hs
  obtain ⟨ma, hma⟩ : ∃ ma, (cond zbM x.msg zMsg) = ma := ⟨_, rfl⟩
  obtain ⟨ra, hra⟩ : ∃ ra, (cond zbQ x.res zRes) = ra := ⟨_, rfl⟩
  obtain ⟨da, hda⟩ : ∃ da, (cond zbD x.data []) = da := ⟨_, rfl⟩
  rw [hma] at hs rE rM hm2 sM
  rw [hra] at hs rP rW rY hr2
  rw [hda] at hs rD hd2 sD
  have sE := hz.sE
  have sEb := hz.sEb
  have sP := hz.sP
  have sPb := hz.sPb
  have sW := hz.sW
  have sWb := hz.sWb
  have sY := hz.sY
  dsimp only at sE sEb sP sPb sW sWb sY
  rw [hma] at sE sEb
  rw [hra] at sP sPb sW sWb sY
  clear hz ha
  unfold pkV at hs
  dsimp only [List.cons_append, List.nil_append] at hs
  have a2 := hs.ar 1 rfl
  have a3 := hs.ar 0 rfl
  have hbl := hs.bel
  refine wc_seq ?_
  refine wc_drawB mixed (by kernel_rfl) ?_
  try dsimp only [List.append]
  apply wq_val; intro _ hw_; apply opv_fa; exact fa_Pk0; exact rfl; exact rfl; apply wq_val; intro _ hw_; apply opv_ldX; exact rfl; exact Ar.bel (by assumption) hw_; exact g1_int; exact rfl; exact rfl; apply wq_val; intro _ hw_; apply opv_fa; exact fa_Pk0; exact rfl; exact rfl; apply wq_val; intro _ hw_; apply opv_ldX; exact rfl; exact Ar.bel (by assumption) hw_; exact g1_int; exact rfl; exact rfl; apply wq_val; intro _ hw_; apply opv_bin; exact rfl; exact rfl; exact bin_eql; exact rfl; apply wq_val; intro _ hw_; apply opv_move; exact rfl; exact rfl; apply wq_take; exact rfl; exact rfl; exact rfl; refine bT ?_; (with_reducible rfl); apply wq_val; intro _ hw_; apply opv_fa; exact fa_Pk1; exact rfl; exact rfl; apply wq_take; exact rfl; exact rfl; exact rfl; refine bT ?_; (with_reducible rfl); apply wq_val; intro _ hw_; apply opv_ldX; exact rfl; exact Ar.bel (by assumption) hw_; exact g1_int; exact rfl; exact rfl; apply wq_take; exact rfl; exact rfl; exact rfl; refine bT ?_; (with_reducible rfl); apply wq_val; intro _ hw_; apply opv_fa; exact fa_Pk1; exact rfl; exact rfl; apply wq_take; exact rfl; exact rfl; exact rfl; refine bT ?_; (with_reducible rfl); apply wq_val; intro _ hw_; apply opv_ldX; exact rfl; exact Ar.bel (by assumption) hw_; exact g1_int; exact rfl; exact rfl; apply wq_take; exact rfl; exact rfl; exact rfl; refine bT ?_; (with_reducible rfl); apply wq_val; intro _ hw_; apply opv_bin; exact rfl; exact rfl; exact bin_eql; exact rfl; apply wq_val; intro _ hw_; apply opv_pickT; exact rfl; refine bT ?_; (with_reducible rfl); exact rfl; exact rfl; apply wq_val; intro _ hw_; apply opv_move; exact rfl; exact rfl; apply wq_take; exact rfl; exact rfl; exact rfl; refine bT ?_; (with_reducible rfl); apply wq_val; intro _ hw_; apply opv_fa; exact fa_Pk2; exact rfl; exact rfl; apply wq_take; exact rfl; exact rfl; exact rfl; refine bT ?_; (with_reducible rfl); apply wq_val; intro _ hw_; apply opv_ldX; exact rfl; exact Ar.bel (by assumption) hw_; exact g1_int; exact rfl; exact rfl; apply wq_take; exact rfl; exact rfl; exact rfl; refine bT ?_; (with_reducible rfl); apply wq_val; intro _ hw_; apply opv_fa; exact fa_Pk2; exact rfl; exact rfl; apply wq_take; exact rfl; exact rfl; exact rfl; refine bT ?_; (with_reducible rfl); apply wq_val; intro _ hw_; apply opv_ldX; exact rfl; exact Ar.bel (by assumption) hw_; exact g1_int; exact rfl; exact rfl; apply wq_take; exact rfl; exact rfl; exact rfl; refine bT ?_; (with_reducible rfl); apply wq_val; intro _ hw_; apply opv_bin; exact rfl; exact rfl; exact bin_eql; exact rfl; apply wq_val; intro _ hw_; apply opv_pickT; exact rfl; refine bT ?_; (with_reducible rfl); exact rfl; exact rfl; apply wq_val; intro _ hw_; apply opv_move; exact rfl; exact rfl; apply wq_take; exact rfl; exact rfl; exact rfl; refine bT ?_; (with_reducible rfl); apply wq_val; intro _ hw_; apply opv_fa; exact fa_Pk3; exact rfl; exact rfl; apply wq_take; exact rfl; exact rfl; exact rfl; refine bT ?_; (with_reducible rfl); apply wq_val; intro _ hw_; apply opv_ldX; exact rfl; exact Ar.bel (by assumption) hw_; exact g1_int; exact rfl; exact rfl; apply wq_take; exact rfl; exact rfl; exact rfl; refine bT ?_; (with_reducible rfl); apply wq_val; intro _ hw_; apply opv_fa; exact fa_Pk3; exact rfl; exact rfl; apply wq_take; exact rfl; exact rfl; exact rfl; refine bT ?_; (with_reducible rfl); apply wq_val; intro _ hw_; apply opv_ldX; exact rfl; exact Ar.bel (by assumption) hw_; exact g1_int; exact rfl; exact rfl; apply wq_take; exact rfl; exact rfl; exact rfl; refine bT ?_; (with_reducible rfl); apply wq_val; intro _ hw_; apply opv_bin; exact rfl; exact rfl; exact bin_eql; exact rfl; apply wq_val; intro _ hw_; apply opv_pickT; exact rfl; refine bT ?_; (with_reducible rfl); exact rfl; exact rfl; apply wq_val; intro _ hw_; apply opv_move; exact rfl; exact rfl; apply wq_take; exact rfl; exact rfl; exact rfl; refine bT ?_; (with_reducible rfl); apply wq_val; intro _ hw_; apply opv_fa; exact fa_Pk4; exact rfl; exact rfl; apply wq_take; exact rfl; exact rfl; exact rfl; refine bT ?_; (with_reducible rfl); apply wq_val; intro _ hw_; apply opv_ldX; exact rfl; exact Ar.bel (by assumption) hw_; exact g1_int; exact rfl; exact rfl; apply wq_take; exact rfl; exact rfl; exact rfl; refine bT ?_; (with_reducible rfl); apply wq_val; intro _ hw_; apply opv_fa; exact fa_Pk4; exact rfl; exact rfl; apply wq_take; exact rfl; exact rfl; exact rfl; refine bT ?_; (with_reducible rfl); apply wq_val; intro _ hw_; apply opv_ldX; exact rfl; exact Ar.bel (by assumption) hw_; exact g1_int; exact rfl; exact rfl; apply wq_take; exact rfl; exact rfl; exact rfl; refine bT ?_; (with_reducible rfl); apply wq_val; intro _ hw_; apply opv_bin; exact rfl; exact rfl; exact bin_eql; exact rfl; apply wq_val; intro _ hw_; apply opv_pickT; exact rfl; refine bT ?_; (with_reducible rfl); exact rfl; exact rfl; apply wq_val; intro _ hw_; apply opv_move; exact rfl; exact rfl; apply wq_take; exact rfl; exact rfl; exact rfl; refine bT ?_; (with_reducible rfl); apply wq_val; intro _ hw_; apply opv_fa; exact fa_Pk5; exact rfl; exact rfl; apply wq_take; exact rfl; exact rfl; exact rfl; refine bT ?_; (with_reducible rfl); apply wq_val; intro _ hw_; apply opv_ldX; exact rfl; exact Ar.bel (by assumption) hw_; exact g1_int; exact rfl; exact rfl; apply wq_take; exact rfl; exact rfl; exact rfl; refine bT ?_; (with_reducible rfl); apply wq_val; intro _ hw_; apply opv_fa; exact fa_Pk5; exact rfl; exact rfl; apply wq_take; exact rfl; exact rfl; exact rfl; refine bT ?_; (with_reducible rfl); apply wq_val; intro _ hw_; apply opv_ldX; exact rfl; exact Ar.bel (by assumption) hw_; exact g1_int; exact rfl; exact rfl; apply wq_take; exact rfl; exact rfl; exact rfl; refine bT ?_; (with_reducible rfl); apply wq_val; intro _ hw_; apply opv_bin; exact rfl; exact rfl; exact bin_eql; exact rfl; apply wq_val; intro _ hw_; apply opv_pickT; exact rfl; refine bT ?_; (with_reducible rfl); exact rfl; exact rfl; apply wq_val; intro _ hw_; apply opv_move; exact rfl; exact rfl; apply wq_take; exact rfl; exact rfl; exact rfl; refine bT ?_; (with_reducible rfl); apply wq_val; intro _ hw_; apply opv_fa; exact fa_Pk6; exact rfl; exact rfl; apply wq_take; exact rfl; exact rfl; exact rfl; refine bT ?_; (with_reducible rfl); apply wq_val; intro _ hw_; apply opv_ldX; exact rfl; exact Ar.bel (by assumption) hw_; exact g1_int; exact rfl; exact rfl; apply wq_take; exact rfl; exact rfl; exact rfl; refine bT ?_; (with_reducible rfl); apply wq_val; intro _ hw_; apply opv_fa; exact fa_Pk6; exact rfl; exact rfl; apply wq_take; exact rfl; exact rfl; exact rfl; refine bT ?_; (with_reducible rfl); apply wq_val; intro _ hw_; apply opv_ldX; exact rfl; exact Ar.bel (by assumption) hw_; exact g1_int; exact rfl; exact rfl; apply wq_take; exact rfl; exact rfl; exact rfl; refine bT ?_; (with_reducible rfl); apply wq_val; intro _ hw_; apply opv_bin; exact rfl; exact rfl; exact bin_eql; exact rfl; apply wq_val; intro _ hw_; apply opv_pickT; exact rfl; refine bT ?_; (with_reducible rfl); exact rfl; exact rfl; apply wq_val; intro _ hw_; apply opv_move; exact rfl; exact rfl; apply wq_take; exact rfl; exact rfl; exact rfl; refine bT ?_; (with_reducible rfl); apply wq_val; intro _ hw_; apply opv_fa; exact fa_Pk8; exact rfl; exact rfl; apply wq_take; exact rfl; exact rfl; exact rfl; refine bT ?_; (with_reducible rfl); apply wq_val; intro _ hw_; apply opv_ldX; exact rfl; exact Ar.bel (by assumption) hw_; exact g1_err; exact rfl; exact rfl; apply wq_take; exact rfl; exact rfl; exact rfl; refine bT ?_; (with_reducible rfl); apply wq_val; intro _ hw_; apply opv_fa; exact fa_Pk8; exact rfl; exact rfl; apply wq_take; exact rfl; exact rfl; exact rfl; refine bT ?_; (with_reducible rfl); apply wq_val; intro _ hw_; apply opv_ldX; exact rfl; exact Ar.bel (by assumption) hw_; exact g1_err; exact rfl; exact rfl; apply wq_take; exact rfl; exact rfl; exact rfl; refine bT ?_; (with_reducible rfl); apply wq_val; intro _ hw_; apply opv_bin; exact rfl; exact rfl; exact bin_eql; exact rfl; apply wq_val; intro _ hw_; apply opv_pickT; exact rfl; refine bT ?_; (with_reducible rfl); exact rfl; exact rfl; apply wq_val; intro _ hw_; apply opv_move; exact rfl; exact rfl; apply wq_take; exact rfl; exact rfl; exact rfl; refine bT ?_; (with_reducible rfl); apply wq_val; intro _ hw_; apply opv_fa; exact fa_Pk7; exact rfl; exact rfl; apply wq_take; exact rfl; exact rfl; exact rfl; refine bT ?_; (with_reducible rfl)
  refine wq_val (fun w' hw => opv_ldG (cs := txW (if zbX then x.tx else (0, 0))) rfl (ar_wiP (a2.bel hw) 7 (txW (if zbX then x.tx else (0, 0))) (fun j u hu => by
    match j, hu with
    | 0, hu => exact hu
    | 1, hu => exact hu)) sTxn) rfl ?_
  apply wq_take; exact rfl; exact rfl; exact rfl; refine bT ?_; (with_reducible rfl); apply wq_val; intro _ hw_; apply opv_move; exact rfl; exact rfl; apply wq_take; exact rfl; exact rfl; exact rfl; refine bT ?_; (with_reducible rfl); apply wq_val; intro _ hw_; apply opv_fa; exact fa_Pk7; exact rfl; exact rfl; apply wq_take; exact rfl; exact rfl; exact rfl; refine bT ?_; (with_reducible rfl)
  refine wq_val (fun w' hw => opv_ldG (cs := txW x.tx) rfl (ar_wiP (a3.bel hw) 7 (txW x.tx) (fun j u hu => by
    match j, hu with
    | 0, hu => exact hu
    | 1, hu => exact hu)) sTxn) rfl ?_
  refine wq_take rfl rfl rfl (by first | rfl | exact bT rfl) ?_
  refine wq_call (v := .agg (txW (if zbX then x.tx else (0, 0))).toArray) ok_caissonlaw24_uses (fun w' hw => (usesT_any (b := zbX) (x := x.tx) hul hX).mono fun v w2 ⟨hv, h2⟩ => ⟨hv, hw.trans (h2.mono hw.size)⟩) ⟨rfl, rfl, trivial⟩ rfl ?_
  apply wq_take; exact rfl; exact rfl; exact rfl; refine bT ?_; (with_reducible rfl); apply wq_val; intro _ hw_; apply opv_bin; exact rfl; exact rfl; exact (bin_eqlTw _ _); exact rfl; apply wq_val; intro _ hw_; apply opv_pickT; exact rfl; refine bT ?_; (with_reducible rfl); exact rfl; exact rfl; apply wq_val; intro _ hw_; apply opv_move; exact rfl; exact rfl; apply wq_take; exact rfl; exact rfl; exact rfl; refine bT ?_; (with_reducible rfl); apply wq_val; intro _ hw_; apply opv_fa; exact fa_Pk9; exact rfl; exact rfl; apply wq_take; exact rfl; exact rfl; exact rfl; refine bT ?_; (with_reducible rfl)
  refine wq_val (fun w' hw => opv_ldG (cs := msV ma E ce M cm) rfl (ar_wiP (a2.bel hw) 10 (msV ma E ce M cm) (fun j u hu => pk_mid10 hu)) sMs) rfl ?_
  apply wq_take; exact rfl; exact rfl; exact rfl; refine bT ?_; (with_reducible rfl); apply wq_val; intro _ hw_; apply opv_fa; exact fa_Pk9; exact rfl; exact rfl; apply wq_take; exact rfl; exact rfl; exact rfl; refine bT ?_; (with_reducible rfl)
  refine wq_val (fun w' hw => opv_ldG (cs := msV ma E2 ce2 M2 cm2) rfl (ar_wiP (a3.bel hw) 10 (msV ma E2 ce2 M2 cm2) (fun j u hu => pk_mid10 hu)) sMs) rfl ?_
  refine wq_take rfl rfl rfl (by first | rfl | exact bT rfl) ?_
  refine wq_call (v := .bool true) ok_caissonlaw24_sameMsg (fun w' hw => (sameMsg_yes (rE.below (hbl.trans (hw.mono hbl.size))) (hm2.1.below (hbl.trans (hw.mono hbl.size))) (rM.below (hbl.trans (hw.mono hbl.size))) (hm2.2.below (hbl.trans (hw.mono hbl.size))) sM sE sEb).mono fun v w2 ⟨hv, h2⟩ => ⟨hv, hw.trans (h2.mono hw.size)⟩) ⟨rfl, rfl, trivial⟩ rfl ?_
  apply wq_val; intro _ hw_; apply opv_pickT; exact rfl; refine bT ?_; (with_reducible rfl); exact rfl; exact rfl; apply wq_val; intro _ hw_; apply opv_move; exact rfl; exact rfl; apply wq_take; exact rfl; exact rfl; exact rfl; exact rfl; apply wq_val; intro _ hw_; apply opv_fa; exact fa_Pk10; exact rfl; exact rfl; apply wq_take; exact rfl; exact rfl; exact rfl; exact rfl
  refine wq_val (fun w' hw => opv_ldG (cs := reV ra P cp W cw Y cy) rfl (ar_wiP (a2.bel hw) 20 (reV ra P cp W cw Y cy) (fun j u hu => pk_mid20 rfl hu)) sRe) rfl ?_
  apply wq_take; exact rfl; exact rfl; exact rfl; exact rfl; apply wq_val; intro _ hw_; apply opv_fa; exact fa_Pk10; exact rfl; exact rfl; apply wq_take; exact rfl; exact rfl; exact rfl; exact rfl
  refine wq_val (fun w' hw => opv_ldG (cs := reV ra P2 cp2 W2 cw2 Y2 cy2) rfl (ar_wiP (a3.bel hw) 20 (reV ra P2 cp2 W2 cw2 Y2 cy2) (fun j u hu => pk_mid20 rfl hu)) sRe) rfl ?_
  refine wq_take rfl rfl rfl (by first | rfl | exact bT rfl) ?_
  refine wq_call (v := .bool true) ok_caissonlaw24_sameRes (fun w' hw => (sameRes_yes (rP.below (hbl.trans (hw.mono hbl.size))) (hr2.1.below (hbl.trans (hw.mono hbl.size))) (rW.below (hbl.trans (hw.mono hbl.size))) (hr2.2.1.below (hbl.trans (hw.mono hbl.size))) (rY.below (hbl.trans (hw.mono hbl.size))) (hr2.2.2.below (hbl.trans (hw.mono hbl.size))) sP sPb sW sWb sY).mono fun v w2 ⟨hv, h2⟩ => ⟨hv, hw.trans (h2.mono hw.size)⟩) ⟨rfl, rfl, trivial⟩ rfl ?_
  apply wq_val; intro _ hw_; apply opv_pickT; exact rfl; exact rfl; exact rfl; exact rfl; apply wq_val; intro _ hw_; apply opv_move; exact rfl; exact rfl; apply wq_take; exact rfl; exact rfl; exact rfl; exact rfl; apply wq_val; intro _ hw_; apply opv_fa; exact fa_Pk11; exact rfl; exact rfl; apply wq_take; exact rfl; exact rfl; exact rfl; exact rfl; apply wq_val; intro _ hw_; apply opv_ldX; exact rfl; exact Ar.bel (by assumption) hw_; exact g1_by; exact rfl; exact rfl; apply wq_take; exact rfl; exact rfl; exact rfl; exact rfl; apply wq_val; intro _ hw_; apply opv_fa; exact fa_Pk11; exact rfl; exact rfl; apply wq_take; exact rfl; exact rfl; exact rfl; exact rfl; apply wq_val; intro _ hw_; apply opv_ldX; exact rfl; exact Ar.bel (by assumption) hw_; exact g1_by; exact rfl; exact rfl; apply wq_take; exact rfl; exact rfl; exact rfl; exact rfl
  refine wq_call (v := .bool true) ok_caissonref01_Equal (fun w' hw => (equal_yes rfl (rD.below (hbl.trans (hw.mono hbl.size))) (hd2.below (hbl.trans (hw.mono hbl.size))) rfl rfl (by omega)).mono fun v w2 ⟨hv, h2⟩ => ⟨hv, hw.trans (h2.mono hw.size)⟩) ⟨rfl, rfl, trivial⟩ rfl ?_
  apply wq_val; intro _ hw_; apply opv_pickT; exact rfl; exact rfl; exact rfl; exact rfl; apply wq_val; intro _ hw_; apply opv_assign; exact rfl; exact rfl; refine wq_nil fun w1 hw1 => ?_
  refine we_seq ?_; refine wc_ret ?_
  exact we_ret1 rfl rfl ⟨_, rfl, rfl, hbl.trans (hw1.mono hbl.size)⟩
end Go.Proofs.Ytaacnknniaipmaa

/-
  Walk over the law SessionPackets.
-/
namespace Go.Proofs.Ytaacnknniaipmaa
open Go.RowKit

theorem framed_ge : ∀ l : List By, l.flatten.length + l.length ≤ (framed l).length
  | [] => by simp
  | a :: l => by
    have := framed_ge l
    have e : framed (a :: l) = putU a.length ++ a ++ framed l := by simp [framed]
    have h1 : 1 ≤ (putU a.length).length := by
      unfold putU
      split <;> simp
    rw [e, List.length_append, List.length_append, List.flatten_cons, List.length_append, List.length_cons]
    omega
theorem ents_ge : ∀ l : List (Nat × By), ((l.map (·.2)).flatten).length ≤ ((l.flatMap entB).flatten).length
  | [] => by simp
  | e :: l => by
    have := ents_ge l
    rw [List.flatMap_cons, List.flatten_append, List.length_append, List.map_cons, List.flatten_cons, List.length_append]
    simp only [entB, List.flatten_cons, List.flatten_nil, List.append_nil, List.length_append]
    omega
theorem ents_cnt : ∀ l : List (Nat × By), (l.flatMap entB).length = 2 * l.length
  | [] => rfl
  | e :: l => by
    rw [List.flatMap_cons, List.length_append, ents_cnt l, List.length_cons]; simp [entB]; omega
/-- A message's weight; a result's. -/
def mW (m : MsgM) : Nat := m.data.length + (m.ents.map (·.2)).flatten.length + m.ents.length
def rW (r : ResM) : Nat := r.reply.length + ((r.pairs.flatMap pairB).flatten).length + r.pairs.length + ((r.writes.flatMap wrB).flatten).length + r.writes.length
theorem msg_w (m : MsgM) : mW m ≤ (putMsg m).length := by
  have h1 := framed_ge (msgL m)
  have h2 := ents_ge m.ents
  have h3 := ents_cnt m.ents
  have e1 : (msgL m).flatten.length = (intsB [m.kind, m.fr, m.to, tI m.ok]).length + ((wordsB [m.term, m.ix, m.lt, m.cm]).length + m.data.length) + ((m.ents.flatMap entB).flatten).length := by
    unfold msgL
    rw [List.flatten_append, List.length_append]
    simp only [List.flatten_cons, List.flatten_nil, List.append_nil, List.length_append]
  have e2 : (msgL m).length = 3 + (m.ents.flatMap entB).length := by
    unfold msgL
    rw [List.length_append]; rfl
  unfold mW putMsg
  omega
theorem res_w (r : ResM) : rW r ≤ (putRes r).length := by
  have h1 := framed_ge (resL r)
  have h2 := framed_ge (r.pairs.flatMap pairB)
  have h3 := framed_ge (r.writes.flatMap wrB)
  have h4 := pair_len r.pairs
  have h5 := wr_len r.writes
  have e1 : (resL r).flatten.length = (intsB [r.err, r.status, tI r.commit]).length + ((wordsB [r.ts, r.rts]).length + ((framed (r.pairs.flatMap pairB)).length + ((framed (r.writes.flatMap wrB)).length + r.reply.length))) := by
    unfold resL
    simp only [List.flatten_cons, List.flatten_nil, List.append_nil, List.length_append]
  unfold rW putRes
  omega
/-- What is read is small. -/
theorem pk_w {y : PkM} {l : List By} (ht : trimP y = y) (hl : pkL y = some l) (hs : (framed l).length ≤ 1048576) : mW y.msg ≤ 1048576 ∧ rW y.res ≤ 1048576 ∧ y.data.length ≤ 1048576 := by
  have hm : ∀ r ∈ l, r.length ≤ 1048576 := fun r hr => Nat.le_trans (framed_mem hr) hs
  have z1 : mW zMsg ≤ 1048576 := by decide
  have z2 : rW zRes ≤ 1048576 := by decide
  have z3 : ([] : By).length ≤ 1048576 := by decide
  unfold pkL at hl
  unfold trimP at ht
  by_cases h1 : y.kind = 1
  · rw [if_pos h1] at hl ht
    injection hl with hl
    have e2 : zRes = y.res := congrArg PkM.res ht
    have e3 : [] = y.data := congrArg PkM.data ht
    exact ⟨Nat.le_trans (msg_w _) (hm _ (by rw [← hl]; simp)), e2 ▸ z2, e3 ▸ z3⟩
  rw [if_neg h1] at hl ht
  by_cases h2 : y.kind = 2
  · rw [if_pos h2] at hl ht
    injection hl with hl
    have e1 : zMsg = y.msg := congrArg PkM.msg ht
    have e2 : zRes = y.res := congrArg PkM.res ht
    exact ⟨e1 ▸ z1, e2 ▸ z2, hm _ (by rw [← hl]; simp)⟩
  rw [if_neg h2] at hl ht
  by_cases h3 : y.kind = 3
  · rw [if_pos h3] at hl ht
    injection hl with hl
    have e1 : zMsg = y.msg := congrArg PkM.msg ht
    have e3 : [] = y.data := congrArg PkM.data ht
    exact ⟨e1 ▸ z1, Nat.le_trans (res_w _) (hm _ (by rw [← hl]; simp)), e3 ▸ z3⟩
  rw [if_neg h3] at hl ht
  by_cases h4 : y.kind = 4
  · rw [if_pos h4] at hl ht
    injection hl with hl
    have e1 : zMsg = y.msg := congrArg PkM.msg ht
    have e2 : zRes = y.res := congrArg PkM.res ht
    exact ⟨e1 ▸ z1, e2 ▸ z2, hm _ (by rw [← hl]; simp)⟩
  rw [if_neg h4] at hl ht
  by_cases h5 : y.kind = 5
  · rw [if_pos h5] at hl ht
    injection hl with hl
    have e1 : zMsg = y.msg := congrArg PkM.msg ht
    have e2 : zRes = y.res := congrArg PkM.res ht
    exact ⟨e1 ▸ z1, e2 ▸ z2, hm _ (by rw [← hl]; simp)⟩
  · rw [if_neg h5] at hl; cases hl
theorem pkS_of {p : PkM} (h1 : mW p.msg ≤ 16777216) (h2 : rW p.res ≤ 16777216) (h3 : p.data.length ≤ 16777216) : PkS p := by
  unfold mW at h1
  unfold rW at h2
  refine ⟨by omega, by omega, fun e he => ?_, by omega, fun x hx => ?_, by omega, fun x hx => ?_, by omega, by omega⟩
  · have := mem_flat (List.mem_map_of_mem (f := fun e : Nat × By => e.2) he)
    omega
  · have a := mem_flat (l := p.res.pairs.flatMap pairB) (x := x.1) (List.mem_flatMap.2 ⟨x, hx, by simp [pairB]⟩)
    have b := mem_flat (l := p.res.pairs.flatMap pairB) (x := x.2) (List.mem_flatMap.2 ⟨x, hx, by simp [pairB]⟩)
    omega
  · have a := mem_flat (l := p.res.writes.flatMap wrB) (x := x.key) (List.mem_flatMap.2 ⟨x, hx, by simp [wrB]⟩)
    have b := mem_flat (l := p.res.writes.flatMap wrB) (x := x.val) (List.mem_flatMap.2 ⟨x, hx, by simp [wrB]⟩)
    omega
theorem trim_w {p : PkM} {n : Nat} (h1 : mW p.msg ≤ n) (h2 : rW p.res ≤ n) (h3 : p.data.length ≤ n) : mW (trimP p).msg ≤ n ∧ rW (trimP p).res ≤ n ∧ (trimP p).data.length ≤ n := by
  rw [trim_cond]
  have z1 : mW zMsg = 0 := by decide
  have z2 : rW zRes = 0 := by decide
  refine ⟨?_, ?_, ?_⟩
  · show mW (cond _ _ _) ≤ n
    cases (usesL p.kind).contains 77 with
    | true => exact h1
    | false => show mW zMsg ≤ n; omega
  · show rW (cond _ _ _) ≤ n
    cases (usesL p.kind).contains 81 with
    | true => exact h2
    | false => show rW zRes ≤ n; omega
  · show (cond _ _ _ : By).length ≤ n
    cases (usesL p.kind).contains 68 with
    | true => exact h3
    | false => exact Nat.zero_le _
theorem uses_none {k : Int} : usesL k = [] ↔ (k ≠ 1 ∧ k ≠ 2 ∧ k ≠ 3 ∧ k ≠ 4 ∧ k ≠ 5) := by
  unfold usesL
  constructor
  · intro h
    refine ⟨?_, ?_, ?_, ?_, ?_⟩ <;> rintro rfl <;> simp at h
  · rintro ⟨h1, h2, h3, h4, h5⟩
    rw [if_neg h1, if_neg h2, if_neg h3, if_neg h4, if_neg h5]
theorem pkL_none {p : PkM} (h : usesL p.kind = []) : pkL p = none := by
  obtain ⟨h1, h2, h3, h4, h5⟩ := uses_none.1 h
  unfold pkL
  rw [if_neg h1, if_neg h2, if_neg h3, if_neg h4, if_neg h5]
theorem pkL_some {p : PkM} (h : ¬ usesL p.kind = []) : ∃ l, pkL p = some l := by
  unfold pkL
  by_cases h1 : p.kind = 1
  · exact ⟨_, if_pos h1⟩
  by_cases h2 : p.kind = 2
  · exact ⟨_, by rw [if_neg h1, if_pos h2]⟩
  by_cases h3 : p.kind = 3
  · exact ⟨_, by rw [if_neg h1, if_neg h2, if_pos h3]⟩
  by_cases h4 : p.kind = 4
  · exact ⟨_, by rw [if_neg h1, if_neg h2, if_neg h3, if_pos h4]⟩
  by_cases h5 : p.kind = 5
  · exact ⟨_, by rw [if_neg h1, if_neg h2, if_neg h3, if_neg h4, if_pos h5]⟩
  · exact absurd (uses_none.2 ⟨h1, h2, h3, h4, h5⟩) h
theorem pkOk_of {f : FormM} (h : FmO f) : PkOk (pkOf f) := by
  have hi := h.ints
  have hn := h.no.ints
  have hw := h.no.nw
  exact ⟨hi _ (by simp [pkOf]), hi _ (by simp [pkOf]), hi _ (by simp [pkOf]), hi _ (by simp [pkOf]), hi _ (by simp [pkOf]), hi _ (by simp [pkOf]), hi _ (by simp [pkOf]), h.tx.1, h.tx.2, hi _ (by simp [pkOf]),
    ⟨hn _ (by simp [pkOf, msgOf]), hn _ (by simp [pkOf, msgOf]), hn _ (by simp [pkOf, msgOf]), hw _ (by simp [pkOf, msgOf]), hw _ (by simp [pkOf, msgOf]), hw _ (by simp [pkOf, msgOf]), hw _ (by simp [pkOf, msgOf]), entsN_lt _ _ h.no.nt⟩,
    ⟨hi _ (by simp [pkOf, resOf]), hi _ (by simp [pkOf, resOf]), h.rw.1, h.rw.2⟩⟩
theorem PkK.pkR {base : Nat} {y : PkM} {E M P W Y D : Option Addr} {cm cy cd : Nat} {w : World} (h : PkK base y E M P W Y cm cy w) (hd : OwB w base D cd y.data) : PkR w y E M P W Y D := ⟨h.1.1, h.1.2.rd, h.2.1, h.2.2.1, h.2.2.2.rd, hd.rd⟩
theorem pkS_zero : PkS zPk := pkS_of (by decide) (by decide) (by decide)
set_option maxRecDepth 8000 in
set_option maxHeartbeats 8000000 in
theorem packets24_any {f : FormM} {T P W Y D B : Option Addr} {ct cp cw cy cd n c : Nat} {b : By} {w : World} (hR : FmR w f T P W Y cy D cd) (hSz : FmS f) (hO : FmO f) (hr : RdB w B b) (hn : b.length = n) (hc : n ≤ c) (hl : b.length ≤ 1048576) :
    CallsV Try.prog 4 #[.agg (fmV f (noV f.note T ct) P cp W cw Y cy D cd).toArray, .slice B n c] w (RetTrue w) := by
  subst hn
  have hs := St.init w
  have hmax : maxLen = 9223372036854775807 := rfl
  have hNs := fmN_of hO
  refine calls_in (N := _) Try.func4 rfl Try.ntmps4 rfl ?_; show WC _ _ _ _ _ _
  refine wc_sr ?_
  refine ws_box (cs := fmV f (noV f.note T ct) P cp W cw Y cy D cd) hs rfl rfl ?_; clear hs; intro g2 _ hs
  refine wl_as rfl rfl ?_; refine wl_ns ?_; refine wc_seq ?_; refine wc_sr ?_
  refine wl_call ok_caissonlaw24_awake (awake24_any _) trivial rfl ?_
  rintro _ _ ⟨rfl, hbx⟩
  replace hs := hs.below hbx
  clear hbx
  apply wl_val; apply opv_not; exact rfl; exact rfl; refine wl_ns ?_; apply wc_condFb; exact rfl; exact Bool.not_true; refine wc_skip ?_; refine we_seq ?_; refine wc_seq ?_; refine wc_sr ?_; apply wl_val; apply opv_fa; exact fa_Fm11; exact rfl; exact rfl; apply wl_val; apply opv_ldX; exact rfl; exact hs.ar 0 rfl; exact g1_by; exact rfl; exact rfl; apply wl_val; apply opv_len; exact rfl; exact tyB.sl; exact rfl; refine wl_bin rfl rfl bin_gtr rfl ?_; refine wl_mv rfl rfl ?_
  by_cases h1 : f.data.length > 2000
  · have h1' : (f.data.length : Int) > 2000 := by omega
    apply wl_skip; exact rfl; exact rfl; exact rfl; refine bTn ?_; (with_reducible assumption); exact rfl; apply wl_skip; exact rfl; exact rfl; exact rfl; refine bTn ?_; (with_reducible assumption); exact rfl; apply wl_skip; exact rfl; exact rfl; exact rfl; refine bTn ?_; (with_reducible assumption); exact rfl; apply wl_skip; exact rfl; exact rfl; exact rfl; refine bTn ?_; (with_reducible assumption); exact rfl; apply wl_skip; exact rfl; exact rfl; exact rfl; refine bTn ?_; (with_reducible assumption); exact rfl; apply wl_val; apply opv_pickT; exact rfl; refine bT ?_; (with_reducible assumption); exact rfl; exact rfl; refine wl_mv rfl rfl ?_; apply wl_skip; exact rfl; exact rfl; exact rfl; exact bR1; exact rfl; apply wl_skip; exact rfl; exact rfl; exact rfl; exact bR1; exact rfl; apply wl_skip; exact rfl; exact rfl; exact rfl; exact bR1; exact rfl; apply wl_skip; exact rfl; exact rfl; exact rfl; exact bR1; exact rfl; apply wl_skip; exact rfl; exact rfl; exact rfl; exact bR1; exact rfl; apply wl_val; apply opv_pickT; exact rfl; exact rfl; exact rfl; exact rfl; refine wl_mv rfl rfl ?_; apply wl_skip; exact rfl; exact rfl; exact rfl; exact bR1; exact rfl; apply wl_skip; exact rfl; exact rfl; exact rfl; exact bR1; exact rfl; apply wl_skip; exact rfl; exact rfl; exact rfl; exact bR1; exact rfl; apply wl_skip; exact rfl; exact rfl; exact rfl; exact bR1; exact rfl; apply wl_skip; exact rfl; exact rfl; exact rfl; exact bR1; exact rfl; apply wl_skip; exact rfl; exact rfl; exact rfl; exact bR1; exact rfl; apply wl_val; apply opv_pickT; exact rfl; exact rfl; exact rfl; exact rfl; refine wl_ns ?_; apply wc_condTb; exact rfl; exact rfl; refine wc_sr ?_; refine wl_as rfl rfl ?_; refine wl_ns ?_; refine wc_ret ?_; refine we_seq_ret ?_
    exact we_ret1 rfl rfl ⟨_, rfl, rfl, hs.bel⟩
  have h1' : ¬ (f.data.length : Int) > 2000 := by omega
  by_cases h2 : f.note.terms.length > 40
  · have h2' : (f.note.terms.length : Int) > 40 := by omega
    apply wl_take; exact rfl; exact rfl; exact rfl; refine bF ?_; (with_reducible assumption); apply wl_val; apply opv_fa; exact fa_Fm9; exact rfl; exact rfl; apply wl_take; exact rfl; exact rfl; exact rfl; refine bF ?_; (with_reducible assumption); apply wl_val; apply opv_fa; exact fa_No7; exact rfl; exact rfl; apply wl_take; exact rfl; exact rfl; exact rfl; refine bF ?_; (with_reducible assumption); apply wl_val; apply opv_ldX; exact rfl; exact hs.ar 0 rfl; exact g1_ws; exact rfl; exact rfl; apply wl_take; exact rfl; exact rfl; exact rfl; refine bF ?_; (with_reducible assumption); apply wl_val; apply opv_len; exact rfl; exact tyWs.sl; exact rfl; apply wl_take; exact rfl; exact rfl; exact rfl; refine bF ?_; (with_reducible assumption); refine wl_bin rfl rfl bin_gtr rfl ?_; apply wl_val; apply opv_pickF; exact rfl; refine bF ?_; (with_reducible assumption); exact rfl; exact rfl; refine wl_mv rfl rfl ?_; apply wl_skip; exact rfl; exact rfl; exact rfl; refine bTn ?_; (with_reducible assumption); exact rfl; apply wl_skip; exact rfl; exact rfl; exact rfl; refine bTn ?_; (with_reducible assumption); exact rfl; apply wl_skip; exact rfl; exact rfl; exact rfl; refine bTn ?_; (with_reducible assumption); exact rfl; apply wl_skip; exact rfl; exact rfl; exact rfl; refine bTn ?_; (with_reducible assumption); exact rfl; apply wl_skip; exact rfl; exact rfl; exact rfl; refine bTn ?_; (with_reducible assumption); exact rfl; apply wl_val; apply opv_pickT; exact rfl; refine bT ?_; (with_reducible assumption); exact rfl; exact rfl; refine wl_mv rfl rfl ?_; apply wl_skip; exact rfl; exact rfl; exact rfl; exact bR1; exact rfl; apply wl_skip; exact rfl; exact rfl; exact rfl; exact bR1; exact rfl; apply wl_skip; exact rfl; exact rfl; exact rfl; exact bR1; exact rfl; apply wl_skip; exact rfl; exact rfl; exact rfl; exact bR1; exact rfl; apply wl_skip; exact rfl; exact rfl; exact rfl; exact bR1; exact rfl; apply wl_skip; exact rfl; exact rfl; exact rfl; exact bR1; exact rfl; apply wl_val; apply opv_pickT; exact rfl; exact rfl; exact rfl; exact rfl; refine wl_ns ?_; apply wc_condTb; exact rfl; exact rfl; refine wc_sr ?_; refine wl_as rfl rfl ?_; refine wl_ns ?_; refine wc_ret ?_; refine we_seq_ret ?_
    exact we_ret1 rfl rfl ⟨_, rfl, rfl, hs.bel⟩
  have h2' : ¬ (f.note.terms.length : Int) > 40 := by omega
  by_cases h3 : f.pairs.length > 20
  · have h3' : (f.pairs.length : Int) > 20 := by omega
    apply wl_take; exact rfl; exact rfl; exact rfl; refine bF ?_; (with_reducible assumption); apply wl_val; apply opv_fa; exact fa_Fm9; exact rfl; exact rfl; apply wl_take; exact rfl; exact rfl; exact rfl; refine bF ?_; (with_reducible assumption); apply wl_val; apply opv_fa; exact fa_No7; exact rfl; exact rfl; apply wl_take; exact rfl; exact rfl; exact rfl; refine bF ?_; (with_reducible assumption); apply wl_val; apply opv_ldX; exact rfl; exact hs.ar 0 rfl; exact g1_ws; exact rfl; exact rfl; apply wl_take; exact rfl; exact rfl; exact rfl; refine bF ?_; (with_reducible assumption); apply wl_val; apply opv_len; exact rfl; exact tyWs.sl; exact rfl; apply wl_take; exact rfl; exact rfl; exact rfl; refine bF ?_; (with_reducible assumption); refine wl_bin rfl rfl bin_gtr rfl ?_; apply wl_val; apply opv_pickF; exact rfl; refine bF ?_; (with_reducible assumption); exact rfl; exact rfl; refine wl_mv rfl rfl ?_; apply wl_take; exact rfl; exact rfl; exact rfl; refine bF ?_; (with_reducible assumption); apply wl_val; apply opv_fa; exact fa_Fm10; exact rfl; exact rfl; apply wl_take; exact rfl; exact rfl; exact rfl; refine bF ?_; (with_reducible assumption); apply wl_val; apply opv_fa; exact fa_Rs3; exact rfl; exact rfl; apply wl_take; exact rfl; exact rfl; exact rfl; refine bF ?_; (with_reducible assumption); apply wl_val; apply opv_ldX; exact rfl; exact hs.ar 0 rfl; exact g1_prs; exact rfl; exact rfl; apply wl_take; exact rfl; exact rfl; exact rfl; refine bF ?_; (with_reducible assumption); apply wl_val; apply opv_len; exact rfl; exact tkPr.sl; exact rfl; apply wl_take; exact rfl; exact rfl; exact rfl; refine bF ?_; (with_reducible assumption); refine wl_bin rfl rfl bin_gtr rfl ?_; apply wl_val; apply opv_pickF; exact rfl; refine bF ?_; (with_reducible assumption); exact rfl; exact rfl; refine wl_mv rfl rfl ?_; apply wl_skip; exact rfl; exact rfl; exact rfl; refine bTn ?_; (with_reducible assumption); exact rfl; apply wl_skip; exact rfl; exact rfl; exact rfl; refine bTn ?_; (with_reducible assumption); exact rfl; apply wl_skip; exact rfl; exact rfl; exact rfl; refine bTn ?_; (with_reducible assumption); exact rfl; apply wl_skip; exact rfl; exact rfl; exact rfl; refine bTn ?_; (with_reducible assumption); exact rfl; apply wl_skip; exact rfl; exact rfl; exact rfl; refine bTn ?_; (with_reducible assumption); exact rfl; apply wl_skip; exact rfl; exact rfl; exact rfl; refine bTn ?_; (with_reducible assumption); exact rfl; apply wl_val; apply opv_pickT; exact rfl; refine bT ?_; (with_reducible assumption); exact rfl; exact rfl; refine wl_ns ?_; apply wc_condTb; exact rfl; exact rfl; refine wc_sr ?_; refine wl_as rfl rfl ?_; refine wl_ns ?_; refine wc_ret ?_; refine we_seq_ret ?_
    exact we_ret1 rfl rfl ⟨_, rfl, rfl, hs.bel⟩
  have h3' : ¬ (f.pairs.length : Int) > 20 := by omega
  by_cases h4 : f.writes.length > 20
  · have h4' : (f.writes.length : Int) > 20 := by omega
    apply wl_take; exact rfl; exact rfl; exact rfl; refine bF ?_; (with_reducible assumption); apply wl_val; apply opv_fa; exact fa_Fm9; exact rfl; exact rfl; apply wl_take; exact rfl; exact rfl; exact rfl; refine bF ?_; (with_reducible assumption); apply wl_val; apply opv_fa; exact fa_No7; exact rfl; exact rfl; apply wl_take; exact rfl; exact rfl; exact rfl; refine bF ?_; (with_reducible assumption); apply wl_val; apply opv_ldX; exact rfl; exact hs.ar 0 rfl; exact g1_ws; exact rfl; exact rfl; apply wl_take; exact rfl; exact rfl; exact rfl; refine bF ?_; (with_reducible assumption); apply wl_val; apply opv_len; exact rfl; exact tyWs.sl; exact rfl; apply wl_take; exact rfl; exact rfl; exact rfl; refine bF ?_; (with_reducible assumption); refine wl_bin rfl rfl bin_gtr rfl ?_; apply wl_val; apply opv_pickF; exact rfl; refine bF ?_; (with_reducible assumption); exact rfl; exact rfl; refine wl_mv rfl rfl ?_; apply wl_take; exact rfl; exact rfl; exact rfl; refine bF ?_; (with_reducible assumption); apply wl_val; apply opv_fa; exact fa_Fm10; exact rfl; exact rfl; apply wl_take; exact rfl; exact rfl; exact rfl; refine bF ?_; (with_reducible assumption); apply wl_val; apply opv_fa; exact fa_Rs3; exact rfl; exact rfl; apply wl_take; exact rfl; exact rfl; exact rfl; refine bF ?_; (with_reducible assumption); apply wl_val; apply opv_ldX; exact rfl; exact hs.ar 0 rfl; exact g1_prs; exact rfl; exact rfl; apply wl_take; exact rfl; exact rfl; exact rfl; refine bF ?_; (with_reducible assumption); apply wl_val; apply opv_len; exact rfl; exact tkPr.sl; exact rfl; apply wl_take; exact rfl; exact rfl; exact rfl; refine bF ?_; (with_reducible assumption); refine wl_bin rfl rfl bin_gtr rfl ?_; apply wl_val; apply opv_pickF; exact rfl; refine bF ?_; (with_reducible assumption); exact rfl; exact rfl; refine wl_mv rfl rfl ?_; apply wl_take; exact rfl; exact rfl; exact rfl; refine bF ?_; (with_reducible assumption); apply wl_val; apply opv_fa; exact fa_Fm10; exact rfl; exact rfl; apply wl_take; exact rfl; exact rfl; exact rfl; refine bF ?_; (with_reducible assumption); apply wl_val; apply opv_fa; exact fa_Rs4; exact rfl; exact rfl; apply wl_take; exact rfl; exact rfl; exact rfl; refine bF ?_; (with_reducible assumption); apply wl_val; apply opv_fa; exact fa_Rr3; exact rfl; exact rfl; apply wl_take; exact rfl; exact rfl; exact rfl; refine bF ?_; (with_reducible assumption); apply wl_val; apply opv_ldX; exact rfl; exact hs.ar 0 rfl; exact g1_wrs; exact rfl; exact rfl; apply wl_take; exact rfl; exact rfl; exact rfl; refine bF ?_; (with_reducible assumption); apply wl_val; apply opv_len; exact rfl; exact tkWr.sl; exact rfl; apply wl_take; exact rfl; exact rfl; exact rfl; refine bF ?_; (with_reducible assumption); refine wl_bin rfl rfl bin_gtr rfl ?_; apply wl_val; apply opv_pickF; exact rfl; refine bF ?_; (with_reducible assumption); exact rfl; exact rfl; refine wl_ns ?_; apply wc_decT; exact rfl; (with_reducible assumption); refine wc_sr ?_; refine wl_as rfl rfl ?_; refine wl_ns ?_; refine wc_ret ?_; refine we_seq_ret ?_
    exact we_ret1 rfl rfl ⟨_, rfl, rfl, hs.bel⟩
  have h4' : ¬ (f.writes.length : Int) > 20 := by omega
  apply wl_take; exact rfl; exact rfl; exact rfl; refine bF ?_; (with_reducible assumption); apply wl_val; apply opv_fa; exact fa_Fm9; exact rfl; exact rfl; apply wl_take; exact rfl; exact rfl; exact rfl; refine bF ?_; (with_reducible assumption); apply wl_val; apply opv_fa; exact fa_No7; exact rfl; exact rfl; apply wl_take; exact rfl; exact rfl; exact rfl; refine bF ?_; (with_reducible assumption); apply wl_val; apply opv_ldX; exact rfl; exact hs.ar 0 rfl; exact g1_ws; exact rfl; exact rfl; apply wl_take; exact rfl; exact rfl; exact rfl; refine bF ?_; (with_reducible assumption); apply wl_val; apply opv_len; exact rfl; exact tyWs.sl; exact rfl; apply wl_take; exact rfl; exact rfl; exact rfl; refine bF ?_; (with_reducible assumption); refine wl_bin rfl rfl bin_gtr rfl ?_; apply wl_val; apply opv_pickF; exact rfl; refine bF ?_; (with_reducible assumption); exact rfl; exact rfl; refine wl_mv rfl rfl ?_; apply wl_take; exact rfl; exact rfl; exact rfl; refine bF ?_; (with_reducible assumption); apply wl_val; apply opv_fa; exact fa_Fm10; exact rfl; exact rfl; apply wl_take; exact rfl; exact rfl; exact rfl; refine bF ?_; (with_reducible assumption); apply wl_val; apply opv_fa; exact fa_Rs3; exact rfl; exact rfl; apply wl_take; exact rfl; exact rfl; exact rfl; refine bF ?_; (with_reducible assumption); apply wl_val; apply opv_ldX; exact rfl; exact hs.ar 0 rfl; exact g1_prs; exact rfl; exact rfl; apply wl_take; exact rfl; exact rfl; exact rfl; refine bF ?_; (with_reducible assumption); apply wl_val; apply opv_len; exact rfl; exact tkPr.sl; exact rfl; apply wl_take; exact rfl; exact rfl; exact rfl; refine bF ?_; (with_reducible assumption); refine wl_bin rfl rfl bin_gtr rfl ?_; apply wl_val; apply opv_pickF; exact rfl; refine bF ?_; (with_reducible assumption); exact rfl; exact rfl; refine wl_mv rfl rfl ?_; apply wl_take; exact rfl; exact rfl; exact rfl; refine bF ?_; (with_reducible assumption); apply wl_val; apply opv_fa; exact fa_Fm10; exact rfl; exact rfl; apply wl_take; exact rfl; exact rfl; exact rfl; refine bF ?_; (with_reducible assumption); apply wl_val; apply opv_fa; exact fa_Rs4; exact rfl; exact rfl; apply wl_take; exact rfl; exact rfl; exact rfl; refine bF ?_; (with_reducible assumption); apply wl_val; apply opv_fa; exact fa_Rr3; exact rfl; exact rfl; apply wl_take; exact rfl; exact rfl; exact rfl; refine bF ?_; (with_reducible assumption); apply wl_val; apply opv_ldX; exact rfl; exact hs.ar 0 rfl; exact g1_wrs; exact rfl; exact rfl; apply wl_take; exact rfl; exact rfl; exact rfl; refine bF ?_; (with_reducible assumption); apply wl_val; apply opv_len; exact rfl; exact tkWr.sl; exact rfl; apply wl_take; exact rfl; exact rfl; exact rfl; refine bF ?_; (with_reducible assumption); refine wl_bin rfl rfl bin_gtr rfl ?_; apply wl_val; apply opv_pickF; exact rfl; refine bF ?_; (with_reducible assumption); exact rfl; exact rfl; refine wl_ns ?_; apply wc_decF; exact rfl; (with_reducible assumption); refine wc_skip ?_; refine we_seq ?_; refine wc_sr ?_; apply wl_val; apply opv_loadX; exact rfl; exact hs.ar 0 rfl; exact sFm; exact rfl
  refine wl_call ok_caissonlaw24_packet (packet_any (f := f) (ct := ct) (cp := cp) (cw := cw) (cy := cy) (cd := cd) (hR.rT.below hs.bel) (by omega) (hR.rP.below hs.bel) (Nat.le_trans hSz.sP (by decide)) (fun x hx => ⟨Nat.le_trans (hSz.sPb x hx).1 (by decide), Nat.le_trans (hSz.sPb x hx).2 (by decide)⟩)
    (hR.rW.below hs.bel) (Nat.le_trans hSz.sW (by decide)) (fun x hx => ⟨Nat.le_trans (hSz.sWb x hx).1 (by decide), Nat.le_trans (hSz.sWb x hx).2 (by decide)⟩) (hR.rY.below hs.bel) (Nat.le_trans hSz.sY (by decide)) (hR.rD.below hs.bel) (Nat.le_trans hSz.sD (by decide))) ⟨rfl, trivial⟩ rfl ?_
  rintro _ _ ⟨E, ce, P2, p2, W2, w2, Y2, y2, D2, d2, rfl, hsx⟩
  replace hs := hs.call hsx
  clear hsx
  dsimp only [List.cons_append, List.nil_append] at hs
  have hfl := entsN_flat f.note.terms 0
  have hmw : mW (pkOf f).msg ≤ 16777216 := by
    show 0 + ((entsN 0 f.note.terms).map (·.2)).flatten.length + (entsN 0 f.note.terms).length ≤ 16777216
    rw [hfl, entsN_len]; omega
  have hrw : rW (pkOf f).res ≤ 16777216 := hSz.sum
  have hdw : (pkOf f).data.length ≤ 16777216 := Nat.le_trans hSz.sD (by decide)
  have hok := pkOk_of hO
  have hkd : (pkOf f).kind = f.kind := rfl
  refine ws_var (cs := pkV (pkOf f) (msV (msgOf f.note) E ce none 0) (reV (resOf f) P2 p2 W2 w2 Y2 y2) D2 d2) hs zeroPk sPk rfl (fun _ => rfl) (by first | rfl | simp [Value.oneCell']) rfl ?_; clear hs; intro g5 _ hs
  refine wl_ns ?_; refine wc_sr ?_; apply wl_val; apply opv_loadX; exact rfl; exact hs.ar 0 rfl; exact sPk; exact rfl
  obtain ⟨k1, k2, k3, k4, k5⟩ := hs.kp 1 rfl
  refine wl_call ok_session_Packet_Bytes (pkBytes_any (p := pkOf f) hNs.tx k1 (Rd.nil _ none) (Nat.le_refl 0) hNs.nw (entsN_lt _ _ hNs.nt) hmw k2 k3 k4.rd k4.capW hNs.rw hrw k5.rd k5.capW hdw) ⟨rfl, trivial⟩ rfl ?_
  rintro _ w7 ⟨BA, bc, rfl, oB, hbx⟩
  replace hs := hs.below hbx
  have hNb := oB
  clear hbx oB k1 k2 k3 k4 k5
  refine wl_mv rfl rfl ?_
  refine wl_val (opv_extract rfl rfl) rfl ?_
  refine wl_val (opv_extract rfl rfl) rfl ?_
  refine wl_as rfl rfl ?_
  refine wl_as rfl rfl ?_
  refine wl_ns ?_
  refine wc_cut (fun L w' => L = [(1, .slice B b.length c)] ∧ Below w.heap.size w w') ?_ ?_
  · refine wc_sr ?_; apply wl_val; apply opv_fa; exact fa_Fm0; exact rfl; exact rfl; apply wl_val; apply opv_ldX; exact rfl; exact hs.ar 2 rfl; exact g1_int; exact rfl; exact rfl
    refine wl_call ok_caissonref24_Uses (uses_any f.kind _) ⟨rfl, trivial⟩ rfl ?_
    rintro _ _ ⟨rfl, rfl⟩
    by_cases hu : usesL f.kind = []
    · have hpb : pkB (pkOf f) = ([], 3) := by unfold pkB; rw [pkL_none (by rw [hkd]; exact hu)]
      rw [hpb]
      dsimp only
      have h33 : ((3 : Nat) : Int) = 3 := rfl
      have h00 : (([] : By).length : Int) = 0 := rfl
      refine wl_bin rfl rfl bin_eqlS rfl ?_; refine wl_ns ?_; apply wc_decT; exact rfl; (with_reducible assumption); refine wc_sr ?_; refine wl_mv rfl rfl ?_; refine wl_bin rfl rfl bin_neq rfl ?_; refine wl_mv rfl rfl ?_; apply wl_take; exact rfl; exact rfl; exact rfl; refine bF ?_; omega; refine wl_mv rfl rfl ?_; apply wl_take; exact rfl; exact rfl; exact rfl; refine bF ?_; omega; apply wl_val; apply opv_len; exact rfl; exact tyB.sl; exact rfl; apply wl_take; exact rfl; exact rfl; exact rfl; refine bF ?_; omega; refine wl_bin rfl rfl bin_neq rfl ?_; apply wl_val; apply opv_pickF; exact rfl; refine bF ?_; omega; exact rfl; exact rfl; refine wl_ns ?_; apply wc_condFb; exact rfl; exact rfl; refine wc_skip ?_
      exact we_cut _ ⟨rfl, hs.bel⟩ ⟨rfl, trivial⟩
    · obtain ⟨l, hpl⟩ := pkL_some (p := pkOf f) (by rw [hkd]; exact hu)
      have hpb : pkB (pkOf f) = sealB (framed l) := by unfold pkB; rw [hpl]
      by_cases hsz : 1048576 < (framed l).length
      · have hpb2 : pkB (pkOf f) = ([], 2) := by rw [hpb]; unfold sealB; rw [if_pos hsz]
        rw [hpb2]
        dsimp only
        have h22 : ((2 : Nat) : Int) = 2 := rfl
        have h20 : ¬ ((2 : Nat) : Int) = 0 := by omega
        refine wl_bin rfl rfl bin_eqlS rfl ?_; refine wl_ns ?_; apply wc_decF; exact rfl; (with_reducible assumption); refine wc_sr ?_; refine wl_mv rfl rfl ?_; refine wl_bin rfl rfl bin_eql rfl ?_; refine wl_ns ?_; apply wc_condFb; exact rfl; exact rfl; refine wc_sr ?_; refine wl_mv rfl rfl ?_; refine wl_bin rfl rfl bin_neq rfl ?_; refine wl_ns ?_; apply wc_condFb; exact rfl; exact rfl; refine wc_skip ?_
        exact we_cut _ ⟨rfl, hs.bel⟩ ⟨rfl, trivial⟩
      · have hpb2 : pkB (pkOf f) = (crcRec (framed l), 0) := by rw [hpb]; unfold sealB; rw [if_neg hsz]
        have hrd := read_pk hok hpb2
        rw [hpb2] at hNb ⊢
        dsimp only at hNb ⊢
        have h00 : ((0 : Nat) : Int) = 0 := rfl
        have hcl : (crcRec (framed l)).length = 8 + (framed l).length := crcRec_length _
        refine wl_bin rfl rfl bin_eqlS rfl ?_; refine wl_ns ?_; apply wc_decF; exact rfl; (with_reducible assumption); refine wc_sr ?_; refine wl_mv rfl rfl ?_; refine wl_bin rfl rfl bin_eql rfl ?_; refine wl_ns ?_; apply wc_condTb; exact rfl; exact rfl; refine wc_sr ?_; refine wl_mv rfl rfl ?_
        refine wl_call ok_session_Read (sread_any hNb.rd rfl hNb.cap (by omega)) ⟨rfl, trivial⟩ rfl ?_
        rw [hrd]
        rintro _ _ ⟨Ea, cea, Ma, cma, Pa, cpa, Wa, cwa, Ya, cya, Da, cda, rfl, hsx⟩
        dsimp only at hsx
        have htw := trim_w hmw hrw hdw
        have hgo := hs.kp 1 rfl
        replace hs := hs.call hsx
        clear hsx
        dsimp only [List.cons_append, List.nil_append] at hs ⊢
        refine wl_mv rfl rfl ?_; apply wl_val; apply opv_extract; exact rfl; exact rfl; exact rfl; apply wl_val; apply opv_extract; exact rfl; exact rfl; exact rfl
        refine ws_var (cs := pkV (trimP (pkOf f)) (msV (trimP (pkOf f)).msg Ea cea Ma cma) (reV (trimP (pkOf f)).res Pa cpa Wa cwa Ya cya) Da cda) hs zeroPk sPk rfl (fun _ => rfl) (by first | rfl | simp [Value.oneCell']) rfl ?_; clear hs; intro g8 _ hs
        obtain ⟨q1, q2⟩ := hs.kp 1 rfl
        obtain ⟨k1, k2, k3, k4, k5⟩ := hs.kp 3 rfl
        refine wl_as rfl rfl ?_; refine wl_ns ?_; refine wc_sr ?_; refine wl_mv rfl rfl ?_; refine wl_bin rfl rfl bin_neq rfl ?_; refine wl_mv rfl rfl ?_; apply wl_take; exact rfl; exact rfl; exact rfl; refine bF ?_; omega; apply wl_val; apply opv_loadX; exact rfl; exact hs.ar 0 rfl; exact sPk; exact rfl; apply wl_take; exact rfl; exact rfl; exact rfl; refine bF ?_; omega; apply wl_val; apply opv_loadX; exact rfl; exact hs.ar 2 rfl; exact sPk; exact rfl; apply wl_take; exact rfl; exact rfl; exact rfl; refine bF ?_; omega
        refine wl_call ok_caissonlaw24_same (same24_any (x := pkOf f) (M' := none) (cm' := 0) (q1.pkR q2) ⟨k1, Rd.nil _ _, k2, k3, k4.rd, k5.rd⟩ (pkS_of htw.1 htw.2.1 htw.2.2)) ⟨rfl, rfl, trivial⟩ rfl ?_
        rintro _ _ ⟨rfl, hbx⟩
        replace hs := hs.below hbx
        clear hbx
        apply wl_take; exact rfl; exact rfl; exact rfl; refine bF ?_; omega; apply wl_val; apply opv_not; exact rfl; exact rfl; apply wl_val; apply opv_pickF; exact rfl; refine bF ?_; omega; exact rfl; exact rfl; refine wl_ns ?_; apply wc_condFb; exact rfl; exact Bool.not_true; refine wc_skip ?_
        exact we_cut _ ⟨rfl, hs.bel⟩ ⟨rfl, trivial⟩
  · clear hs hNb
    rintro _ w8 ⟨rfl, hbl⟩
    have hs := (St.init w).below hbl
    clear hbl
    refine wc_sr ?_; refine wl_mv rfl rfl ?_
    refine wl_call ok_caissonref03_Open (refOpen_any (p := 0) (hr.below hs.bel) rfl hc (by omega) (by omega)) ⟨rfl, rfl, trivial⟩ rfl ?_
    rintro _ _ ⟨BB, bb, rfl, o_, hbx⟩
    replace hs := hs.below hbx
    clear hbx o_
    obtain ⟨⟨bd, nx, e1⟩, ho⟩ : ∃ z, openB b 0 = z := ⟨_, rfl⟩
    rw [ho]
    dsimp only
    refine wl_mv rfl rfl ?_; apply wl_val; apply opv_extract; exact rfl; exact rfl; exact rfl; apply wl_val; apply opv_extract; exact rfl; exact rfl; exact rfl; apply wl_val; apply opv_extract; exact rfl; exact rfl; exact rfl; refine wl_as rfl rfl ?_; refine wl_as rfl rfl ?_; refine wl_as rfl rfl ?_; refine wl_ns ?_; refine wc_sr ?_; refine wl_mv rfl rfl ?_
    refine wl_call ok_caissonref01_Copy (copy_any (hr.below hs.bel) rfl (by omega)) ⟨rfl, trivial⟩ rfl ?_
    rintro _ _ ⟨X, xc, rfl, o_, hbx⟩
    replace hs := hs.newO hbx o_ (Nat.le_refl _)
    have hxc := OwB.cap o_
    clear hbx o_
    refine wl_call ok_session_Read (sread_any (xs := b) (hs.ow 0 rfl).rd rfl hxc (by omega)) ⟨rfl, trivial⟩ rfl ?_
    by_cases he1 : e1 = 0
    · subst he1
      have h00 : ((0 : Nat) : Int) = 0 := rfl
      by_cases hnx : nx < b.length
      · have hrd : readP b = (zPk, 3) := by
          unfold readP
          rw [ho]
          dsimp only
          rw [if_pos rfl, if_pos hnx]
        have hnx' : (nx : Int) < (b.length : Int) := by omega
        rw [hrd]
        rintro _ _ ⟨Eb, ceb, Mb, cmb, Pb, cpb, Wb, cwb, Yb, cyb, Db, cdb, rfl, hsx⟩
        dsimp only at hsx
        replace hs := hs.call hsx
        clear hsx
        dsimp only [List.cons_append, List.nil_append] at hs ⊢
        refine wl_mv rfl rfl ?_; apply wl_val; apply opv_extract; exact rfl; exact rfl; exact rfl; apply wl_val; apply opv_extract; exact rfl; exact rfl; exact rfl
        refine ws_var (cs := pkV zPk (msV zPk.msg Eb ceb Mb cmb) (reV zPk.res Pb cpb Wb cwb Yb cyb) Db cdb) hs zeroPk sPk rfl (fun _ => rfl) (by first | rfl | simp [Value.oneCell']) rfl ?_; clear hs; intro g13 _ hs
        have h33 : ((3 : Nat) : Int) = 3 := rfl
        refine wl_as rfl rfl ?_; refine wl_ns ?_; refine wc_seq ?_; refine wc_sr ?_; refine wl_mv rfl rfl ?_; refine wl_bin rfl rfl bin_neq rfl ?_; refine wl_ns ?_; apply wc_condFb; exact rfl; exact rfl; refine wc_skip ?_; refine we_seq ?_; refine wc_seq ?_; refine wc_sr ?_; refine wl_mv rfl rfl ?_; refine wl_mv rfl rfl ?_; apply wl_val; apply opv_len; exact rfl; exact tyB.sl; exact rfl; refine wl_bin rfl rfl bin_lss rfl ?_; refine wl_ns ?_; apply wc_decT; exact rfl; (with_reducible assumption); refine wc_sr ?_; refine wl_mv rfl rfl ?_; refine wl_bin rfl rfl bin_eql rfl ?_; refine wl_as rfl rfl ?_; refine wl_ns ?_; refine wc_ret ?_; refine we_seq_ret ?_
        exact we_ret1 rfl rfl ⟨_, rfl, rfl, hs.bel⟩
      have hnx' : ¬ (nx : Int) < (b.length : Int) := by omega
      have hi := openB_inv (Nat.zero_le _) ho
      obtain rfl : nx = b.length := by omega
      have h35 := read_e ho
      obtain ⟨⟨y, e2⟩, hrd⟩ : ∃ z, readP b = z := ⟨_, rfl⟩
      rw [hrd] at h35 ⊢
      rintro _ _ ⟨Eb, ceb, Mb, cmb, Pb, cpb, Wb, cwb, Yb, cyb, Db, cdb, rfl, hsx⟩
      dsimp only at hsx h35 ⊢
      replace hs := hs.call hsx
      clear hsx
      dsimp only [List.cons_append, List.nil_append] at hs
      refine wl_mv rfl rfl ?_; apply wl_val; apply opv_extract; exact rfl; exact rfl; exact rfl; apply wl_val; apply opv_extract; exact rfl; exact rfl; exact rfl
      refine ws_var (cs := pkV y (msV y.msg Eb ceb Mb cmb) (reV y.res Pb cpb Wb cwb Yb cyb) Db cdb) hs zeroPk sPk rfl (fun _ => rfl) (by first | rfl | simp [Value.oneCell']) rfl ?_; clear hs; intro g13 _ hs
      by_cases he2 : e2 = 0
      · subst he2
        obtain ⟨hok2, htr, l2, hpl2, hsz2⟩ := read_inv hrd
        have hw2 := pk_w htr hpl2 hsz2
        have hpb2 : pkB y = (crcRec (framed l2), 0) := by
          unfold pkB
          rw [hpl2]
          dsimp only
          unfold sealB
          rw [if_neg (by omega)]
        have hrd2 := read_pk hok2 hpb2
        refine wl_as rfl rfl ?_; refine wl_ns ?_; refine wc_seq ?_; refine wc_sr ?_; refine wl_mv rfl rfl ?_; refine wl_bin rfl rfl bin_neq rfl ?_; refine wl_ns ?_; apply wc_condFb; exact rfl; exact rfl; refine wc_skip ?_; refine we_seq ?_; refine wc_seq ?_; refine wc_sr ?_; refine wl_mv rfl rfl ?_; refine wl_mv rfl rfl ?_; apply wl_val; apply opv_len; exact rfl; exact tyB.sl; exact rfl; refine wl_bin rfl rfl bin_lss rfl ?_; refine wl_ns ?_; apply wc_decF; exact rfl; (with_reducible assumption); refine wc_skip ?_; refine we_seq ?_; refine wc_seq ?_; refine wc_sr ?_; refine wl_mv rfl rfl ?_; refine wl_bin rfl rfl bin_neq rfl ?_; refine wl_ns ?_; apply wc_condFb; exact rfl; exact rfl; refine wc_skip ?_; refine we_seq ?_; refine wc_sr ?_; apply wl_val; apply opv_loadX; exact rfl; exact hs.ar 0 rfl; exact sPk; exact rfl
        obtain ⟨q1, q2⟩ := hs.kp 1 rfl
        have q3 := q1.pkR q2
        refine wl_call ok_session_Packet_Bytes (pkBytes_any (p := y) (by simpa using ⟨hok2.s, hok2.q⟩) q3.rE q3.rM q1.1.2.capW (by simpa using ⟨hok2.msg.term, hok2.msg.ix, hok2.msg.lt, hok2.msg.cm⟩) hok2.msg.ents (Nat.le_trans hw2.1 (by decide)) q3.rP q3.rW q3.rY q1.2.2.2.capW (by simpa using ⟨hok2.res.ts, hok2.res.rts⟩) (Nat.le_trans hw2.2.1 (by decide)) q3.rD q2.capW (Nat.le_trans hw2.2.2 (by decide))) ⟨rfl, trivial⟩ rfl ?_
        rw [hpb2]
        rintro _ _ ⟨BC, bc2, rfl, hN2, hbx⟩
        replace hs := hs.below hbx
        clear hbx
        dsimp only at hN2 ⊢
        have hcl : (crcRec (framed l2)).length = 8 + (framed l2).length := crcRec_length _
        refine wl_mv rfl rfl ?_; apply wl_val; apply opv_extract; exact rfl; exact rfl; exact rfl; apply wl_val; apply opv_extract; exact rfl; exact rfl; exact rfl; refine wl_as rfl rfl ?_; refine wl_as rfl rfl ?_; refine wl_ns ?_; refine wc_sr ?_; refine wl_mv rfl rfl ?_
        refine wl_call ok_session_Read (sread_any hN2.rd rfl hN2.cap (by omega)) ⟨rfl, trivial⟩ rfl ?_
        rw [hrd2]
        rintro _ _ ⟨Ez, cez, Mz, cmz, Pz, cpz, Wz, cwz, Yz, cyz, Dz, cdz, rfl, hsx⟩
        dsimp only at hsx
        replace hs := hs.call hsx
        clear hsx
        dsimp only [List.cons_append, List.nil_append] at hs ⊢
        refine wl_mv rfl rfl ?_; apply wl_val; apply opv_extract; exact rfl; exact rfl; exact rfl; apply wl_val; apply opv_extract; exact rfl; exact rfl; exact rfl
        refine ws_var (cs := pkV (trimP y) (msV (trimP y).msg Ez cez Mz cmz) (reV (trimP y).res Pz cpz Wz cwz Yz cyz) Dz cdz) hs zeroPk sPk rfl (fun _ => rfl) (by first | rfl | simp [Value.oneCell']) rfl ?_; clear hs; intro g17 _ hs
        obtain ⟨r1, r2⟩ := hs.kp 1 rfl
        obtain ⟨s1, s2⟩ := hs.kp 3 rfl
        refine wl_as rfl rfl ?_; refine wl_ns ?_; refine wc_sr ?_; refine wl_mv rfl rfl ?_; refine wl_bin rfl rfl bin_eql rfl ?_; refine wl_mv rfl rfl ?_; apply wl_take; exact rfl; exact rfl; exact rfl; refine bT ?_; (with_reducible assumption); refine wl_mv rfl rfl ?_; apply wl_take; exact rfl; exact rfl; exact rfl; refine bT ?_; (with_reducible assumption); refine wl_bin rfl rfl bin_eql rfl ?_; apply wl_val; apply opv_pickT; exact rfl; refine bT ?_; (with_reducible assumption); exact rfl; exact rfl; refine wl_mv rfl rfl ?_; apply wl_take; exact rfl; exact rfl; exact rfl; refine bT ?_; (with_reducible assumption); apply wl_val; apply opv_loadX; exact rfl; exact hs.ar 0 rfl; exact sPk; exact rfl; apply wl_take; exact rfl; exact rfl; exact rfl; refine bT ?_; (with_reducible assumption); apply wl_val; apply opv_loadX; exact rfl; exact hs.ar 2 rfl; exact sPk; exact rfl; apply wl_take; exact rfl; exact rfl; exact rfl; refine bT ?_; (with_reducible assumption)
        refine wl_call ok_caissonlaw24_same (same24_any (x := y) (r1.pkR r2) (s1.pkR s2) (by rw [htr]; exact pkS_of (Nat.le_trans hw2.1 (by decide)) (Nat.le_trans hw2.2.1 (by decide)) (Nat.le_trans hw2.2.2 (by decide)))) ⟨rfl, rfl, trivial⟩ rfl ?_
        rintro _ _ ⟨rfl, hbx⟩
        replace hs := hs.below hbx
        clear hbx
        apply wl_val; apply opv_pickT; exact rfl; refine bT ?_; (with_reducible assumption); exact rfl; exact rfl; refine wl_as rfl rfl ?_; refine wl_ns ?_; refine wc_ret ?_
        exact we_ret1 rfl rfl ⟨_, rfl, rfl, hs.bel⟩
      · have hy0 := read_err hrd he2
        subst hy0
        have he2' : ¬ (e2 : Int) = 0 := by omega
        rcases h35 with h | h | h
        · exact absurd h he2
        · subst h
          have h33 : ((3 : Nat) : Int) = 3 := rfl
          refine wl_as rfl rfl ?_; refine wl_ns ?_; refine wc_seq ?_; refine wc_sr ?_; refine wl_mv rfl rfl ?_; refine wl_bin rfl rfl bin_neq rfl ?_; refine wl_ns ?_; apply wc_condFb; exact rfl; exact rfl; refine wc_skip ?_; refine we_seq ?_; refine wc_seq ?_; refine wc_sr ?_; refine wl_mv rfl rfl ?_; refine wl_mv rfl rfl ?_; apply wl_val; apply opv_len; exact rfl; exact tyB.sl; exact rfl; refine wl_bin rfl rfl bin_lss rfl ?_; refine wl_ns ?_; apply wc_decF; exact rfl; (with_reducible assumption); refine wc_skip ?_; refine we_seq ?_; refine wc_seq ?_; refine wc_sr ?_; refine wl_mv rfl rfl ?_; refine wl_bin rfl rfl bin_neq rfl ?_; refine wl_ns ?_; apply wc_condTb; exact rfl; exact rfl; refine wc_sr ?_; refine wl_mv rfl rfl ?_; refine wl_bin rfl rfl bin_eql rfl ?_; refine wl_mv rfl rfl ?_; apply wl_skip; exact rfl; exact rfl; exact rfl; refine bTn ?_; (with_reducible assumption); exact rfl; apply wl_skip; exact rfl; exact rfl; exact rfl; refine bTn ?_; (with_reducible assumption); exact rfl; apply wl_val; apply opv_pickT; exact rfl; refine bT ?_; (with_reducible assumption); exact rfl; exact rfl; refine wl_mv rfl rfl ?_; apply wl_take; exact rfl; exact rfl; exact rfl; exact rfl; apply wl_val; apply opv_fa; exact fa_Pk0; exact rfl; exact rfl; apply wl_take; exact rfl; exact rfl; exact rfl; exact rfl; apply wl_val; apply opv_ldX; exact rfl; exact hs.ar 0 rfl; exact g1_int; exact rfl; exact rfl; apply wl_take; exact rfl; exact rfl; exact rfl; exact rfl; refine wl_bin rfl rfl bin_eql rfl ?_; apply wl_val; apply opv_pickT; exact rfl; exact rfl; exact rfl; exact rfl; refine wl_as rfl rfl ?_; refine wl_ns ?_; refine wc_ret ?_; refine we_seq_ret ?_
          exact we_ret1 rfl rfl ⟨_, rfl, rfl, hs.bel⟩
        · subst h
          have h53 : ¬ ((5 : Nat) : Int) = 3 := by omega
          have h55 : ((5 : Nat) : Int) = 5 := rfl
          refine wl_as rfl rfl ?_; refine wl_ns ?_; refine wc_seq ?_; refine wc_sr ?_; refine wl_mv rfl rfl ?_; refine wl_bin rfl rfl bin_neq rfl ?_; refine wl_ns ?_; apply wc_condFb; exact rfl; exact rfl; refine wc_skip ?_; refine we_seq ?_; refine wc_seq ?_; refine wc_sr ?_; refine wl_mv rfl rfl ?_; refine wl_mv rfl rfl ?_; apply wl_val; apply opv_len; exact rfl; exact tyB.sl; exact rfl; refine wl_bin rfl rfl bin_lss rfl ?_; refine wl_ns ?_; apply wc_decF; exact rfl; (with_reducible assumption); refine wc_skip ?_; refine we_seq ?_; refine wc_seq ?_; refine wc_sr ?_; refine wl_mv rfl rfl ?_; refine wl_bin rfl rfl bin_neq rfl ?_; refine wl_ns ?_; apply wc_condTb; exact rfl; exact rfl; refine wc_sr ?_; refine wl_mv rfl rfl ?_; refine wl_bin rfl rfl bin_eql rfl ?_; refine wl_mv rfl rfl ?_; apply wl_take; exact rfl; exact rfl; exact rfl; refine bF ?_; (with_reducible assumption); refine wl_mv rfl rfl ?_; apply wl_take; exact rfl; exact rfl; exact rfl; refine bF ?_; (with_reducible assumption); refine wl_bin rfl rfl bin_eql rfl ?_; apply wl_val; apply opv_pickF; exact rfl; refine bF ?_; (with_reducible assumption); exact rfl; exact rfl; refine wl_mv rfl rfl ?_; apply wl_take; exact rfl; exact rfl; exact rfl; refine bT ?_; (with_reducible assumption); apply wl_val; apply opv_fa; exact fa_Pk0; exact rfl; exact rfl; apply wl_take; exact rfl; exact rfl; exact rfl; refine bT ?_; (with_reducible assumption); apply wl_val; apply opv_ldX; exact rfl; exact hs.ar 0 rfl; exact g1_int; exact rfl; exact rfl; apply wl_take; exact rfl; exact rfl; exact rfl; refine bT ?_; (with_reducible assumption); refine wl_bin rfl rfl bin_eql rfl ?_; apply wl_val; apply opv_pickT; exact rfl; refine bT ?_; (with_reducible assumption); exact rfl; exact rfl; refine wl_as rfl rfl ?_; refine wl_ns ?_; refine wc_ret ?_; refine we_seq_ret ?_
          exact we_ret1 rfl rfl ⟨_, rfl, rfl, hs.bel⟩
    · have hrd : readP b = (zPk, e1) := by
        unfold readP
        rw [ho]
        dsimp only
        rw [if_neg he1]
      have he1' : ¬ (e1 : Int) = 0 := by omega
      rw [hrd]
      rintro _ _ ⟨Eb, ceb, Mb, cmb, Pb, cpb, Wb, cwb, Yb, cyb, Db, cdb, rfl, hsx⟩
      dsimp only at hsx
      replace hs := hs.call hsx
      clear hsx
      dsimp only [List.cons_append, List.nil_append] at hs ⊢
      refine wl_mv rfl rfl ?_; apply wl_val; apply opv_extract; exact rfl; exact rfl; exact rfl; apply wl_val; apply opv_extract; exact rfl; exact rfl; exact rfl
      refine ws_var (cs := pkV zPk (msV zPk.msg Eb ceb Mb cmb) (reV zPk.res Pb cpb Wb cwb Yb cyb) Db cdb) hs zeroPk sPk rfl (fun _ => rfl) (by first | rfl | simp [Value.oneCell']) rfl ?_; clear hs; intro g13 _ hs
      refine wl_as rfl rfl ?_; refine wl_ns ?_; refine wc_seq ?_; refine wc_sr ?_; refine wl_mv rfl rfl ?_; refine wl_bin rfl rfl bin_neq rfl ?_; refine wl_ns ?_; apply wc_decT; exact rfl; (with_reducible assumption); refine wc_sr ?_; refine wl_mv rfl rfl ?_; refine wl_mv rfl rfl ?_; refine wl_bin rfl rfl bin_eql rfl ?_; refine wl_mv rfl rfl ?_; apply wl_take; exact rfl; exact rfl; exact rfl; refine bT ?_; (with_reducible rfl); apply wl_val; apply opv_loadX; exact rfl; exact hs.ar 0 rfl; exact sPk; exact rfl; apply wl_take; exact rfl; exact rfl; exact rfl; refine bT ?_; (with_reducible rfl)
      refine wl_val (opv_build (vs := []) (cs := pkF zPk none 0 none 0 none 0 none 0 none 0 none 0) trivial (by kernel_rfl)) rfl ?_
      obtain ⟨q1, q2⟩ := hs.kp 1 rfl
      refine wl_take rfl rfl rfl (by first | rfl | exact bT rfl) ?_
      refine wl_call ok_caissonlaw24_same (same24_any (x := zPk) (E' := none) (ce' := 0) (M' := none) (cm' := 0) (P' := none) (cp' := 0) (W' := none) (cw' := 0) (Y' := none) (cy' := 0) (D' := none) (cd' := 0) (q1.pkR q2) ⟨rdr_nil, Rd.nil _ _, rdr_nil, rdr_nil, Rd.nil _ _, Rd.nil _ _⟩ pkS_zero) ⟨rfl, rfl, trivial⟩ rfl ?_
      rintro _ _ ⟨rfl, hbx⟩
      replace hs := hs.below hbx
      clear hbx
      apply wl_val; apply opv_pickT; exact rfl; refine bT ?_; (with_reducible rfl); exact rfl; exact rfl; refine wl_as rfl rfl ?_; refine wl_ns ?_; refine wc_ret ?_; refine we_seq_ret ?_
      exact we_ret1 rfl rfl ⟨_, rfl, rfl, hs.bel⟩
end Go.Proofs.Ytaacnknniaipmaa

/-
  SessionPackets over its arguments.
-/
namespace Go.Proofs.Ytaacnknniaipmaa
open Go.RowKit
theorem packets_op {f : FormM} {xs : Array Value} {B : Option Addr} {n c : Nat} {b : By} {w : World} (hx : (fmEl f).P w All xs.toList) (ho : FmO f) (hb : fmB f ≤ 1048576) (hr : RdB w B b) (hn : b.length = n) (hc : n ≤ c) (hl : b.length ≤ 1048576) :
    CallsV Try.prog 4 #[.agg xs, .slice B n c] w fun v w' => v = .bool true ∧ Below w.heap.size w w' := by
  obtain ⟨T, ct, P, cp, W, cw, Y, cy, D, cd, h0, hR⟩ := fmEl.rd hx
  obtain rfl : xs = (fmV f (noV f.note T ct) P cp W cw Y cy D cd).toArray := by rw [← h0]
  exact packets24_any hR (fmS_of hb) ho hr hn hc hl
end Go.Proofs.Ytaacnknniaipmaa
