/-
  The texts of this proof, joined: Ng, Ve, Vf, Ka, Nh, Ni, Nj, Kb, Nk, Nl, Nm, No, Np, Nr, Da, Db.
-/
import Derived.Test.YtmdbjeabifkimaaCalM3
import Derived.Laws.CopyOwn
import Derived.Lib.MakeNoZero
import Derived.Laws.Externs
import Derived.Test.YtmdbjeabifkimaaCalM2
import Derived.ArgAppend
import Derived.Lib.SliceRun
import Derived.Deep.Upon

/-
  Walks over blockers and For of lock tables.
-/
namespace Go.Proofs.Ytmdbjeabifkimaa
open Go.RowKit

theorem opv_maxI {P : Program} {L : FL} {w : World} {x y : Operand} {ats : Array TypeId} {ty : TypeId} {k : IntKind} {a b r : Int} (hx : look L x = some (.int k a)) (hy : look L y = some (.int k b)) (hr : (if a < b then b else a) = r) : OpV P (.call { callee := .builtin .max, args := #[x, y], argTypes := ats }) ty L w (.int k r) w := fun ρ o hρ ho _ => by
  subst hr
  unfold execOp
  simp only [ho, resolve, invoke, builtin, Sem.run_bind, Sem.run_pure, Result.andThen_ok, List.map_toArray, List.map_cons, List.map_nil, hρ x _ hx, hρ y _ hy]
  simp [Builtin.max_, Builtin.max2]
def aheadN (q : List Tx) (x : Tx) : Nat := if x ∈ q then q.idxOf x else 0
theorem aheadN_take (q : List Tx) (x : Tx) : aheadL q x = q.take (aheadN q x) := by
  unfold aheadL aheadN; split <;> simp
theorem aheadN_le (q : List Tx) (x : Tx) : aheadN q x ≤ q.length := by
  unfold aheadN
  split
  · exact Nat.le_of_lt (List.idxOf_lt_length_of_mem (by assumption))
  · exact Nat.zero_le _
theorem idxOf_mapI {gp : Tx → Nat} {x : Tx} : ∀ {q : List Tx}, (∀ y ∈ q, gp y = gp x → y = x) → (q.map gp).idxOf (gp x) = q.idxOf x
  | [], _ => rfl
  | y :: q, h => by
    rw [List.map_cons, List.idxOf_cons, List.idxOf_cons, idxOf_mapI fun z hz => h z (List.mem_cons_of_mem _ hz)]
    by_cases e : y = x
    · subst e; simp
    · have e1 : (gp y == gp x) = false := by simpa using fun k => e (h y List.mem_cons_self k)
      have e2 : (y == x) = false := by simpa using e
      rw [e1, e2]
theorem filter_takeS {α : Type} {f : α → Bool} {l : List α} {k : Nat} {x : α} (h : l[k]? = some x) : (l.take (k + 1)).filter f = (l.take k).filter f ++ if f x then [x] else [] := by
  rw [take_getR h, List.filter_append]
  congr 1
  cases hf : f x <;> simp [hf]
def bnames (tb : Tb) (o : Ownr) : List Tx := (blockers tb o).map (·.x)
theorem blockers_any {t : Nat} {gp : Tx → Nat} {tb : Tb} {o : Ownr} {w : World} (hT : RdT w t gp tb) (hw : Wf tb) (ho : o ∈ tb.os) (hl : tb.os.length ≤ 1048576) (hq : tb.qu.length ≤ 1048576) (hh : ∀ o ∈ tb.os, o.held.length ≤ 4294967296) :
    CallsV Try.prog 45 #[pN t, pN (gp o.x)] w fun v w' => ∃ (P : Option Addr) (cp : Nat), v = .slice P (bnames tb o).length cp ∧ St NoB w w' [.ow 75 P (bnames tb o).length cp (ptrs gp (bnames tb o))] := by
  have hs := (St.init w).nilO 75
  obtain ⟨A, c, B, d, h1, h2, h3, h4, h5⟩ := hT.tab
  have hox : o.x ∈ names tb := List.mem_map_of_mem ho
  have hxq := hT.mem_ptr hw.sub hox
  have hm : (if 0 < idxV (tb.qu.map gp) (gp o.x) then idxV (tb.qu.map gp) (gp o.x) else 0) = (aheadN tb.qu o.x : Int) := by
    unfold idxV aheadN
    by_cases hk : o.x ∈ tb.qu
    · rw [if_pos (hxq.2 hk), if_pos hk, idxOf_mapI fun y hy => hT.inj y (hw.sub y hy) o.x hox]
      split <;> omega
    · rw [if_neg fun k => hk (hxq.1 k), if_neg hk]; rfl
  have hmle := aheadN_le tb.qu o.x
  have hah := aheadN_take tb.qu o.x
  obtain ⟨m, hmd⟩ : ∃ m, aheadN tb.qu o.x = m := ⟨_, rfl⟩
  rw [hmd] at hm hmle hah
  have rah : Rd w B m (ptrs gp (aheadL tb.qu o.x)) := by
    have := Rd.cut (l := 0) (h := m) h3 (Nat.zero_le _) hmle h5
    rw [cutA_zero, Nat.sub_zero, List.drop_zero] at this
    rw [hah, ptrs, List.map_take]; exact this
  obtain ⟨OH, ohc, OK, okc, ao, _, rOK, _, hokc⟩ := hT.own o ho
  have hfo := hw.few o ho
  unfold pN
  refine calls_in (N := _) Try.func45 rfl Try.ntmps45 rfl ?_; show WC _ _ _ _ _ _
  refine wc_sr ?_; refine wl_as rfl rfl ?_; refine wl_ns ?_; refine wc_seq ?_
  refine wc_drawB mixed (by kernel_rfl) ?_
  apply wq_val; intro _ hw_; apply opv_move; exact rfl; exact rfl; apply wq_val; intro _ hw_; apply opv_nilOk; exact rfl; exact rfl; apply wq_val; intro _ hw_; apply opv_fa; exact fa_Tb1; exact rfl; exact rfl; apply wq_val; intro _ hw_; apply opv_ldX; exact rfl; exact Ar.bel (by assumption) hw_; exact e1_pos; exact rfl; exact rfl; apply wq_val; intro _ hw_; apply opv_move; exact rfl; exact rfl; apply wq_val; intro _ hw_; apply opv_nilOk; exact rfl; exact rfl; apply wq_val; intro _ hw_; apply opv_fa; exact fa_Tb1; exact rfl; exact rfl; apply wq_val; intro _ hw_; apply opv_ldX; exact rfl; exact Ar.bel (by assumption) hw_; exact e1_pos; exact rfl; exact rfl; apply wq_val; intro _ hw_; apply opv_move; exact rfl; exact rfl
  refine wq_call (v := .int .i64 (idxV (tb.qu.map gp) (gp o.x))) ok_slices_Index_lock_owner_lock_owner (fun w' hw' => (index_any (ps := tb.qu.map gp) (by rw [← ptrs_map]; exact h3.below hw') (fun p hp => by obtain ⟨y, hy, rfl⟩ := List.mem_map.1 hp; exact (hT.below hw').blk (hw.sub y hy)) ((hT.below hw').blk hox) (by rw [List.length_map]; omega)).mono fun v w2 h2 => ⟨h2.1, by rw [h2.2]; exact hw'⟩) ⟨rfl, rfl, trivial⟩ rfl ?_
  refine wq_val (fun w' hw_ => opv_maxI (r := (m : Int)) rfl rfl hm) rfl ?_
  refine wq_val (fun w' hw_ => opv_slice (l := 0) (h := m) tyPO rfl rfl ⟨_, rfl⟩ (Nat.zero_le _) (by omega)) rfl ?_
  rw [cutA_zero, Nat.sub_zero, Nat.sub_zero]
  apply wq_val; intro _ hw_; apply opv_assign; exact rfl; exact rfl; refine wq_nil fun w1 hw1 => ?_
  replace hs := hs.below hw1
  replace h1 := h1.bel hw1
  refine we_seq ?_; refine wc_sr ?_; refine wl_as rfl rfl ?_; refine wl_ns ?_; refine wc_seq ?_; refine wc_sr ?_; refine wl_mv rfl rfl ?_; apply wl_val; apply opv_nilOk; exact rfl; exact rfl; apply wl_val; apply opv_fa; exact fa_Tb0; exact rfl; exact rfl; apply wl_val; apply opv_ldX; exact rfl; assumption; exact e1_pos; exact rfl; exact rfl; apply wl_val; apply opv_len; exact rfl; exact tyPO.sl; exact rfl; refine wl_mv rfl rfl ?_; refine wl_ns ?_; refine wc_block ?_
  refine wc_loop (fun L wr mm => ∃ (k : Nat) (P : Option Addr) (cp : Nat), L = [(1, .pointer (some ⟨gp o.x, 0, none⟩)), (5, .slice B m d), (24, .slice A tb.os.length c), (25, .int .i64 (tb.os.length : Int)), (26, .int .i64 (k : Int)), (6, .slice P ((tb.os.take k).filter (blkP tb o)).length cp)] ∧ k ≤ tb.os.length ∧ St NoB w wr [.ow 75 P ((tb.os.take k).filter (blkP tb o)).length cp (ptrs gp (((tb.os.take k).filter (blkP tb o)).map (·.x)))] ∧ mm = tb.os.length - k)
    [(1, .pointer (some ⟨gp o.x, 0, none⟩)), (5, .slice B m d), (24, .slice A tb.os.length c), (25, .int .i64 (tb.os.length : Int)), (26, .int .i64 (0 : Nat)), (6, .slice none 0 0)] tb.os.length ⟨0, none, 0, rfl, by omega, hs, rfl⟩ ⟨rfl, rfl, rfl, rfl, rfl, rfl, trivial⟩ ?_
  clear hs h1 hw1
  rintro _ w2 mm ⟨k, P, cp, rfl, hk, hs, rfl⟩
  refine wc_sr ?_; refine wl_bin rfl rfl bin_lss rfl ?_; refine wl_ns ?_; refine wc_seq ?_
  refine wc_cond rfl (fun h1 => ?_) (fun h1 => ?_)
  · obtain ⟨p, hp⟩ : ∃ p, tb.os[k]? = some p := ⟨_, List.getElem?_eq_getElem (by omega)⟩
    have hpm := List.mem_of_getElem? hp
    have hpn := names_get hp
    have hft := filter_takeS (f := blkP tb o) hp
    have hlen : ((tb.os.take k).filter (blkP tb o)).length ≤ k := Nat.le_trans (List.length_filter_le _ _) (by rw [List.length_take]; omega)
    have hr2 := h2.below hs.bel
    have hu : (ptrs gp (names tb))[k]? = some (pN (gp p.x)) := by rw [List.getElem?_map, hpn]; rfl
    obtain ⟨PH, phc, PK, pkc, ap, rPH, rPK, _, _⟩ := hT.own p hpm
    have hfp := hw.few p hpm
    have hhp := hh p hpm
    replace ap := ap.bel hs.bel
    have ao2 := ao.bel hs.bel
    unfold pN at hu
    unfold owV at ap ao2
    refine wc_skip ?_; refine we_seq ?_; refine wc_seq ?_; refine wc_block ?_; refine wc_sr ?_; apply wl_elK (T := tyPO) (hr := hr2) (hb := hu); exact rfl; exact rfl; exact rfl; exact rfl; exact rfl; intro _; refine wl_as rfl rfl ?_; refine wl_ns ?_; refine wc_seq ?_; refine wc_sr ?_; refine wl_mv rfl rfl ?_; refine wl_mv rfl rfl ?_
    refine wl_val (opv_eqPP rfl rfl ap ao2) rfl ?_
    have hkk : ((k + 1 : Nat) : Int) = (k : Int) + 1 := by omega
    by_cases hpo : p.x = o.x
    · have hg : gp p.x = gp o.x := by rw [hpo]
      have hbf : blkP tb o p = false := by rw [blkP, decide_eq_true hpo]; rfl
      rw [hbf, if_neg (by decide), List.append_nil] at hft
      refine wl_ns ?_; apply wc_decT; exact rfl; (with_reducible assumption); refine wc_exit ?_; refine we_seq_exit ?_; refine we_block_exit ?_; refine we_seq ?_; refine wc_region ?_; apply wl_val; apply opv_bin; exact rfl; exact rfl; exact bin_add64 (by omega); exact rfl; refine wl_mv rfl rfl ?_; refine wl_nil ?_
      exact we_loop _ (tb.os.length - (k + 1)) ⟨k + 1, P, cp, rfl, by omega, by rw [hft]; exact hs, rfl⟩ (by omega) ⟨rfl, rfl, rfl, rfl, by simp [lookT], by rw [hft]; rfl, trivial⟩
    · have hg : ¬ gp p.x = gp o.x := fun e => hpo (hT.inj _ (List.mem_map_of_mem hpm) _ hox e)
      refine wl_ns ?_; apply wc_decF; exact rfl; (with_reducible assumption); refine wc_skip ?_; refine we_seq ?_; refine wc_seq ?_
      have hcl1 := fun (w' : World) (hw' : Below w2.heap.size w2 w') => clash_any (c := phc) (d := okc) (rPH.below (hs.below hw').bel) (rOK.below (hs.below hw').bel) rfl rfl (by omega) (by omega)
      have hcl2 := fun (w' : World) (hw' : Below w2.heap.size w2 w') => clash_any (c := pkc) (d := okc) (rPK.below (hs.below hw').bel) (rOK.below (hs.below hw').bel) rfl rfl (by omega) (by omega)
      have hbr : blkP tb o p = (clashB p.held o.asks || (decide (p.x ∈ aheadL tb.qu o.x) && clashB p.asks o.asks)) := by rw [blkP, decide_eq_false hpo]; rfl
      have hct := fun (w' : World) (hw' : Below w2.heap.size w2 w') => contains_any (c := d) (g := gp p.x) (ps := (aheadL tb.qu o.x).map gp) (by rw [← ptrs_map]; exact rah.below (hs.below hw').bel) (fun q hq => by obtain ⟨y, hy, rfl⟩ := List.mem_map.1 hq; exact (hT.below (hs.below hw').bel).blk (hw.sub y (List.mem_of_mem_take (by rw [← hah]; exact hy)))) ((hT.below (hs.below hw').bel).blk (List.mem_map_of_mem hpm)) (by rw [List.length_map, hah, List.length_take]; omega)
      have hmp : decide (gp p.x ∈ (aheadL tb.qu o.x).map gp) = decide (p.x ∈ aheadL tb.qu o.x) := by
        simp only [hT.mem_ptr (l := aheadL tb.qu o.x) (fun x hx => hw.sub x (List.mem_of_mem_take (by rw [← hah]; exact hx))) (List.mem_map_of_mem hpm)]
      rw [hmp] at hct
      refine wc_drawB mixed (by kernel_rfl) ?_
      apply wq_val; intro _ hw_; apply opv_move; exact rfl; exact rfl; apply wq_val; intro _ hw_; apply opv_nilOk; exact rfl; exact rfl; apply wq_val; intro _ hw_; apply opv_fa; exact fa_O1; exact rfl; exact rfl; apply wq_val; intro _ hw_; apply opv_ldX; exact rfl; exact Ar.bel (by assumption) hw_; exact e1_rgs; exact rfl; exact rfl; apply wq_val; intro _ hw_; apply opv_move; exact rfl; exact rfl; apply wq_val; intro _ hw_; apply opv_nilOk; exact rfl; exact rfl; apply wq_val; intro _ hw_; apply opv_fa; exact fa_O2; exact rfl; exact rfl; apply wq_val; intro _ hw_; apply opv_ldX; exact rfl; exact Ar.bel (by assumption) hw_; exact e1_rgs; exact rfl; exact rfl
      refine wq_call (v := .bool (clashB p.held o.asks)) ok_lock_clash (fun w' hw' => (hcl1 w' hw').mono fun v w2 h2 => ⟨h2.1, hw'.trans (h2.2.mono hw'.size)⟩) ⟨rfl, rfl, trivial⟩ rfl ?_
      cases hc1 : clashB p.held o.asks with
      | true =>
        rw [hc1] at hbr
        rw [hbr, Bool.true_or, if_pos rfl] at hft
        apply wq_val; intro _ hw_; apply opv_move; exact rfl; exact rfl; apply wq_skip; exact rfl; exact rfl; exact rfl; exact bR1; exact rfl; apply wq_skip; exact rfl; exact rfl; exact rfl; exact bR1; exact rfl; apply wq_skip; exact rfl; exact rfl; exact rfl; exact bR1; exact rfl; apply wq_skip; exact rfl; exact rfl; exact rfl; exact bR1; exact rfl; apply wq_skipU; exact rfl; exact rfl; exact rfl; exact rfl; apply wq_skipU; exact rfl; exact rfl; exact rfl; exact rfl; apply wq_skipU; exact rfl; exact rfl; exact rfl; exact rfl; apply wq_skipU; exact rfl; exact rfl; exact rfl; exact rfl; apply wq_skipU; exact rfl; exact rfl; exact rfl; exact rfl; apply wq_skipU; exact rfl; exact rfl; exact rfl; exact rfl; apply wq_skipU; exact rfl; exact rfl; exact rfl; exact rfl; apply wq_skipU; exact rfl; exact rfl; exact rfl; exact rfl; apply wq_skipU; exact rfl; exact rfl; exact rfl; exact rfl; apply wq_skip; exact rfl; exact rfl; exact rfl; exact bR1; exact rfl; apply wq_val; intro _ hw_; apply opv_pickT; exact rfl; exact rfl; exact rfl; exact rfl; refine wq_nil fun w1 hw1 => ?_
        replace hs := hs.below hw1
        refine we_seq ?_; apply wc_condTb; exact rfl; exact rfl; refine wc_region ?_; refine wl_mv rfl rfl ?_; refine wl_mv rfl rfl ?_
        refine ws_push (vs := [pN (gp p.x)]) hs 0 rfl rfl tyPO ⟨rfl, rfl, rfl, trivial⟩ rfl (by decide) rfl (by omega) (by simp only [maxLen]; omega) rfl rfl ?_
        clear hs; intro _ P2 cp2 w3 hs; dsimp only [setC] at hs
        refine wl_as rfl rfl ?_; refine wl_nil ?_; refine we_block_norm ?_; refine we_seq ?_; refine wc_region ?_; apply wl_val; apply opv_bin; exact rfl; exact rfl; exact bin_add64 (by omega); exact rfl; refine wl_mv rfl rfl ?_; refine wl_nil ?_
        exact we_loop _ (tb.os.length - (k + 1)) ⟨k + 1, P2, cp2, rfl, by omega, by rw [hft]; simpa [ptrs] using hs, rfl⟩ (by omega) ⟨rfl, rfl, rfl, rfl, by simp [lookT], by rw [hft, List.length_append]; rfl, trivial⟩
      | false =>
        rw [hc1, Bool.false_or] at hbr
        apply wq_val; intro _ hw_; apply opv_move; exact rfl; exact rfl; apply wq_take; exact rfl; exact rfl; exact rfl; exact rfl; apply wq_val; intro _ hw_; apply opv_move; exact rfl; exact rfl; apply wq_take; exact rfl; exact rfl; exact rfl; exact rfl; apply wq_val; intro _ hw_; apply opv_move; exact rfl; exact rfl; apply wq_take; exact rfl; exact rfl; exact rfl; exact rfl
        refine wq_call (v := .bool (decide (p.x ∈ aheadL tb.qu o.x))) ok_slices_Contains_lock_owner_lock_owner (fun w' hw' => (hct w' hw').mono fun v w2 h2 => ⟨h2.1, by rw [h2.2]; exact hw'⟩) ⟨rfl, rfl, trivial⟩ rfl ?_
        cases hin : decide (p.x ∈ aheadL tb.qu o.x) with
        | false =>
          rw [hin, Bool.false_and] at hbr
          rw [hbr, if_neg (by decide), List.append_nil] at hft
          apply wq_take; exact rfl; exact rfl; exact rfl; exact rfl; apply wq_val; intro _ hw_; apply opv_move; exact rfl; exact rfl; apply wq_skip; exact rfl; exact rfl; exact rfl; exact bR2; exact rfl; apply wq_skip; exact rfl; exact rfl; exact rfl; exact bR2; exact rfl; apply wq_skip; exact rfl; exact rfl; exact rfl; exact bR2; exact rfl; apply wq_skip; exact rfl; exact rfl; exact rfl; exact bR2; exact rfl; apply wq_skip; exact rfl; exact rfl; exact rfl; exact bR2; exact rfl; apply wq_skip; exact rfl; exact rfl; exact rfl; exact bR2; exact rfl; apply wq_skip; exact rfl; exact rfl; exact rfl; exact bR2; exact rfl; apply wq_skip; exact rfl; exact rfl; exact rfl; exact bR2; exact rfl; apply wq_skip; exact rfl; exact rfl; exact rfl; exact bR2; exact rfl; apply wq_take; exact rfl; exact rfl; exact rfl; exact rfl; apply wq_val; intro _ hw_; apply opv_pickF; exact rfl; exact rfl; exact rfl; exact rfl; apply wq_val; intro _ hw_; apply opv_pickF; exact rfl; exact rfl; exact rfl; exact rfl; refine wq_nil fun w1 hw1 => ?_
          replace hs := hs.below hw1
          refine we_seq ?_; apply wc_condFb; exact rfl; exact rfl; refine wc_skip ?_; refine we_block_norm ?_; refine we_seq ?_; refine wc_region ?_; apply wl_val; apply opv_bin; exact rfl; exact rfl; exact bin_add64 (by omega); exact rfl; refine wl_mv rfl rfl ?_; refine wl_nil ?_
          exact we_loop _ (tb.os.length - (k + 1)) ⟨k + 1, P, cp, rfl, by omega, by rw [hft]; exact hs, rfl⟩ (by omega) ⟨rfl, rfl, rfl, rfl, by simp [lookT], by rw [hft]; rfl, trivial⟩
        | true =>
          rw [hin, Bool.true_and] at hbr
          apply wq_take; exact rfl; exact rfl; exact rfl; exact rfl; apply wq_val; intro _ hw_; apply opv_move; exact rfl; exact rfl; apply wq_take; exact rfl; exact rfl; exact rfl; exact rfl; apply wq_val; intro _ hw_; apply opv_move; exact rfl; exact rfl; apply wq_take; exact rfl; exact rfl; exact rfl; exact rfl; apply wq_val; intro _ hw_; apply opv_nilOk; exact rfl; exact rfl; apply wq_take; exact rfl; exact rfl; exact rfl; exact rfl; apply wq_val; intro _ hw_; apply opv_fa; exact fa_O2; exact rfl; exact rfl; apply wq_take; exact rfl; exact rfl; exact rfl; exact rfl; apply wq_val; intro _ hw_; apply opv_ldX; exact rfl; exact Ar.bel (by assumption) hw_; exact e1_rgs; exact rfl; exact rfl; apply wq_take; exact rfl; exact rfl; exact rfl; exact rfl; apply wq_val; intro _ hw_; apply opv_move; exact rfl; exact rfl; apply wq_take; exact rfl; exact rfl; exact rfl; exact rfl; apply wq_val; intro _ hw_; apply opv_nilOk; exact rfl; exact rfl; apply wq_take; exact rfl; exact rfl; exact rfl; exact rfl; apply wq_val; intro _ hw_; apply opv_fa; exact fa_O2; exact rfl; exact rfl; apply wq_take; exact rfl; exact rfl; exact rfl; exact rfl; apply wq_val; intro _ hw_; apply opv_ldX; exact rfl; exact Ar.bel (by assumption) hw_; exact e1_rgs; exact rfl; exact rfl; apply wq_take; exact rfl; exact rfl; exact rfl; exact rfl
          refine wq_call (v := .bool (clashB p.asks o.asks)) ok_lock_clash (fun w' hw' => (hcl2 w' hw').mono fun v w2 h2 => ⟨h2.1, hw'.trans (h2.2.mono hw'.size)⟩) ⟨rfl, rfl, trivial⟩ rfl ?_
          cases hc2 : clashB p.asks o.asks with
          | true =>
            rw [hc2] at hbr
            rw [hbr, if_pos rfl] at hft
            apply wq_take; exact rfl; exact rfl; exact rfl; exact rfl; apply wq_val; intro _ hw_; apply opv_pickT; exact rfl; exact rfl; exact rfl; exact rfl; apply wq_val; intro _ hw_; apply opv_pickF; exact rfl; exact rfl; exact rfl; exact rfl; refine wq_nil fun w1 hw1 => ?_
            replace hs := hs.below hw1
            refine we_seq ?_; apply wc_condTb; exact rfl; exact rfl; refine wc_region ?_; refine wl_mv rfl rfl ?_; refine wl_mv rfl rfl ?_
            refine ws_push (vs := [pN (gp p.x)]) hs 0 rfl rfl tyPO ⟨rfl, rfl, rfl, trivial⟩ rfl (by decide) rfl (by omega) (by simp only [maxLen]; omega) rfl rfl ?_
            clear hs; intro _ P2 cp2 w3 hs; dsimp only [setC] at hs
            refine wl_as rfl rfl ?_; refine wl_nil ?_; refine we_block_norm ?_; refine we_seq ?_; refine wc_region ?_; apply wl_val; apply opv_bin; exact rfl; exact rfl; exact bin_add64 (by omega); exact rfl; refine wl_mv rfl rfl ?_; refine wl_nil ?_
            exact we_loop _ (tb.os.length - (k + 1)) ⟨k + 1, P2, cp2, rfl, by omega, by rw [hft]; simpa [ptrs] using hs, rfl⟩ (by omega) ⟨rfl, rfl, rfl, rfl, by simp [lookT], by rw [hft, List.length_append]; rfl, trivial⟩
          | false =>
            rw [hc2] at hbr
            rw [hbr, if_neg (by decide), List.append_nil] at hft
            apply wq_take; exact rfl; exact rfl; exact rfl; exact rfl; apply wq_val; intro _ hw_; apply opv_pickT; exact rfl; exact rfl; exact rfl; exact rfl; apply wq_val; intro _ hw_; apply opv_pickF; exact rfl; exact rfl; exact rfl; exact rfl; refine wq_nil fun w1 hw1 => ?_
            replace hs := hs.below hw1
            refine we_seq ?_; apply wc_condFb; exact rfl; exact rfl; refine wc_skip ?_; refine we_block_norm ?_; refine we_seq ?_; refine wc_region ?_; apply wl_val; apply opv_bin; exact rfl; exact rfl; exact bin_add64 (by omega); exact rfl; refine wl_mv rfl rfl ?_; refine wl_nil ?_
            exact we_loop _ (tb.os.length - (k + 1)) ⟨k + 1, P, cp, rfl, by omega, by rw [hft]; exact hs, rfl⟩ (by omega) ⟨rfl, rfl, rfl, rfl, by simp [lookT], by rw [hft]; rfl, trivial⟩
  · obtain rfl : k = tb.os.length := by omega
    rw [List.take_length] at hs
    refine wc_exit ?_; refine we_seq_exit ?_; refine we_loop_exit ?_; refine we_block_exit ?_; refine we_seq ?_; refine wc_sr ?_; refine wl_mv rfl rfl ?_; refine wl_as rfl rfl ?_; refine wl_ns ?_; refine wc_ret ?_
    exact we_ret1 rfl rfl ⟨_, rfl, P, cp, by rw [bnames, List.length_map, List.take_length]; rfl, by rw [bnames, List.length_map]; exact hs⟩
end Go.Proofs.Ytmdbjeabifkimaa

/-
  Walks over the reference's sealed records.
-/
namespace Go.Proofs.Ytmdbjeabifkimaa
open Go.RowKit

theorem OwB.of {w : World} {base n c : Nat} {A : Option Addr} {vs : List Value} {ys : List UInt8} (h : Ow w base 5 A n c vs) (hn : ys.length = n) (hv : bvs ys = vs) : OwB w base A c ys := by subst hn hv; exact h
end Go.Proofs.Ytmdbjeabifkimaa

/-
  New memory of the library's: rules for copy and for its fresh bytes; walks over bytes.Join without a separator and over the sealing of records.
-/
namespace Go.Proofs.Ytmdbjeabifkimaa
open Go.RowKit

section
variable {P : Program} {N : Nat} {ops : Array Oper} {Q : Exit → Act → World → Prop} {rest : List Oper} {L : FL} {w : World} {t e : TypeId} {z : Value} {bytes : Nat}
end

/-- New bytes: at the head of a block from block base on (which may be longer than the slice), or nil. -/
def NwB (w : World) (base : Nat) (A : Option Addr) (c : Nat) (xs : List UInt8) : Prop :=
  (A = none ∧ c = 0 ∧ xs = []) ∨ ∃ (g : Nat) (cs : List Value), A = some ⟨g, 0, none⟩ ∧ base ≤ g ∧ Ar w g 5 cs ∧ xs.length ≤ c ∧ c ≤ cs.length ∧ cs.take xs.length = bvs xs
section
variable {w w' : World} {base c : Nat} {A : Option Addr} {xs : List UInt8}
theorem OwB.nw (h : OwB w base A c xs) : NwB w base A c xs := by
  rcases h.2 with ⟨hv, hn⟩ | ⟨g, cap, cur, hv, hb, hg, hnc, _, hs, ht⟩
  · injection hv with hA hn' hc
    exact .inl ⟨hA, hc, List.length_eq_zero_iff.1 hn'⟩
  · injection hv with hA hn' hc
    subst hc
    exact .inr ⟨g, cur.toList, hA, hb, by simpa [Ar] using hg, hnc, by simp; omega, by simpa using ht⟩
theorem NwB.cap (h : NwB w base A c xs) : xs.length ≤ c := by
  rcases h with ⟨_, rfl, rfl⟩ | ⟨_, _, _, _, _, h, _⟩
  · simp
  · exact h
theorem NwB.rd (h : NwB w base A c xs) : RdB w A xs := by
  rcases h with ⟨rfl, rfl, rfl⟩ | ⟨g, cs, rfl, hg, ha, h1, h2, h3⟩
  · exact Rd.nil _ _
  · refine ⟨bvs_length _, fun _ => ⟨g, 0, rfl, ha.lt, fun j u hu => ?_⟩⟩
    rw [← h3, List.getElem?_take] at hu
    split at hu
    · rw [ha.cell, Nat.zero_add]; exact hu
    · cases hu
theorem NwB.below (h : NwB w base A c xs) (hb : Below w.heap.size w w') : NwB w' base A c xs := by
  rcases h with h | ⟨g, cs, hA, hg, ha, h1⟩
  · exact .inl h
  · exact .inr ⟨g, cs, hA, hg, ha.bel hb, h1⟩
theorem NwB.mono {base' : Nat} (h : NwB w base A c xs) (hb : base' ≤ base) : NwB w base' A c xs := by
  rcases h with h | ⟨g, cs, hA, hg, h1⟩
  · exact .inl h
  · exact .inr ⟨g, cs, hA, Nat.le_trans hb hg, h1⟩
end

end Go.Proofs.Ytmdbjeabifkimaa

/-
  Blocks that hold a list's marks: append onto a slice at the head of a block that is known whole, and what a step may change of such blocks.
-/
namespace Go.Proofs.Ytmdbjeabifkimaa
open Go.RowKit

section
variable {P : Program} {N : Nat} {ops : Array Oper} {Q : Exit → Act → World → Prop} {rest : List Oper} {L : FL} {w : World} {t e : TypeId} {z : Value} {bytes : Nat}
theorem opv_app {s x : Operand} {ty : TypeId} {u v r : Value} {w' : World} (hs : look L s = some u) (hx : look L x = some v) (hrun : ∀ ty, (Builtin.append_ #[t, t] ty #[u, v]).run P w = .ok r w') :
    OpV P (.call { callee := .builtin .append, args := #[s, x], argTypes := #[t, t] }) ty L w r w' := fun ρ o hρ ho _ => by
  unfold execOp
  simp only [ho, resolve, invoke, builtin, Sem.run_bind, Sem.run_pure, Result.andThen_ok, List.map_toArray, List.map_cons, List.map_nil, hρ s _ hs, hρ x _ hx, hrun]
end

/-- The byte that stands for place j of list i. -/
def mkb (i j : Nat) : UInt8 := UInt8.ofNat (17 * i + 3 * j + 1)
def mk (i j : Nat) : Value := bv (mkb i j)
def mkl (i n : Nat) : List UInt8 := (List.range n).map (mkb i)
theorem mkl_length (i n : Nat) : (mkl i n).length = n := by simp [mkl]
theorem mkl_get {i n j : Nat} (h : j < n) : (mkl i n)[j]? = some (mkb i j) := by simp [mkl, h]
/-- Block b holds the marks of list i, at its first n places. -/
def MkB (w : World) (b i n : Nat) : Prop := ∃ cs, Ar w b 5 cs ∧ n ≤ cs.length ∧ ∀ j, j < n → cs[j]? = some (mk i j)
/-- A step that may write marks of list i into block X, and changes no other block of bytes. -/
def Sk (w w' : World) (X : Option Nat) (i : Nat) : Prop :=
  ∀ b cs, Ar w b 5 cs → ∃ cs', Ar w' b 5 cs' ∧ cs'.length = cs.length ∧ (cs' = cs ∨ (X = some b ∧ ∀ j u, cs'[j]? = some u → cs[j]? = some u ∨ u = mk i j))
/-- A slice at the head of a block of the call's own, or nil. -/
def Hd (w : World) (base : Nat) (A : Option Addr) (n c : Nat) : Prop :=
  (A = none ∧ n = 0 ∧ c = 0) ∨ ∃ g cs, A = some ⟨g, 0, none⟩ ∧ base ≤ g ∧ Ar w g 5 cs ∧ n ≤ c ∧ c ≤ cs.length
section
variable {w w' w1 : World} {X : Option Nat} {A : Option Addr} {b i k n c base : Nat}
theorem MkB.rd (h : MkB w b i n) : RdB w (some ⟨b, 0, none⟩) (mkl i n) := by
  obtain ⟨cs, ha, hl, hm⟩ := h
  refine ⟨bvs_length _, fun _ => ⟨b, 0, rfl, ha.lt, fun j u hu => ?_⟩⟩
  rw [ha.cell, Nat.zero_add]
  have hj : j < n := by have := (List.getElem?_eq_some_iff.1 hu).1; rwa [bvs_length, mkl_length] at this
  rw [bvs, List.getElem?_map, mkl_get hj] at hu
  rw [hm j hj]; exact hu
theorem Sk.refl (w : World) (X : Option Nat) (i : Nat) : Sk w w X i := fun _ cs h => ⟨cs, h, rfl, .inl rfl⟩
theorem Sk.trans (h : Sk w w1 X i) (h2 : Sk w1 w' X i) : Sk w w' X i := fun b cs ha => by
  obtain ⟨c1, a1, l1, r1⟩ := h b cs ha
  obtain ⟨c2, a2, l2, r2⟩ := h2 b c1 a1
  refine ⟨c2, a2, l2.trans l1, ?_⟩
  rcases r2 with rfl | ⟨hX, r2⟩
  · exact r1
  · refine .inr ⟨hX, fun j u hu => ?_⟩
    rcases r2 j u hu with h | h
    · rcases r1 with rfl | ⟨_, r1⟩
      · exact .inl h
      · exact r1 j u h
    · exact .inr h
theorem Sk.bel (h : Below w.heap.size w w') : Sk w w' X i := fun _ cs ha => ⟨cs, ha.bel h, rfl, .inl rfl⟩
/-- A step that changes one block of another type alone. -/
theorem Sk.other {g : Nat} {t : TypeId} {cs : List Value} (h : Gr w w' A) (hA : ∀ a, A = some a → a.block = g) (ht : A = none ∨ Ar w g t cs) (hne : t ≠ 5) : Sk w w' X i := fun b ds hb => by
  refine ⟨ds, ?_, rfl, .inl rfl⟩
  unfold Ar
  rw [h.block b hb.lt fun hk => ?_]
  · exact hb
  · cases A with
    | none => simp at hk
    | some a =>
      simp only [Option.map_some, Option.some.injEq] at hk
      rcases ht with ht | ht
      · cases ht
      · rw [← hA a rfl, ← hk] at ht
        unfold Ar at ht hb
        rw [ht] at hb
        simp only [Option.some.injEq, Obj.cells.injEq] at hb
        exact hne hb.2.1
/-- A step that writes marks into block g. -/
theorem Sk.at {g : Nat} {cs cs' : List Value} (h : Gr w w' (some ⟨g, 0, none⟩)) (ha : Ar w g 5 cs) (ha' : Ar w' g 5 cs') (hl : cs'.length = cs.length) (hm : ∀ j u, cs'[j]? = some u → cs[j]? = some u ∨ u = mk i j) : Sk w w' (some g) i := fun b ds hb => by
  by_cases hbg : b = g
  · subst hbg
    have e : ds = cs := by
      unfold Ar at ha hb
      rw [ha] at hb
      simp only [Option.some.injEq, Obj.cells.injEq] at hb
      have := congrArg Array.toList hb.1
      simpa using this.symm
    subst e
    exact ⟨cs', ha', hl, .inr ⟨rfl, hm⟩⟩
  · refine ⟨ds, ?_, rfl, .inl rfl⟩
    unfold Ar
    rw [h.block b hb.lt (by simp; exact fun h => hbg h)]
    exact hb
theorem MkB.st (h : MkB w b i n) (s : Sk w w' X k) (hX : X = some b → k = i) : MkB w' b i n := by
  obtain ⟨cs, ha, hl, hm⟩ := h
  obtain ⟨cs', ha', hl', r⟩ := s b cs ha
  refine ⟨cs', ha', by omega, fun j hj => ?_⟩
  rcases r with rfl | ⟨hXb, r⟩
  · exact hm j hj
  · have hk := hX hXb
    subst hk
    rw [List.getElem?_eq_getElem (by omega)]
    rcases r j _ (List.getElem?_eq_getElem (by omega)) with h | h
    · rw [← h]; exact hm j hj
    · rw [h]
theorem Hd.st (h : Hd w base A n c) (s : Sk w w' X k) : Hd w' base A n c := by
  rcases h with h | ⟨g, cs, hA, hb, ha, h1, h2⟩
  · exact .inl h
  · obtain ⟨cs', ha', hl', _⟩ := s g cs ha
    exact .inr ⟨g, cs', hA, hb, ha', h1, by omega⟩
theorem NwB.hd {xs : List UInt8} (h : NwB w base A c xs) : Hd w base A xs.length c := by
  rcases h with ⟨hA, hc, rfl⟩ | ⟨g, cs, hA, hb, ha, h1, h2, _⟩
  · exact .inl ⟨hA, rfl, hc⟩
  · exact .inr ⟨g, cs, hA, hb, ha, h1, h2⟩
end

/-- All slices of a list lie at the heads of blocks of the call's own, each in another one. -/
def Own1 (w : World) (base : Nat) (vs : List Value) : Prop :=
  (∀ v ∈ vs, ∃ (A : Option Addr) (n c : Nat), v = .slice A n c ∧ Hd w base A n c ∧ n ≤ 1099511627776) ∧ vs.Pairwise fun v v' => ∀ g, v.ownBlock = some g → v'.ownBlock ≠ some g
section
variable {w w' w0 : World} {X : Option Nat} {vs : List Value} {base k : Nat}
theorem Own1.at (h : Own1 w base vs) {i : Nat} {v : Value} (hi : vs[i]? = some v) : ∃ (A : Option Addr) (n c : Nat), v = .slice A n c ∧ Hd w base A n c ∧ n ≤ 1099511627776 := h.1 v (List.mem_of_getElem? hi)
theorem Own1.inj (h : Own1 w base vs) {i j g : Nat} {v v' : Value} (hi : vs[i]? = some v) (hj : vs[j]? = some v') (hg : v.ownBlock = some g) (hg' : v'.ownBlock = some g) : i = j := by
  have hp := List.pairwise_iff_getElem.1 h.2
  obtain ⟨h1, e1⟩ := List.getElem?_eq_some_iff.1 hi
  obtain ⟨h2, e2⟩ := List.getElem?_eq_some_iff.1 hj
  rcases Nat.lt_trichotomy i j with hlt | heq | hgt
  · exact absurd (e2 ▸ hg') (hp i j h1 h2 hlt g (e1 ▸ hg))
  · exact heq
  · exact absurd (e1 ▸ hg) (hp j i h2 h1 hgt g (e2 ▸ hg'))
theorem Own1.st (h : Own1 w base vs) (s : Sk w w' X k) : Own1 w' base vs := ⟨fun v hv => by
  obtain ⟨A, n, c, e, hd, hn⟩ := h.1 v hv
  exact ⟨A, n, c, e, hd.st s, hn⟩, h.2⟩
/-- The marks of the first m lists stand. -/
def Mx (w : World) (vs : List Value) (m : Nat) : Prop := ∀ (k : Nat) (A : Addr) (n c : Nat), k < m → vs[k]? = some (.slice (some A) n c) → MkB w A.block k n
theorem Mx.st {i m : Nat} {A : Option Addr} {n c : Nat} (h : Mx w vs m) (ho : Own1 w base vs) (hi : vs[i]? = some (.slice A n c)) (s : Sk w w' (A.map (·.block)) i) : Mx w' vs m := fun k A' n' c' hk hv =>
  (h k A' n' c' hk hv).st s fun hX => ho.inj hi hv (by rw [ownBlock_slice]; exact hX) (by rw [ownBlock_slice]; rfl)
theorem Mx.bel {m : Nat} (h : Mx w vs m) (hb : Below w.heap.size w w') : Mx w' vs m := fun k A n c hk hv => (h k A n c hk hv).st (X := none) (k := 0) (Sk.bel hb) (by simp)
/-- A grown slice: marks of list i, in list i's own block or in another one. -/
def Gd (w : World) (vs : List Value) (i : Nat) (v : Value) : Prop := ∃ b n c, v = .slice (some ⟨b, 0, none⟩) n c ∧ n ≤ c ∧ n ≤ 2199023255552 ∧ MkB w b i n ∧ ∀ (k : Nat) (u : Value), vs[k]? = some u → u.ownBlock = some b → k = i
theorem Gd.st {i m : Nat} {A : Option Addr} {n c : Nat} {v : Value} (h : Gd w vs m v) (hi : vs[i]? = some (.slice A n c)) (s : Sk w w' (A.map (·.block)) i) : Gd w' vs m v := by
  obtain ⟨b, n', c', e, h1, h2, hm, ht⟩ := h
  exact ⟨b, n', c', e, h1, h2, hm.st s fun hX => ht i _ hi (by rw [ownBlock_slice]; exact hX), ht⟩
/-- Nothing below base changes, and of what stood at the start the lists' blocks alone. -/
def Kp (w0 w : World) (vs : List Value) : Prop := w.os = w0.os ∧ w.tape = w0.tape ∧ w.output = w0.output ∧ w0.heap.size ≤ w.heap.size ∧ ∀ k, k < w0.heap.size → (∀ v ∈ vs, v.ownBlock ≠ some k) → w.heap[k]? = w0.heap[k]?
theorem Kp.refl (w : World) (vs : List Value) : Kp w w vs := ⟨rfl, rfl, rfl, Nat.le_refl _, fun _ _ _ => rfl⟩
theorem Kp.gr {A : Option Addr} (h : Kp w0 w vs) (g : Gr w w' A) (hA : ∀ a, A = some a → a.block < w0.heap.size → ∃ v ∈ vs, v.ownBlock = some a.block) : Kp w0 w' vs := by
  obtain ⟨h1, h2, h3, h4, h5⟩ := h
  refine ⟨g.os.trans h1, g.tape.trans h2, g.output.trans h3, Nat.le_trans h4 g.size, fun k hk hv => ?_⟩
  rw [← h5 k hk hv]
  refine g.block k (by omega) fun hk' => ?_
  cases A with
  | none => simp at hk'
  | some a =>
    simp only [Option.map_some, Option.some.injEq] at hk'
    obtain ⟨v, hm, hv'⟩ := hA a rfl (by rw [← hk']; exact hk)
    exact hv v hm (by rw [hv', ← hk'])
theorem Kp.bel (h : Kp w0 w vs) (hb : Below w.heap.size w w') : Kp w0 w' vs := h.gr (Gr.of_below none hb (Nat.le_refl _)) (by simp)
theorem Kp.below (h : Kp w0 w vs) (ho : ∀ v ∈ vs, ∀ g, v.ownBlock = some g → base ≤ g) (hb : base ≤ w0.heap.size) : Below base w0 w :=
  ⟨h.1, h.2.1, h.2.2.1, h.2.2.2.1, fun j hj => h.2.2.2.2 j (by omega) fun v hv hc => by have := ho v hv j hc; omega⟩
theorem Kp.rd {A : Option Addr} {n : Nat} {xs : List Value} (h : Kp w0 w vs) (hr : Rd w0 A n xs) (hA : ∀ a, A = some a → ∀ v ∈ vs, v.ownBlock ≠ some a.block) : Rd w A n xs := ⟨hr.1, fun hn => by
  obtain ⟨b, o, rfl, hb, hc⟩ := hr.2 hn
  exact ⟨b, o, rfl, Nat.lt_of_lt_of_le hb h.2.2.2.1, fun j u hu => by
    rw [World.cell?_of_block (a := ⟨b, o + j, none⟩) (h.2.2.2.2 b hb (hA _ rfl))]; exact hc j u hu⟩⟩
end
end Go.Proofs.Ytmdbjeabifkimaa

/-
  A row that is taken from at its head and appended to at its end, as a piece; the queue of a search as such. Nothing here names the program.
-/
namespace Go.Proofs.Ytmdbjeabifkimaa
open Go.RowKit

/-- A slice somewhere in a block of one's own, its room within the block. -/
def qrC (e : TypeId) (A : Option Addr) (n c : Nat) (xs : List Value) : Ck := ⟨fun w S => xs.length = n ∧ n ≤ c ∧ c ≤ maxLen ∧ ∃ g o cs, A = some ⟨g, o, none⟩ ∧ S g ∧ Ar w g e cs ∧ (c = 0 ∨ (o + c ≤ cs.length ∧ (cs.drop o).take n = xs)), fun {w w' S S'} ⟨h1, h2, h3, g, o, cs, hA, hS, ha, h4⟩ hz hm =>
  ⟨h1, h2, h3, g, o, cs, hA, (hm g ha.lt hS).1, (hm g ha.lt hS).2.trans ha, h4⟩⟩
section
variable {e : TypeId} {A : Option Addr} {n c : Nat} {xs : List Value} {w w0 : World} {M : BS} {H : List Cd} {S : BS}
theorem qr_of_ow (h : (Cd.ow e A n c xs).P w S) (hA : A ≠ none) : (qrC e A n c xs).P w S := by
  rcases h.2.2 with ⟨hv, hn⟩ | ⟨g, cap, cur, hv, _, hg, hnc, hm, hsz, ht⟩
  · injection hv with hv; exact absurd hv hA
  · injection hv with hA' hn' hc
    subst hA' hc
    refine ⟨by have := h.2.1; simpa using this, hnc, hm, g, 0, cur.toList, rfl, h.1 _ rfl, by unfold Ar; simpa using hg, .inr ⟨by simp; omega, ?_⟩⟩
    rw [List.drop_zero]; simpa using ht
theorem qr_rd (h : (qrC e A n c xs).P w S) : Rd w A n xs := by
  obtain ⟨h1, h2, _, g, o, cs, rfl, _, ha, h4⟩ := h
  refine ⟨h1, fun hn => ⟨g, o, rfl, ha.lt, fun j u hu => ?_⟩⟩
  rcases h4 with h4 | ⟨_, h4⟩
  · omega
  · rw [ha.cell]
    rw [← h4] at hu
    rw [List.getElem?_take, List.getElem?_drop] at hu
    split at hu
    · exact hu
    · cases hu
theorem St.qrRd (hs : St M w0 w H) (i : Nat) (hi : nthC H i = some (.ck (qrC e A n c xs))) : Rd w A n xs ∧ n ≤ c := by
  obtain ⟨T, hc, _⟩ := hs.get i hi
  exact ⟨qr_rd hc, hc.2.1⟩
theorem qr_tail {x : Value} (h : (qrC e A (n + 1) c (x :: xs)).P w S) : (qrC e (cutA A c 1) n (c - 1) xs).P w S := by
  obtain ⟨h1, h2, h3, g, o, cs, rfl, hS, ha, h4⟩ := h
  refine ⟨by simpa using h1, by omega, by omega, ?_⟩
  unfold cutA
  by_cases hc : c = 1
  · rw [if_pos hc]; exact ⟨g, o, cs, rfl, hS, ha, .inl (by omega)⟩
  · rw [if_neg hc]
    refine ⟨g, o + 1, cs, by simp [Addr.add_lit], hS, ha, ?_⟩
    rcases h4 with h4 | ⟨h4, h5⟩
    · omega
    · refine .inr ⟨by omega, ?_⟩
      have : (cs.drop o) = x :: (cs.drop (o + 1)) := by
        cases hd : cs.drop o with
        | nil => rw [hd] at h5; simp at h5
        | cons y l =>
          rw [hd, List.take_succ_cons] at h5
          injection h5 with h6 _
          rw [h6, ← List.drop_drop, hd]; rfl
      rw [this, List.take_succ_cons] at h5
      injection h5
end
section
variable {P : Program} {N : Nat} {ops : Array Oper} {Q : Exit → Act → World → Prop} {rest : List Oper} {L : FL} {w0 w : World} {M : BS} {H : List Cd} {t e : TypeId} {z : Value} {bytes : Nat}
/-- append(s, u). -/
theorem ws_qpush {d1 d2 : Nat} {y : Operand} {s : Operand} {ty1 ty2 : TypeId} {p1 p2 : String} {f1 f2 : Array Edge} {A : Option Addr} {n c : Nat} {xs : List Value} {u : Value} (hs : St M w0 w H) (i : Nat) (hi : nthC H i = some (.ck (qrC e A n c xs))) (T : Row1 P t e z bytes)
    (hy : look L y = some u) (h1 : u.oneCell' = true) (hs1 : ∀ p, look ((d1, p) :: L) s = some (.slice A n c))
    (hbytes : (n + 1) * bytes ≤ 140737488355328) (hmax : n + 1 ≤ maxLen) (hd1 : Nat.blt d1 N = true) (hd2 : Nat.blt d2 N = true)
    (h : ∀ p A' c' w', St M w0 w' (setC H i (.ck (qrC e A' (n + 1) c' (xs ++ [u])))) → WL P N ops Q rest ((d2, .slice A' (n + 1) c') :: (d1, p) :: L) w') :
    WL P N ops Q (⟨some d1, .buildSlice t 1 #[(0, y)], ty1, p1, f1, none⟩ :: ⟨some d2, .call { callee := .builtin .append, args := #[s, .tmp d1], argTypes := #[t, t] }, ty2, p2, f2, none⟩ :: rest) L w := by
  refine wl_val (opv_bs (ps := [(0, y)]) (vs := [u]) T ⟨rfl, hy, h1, trivial⟩ rfl (by decide)) hd1 ?_
  have hb1 : Below w.heap.size w (w.alloc (.cells [u].toArray e)) := (Below.refl _ _).alloc (Nat.le_refl _) _
  have a1 : Ar (w.alloc (.cells [u].toArray e)) w.heap.size e [u] := Ar.new w e [u]
  replace hs := hs.below hb1
  clear hb1
  obtain ⟨g1, hg1⟩ : ∃ g, w.heap.size = g := ⟨_, rfl⟩
  rw [hg1] at a1
  rw [hg1]
  obtain ⟨w1, hw1⟩ : ∃ q, w.alloc (.cells [u].toArray e) = q := ⟨_, rfl⟩
  rw [hw1] at a1 hs
  rw [hw1]
  clear hw1 hg1
  obtain ⟨S, ⟨hl, hnc, hcm, g, o, cs, rfl, hS, ha, h4⟩, hSl, hK⟩ := hs.upd i hi
  obtain ⟨ii, hii, hz, hsz, hby⟩ := info_parts T.info
  have hzs : z.cells.size = 1 := by rw [cells_one T.one]; rfl
  have hnews : ∀ j v, [u][j]? = some v → w1.cell? ((⟨g1, 0, none⟩ : Addr).add j) = some v := fun j v hv => by
    rw [Addr.add_lit, Nat.zero_add, a1.cell]; exact hv
  have hone : ∀ v ∈ [u], v.oneCell' = true := by simpa using h1
  by_cases hroom : n + 1 ≤ c
  · obtain ⟨h4, h5⟩ : o + c ≤ cs.length ∧ (cs.drop o).take n = xs := h4.resolve_left (by omega)
    have hset : w1.setCells g (o + n * ii.size) [u] = w1.setCell ⟨g, o + n, none⟩ u := by rw [hsz, Nat.mul_one]; rfl
    refine wl_val (opv_app (hs1 _) (by simp [look, lookT]) fun ty => run_append_room_cells (P := P) w1 t ty e ii T.sl hii g o n c ⟨g1, 0, none⟩ 1 1 [u] (by simp [hsz]) hnews hone hroom (fun j hj => by
      obtain rfl : j = 0 := by simpa using hj
      rw [hsz, ha.cell, List.getElem?_eq_getElem (by omega)]; rfl) (fun j _ => by exact ha.frozen _)) hd2 ?_
    rw [hset]
    refine h _ _ _ _ (hK _ (.ck (qrC e (some ⟨g, o, none⟩) (n + 1) c (xs ++ [u]))) S (Mod.of_gr (A := some ⟨g, 0, none⟩) ?_ fun a ha => by cases ha; exact hS) ⟨by simp [hl], hroom, hcm, g, o, cs.set (o + n) u, rfl, hS, ha.setCell _ _, .inr ⟨by simpa using h4, ?_⟩⟩ fun _ _ h => .inl h)
    · exact ⟨rfl, rfl, rfl, by simp [World.setCell], fun j _ hj => by
        simp only [World.setCell, Array.getElem?_modify]
        rw [if_neg (by simp at hj; exact fun h => hj h.symm)]⟩
    · rw [← h5]
      apply List.ext_getElem?
      intro j
      rw [List.getElem?_take, List.getElem?_drop, List.getElem?_set, List.getElem?_append, List.getElem?_take, List.getElem?_drop, List.length_take, List.length_drop]
      have e1 : min n (cs.length - o) = n := by omega
      rw [e1]
      rcases Nat.lt_trichotomy j n with hj | hj | hj
      · have q1 : j < n + 1 := by omega
        have q2 : ¬ o + n = o + j := by omega
        have q4 : ¬ n = j := by omega
        simp [hj, q1, q4]
      · subst hj
        have q3 : o + j < cs.length := by omega
        simp [q3]
      · have q1 : ¬ j < n + 1 := by omega
        have q2 : ¬ j < n := by omega
        simp only [q1, q2, if_false]
        have : j - n = (j - (n + 1)) + 1 := by omega
        rw [this]; simp
  · have hsmall : n + 1 ≤ 9223372036854775807 := by simp only [maxLen] at hmax; omega
    have hge := grownCap_ge w1 (n + 1) c e
    have hcm2 : grownCap w1 (n + 1) c e ≤ maxLen := grownCap_le_maxLen w1 (n + 1) c e hmax
    have hrd : Rd w1 (some ⟨g, o, none⟩) n xs := qr_rd (S := S) (c := c) (e := e) ⟨hl, hnc, hcm, g, o, cs, rfl, hS, ha, h4⟩
    refine wl_val (opv_app (hs1 _) (by simp [look, lookT]) fun ty => run_append_grow (P := P) w1 t ty e ii z T.sl hii hz ⟨g, o, none⟩ n c xs (by rw [hsz]; omega) (fun j v hv => by
      obtain ⟨b', o', hA, _, hc⟩ := hrd.2 (by have := (List.getElem?_eq_some_iff.1 hv).1; omega)
      cases hA
      rw [Addr.add_lit]; exact hc j v hv) ⟨g1, 0, none⟩ 1 1 [u] (by simp [hsz]) hnews (by omega) (by omega) (growslice_fits (by omega) (by rw [hby]; exact hbytes))) hd2 ?_
    have hb2 : Below w1.heap.size w1 (w1.drew.alloc (.cells (xs.toArray ++ [u].toArray ++ Builtin.zeroCells z.cells (grownCap w1 (n + 1) c e - (n + 1))) e)) := ⟨rfl, rfl, rfl, by simp, fun k hk => heap_alloc_old w1.drew _ hk⟩
    refine h _ _ _ _ (hK _ (.ck (qrC e (some ⟨w1.heap.size, 0, none⟩) (n + 1) (grownCap w1 (n + 1) c e) (xs ++ [u]))) (fun b => w1.heap.size ≤ b) (Mod.of_below hb2 _) ⟨by simp [hl], hge, hcm2, w1.heap.size, 0, (xs ++ [u]) ++ (Builtin.zeroCells z.cells (grownCap w1 (n + 1) c e - (n + 1))).toList, rfl, Nat.le_refl _, by unfold Ar; exact (heap_alloc_new w1.drew _).trans (by simp), .inr ⟨?_, ?_⟩⟩ fun _ _ h => .inr h)
    · have : (Builtin.zeroCells z.cells (grownCap w1 (n + 1) c e - (n + 1))).size = grownCap w1 (n + 1) c e - (n + 1) := by rw [size_zeroCells, hzs, Nat.mul_one]
      simp [this, hl]
      omega
    · rw [List.drop_zero]
      rw [List.take_append_of_le_length (by simp [hl]), List.take_of_length_le (by simp [hl])]
end
end Go.Proofs.Ytmdbjeabifkimaa

/-
  The search for a circle, as a plain law; walks over circle and For.
-/
namespace Go.Proofs.Ytmdbjeabifkimaa
open Go.RowKit

theorem len_of_sub {α : Type} [DecidableEq α] : ∀ {l m : List α}, l.Nodup → (∀ x ∈ l, x ∈ m) → l.length ≤ m.length
  | [], _, _, _ => Nat.zero_le _
  | a :: l, m, hn, hs => by
    obtain ⟨h1, h2⟩ := List.nodup_cons.1 hn
    have ha := hs a List.mem_cons_self
    have h3 := len_of_sub (l := l) (m := m.erase a) h2 fun x hx => by
      have hne : x ≠ a := fun e => h1 (e ▸ hx)
      exact (List.mem_erase_of_ne hne).2 (hs x (List.mem_cons_of_mem _ hx))
    have h4 := List.length_erase_of_mem ha
    have h5 := List.length_pos_of_mem ha
    rw [List.length_cons]; omega
/-- What is known on the way of a search from x: who was seen, who is left. -/
structure SrI (tb : Tb) (x : Tx) (seen left : List Tx) : Prop where
  nd : seen.Nodup
  sub : ∀ y ∈ seen, y ∈ names tb
  nx : x ∉ seen
  rch : ∀ y ∈ seen, Relation.TransGen (Ed tb) x y
  lf : ∀ y ∈ left, y = x ∨ y ∈ seen
theorem SrI.fin {tb : Tb} {x : Tx} {seen : List Tx} (h : SrI tb x seen []) (hc : ∀ z, (z = x ∨ z ∈ seen) → ∀ y, Ed tb z y → y ∈ seen) : ¬ Circ tb x := by
  have key : ∀ y, Relation.TransGen (Ed tb) x y → y ∈ seen := fun y hy => by
    induction hy with
    | single he => exact hc x (.inl rfl) _ he
    | tail _ he ih => exact hc _ (.inr ih) _ he
  exact fun hk => h.nx (key x hk)
theorem SrI.to {tb : Tb} {x z y : Tx} {seen left : List Tx} (h : SrI tb x seen left) (hz : z = x ∨ z ∈ seen) (he : Ed tb z y) : Relation.TransGen (Ed tb) x y := by
  rcases hz with rfl | hz
  · exact .single he
  · exact .tail (h.rch z hz) he
theorem SrI.add {tb : Tb} {x y : Tx} {seen left : List Tx} (h : SrI tb x seen left) (hy : y ∉ seen) (hxy : y ≠ x) (hr : Relation.TransGen (Ed tb) x y) (hn : y ∈ names tb) : SrI tb x (seen ++ [y]) (left ++ [y]) where
  nd := by
    rw [List.nodup_append]
    exact ⟨h.nd, by simp, fun a ha b hb => by rw [List.mem_singleton] at hb; subst hb; exact fun e => hy (e ▸ ha)⟩
  sub := fun z hz => by
    rcases List.mem_append.1 hz with hz | hz
    · exact h.sub z hz
    · rw [List.mem_singleton] at hz; subst hz; exact hn
  nx := by
    rw [List.mem_append, not_or, List.mem_singleton]
    exact ⟨h.nx, fun e => hxy e.symm⟩
  rch := fun z hz => by
    rcases List.mem_append.1 hz with hz | hz
    · exact h.rch z hz
    · rw [List.mem_singleton] at hz; subst hz; exact hr
  lf := fun z hz => by
    rcases List.mem_append.1 hz with hz | hz
    · rcases h.lf z hz with e | e
      · exact .inl e
      · exact .inr (List.mem_append_left _ e)
    · exact .inr (List.mem_append_right _ hz)
theorem ed_bnames {tb : Tb} (hw : Wf tb) {o : Ownr} (ho : o ∈ tb.os) (hq : o.x ∈ tb.qu) {y : Tx} : Ed tb o.x y ↔ y ∈ bnames tb o := by
  unfold bnames
  rw [List.mem_map]
  constructor
  · rintro ⟨_, o', ho', e, p, hp, rfl⟩
    rw [names_inj hw.nd ho' ho e] at hp
    exact ⟨p, hp, rfl⟩
  · rintro ⟨p, hp, rfl⟩
    exact ⟨hq, o, ho, rfl, p, hp, rfl⟩
theorem bnames_sub {tb : Tb} {o : Ownr} : ∀ y ∈ bnames tb o, y ∈ names tb := fun y hy => by
  obtain ⟨p, hp, rfl⟩ := List.mem_map.1 hy
  exact List.mem_map_of_mem (List.mem_filter.1 hp).1
theorem bnames_len (tb : Tb) (o : Ownr) : (bnames tb o).length ≤ tb.os.length := by rw [bnames, List.length_map]; exact List.length_filter_le _ _
/-- Bounds within which tables are walked. -/
structure Sz (tb : Tb) : Prop where
  os : tb.os.length ≤ 1048576
  held : ∀ o ∈ tb.os, o.held.length + o.asks.length ≤ 1048576
theorem Sz.qu {tb : Tb} (h : Sz tb) (hw : Wf tb) : tb.qu.length ≤ 1048576 := by
  have := len_of_sub hw.qn hw.sub
  rw [names_len] at this
  exact Nat.le_trans this h.os
theorem circle_any {t : Nat} {gp : Tx → Nat} {tb : Tb} {x : Tx} {w : World} (hT : RdT w t gp tb) (hw : Wf tb) (hz : Sz tb) (hx : x ∈ names tb) :
    CallsV Try.prog 72 #[pN t, pN (gp x)] w fun v w' => (∃ b : Bool, v = .bool b ∧ (b = true ↔ Circ tb x)) ∧ Below w.heap.size w w' := by
  have hs := (St.init w).nilO 75
  have hqu := hz.qu hw
  have hlo := hz.os
  unfold pN
  refine calls_in (N := _) Try.func72 rfl Try.ntmps72 rfl ?_; show WC _ _ _ _ _ _
  refine wc_sr ?_; refine wl_as rfl rfl ?_; refine wl_ns ?_; refine wc_sr ?_; refine wl_as rfl rfl ?_; refine wl_ns ?_; refine wc_sr ?_; refine wl_mv rfl rfl ?_
  refine ws_bs (vs := [pN (gp x)]) hs tyPO ⟨rfl, rfl, rfl, trivial⟩ rfl (by decide) rfl ?_
  clear hs; intro Q0 w1 hs
  have hQ : Q0 ≠ none := by
    intro e; subst e
    obtain ⟨_, _, h, _⟩ := (hs.ow 0 rfl).rd.2 (by decide)
    cases h
  replace hs := hs.map (H' := [.ck (qrC 75 Q0 1 1 (ptrs gp [x])), .ow 75 none 0 0 []]) fun S h => h.mapC fun T h => qr_of_ow h hQ
  refine wl_as rfl rfl ?_; refine wl_ns ?_; refine wc_seq ?_; refine wc_block ?_
  refine wc_loop (fun L wr mm => ∃ (seen left : List Tx) (P : Option Addr) (cp : Nat) (Q : Option Addr) (cq : Nat), L = [(0, .pointer (some ⟨t, 0, none⟩)), (1, .pointer (some ⟨gp x, 0, none⟩)), (5, .slice P seen.length cp), (6, .slice Q left.length cq)] ∧ SrI tb x seen left ∧ (∀ z, (z = x ∨ z ∈ seen) → z ∈ left ∨ ∀ y, Ed tb z y → y ∈ seen) ∧ St NoB w wr [.ck (qrC 75 Q left.length cq (ptrs gp left)), .ow 75 P seen.length cp (ptrs gp seen)] ∧ mm = 2 * (tb.os.length - seen.length) + left.length ∧ mm ≤ 2 * tb.os.length + 1)
    [(0, .pointer (some ⟨t, 0, none⟩)), (1, .pointer (some ⟨gp x, 0, none⟩)), (5, .slice none 0 0), (6, .slice Q0 1 1)] (2 * tb.os.length + 1) ⟨[], [x], none, 0, Q0, 1, rfl, ⟨List.nodup_nil, by simp, by simp, by simp, by simp⟩, fun z hz => .inl (by simpa using hz), hs, by simp, Nat.le_refl _⟩ ⟨rfl, rfl, rfl, rfl, trivial⟩ ?_
  clear hs
  rintro _ w2 mm ⟨seen, left, P, cp, Q, cq, rfl, hI, hcl, hs, rfl, hmb⟩
  have hsl : seen.length ≤ tb.os.length := by rw [← names_len]; exact len_of_sub hI.nd hI.sub
  refine wc_seq ?_; refine wc_sr ?_; refine wl_mv rfl rfl ?_; apply wl_val; apply opv_len; exact rfl; exact tyPO.sl; exact rfl; refine wl_bin rfl rfl bin_gtr rfl ?_; refine wl_ns ?_
  cases left with
  | nil =>
    have h0 : ¬ (([] : List Tx).length : Int) > 0 := by simp
    apply wc_condFb; exact rfl; exact rfl; refine wc_exit ?_; refine we_seq_exit ?_; refine we_loop_exit ?_; refine we_block_exit ?_; refine we_seq ?_; refine wc_sr ?_; refine wl_as rfl rfl ?_; refine wl_ns ?_; refine wc_ret ?_
    refine we_ret1 rfl rfl ⟨_, rfl, ⟨false, rfl, ⟨fun h => (by cases h), fun hk => absurd hk (hI.fin fun z hz => (hcl z hz).resolve_left (by simp))⟩⟩, hs.bel⟩
  | cons a left =>
    have h0 : ((a :: left).length : Int) > 0 := by rw [List.length_cons]; omega
    obtain ⟨rQ, hlq⟩ := hs.qrRd 0 rfl
    have hu : (ptrs gp (a :: left))[0]? = some (.pointer (some ⟨gp a, 0, none⟩)) := rfl
    have han : a ∈ names tb := by
      rcases hI.lf a List.mem_cons_self with rfl | h
      · exact hx
      · exact hI.sub a h
    rw [List.length_cons] at hlq
    apply wc_decT; exact rfl; (with_reducible assumption); refine wc_skip ?_; refine we_seq ?_; refine wc_block ?_; refine wc_sr ?_; refine wl_mv rfl rfl ?_
    refine wl_elK (T := tyPO) (kk := 0) rfl rfl rQ rfl hu rfl rfl fun _ => ?_
    refine wl_as rfl rfl ?_; refine wl_ns ?_; refine wc_sr ?_; refine wl_mv rfl rfl ?_
    refine wl_sl (l := 1) (h := (a :: left).length) tyPO rfl ⟨_, rfl⟩ rfl (by simp) (by rw [List.length_cons]; omega) rfl ?_
    rw [show (a :: left).length - 1 = left.length by simp]
    replace hs := hs.map (H' := [.ck (qrC 75 (cutA Q cq 1) left.length (cq - 1) (ptrs gp left)), .ow 75 P seen.length cp (ptrs gp seen)]) fun S h => h.mapC fun T h => qr_tail h
    have hI2 : SrI tb x seen left := ⟨hI.nd, hI.sub, hI.nx, hI.rch, fun y hy => hI.lf y (List.mem_cons_of_mem _ hy)⟩
    have hax := hI.lf a List.mem_cons_self
    rw [List.length_cons] at hmb
    refine wl_as rfl rfl ?_; refine wl_ns ?_; refine wc_seq ?_; refine wc_sr ?_; refine wl_mv rfl rfl ?_; refine wl_mv rfl rfl ?_
    refine wl_call ok_lock_Table_waits (waits_any (hT.below hs.bel) hw han (by omega)) ⟨rfl, rfl, trivial⟩ rfl ?_
    rintro _ _ ⟨rfl, rfl⟩
    by_cases haq : a ∈ tb.qu
    · obtain ⟨o, ho, rfl⟩ := List.mem_map.1 han
      have haq2 : ¬ ¬ o.x ∈ tb.qu := fun h => h haq
      have hed := fun y => ed_bnames (y := y) hw ho haq
      have hbs := bnames_sub (tb := tb) (o := o)
      have hbl := bnames_len tb o
      apply wl_val; apply opv_notD; exact rfl; exact rfl; refine wl_ns ?_; apply wc_decF; exact rfl; (with_reducible assumption); refine wc_skip ?_; refine we_seq ?_; refine wc_sr ?_; refine wl_mv rfl rfl ?_; refine wl_mv rfl rfl ?_
      refine wl_call ok_lock_Table_blockers (blockers_any (hT.below hs.bel) hw ho hlo hqu fun o ho => by have := hz.held o ho; omega) ⟨rfl, rfl, trivial⟩ rfl ?_
      rintro _ w3 ⟨R, cr, rfl, hsx⟩
      replace hs := hs.call hsx
      clear hsx
      dsimp only [List.cons_append, List.nil_append] at hs
      obtain ⟨bs, hbd⟩ : ∃ q, bnames tb o = q := ⟨_, rfl⟩
      rw [hbd] at hs hed hbs hbl
      rw [hbd]
      apply wl_val; apply opv_len; exact rfl; exact tyPO.sl; exact rfl; refine wl_mv rfl rfl ?_; refine wl_ns ?_; refine wc_block ?_
      refine wc_loop (fun L wr mm => ∃ (j : Nat) (seen' left' : List Tx) (P : Option Addr) (cp : Nat) (Q : Option Addr) (cq : Nat), L = [(0, .pointer (some ⟨t, 0, none⟩)), (1, .pointer (some ⟨gp x, 0, none⟩)), (26, .slice R bs.length cr), (27, .int .i64 (bs.length : Int)), (28, .int .i64 (j : Int)), (5, .slice P seen'.length cp), (6, .slice Q left'.length cq)] ∧ j ≤ bs.length ∧ SrI tb x seen' left' ∧ (∀ z ∈ seen, z ∈ seen') ∧ (∀ z, (z = x ∨ z ∈ seen') → z ∈ left' ∨ z = o.x ∨ ∀ y, Ed tb z y → y ∈ seen') ∧ (∀ y ∈ bs.take j, y ∈ seen') ∧ St NoB w wr [.ow 75 R bs.length cr (ptrs gp bs), .ck (qrC 75 Q left'.length cq (ptrs gp left')), .ow 75 P seen'.length cp (ptrs gp seen')] ∧ 2 * (tb.os.length - seen'.length) + left'.length ≤ 2 * (tb.os.length - seen.length) + left.length ∧ mm = bs.length - j)
        [(0, .pointer (some ⟨t, 0, none⟩)), (1, .pointer (some ⟨gp x, 0, none⟩)), (26, .slice R bs.length cr), (27, .int .i64 (bs.length : Int)), (28, .int .i64 (0 : Nat)), (5, .slice P seen.length cp), (6, .slice (cutA Q cq 1) left.length (cq - 1))] bs.length ⟨0, seen, left, P, cp, cutA Q cq 1, cq - 1, rfl, by omega, hI2, fun z h => h, fun z hz => by
          rcases hcl z hz with h | h
          · rcases List.mem_cons.1 h with h | h
            · exact .inr (.inl h)
            · exact .inl h
          · exact .inr (.inr h), by simp, hs, Nat.le_refl _, rfl⟩ ⟨rfl, rfl, rfl, rfl, rfl, rfl, rfl, trivial⟩ ?_
      clear hs rQ hlq hI2
      rintro _ w4 mm ⟨j, seen', left', P', cp', Q', cq', rfl, hj, hI', hsub, hcl', hbt, hs, hme, rfl⟩
      have hsl' : seen'.length ≤ tb.os.length := by rw [← names_len]; exact len_of_sub hI'.nd hI'.sub
      refine wc_sr ?_; refine wl_bin rfl rfl bin_lss rfl ?_; refine wl_ns ?_; refine wc_seq ?_
      refine wc_cond rfl (fun h1 => ?_) (fun h1 => ?_)
      · obtain ⟨y, hy⟩ : ∃ y, bs[j]? = some y := ⟨_, List.getElem?_eq_getElem (by omega)⟩
        have hym := List.mem_of_getElem? hy
        have hyn := hbs y hym
        have hR := (hs.ow 0 rfl).rd
        have hu2 : (ptrs gp bs)[j]? = some (.pointer (some ⟨gp y, 0, none⟩)) := by rw [List.getElem?_map, hy]; rfl
        obtain ⟨T1, cs1, ay⟩ := (hT.below hs.bel).blk hyn
        obtain ⟨T2, cs2, ax⟩ := (hT.below hs.bel).blk hx
        refine wc_skip ?_; refine we_seq ?_; refine wc_seq ?_; refine wc_block ?_; refine wc_sr ?_; apply wl_elK (T := tyPO) (hr := hR) (hb := hu2); exact rfl; exact rfl; exact rfl; exact rfl; exact rfl; intro _; refine wl_as rfl rfl ?_; refine wl_ns ?_; refine wc_seq ?_; refine wc_sr ?_; refine wl_mv rfl rfl ?_; refine wl_mv rfl rfl ?_
        clear hR
        refine wl_val (opv_eqPP rfl rfl ay ax) rfl ?_
        have hreach : Relation.TransGen (Ed tb) x y := hI'.to (hax.imp id (hsub _)) ((hed y).2 hym)
        have hjj : ((j + 1 : Nat) : Int) = (j : Int) + 1 := by omega
        by_cases hyx : y = x
        · have hg : gp y = gp x := by rw [hyx]
          refine wl_ns ?_; apply wc_decT; exact rfl; (with_reducible assumption); refine wc_sr ?_; refine wl_as rfl rfl ?_; refine wl_ns ?_; refine wc_ret ?_; refine we_seq_ret ?_; refine we_block_ret ?_; refine we_seq_ret ?_; refine we_loop_ret ?_; refine we_block_ret ?_; refine we_block_ret ?_; refine we_loop_ret ?_; refine we_block_ret ?_; refine we_seq_ret ?_
          exact we_ret1 rfl rfl ⟨_, rfl, ⟨true, rfl, fun _ => hyx ▸ hreach, fun _ => rfl⟩, hs.bel⟩
        · have hg : ¬ gp y = gp x := fun e => hyx (hT.inj _ hyn _ hx e)
          refine wl_ns ?_; apply wc_decF; exact rfl; (with_reducible assumption); refine wc_skip ?_; refine we_seq ?_; refine wc_sr ?_; refine wl_mv rfl rfl ?_; refine wl_mv rfl rfl ?_
          refine wl_call ok_slices_Contains_lock_owner_lock_owner (contains_any (ps := seen'.map gp) (by rw [← ptrs_map]; exact (hs.ow 2 rfl).rd) (fun p hp => by obtain ⟨z, hz, rfl⟩ := List.mem_map.1 hp; exact (hT.below hs.bel).blk (hI'.sub z hz)) ⟨_, _, ay⟩ (by rw [List.length_map]; omega)) ⟨rfl, rfl, trivial⟩ rfl ?_
          rintro _ _ ⟨rfl, rfl⟩
          simp only [hT.mem_ptr (l := seen') hI'.sub hyn]
          by_cases hys : y ∈ seen'
          · have hys2 : ¬ ¬ y ∈ seen' := fun h => h hys
            apply wl_val; apply opv_notD; exact rfl; exact rfl; refine wl_ns ?_; apply wc_decF; exact rfl; (with_reducible assumption); refine wc_skip ?_; refine we_block_norm ?_; refine we_seq ?_; refine wc_region ?_; apply wl_val; apply opv_bin; exact rfl; exact rfl; exact bin_add64 (by omega); exact rfl; refine wl_mv rfl rfl ?_; refine wl_nil ?_
            exact we_loop _ (bs.length - (j + 1)) ⟨j + 1, seen', left', P', cp', Q', cq', rfl, by omega, hI', hsub, hcl', fun z hz => by
              rw [take_getR hy] at hz
              rcases List.mem_append.1 hz with hz | hz
              · exact hbt z hz
              · rw [List.mem_singleton] at hz; exact hz ▸ hys, hs, hme, rfl⟩ (by omega) ⟨rfl, rfl, rfl, rfl, by simp [lookT], rfl, rfl, trivial⟩
          · have hI3 := hI'.add hys hyx hreach hyn
            have hsl3 : (seen' ++ [y]).length ≤ tb.os.length := by rw [← names_len]; exact len_of_sub hI3.nd hI3.sub
            rw [List.length_append, List.length_singleton] at hsl3
            have hlq := (hs.qrRd 1 rfl).2
            apply wl_val; apply opv_notD; exact rfl; exact rfl; refine wl_ns ?_; apply wc_decT; exact rfl; (with_reducible assumption); refine wc_region ?_; refine wl_mv rfl rfl ?_; refine wl_mv rfl rfl ?_
            refine ws_push (vs := [pN (gp y)]) hs 2 rfl rfl tyPO ⟨rfl, rfl, rfl, trivial⟩ rfl (by decide) rfl (by omega) (by simp only [maxLen]; omega) rfl rfl ?_
            clear hs; intro _ P2 cp2 w5 hs; dsimp only [setC] at hs
            refine wl_mv rfl rfl ?_; refine wl_mv rfl rfl ?_
            refine ws_qpush (u := pN (gp y)) hs 1 rfl tyPO rfl rfl (fun _ => rfl) (by omega) (by simp only [maxLen]; omega) rfl rfl ?_
            clear hs; intro _ Q2 cq2 w6 hs; dsimp only [setC] at hs
            refine wl_as rfl rfl ?_; refine wl_as rfl rfl ?_; refine wl_nil ?_; refine we_block_norm ?_; refine we_seq ?_; refine wc_region ?_; apply wl_val; apply opv_bin; exact rfl; exact rfl; exact bin_add64 (by omega); exact rfl; refine wl_mv rfl rfl ?_; refine wl_nil ?_
            have e1 : ptrs gp seen' ++ [pN (gp y)] = ptrs gp (seen' ++ [y]) := by simp [ptrs]
            have e2 : ptrs gp left' ++ [pN (gp y)] = ptrs gp (left' ++ [y]) := by simp [ptrs]
            rw [e1, e2] at hs
            exact we_loop _ (bs.length - (j + 1)) ⟨j + 1, seen' ++ [y], left' ++ [y], P2, cp2, Q2, cq2, rfl, by omega, hI3, fun z hz => List.mem_append_left _ (hsub z hz), fun z hz => by
              have key : z = x ∨ z ∈ seen' → z ∈ left' ++ [y] ∨ z = o.x ∨ ∀ u, Ed tb z u → u ∈ seen' ++ [y] := fun h => (hcl' z h).imp (List.mem_append_left _) fun h => h.imp id fun h u hu => List.mem_append_left _ (h u hu)
              rcases hz with h | h
              · exact key (.inl h)
              · rcases List.mem_append.1 h with h | h
                · exact key (.inr h)
                · exact .inl (List.mem_append_right _ h), fun z hz => by
              rw [take_getR hy] at hz
              rcases List.mem_append.1 hz with hz | hz
              · exact List.mem_append_left _ (hbt z hz)
              · exact List.mem_append_right _ hz, by simpa using hs, by simp; omega, rfl⟩ (by omega) ⟨rfl, rfl, rfl, rfl, by simp [lookT], by rw [List.length_append]; rfl, by rw [List.length_append]; rfl, trivial⟩
      · obtain rfl : j = bs.length := by omega
        rw [List.take_length] at hbt
        refine wc_exit ?_; refine we_seq_exit ?_; refine we_loop_exit ?_; refine we_block_exit ?_; refine we_block_norm ?_
        exact we_loop _ (2 * (tb.os.length - seen'.length) + left'.length) ⟨seen', left', P', cp', Q', cq', rfl, hI', fun z hz => by
          rcases hcl' z hz with h | h | h
          · exact .inl h
          · exact .inr fun y hy => hbt y ((hed y).1 (h ▸ hy))
          · exact .inr h, hs.drop 0 rfl, rfl, by omega⟩ (by simp; omega) ⟨rfl, rfl, rfl, rfl, trivial⟩
    · apply wl_val; apply opv_notD; exact rfl; exact rfl; refine wl_ns ?_; apply wc_decT; exact rfl; (with_reducible assumption); refine wc_exit ?_; refine we_seq_exit ?_; refine we_block_exit ?_
      exact we_loop _ (2 * (tb.os.length - seen.length) + left.length) ⟨seen, left, P, cp, cutA Q cq 1, cq - 1, rfl, hI2, fun z hz => by
        rcases hcl z hz with h | h
        · rcases List.mem_cons.1 h with h | h
          · exact .inr fun y hy => absurd (h ▸ hy.1) haq
          · exact .inl h
        · exact .inr h, hs, rfl, by omega⟩ (by simp) ⟨rfl, rfl, rfl, rfl, trivial⟩
/-- For whom one waits, by name. -/
def forT (tb : Tb) (x : Tx) : List Tx := match ownO tb x with
  | some o => if x ∈ tb.qu then bnames tb o else []
  | none => []
theorem for_any {t : Nat} {gp : Tx → Nat} {tb : Tb} {x : Tx} {w : World} (hT : RdT w t gp tb) (hw : Wf tb) (hz : Sz tb) :
    CallsV Try.prog 22 #[pN t, .agg (txV x).toArray] w (RetTx w (forT tb x)) := by
  have hs := St.init w
  have hqu := hz.qu hw
  have hlo := hz.os
  unfold pN
  refine calls_in (N := _) Try.func22 rfl Try.ntmps22 rfl ?_; show WC _ _ _ _ _ _
  refine wc_sr ?_
  refine ws_box (cs := txV x) hs rfl rfl ?_; clear hs; intro g3 _ hs
  refine wl_as rfl rfl ?_; refine wl_ns ?_; refine wc_seq ?_; refine wc_sr ?_; refine wl_mv rfl rfl ?_; apply wl_val; apply opv_loadX; exact rfl; exact hs.ar 0 rfl; exact sTx; exact rfl
  refine wl_call ok_lock_Table_find (find_any (hT.below hs.bel) (by omega)) ⟨rfl, rfl, trivial⟩ rfl ?_
  rintro _ w1 ⟨rfl, hbx⟩
  replace hs := hs.below hbx
  clear hbx
  cases hx : ownO tb x with
  | some o =>
    obtain ⟨ho, rfl⟩ := ownO_some hx
    have hon : o.x ∈ names tb := List.mem_map_of_mem ho
    rw [ptrO, if_pos hon]
    unfold pN
    refine wl_as rfl rfl ?_; refine wl_ns ?_; refine wc_sr ?_; refine wl_mv rfl rfl ?_; apply wl_val; apply opv_bin; exact rfl; exact rfl; exact bin_neqPtrNil tyPPO; exact rfl; refine wl_mv rfl rfl ?_; apply wl_take; exact rfl; exact rfl; exact rfl; exact rfl; refine wl_mv rfl rfl ?_; apply wl_take; exact rfl; exact rfl; exact rfl; exact rfl; refine wl_mv rfl rfl ?_; apply wl_take; exact rfl; exact rfl; exact rfl; exact rfl
    refine wl_call ok_lock_Table_waits (waits_any (t := t) (x := o.x) (hT.below hs.bel) hw hon (show tb.qu.length ≤ 4294967296 by omega)) ⟨rfl, rfl, trivial⟩ rfl ?_
    rintro _ _ ⟨rfl, rfl⟩
    by_cases hq : o.x ∈ tb.qu
    · apply wl_val; apply opv_pickT; exact rfl; exact rfl; exact rfl; exact rfl; refine wl_ns ?_; apply wc_decT; exact rfl; (with_reducible assumption); refine wc_sr ?_; refine wl_mv rfl rfl ?_; refine wl_mv rfl rfl ?_
      refine wl_call ok_lock_Table_blockers (blockers_any (hT.below hs.bel) hw ho hlo hqu fun o ho => by have := hz.held o ho; omega) ⟨rfl, rfl, trivial⟩ rfl ?_
      rintro _ w3 ⟨R, cr, rfl, hsx⟩
      replace hs := hs.call hsx
      clear hsx
      dsimp only [List.cons_append, List.nil_append] at hs
      have hbl := bnames_len tb o
      skip
      refine wl_call ok_lock_names (names_any (hs.ow 0 rfl).rd (fun y hy => by obtain ⟨p, hp, rfl⟩ := List.mem_map.1 (bnames_sub y hy); exact ⟨p, rfl, (hT.below hs.bel).own p hp⟩) (by omega)) ⟨rfl, trivial⟩ rfl ?_
      rintro _ w4 ⟨P, cp, rfl, hsx⟩
      replace hs := hs.nil.call hsx
      refine wl_as rfl rfl ?_; refine wl_ns ?_; refine wc_ret ?_; refine we_seq_ret ?_
      exact we_ret1 rfl rfl ⟨_, rfl, P, cp, by simp only [forT, hx, if_pos hq], by simp only [forT, hx, if_pos hq]; exact hs⟩
    · apply wl_val; apply opv_pickT; exact rfl; exact rfl; exact rfl; exact rfl; refine wl_ns ?_; apply wc_decF; exact rfl; (with_reducible assumption); refine wc_skip ?_; refine we_seq ?_; refine wc_sr ?_; refine wl_as rfl rfl ?_; refine wl_ns ?_; refine wc_ret ?_
      exact we_ret1 rfl rfl ⟨_, rfl, none, 0, by simp only [forT, hx, if_neg hq]; rfl, by simp only [forT, hx, if_neg hq]; exact hs.nil.nilG _ _⟩
  | none =>
    rw [ptrO, if_neg (ownO_none.1 hx)]
    refine wl_as rfl rfl ?_; refine wl_ns ?_; refine wc_sr ?_; refine wl_mv rfl rfl ?_; apply wl_val; apply opv_bin; exact rfl; exact rfl; exact bin_neqNilNil tyPPO; exact rfl; refine wl_mv rfl rfl ?_; apply wl_skip; exact rfl; exact rfl; exact rfl; exact bR2; exact rfl; apply wl_skip; exact rfl; exact rfl; exact rfl; exact bR2; exact rfl; apply wl_skip; exact rfl; exact rfl; exact rfl; exact bR2; exact rfl; apply wl_val; apply opv_pickF; exact rfl; exact rfl; exact rfl; exact rfl; refine wl_ns ?_; apply wc_condFb; exact rfl; exact rfl; refine wc_skip ?_; refine we_seq ?_; refine wc_sr ?_; refine wl_as rfl rfl ?_; refine wl_ns ?_; refine wc_ret ?_
    exact we_ret1 rfl rfl ⟨_, rfl, none, 0, by simp only [forT, hx]; rfl, by simp only [forT, hx]; exact hs.nil.nilG _ _⟩
end Go.Proofs.Ytmdbjeabifkimaa

/-
  The engine's rules for slices with a third index, clear, and append within a row of one's own; a part of a row told cell by cell. Nothing here names the program.
-/
namespace Go.Proofs.Ytmdbjeabifkimaa
open Go.RowKit
section
variable {P : Program} {N : Nat} {ops : Array Oper} {Q : Exit → Act → World → Prop} {rest : List Oper} {L : FL} {w0 w : World} {M : BS} {H : List Cd} {t e : TypeId} {z : Value} {bytes : Nat}
theorem opv_slice3L {x y u v : Operand} {ty : TypeId} {A : Option Addr} {n c l h m : Nat} {k1 k2 k3 : IntKind} (T : Row1 P t e z bytes) (hx : look L x = some (.slice A n c)) (hl : look L y = some (.int k1 (l : Int))) (hh : look L u = some (.int k2 (h : Int))) (hm : look L v = some (.int k3 (m : Int))) (h1 : l ≤ h) (h2 : h ≤ m) (h3 : m ≤ c) :
    OpV P (.slice t x (some y) (some u) (some v)) ty L w (.slice (if m = l then A else A.map (·.add l)) (h - l) (m - l)) w := fun ρ o hρ ho _ => by
  have e1 : (Instr.sliceBounds true n c (some (ρ y)) (some (ρ u)) (some (ρ v))).run P w = .ok (l, h, m) w := by
    simp [Instr.sliceBounds, Instr.sliceBound, hρ y _ hl, hρ u _ hh, hρ v _ hm, asIntOf, h1, h2, h3]
  unfold execOp
  simp only [ho, Instr.sliceAt, Instr.slice, Sem.run_bind, run_underlying T.sl, Result.andThen_ok, hρ x _ hx, Option.map_some, e1, T.size]
  simp
theorem gr_setCellJ {g k : Nat} {u : Value} : Gr w (w.setCell ⟨g, k, none⟩ u) (some ⟨g, 0, none⟩) := ⟨rfl, rfl, rfl, by simp [World.setCell], fun j _ hj => by
  simp only [World.setCell, Array.getElem?_modify]
  rw [if_neg (by simp at hj; exact fun h => hj h.symm)]⟩
/-- append(s, x...), where there is room. -/
theorem ws_appIn {d : Nat} {s x : Operand} {ty : TypeId} {pos : String} {aft : Array Edge} {g n c m c' : Nat} {cs ys : List Value} {B : Option Addr} (hs : St M w0 w H) (i : Nat) (hi : nthC H i = some (.blk g e cs)) (T : Row1 P t e z bytes)
    (hx0 : look L s = some (.slice (some ⟨g, 0, none⟩) n c)) (hx : look L x = some (.slice B m c')) (hr : Rd w B m ys) (hroom : n + m ≤ c) (hc : c ≤ cs.length) (h1 : ∀ u ∈ ys, u.oneCell' = true) (hd : Nat.blt d N = true)
    (h : ∀ w', St M w0 w' (setC H i (.blk g e (cs.take n ++ (ys ++ cs.drop (n + m))))) → WL P N ops Q rest ((d, .slice (some ⟨g, 0, none⟩) (n + m) c) :: L) w') :
    WL P N ops Q (⟨some d, .call { callee := .builtin .append, args := #[s, x], argTypes := #[t, t] }, ty, pos, aft, none⟩ :: rest) L w := by
  obtain ⟨ii, hii, hz, hsz, hby⟩ := info_parts T.info
  have hl : ys.length = m := hr.1
  have ha := hs.ar i hi
  rcases Nat.eq_zero_or_pos m with h0 | hm
  · subst h0
    have hy : ys = [] := List.eq_nil_of_length_eq_zero hl
    subst hy
    have hrun : ∀ ty, (Builtin.append_ #[t, t] ty #[.slice (some ⟨g, 0, none⟩) n c, .slice B 0 c']).run P w = .ok (.slice (some ⟨g, 0, none⟩) (n + 0) c) w := fun ty => by
      have hnc : n ≤ c := by omega
      cases B <;> simp [Builtin.append_, run_underlying T.sl, sizeOf, typeInfo, hii, Builtin.lenOf, Builtin.firstCells, hnc, storeCells, loadCells, loadCellsFrom]
    refine wl_val (opv_app hx0 hx hrun) hd (h w ?_)
    have e : cs.take n ++ ([] ++ cs.drop (n + 0)) = cs := by simp
    rw [e]
    exact hs.updA i hi ha (Gr.refl _ _)
  · obtain ⟨b, o, rfl, _, hcell⟩ := hr.2 hm
    have hnews : ∀ j u, ys[j]? = some u → w.cell? ((⟨b, o, none⟩ : Addr).add j) = some u := fun j u hu => by rw [Addr.add_lit]; exact hcell j u hu
    refine wl_val (opv_app hx0 hx fun ty => run_append_room (P := P) w t ty e ii T.sl hii g n c cs.toArray ha ⟨b, o, none⟩ m c' ys (by rw [hsz]; omega) hnews h1 hroom (by simp [hsz]; omega)) hd ?_
    have e1 : (cs.toArray.toList.take (n * ii.size) ++ ys ++ cs.toArray.toList.drop (n * ii.size + ys.length)) = cs.take n ++ (ys ++ cs.drop (n + m)) := by
      rw [hsz, hl, Nat.mul_one, List.append_assoc]
    rw [e1]
    exact h _ (hs.updA i hi ha.setRow ⟨rfl, rfl, rfl, by simp [World.setRow], fun k _ hk => by
      simp only [World.setRow, Array.getElem?_modify]
      rw [if_neg (by simp at hk; exact fun h => hk h.symm)]⟩)
/-- clear(s), one element. -/
theorem ws_clear1 {x : Operand} {ty : TypeId} {pos : String} {aft : Array Edge} {g k c : Nat} {cs : List Value} (hs : St M w0 w H) (i : Nat) (hi : nthC H i = some (.blk g e cs)) (T : Row1 P t e z bytes)
    (hx : look L x = some (.slice (some ⟨g, k, none⟩) 1 c)) (hk : k < cs.length)
    (h : ∀ w', St M w0 w' (setC H i (.blk g e (cs.set k z))) → WL P N ops Q rest L w') :
    WL P N ops Q (⟨none, .call { callee := .builtin .clear, args := #[x], argTypes := #[t] }, ty, pos, aft, none⟩ :: rest) L w := by
  have ha := hs.ar i hi
  have hrun : ∀ ty, (Builtin.clear_ #[t] ty #[.slice (some ⟨g, k, none⟩) 1 c]).run P w = .ok (.tuple #[]) (w.setCell ⟨g, k, none⟩ z) := fun ty => by
    have := Lib.run_clear_slice (P := P) w t e ty z T.sl T.zero (cells_one T.one) T.one g k 1 c (by decide) (fun j hj => by
      obtain rfl : j = 0 := by omega
      rw [ha.cell, Nat.add_zero, List.getElem?_eq_getElem hk]; rfl) (fun j _ => ha.frozen _)
    rw [this]; rfl
  refine wl_valN (v := .tuple #[]) (w' := w.setCell ⟨g, k, none⟩ z) (fun ρ o hρ ho _ => ?_) (h _ (hs.updA i hi (ha.setCell k z) gr_setCellJ))
  unfold execOp
  simp only [ho, resolve, invoke, builtin, Sem.run_bind, Sem.run_pure, Result.andThen_ok, List.map_toArray, List.map_cons, List.map_nil, hρ x _ hx, hrun]
end
/-- A row of one's own, as a block. -/
theorem ow_blk {w : World} {S : BS} {e : TypeId} {A : Option Addr} {n c : Nat} {xs : List Value} (h : (Cd.ow e A n c xs).P w S) (hn : 0 < n) : ∃ g cs, A = some ⟨g, 0, none⟩ ∧ cs.length = c ∧ n ≤ c ∧ c ≤ maxLen ∧ cs.take n = xs ∧ (Cd.blk g e cs).P w S := by
  rcases h.2.2 with ⟨hv, h0⟩ | ⟨g, cap, cur, hv, _, hg, hnc, hm, hsz, ht⟩
  · omega
  · injection hv with hA hn' hc
    subst hA hc
    exact ⟨g, cur.toList, rfl, by simpa using hsz, hnc, hm, by simpa using ht, h.1 _ rfl, by unfold Ar; simpa using hg⟩
theorem blk_row {w : World} {S : BS} {e : TypeId} {g n : Nat} {cs : List Value} (h : (Cd.blk g e cs).P w S) (hn : n ≤ cs.length) (hm : cs.length ≤ maxLen) : (Cd.ow e (some ⟨g, 0, none⟩) n cs.length (cs.take n)).P w S :=
  ⟨fun a ha => by cases ha; exact h.1, by simp; omega, .inr ⟨g, cs.length, cs.toArray, rfl, Nat.zero_le _, h.2, hn, hm, by simp, by simp⟩⟩
end Go.Proofs.Ytmdbjeabifkimaa

/-
  Walks over the reference's mark, Spare, Kept and Over.
-/
namespace Go.Proofs.Ytmdbjeabifkimaa
open Go.RowKit

section
variable {P : Program} {N : Nat} {ops : Array Oper} {Q : Exit → Act → World → Prop} {rest : List Oper} {L : FL} {w : World} {t e : TypeId} {z : Value} {bytes : Nat}
/-- A row of the call's own as a block that is known whole. -/
theorem Ow.ar {base n : Nat} {A : Option Addr} {xs : List Value} (h : Ow w base e A n n xs) (hn : 0 < n) : ∃ g, A = some ⟨g, 0, none⟩ ∧ base ≤ g ∧ Ar w g e xs := by
  rcases h.2 with ⟨_, h0⟩ | ⟨g, cap, cur, hv, hb, hg, hnc, _, hs, ht⟩
  · omega
  · injection hv with hA hn' hc
    subst hc
    refine ⟨g, hA, hb, ?_⟩
    rw [List.take_of_length_le (by simp; omega)] at ht
    subst ht
    simpa [Ar] using hg
theorem Ar.rd {g n : Nat} {cs : List Value} (h : Ar w g e cs) (hn : n ≤ cs.length) : Rd w (some ⟨g, 0, none⟩) n (cs.take n) := ⟨by simp; omega, fun _ => ⟨g, 0, rfl, h.lt, fun j u hu => by
  rw [h.cell, Nat.zero_add]
  rw [List.getElem?_take] at hu
  split at hu
  · exact hu
  · cases hu⟩⟩
theorem gr_setCell {g k : Nat} {u : Value} : Gr w (w.setCell ⟨g, k, none⟩ u) (some ⟨g, 0, none⟩) := ⟨rfl, rfl, rfl, by simp [World.setCell], fun j _ hj => by
  simp only [World.setCell, Array.getElem?_modify]
  rw [if_neg (by simp at hj; exact fun h => hj h.symm)]⟩
theorem Gr.belowA {w0 w w' : World} {B g : Nat} (h : Gr w w' (some ⟨g, 0, none⟩)) (h0 : Below B w0 w) (hg : B ≤ g) (hB : B ≤ w.heap.size) : Below B w0 w' :=
  h0.grown h hB fun k hk => by simp at hk; omega
end

end Go.Proofs.Ytmdbjeabifkimaa

/-
  A lock table's pieces told one by one; walks over Delete and leave.
-/
namespace Go.Proofs.Ytmdbjeabifkimaa
open Go.RowKit

section
variable {P : Program} {N : Nat} {ops : Array Oper} {Q : Exit → Act → World → Prop} {S : World → Prop} {L : FL} {w : World}
/-- A drawn region with a class of one's own and a milestone. -/
theorem wc_heldL (S : World → Prop) (m : Nat) {id : Nat} {l : List Oper} (hm : P.follows .mixedOrders = true) (h : WM P N l.toArray Q S m l.length (Array.replicate l.length false) L w.drew) : WC P N (.region id l.toArray true) Q L w := fun a ha =>
  wp_region_noPanic (wp_region_any hm (any_of_M (S := S) (m := m) _ _ _ _ (by simpa using h a ha)))
end
/-- The pieces, the owners as one. -/
def lkQ (t : Nat) (gp : Tx → Nat) (tb : Tb) (A : Option Addr) (c : Nat) (B : Option Addr) (d : Nat) : List Cd := [.blk t 47 [.slice A tb.os.length c, .slice B tb.qu.length d], .ow 75 A tb.os.length c (ptrs gp (names tb)), .ow 75 B tb.qu.length d (ptrs gp tb.qu), .ck (packC (ownCs gp tb.os))]
section
variable {M : BS} {w0 w : World} {H : List Cd} {t : Nat} {gp : Tx → Nat} {tb : Tb}
theorem St.lk (hs : St M w0 w (.ck (lkC t gp tb) :: H)) : ∃ A c B d, St M w0 w (lkQ t gp tb A c B d ++ H) := by
  obtain ⟨⟨A, c, B, d⟩, h⟩ := hs.unpackE (α := Option Addr × Nat × Option Addr × Nat) (H1 := fun q => lkQ t gp tb q.1 q.2.1 q.2.2.1 q.2.2.2) fun T ⟨A, c, B, d, h⟩ => by
    refine ⟨(A, c, B, d), ?_⟩
    exact Sat.packR (X := [_, _, _]) (c := packC (ownCs gp tb.os)) h fun T h => h
  exact ⟨A, c, B, d, h⟩
theorem St.lkB {A : Option Addr} {c : Nat} {B : Option Addr} {d : Nat} (hs : St M w0 w (lkQ t gp tb A c B d ++ H)) : St M w0 w (.ck (lkC t gp tb) :: H) :=
  hs.pack (H1 := lkQ t gp tb A c B d) _ fun w S ⟨T1, h1, c1, T2, h2, c2, T3, h3, c3, T4, h4, c4, _⟩ => ⟨A, c, B, d, T1, h1, c1, T2, h2, c2, T3, h3, c3, (show Sat w (ownCs gp tb.os) T4 from c4).mono fun b _ h => h4 b h⟩
/-- One owner's pieces, out of all. -/
theorem St.own {pre post : List Ownr} {o : Ownr} (hs : St M w0 w (.ck (packC (ownCs gp (pre ++ o :: post))) :: H)) : ∃ Hh hc K kc, St M w0 w (ownP (gp o.x) o Hh hc K kc ++ (.ck (packC (ownCs gp (pre ++ post))) :: H)) := by
  obtain ⟨⟨Hh, hc, K, kc⟩, h⟩ := hs.unpackE (α := Option Addr × Nat × Option Addr × Nat) (H1 := fun q => ownP (gp o.x) o q.1 q.2.1 q.2.2.1 q.2.2.2 ++ [.ck (packC (ownCs gp (pre ++ post)))]) fun T h => by
    have h1 : Sat w (ownCs gp (pre ++ o :: post)) T := h
    have h2 : Sat w (.ck (ownC (gp o.x) o) :: ownCs gp (pre ++ post)) T := Sat.permL (by simp only [ownCs, List.map_append, List.map_cons]; exact List.perm_middle) h1
    obtain ⟨U, hU, ⟨Hh, hc, K, kc, h3⟩, h4⟩ := h2
    exact ⟨(Hh, hc, K, kc), Sat.join hU h3 ⟨_, fun _ h => h, h4, trivial⟩⟩
  refine ⟨Hh, hc, K, kc, ?_⟩
  rw [List.append_assoc] at h
  exact h
theorem St.ownB {pre post : List Ownr} {o : Ownr} {Hh : Option Addr} {hc : Nat} {K : Option Addr} {kc : Nat} (hs : St M w0 w (ownP (gp o.x) o Hh hc K kc ++ (.ck (packC (ownCs gp (pre ++ post))) :: H))) : St M w0 w (.ck (packC (ownCs gp (pre ++ o :: post))) :: H) := by
  refine St.pack (H1 := ownP (gp o.x) o Hh hc K kc ++ [.ck (packC (ownCs gp (pre ++ post)))]) (by rw [List.append_assoc]; exact hs) _ fun w S h => ?_
  obtain ⟨T, hT, h1, U, hU, h2, _⟩ := h.append
  have h3 : Sat w (.ck (ownC (gp o.x) o) :: ownCs gp (pre ++ post)) S := ⟨T, hT, ⟨Hh, hc, K, kc, h1⟩, (show Sat w (ownCs gp (pre ++ post)) U from h2).mono fun b _ h => hU b h⟩
  exact Sat.permL (by simp only [ownCs, List.map_append, List.map_cons]; exact List.perm_middle.symm) h3
end
/-- One alone is changed. -/
theorem map_one {tb : Tb} (hn : (names tb).Nodup) {pre post : List Ownr} {o : Ownr} (ho : tb.os = pre ++ o :: post) (f : Ownr → Ownr) : (tb.os.map fun p => if p.x = o.x then f p else p) = pre ++ f o :: post := by
  unfold names at hn
  rw [ho] at hn ⊢
  rw [List.map_append, List.map_cons, List.nodup_append] at hn
  obtain ⟨_, h2, h3⟩ := hn
  obtain ⟨h4, _⟩ := List.nodup_cons.1 h2
  rw [List.map_append, List.map_cons, if_pos rfl]
  congr 1
  · refine (List.map_congr_left fun p hp => ?_).trans (List.map_id _)
    rw [if_neg fun e => h3 p.x (List.mem_map_of_mem hp) o.x (by simp) e]; rfl
  · congr 1
    refine (List.map_congr_left fun p hp => ?_).trans (List.map_id _)
    have hm : p.x ∈ post.map (·.x) := List.mem_map_of_mem hp
    rw [if_neg fun e => h4 (by rw [← e]; exact hm)]; rfl
theorem unq_erase {q : List Tx} (hn : q.Nodup) {x : Tx} (hx : x ∈ q) : (q.filter fun y => !decide (y = x)) = q.eraseIdx (q.idxOf x) ∧ q.idxOf x < q.length := by
  obtain ⟨l, r, rfl, h2, h3⟩ := idx_split hx
  rw [List.nodup_append] at hn
  obtain ⟨n1, n2, n3⟩ := hn
  have hxr : x ∉ r := (List.nodup_cons.1 n2).1
  refine ⟨?_, by rw [h3]; simp⟩
  rw [h3, List.eraseIdx_eq_take_drop_succ, List.take_left', List.filter_append, List.filter_cons]
  · simp only [decide_true, Bool.not_true, Bool.false_eq_true, if_false]
    congr 1
    · exact List.filter_eq_self.2 fun a ha => by
        have : a ≠ x := fun e => h2 (e ▸ ha)
        simpa using this
    · rw [show l.length + 1 = (l ++ [x]).length by simp, show l ++ x :: r = (l ++ [x]) ++ r by simp, List.drop_left]
      exact List.filter_eq_self.2 fun a ha => by
        have : a ≠ x := fun e => hxr (e ▸ ha)
        simpa using this
  · rfl
theorem unq_self {q : List Tx} {x : Tx} (hx : x ∉ q) : (q.filter fun y => !decide (y = x)) = q := List.filter_eq_self.2 fun a ha => by
  have : a ≠ x := fun e => hx (e ▸ ha)
  simpa using this
theorem split_of {tb : Tb} {o : Ownr} (ho : o ∈ tb.os) : ∃ pre post, tb.os = pre ++ o :: post := List.append_of_mem ho
theorem delete_any {S : BS} {A : Option Addr} {n c i : Nat} {xs : List Value} {w : World} (h0 : Sat w [.ow 75 A n c xs] S) (hone : ∀ u ∈ xs, u.oneCell' = true) (hi : i < n) (hn : n ≤ 1048576) :
    CallsV Try.prog 65 #[.slice A n c, .int .i64 (i : Int), .int .i64 ((i : Int) + 1)] w fun v w' => v = .slice A (n - 1) c ∧ St S w w' [.ow 75 A (n - 1) c (xs.eraseIdx i)] := by
  obtain ⟨g, cs, rfl, hcl, hnc, hcm, htk, hs⟩ : ∃ g cs, A = some ⟨g, 0, none⟩ ∧ cs.length = c ∧ n ≤ c ∧ c ≤ maxLen ∧ cs.take n = xs ∧ St S w w [.blk g 75 cs] := by
    obtain ⟨T, hT, hc, _⟩ := h0
    obtain ⟨g, cs, h1, h2, h3, h4, h5, h6⟩ := ow_blk hc (by omega)
    exact ⟨g, cs, h1, h2, h3, h4, h5, St.start ⟨T, hT, h6, trivial⟩⟩
  have hxl : xs.length = n := by rw [← htk, List.length_take]; omega
  subst hcl
  have e1 : ((i : Int) + 1) = ((i + 1 : Nat) : Int) := by omega
  have hne : ¬ (i : Int) = (i : Int) + 1 := by omega
  have hrd : Rd w (some ⟨g, 0, none⟩) n xs := by rw [← htk]; exact (hs.ar 0 rfl).rd (by omega)
  have hsrc := Rd.cut (l := i + 1) (h := n) hrd (by omega) (Nat.le_refl _) hnc
  rw [List.take_of_length_le (by omega)] at hsrc
  refine calls_in (N := _) Try.func65 rfl Try.ntmps65 rfl ?_; show WC _ _ _ _ _ _
  refine wc_sr ?_; refine wl_as rfl rfl ?_; refine wl_ns ?_; refine wc_sr ?_; refine wl_mv rfl rfl ?_; refine wl_mv rfl rfl ?_; refine wl_mv rfl rfl ?_; refine wl_mv rfl rfl ?_; apply wl_val; apply opv_len; exact rfl; exact tyPO.sl; exact rfl
  refine wl_val (opv_slice3L (l := i) (h := i + 1) (m := n) tyPO rfl rfl (congrArg (fun z : Int => some (Value.int .i64 z)) e1) rfl (by omega) (by omega) hnc) rfl ?_
  refine wl_ns ?_; refine wc_seq ?_; refine wc_sr ?_; refine wl_mv rfl rfl ?_; refine wl_mv rfl rfl ?_; refine wl_bin rfl rfl bin_eql rfl ?_; refine wl_ns ?_; apply wc_decF; exact rfl; (with_reducible assumption); refine wc_skip ?_; refine we_seq ?_; refine wc_sr ?_; refine wl_mv rfl rfl ?_; apply wl_val; apply opv_len; exact rfl; exact tyPO.sl; exact rfl; refine wl_as rfl rfl ?_; refine wl_ns ?_; refine wc_seq ?_
  refine wc_held (fun _ => True) mixed ?_
  replace hs := hs.below (Below.refl _ _).drew
  apply wh_takeH 0; exact rfl; intro _ hw_; apply opv_move; exact rfl; exact rfl; kernel_rfl; exact trivial; apply wh_takeH 1; exact rfl; intro _ hw_; apply opv_move; exact rfl; exact rfl; kernel_rfl; exact trivial
  refine wh_takeH 2 rfl (fun w hw_ => opv_slice (l := 0) (h := i) tyPO rfl rfl ⟨_, rfl⟩ (Nat.zero_le _) (by omega)) rfl (by kernel_rfl) trivial ?_
  apply wh_takeH 3; exact rfl; intro _ hw_; apply opv_move; exact rfl; exact rfl; kernel_rfl; exact trivial; apply wh_takeH 4; exact rfl; intro _ hw_; apply opv_move; exact rfl; exact rfl; kernel_rfl; exact trivial
  refine wh_takeH 5 rfl (fun w hw_ => opv_slice (l := i + 1) (h := n) tyPO rfl ⟨_, congrArg (fun z : Int => some (Value.int .i64 z)) e1⟩ rfl (by omega) (by omega)) rfl (by kernel_rfl) trivial ?_
  refine wh_one 6 (o := ⟨_, _, _, _, _, _⟩) (by kernel_rfl) rfl ?_
  rw [cutA_zero, Nat.sub_zero, Nat.sub_zero]
  refine ws_appIn (m := n - (i + 1)) (ys := xs.drop (i + 1)) hs 0 rfl tyPO rfl rfl hsrc (by omega) (Nat.le_refl _) (fun u hu => hone u (List.mem_of_mem_drop hu)) rfl ?_
  clear hs; intro w1 hs; dsimp only [setC] at hs
  refine wl_nil ?_
  refine we_held trivial ?_
  refine wh_one 7 (o := ⟨_, _, _, _, _, _⟩) (by kernel_rfl) rfl ?_
  refine wl_as rfl rfl ?_; refine wl_nil ?_
  refine we_held trivial ?_
  refine wh_done (by kernel_rfl) ?_
  obtain ⟨cs1, hc1⟩ : ∃ q, cs.take i ++ (xs.drop (i + 1) ++ cs.drop (i + (n - (i + 1)))) = q := ⟨_, rfl⟩
  have hl1 : cs1.length = cs.length := by rw [← hc1]; simp; omega
  rw [hc1] at hs
  refine we_seq ?_; refine wc_sr ?_; refine wl_mv rfl rfl ?_; refine wl_mv rfl rfl ?_; apply wl_val; apply opv_len; exact rfl; exact tyPO.sl; exact rfl; refine wl_mv rfl rfl ?_
  refine wl_sl (l := i + (n - (i + 1))) (h := n) tyPO rfl ⟨_, rfl⟩ ⟨_, rfl⟩ (by omega) (by omega) rfl ?_
  rw [show n - (i + (n - (i + 1))) = 1 by omega, cutA, if_neg (by omega)]
  refine ws_clear1 (k := i + (n - (i + 1))) hs 0 rfl tyPO (congrArg (fun a => some (Value.slice (some a) _ _)) (by show (⟨g, 0, none⟩ : Addr).add _ = _; rw [Addr.add_lit, Nat.zero_add])) (by omega) ?_
  clear hs; intro w2 hs; dsimp only [setC] at hs
  refine wl_ns ?_; refine wc_sr ?_; refine wl_mv rfl rfl ?_; refine wl_as rfl rfl ?_; refine wl_ns ?_; refine wc_ret ?_
  refine we_ret1 rfl rfl ⟨_, rfl, by rw [show i + (n - (i + 1)) = n - 1 by omega], ?_⟩
  have e5 : (cs1.set (i + (n - (i + 1))) (.pointer none)).take (n - 1) = xs.eraseIdx i := by
    rw [List.eraseIdx_eq_take_drop_succ, ← hc1, show i + (n - (i + 1)) = n - 1 by omega]
    have e6 : cs.take i = xs.take i := by rw [← htk, List.take_take, Nat.min_eq_left (by omega)]
    rw [e6]
    have e7 : (xs.take i).length = i := by rw [List.length_take]; omega
    have e8 : (xs.drop (i + 1)).length = n - 1 - i := by rw [List.length_drop]; omega
    rw [List.take_set_of_le (Nat.le_refl _), ← List.append_assoc]
    rw [List.take_left']
    rw [List.length_append, e7, e8]; omega
  rw [← e5]
  have e9 : (cs1.set (i + (n - (i + 1))) (.pointer none)).length = cs.length := by rw [List.length_set, hl1]
  rw [← e9]
  exact hs.map fun S h => h.mapC fun T h => blk_row h (by omega) (by omega)
theorem ptrs_one {gp : Tx → Nat} {l : List Tx} : ∀ u ∈ ptrs gp l, u.oneCell' = true := fun u hu => by
  obtain ⟨x, _, rfl⟩ := List.mem_map.1 hu; rfl
theorem St.lkMk {M : BS} {w0 w : World} {H : List Cd} {t n m c d : Nat} {gp : Tx → Nat} {tb : Tb} {A B : Option Addr} {ps qs : List Value} {os : List Cd} (hs : St M w0 w ([.blk t 47 [.slice A n c, .slice B m d], .ow 75 A n c ps, .ow 75 B m d qs, .ck (packC os)] ++ H)) (e1 : n = tb.os.length) (e2 : m = tb.qu.length) (e3 : ps = ptrs gp (names tb)) (e4 : qs = ptrs gp tb.qu) (e5 : os = ownCs gp tb.os) : St M w0 w (.ck (lkC t gp tb) :: H) := by
  subst e1 e2 e3 e4 e5
  exact hs.lkB
theorem leave_low {S : BS} {t d m : Nat} {gp : Tx → Nat} {q : List Tx} {x : Tx} {B : Option Addr} {vA c0 c1 c2 c3 : Value} {w : World} (h0 : Sat w [.blk t 47 [vA, .slice B q.length d], .ow 75 B q.length d (ptrs gp q), .blk (gp x) 82 [c0, c1, c2, c3]] S) (hb : ∀ y ∈ q, Blk w (gp y)) (hi : ∀ y ∈ q, gp y = gp x → y = x) (hn : q.Nodup) (hm : (q.filter fun y => !decide (y = x)).length = m) (hl : q.length ≤ 1048576) :
    CallsV Try.prog 38 #[pN t, pN (gp x)] w fun v w' => v = .tuple #[] ∧ St S w w' [.blk t 47 [vA, .slice B m d], .ow 75 B m d (ptrs gp (q.filter fun y => !decide (y = x))), .blk (gp x) 82 [c0, c1, c2, .slice none 0 0]] := by
  have hs := St.start h0
  have hxb : Blk w (gp x) := ⟨_, _, hs.ar 2 rfl⟩
  unfold pN
  refine calls_in (N := _) Try.func38 rfl Try.ntmps38 rfl ?_; show WC _ _ _ _ _ _
  refine wc_seq ?_; refine wc_sr ?_; refine wl_mv rfl rfl ?_; apply wl_val; apply opv_nilOk; exact rfl; exact rfl; apply wl_val; apply opv_fa; exact fa_Tb1; exact rfl; exact rfl; apply wl_val; apply opv_ldX; exact rfl; exact hs.ar 0 rfl; exact e1_pos; exact rfl; exact rfl; refine wl_mv rfl rfl ?_
  refine wl_call ok_slices_Index_lock_owner_lock_owner (index_any (ps := q.map gp) (by rw [← ptrs_map]; exact (hs.ow 1 rfl).rd) (fun p hp => by obtain ⟨y, hy, rfl⟩ := List.mem_map.1 hp; exact hb y hy) hxb (by rw [List.length_map]; omega)) ⟨rfl, rfl, trivial⟩ rfl ?_
  rintro _ _ ⟨rfl, rfl⟩
  by_cases hxq : x ∈ q
  · obtain ⟨he, hlt⟩ := unq_erase hn hxq
    have hix : idxV (q.map gp) (gp x) = (q.idxOf x : Int) := by rw [idxV, if_pos (List.mem_map_of_mem hxq), idxOf_mapI hi]
    have hm' : q.length - 1 = m := by rw [← hm, he, List.length_eraseIdx_of_lt hlt]
    rw [hix]
    obtain ⟨i, hid⟩ : ∃ i, q.idxOf x = i := ⟨_, rfl⟩
    rw [hid] at he hlt
    rw [hid]
    have hi0 : (i : Int) ≥ 0 := by omega
    refine wl_as rfl rfl ?_; refine wl_ns ?_; refine wc_sr ?_; refine wl_mv rfl rfl ?_; refine wl_bin rfl rfl bin_geq rfl ?_; refine wl_ns ?_; apply wc_condTb; exact rfl; exact rfl; refine wc_region ?_; refine wl_mv rfl rfl ?_; refine wl_mv rfl rfl ?_; apply wl_val; apply opv_nilOk; exact rfl; exact rfl; apply wl_val; apply opv_fa; exact fa_Tb1; exact rfl; exact rfl; apply wl_val; apply opv_ldX; exact rfl; exact hs.ar 0 rfl; exact e1_pos; exact rfl; exact rfl; refine wl_mv rfl rfl ?_; refine wl_mv rfl rfl ?_; apply wl_val; apply opv_bin; exact rfl; exact rfl; exact bin_add64 (by omega); exact rfl
    obtain ⟨S2, hS2, _, _, _, hB⟩ := St.lend (H1 := [_]) (H2 := [_, _]) (hs.front 1 rfl)
    refine wl_call ok_slices_Delete_lock_owner_lock_owner (delete_any hS2 ptrs_one hlt hl) ⟨rfl, rfl, rfl, trivial⟩ rfl ?_
    rintro _ w1 ⟨rfl, hsx⟩
    replace hs := hB _ _ hsx
    clear hB hsx hS2
    dsimp only [List.cons_append, List.nil_append, delC] at hs
    have e1 : (ptrs gp q).eraseIdx i = ptrs gp (q.filter fun y => !decide (y = x)) := by rw [he, ptrs, ptrs, List.eraseIdx_eq_take_drop_succ, List.eraseIdx_eq_take_drop_succ, List.map_append, List.map_take, List.map_drop]
    rw [e1, hm'] at hs
    rw [hm']
    apply wl_val; apply opv_nilOk; exact rfl; exact rfl; apply wl_val; apply opv_fa; exact fa_Tb1; exact rfl; exact rfl; apply ws_st hs 1; exact rfl; exact rfl; exact e1_pos; exact rfl; exact rfl; exact rfl; clear hs; intro _ hs; dsimp only [setC, List.set] at hs; refine wl_ns ?_; refine wc_region ?_; refine wl_mv rfl rfl ?_; apply wl_val; apply opv_nilOk; exact rfl; exact rfl; apply wl_val; apply opv_fa; exact fa_O2; exact rfl; exact rfl; apply ws_st hs 2; exact rfl; exact rfl; exact e1_rgs; exact rfl; exact rfl; exact rfl; clear hs; intro _ hs; dsimp only [setC, List.set] at hs; refine wl_nil ?_
    exact we_end0 rfl ⟨_, rfl, rfl, hs.front 1 rfl⟩
  · have hix : idxV (q.map gp) (gp x) = -1 := by
      rw [idxV, if_neg fun hk => by obtain ⟨y, hy, e⟩ := List.mem_map.1 hk; exact hxq (hi y hy e ▸ hy)]
    have he := unq_self hxq
    have hm' : q.length = m := by rw [← hm, he]
    rw [hix]
    have hi0 : ¬ (-1 : Int) ≥ 0 := by omega
    refine wl_as rfl rfl ?_; refine wl_ns ?_; refine wc_sr ?_; refine wl_mv rfl rfl ?_; refine wl_bin rfl rfl bin_geq rfl ?_; refine wl_ns ?_; apply wc_condFb; exact rfl; exact rfl; refine wc_skip ?_; refine we_seq ?_; refine wc_region ?_; refine wl_mv rfl rfl ?_; apply wl_val; apply opv_nilOk; exact rfl; exact rfl; apply wl_val; apply opv_fa; exact fa_O2; exact rfl; exact rfl; apply ws_st hs 2; exact rfl; exact rfl; exact e1_rgs; exact rfl; exact rfl; exact rfl; clear hs; intro _ hs; dsimp only [setC, List.set] at hs; refine wl_nil ?_
    rw [← hm', he]
    exact we_end0 rfl ⟨_, rfl, rfl, hs⟩
theorem leave_any {S : BS} {t : Nat} {gp : Tx → Nat} {tb : Tb} {x : Tx} {w : World} (h0 : Sat w [.ck (lkC t gp tb)] S) (hw : Wf tb) (hz : Sz tb) (hx : x ∈ names tb) :
    CallsV Try.prog 38 #[pN t, pN (gp x)] w fun v w' => v = .tuple #[] ∧ St S w w' [.ck (lkC t gp (leaveT tb x))] := by
  have hs := St.start h0
  have hT := hs.rdT 0 rfl
  obtain ⟨o, ho, rfl⟩ := List.mem_map.1 hx
  obtain ⟨pre, post, hpp⟩ := split_of ho
  obtain ⟨A, c, B, d, hs⟩ := hs.lk
  unfold lkQ at hs
  dsimp only [List.cons_append, List.nil_append] at hs
  rw [hpp] at hs
  obtain ⟨Hh, hc, K, kc, hs⟩ := (hs.front 3 rfl).own
  unfold ownP owV at hs
  dsimp only [List.cons_append, List.nil_append, delC] at hs
  have hs2 := ((hs.front 0 rfl).front 6 rfl).front 5 rfl
  dsimp only [delC] at hs2
  obtain ⟨S2, hS2, _, _, _, hB⟩ := St.lend (H1 := [_, _, _]) (H2 := [_, _, _, _]) hs2
  have hlen : ((tb.qu.filter fun y => !decide (y = o.x)).length) = (leaveT tb o.x).qu.length := rfl
  refine (leave_low (q := tb.qu) (x := o.x) (m := (leaveT tb o.x).qu.length) hS2 (fun y hy => hT.blk (hw.sub y hy)) (fun y hy e => hT.inj y (hw.sub y hy) _ hx e) hw.qn rfl (hz.qu hw)).mono fun v w' ⟨hv, hsx⟩ => ⟨hv, ?_⟩
  have hs3 := hB _ _ hsx
  dsimp only [List.cons_append, List.nil_append] at hs3
  replace hs3 := ((((((((hs3.drop 4 rfl).nilG 3 61).front 2 rfl).front 6 rfl).front 3 rfl).front 6 rfl).front 4 rfl).front 6 rfl).front 6 rfl
  dsimp only [delC] at hs3
  have hs4 := (((St.ownB (pre := pre) (post := post) (o := ⟨o.x, o.held, []⟩) (Hh := Hh) (hc := hc) (K := none) (kc := 0) (H := [_, _, _]) hs3).front 3 rfl).front 3 rfl).front 3 rfl
  exact St.lkMk (tb := leaveT tb o.x) (H := []) hs4 (by rw [← hpp]; simp [leaveT]) rfl (by rw [names_leave]) rfl (by rw [leaveT, map_one hw.nd hpp fun p => ⟨p.x, p.held, []⟩])
end Go.Proofs.Ytmdbjeabifkimaa

/-
  Walks over Clone and advance.
-/
namespace Go.Proofs.Ytmdbjeabifkimaa
open Go.RowKit

theorem clone_ptr {A : Option Addr} {n c : Nat} {xs : List Value} {w : World} (hr : Rd w A n xs) (h1 : ∀ u ∈ xs, u.oneCell' = true) (hl : n ≤ 1048576) :
    CallsV Try.prog 67 #[.slice A n c] w fun v w' => ∃ (P : Option Addr) (cp : Nat), v = .slice P n cp ∧ St NoB w w' [.ow 75 P n cp xs] := by
  have hs := St.init w
  refine calls_in (N := _) Try.func67 rfl Try.ntmps67 rfl ?_; show WC _ _ _ _ _ _
  refine wc_sr ?_; refine wl_as rfl rfl ?_; refine wl_ns ?_; refine wc_seq ?_; refine wc_sr ?_; refine wl_mv rfl rfl ?_; apply wl_val; apply opv_bin; exact rfl; exact rfl; exact bin_eqlSliceNil tyPO.sl; exact rfl; refine wl_ns ?_
  cases A with
  | none =>
    have h0 : n = 0 := by
      rcases Nat.eq_zero_or_pos n with h | h
      · exact h
      · obtain ⟨_, _, h, _⟩ := hr.2 h; cases h
    subst h0
    have hx : xs = [] := List.eq_nil_of_length_eq_zero hr.1
    subst hx
    have hn : (none : Option Addr).isNone = true := rfl
    apply wc_condTb; exact rfl; exact rfl; refine wc_sr ?_; refine wl_as rfl rfl ?_; refine wl_ns ?_; refine wc_ret ?_; refine we_seq_ret ?_
    exact we_ret1 rfl rfl ⟨_, rfl, none, 0, rfl, hs.nilO _⟩
  | some a =>
    have hn : (some a).isNone = false := rfl
    apply wc_condFb; exact rfl; exact rfl; refine wc_skip ?_; refine we_seq ?_; refine wc_sr ?_
    refine ws_bs (vs := []) hs tyPO trivial rfl (by decide) rfl ?_
    clear hs; intro P w1 hs
    have hr1 := hr.below hs.bel
    refine wl_mv rfl rfl ?_
    refine ws_app (ys := xs) (m := n) hs 0 rfl rfl tyPO rfl hr1 h1 (by omega) (by simp only [maxLen]; omega) rfl ?_
    clear hs; intro P2 cp2 w2 hs; dsimp only [setC] at hs
    rw [Nat.zero_add, List.nil_append] at hs
    rw [Nat.zero_add]
    refine wl_as rfl rfl ?_; refine wl_ns ?_; refine wc_ret ?_
    exact we_ret1 rfl rfl ⟨_, rfl, P2, cp2, rfl, hs⟩
theorem rgR_one {l : List Rg} {w : World} {S : BS} {css : List (List Value)} (h : Grp 3 w S (l.map rgEl) css) : ∀ u ∈ css.flatten, u.oneCell' = true := by
  intro u hu
  obtain ⟨cs, hcs, hu⟩ := List.mem_flatten.1 hu
  obtain ⟨i, hi⟩ := List.mem_iff_getElem?.1 hcs
  obtain ⟨_, E, hE, hp⟩ := h.2 i cs hi
  rw [List.getElem?_map] at hE
  cases hl : l[i]? with
  | none => rw [hl] at hE; cases hE
  | some x =>
    rw [hl] at hE
    cases hE
    obtain ⟨A, c, B, d, rfl, _⟩ := hp
    exact rgV_all x A c B d u (by simpa using hu)
section
variable {M : BS} {w0 w : World} {H : List Cd} {t : Nat} {gp : Tx → Nat} {tb : Tb}
/-- A table's pieces, those of one owner in front. -/
theorem St.goOut {pre post : List Ownr} {o : Ownr} (hs : St M w0 w (.ck (lkC t gp tb) :: H)) (hpp : tb.os = pre ++ o :: post) : ∃ A c B d Hh hc K kc, St M w0 w (.rg 3 61 Hh hc (o.held.map rgEl) :: .rg 3 61 K kc (o.asks.map rgEl) :: .blk (gp o.x) 82 (owV o Hh hc K kc) :: .blk t 47 [.slice A tb.os.length c, .slice B tb.qu.length d] :: .ow 75 B tb.qu.length d (ptrs gp tb.qu) :: .ck (packC (ownCs gp (pre ++ post))) :: .ow 75 A tb.os.length c (ptrs gp (names tb)) :: H) := by
  obtain ⟨A, c, B, d, hs⟩ := hs.lk
  unfold lkQ at hs
  dsimp only [List.cons_append, List.nil_append] at hs
  have hs := hs.front 3 rfl
  dsimp only [delC] at hs
  have e : Cd.ck (packC (ownCs gp tb.os)) = .ck (packC (ownCs gp (pre ++ o :: post))) := by rw [hpp]
  rw [e] at hs
  obtain ⟨Hh, hc, K, kc, hs⟩ := hs.own
  unfold ownP at hs
  dsimp only [List.cons_append, List.nil_append] at hs
  have hs := (((((((hs.front 5 rfl).front 4 rfl).front 6 rfl).front 6 rfl).front 4 rfl).front 6 rfl).front 6 rfl)
  dsimp only [delC] at hs
  exact ⟨A, c, B, d, Hh, hc, K, kc, hs⟩
/-- The other way round, behind going. -/
theorem St.goIn {pre post : List Ownr} {o : Ownr} {A B Hh : Option Addr} {c d hc n m : Nat} (hw : Wf tb) (hpp : tb.os = pre ++ o :: post) (hn : n = o.held.length + o.asks.length) (hm : (goOne tb o.x).qu.length = m) (hs : St M w0 w (.blk t 47 [.slice A tb.os.length c, .slice B m d] :: .ow 75 B m d (ptrs gp (tb.qu.filter fun y => !decide (y = o.x))) :: .blk (gp o.x) 82 [.int .u64 (o.x.1 : Int), .int .u64 (o.x.2 : Int), .slice Hh n hc, .slice none 0 0] :: .rg 3 61 Hh hc (o.held.map rgEl ++ o.asks.map rgEl) :: .ck (packC (ownCs gp (pre ++ post))) :: .ow 75 A tb.os.length c (ptrs gp (names tb)) :: H)) : St M w0 w (.ck (lkC t gp (goOne tb o.x)) :: H) := by
  subst hm hn
  have hs := ((((((((hs.nilG 3 61).front 2 rfl).front 6 rfl).front 3 rfl).front 6 rfl).front 4 rfl).front 6 rfl).front 6 rfl)
  dsimp only [delC] at hs
  have e : o.held.map rgEl ++ o.asks.map rgEl = (o.held ++ o.asks).map rgEl := by rw [List.map_append]
  have e2 : (o.held.length + o.asks.length) = (o.held ++ o.asks).length := by simp
  rw [e, e2] at hs
  have hs4 := (((St.ownB (pre := pre) (post := post) (o := ⟨o.x, o.held ++ o.asks, []⟩) (Hh := Hh) (hc := hc) (K := none) (kc := 0) (H := _ :: _ :: _ :: H) hs).front 3 rfl).front 3 rfl).front 3 rfl
  have e3 : (goOne tb o.x).os = pre ++ ⟨o.x, o.held ++ o.asks, []⟩ :: post := by
    have h1 : (grantT tb o.x).os = pre ++ ⟨o.x, o.held ++ o.asks, o.asks⟩ :: post := map_one hw.nd hpp fun p => ⟨p.x, p.held ++ p.asks, p.asks⟩
    have h2 : (names (grantT tb o.x)).Nodup := by rw [names_grant]; exact hw.nd
    exact map_one (tb := grantT tb o.x) h2 h1 fun p => ⟨p.x, p.held, []⟩
  exact St.lkMk (tb := goOne tb o.x) hs4 (by rw [e3, hpp]; simp) rfl (by rw [names_go]) rfl (by rw [e3])
theorem St.ownBlk {os : List Ownr} (hs : St M w0 w H) (i : Nat) (hi : nthC H i = some (.ck (packC (ownCs gp os)))) : ∀ p ∈ os, Blk w (gp p.x) := fun p hp => by
  obtain ⟨T, hc, _⟩ := hs.get i hi
  obtain ⟨h1, _⟩ := ownCs_inj (show Sat w (ownCs gp os) T from hc)
  obtain ⟨Hh, hc, K, kc, h2, _⟩ := (h1 p hp).1
  exact ⟨_, _, h2⟩
end
theorem goStep_sz {r : Tb × List Tx} {x : Tx} (h : Sz r.1) : Sz (goStep r x).1 := by
  unfold goStep
  split
  · refine ⟨by simpa [goOne, leaveT, grantT] using h.os, fun o ho => ?_⟩
    rcases mem_go.1 ho with ⟨h1, _⟩ | ⟨p, hp, _, rfl⟩
    · exact h.held o h1
    · have := h.held p hp
      simpa using this
  · exact h
theorem goFold_sz : ∀ {l : List Tx} {r : Tb × List Tx}, Sz r.1 → Sz (l.foldl goStep r).1
  | [], _, h => h
  | x :: l, r, h => goFold_sz (l := l) (goStep_sz h)
theorem goStep_len (r : Tb × List Tx) (x : Tx) : (goStep r x).2.length ≤ r.2.length + 1 := by
  unfold goStep; split <;> simp
theorem goFold_len : ∀ {l : List Tx} {r : Tb × List Tx}, (l.foldl goStep r).2.length ≤ r.2.length + l.length
  | [], _ => by simp
  | x :: l, r => by
    have h1 := goFold_len (l := l) (r := goStep r x)
    have h2 := goStep_len r x
    rw [List.foldl_cons, List.length_cons]; omega
/-- What stands behind k steps. -/
def goK (tb : Tb) (k : Nat) : Tb × List Tx := (tb.qu.take k).foldl goStep (tb, [])
theorem goK_succ {tb : Tb} {k : Nat} {x : Tx} (h : tb.qu[k]? = some x) : goK tb (k + 1) = goStep (goK tb k) x := by
  rw [goK, take_getR h, List.foldl_append]; rfl
theorem goK_I {tb : Tb} (hw : Wf tb) {k : Nat} (hk : k ≤ tb.qu.length) : GoI tb (goK tb k).1 (tb.qu.take k) (tb.qu.drop k) := by
  induction k with
  | zero => exact goI_start hw
  | succ k ih =>
    have hx : tb.qu[k]? = some tb.qu[k] := List.getElem?_eq_getElem (by omega)
    have h1 := ih (by omega)
    rw [List.drop_eq_getElem_cons (by omega)] at h1
    have h2 := goI_step (out := (goK tb k).2) h1
    rw [goK_succ hx, take_getR hx]
    exact h2
theorem advance_any {S : BS} {t : Nat} {gp : Tx → Nat} {tb : Tb} {w : World} (h0 : Sat w [.ck (lkC t gp tb)] S) (hw : Wf tb) (hz : Sz tb) :
    CallsV Try.prog 41 #[pN t] w fun v w' => ∃ (P : Option Addr) (cp : Nat), v = .slice P (goT tb).2.length cp ∧ St S w w' [.rg 2 30 P cp (txEls (goT tb).2), .ck (lkC t gp (goT tb).1)] := by
  have hs := St.start h0
  have hT := hs.rdT 0 rfl
  have hqu := hz.qu hw
  obtain ⟨A, c, B, d, h1, h2, h3, h4, h5⟩ := hT.tab
  unfold pN
  refine calls_in (N := _) Try.func41 rfl Try.ntmps41 rfl ?_; show WC _ _ _ _ _ _
  refine wc_sr ?_; refine wl_as rfl rfl ?_; refine wl_ns ?_; refine wc_sr ?_; refine wl_as rfl rfl ?_; refine wl_ns ?_; refine wc_seq ?_; refine wc_sr ?_; refine wl_mv rfl rfl ?_; apply wl_val; apply opv_nilOk; exact rfl; exact rfl; apply wl_val; apply opv_fa; exact fa_Tb1; exact rfl; exact rfl; apply wl_val; apply opv_ldX; exact rfl; assumption; exact e1_pos; exact rfl; exact rfl
  refine wl_call ok_slices_Clone_lock_owner_lock_owner (clone_ptr h3 ptrs_one hqu) ⟨rfl, trivial⟩ rfl ?_
  rintro _ w1 ⟨Q, cq, rfl, hsx⟩
  replace hs := (hs.call hsx).nilG 2 30
  clear hsx h1 h2 h3 h4 h5 hT
  dsimp only [List.cons_append, List.nil_append] at hs
  apply wl_val; apply opv_len; exact rfl; exact tyPO.sl; exact rfl; refine wl_mv rfl rfl ?_; refine wl_ns ?_; refine wc_block ?_
  refine wc_loop (fun L wr mm => ∃ (k : Nat) (P : Option Addr) (cp : Nat), L = [(0, .pointer (some ⟨t, 0, none⟩)), (10, .slice Q tb.qu.length cq), (11, .int .i64 (tb.qu.length : Int)), (12, .int .i64 (k : Int)), (3, .slice P (goK tb k).2.length cp)] ∧ k ≤ tb.qu.length ∧ St S w wr [.rg 2 30 P cp (txEls (goK tb k).2), .ow 75 Q tb.qu.length cq (ptrs gp tb.qu), .ck (lkC t gp (goK tb k).1)] ∧ mm = tb.qu.length - k)
    [(0, .pointer (some ⟨t, 0, none⟩)), (10, .slice Q tb.qu.length cq), (11, .int .i64 (tb.qu.length : Int)), (12, .int .i64 (0 : Nat)), (3, .slice none 0 0)] tb.qu.length ⟨0, none, 0, rfl, by omega, hs, rfl⟩ ⟨rfl, rfl, rfl, rfl, rfl, trivial⟩ ?_
  clear hs
  rintro _ w2 mm ⟨k, P, cp, rfl, hk, hs, rfl⟩
  refine wc_sr ?_; refine wl_bin rfl rfl bin_lss rfl ?_; refine wl_ns ?_; refine wc_seq ?_
  refine wc_cond rfl (fun h1 => ?_) (fun h1 => ?_)
  · obtain ⟨x, hx⟩ : ∃ x, tb.qu[k]? = some x := ⟨_, List.getElem?_eq_getElem (by omega)⟩
    have hgk := goK_succ hx
    have hI := goK_I hw hk
    have hzk : Sz (goK tb k).1 := goFold_sz hz
    have hlen : (goK tb k).2.length ≤ k := by
      have := goFold_len (l := tb.qu.take k) (r := (tb, []))
      rw [List.length_take] at this
      simp only [List.length_nil] at this
      unfold goK; omega
    rw [List.drop_eq_getElem_cons (show k < tb.qu.length by omega)] at hI
    obtain ⟨r, hr⟩ : ∃ r, goK tb k = r := ⟨_, rfl⟩
    rw [hr] at hgk hI hzk hlen hs
    rw [hr]
    have hxq : x ∈ r.1.qu := by
      rw [hI.qu]
      have : x = tb.qu[k] := by rw [List.getElem?_eq_getElem (by omega)] at hx; exact (Option.some.inj hx).symm
      rw [this]; exact List.mem_append_right _ List.mem_cons_self
    have hwk := hI.wf
    obtain ⟨o, ho, rfl⟩ := List.mem_map.1 (hwk.sub x hxq)
    have hbk := blk_of hwk.nd ho
    have hquk := hzk.qu hwk
    have hR := (hs.ow 1 rfl).rd
    have hu : (ptrs gp tb.qu)[k]? = some (.pointer (some ⟨gp o.x, 0, none⟩)) := by rw [List.getElem?_map, hx]; rfl
    have hkk : ((k + 1 : Nat) : Int) = (k : Int) + 1 := by omega
    refine wc_skip ?_; refine we_seq ?_; refine wc_seq ?_; refine wc_block ?_; refine wc_sr ?_; apply wl_elK (T := tyPO) (hr := hR) (hb := hu); exact rfl; exact rfl; exact rfl; exact rfl; exact rfl; intro _; refine wl_as rfl rfl ?_; refine wl_ns ?_; refine wc_sr ?_; refine wl_mv rfl rfl ?_; refine wl_mv rfl rfl ?_
    clear hR
    refine wl_call ok_lock_Table_blockers (blockers_any (hs.rdT 2 rfl) hwk ho hzk.os hquk fun o ho => by have := hzk.held o ho; omega) ⟨rfl, rfl, trivial⟩ rfl ?_
    rintro _ w3 ⟨R, cr, rfl, hsx⟩
    replace hs := (hs.call hsx).drop 0 rfl
    clear hsx
    dsimp only [List.cons_append, List.nil_append, delC] at hs
    have hbl : (bnames r.1 o).length = (blockers r.1 o).length := by rw [bnames, List.length_map]
    by_cases hz0 : (blockers r.1 o) = []
    · have hgo : goStep r o.x = (goOne r.1 o.x, r.2 ++ [o.x]) := by rw [goStep, hbk, hz0]; rfl
      rw [hgo] at hgk
      have h0' : ((bnames r.1 o).length : Int) = 0 := by rw [hbl, hz0]; rfl
      obtain ⟨pre, post, hpp⟩ := split_of ho
      have hho := hzk.held o ho
      have hTk := hs.rdT 2 rfl
      obtain ⟨A, c, B, d, Hh, hc, K, kc, hs⟩ := (hs.front 2 rfl).goOut hpp
      dsimp only [delC] at hs
      unfold owV at hs
      apply wl_val; apply opv_len; exact rfl; exact tyPO.sl; exact rfl; refine wl_bin rfl rfl bin_eql rfl ?_; refine wl_ns ?_; apply wc_decT; exact rfl; (with_reducible assumption); refine wc_seq ?_
      refine wc_heldL (fun w => Ar w (gp o.x) 82 [.int .u64 (o.x.1 : Int), .int .u64 (o.x.2 : Int), .slice Hh o.held.length hc, .slice K o.asks.length kc]) 10 mixed ?_
      replace hs := hs.below (Below.refl _ _).drew
      have hS := hs.ar 2 rfl
      apply wm_take 0; exact rfl; intro _ hw_; apply opv_move; exact rfl; exact rfl; kernel_rfl; exact hS; apply wm_take 1; exact rfl; intro _ hw_; apply opv_move; exact rfl; exact rfl; kernel_rfl; exact hS; apply wm_take 2; exact rfl; intro _ hw_; apply opv_nilOk; exact rfl; exact rfl; kernel_rfl; exact hS; apply wm_take 3; exact rfl; intro _ hw_; apply opv_fa; exact fa_O1; exact rfl; exact rfl; kernel_rfl; exact hS; apply wm_take 4; exact rfl; intro _ hw_; apply opv_ldX; exact rfl; assumption; exact e1_rgs; exact rfl; exact rfl; kernel_rfl; exact hS; apply wm_take 5; exact rfl; intro _ hw_; apply opv_move; exact rfl; exact rfl; kernel_rfl; exact hS; apply wm_take 6; exact rfl; intro _ hw_; apply opv_nilOk; exact rfl; exact rfl; kernel_rfl; exact hS; apply wm_take 7; exact rfl; intro _ hw_; apply opv_fa; exact fa_O2; exact rfl; exact rfl; kernel_rfl; exact hS; apply wm_take 8; exact rfl; intro _ hw_; apply opv_ldX; exact rfl; assumption; exact e1_rgs; exact rfl; exact rfl; kernel_rfl; exact hS
      refine wm_one 9 (by kernel_rfl) rfl ?_; dsimp only [List.getElem_toArray, List.getElem_cons_succ, List.getElem_cons_zero]
      refine ws_appG2 hs rfl tkR (by simp) rfl (by simp) (fun css w S h => rgR_one h) (by omega) (by simp only [maxLen]; omega) rfl ?_
      clear hs hS; intro H2 hc2 w4 hs
      refine wl_nil ?_
      refine we_heldM (fun _ => hs.ar 1 rfl) ?_
      refine wm_one 10 (by kernel_rfl) rfl ?_; dsimp only [List.getElem_toArray, List.getElem_cons_succ, List.getElem_cons_zero]
      apply wl_val; apply opv_nilOk; exact rfl; exact rfl; refine wl_nil ?_
      refine we_heldM (fun h => absurd h (by decide)) ?_
      refine wm_one 11 (by kernel_rfl) rfl ?_; dsimp only [List.getElem_toArray, List.getElem_cons_succ, List.getElem_cons_zero]
      apply wl_val; apply opv_fa; exact fa_O1; exact rfl; exact rfl; refine wl_nil ?_
      refine we_heldM (fun h => absurd h (by decide)) ?_
      refine wm_one 12 (by kernel_rfl) rfl ?_; dsimp only [List.getElem_toArray, List.getElem_cons_succ, List.getElem_cons_zero]
      apply ws_st hs 1; exact rfl; exact rfl; exact e1_rgs; exact rfl; exact rfl; exact rfl; clear hs; intro _ hs; dsimp only [setC, List.set] at hs; refine wl_nil ?_
      refine we_heldM (fun h => absurd h (by decide)) ?_
      refine wm_done (by kernel_rfl) ?_
      refine we_seq ?_; refine wc_sr ?_; refine wl_mv rfl rfl ?_; refine wl_mv rfl rfl ?_
      replace hs := ((hs.front 1 rfl).front 3 rfl).front 3 rfl
      dsimp only [delC] at hs
      have hblk : ∀ y ∈ r.1.qu, Blk _ (gp y) := fun y hy => by
        obtain ⟨p, hp, rfl⟩ := List.mem_map.1 (hwk.sub y hy)
        rw [hpp, List.mem_append, List.mem_cons] at hp
        rcases hp with hp | rfl | hp
        · exact hs.ownBlk 4 rfl p (List.mem_append_left _ hp)
        · exact ⟨_, _, hs.ar 2 rfl⟩
        · exact hs.ownBlk 4 rfl p (List.mem_append_right _ hp)
      obtain ⟨S2, hS2, _, _, _, hB⟩ := St.lend (H1 := [_, _, _]) (H2 := [_, _, _, _, _]) hs
      refine wl_call ok_lock_Table_leave (leave_low (q := r.1.qu) (x := o.x) (m := (goOne r.1 o.x).qu.length) hS2 hblk (fun y hy e => hTk.inj y (hwk.sub y hy) _ (List.mem_map_of_mem ho) e) hwk.qn rfl hquk) ⟨rfl, rfl, trivial⟩ rfl ?_
      rintro _ w5 ⟨rfl, hsx⟩
      replace hs := hB _ _ hsx
      clear hB hsx hS2 hblk
      dsimp only [List.cons_append, List.nil_append] at hs
      replace hs := St.goIn (tb := r.1) (o := o) hwk hpp rfl rfl hs
      have hT5 := hs.rdT 0 rfl
      have ho5 : (⟨o.x, o.held ++ o.asks, []⟩ : Ownr) ∈ (goOne r.1 o.x).os := mem_go.2 (.inr ⟨o, ho, rfl, rfl⟩)
      obtain ⟨H5, hc5, K5, kc5, a1, _⟩ := hT5.own _ ho5
      have i1 := ar_wiO a1
      dsimp only at i1
      replace hs := hs.front 1 rfl
      dsimp only [delC] at hs
      refine wl_ns ?_; refine wc_region ?_; refine wl_mv rfl rfl ?_; refine wl_mv rfl rfl ?_; apply wl_val; apply opv_nilOk; exact rfl; exact rfl; apply wl_val; apply opv_fa; exact fa_O0; exact rfl; exact rfl; apply wl_val; apply opv_ldG; exact rfl; assumption; exact sTx; exact rfl
      refine ws_pushR (cs := txV o.x) hs 0 (fun _ => rfl) rfl tkTx (by simp) ⟨_, rfl, rfl⟩ rfl rfl (by decide) (by omega) (by simp only [maxLen]; omega) rfl rfl ?_
      clear hs i1; intro _ P2 cp2 w6 hs; dsimp only [setC] at hs
      refine wl_as rfl rfl ?_; refine wl_nil ?_; refine we_block_norm ?_; refine we_seq ?_; refine wc_region ?_; apply wl_val; apply opv_bin; exact rfl; exact rfl; exact bin_add64 (by omega); exact rfl; refine wl_mv rfl rfl ?_; refine wl_nil ?_
      have e1 : txEls r.2 ++ [rawEl (txV o.x)] = txEls (r.2 ++ [o.x]) := by simp [txEls]
      rw [e1] at hs
      exact we_loop _ (tb.qu.length - (k + 1)) ⟨k + 1, P2, cp2, rfl, by omega, by rw [hgk]; exact (hs.front 2 rfl).front 1 rfl, rfl⟩ (by omega) ⟨rfl, rfl, rfl, by simp [lookT], by rw [hgk]; show some (Value.slice P2 (r.2.length + 1) cp2) = some (Value.slice P2 (r.2 ++ [o.x]).length cp2); rw [List.length_append]; rfl, trivial⟩
    · have hgo : goStep r o.x = r := by
        rw [goStep, hbk]
        cases hb : blockers r.1 o with
        | nil => exact absurd hb hz0
        | cons => rfl
      rw [hgo] at hgk
      have h0' : ¬ ((bnames r.1 o).length : Int) = 0 := by
        have := List.length_pos_iff.2 hz0
        omega
      apply wl_val; apply opv_len; exact rfl; exact tyPO.sl; exact rfl; refine wl_bin rfl rfl bin_eql rfl ?_; refine wl_ns ?_; apply wc_decF; exact rfl; (with_reducible assumption); refine wc_skip ?_; refine we_block_norm ?_; refine we_seq ?_; refine wc_region ?_; apply wl_val; apply opv_bin; exact rfl; exact rfl; exact bin_add64 (by omega); exact rfl; refine wl_mv rfl rfl ?_; refine wl_nil ?_
      exact we_loop _ (tb.qu.length - (k + 1)) ⟨k + 1, P, cp, rfl, by omega, by rw [hgk]; exact hs, rfl⟩ (by omega) ⟨rfl, rfl, rfl, by simp [lookT], by rw [hgk]; rfl, trivial⟩
  · obtain rfl : k = tb.qu.length := by omega
    have hgT : goK tb tb.qu.length = goT tb := by rw [goK, List.take_length]; rfl
    rw [hgT] at hs
    rw [hgT]
    refine wc_exit ?_; refine we_seq_exit ?_; refine we_loop_exit ?_; refine we_block_exit ?_; refine we_seq ?_; refine wc_sr ?_; refine wl_mv rfl rfl ?_; refine wl_as rfl rfl ?_; refine wl_ns ?_; refine wc_ret ?_
    exact we_ret1 rfl rfl ⟨_, rfl, P, cp, rfl, hs.drop 1 rfl⟩
end Go.Proofs.Ytmdbjeabifkimaa

/-
  Walks over IndexFunc, DeleteFunc and Release.
-/
namespace Go.Proofs.Ytmdbjeabifkimaa
open Go.RowKit

theorem rel1_any {p g g5 : Nat} {w : World} (ap : Blk w p) (ag : Blk w g) (a5 : Ar w g5 75 [pN g]) :
    CallsV Try.prog 40 #[pN p, .pointer (some ⟨g5, 0, none⟩)] w fun v w' => v = .bool (decide (p = g)) ∧ w' = w := by
  obtain ⟨T, cs, ap⟩ := ap
  obtain ⟨T', cs', ag⟩ := ag
  unfold pN at a5 ⊢
  refine calls_in (N := _) Try.func40 rfl Try.ntmps40 rfl ?_; show WC _ _ _ _ _ _
  refine wc_sr ?_; refine wl_as rfl rfl ?_; refine wl_ns ?_; refine wc_sr ?_; refine wl_mv rfl rfl ?_; apply wl_val; apply opv_ldX; exact rfl; assumption; exact e1_po; exact rfl; exact rfl
  refine wl_val (opv_eqPP rfl rfl ap ag) rfl ?_
  refine wl_as rfl rfl ?_; refine wl_ns ?_; refine wc_ret ?_
  exact we_ret1 rfl rfl ⟨_, rfl, rfl, rfl⟩
theorem indexF_any {A : Option Addr} {n c g g5 : Nat} {ps : List Nat} {w : World} (hr : Rd w A n (ps.map pN)) (hb : ∀ p ∈ ps, Blk w p) (hg : Blk w g) (a5 : Ar w g5 75 [pN g]) (hl : ps.length ≤ 4294967296) :
    CallsV Try.prog 66 #[.slice A n c, .func (.func 40) #[] #[.pointer (some ⟨g5, 0, none⟩)]] w fun v w' => v = .int .i64 (idxV ps g) ∧ w' = w := by
  obtain rfl : n = ps.length := by have := hr.1; simpa using this.symm
  refine calls_in (N := _) Try.func66 rfl Try.ntmps66 rfl ?_; show WC _ _ _ _ _ _
  refine wc_sr ?_; refine wl_as rfl rfl ?_; refine wl_ns ?_; refine wc_seq ?_; refine wc_sr ?_; refine wl_mv rfl rfl ?_; apply wl_val; apply opv_len; exact rfl; exact tyPO.sl; exact rfl; refine wl_mv rfl rfl ?_; refine wl_ns ?_; refine wc_block ?_
  refine wc_loop (fun L wr mm => ∃ k : Nat, L = [(0, .slice A ps.length c), (1, .func (.func 40) #[] #[.pointer (some ⟨g5, 0, none⟩)]), (7, .int .i64 (ps.length : Int)), (8, .int .i64 (k : Int))] ∧ k ≤ ps.length ∧ g ∉ ps.take k ∧ wr = w ∧ mm = ps.length - k)
    [(0, .slice A ps.length c), (1, .func (.func 40) #[] #[.pointer (some ⟨g5, 0, none⟩)]), (7, .int .i64 (ps.length : Int)), (8, .int .i64 (0 : Nat))] ps.length ⟨0, rfl, by omega, by simp, rfl, rfl⟩ ⟨rfl, rfl, rfl, rfl, trivial⟩ ?_
  rintro _ w1 mm ⟨k, rfl, hk, hnot, rfl, rfl⟩
  refine wc_sr ?_; refine wl_bin rfl rfl bin_lss rfl ?_; refine wl_ns ?_; refine wc_seq ?_
  refine wc_cond rfl (fun h1 => ?_) (fun h1 => ?_)
  · obtain ⟨p, hp⟩ : ∃ p, ps[k]? = some p := ⟨_, List.getElem?_eq_getElem (by omega)⟩
    have hu : (ps.map pN)[k]? = some (pN p) := by rw [List.getElem?_map, hp]; rfl
    have hbp := hb p (List.mem_of_getElem? hp)
    refine wc_skip ?_; refine we_seq ?_; refine wc_seq ?_; refine wc_block ?_; refine wc_sr ?_; refine wl_mv rfl rfl ?_; refine wl_as rfl rfl ?_; refine wl_ns ?_; refine wc_sr ?_; refine wl_mv rfl rfl ?_; refine wl_mv rfl rfl ?_; refine wl_mv rfl rfl ?_; apply wl_elK (T := tyPO) (hr := hr) (hb := hu); exact rfl; exact rfl; exact rfl; exact rfl; exact rfl; intro _
    refine wl_callF (vs := [pN p]) ok_lock_Table_Release_1 rfl (rel1_any hbp hg a5) ⟨rfl, trivial⟩ rfl ?_
    rintro _ _ ⟨rfl, rfl⟩
    by_cases h2 : p = g
    · refine wl_ns ?_; apply wc_decT; exact rfl; (with_reducible assumption); refine wc_sr ?_; refine wl_mv rfl rfl ?_; refine wl_as rfl rfl ?_; refine wl_ns ?_; refine wc_ret ?_; refine we_block_ret ?_; refine we_seq_ret ?_; refine we_loop_ret ?_; refine we_block_ret ?_; refine we_seq_ret ?_
      exact we_ret1 rfl rfl ⟨_, rfl, by rw [← h2, idxV, if_pos (List.mem_of_getElem? hp), idxOf_at hp (h2 ▸ hnot)], rfl⟩
    · refine wl_ns ?_; apply wc_decF; exact rfl; (with_reducible assumption); refine wc_skip ?_; refine we_block_norm ?_; refine we_seq ?_; refine wc_region ?_; apply wl_val; apply opv_bin; exact rfl; exact rfl; exact bin_add64 (by omega); exact rfl; refine wl_mv rfl rfl ?_; refine wl_nil ?_
      exact we_loop _ (ps.length - (k + 1)) ⟨k + 1, rfl, by omega, by rw [take_getR hp]; simpa [hnot] using fun h => h2 h.symm, rfl, rfl⟩ (by omega) ⟨rfl, rfl, rfl, by simp [lookT], trivial⟩
  · obtain rfl : k = ps.length := by omega
    rw [List.take_length] at hnot
    refine wc_exit ?_; refine we_seq_exit ?_; refine we_loop_exit ?_; refine we_block_exit ?_; refine we_seq ?_; refine wc_sr ?_; refine wl_as rfl rfl ?_; refine wl_ns ?_; refine wc_ret ?_
    exact we_ret1 rfl rfl ⟨_, rfl, by rw [idxV, if_neg hnot], rfl⟩
theorem delF_any {S : BS} {A : Option Addr} {n c g g5 : Nat} {ps : List Nat} {w : World} (h0 : Sat w [.ow 75 A n c (ps.map pN)] S) (hm : ∀ w', Mod S w w' → Ar w' g5 75 [pN g] ∧ ∀ p ∈ ps, Blk w' p) (hg : g ∈ ps) (hn : ps.Nodup) (hl : ps.length ≤ 1048576) :
    CallsV Try.prog 39 #[.slice A n c, .func (.func 40) #[] #[.pointer (some ⟨g5, 0, none⟩)]] w fun v w' => v = .slice A (n - 1) c ∧ St S w w' [.ow 75 A (n - 1) c ((ps.eraseIdx (ps.idxOf g)).map pN)] := by
  have hs := St.start h0
  obtain rfl : n = ps.length := by have := (hs.ow 0 rfl).len; simpa using this.symm
  obtain ⟨a50, hb0⟩ := hm w (Mod.refl _ _)
  have hi0 : idxV ps g = (ps.idxOf g : Int) := by rw [idxV, if_pos hg]
  have hi1 := List.idxOf_lt_length_of_mem hg
  have hat : ps[ps.idxOf g]? = some g := by rw [List.getElem?_eq_getElem hi1, List.getElem_idxOf]
  obtain ⟨i0, hid⟩ : ∃ i, ps.idxOf g = i := ⟨_, rfl⟩
  rw [hid] at hi0 hi1 hat
  rw [hid]
  have hne1 : ¬ (i0 : Int) = -1 := by omega
  refine calls_in (N := _) Try.func39 rfl Try.ntmps39 rfl ?_; show WC _ _ _ _ _ _
  refine wc_sr ?_; refine wl_as rfl rfl ?_; refine wl_ns ?_; refine wc_sr ?_; refine wl_mv rfl rfl ?_; refine wl_mv rfl rfl ?_
  refine wl_call ok_slices_IndexFunc_lock_owner_lock_owner (indexF_any (hs.ow 0 rfl).rd hb0 (hb0 g hg) a50 (by omega)) ⟨rfl, rfl, trivial⟩ rfl ?_
  rintro _ w0 ⟨rfl, e0⟩
  obtain rfl : w = w0 := e0.symm
  rw [hi0]
  refine wl_as rfl rfl ?_; refine wl_ns ?_; refine wc_seq ?_; refine wc_sr ?_; refine wl_mv rfl rfl ?_; refine wl_bin rfl rfl bin_eql rfl ?_; refine wl_ns ?_; apply wc_condFb; exact rfl; exact rfl; refine wc_skip ?_; refine we_seq ?_; refine wc_seq ?_; refine wc_sr ?_; refine wl_mv rfl rfl ?_; apply wl_val; apply opv_bin; exact rfl; exact rfl; exact bin_add64 (by omega); exact rfl; refine wl_as rfl rfl ?_; refine wl_ns ?_; refine wc_block ?_
  refine wc_loop (fun L wr mm => ∃ (i : Nat) (xs : List Value), L = [(0, .slice A ps.length c), (1, .func (.func 40) #[] #[.pointer (some ⟨g5, 0, none⟩)]), (5, .int .i64 (i : Int)), (6, .int .i64 ((i : Int) + 1))] ∧ i0 ≤ i ∧ i + 1 ≤ ps.length ∧ (∀ k, xs[k]? = if i0 ≤ k ∧ k < i then (ps.map pN)[k + 1]? else (ps.map pN)[k]?) ∧ St S w wr [.ow 75 A ps.length c xs] ∧ mm = ps.length - i)
    [(0, .slice A ps.length c), (1, .func (.func 40) #[] #[.pointer (some ⟨g5, 0, none⟩)]), (5, .int .i64 (i0 : Int)), (6, .int .i64 ((i0 : Int) + 1))] (ps.length - i0) ⟨i0, ps.map pN, rfl, Nat.le_refl _, hi1, fun k => by rw [if_neg (by omega)], hs, rfl⟩ ⟨rfl, rfl, rfl, rfl, trivial⟩ ?_
  clear hs a50 hb0
  rintro _ w1 mm ⟨i, xs, rfl, hii, hil, hxs, hs, rfl⟩
  obtain ⟨a5, hb⟩ := hm w1 hs.1
  refine wc_seq ?_; refine wc_sr ?_; refine wl_mv rfl rfl ?_; refine wl_mv rfl rfl ?_; apply wl_val; apply opv_len; exact rfl; exact tyPO.sl; exact rfl; refine wl_bin rfl rfl bin_lss rfl ?_; refine wl_ns ?_
  refine wc_cond rfl (fun h1 => ?_) (fun h1 => ?_)
  · obtain ⟨p, hp⟩ : ∃ p, ps[i + 1]? = some p := ⟨_, List.getElem?_eq_getElem (by omega)⟩
    have hu : xs[i + 1]? = some (pN p) := by rw [hxs, if_neg (by omega), List.getElem?_map, hp]; rfl
    have hpg : ¬ p = g := fun e => by
      subst e
      have h2 : ps[i + 1]'(by omega) = ps[i0]'hi1 := by
        have e1 := List.getElem?_eq_some_iff.1 hp
        have e2 := List.getElem?_eq_some_iff.1 hat
        rw [e1.2, e2.2]
      have := (List.getElem_inj hn).1 h2
      omega
    have hpm := List.mem_of_getElem? hp
    refine wc_skip ?_; refine we_seq ?_; refine wc_seq ?_; refine wc_block ?_; refine wc_sr ?_; refine wl_mv rfl rfl ?_; refine wl_mv rfl rfl ?_
    refine wl_elK (T := tyPO) (kk := i + 1) rfl rfl (hs.ow 0 rfl).rd (by omega) hu rfl rfl fun _ => ?_
    refine wl_as rfl rfl ?_; refine wl_ns ?_; refine wc_sr ?_; refine wl_mv rfl rfl ?_; refine wl_mv rfl rfl ?_
    refine wl_callF (vs := [pN p]) ok_lock_Table_Release_1 rfl (rel1_any (hb p hpm) (hb g hg) a5) ⟨rfl, trivial⟩ rfl ?_
    rintro _ w0 ⟨rfl, e0⟩
    obtain rfl : w1 = w0 := e0.symm
    have e2 : ((i + 1 : Nat) : Int) = (i : Int) + 1 := by omega
    apply wl_val; apply opv_notD; exact rfl; exact rfl; refine wl_ns ?_; apply wc_decT; exact rfl; (with_reducible assumption); refine wc_sr ?_; refine wl_mv rfl rfl ?_; refine wl_mv rfl rfl ?_; refine wl_mv rfl rfl ?_
    refine ws_set (kk := i) hs 0 rfl rfl tyPO rfl rfl (by omega) (fun _ => rfl) rfl rfl ?_
    clear hs; intro _ w2 hs; dsimp only [setC] at hs
    refine wl_ns ?_; refine wc_region ?_; refine wl_mv rfl rfl ?_; apply wl_val; apply opv_bin; exact rfl; exact rfl; exact bin_add64 (by omega); exact rfl; refine wl_as rfl rfl ?_; refine wl_nil ?_; refine we_block_norm ?_; refine we_seq ?_; refine wc_region ?_; refine wl_mv rfl rfl ?_; apply wl_val; apply opv_bin; exact rfl; exact rfl; exact bin_add64 (by omega); exact rfl; refine wl_as rfl rfl ?_; refine wl_nil ?_
    exact we_loop _ (ps.length - (i + 1)) ⟨i + 1, xs.set i (pN p), rfl, by omega, by omega, fun k => by
      have hxl : xs.length = ps.length := by have := (hs.ow 0 rfl).len; rw [List.length_set] at this; exact this
      rw [List.getElem?_set]
      by_cases hk : i = k
      · subst hk
        rw [if_pos rfl, if_pos (by omega), if_pos (by omega), List.getElem?_map, hp]; rfl
      · rw [if_neg hk, hxs]
        by_cases h2 : i0 ≤ k ∧ k < i
        · rw [if_pos h2, if_pos (by omega)]
        · rw [if_neg h2, if_neg (by omega)], hs, rfl⟩ (by omega) ⟨rfl, rfl, by rw [e2]; rfl, by rw [e2]; rfl, trivial⟩
  · have hin : i + 1 = ps.length := by omega
    obtain ⟨g', cs, rfl, hcl, hnc, hcm, htk, hs2⟩ : ∃ g cs, A = some ⟨g, 0, none⟩ ∧ cs.length = c ∧ ps.length ≤ c ∧ c ≤ maxLen ∧ cs.take ps.length = xs ∧ St S w w1 [.blk g 75 cs] := by
      obtain ⟨hm1, T, hT, hc, _⟩ := hs
      obtain ⟨g, cs, h1, h2, h3, h4, h5, h6⟩ := ow_blk hc (by omega)
      exact ⟨g, cs, h1, h2, h3, h4, h5, hm1, T, hT, h6, trivial⟩
    subst hcl
    replace hs := hs2
    refine wc_exit ?_; refine we_seq_exit ?_; refine we_loop_exit ?_; refine we_block_exit ?_; refine we_seq ?_; refine wc_sr ?_; refine wl_mv rfl rfl ?_; refine wl_mv rfl rfl ?_
    refine wl_sl (l := i) (h := ps.length) tyPO rfl ⟨_, rfl⟩ rfl (by omega) (by omega) rfl ?_
    rw [show ps.length - i = 1 by omega, cutA, if_neg (by omega)]
    refine ws_clear1 (k := i) (cs := cs) hs 0 rfl tyPO (congrArg (fun a => some (Value.slice (some a) _ _)) (by show (⟨g', 0, none⟩ : Addr).add _ = _; rw [Addr.add_lit, Nat.zero_add])) (by omega) ?_
    clear hs; intro w2 hs; dsimp only [setC] at hs
    refine wl_ns ?_; refine wc_sr ?_; refine wl_mv rfl rfl ?_; refine wl_mv rfl rfl ?_
    refine wl_sl (l := 0) (h := i) tyPO rfl rfl ⟨_, rfl⟩ (by omega) (by omega) rfl ?_
    rw [cutA_zero, Nat.sub_zero, Nat.sub_zero]
    refine wl_as rfl rfl ?_; refine wl_ns ?_; refine wc_ret ?_
    refine we_ret1 rfl rfl ⟨_, rfl, by rw [show ps.length - 1 = i by omega], ?_⟩
    have e5 : (cs.set i (.pointer none)).take i = (ps.eraseIdx i0).map pN := by
      rw [List.take_set_of_le (Nat.le_refl _)]
      apply List.ext_getElem?
      intro k
      have e6 : ∀ k, k < ps.length → cs[k]? = xs[k]? := fun k hk => by rw [← htk, List.getElem?_take, if_pos hk]
      rw [List.getElem?_take, List.getElem?_map, List.getElem?_eraseIdx]
      by_cases hk : k < i
      · rw [if_pos hk, e6 k (by omega), hxs]
        by_cases h2 : i0 ≤ k
        · rw [if_pos ⟨h2, hk⟩, if_neg (by omega), List.getElem?_map]
        · rw [if_neg (by omega), if_pos (by omega), List.getElem?_map]
      · rw [if_neg hk]
        split
        · omega
        · rw [List.getElem?_eq_none (by omega)]; rfl
    rw [← e5, show ps.length - 1 = i by omega]
    have e9 : (cs.set i (Value.pointer none)).length = cs.length := List.length_set
    rw [← e9]
    exact hs.map fun S h => h.mapC fun T h => blk_row h (by omega) (by omega)
theorem names_drop (tb : Tb) (x : Tx) : names (dropO tb x) = (names tb).filter fun y => !decide (y = x) := by
  unfold names dropO
  rw [List.filter_map]; rfl
theorem drop_split {tb : Tb} (hn : (names tb).Nodup) {pre post : List Ownr} {o : Ownr} (h : tb.os = pre ++ o :: post) : (dropO tb o.x).os = pre ++ post := by
  unfold names at hn
  rw [h, List.map_append, List.map_cons, List.nodup_append] at hn
  obtain ⟨_, h2, h3⟩ := hn
  obtain ⟨h4, _⟩ := List.nodup_cons.1 h2
  show tb.os.filter _ = _
  rw [h, List.filter_append, List.filter_cons]
  simp only [decide_true, Bool.not_true, Bool.false_eq_true, if_false]
  congr 1
  · exact List.filter_eq_self.2 fun p hp => by
      have : p.x ≠ o.x := h3 p.x (List.mem_map_of_mem hp) o.x (by simp)
      simpa using this
  · exact List.filter_eq_self.2 fun p hp => by
      have hm : p.x ∈ post.map (·.x) := List.mem_map_of_mem hp
      have : p.x ≠ o.x := fun e => h4 (e ▸ hm)
      simpa using this
theorem Sat.ownBlk {w : World} {gp : Tx → Nat} : ∀ {H : List Cd} {S : BS} {os : List Ownr} (i : Nat), Sat w H S → nthC H i = some (.ck (packC (ownCs gp os))) → ∀ p ∈ os, Blk w (gp p.x) := fun {H S os} i h hi p hp => by
  obtain ⟨T, _, hc, _⟩ := h.front hi
  obtain ⟨h1, _⟩ := ownCs_inj (show Sat w (ownCs gp os) T from hc)
  obtain ⟨Hh, hc, K, kc, h2, _⟩ := (h1 p hp).1
  exact ⟨_, _, h2⟩
theorem Sat.arAt {w : World} {H : List Cd} {S : BS} {g : Nat} {t : TypeId} {cs : List Value} (i : Nat) (h : Sat w H S) (hi : nthC H i = some (.blk g t cs)) : Ar w g t cs := by
  obtain ⟨T, _, hc, _⟩ := h.front hi
  exact hc.2
theorem Sz.leave {tb : Tb} (h : Sz tb) (x : Tx) : Sz (leaveT tb x) := ⟨by simpa [leaveT] using h.os, fun o ho => by
  rcases mem_leave.1 ho with ⟨h1, _⟩ | ⟨p, hp, _, rfl⟩
  · exact h.held o h1
  · have := h.held p hp
    simp only [List.length_nil]; omega⟩
theorem Sz.drop {tb : Tb} (h : Sz tb) (x : Tx) : Sz (dropO tb x) := ⟨Nat.le_trans (List.length_filter_le _ _) h.os, fun o ho => h.held o (List.mem_filter.1 ho).1⟩
theorem zeroPO : (Try.prog.info? 75).map (·.zero) = some (some (.pointer none)) := by kernel_rfl
theorem release_any {S : BS} {t : Nat} {gp : Tx → Nat} {tb : Tb} {x : Tx} {w : World} (h0 : Sat w [.ck (lkC t gp tb)] S) (hw : Wf tb) (hz : Sz tb) :
    CallsV Try.prog 13 #[pN t, .agg (txV x).toArray] w fun v w' => ∃ (P : Option Addr) (cp : Nat), v = .slice P (relT tb x).2.length cp ∧ St S w w' [.rg 2 30 P cp (txEls (relT tb x).2), .ck (lkC t gp (relT tb x).1)] := by
  have hs := St.start h0
  have hlo := hz.os
  unfold pN
  refine calls_in (N := _) Try.func13 rfl Try.ntmps13 rfl ?_; show WC _ _ _ _ _ _
  refine wc_sr ?_
  refine ws_box (cs := txV x) hs rfl rfl ?_; clear hs; intro g3 _ hs
  refine wl_as rfl rfl ?_; refine wl_ns ?_; refine wc_seq ?_; refine wc_sr ?_; refine wl_mv rfl rfl ?_; apply wl_val; apply opv_loadX; exact rfl; exact hs.ar 0 rfl; exact sTx; exact rfl
  refine wl_call ok_lock_Table_find (find_any (hs.rdT 1 rfl) (by omega)) ⟨rfl, rfl, trivial⟩ rfl ?_
  rintro _ w1 ⟨rfl, hbx⟩
  replace hs := hs.below hbx
  clear hbx
  by_cases hx : x ∈ names tb
  · rw [ptrO, if_pos hx]
    unfold pN
    refine wl_var1 zeroPO rfl e1_po (fun _ => rfl) rfl rfl fun g5 w2 hg5 a5 hbx => ?_
    replace hs := hs.newA hbx hg5 a5
    clear hbx hg5 a5
    refine wl_ns ?_; refine wc_sr ?_; apply wl_val; apply opv_ldX; exact rfl; exact hs.ar 0 rfl; exact e1_po; exact rfl; exact rfl; apply wl_val; apply opv_bin; exact rfl; exact rfl; exact bin_neqPtrNil tyPPO; exact rfl; refine wl_ns ?_; apply wc_condTb; exact rfl; exact rfl; refine wc_sr ?_; refine wl_mv rfl rfl ?_; apply wl_val; apply opv_ldX; exact rfl; exact hs.ar 0 rfl; exact e1_po; exact rfl; exact rfl
    obtain ⟨S2, hS2, _, _, _, hB⟩ := St.lend (H1 := [.ck (lkC t gp tb)]) (H2 := [_, _]) (hs.front 2 rfl)
    refine wl_call ok_lock_Table_leave (leave_any hS2 hw hz hx) ⟨rfl, rfl, trivial⟩ rfl ?_
    rintro _ w3 ⟨rfl, hsx⟩
    replace hs := hB _ _ hsx
    clear hB hsx hS2
    dsimp only [List.cons_append, List.nil_append] at hs
    have hwl := hw.leave x
    obtain ⟨tl, htl⟩ : ∃ q, leaveT tb x = q := ⟨_, rfl⟩
    have hzl : Sz tl := by rw [← htl]; exact hz.leave x
    have hnl : names tl = names tb := by rw [← htl, names_leave]
    have hxl : x ∈ names tl := by rw [hnl]; exact hx
    have hrel : relT tb x = goT (dropO tl x) := by rw [relT, if_pos hx, htl]
    have hwd : Wf (dropO tl x) := by rw [← htl]; exact hw.drop x
    have hzd := hzl.drop x
    rw [htl] at hs hwl
    have hTl := hs.rdT 0 rfl
    have hn2 : ((names tl).map gp).Nodup := List.pairwise_map.2 (List.Pairwise.imp_of_mem (fun ha hb hne e => hne (hTl.inj _ ha _ hb e)) hwl.nd)
    obtain ⟨A, c, B, d, hs⟩ := hs.lk
    unfold lkQ at hs
    dsimp only [List.cons_append, List.nil_append] at hs
    refine wl_ns ?_; refine wc_region ?_; refine wl_mv rfl rfl ?_; refine wl_mv rfl rfl ?_; apply wl_val; apply opv_nilOk; exact rfl; exact rfl; apply wl_val; apply opv_fa; exact fa_Tb0; exact rfl; exact rfl; apply wl_val; apply opv_ldX; exact rfl; exact hs.ar 0 rfl; exact e1_pos; exact rfl; exact rfl
    refine wl_val (opv_mkFunc (us := [.pointer (some ⟨g5, 0, none⟩)]) ⟨rfl, trivial⟩) rfl ?_
    obtain ⟨S2, hS2, _, _, hH, hB⟩ := St.lend (H1 := [_]) (H2 := [_, _, _, _, _]) (hs.front 1 rfl)
    rw [ptrs_map] at hS2
    refine wl_call ok_slices_DeleteFunc_lock_owner_lock_owner (delF_any (g := gp x) (g5 := g5) hS2 (fun w' hm => ⟨Sat.arAt 3 (hH w' hm) rfl, fun p hp => by
      obtain ⟨y, hy, rfl⟩ := List.mem_map.1 hp
      obtain ⟨q, hq, rfl⟩ := List.mem_map.1 hy
      exact Sat.ownBlk 2 (hH w' hm) rfl q hq⟩) (List.mem_map_of_mem hxl) hn2 (by rw [List.length_map, names_len]; exact hzl.os)) ⟨rfl, rfl, trivial⟩ rfl ?_
    rintro _ w4 ⟨rfl, hsx⟩
    replace hs := hB _ _ hsx
    clear hB hsx hS2 hH
    dsimp only [List.cons_append, List.nil_append, delC] at hs
    apply wl_val; apply opv_nilOk; exact rfl; exact rfl; apply wl_val; apply opv_fa; exact fa_Tb0; exact rfl; exact rfl; apply ws_st hs 1; exact rfl; exact rfl; exact e1_pos; exact rfl; exact rfl; exact rfl; clear hs; intro _ hs; dsimp only [setC, List.set] at hs; refine wl_ns ?_; refine wc_sr ?_; refine wl_mv rfl rfl ?_
    obtain ⟨o, ho, rfl⟩ := List.mem_map.1 hxl
    obtain ⟨pre, post, hpp⟩ := split_of ho
    have e1 : Cd.ck (packC (ownCs gp tl.os)) = .ck (packC (ownCs gp (pre ++ o :: post))) := by rw [hpp]
    rw [e1] at hs
    obtain ⟨Hh, hc, K, kc, hs⟩ := (hs.front 3 rfl).own
    unfold ownP at hs
    dsimp only [List.cons_append, List.nil_append, delC] at hs
    replace hs := ((((((hs.drop 0 rfl).drop 0 rfl).drop 0 rfl).front 3 rfl).front 2 rfl).front 3 rfl)
    dsimp only [delC] at hs
    obtain ⟨he, hlt⟩ := unq_erase hwl.nd hxl
    have e2 : (((names tl).map gp).eraseIdx (((names tl).map gp).idxOf (gp o.x))).map pN = ptrs gp (names (dropO tl o.x)) := by
      rw [idxOf_mapI fun y hy e => hTl.inj y hy _ hxl e, names_drop, he, ptrs, List.eraseIdx_eq_take_drop_succ, List.eraseIdx_eq_take_drop_succ]
      simp [List.map_take, List.map_drop]
      rfl
    have e3 : tl.os.length - 1 = (dropO tl o.x).os.length := by rw [drop_split hwl.nd hpp, hpp]; simp
    rw [e2, e3] at hs
    replace hs := St.lkMk (tb := dropO tl o.x) hs rfl rfl rfl rfl (by rw [drop_split hwl.nd hpp])
    obtain ⟨S2, hS2, _, _, _, hB⟩ := St.lend (H1 := [.ck (lkC t gp (dropO tl o.x))]) (H2 := [_, _]) hs
    refine wl_call ok_lock_Table_advance (advance_any hS2 hwd hzd) ⟨rfl, trivial⟩ rfl ?_
    rintro _ w5 ⟨P, cp, rfl, hsx⟩
    replace hs := hB _ _ hsx
    clear hB hsx hS2
    dsimp only [List.cons_append, List.nil_append] at hs
    rw [hrel]
    refine wl_as rfl rfl ?_; refine wl_ns ?_; refine wc_ret ?_
    exact we_ret1 rfl rfl ⟨_, rfl, P, cp, rfl, (hs.drop 2 rfl).drop 2 rfl⟩
  · have hrel : relT tb x = goT tb := by rw [relT, if_neg hx]
    rw [ptrO, if_neg hx, hrel]
    refine wl_var1 zeroPO rfl e1_po (fun _ => rfl) rfl rfl fun g5 w2 hg5 a5 hbx => ?_
    replace hs := hs.newA hbx hg5 a5
    clear hbx hg5 a5
    refine wl_ns ?_; refine wc_sr ?_; apply wl_val; apply opv_ldX; exact rfl; exact hs.ar 0 rfl; exact e1_po; exact rfl; exact rfl; apply wl_val; apply opv_bin; exact rfl; exact rfl; exact bin_neqNilNil tyPPO; exact rfl; refine wl_ns ?_; apply wc_condFb; exact rfl; exact rfl; refine wc_skip ?_; refine we_seq ?_; refine wc_sr ?_; refine wl_mv rfl rfl ?_
    obtain ⟨S2, hS2, _, _, _, hB⟩ := St.lend (H1 := [.ck (lkC t gp tb)]) (H2 := [_, _]) (hs.front 2 rfl)
    refine wl_call ok_lock_Table_advance (advance_any hS2 hw hz) ⟨rfl, trivial⟩ rfl ?_
    rintro _ w5 ⟨P, cp, rfl, hsx⟩
    replace hs := hB _ _ hsx
    clear hB hsx hS2
    dsimp only [List.cons_append, List.nil_append] at hs
    refine wl_as rfl rfl ?_; refine wl_ns ?_; refine wc_ret ?_
    exact we_ret1 rfl rfl ⟨_, rfl, P, cp, rfl, (hs.drop 2 rfl).drop 2 rfl⟩
end Go.Proofs.Ytmdbjeabifkimaa

/-
  Backward as an iterator; walk over victim.
-/
namespace Go.Proofs.Ytmdbjeabifkimaa
open Go.RowKit

section
variable {P : Program} {N n : Nat} {ro : Option Nat} {ops : Array Oper} {Q : Exit → Act → World → Prop} {L : FL} {w : World} {t : TypeId}
/-- An operation with deferred calls beneath. -/
theorem wlfd_unitN {ds : List Deferred} {op : Op} {ty : TypeId} {pos : String} {aft : Array Edge} {rest : List Oper} {w' : World} (hv : OpU P op ty L w w') (hnd : (match op with | .defer _ => false | _ => true) = true) {a : Act} (ha : Has N a L) (h : wpListIn (FF ro) n P ops Q rest { a with defers := ds } w') : wpListIn (FF ro) n P ops Q (⟨none, op, ty, pos, aft, none⟩ :: rest) { a with defers := ds } w := by
  unfold wpListIn
  rw [if_pos (by simp [Region.wanted])]
  refine ⟨fun f _ => FF_fn ro f, ?_⟩
  rw [Oper.semAt_eq _ _ _ (fun c hc => by simp only at hc; subst hc; simp at hnd), hv ({ a with defers := ds } : Act).eval _ (fun x u hx => ha.eval hx) rfl rfl]
  exact h
/-- A function with a range over a function leaves, its result in a cell. -/
theorem leave_cell {fn : Func} {R : Ending → World → Prop} {p g D : Nat} {v : Value} {tmps : Array Value} (hr : fn.results = #[.cell p t]) (hx : tmps.getD p undef = .pointer (some ⟨g, 0, none⟩)) (ha : Ar w g t [v]) (E : Cell1 P t) (hK : w.heap[D]? = some (.deferred (some [])))
    (h : R (.returned v) (w.putObj D (.deferred none))) : LeavesInM (FF ro) n P fn tmps R [{ target := .collected D, args := #[] }] .returning w := by
  refine ⟨by simp, .inl ⟨D, _, rfl, run_takeDeferred hK, v, ?_, h⟩⟩
  have hne : D ≠ g := fun e => by
    subst e
    rw [show w.heap[D]? = some (.cells [v].toArray t) from ha] at hK; cases hK
  have ha' : Ar (w.putObj D (.deferred none)) g t [v] := by
    unfold Ar
    rw [(grownBy_putObj' w D (.deferred none)).block g ha.lt (by simpa using Ne.symm hne)]
    exact ha
  have hc : (w.putObj D (.deferred none)).cell? ⟨g, 0, none⟩ = some v := by rw [ha'.cell]; rfl
  have e : tmps.getD p undef = .pointer (some ⟨g, 0, none⟩) := hx
  rw [Array.getD_eq_getD_getElem?] at e
  simp [results, hr, e, asAddr, loadVar, E.agg, hc]
end
abbrev OwX (tb : Tb) := { q : Nat × Ownr // tb.os[q.1]? = some q.2 }
def encX (gp : Tx → Nat) (tb : Tb) (q : OwX tb) : Array Value := #[.int .i64 (q.1.1 : Int), pN (gp q.1.2.x)]
theorem rev_take {n j : Nat} (h : j < n) : (List.range n).reverse.take (j + 1) = (List.range n).reverse.take j ++ [n - 1 - j] := by
  have : (List.range n).reverse[j]? = some (n - 1 - j) := by
    rw [List.getElem?_reverse (by simpa using h), List.length_range, List.getElem?_range (by omega)]
  exact take_getR this
theorem backward_stops {tb : Tb} {gp : Tx → Nat} {g1 m c : Nat} {A : Option Addr} {w : World} (a1 : Ar w g1 45 [.slice A tb.os.length c]) (hr : Rd w A tb.os.length (ptrs gp (names tb))) (hl : tb.os.length ≤ 1048576) :
    SeqStopsK (FF none) m Try.prog 79 #[.pointer (some ⟨g1, 0, none⟩)] (encX gp tb) (Below w.heap.size) (fun xs => xs.map (·.1.1) = (List.range tb.os.length).reverse) (fun pre => ∃ j, j ≤ tb.os.length ∧ pre.map (·.1.1) = (List.range tb.os.length).reverse.take j) tb.os.length w := by
  intro l J Jx W hW hJ hJx hY h0
  have hK : ¬ LetsOut (bodyPostM (FF none) m Try.prog Try.f79 fun e W' => (∃ v, e = Ending.returned v) ∧ ((∃ xs : List (OwX tb), xs.map (·.1.1) = (List.range tb.os.length).reverse ∧ J xs W') ∨ (∃ pre : List (OwX tb), (∃ j, j ≤ tb.os.length ∧ pre.map (·.1.1) = (List.range tb.os.length).reverse.take j) ∧ Jx pre W'))) := fun ⟨a, w, h⟩ => by
    obtain ⟨⟨v, hv⟩, _⟩ := h; cases hv
  have hW0 := hW.size
  refine callsIn_in (N := _) (args := [.func (.yield l) #[] #[], .pointer (some ⟨g1, 0, none⟩)]) Try.func79 rfl Try.ntmps79 rfl ?_
  show WF _ _ _ _ _ _ _ _
  refine wf_seq (wf_region (wlf_of hK (by kernel_rfl) ?_))
  have a2 := a1.bel hW
  apply wl_val; apply opv_ldX; exact rfl; assumption; exact e1_pos; exact rfl; exact rfl; apply wl_val; apply opv_len; exact rfl; exact tyPO.sl; exact rfl; apply wl_val; apply opv_bin; exact rfl; exact rfl; exact bin_sub64 (by omega); exact rfl; refine wl_as rfl rfl ?_; refine wl_nil ?_
  refine we_seqF (wf_block (wf_loop (fun L wr mm => ∃ (j : Nat) (pre : List (OwX tb)), L = [(0, .func (.yield l) #[] #[]), (1, .pointer (some ⟨g1, 0, none⟩)), (3, .int .i64 ((tb.os.length : Int) - 1 - (j : Int)))] ∧ j ≤ tb.os.length ∧ pre.map (·.1.1) = (List.range tb.os.length).reverse.take j ∧ J pre wr ∧ Below w.heap.size w wr ∧ mm = tb.os.length - j)
    [(0, .func (.yield l) #[] #[]), (1, .pointer (some ⟨g1, 0, none⟩)), (3, .int .i64 ((tb.os.length : Int) - 1))] tb.os.length ⟨0, [], by simp, by omega, by simp, h0, hW, rfl⟩ ⟨rfl, rfl, rfl, trivial⟩ ?_))
  clear a2
  rintro _ wr mm ⟨j, pre, rfl, hj, hpre, hJp, hb, rfl⟩
  have a2 := a1.bel hb
  have hr2 := hr.below hb
  refine wf_seq (wf_seq (wf_region (wlf_of hK (by kernel_rfl) ?_)))
  refine wl_mv rfl rfl ?_; refine wl_bin rfl rfl bin_geq rfl ?_; refine wl_nil ?_
  refine we_seqF ?_
  by_cases hjn : j < tb.os.length
  · refine wf_condTb rfl (decide_eq_true (by omega)) (wf_skip (we_seqF (wf_seq (wf_block (wf_seq (wf_region ?_))))))
    obtain ⟨o, ho⟩ : ∃ o, tb.os[tb.os.length - 1 - j]? = some o := ⟨_, List.getElem?_eq_getElem (by omega)⟩
    have hu : (ptrs gp (names tb))[tb.os.length - 1 - j]? = some (pN (gp o.x)) := by rw [List.getElem?_map, names_get ho]; rfl
    have hlen : pre.length = j := by
      have := congrArg List.length hpre
      simpa [hj] using this
    have e1 : (tb.os.length : Int) - 1 - (j : Int) = ((tb.os.length - 1 - j : Nat) : Int) := by omega
    have hy := hY pre ⟨(tb.os.length - 1 - j, o), ho⟩ wr hJp (by omega)
    unfold encX at hy
    dsimp only at hy
    rw [← e1] at hy
    refine wlf_val (opv_move rfl) rfl rfl (wlf_val (opv_move rfl) rfl rfl (wlf_val (opv_ldX rfl a2 e1_pos rfl) rfl rfl (wlf_val (opv_move rfl) rfl rfl (wlf_val (opv_idxR tyPO rfl rfl hr2 e1 hu) rfl rfl (wlf_val (opv_loadR tyPO rfl hr2 hu) rfl rfl (wlf_yield (vs := [.int .i64 ((tb.os.length : Int) - 1 - (j : Int)), pN (gp o.x)]) rfl ⟨rfl, rfl, trivial⟩ hy rfl ?_))))))
    rintro e w2 (⟨rfl, hJ2, hk2⟩ | ⟨rfl, hJx2⟩)
    · refine ⟨_, rfl, wlf_val (opv_not rfl) rfl rfl (wlf_nil (we_seqF (wf_condFb rfl rfl (wf_skip (we_block_norm (we_seqF (wf_region (wlf_of hK (by kernel_rfl) ?_))))))))⟩
      refine wl_mv rfl rfl ?_; apply wl_val; apply opv_bin; exact rfl; exact rfl; exact bin_sub64 (by omega); exact rfl; refine wl_as rfl rfl ?_; refine wl_nil ?_
      refine we_loop [(0, .func (.yield l) #[] #[]), (1, .pointer (some ⟨g1, 0, none⟩)), (3, .int .i64 ((tb.os.length : Int) - 1 - ((j + 1 : Nat) : Int)))] (tb.os.length - (j + 1)) ⟨j + 1, pre ++ [⟨(tb.os.length - 1 - j, o), ho⟩], rfl, by omega, by rw [List.map_append, hpre, rev_take hjn]; rfl, hJ2, hb.trans hk2, rfl⟩ (by omega) ⟨rfl, rfl, congrArg (fun z : Int => some (Value.int .i64 z)) (show (tb.os.length : Int) - 1 - (j : Int) - 1 = (tb.os.length : Int) - 1 - ((j + 1 : Nat) : Int) by omega), trivial⟩
    · refine ⟨_, rfl, wlf_val (opv_not rfl) rfl rfl (wlf_nil (we_seqF (wf_condTb rfl rfl (wf_ret (we_block_ret (we_seqF_ret (we_loop_ret (we_block_ret ?_))))))))⟩
      exact fun a ha => by
        show LeavesInM _ _ _ _ _ _ _ _ _
        rw [ha.nodefer]
        exact ⟨_, results_none rfl a.tmps _ _, ⟨_, rfl⟩, .inr ⟨pre ++ [⟨(tb.os.length - 1 - j, o), ho⟩], ⟨j + 1, by omega, by rw [List.map_append, hpre, rev_take hjn]; rfl⟩, hJx2⟩⟩
  · obtain rfl : j = tb.os.length := by omega
    refine wf_condFb rfl (decide_eq_false (by omega)) (wf_exit (we_seqF_exit (we_loop_exit (we_block_exit ?_))))
    exact fun a ha => by
      show LeavesInM _ _ _ _ _ _ _ _ _
      rw [ha.nodefer]
      exact ⟨_, results_none rfl a.tmps _ _, ⟨_, rfl⟩, .inl ⟨pre, by dsimp only; rw [hpre, List.take_of_length_le (by simp)], hJp⟩⟩
theorem ws_box1 {P : Program} {N : Nat} {ops : Array Oper} {Q : Exit → Act → World → Prop} {rest : List Oper} {L : FL} {w0 w : World} {M : BS} {H : List Cd} {t : TypeId} {u : Value} {d : Nat} {x : Operand} {ty : TypeId} {pos : String} {aft : Array Edge} (hs : St M w0 w H) (hx : look L x = some u) (h1 : u.oneCell' = true) (hd : Nat.blt d N = true)
    (h : ∀ g w', St M w0 w' (.blk g t [u] :: H) → WL P N ops Q rest ((d, .pointer (some ⟨g, 0, none⟩)) :: L) w') :
    WL P N ops Q (⟨some d, .box t x, ty, pos, aft, none⟩ :: rest) L w := by
  refine wl_val (opv_box hx) hd ?_
  rw [cells_one h1]
  exact h _ _ (hs.newA ((Below.refl _ _).alloc (Nat.le_refl _) _) (Nat.le_refl _) (Ar.new w t [u]))
theorem backward_any {A : Option Addr} {n c : Nat} {w : World} :
    CallsV Try.prog 71 #[.slice A n c] w fun v w' => ∃ g, v = .func (.func 79) #[] #[.pointer (some ⟨g, 0, none⟩)] ∧ St NoB w w' [.blk g 45 [.slice A n c]] := by
  have hs := St.init w
  refine calls_in (N := _) Try.func71 rfl Try.ntmps71 rfl ?_; show WC _ _ _ _ _ _
  refine wc_sr ?_
  refine ws_box1 hs rfl rfl rfl ?_
  clear hs; intro g w1 hs
  refine wl_as rfl rfl ?_; refine wl_ns ?_; refine wc_sr ?_
  refine wl_val (opv_mkFunc (us := [.pointer (some ⟨g, 0, none⟩)]) ⟨rfl, trivial⟩) rfl ?_
  refine wl_as rfl rfl ?_; refine wl_ns ?_; refine wc_ret ?_
  exact we_ret1 rfl rfl ⟨_, rfl, g, rfl, hs⟩
theorem wlx_val {P : Program} {N n : Nat} {ro : Option Nat} {ops : Array Oper} {Q : Exit → Act → World → Prop} {rest : List Oper} {L : FL} {w w' : World} {a : Act} {d : Nat} {op : Op} {ty : TypeId} {pos : String} {aft : Array Edge} {v : Value} (ha : Has N a L) (hv : OpV P op ty L w v w') (hnd : (match op with | .defer _ => false | _ => true) = true)
    (h : wpListIn (FF ro) n P ops Q rest (a.put (some d) v) w') : wpListIn (FF ro) n P ops Q (⟨some d, op, ty, pos, aft, none⟩ :: rest) a w := by
  unfold wpListIn
  rw [if_pos (by simp [Region.wanted])]
  refine ⟨fun f _ => FF_fn ro f, ?_⟩
  rw [Oper.semAt_eq _ _ _ (fun c hc => by simp only at hc; subst hc; simp at hnd), hv a.eval _ (fun x u hx => ha.eval hx) rfl rfl]
  exact h
theorem keeps_below {W W' : World} (h : Below W.heap.size W W') : KeepsOthers W W' := ⟨h.size, fun k o hk _ => (h.block k (Array.getElem?_eq_some_iff.1 hk).1).trans hk⟩
theorem keeps_gr {W W' : World} {g : Nat} {t : TypeId} {cs : List Value} (h : Gr W W' (some ⟨g, 0, none⟩)) (ha : Ar W g t cs) : KeepsOthers W W' := KeepsOthers.of_grownBy h fun j o hj ho => by
  cases hj
  rw [show W.heap[g]? = some (.cells cs.toArray t) from ha] at ho
  cases ho; rfl
open Classical in
theorem victim_eq_none {tb : Tb} (h : ∀ o ∈ tb.os, ¬ Circ tb o.x) : victim tb = none := by
  unfold victim
  rw [Option.map_eq_none_iff, List.find?_eq_none]
  intro o ho
  simpa using h o (by simpa using ho)
open Classical in
theorem victim_eq_some {tb : Tb} {m : Nat} {o : Ownr} (hm : m < tb.os.length) (ho : tb.os[tb.os.length - 1 - m]? = some o) (hc : Circ tb o.x) (h : ∀ j, j < m → ∀ p, tb.os[tb.os.length - 1 - j]? = some p → ¬ Circ tb p.x) : victim tb = some o.x := by
  unfold victim
  have hr : ∀ j, j < tb.os.length → tb.os.reverse[j]? = tb.os[tb.os.length - 1 - j]? := fun j hj => List.getElem?_reverse hj
  have : tb.os.reverse.find? (fun o => decide (Circ tb o.x)) = some o := by
    rw [List.find?_eq_some_iff_append]
    refine ⟨by simpa using hc, tb.os.reverse.take m, tb.os.reverse.drop (m + 1), ?_, fun a ha => ?_⟩
    · have h1 : tb.os.reverse[m]? = some o := (hr m hm).trans ho
      have h2 := List.getElem?_eq_some_iff.1 h1
      rw [← h2.2, List.getElem_cons_drop, List.take_append_drop]
    · obtain ⟨j, hj⟩ := List.mem_iff_getElem?.1 ha
      have hjm : j < m := by
        have := (List.getElem?_eq_some_iff.1 hj).1
        rw [List.length_take] at this; omega
      rw [List.getElem?_take_of_lt hjm, hr j (by omega)] at hj
      simpa using h j hjm a hj
  rw [this]; rfl
/-- The address of the one that gives way, if there is one. -/
noncomputable def vicV (gp : Tx → Nat) (tb : Tb) : Value := match victim tb with
  | some x => pN (gp x)
  | none => .pointer none
theorem victim_any {t : Nat} {gp : Tx → Nat} {tb : Tb} {w : World} (hT : RdT w t gp tb) (hw : Wf tb) (hz : Sz tb) :
    CallsV Try.prog 46 #[pN t] w fun v w' => v = vicV gp tb ∧ Below w.heap.size w w' := by
  have hs := St.init w
  have hlo := hz.os
  have hqu := hz.qu hw
  refine (callsIn_wide (n := 10)).1 ?_
  have hK : ¬ LetsOut (bodyPostM (FF none) 10 Try.prog Try.f46 fun e w' => ∃ v, e = Ending.returned v ∧ (v = vicV gp tb ∧ Below w.heap.size w w')) := fun ⟨a, w, h⟩ => by
    obtain ⟨v, hv, _⟩ := h; cases hv
  refine callsIn_in (N := _) (args := [pN t]) Try.func46 rfl Try.ntmps46 rfl ?_
  show WF _ _ _ _ _ _ _ _
  unfold pN
  refine wf_seq (wf_region (wlf_of hK (by kernel_rfl) ?_))
  refine ws_box1 hs rfl rfl rfl ?_
  clear hs; intro g1 w1 hs
  refine ws_new1 hs zeroPO rfl rfl ?_; clear hs; intro g2 _ hs
  refine wl_nil ?_
  refine we_seqF (wf_seq (wf_seq (wf_region (wlf_of hK (by kernel_rfl) ?_))))
  obtain ⟨A, c, B, d, h1, h2, h3, h4, h5⟩ := (hT.below hs.bel).tab
  apply wl_val; apply opv_ldX; exact rfl; exact hs.ar 1 rfl; exact e1_pt; exact rfl; exact rfl; apply wl_val; apply opv_nilOk; exact rfl; exact rfl; apply wl_val; apply opv_fa; exact fa_Tb0; exact rfl; exact rfl; apply wl_val; apply opv_ldX; exact rfl; assumption; exact e1_pos; exact rfl; exact rfl
  refine wl_call ok_slices_Backward_lock_owner_lock_owner backward_any ⟨rfl, trivial⟩ rfl ?_
  rintro _ w3 ⟨g9, rfl, hsx⟩
  have hb13 := hsx.bel
  replace hs := hs.call hsx
  clear hsx
  dsimp only [List.cons_append, List.nil_append] at hs
  refine wl_nil ?_
  refine we_seqF (wf_block ?_)
  intro a ha
  have hg2 : w.heap.size ≤ g2 := hs.new_lt 1 rfl
  have a1 := hs.ar 2 rfl
  have a2 := hs.ar 1 rfl
  have a9 := hs.ar 0 rfl
  replace h2 := h2.below hb13
  have hbw := hs.bel
  have hD : ∀ {W : World} {D : Nat} {cs : List Value} {t : TypeId}, Ar W g2 t cs → W.heap[D]? = some (.deferred (some [])) → D ≠ g2 := fun {W D cs t} ha hk e => by
    subst e
    rw [show W.heap[D]? = some (.cells cs.toArray t) from ha] at hk; cases hk
  refine wpIn_rangeFunc_ownF (F := FF none) rfl (by decide) (gf := 79) (lb := #[.pointer (some ⟨g9, 0, none⟩)]) (ha.eval rfl) (FF_fn none _) (fun args w => ok_slices_Backward_lock_owner_lock_owner_1 args w) (encs := encX gp tb) (backward_stops (m := 10 - 1) a9 h2 hlo) belowK_t (belowK_b (Nat.le_refl _)) (Below.refl _ _) (fun _ => rfl)
    (fun pre W => Ar W g1 24 [.pointer (some ⟨t, 0, none⟩)] ∧ Ar W g2 75 [.pointer none] ∧ Below w.heap.size w W ∧ w3.heap.size ≤ W.heap.size ∧ ∀ q ∈ pre, ¬ Circ tb q.1.2.x)
    (fun c pre W => c = .ret ∧ Below w.heap.size w W ∧ ∃ pre' q, pre = pre' ++ [q] ∧ Circ tb q.1.2.x ∧ (∀ p ∈ pre', ¬ Circ tb p.1.2.x) ∧ Ar W g2 75 [pN (gp q.1.2.x)])
    (OwnFrom.and ownFrom_cells (OwnFrom.and ownFrom_cells (OwnFrom.and (ownFrom_below (Nat.le_refl _) hs.size) fun s W W' row hs hg _ => ⟨Nat.le_trans hs.1 (World.grownBy.size hg), hs.2⟩)))
    (fun c s W W' row hs hg hr => ⟨hs.1, ownFrom_below (β := Unit) (Nat.le_refl _) hbw.size () W W' row hs.2.1 hg hr, by
      obtain ⟨pre', q, e1, e2, e3, e4⟩ := hs.2.2
      exact ⟨pre', q, e1, e2, e3, ownFrom_cells (β := Unit) () W W' row e4 hg hr⟩⟩)
    ⟨a1, a2, hbw, Nat.le_refl _, by simp⟩
    (fun q => ((a.put (some 10) (.int .i64 (q.1.1 : Int))).put (some 11) (pN (gp q.1.2.x))).put (some 4) (pN (gp q.1.2.x))) ?assign ?body ?done ?stop
  case assign =>
    intro l q W K hK
    have ha1 := (ha.put (d := 10) rfl (.int .i64 (q.1.1 : Int))).put (d := 11) rfl (pN (gp q.1.2.x))
    have e : ({ tmps := (Array.zip #[10, 11] (encX gp tb q)).foldl (fun t (p, v) => t.setIfInBounds p v) a.tmps, defers := [] } : Act) = (a.put (some 10) (.int .i64 (q.1.1 : Int))).put (some 11) (pN (gp q.1.2.x)) := by
      have := ha.nodefer
      cases a
      simp only at this
      subst this
      simp [Act.put, encX]
    rw [e]
    exact wpIn_region_lit (F := FF (some l)) (wlx_val (ro := some l) ha1 (opv_assign rfl) rfl hK)
  case body =>
    rintro l pre q W ⟨b1, b2, hb, hsz, hnc⟩ hlt
    have hqm : q.1.2 ∈ tb.os := List.mem_of_getElem? q.2
    have hqn : q.1.2.x ∈ names tb := List.mem_map_of_mem hqm
    have hO : ¬ LetsOut (ownPostK (Below w3.heap.size) (fun pre W => Ar W g1 24 [.pointer (some ⟨t, 0, none⟩)] ∧ Ar W g2 75 [.pointer none] ∧ Below w.heap.size w W ∧ w3.heap.size ≤ W.heap.size ∧ ∀ q ∈ pre, ¬ Circ tb q.1.2.x) (fun c (pre : List (OwX tb)) W => c = .ret ∧ Below w.heap.size w W ∧ ∃ pre' q, pre = pre' ++ [q] ∧ Circ tb q.1.2.x ∧ (∀ p ∈ pre', ¬ Circ tb p.1.2.x) ∧ Ar W g2 75 [pN (gp q.1.2.x)]) (pre ++ [q]) W) := fun ⟨a, w, h⟩ => h
    refine (?_ : WF (some l) _ _ _ _ _ _ _) _ (((ha.put (d := 10) rfl (.int .i64 (q.1.1 : Int))).put (d := 11) rfl (pN (gp q.1.2.x))).put (d := 4) rfl (pN (gp q.1.2.x)))
    have hTW := hT.below hb
    refine wf_block (wf_seq (wf_region (wlf_of hO (by kernel_rfl) ?_)))
    unfold pN
    apply wl_val; apply opv_ldX; exact rfl; assumption; exact e1_pt; exact rfl; exact rfl; refine wl_mv rfl rfl ?_
    refine wl_call ok_lock_Table_waits (waits_any hTW hw hqn (by omega)) ⟨rfl, rfl, trivial⟩ rfl ?_
    rintro _ W0 ⟨rfl, e0⟩
    obtain rfl : W = W0 := e0.symm
    have hnc2 : ¬ Circ tb q.1.2.x → ∀ p ∈ pre ++ [q], ¬ Circ tb p.1.2.x := fun h p hp => by
      rcases List.mem_append.1 hp with hp | hp
      · exact hnc p hp
      · rw [List.mem_singleton] at hp; rw [hp]; exact h
    by_cases hqq : q.1.2.x ∈ tb.qu
    · refine wl_mv rfl rfl ?_; apply wl_take; exact rfl; exact rfl; exact rfl; refine bT ?_; (with_reducible assumption); apply wl_val; apply opv_ldX; exact rfl; assumption; exact e1_pt; exact rfl; exact rfl; apply wl_take; exact rfl; exact rfl; exact rfl; refine bT ?_; (with_reducible assumption); refine wl_mv rfl rfl ?_; apply wl_take; exact rfl; exact rfl; exact rfl; refine bT ?_; (with_reducible assumption)
      refine wl_call ok_lock_Table_circle (circle_any hTW hw hz hqn) ⟨rfl, rfl, trivial⟩ rfl ?_
      rintro _ W1 ⟨⟨b, rfl, hbc⟩, hb1⟩
      have hb2 := hb.trans (hb1.mono hb.size)
      have b1' := b1.bel hb1
      have b2' := b2.bel hb1
      cases b with
      | true =>
        apply wl_val; apply opv_pickT; exact rfl; refine bT ?_; (with_reducible assumption); exact rfl; exact rfl; refine wl_nil ?_
        refine we_seqF (wf_condTb rfl rfl (wf_seq (wf_region (wlf_of hO (by kernel_rfl) ?_))))
        refine wl_mv rfl rfl ?_
        refine wl_stA e1_po b2' rfl (by decide) rfl rfl fun W2 b3 hg _ => ?_
        refine wl_nil ?_
        refine we_seqF (wf_ret (we_block_ret ?_))
        exact fun a ha => ⟨(keeps_below hb1).trans (keeps_gr hg b2'), rfl, Gr.belowA hg hb2 hg2 hb2.size, pre, q, rfl, hbc.1 rfl, hnc, b3⟩
      | false =>
        apply wl_val; apply opv_pickT; exact rfl; refine bT ?_; (with_reducible assumption); exact rfl; exact rfl; refine wl_nil ?_
        refine we_seqF (wf_condFb rfl rfl (wf_skip (we_block_norm ?_)))
        exact fun a ha => ⟨keeps_below hb1, hb1.mono hsz, b1', b2', hb2, Nat.le_trans hsz hb1.size, hnc2 fun h => by have := hbc.2 h; cases this⟩
    · refine wl_mv rfl rfl ?_; apply wl_skip; exact rfl; exact rfl; exact rfl; refine bFn ?_; (with_reducible assumption); exact rfl; apply wl_skip; exact rfl; exact rfl; exact rfl; refine bFn ?_; (with_reducible assumption); exact rfl; apply wl_skip; exact rfl; exact rfl; exact rfl; refine bFn ?_; (with_reducible assumption); exact rfl; apply wl_val; apply opv_pickF; exact rfl; refine bF ?_; (with_reducible assumption); exact rfl; exact rfl; refine wl_nil ?_
      refine we_seqF (wf_condFb rfl rfl (wf_skip (we_block_norm ?_)))
      exact fun a ha => ⟨KeepsOthers.refl _, Below.refl _ _, b1, b2, hb, hsz, hnc2 fun h => hqq (circ_qu h)⟩
  case done =>
    rintro D xs W hDs hS ⟨b1, b2, hb, hsz, hnc⟩ hKD
    have hv : victim tb = none := victim_eq_none fun o ho => by
      obtain ⟨i, hi⟩ := List.mem_iff_getElem?.1 ho
      have hlt := (List.getElem?_eq_some_iff.1 hi).1
      have hm : i ∈ xs.map (·.1.1) := by rw [show xs.map (·.1.1) = (List.range tb.os.length).reverse from hS]; simpa using hlt
      obtain ⟨q, hq, rfl⟩ := List.mem_map.1 hm
      have := q.2
      rw [hi] at this
      cases this
      exact hnc q hq
    have hg := gr_setCell (w := W) (g := g2) (k := 0) (u := .pointer none)
    have b3 := b2.setCell 0 (.pointer none)
    have hKD' : (W.setCell ⟨g2, 0, none⟩ (.pointer none)).heap[D]? = some (.deferred (some [])) := by
      rw [hg.block D (Array.getElem?_eq_some_iff.1 hKD).1 (by simpa using hD b2 hKD)]; exact hKD
    have hb3 := Gr.belowA hg hb hg2 hb.size
    show Code.wpIn (FF none) 10 _ _ _ _ _
    refine wpIn_seq (wpIn_region_lit (wlfd_unitN (ro := none) (opu_storeC e1_po rfl rfl rfl (v := .pointer none) (b2.cell 0) (b2.frozen 0)) rfl ha (wpListIn_nil (wpIn_ret ?_))))
    show LeavesInM (FF none) 10 _ _ a.tmps _ (_ :: a.defers) .returning _
    rw [ha.nodefer]
    exact leave_cell (ro := none) rfl (ha.get 2 _ rfl) b3 e1_po hKD' ⟨_, rfl, by rw [vicV, hv], hb3.trans (belowK_b (w := w3) hs.size _ D _ _ hDs hKD' rfl rfl)⟩
  case stop =>
    rintro D c pre W hDs ⟨j, hj, hmap⟩ ⟨rfl, hb, pre', q, rfl, hcq, hnc, b2⟩ hKD
    have hlen : pre'.length + 1 = j := by
      have := congrArg List.length hmap
      simpa [hj] using this
    have hat : ∀ i p, (pre' ++ [q])[i]? = some p → p.1.1 = tb.os.length - 1 - i := fun i p hp => by
      have h1 : ((pre' ++ [q]).map (·.1.1))[i]? = some p.1.1 := by rw [List.getElem?_map, hp]; rfl
      have hi : i < j := by
        have := (List.getElem?_eq_some_iff.1 hp).1
        simp at this; omega
      rw [show (pre' ++ [q]).map (·.1.1) = _ from hmap, List.getElem?_take_of_lt hi, List.getElem?_reverse (by simp; omega), List.length_range, List.getElem?_range (by omega)] at h1
      exact (Option.some.inj h1).symm
    have hv : victim tb = some q.1.2.x := victim_eq_some (m := pre'.length) (by omega) (by
      have := q.2
      rwa [hat pre'.length q (by simp)] at this) hcq fun i hi p hp => by
      have h1 : (pre' ++ [q])[i]? = some pre'[i] := by rw [List.getElem?_append_left hi, List.getElem?_eq_getElem hi]
      have h2 := (pre'[i]).2
      rw [hat i _ h1, hp] at h2
      cases h2
      exact hnc _ (List.getElem_mem hi)
    refine wpIn_ret ?_
    show LeavesInM (FF none) 10 _ _ a.tmps _ (_ :: a.defers) .returning _
    rw [ha.nodefer]
    exact leave_cell (ro := none) rfl (ha.get 2 _ rfl) b2 e1_po hKD ⟨_, rfl, by rw [vicV, hv], hb.trans (belowK_b (w := w3) hs.size _ D _ _ hDs hKD rfl rfl)⟩
end Go.Proofs.Ytmdbjeabifkimaa

/-
  Asking, as a plain law; walks over Index and Contains of names.
-/
namespace Go.Proofs.Ytmdbjeabifkimaa
open Go.RowKit

theorem checkR_ok {l : List Rg} (h : checkR l = 0) : l.length ≤ 64 ∧ ∀ r ∈ l, okR r := by
  unfold checkR at h
  split at h
  · cases h
  · rename_i h1
    split at h
    · cases h
    · rename_i h2
      split at h
      · cases h
      · rename_i h3
        refine ⟨by omega, fun r hr => ?_⟩
        have h4 : bigR r = false := by
          cases hb : bigR r with
          | false => rfl
          | true => exact absurd (List.any_eq_true.2 ⟨r, hr, hb⟩) h2
        have h5 : badR r = false := by
          cases hb : badR r with
          | false => rfl
          | true => exact absurd (List.any_eq_true.2 ⟨r, hr, hb⟩) h3
        simp only [bigR, decide_eq_false_iff_not] at h4
        simp only [badR, decide_eq_false_iff_not] at h5
        refine ⟨by omega, by omega, ?_⟩
        by_cases h6 : r.to = []
        · exact .inl h6
        · have := List.length_pos_iff.2 h6
          exact .inr (by omega)
theorem names_addO (tb : Tb) (x : Tx) : names (addO tb x) = if x ∈ names tb then names tb else names tb ++ [x] := by
  unfold addO
  split
  · rfl
  · simp [names]
theorem mem_addO {tb : Tb} {x : Tx} {o : Ownr} : o ∈ (addO tb x).os ↔ o ∈ tb.os ∨ (x ∉ names tb ∧ o = ⟨x, [], []⟩) := by
  unfold addO
  split
  · rename_i h; simp [h]
  · rename_i h; simp [h]
theorem addO_qu (tb : Tb) (x : Tx) : (addO tb x).qu = tb.qu := by unfold addO; split <;> rfl
theorem addO_mem (tb : Tb) (x : Tx) : x ∈ names (addO tb x) := by
  rw [names_addO]; split
  · assumption
  · simp
theorem mem_setA {tb : Tb} {x : Tx} {l : List Rg} {o : Ownr} : o ∈ (setA tb x l).os ↔ (o ∈ tb.os ∧ o.x ≠ x) ∨ ∃ p ∈ tb.os, p.x = x ∧ o = ⟨p.x, p.held, l⟩ := by
  simp only [setA, List.mem_map]
  constructor
  · rintro ⟨p, hp, rfl⟩
    by_cases h : p.x = x
    · right; exact ⟨p, hp, h, by rw [if_pos h]⟩
    · left; rw [if_neg h]; exact ⟨hp, h⟩
  · rintro (⟨h, hx⟩ | ⟨p, hp, hx, rfl⟩)
    · exact ⟨o, h, by rw [if_neg hx]⟩
    · exact ⟨p, hp, by rw [if_pos hx]⟩
theorem Wf.addO {tb : Tb} (h : Wf tb) (x : Tx) : Wf (addO tb x) where
  nd := by
    rw [names_addO]; split
    · exact h.nd
    · rename_i hx
      rw [List.nodup_append]
      exact ⟨h.nd, by simp, fun a ha b hb => by rw [List.mem_singleton] at hb; subst hb; exact fun e => hx (e ▸ ha)⟩
  qn := by rw [addO_qu]; exact h.qn
  sub := fun y hy => by
    rw [addO_qu] at hy
    rw [names_addO]; split
    · exact h.sub y hy
    · exact List.mem_append_left _ (h.sub y hy)
  idle := fun o ho hx => by
    rw [addO_qu] at hx
    rcases mem_addO.1 ho with ho | ⟨_, rfl⟩
    · exact h.idle o ho hx
    · rfl
  form := fun o ho r hr => by
    rcases mem_addO.1 ho with ho | ⟨_, rfl⟩
    · exact h.form o ho r hr
    · rcases hr with hr | hr <;> cases hr
  few := fun o ho => by
    rcases mem_addO.1 ho with ho | ⟨_, rfl⟩
    · exact h.few o ho
    · exact Nat.zero_le _
theorem names_askQ (tb : Tb) (x : Tx) (l : List Rg) : names (askQ tb x l) = names (addO tb x) := names_setA _ _ _
theorem Wf.askQ {tb : Tb} (h : Wf tb) {x : Tx} {l : List Rg} (hx : x ∉ tb.qu) (hl : checkR l = 0) : Wf (askQ tb x l) where
  nd := by rw [names_askQ]; exact (h.addO x).nd
  qn := by
    show (tb.qu ++ [x]).Nodup
    rw [List.nodup_append]
    exact ⟨h.qn, by simp, fun a ha b hb => by rw [List.mem_singleton] at hb; subst hb; exact fun e => hx (e ▸ ha)⟩
  sub := fun y hy => by
    rw [names_askQ]
    rcases List.mem_append.1 (show y ∈ tb.qu ++ [x] from hy) with hy | hy
    · exact (h.addO x).sub y (by rw [addO_qu]; exact hy)
    · rw [List.mem_singleton] at hy; rw [hy]; exact addO_mem tb x
  idle := fun o ho hk => by
    have hk' : o.x ∉ tb.qu ++ [x] := hk
    rw [List.mem_append, List.mem_singleton, not_or] at hk'
    rcases mem_setA.1 ho with ⟨ho, hox⟩ | ⟨p, hp, hpx, rfl⟩
    · exact (h.addO x).idle o ho (by rw [addO_qu]; exact hk'.1)
    · exact absurd hpx hk'.2
  form := fun o ho r hr => by
    rcases mem_setA.1 ho with ⟨ho, hox⟩ | ⟨p, hp, hpx, rfl⟩
    · exact (h.addO x).form o ho r hr
    · rcases hr with hr | hr
      · exact (h.addO x).form p hp r (.inl hr)
      · exact (checkR_ok hl).2 r hr
  few := fun o ho => by
    rcases mem_setA.1 ho with ⟨ho, hox⟩ | ⟨p, hp, hpx, rfl⟩
    · exact (h.addO x).few o ho
    · exact (checkR_ok hl).1
theorem Sz.askQ {tb : Tb} {x : Tx} {l : List Rg} (hw : Wf tb) (hos : tb.os.length + 1 ≤ 1048576) (hh : ∀ o ∈ tb.os, o.held.length + o.asks.length + 64 ≤ 1048576) (hx : x ∉ tb.qu) (hl : checkR l = 0) : Sz (askQ tb x l) where
  os := by
    have : (Go.Proofs.Ytmdbjeabifkimaa.askQ tb x l).os.length = (addO tb x).os.length := by simp [Go.Proofs.Ytmdbjeabifkimaa.askQ, setA]
    rw [this]
    unfold addO
    split
    · omega
    · simp; omega
  held := fun o ho => by
    have h64 := (checkR_ok hl).1
    rcases mem_setA.1 ho with ⟨ho, hox⟩ | ⟨p, hp, hpx, rfl⟩
    · rcases mem_addO.1 ho with ho | ⟨_, rfl⟩
      · have := hh o ho; omega
      · exact Nat.zero_le _
    · rcases mem_addO.1 hp with hp | ⟨_, rfl⟩
      · have := hh p hp
        dsimp only; omega
      · dsimp only [List.length_nil]; omega
theorem indexTx_any {A : Option Addr} {n c : Nat} {l : List Tx} {x : Tx} {w : World} (hr : RdR 2 w All A (txEls l)) (hn : l.length = n) (hl : l.length ≤ 4294967296) :
    CallsV Try.prog 73 #[.slice A n c, .agg (txV x).toArray] w fun v w' => v = .int .i64 (if x ∈ l then (l.idxOf x : Int) else -1) ∧ Below w.heap.size w w' := by
  subst hn
  have hs := St.init w
  refine calls_in (N := _) Try.func73 rfl Try.ntmps73 rfl ?_; show WC _ _ _ _ _ _
  refine wc_sr ?_
  refine ws_box (cs := txV x) hs rfl rfl ?_; clear hs; intro g3 _ hs
  refine wl_as rfl rfl ?_; refine wl_ns ?_; refine wc_seq ?_; refine wc_sr ?_; refine wl_mv rfl rfl ?_; apply wl_val; apply opv_len; exact rfl; exact tkTx.sl; exact rfl; refine wl_mv rfl rfl ?_; refine wl_ns ?_; refine wc_block ?_
  refine wc_loop (fun L wr mm => ∃ k : Nat, L = [(0, .slice A l.length c), (3, .pointer (some ⟨g3, 0, none⟩)), (7, .int .i64 (l.length : Int)), (8, .int .i64 (k : Int))] ∧ k ≤ l.length ∧ x ∉ l.take k ∧ St NoB w wr [.blk g3 30 (txV x)] ∧ mm = l.length - k)
    [(0, .slice A l.length c), (3, .pointer (some ⟨g3, 0, none⟩)), (7, .int .i64 (l.length : Int)), (8, .int .i64 (0 : Nat))] l.length ⟨0, rfl, by omega, by simp, hs, rfl⟩ ⟨rfl, rfl, rfl, rfl, trivial⟩ ?_
  clear hs
  rintro _ w1 mm ⟨k, rfl, hk, hnot, hs, rfl⟩
  refine wc_sr ?_; refine wl_bin rfl rfl bin_lss rfl ?_; refine wl_ns ?_; refine wc_seq ?_
  refine wc_cond rfl (fun h1 => ?_) (fun h1 => ?_)
  · obtain ⟨y, hy⟩ : ∃ y, l[k]? = some y := ⟨_, List.getElem?_eq_getElem (by omega)⟩
    obtain ⟨b, o, cs, rfl, _, _, hp, i1⟩ := RdR.at (k := 2) (by decide) hr (E := rawEl (txV y)) (i := k) (by rw [List.getElem?_map, hy]; rfl)
    have hp' : cs = txV y := hp
    subst hp'
    replace i1 := i1.below hs.bel
    refine wc_skip ?_; refine we_seq ?_; refine wc_seq ?_; refine wc_block ?_; refine wc_sr ?_; refine wl_mv rfl rfl ?_; refine wl_as rfl rfl ?_; refine wl_ns ?_; refine wc_seq ?_
    refine wc_drawB mixed (by kernel_rfl) ?_
    apply wq_val; intro _ hw_; apply opv_loadX; exact rfl; exact Ar.bel (hs.ar 0 rfl) hw_; exact sTx; exact rfl; apply wq_val; intro _ hw_; apply opv_move; exact rfl; exact rfl; apply wq_val; intro _ hw_; apply opv_move; exact rfl; exact rfl; apply wq_val; intro _ hw_; apply opv_idxG tkTx; exact rfl; exact rfl; exact rfl; omega; exact rfl; apply wq_val; intro _ hw_; apply opv_ldG; exact rfl; exact Wi.below (by assumption) hw_; exact sTx; exact rfl; apply wq_val; intro _ hw_; apply opv_bin; exact rfl; exact rfl; exact (bin_eqlTx _ _); exact rfl; refine wq_nil fun w1 hw1 => ?_
    replace hs := hs.below hw1
    refine we_seq ?_
    refine wc_cond rfl (fun h2 => ?_) (fun h2 => ?_)
    · subst h2
      have hix : l.idxOf x = k := by
        obtain ⟨a, r, e1, e2, e3⟩ := idx_split (List.mem_of_getElem? hy)
        rw [e3]
        have h5 : l[a.length]? = some x := by rw [e1]; simp
        rcases Nat.lt_trichotomy a.length k with h6 | h6 | h6
        · exact absurd (List.mem_of_getElem? (by rw [List.getElem?_take_of_lt h6]; exact h5)) hnot
        · exact h6
        · exfalso
          rw [e1, List.getElem?_append_left h6] at hy
          exact e2 (List.mem_of_getElem? hy)
      refine wc_sr ?_; refine wl_mv rfl rfl ?_; refine wl_as rfl rfl ?_; refine wl_ns ?_; refine wc_ret ?_; refine we_block_ret ?_; refine we_seq_ret ?_; refine we_loop_ret ?_; refine we_block_ret ?_; refine we_seq_ret ?_
      exact we_ret1 rfl rfl ⟨_, rfl, by rw [if_pos (List.mem_of_getElem? hy), hix], hs.bel⟩
    · refine wc_skip ?_; refine we_block_norm ?_; refine we_seq ?_; refine wc_region ?_; apply wl_val; apply opv_bin; exact rfl; exact rfl; exact bin_add64 (by omega); exact rfl; refine wl_mv rfl rfl ?_; refine wl_nil ?_
      exact we_loop _ (l.length - (k + 1)) ⟨k + 1, rfl, by omega, by rw [take_getR hy]; simpa [hnot] using h2, hs, rfl⟩ (by omega) ⟨rfl, rfl, rfl, by simp [lookT], trivial⟩
  · obtain rfl : k = l.length := by omega
    rw [List.take_length] at hnot
    refine wc_exit ?_; refine we_seq_exit ?_; refine we_loop_exit ?_; refine we_block_exit ?_; refine we_seq ?_; refine wc_sr ?_; refine wl_as rfl rfl ?_; refine wl_ns ?_; refine wc_ret ?_
    exact we_ret1 rfl rfl ⟨_, rfl, by rw [if_neg hnot], hs.bel⟩
theorem containsTx_any {A : Option Addr} {n c : Nat} {l : List Tx} {x : Tx} {w : World} (hr : RdR 2 w All A (txEls l)) (hn : l.length = n) (hl : l.length ≤ 4294967296) :
    CallsV Try.prog 47 #[.slice A n c, .agg (txV x).toArray] w fun v w' => v = .bool (decide (x ∈ l)) ∧ Below w.heap.size w w' := by
  have hs := St.init w
  refine calls_in (N := _) Try.func47 rfl Try.ntmps47 rfl ?_; show WC _ _ _ _ _ _
  refine wc_sr ?_
  refine ws_box (cs := txV x) hs rfl rfl ?_; clear hs; intro g3 _ hs
  refine wl_as rfl rfl ?_; refine wl_ns ?_; refine wc_sr ?_; refine wl_mv rfl rfl ?_; apply wl_val; apply opv_loadX; exact rfl; exact hs.ar 0 rfl; exact sTx; exact rfl
  refine wl_call ok_slices_Index_api_Txn_api_Txn (indexTx_any (hr.below hs.bel) hn hl) ⟨rfl, rfl, trivial⟩ rfl ?_
  rintro _ w1 ⟨rfl, hbx⟩
  replace hs := hs.below hbx
  refine wl_bin rfl rfl bin_geq rfl ?_; refine wl_as rfl rfl ?_; refine wl_ns ?_; refine wc_ret ?_
  refine we_ret1 rfl rfl ⟨_, rfl, ?_, hs.bel⟩
  have : (0 ≤ (if x ∈ l then (l.idxOf x : Int) else -1)) = (x ∈ l) := by split <;> simp_all <;> omega
  simp only [this]
end Go.Proofs.Ytmdbjeabifkimaa

/-
  Plain laws of lock tables: what asking and releasing keep; somebody doesn't wait. No program in sight.
-/
namespace Go.Proofs.Ytmdbjeabifkimaa

theorem ed_askQ {tb : Tb} (hw : Wf tb) {x : Tx} {l : List Rg} (hx : x ∉ tb.qu) (hl : checkR l = 0) {a b : Tx} (h : Ed (askQ tb x l) a b) : a = x ∨ Ed tb a b := by
  by_cases hax : a = x
  · exact .inl hax
  right
  obtain ⟨h1, hne, o, ho, rfl, p, hp, rfl, h4⟩ := (ed_iff (hw.askQ hx hl).qn).1 h
  have haq : o.x ∈ tb.qu := by
    rcases List.mem_append.1 (show o.x ∈ tb.qu ++ [x] from h1) with h | h
    · exact h
    · exact absurd (List.mem_singleton.1 h) hax
  have ho' : o ∈ tb.os := by
    rcases mem_setA.1 ho with ⟨h, _⟩ | ⟨q, _, hq, rfl⟩
    · rcases mem_addO.1 h with h | ⟨_, rfl⟩
      · exact h
      · exact absurd rfl hax
    · exact absurd hq hax
  rw [ed_iff hw.qn]
  refine ⟨haq, hne, o, ho', rfl, ?_⟩
  have hah : ∀ y, Ahd (tb.qu ++ [x]) y o.x → Ahd tb.qu y o.x := fun y k => by
    rcases k.of_append with k | ⟨k, _⟩
    · exact k
    · exact absurd k hax
  rcases mem_setA.1 hp with ⟨h, hpx⟩ | ⟨q, hq, hqx, rfl⟩
  · rcases mem_addO.1 h with h | ⟨_, rfl⟩
    · exact ⟨p, h, rfl, h4.imp id fun k => ⟨hah _ k.1, k.2⟩⟩
    · exact absurd rfl hpx
  · rcases mem_addO.1 hq with hq | ⟨_, rfl⟩
    · refine ⟨q, hq, rfl, ?_⟩
      rcases h4 with h4 | ⟨h4, _⟩
      · exact .inl h4
      · exact absurd (hah _ h4).mem.1 (by show ¬ q.x ∈ tb.qu; rw [hqx]; exact hx)
    · exfalso
      rcases h4 with h4 | ⟨h4, _⟩
      · cases h4
      · exact hx (hah _ h4).mem.1
theorem ed_askQ_of {tb : Tb} (hw : Wf tb) {x : Tx} {l : List Rg} (hx : x ∉ tb.qu) (hl : checkR l = 0) {a b : Tx} (h : Ed tb a b) : Ed (askQ tb x l) a b := by
  obtain ⟨h1, hne, o, ho, rfl, p, hp, rfl, h4⟩ := (ed_iff hw.qn).1 h
  have hox : o.x ≠ x := fun e => hx (e ▸ h1)
  rw [ed_iff (hw.askQ hx hl).qn]
  refine ⟨List.mem_append_left _ h1, hne, o, mem_setA.2 (.inl ⟨mem_addO.2 (.inl ho), hox⟩), rfl, ?_⟩
  by_cases hpx : p.x = x
  · refine ⟨⟨p.x, p.held, l⟩, mem_setA.2 (.inr ⟨p, mem_addO.2 (.inl hp), hpx, rfl⟩), rfl, .inl ?_⟩
    rcases h4 with h4 | ⟨h4, _⟩
    · exact h4
    · exact absurd (hpx ▸ h4.mem.1) hx
  · exact ⟨p, mem_setA.2 (.inl ⟨mem_addO.2 (.inl hp), hpx⟩), rfl, h4.imp id fun k => ⟨k.1.append _, k.2⟩⟩
theorem Apt.askQ {tb : Tb} (h : Apt tb) {x : Tx} {l : List Rg} : Apt (askQ tb x l) := by
  have key : ∀ o ∈ (Go.Proofs.Ytmdbjeabifkimaa.askQ tb x l).os, (∃ o' ∈ tb.os, o'.x = o.x ∧ o'.held = o.held) ∨ o.held = [] := fun o ho => by
    rcases mem_setA.1 ho with ⟨h1, _⟩ | ⟨q, hq, _, rfl⟩
    · rcases mem_addO.1 h1 with h1 | ⟨_, rfl⟩
      · exact .inl ⟨o, h1, rfl, rfl⟩
      · exact .inr rfl
    · rcases mem_addO.1 hq with h1 | ⟨_, rfl⟩
      · exact .inl ⟨q, h1, rfl, rfl⟩
      · exact .inr rfl
  intro o ho p hp hne
  rcases key o ho with ⟨o', ho', e1, e2⟩ | e
  · rcases key p hp with ⟨p', hp', e3, e4⟩ | e'
    · rw [← e2, ← e4]; exact h o' ho' p' hp' (by rw [e1, e3]; exact hne)
    · rw [e']; exact clashB_nilR
  · rw [e]; exact clashB_nilL
/-- What holds of every table that calls have made. -/
structure LkI (tb : Tb) : Prop where
  wf : Wf tb
  apt : Apt tb
  acy : Acyc tb
  stk : Stuck tb
theorem LkI.empty : LkI ⟨[], []⟩ := by
  refine ⟨⟨by simp [names], by simp, by simp, by simp, by simp, by simp⟩, fun o ho => (by cases ho), fun x hx => ?_, fun x hx => (by cases hx)⟩
  obtain ⟨y, hy⟩ := TransGen_head hx
  cases hy.1
theorem LkI.ask {tb : Tb} (h : LkI tb) (x : Tx) (l : List Rg) : LkI (askT tb x l).t := by
  unfold askT
  split
  · exact h
  · rename_i hck
    have hck : checkR l = 0 := by
      rcases Nat.eq_zero_or_pos (checkR l) with k | k
      · exact k
      · exact absurd (by omega) hck
    split
    · exact h
    · rename_i hxq
      have hwQ := h.wf.askQ hxq hck
      have hxQ : x ∈ (askQ tb x l).qu := List.mem_append_right _ (List.mem_singleton.2 rfl)
      split
      · rename_i hb
        have hz := (blk_nil hwQ hxQ).1 hb
        refine ⟨hwQ.go x, (h.apt.askQ).go hwQ hxQ hz, h.acy.of fun a b he => ?_, fun y hy => ?_⟩
        · have h1 := ed_go hwQ hz hxQ he
          rcases ed_askQ h.wf hxq hck h1 with rfl | h2
          · exact absurd h1 (hz _)
          · exact h2
        · have hy2 := mem_unq.1 hy
          have hyq : y ∈ tb.qu := by
            rcases List.mem_append.1 (show y ∈ tb.qu ++ [x] from hy2.1) with k | k
            · exact k
            · exact absurd (List.mem_singleton.1 k) hy2.2
          obtain ⟨z, hz2⟩ := h.stk y hyq
          refine stay_go hwQ hy2.2 (fun ha => ?_) ⟨z, ed_askQ_of h.wf hxq hck hz2⟩
          rcases Ahd.of_append (show Ahd (tb.qu ++ [x]) x y from ha) with k | ⟨_, k⟩
          · exact hxq k.mem.1
          · exact hxq k
      · obtain ⟨h1, h2, _, h4, _⟩ := victs_wf (n := tb.qu.length + 2) hwQ (by show (tb.qu ++ [x]).length < _; simp)
        obtain ⟨g1, _, _, g4, g5, g6⟩ := goT_wf h1
        exact ⟨g1, g5 (h4 h.apt.askQ), h2.of g4, g6⟩
theorem LkI.rel {tb : Tb} (h : LkI tb) (x : Tx) : LkI (relT tb x).1 := by
  unfold relT
  split
  · obtain ⟨g1, _, _, g4, g5, g6⟩ := goT_wf (h.wf.drop x)
    exact ⟨g1, g5 ((h.apt.leave x).drop x), (h.acy.of fun a b he => ed_leave h.wf (ed_drop h.wf he)).of g4, g6⟩
  · obtain ⟨g1, _, _, g4, g5, g6⟩ := goT_wf h.wf
    exact ⟨g1, g5 h.apt, h.acy.of g4, g6⟩
theorem rel_names {tb : Tb} (h : Wf tb) (x : Tx) : names (relT tb x).1 = (names tb).filter (fun y => !decide (y = x)) ∧ ∀ y ∈ (relT tb x).1.qu, y ∈ tb.qu := by
  unfold relT
  split
  · obtain ⟨_, g2, g3, _⟩ := goT_wf (h.drop x)
    refine ⟨by rw [g2, names_drop, names_leave], fun y hy => (mem_unq.1 (g3.subset hy)).1⟩
  · rename_i hx
    obtain ⟨_, g2, g3, _⟩ := goT_wf h
    exact ⟨by rw [g2, unq_self hx], fun y hy => g3.subset hy⟩
/-! #### Sizes -/
structure LkS (k : Nat) (tb : Tb) : Prop where
  os : tb.os.length ≤ k
  held : ∀ o ∈ tb.os, o.held.length + o.asks.length ≤ 64 * k
theorem LkS.mono {k m : Nat} {tb : Tb} (h : LkS k tb) (hm : k ≤ m) : LkS m tb := ⟨Nat.le_trans h.os hm, fun o ho => Nat.le_trans (h.held o ho) (Nat.mul_le_mul_left _ hm)⟩
theorem LkS.sz {k : Nat} {tb : Tb} (h : LkS k tb) (hk : k ≤ 1000) : Sz tb := ⟨by have := h.os; omega, fun o ho => by have := h.held o ho; omega⟩
theorem LkS.goOne {k : Nat} {tb : Tb} (h : LkS k tb) (x : Tx) : LkS k (goOne tb x) := by
  refine ⟨by simpa [Go.Proofs.Ytmdbjeabifkimaa.goOne, leaveT, grantT] using h.os, fun o ho => ?_⟩
  rcases mem_go.1 ho with ⟨h1, _⟩ | ⟨p, hp, _, rfl⟩
  · exact h.held o h1
  · have := h.held p hp
    simpa using this
theorem LkS.fold {k : Nat} : ∀ {l : List Tx} {r : Tb × List Tx}, LkS k r.1 → LkS k (l.foldl goStep r).1
  | [], _, h => h
  | x :: l, r, h => LkS.fold (l := l) (by
      unfold goStep
      split
      · exact h.goOne x
      · exact h)
theorem LkS.goT {k : Nat} {tb : Tb} (h : LkS k tb) : LkS k (goT tb).1 := LkS.fold (l := tb.qu) (r := (tb, [])) h
theorem LkS.leave {k : Nat} {tb : Tb} (h : LkS k tb) (x : Tx) : LkS k (leaveT tb x) := ⟨by simpa [leaveT] using h.os, fun o ho => by
  rcases mem_leave.1 ho with ⟨h1, _⟩ | ⟨p, hp, _, rfl⟩
  · exact h.held o h1
  · have := h.held p hp
    simp only [List.length_nil]; omega⟩
theorem LkS.drop {k : Nat} {tb : Tb} (h : LkS k tb) (x : Tx) : LkS k (dropO tb x) := ⟨Nat.le_trans (List.length_filter_le _ _) h.os, fun o ho => h.held o (List.mem_filter.1 ho).1⟩
theorem LkS.victs {k : Nat} : ∀ {n : Nat} {tb : Tb}, LkS k tb → LkS k (victs n tb).1
  | 0, _, h => h
  | n + 1, tb, h => by
    unfold Go.Proofs.Ytmdbjeabifkimaa.victs
    cases hv : victim tb with
    | none => exact h
    | some v => exact LkS.victs (h.leave v)
theorem LkS.askQ {k : Nat} {tb : Tb} (h : LkS k tb) {x : Tx} {l : List Rg} (hl : checkR l = 0) : LkS (k + 1) (askQ tb x l) where
  os := by
    have := h.os
    have e : (Go.Proofs.Ytmdbjeabifkimaa.askQ tb x l).os.length = (addO tb x).os.length := by simp [Go.Proofs.Ytmdbjeabifkimaa.askQ, setA]
    rw [e]
    unfold addO
    split
    · omega
    · simp; omega
  held := fun o ho => by
    have h64 := (checkR_ok hl).1
    rcases mem_setA.1 ho with ⟨ho, _⟩ | ⟨p, hp, _, rfl⟩
    · rcases mem_addO.1 ho with ho | ⟨_, rfl⟩
      · have := h.held o ho; omega
      · exact Nat.zero_le _
    · rcases mem_addO.1 hp with hp | ⟨_, rfl⟩
      · have := h.held p hp
        dsimp only; omega
      · dsimp only [List.length_nil]; omega
theorem LkS.ask {k : Nat} {tb : Tb} (h : LkS k tb) (x : Tx) (l : List Rg) : LkS (k + 1) (askT tb x l).t := by
  unfold askT
  split
  · exact h.mono (by omega)
  · rename_i hck
    have hck : checkR l = 0 := by
      rcases Nat.eq_zero_or_pos (checkR l) with k | k
      · exact k
      · exact absurd (by omega) hck
    split
    · exact h.mono (by omega)
    · split
      · exact (h.askQ hck).goOne x
      · exact (LkS.victs (h.askQ hck)).goT
theorem LkS.rel {k : Nat} {tb : Tb} (h : LkS k tb) (x : Tx) : LkS k (relT tb x).1 := by
  unfold relT
  split
  · exact ((h.leave x).drop x).goT
  · exact h.goT
/-! #### Somebody doesn't wait -/
end Go.Proofs.Ytmdbjeabifkimaa

/-
  Plain laws of a table's bytes: written and read back it is the same; other bytes are refused with one of two errors. No program in sight.
-/
namespace Go.Proofs.Ytmdbjeabifkimaa

/-! #### Ranges -/
def flB (b : Bool) : List UInt8 := if b then [1] else [0]
def putR (l : List Rg) : List (List UInt8) := l.flatMap fun r => [flB r.ex, r.fr, r.to]
def putB (l : List Rg) : List UInt8 := framed (putR l)
def badG (a : List UInt8) : Bool := decide (a.length ≠ 1 ∨ 1 < a.headD 0)
def thr : List (List UInt8) → Option (List Rg)
  | a :: b :: c :: l => if badG a then none else (thr l).map (⟨b, c, decide (a.headD 0 = 1)⟩ :: ·)
  | _ => some []
def getG (b : List UInt8) : List Rg × Nat :=
  if (parts b).2 ≠ 0 then ([], (parts b).2)
  else if (parts b).1.length % 3 ≠ 0 then ([], 3)
  else match thr (parts b).1 with
    | none => ([], 3)
    | some l => if l.any (fun r => decide (checkR [r] ≠ 0)) then ([], 3) else (l, 0)
theorem checkR_one {r : Rg} : checkR [r] = 0 ↔ okR r := by
  constructor
  · intro h; exact (checkR_ok h).2 r List.mem_cons_self
  · intro h
    have h1 : bigR r = false := decide_eq_false fun k => by have := h.1; have := h.2.1; omega
    have h2 : badR r = false := decide_eq_false fun k => by
      rcases h.2.2 with e | e
      · rw [e] at k; simp at k
      · omega
    rw [checkR, if_neg (by simp), List.any_cons, List.any_cons, h1, h2]; rfl
theorem thr_putR : ∀ l : List Rg, thr (putR l) = some l
  | [] => rfl
  | r :: l => by
    show thr ([flB r.ex, r.fr, r.to] ++ putR l) = _
    obtain ⟨f, t, e⟩ := r
    simp only [List.cons_append, List.nil_append, thr]
    rw [thr_putR l]
    cases e <;> rfl
theorem putR_len : ∀ l : List Rg, (putR l).length = 3 * l.length
  | [] => rfl
  | r :: l => by
    show ([flB r.ex, r.fr, r.to] ++ putR l).length = _
    rw [List.length_append, putR_len l]; simp; omega
theorem putR_mem {l : List Rg} {p : List UInt8} (h : p ∈ putR l) : ∃ r ∈ l, p = flB r.ex ∨ p = r.fr ∨ p = r.to := by
  obtain ⟨r, hr, hp⟩ := List.mem_flatMap.1 h
  exact ⟨r, hr, by simpa using hp⟩
theorem getG_putB {l : List Rg} (h : ∀ r ∈ l, okR r) : getG (putB l) = (l, 0) := by
  have hp : parts (putB l) = (putR l, 0) := parts_framed fun p hp => by
    obtain ⟨r, hr, k⟩ := putR_mem hp
    have := (h r hr).1
    have := (h r hr).2.1
    rcases k with rfl | rfl | rfl
    · cases r.ex <;> decide
    · omega
    · omega
  unfold getG
  rw [hp, if_neg (by simp), if_neg (by rw [putR_len]; simp)]
  dsimp only
  rw [thr_putR]
  dsimp only
  rw [if_neg]
  simp only [List.any_eq_true, decide_eq_true_eq, not_exists, not_and, Decidable.not_not]
  exact fun r hr => checkR_one.2 (h r hr)
/-! #### Errors -/
/-! #### One owner -/
def plO (qu : List Tx) (x : Tx) : Nat := if x ∈ qu then qu.idxOf x + 1 else 0
def encO (qu : List Tx) (o : Ownr) : List (List UInt8) := [putU o.x.1 ++ putU o.x.2, putB o.held, putB o.asks, putU (plO qu o.x)]
def encB (tb : Tb) : List UInt8 := framed (tb.os.flatMap (encO tb.qu))
def noO : Ownr := ⟨(0, 0), [], []⟩
/-- The owner of four parts, its place and one, the error. -/
def oneO (p0 p1 p2 p3 : List UInt8) : Ownr × Nat × Nat :=
  if (getU p0 0).2.2 ≠ 0 then (noO, 0, (getU p0 0).2.2)
  else if (getU p0 (getU p0 0).2.1).2.2 ≠ 0 then (noO, 0, (getU p0 (getU p0 0).2.1).2.2)
  else if (getU p3 0).2.2 ≠ 0 then (noO, 0, (getU p3 0).2.2)
  else if (getG p1).2 ≠ 0 then (noO, 0, (getG p1).2)
  else if (getG p2).2 ≠ 0 then (noO, 0, (getG p2).2)
  else if (getU p0 (getU p0 0).2.1).2.1 < p0.length ∨ (getU p3 0).2.1 < p3.length ∨ 1048576 < (getU p3 0).1 ∨ (getU p3 0).1 = 0 ∧ 0 < (getG p2).1.length ∨ 64 < (getG p2).1.length then (noO, 0, 3)
  else (⟨((getU p0 0).1, (getU p0 (getU p0 0).2.1).1), (getG p1).1, (getG p2).1⟩, (getU p3 0).1, 0)
theorem oneO_enc {qu : List Tx} {o : Ownr} (h1 : o.x.1 < 2 ^ 64) (h2 : o.x.2 < 2 ^ 64) (hh : ∀ r ∈ o.held, okR r) (ha : ∀ r ∈ o.asks, okR r) (hq : qu.length ≤ 1048576) (hi : o.x ∉ qu → o.asks = []) (h64 : o.asks.length ≤ 64) :
    oneO (putU o.x.1 ++ putU o.x.2) (putB o.held) (putB o.asks) (putU (plO qu o.x)) = (o, plO qu o.x, 0) := by
  have hp : plO qu o.x ≤ 1048576 := by
    unfold plO
    split
    · rename_i h; have := List.idxOf_lt_length_of_mem h; omega
    · omega
  have e1 : getU (putU o.x.1 ++ putU o.x.2) 0 = (o.x.1, ((putU o.x.1).length : Int), 0) := by
    have := getU_mid (pre := []) (rest := putU o.x.2) h1
    simpa using this
  have e2 : getU (putU o.x.1 ++ putU o.x.2) ((putU o.x.1).length : Int) = (o.x.2, ((putU o.x.1 ++ putU o.x.2).length : Int), 0) := by
    have := getU_mid (pre := putU o.x.1) (rest := []) h2
    simpa using this
  have e3 : getU (putU (plO qu o.x)) 0 = (plO qu o.x, ((putU (plO qu o.x)).length : Int), 0) := getU_putU (by omega)
  unfold oneO
  simp only [e1, e2, e3, getG_putB hh, getG_putB ha, ne_eq, not_true, if_false]
  rw [if_neg]
  rintro (k | k | k | k | k)
  · omega
  · omega
  · omega
  · obtain ⟨k1, k2⟩ := k
    unfold plO at k1
    split at k1
    · omega
    · rename_i h; rw [hi h] at k2; simp at k2
  · omega
end Go.Proofs.Ytmdbjeabifkimaa

/-
  Plain laws of a table's bytes, the table as a whole. No program in sight.
-/
namespace Go.Proofs.Ytmdbjeabifkimaa

def decL : List (List UInt8) → List Ownr → List (Nat × Tx) → (List Ownr × List (Nat × Tx)) × Nat
  | p0 :: p1 :: p2 :: p3 :: l, os, pl =>
    if (oneO p0 p1 p2 p3).2.2 ≠ 0 then ((os, pl), (oneO p0 p1 p2 p3).2.2)
    else if (oneO p0 p1 p2 p3).1.x ∈ os.map (·.x) ∨ 0 < (oneO p0 p1 p2 p3).2.1 ∧ (oneO p0 p1 p2 p3).2.1 ∈ pl.map (·.1) then ((os, pl), 3)
    else decL l (os ++ [(oneO p0 p1 p2 p3).1]) (if 0 < (oneO p0 p1 p2 p3).2.1 then pl ++ [((oneO p0 p1 p2 p3).2.1, (oneO p0 p1 p2 p3).1.x)] else pl)
  | _, os, pl => ((os, pl), 0)
def plAt (pl : List (Nat × Tx)) (i : Nat) : Option Tx := (pl.find? fun p => decide (p.1 = i)).map (·.2)
def quF (pl : List (Nat × Tx)) : List Nat → Option (List Tx)
  | [] => some []
  | i :: l => match plAt pl i with
    | none => none
    | some x => (quF pl l).map (x :: ·)
def tb0 : Tb := ⟨[], []⟩
def decT (b : List UInt8) : Tb × Nat :=
  if (parts b).2 ≠ 0 then (tb0, (parts b).2)
  else if (parts b).1.length % 4 ≠ 0 then (tb0, 3)
  else if (decL (parts b).1 [] []).2 ≠ 0 then (tb0, (decL (parts b).1 [] []).2)
  else match quF (decL (parts b).1 [] []).1.2 (List.range' 1 (decL (parts b).1 [] []).1.2.length) with
    | none => (tb0, 3)
    | some q => (⟨(decL (parts b).1 [] []).1.1, q⟩, 0)
/-- What may be written. -/
structure EncOk (qu : List Tx) (o : Ownr) : Prop where
  s : o.x.1 < 2 ^ 64
  q : o.x.2 < 2 ^ 64
  hh : ∀ r ∈ o.held, okR r
  ha : ∀ r ∈ o.asks, okR r
  idle : o.x ∉ qu → o.asks = []
  few : o.asks.length ≤ 64
  len : o.held.length ≤ 1048576
def plsO (qu : List Tx) (os : List Ownr) : List (Nat × Tx) := (os.filter fun o => decide (o.x ∈ qu)).map fun o => (plO qu o.x, o.x)
theorem plO_inj {qu : List Tx} {x y : Tx} (hx : x ∈ qu) (hy : y ∈ qu) (h : plO qu x = plO qu y) : x = y := by
  unfold plO at h
  rw [if_pos hx, if_pos hy] at h
  have h1 := List.getElem_idxOf (List.idxOf_lt_length_of_mem hx)
  have h2 := List.getElem_idxOf (List.idxOf_lt_length_of_mem hy)
  rw [← h1, ← h2]
  congr 1
  omega
theorem decL_enc {qu : List Tx} (hq : qu.length ≤ 1048576) : ∀ (os acc : List Ownr) (pl : List (Nat × Tx)), (∀ o ∈ os, EncOk qu o) → ((acc ++ os).map (·.x)).Nodup → (∀ p ∈ pl, ∃ o ∈ acc, o.x ∈ qu ∧ p = (plO qu o.x, o.x)) →
    decL (os.flatMap (encO qu)) acc pl = ((acc ++ os, pl ++ plsO qu os), 0)
  | [], acc, pl, _, _, _ => by simp [decL, plsO]
  | o :: os, acc, pl, hok, hn, hpl => by
    have ho := hok o List.mem_cons_self
    have h1 := oneO_enc ho.s ho.q ho.hh ho.ha hq ho.idle ho.few
    have hno : o.x ∉ acc.map (·.x) := by
      rw [List.map_append, List.nodup_append] at hn
      intro h
      exact hn.2.2 _ h o.x (by simp) rfl
    have hn2 : (((acc ++ [o]) ++ os).map (·.x)).Nodup := by simpa using hn
    rw [List.flatMap_cons]
    show decL ([_, _, _, _] ++ _) acc pl = _
    simp only [List.cons_append, List.nil_append, decL, h1, ne_eq, not_true, if_false]
    rw [if_neg]
    · have hstep : ∀ p ∈ (if 0 < plO qu o.x then pl ++ [(plO qu o.x, o.x)] else pl), ∃ o' ∈ acc ++ [o], o'.x ∈ qu ∧ p = (plO qu o'.x, o'.x) := fun p hp => by
        have old : p ∈ pl → ∃ o' ∈ acc ++ [o], o'.x ∈ qu ∧ p = (plO qu o'.x, o'.x) := fun h => by
          obtain ⟨o', ho', k⟩ := hpl p h
          exact ⟨o', List.mem_append_left _ ho', k⟩
        split at hp
        · rename_i hpos
          rcases List.mem_append.1 hp with hp | hp
          · exact old hp
          · refine ⟨o, by simp, ?_, List.mem_singleton.1 hp⟩
            unfold plO at hpos
            split at hpos
            · assumption
            · omega
        · exact old hp
      rw [decL_enc hq os (acc ++ [o]) _ (fun o' h => hok o' (List.mem_cons_of_mem _ h)) hn2 hstep]
      congr 2
      · simp
      · unfold plsO
        by_cases hq2 : o.x ∈ qu
        · rw [List.filter_cons_of_pos (by simpa using hq2), if_pos (by unfold plO; rw [if_pos hq2]; omega)]
          simp
        · rw [List.filter_cons_of_neg (by simpa using hq2), if_neg (by unfold plO; rw [if_neg hq2]; omega)]
    · rintro (k | ⟨k, k2⟩)
      · exact hno k
      · obtain ⟨p, hp, e⟩ := List.mem_map.1 k2
        obtain ⟨o', ho', hq', rfl⟩ := hpl p hp
        have hxq : o.x ∈ qu := by
          unfold plO at k
          split at k
          · assumption
          · omega
        have := plO_inj hq' hxq e
        exact hno (this ▸ List.mem_map_of_mem ho')
theorem pls_mem {qu : List Tx} {os : List Ownr} {p : Nat × Tx} (h : p ∈ plsO qu os) : p.2 ∈ qu ∧ p.1 = plO qu p.2 := by
  obtain ⟨o, ho, rfl⟩ := List.mem_map.1 h
  exact ⟨by simpa using (List.mem_filter.1 ho).2, rfl⟩
theorem plAt_of {qu : List Tx} {os : List Ownr} {x : Tx} (hx : x ∈ qu) (ho : x ∈ os.map (·.x)) : plAt (plsO qu os) (plO qu x) = some x := by
  unfold plAt
  obtain ⟨o, ho2, rfl⟩ := List.mem_map.1 ho
  replace ho := ho2
  have hm : (plO qu o.x, o.x) ∈ plsO qu os := List.mem_map.2 ⟨o, List.mem_filter.2 ⟨ho, by simpa using hx⟩, rfl⟩
  cases hf : (plsO qu os).find? (fun p => decide (p.1 = plO qu o.x)) with
  | none =>
    rw [List.find?_eq_none] at hf
    exact absurd (decide_eq_true rfl) (hf _ hm)
  | some p =>
    have h1 := List.mem_of_find?_eq_some hf
    have h2 : p.1 = plO qu o.x := by simpa using List.find?_some hf
    obtain ⟨h3, h4⟩ := pls_mem h1
    show some p.2 = _
    rw [plO_inj h3 hx (h4.symm.trans h2)]
theorem quF_of {pl : List (Nat × Tx)} : ∀ (q : List Tx) (k : Nat), (∀ i x, q[i]? = some x → plAt pl (k + i) = some x) → quF pl (List.range' k q.length) = some q
  | [], k, _ => rfl
  | x :: q, k, h => by
    rw [List.length_cons, List.range'_succ, quF, show plAt pl k = some x from h 0 x rfl]
    dsimp only
    rw [quF_of q (k + 1) fun i y hy => by have := h (i + 1) y (by simpa using hy); rwa [show k + (i + 1) = k + 1 + i by omega] at this]
    rfl
theorem plsO_len {qu : List Tx} {os : List Ownr} (hq : qu.Nodup) (hn : (os.map (·.x)).Nodup) (hs : ∀ x ∈ qu, x ∈ os.map (·.x)) : (plsO qu os).length = qu.length := by
  unfold plsO
  rw [List.length_map]
  have e : (os.filter fun o => decide (o.x ∈ qu)).length = ((os.map (·.x)).filter fun x => decide (x ∈ qu)).length := by
    rw [List.filter_map, List.length_map]; rfl
  rw [e]
  apply Nat.le_antisymm
  · exact len_of_sub (hn.filter _) fun x hx => by simpa using (List.mem_filter.1 hx).2
  · exact len_of_sub hq fun x hx => List.mem_filter.2 ⟨hs x hx, by simpa using hx⟩
theorem framed_len : ∀ (ps : List (List UInt8)), (∀ p ∈ ps, p.length < 2 ^ 64) → (framed ps).length ≤ ps.flatten.length + 10 * ps.length
  | [], _ => by simp [framed]
  | p :: ps, h => by
    have h1 := framed_len ps fun q hq => h q (List.mem_cons_of_mem _ hq)
    have h2 := putU_le (h p List.mem_cons_self)
    show ((putU p.length ++ p) ++ framed ps).length ≤ _
    rw [List.length_append, List.length_append, List.flatten_cons, List.length_append, List.length_cons]
    omega
theorem putR_flat : ∀ {l : List Rg}, (∀ r ∈ l, okR r) → (putR l).flatten.length ≤ 2049 * l.length
  | [], _ => by simp [putR]
  | r :: l, h => by
    have h1 := putR_flat (l := l) fun q hq => h q (List.mem_cons_of_mem _ hq)
    have h2 := h r List.mem_cons_self
    have h3 := h2.1
    have h4 := h2.2.1
    have h5 : (flB r.ex).length = 1 := by cases r.ex <;> rfl
    show ([flB r.ex, r.fr, r.to] ++ putR l).flatten.length ≤ _
    rw [List.flatten_append, List.length_append, List.length_cons]
    simp only [List.flatten_cons, List.flatten_nil, List.append_nil, List.length_append]
    omega
theorem putR_lt {l : List Rg} (h : ∀ r ∈ l, okR r) : ∀ p ∈ putR l, p.length ≤ 1024 := fun p hp => by
  obtain ⟨r, hr, k⟩ := putR_mem hp
  have h1 := (h r hr).1
  have h2 := (h r hr).2.1
  rcases k with rfl | rfl | rfl
  · cases r.ex <;> decide
  · exact h1
  · exact h2
theorem putB_len {l : List Rg} (h : ∀ r ∈ l, okR r) : (putB l).length ≤ 2079 * l.length := by
  have h1 := framed_len (putR l) fun p hp => by have := putR_lt h p hp; omega
  have h2 := putR_flat h
  have h3 := putR_len l
  unfold putB
  omega
theorem encO_lt {qu : List Tx} {o : Ownr} (h : EncOk qu o) (hq : qu.length ≤ 1048576) : ∀ p ∈ encO qu o, p.length < 2 ^ 64 := fun p hp => by
  have h1 := putU_le h.s
  have h2 := putU_le h.q
  have h3 := putB_len h.hh
  have h4 := putB_len h.ha
  have h5 := h.few
  have h6 := h.len
  have h7 : plO qu o.x ≤ 1048576 := by
    unfold plO
    split
    · rename_i h; have := List.idxOf_lt_length_of_mem h; omega
    · omega
  have h8 := putU_le (n := plO qu o.x) (by omega)
  simp only [encO, List.mem_cons, List.not_mem_nil, or_false] at hp
  rcases hp with rfl | rfl | rfl | rfl
  · rw [List.length_append]; omega
  · omega
  · omega
  · omega
theorem enc_len4 {qu : List Tx} : ∀ os : List Ownr, (os.flatMap (encO qu)).length = 4 * os.length
  | [] => rfl
  | o :: os => by
    rw [List.flatMap_cons, List.length_append, enc_len4 os, List.length_cons]
    simp [encO]; omega
theorem decT_enc {tb : Tb} (hw : Wf tb) (hok : ∀ o ∈ tb.os, EncOk tb.qu o) (hq : tb.qu.length ≤ 1048576) : decT (encB tb) = (tb, 0) := by
  have hp : parts (encB tb) = (tb.os.flatMap (encO tb.qu), 0) := parts_framed fun p hp => by
    obtain ⟨o, ho, h⟩ := List.mem_flatMap.1 hp
    exact encO_lt (hok o ho) hq p h
  have hd : decL (tb.os.flatMap (encO tb.qu)) [] [] = ((tb.os, plsO tb.qu tb.os), 0) := by
    have := decL_enc hq tb.os [] [] hok hw.nd (by simp)
    simpa using this
  have hl := plsO_len hw.qn hw.nd hw.sub
  have hf : quF (plsO tb.qu tb.os) (List.range' 1 (plsO tb.qu tb.os).length) = some tb.qu := by
    rw [hl]
    refine quF_of tb.qu 1 fun i x hx => ?_
    have hm := List.mem_of_getElem? hx
    have := plAt_of (qu := tb.qu) (os := tb.os) hm (hw.sub x hm)
    have e : plO tb.qu x = 1 + i := by
      unfold plO
      rw [if_pos hm]
      have hi := (List.getElem?_eq_some_iff.1 hx).1
      have h2 := (List.getElem?_eq_some_iff.1 hx).2
      have h1 := List.idxOf_lt_length_of_mem hm
      have h3 : tb.qu[tb.qu.idxOf x]? = tb.qu[i]? := by rw [hx, List.getElem?_eq_getElem h1, List.getElem_idxOf]
      have := (List.getElem?_inj h1 hw.qn).1 h3
      omega
    rwa [e] at this
  unfold decT
  simp only [hp, hd, ne_eq, not_true, if_false, enc_len4, Nat.mul_mod_right, hf]
end Go.Proofs.Ytmdbjeabifkimaa
