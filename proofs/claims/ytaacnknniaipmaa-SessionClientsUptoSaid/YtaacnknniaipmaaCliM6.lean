/-
  The texts of this proof, joined: Xy, Xz, X0, X2, X3, X4.
-/
import Derived.Test.YtaacnknniaipmaaCliM5
import Derived.Test.YtaacnknniaipmaaCliM3

/-
  Walks over the comparison of packets: uses, messages, results.
-/
namespace Go.Proofs.Ytaacnknniaipmaa
open Go.RowKit

theorem tyBool24 : Try.prog.underlying 4 = some .bool := Try.underlying4
theorem bin_neqBb {P : Program} {t : TypeId} {a b : Bool} (ht : P.underlying t = some .bool) : BinV P .neq t (.bool a) (.bool b) (.bool (decide (a ≠ b))) := .mk fun x y w => by
  have h : ∀ d : Nat, (Op.equalIn (d + 1) t (.bool a) (.bool b)).run P w = .ok (a == b) w := fun d => by simp [Op.equalIn, run_underlying ht]
  simp [eqGuard, binOp, Op.equal, Op.maxDepth, h 9999]
  cases a <;> cases b <;> rfl
theorem bin_eqlBb {P : Program} {t : TypeId} {a b : Bool} (ht : P.underlying t = some .bool) : BinV P .eql t (.bool a) (.bool b) (.bool (decide (a = b))) := .mk fun x y w => by
  have h : ∀ d : Nat, (Op.equalIn (d + 1) t (.bool a) (.bool b)).run P w = .ok (a == b) w := fun d => by simp [Op.equalIn, run_underlying ht]
  simp [eqGuard, binOp, Op.equal, Op.maxDepth, h 9999]
  cases a <;> cases b <;> rfl
end Go.Proofs.Ytaacnknniaipmaa

/-
  Walks over the comparison of packets.
-/
namespace Go.Proofs.Ytaacnknniaipmaa
open Go.RowKit

/-- What is known of a packet's memory. -/
structure PkR (w : World) (p : PkM) (E M P W Y D : Option Addr) : Prop where
  rE : RdR 2 w All E (p.msg.ents.map etEl)
  rM : RdB w M p.msg.data
  rP : RdR 2 w All P (p.res.pairs.map prEl)
  rW : RdR 3 w All W (p.res.writes.map wrEl)
  rY : RdB w Y p.res.reply
  rD : RdB w D p.data
theorem PkR.below {w w' : World} {p : PkM} {E M P W Y D : Option Addr} (h : PkR w p E M P W Y D) (hb : Below w.heap.size w w') : PkR w' p E M P W Y D := ⟨h.rE.below hb, h.rM.below hb, h.rP.below hb, h.rW.below hb, h.rY.below hb, h.rD.below hb⟩
end Go.Proofs.Ytaacnknniaipmaa

/-
  Walk over the law SessionPackets.
-/
namespace Go.Proofs.Ytaacnknniaipmaa
open Go.RowKit

def rW (r : ResM) : Nat := r.reply.length + ((r.pairs.flatMap pairB).flatten).length + r.pairs.length + ((r.writes.flatMap wrB).flatten).length + r.writes.length
end Go.Proofs.Ytaacnknniaipmaa

/-
  The reader of plan: open, next, more, number, truth; replies as plain data, and how they are read.
-/
namespace Go.Proofs.Ytaacnknniaipmaa
open Go.RowKit

structure LcM where
  kind : Int
  b : Bool
  i : Int
  text : By
  data : By
def zLc : LcM := ⟨0, false, 0, [], []⟩
def numR (r : Rd1) : Int × Rd1 :=
  if (nextR r).2.2 = 0 then (iU (getU (nextR r).1 0).1, ((nextR r).2.1, if (getU (nextR r).1 0).2.2 = 0 ∧ (getU (nextR r).1 0).2.1 < ((nextR r).1.length : Int) then 3 else (getU (nextR r).1 0).2.2)) else (0, (nextR r).2)
def trR (r : Rd1) : Bool × Rd1 :=
  if (nextR r).2.2 = 0 then (if (nextR r).1 = [0] then (false, (nextR r).2) else if (nextR r).1 = [1] then (true, (nextR r).2) else (false, ((nextR r).2.1, 3))) else (false, (nextR r).2)
def cellT (r : Rd1) : LcM × Rd1 :=
  (⟨(numR r).1, (trR (numR r).2).1, (numR (trR (numR r).2).2).1, (nextR (numR (trR (numR r).2).2).2).1, (nextR (nextR (numR (trR (numR r).2).2).2).2).1⟩, (nextR (nextR (numR (trR (numR r).2).2).2).2).2)
/-- All that is left, one by one. -/
def allF {α : Type} (one : Rd1 → α × Rd1) : Nat → Rd1 → List α × Rd1
  | 0, r => ([], r)
  | f + 1, r => if r.2 = 0 ∧ r.1 ≠ [] then ((one r).1 :: (allF one f (one r).2).1, (allF one f (one r).2).2) else ([], r)
def allT {α : Type} (one : Rd1 → α × Rd1) (r : Rd1) : List α × Rd1 := allF one r.1.length r
def cellP (r : Rd1) : LcM × Rd1 := withinR zLc cellT r
def cellsP (r : Rd1) : List LcM × Rd1 := withinR [] (allT cellP) r
def rowsP (r : Rd1) : List (List LcM) × Rd1 := withinR [] (allT cellsP) r
structure RpM where
  err : Int
  at_ : Int
  rows : List (List (List LcM))
def zRp : RpM := ⟨0, 0, []⟩
def rplT (r : Rd1) : RpM × Rd1 := (⟨(numR r).1, (numR (numR r).2).1, (allT rowsP (numR (numR r).2).2).1⟩, (allT rowsP (numR (numR r).2).2).2)
def readRp (b : By) : RpM × Nat := if (rplT (parts b)).2.2 = 0 then ((rplT (parts b)).1, 0) else (zRp, (rplT (parts b)).2.2)
theorem num_rest {r : Rd1} : (numR r).2.1 = (nextR r).2.1 := by
  unfold numR
  split <;> rfl
theorem tr_rest {r : Rd1} : (trR r).2.1 = (nextR r).2.1 := by
  unfold trR
  split
  · split
    · rfl
    · split <;> rfl
  · rfl
theorem fa_Ld0 : FieldAt Try.prog 125 0 0 := fieldAt_mk Try.underlying125 rfl rfl (by kernel_rfl)
theorem fa_Ld1 : FieldAt Try.prog 125 1 1 := fieldAt_mk Try.underlying125 rfl rfl (by kernel_rfl)
/-- What a reader holds. -/
def ldV (A : Option Addr) (c : Nat) (r : Rd1) : List Value := [.slice A r.1.length c, .int .i64 (r.2 : Int)]
def ldP (g : Nat) (A : Option Addr) (c : Nat) (r : Rd1) : Cd := .blk g 125 (ldV A c r)
theorem lopen_any {A : Option Addr} {n c : Nat} {xs : By} {w : World} (hr : RdB w A xs) (hn : xs.length = n) (hc : xs.length ≤ c) (hl : xs.length ≤ 1099511627776) :
    CallsV Try.prog 36 #[.slice A n c] w fun v w' => ∃ (g : Nat) (B : Option Addr) (cb : Nat) (K : World → Prop), v = .pointer (some ⟨g, 0, none⟩) ∧ RdK K w.heap.size B cb (parts xs).1 ∧ St NoB w w' [ldP g B cb (parts xs), .ck (kp K)] := by
  subst hn
  have hs := St.init w
  refine calls_in (N := _) Try.func36 rfl Try.ntmps36 rfl ?_; show WC _ _ _ _ _ _
  refine wc_sr ?_; refine wl_as rfl rfl ?_; refine wl_ns ?_; refine wc_sr ?_; refine wl_mv rfl rfl ?_
  refine wl_call ok_codec_Parts (parts_any hr rfl hc hl) ⟨rfl, trivial⟩ rfl ?_
  rintro _ w1 ⟨B, cb, rfl, o_, hbx⟩
  obtain ⟨vs, hvs⟩ := RdW.of o_
  replace hs := hs.kpNew (K := fun w' => RdW w' w.heap.size B vs (parts xs).1) hbx hvs fun w'' hz hm => hvs.keep hz hm
  have hcb : (parts xs).1.length ≤ cb := by obtain ⟨vs2, o2, _⟩ := o_; exact Ow.capL o2
  clear hbx o_
  refine wl_mv rfl rfl ?_; apply wl_val; apply opv_extract; exact rfl; exact rfl; exact rfl; apply wl_val; apply opv_extract; exact rfl; exact rfl; exact rfl; refine wl_as rfl rfl ?_; refine wl_as rfl rfl ?_; refine wl_ns ?_; refine wc_sr ?_; refine wl_mv rfl rfl ?_; refine wl_mv rfl rfl ?_
  refine wl_val (opv_build (vs := [(0, .slice B (parts xs).1.length cb), (1, .int .i64 ((parts xs).2 : Int))]) (cs := ldV B cb (parts xs)) ⟨rfl, rfl, rfl, rfl, trivial⟩ (by kernel_rfl)) rfl ?_
  refine ws_box (cs := ldV B cb (parts xs)) hs rfl rfl ?_; clear hs; intro g1 _ hs
  refine wl_as rfl rfl ?_; refine wl_ns ?_; refine wc_ret ?_
  exact we_ret1 rfl rfl ⟨_, rfl, g1, B, cb, _, rfl, ⟨hcb, vs, fun _ h => h⟩, hs⟩
/-- The next part. -/
theorem lnext_any {g base : Nat} {A : Option Addr} {c : Nat} {r : Rd1} {S : BS} {w : World} {K : World → Prop} (h0 : Sat w [ldP g A c r] S) (hK : ∀ w', Mod S w w' → K w') (hr : RdK K base A c r.1) :
    CallsV Try.prog 65 #[.pointer (some ⟨g, 0, none⟩)] w fun v w' => ∃ (B : Option Addr) (cb : Nat) (A' : Option Addr) (c' : Nat), v = .slice B (nextR r).1.length cb ∧ (∀ w', K w' → OwB w' base B cb (nextR r).1) ∧ RdK K base A' c' (nextR r).2.1 ∧ St S w w' [ldP g A' c' (nextR r).2] := by
  have hs := St.start h0
  clear h0
  obtain ⟨rows, e⟩ := r
  obtain ⟨hc, vs, hv⟩ := hr
  unfold ldP ldV at hs
  dsimp only at hs hc hv
  unfold ldP ldV nextR
  dsimp only
  have ew : ∀ w', K w' → OwB w' base none 0 [] := fun w' _ => Ow.nil _ _ _
  refine calls_in (N := _) Try.func65 rfl Try.ntmps65 rfl ?_; show WC _ _ _ _ _ _
  refine wc_sr ?_; refine wl_as rfl rfl ?_; refine wl_ns ?_; refine wc_seq ?_; refine wc_sr ?_; refine wl_mv rfl rfl ?_; apply wl_val; apply opv_nilOk; exact rfl; exact rfl; apply wl_val; apply opv_fa; exact fa_Ld1; exact rfl; exact rfl; apply wl_val; apply opv_ldX; exact rfl; exact hs.ar 0 rfl; exact g1_err; exact rfl; exact rfl; refine wl_bin rfl rfl bin_eql rfl ?_; refine wl_mv rfl rfl ?_
  by_cases he : e = 0
  · subst he
    cases rows with
    | nil =>
      apply wl_take; exact rfl; exact rfl; exact rfl; refine bT ?_; omega; refine wl_mv rfl rfl ?_; apply wl_take; exact rfl; exact rfl; exact rfl; refine bT ?_; omega; apply wl_val; apply opv_nilOk; exact rfl; exact rfl; apply wl_take; exact rfl; exact rfl; exact rfl; refine bT ?_; omega; apply wl_val; apply opv_fa; exact fa_Ld0; exact rfl; exact rfl; apply wl_take; exact rfl; exact rfl; exact rfl; refine bT ?_; omega; apply wl_val; apply opv_ldX; exact rfl; exact hs.ar 0 rfl; exact g1_bbs; exact rfl; exact rfl; apply wl_take; exact rfl; exact rfl; exact rfl; refine bT ?_; omega; apply wl_val; apply opv_len; exact rfl; exact tyBB.sl; exact rfl; apply wl_take; exact rfl; exact rfl; exact rfl; refine bT ?_; omega; refine wl_bin rfl rfl bin_eql rfl ?_; apply wl_val; apply opv_pickT; exact rfl; refine bT ?_; omega; exact rfl; exact rfl; refine wl_ns ?_; apply wc_condTb; exact rfl; exact rfl; refine wc_region ?_; refine wl_mv rfl rfl ?_; apply wl_val; apply opv_nilOk; exact rfl; exact rfl; apply wl_val; apply opv_fa; exact fa_Ld1; exact rfl; exact rfl; apply ws_st hs 0; exact rfl; exact rfl; exact g1_err; exact rfl; exact rfl; exact rfl; clear hs; intro _ hs; dsimp only [setC, List.set] at hs; refine wl_ns ?_; refine wc_seq ?_; refine wc_sr ?_; refine wl_mv rfl rfl ?_; apply wl_val; apply opv_nilOk; exact rfl; exact rfl; apply wl_val; apply opv_fa; exact fa_Ld1; exact rfl; exact rfl; apply wl_val; apply opv_ldX; exact rfl; exact hs.ar 0 rfl; exact g1_err; exact rfl; exact rfl; refine wl_bin rfl rfl bin_neq rfl ?_; refine wl_ns ?_; apply wc_condTb; exact rfl; exact rfl; refine wc_sr ?_; refine wl_as rfl rfl ?_; refine wl_ns ?_; refine wc_ret ?_; refine we_seq_ret ?_
      exact we_ret1 rfl rfl ⟨_, rfl, none, 0, A, c, rfl, ew, ⟨hc, vs, hv⟩, hs⟩
    | cons p ps =>
      rw [if_pos rfl]
      have hw := hv _ (hK _ hs.1)
      obtain ⟨B, cb, h1⟩ := hw.head
      have hrow := hw.1
      apply wl_take; exact rfl; exact rfl; exact rfl; refine bT ?_; omega; refine wl_mv rfl rfl ?_; apply wl_take; exact rfl; exact rfl; exact rfl; refine bT ?_; omega; apply wl_val; apply opv_nilOk; exact rfl; exact rfl; apply wl_take; exact rfl; exact rfl; exact rfl; refine bT ?_; omega; apply wl_val; apply opv_fa; exact fa_Ld0; exact rfl; exact rfl; apply wl_take; exact rfl; exact rfl; exact rfl; refine bT ?_; omega; apply wl_val; apply opv_ldX; exact rfl; exact hs.ar 0 rfl; exact g1_bbs; exact rfl; exact rfl; apply wl_take; exact rfl; exact rfl; exact rfl; refine bT ?_; omega; apply wl_val; apply opv_len; exact rfl; exact tyBB.sl; exact rfl; apply wl_take; exact rfl; exact rfl; exact rfl; refine bT ?_; omega; refine wl_bin rfl rfl bin_eql rfl ?_; apply wl_val; apply opv_pickT; exact rfl; refine bT ?_; omega; exact rfl; exact rfl; refine wl_ns ?_; apply wc_condFb; exact rfl; exact rfl; refine wc_skip ?_; refine we_seq ?_; refine wc_seq ?_; refine wc_sr ?_; refine wl_mv rfl rfl ?_; apply wl_val; apply opv_nilOk; exact rfl; exact rfl; apply wl_val; apply opv_fa; exact fa_Ld1; exact rfl; exact rfl; apply wl_val; apply opv_ldX; exact rfl; exact hs.ar 0 rfl; exact g1_err; exact rfl; exact rfl; refine wl_bin rfl rfl bin_neq rfl ?_; refine wl_ns ?_; apply wc_condFb; exact rfl; exact rfl; refine wc_skip ?_; refine we_seq ?_; refine wc_sr ?_; refine wl_mv rfl rfl ?_; apply wl_val; apply opv_nilOk; exact rfl; exact rfl; apply wl_val; apply opv_fa; exact fa_Ld0; exact rfl; exact rfl; apply wl_val; apply opv_ldX; exact rfl; exact hs.ar 0 rfl; exact g1_bbs; exact rfl; exact rfl
      refine wl_val (opv_idxR (kk := 0) (u := .slice B p.length cb) tyBB rfl rfl hrow rfl h1) rfl ?_
      refine wl_val (opv_loadR (kk := 0) (u := .slice B p.length cb) tyBB rfl hrow h1) rfl ?_
      refine wl_as rfl rfl ?_; refine wl_ns ?_; refine wc_sr ?_; refine wl_mv rfl rfl ?_; refine wl_mv rfl rfl ?_; apply wl_val; apply opv_nilOk; exact rfl; exact rfl; apply wl_val; apply opv_fa; exact fa_Ld0; exact rfl; exact rfl; apply wl_val; apply opv_ldX; exact rfl; exact hs.ar 0 rfl; exact g1_bbs; exact rfl; exact rfl
      refine wl_sl (l := 1) (h := ps.length + 1) tyBB rfl ⟨_, rfl⟩ rfl (by omega) hc rfl ?_
      apply wl_val; apply opv_nilOk; exact rfl; exact rfl; apply wl_val; apply opv_fa; exact fa_Ld0; exact rfl; exact rfl; apply ws_st hs 0; exact rfl; exact rfl; exact g1_bbs; exact rfl; exact rfl; exact rfl; clear hs; intro _ hs; dsimp only [setC, List.set] at hs; refine wl_ns ?_; refine wc_sr ?_; refine wl_mv rfl rfl ?_; refine wl_as rfl rfl ?_; refine wl_ns ?_; refine wc_ret ?_
      exact we_ret1 rfl rfl ⟨_, rfl, B, cb, _, _, rfl, fun w' k => (hv w' k).own h1, ⟨by simp at hc ⊢; omega, vs.drop 1, fun w' k => (hv w' k).tail hc⟩, hs⟩
  · rw [if_neg he]
    apply wl_skip; exact rfl; exact rfl; exact rfl; refine bFn ?_; omega; exact rfl; apply wl_skip; exact rfl; exact rfl; exact rfl; refine bFn ?_; omega; exact rfl; apply wl_skip; exact rfl; exact rfl; exact rfl; refine bFn ?_; omega; exact rfl; apply wl_skip; exact rfl; exact rfl; exact rfl; refine bFn ?_; omega; exact rfl; apply wl_skip; exact rfl; exact rfl; exact rfl; refine bFn ?_; omega; exact rfl; apply wl_skip; exact rfl; exact rfl; exact rfl; refine bFn ?_; omega; exact rfl; apply wl_val; apply opv_pickF; exact rfl; refine bF ?_; omega; exact rfl; exact rfl; refine wl_ns ?_; apply wc_condFb; exact rfl; exact rfl; refine wc_skip ?_; refine we_seq ?_; refine wc_seq ?_; refine wc_sr ?_; refine wl_mv rfl rfl ?_; apply wl_val; apply opv_nilOk; exact rfl; exact rfl; apply wl_val; apply opv_fa; exact fa_Ld1; exact rfl; exact rfl; apply wl_val; apply opv_ldX; exact rfl; exact hs.ar 0 rfl; exact g1_err; exact rfl; exact rfl; refine wl_bin rfl rfl bin_neq rfl ?_; refine wl_ns ?_; apply wc_decT; exact rfl; omega; refine wc_sr ?_; refine wl_as rfl rfl ?_; refine wl_ns ?_; refine wc_ret ?_; refine we_seq_ret ?_
    exact we_ret1 rfl rfl ⟨_, rfl, none, 0, A, c, rfl, ew, ⟨hc, vs, hv⟩, hs⟩
theorem lmore_any {g : Nat} {A : Option Addr} {c : Nat} {r : Rd1} {w : World} (ha : Ar w g 125 (ldV A c r)) :
    CallsV Try.prog 38 #[.pointer (some ⟨g, 0, none⟩)] w fun v w' => v = .bool (decide (r.2 = 0 ∧ r.1 ≠ [])) ∧ w = w' := by
  obtain ⟨rows, e⟩ := r
  unfold ldV at ha
  dsimp only at ha ⊢
  refine calls_in (N := _) Try.func38 rfl Try.ntmps38 rfl ?_; show WC _ _ _ _ _ _
  refine wc_sr ?_; refine wl_as rfl rfl ?_; refine wl_ns ?_; refine wc_sr ?_; refine wl_mv rfl rfl ?_; apply wl_val; apply opv_nilOk; exact rfl; exact rfl; apply wl_val; apply opv_fa; exact fa_Ld1; exact rfl; exact rfl; apply wl_val; apply opv_ldX; exact rfl; assumption; exact g1_err; exact rfl; exact rfl; refine wl_bin rfl rfl bin_eql rfl ?_; refine wl_mv rfl rfl ?_
  by_cases he : e = 0
  · subst he
    cases rows with
    | nil =>
      apply wl_take; exact rfl; exact rfl; exact rfl; refine bT ?_; omega; refine wl_mv rfl rfl ?_; apply wl_take; exact rfl; exact rfl; exact rfl; refine bT ?_; omega; apply wl_val; apply opv_nilOk; exact rfl; exact rfl; apply wl_take; exact rfl; exact rfl; exact rfl; refine bT ?_; omega; apply wl_val; apply opv_fa; exact fa_Ld0; exact rfl; exact rfl; apply wl_take; exact rfl; exact rfl; exact rfl; refine bT ?_; omega; apply wl_val; apply opv_ldX; exact rfl; assumption; exact g1_bbs; exact rfl; exact rfl; apply wl_take; exact rfl; exact rfl; exact rfl; refine bT ?_; omega; apply wl_val; apply opv_len; exact rfl; exact tyBB.sl; exact rfl; apply wl_take; exact rfl; exact rfl; exact rfl; refine bT ?_; omega; refine wl_bin rfl rfl bin_gtr rfl ?_; apply wl_val; apply opv_pickT; exact rfl; refine bT ?_; omega; exact rfl; exact rfl; refine wl_as rfl rfl ?_; refine wl_ns ?_; refine wc_ret ?_
      exact we_ret1 rfl rfl ⟨_, rfl, by simp, rfl⟩
    | cons p ps =>
      apply wl_take; exact rfl; exact rfl; exact rfl; refine bT ?_; omega; refine wl_mv rfl rfl ?_; apply wl_take; exact rfl; exact rfl; exact rfl; refine bT ?_; omega; apply wl_val; apply opv_nilOk; exact rfl; exact rfl; apply wl_take; exact rfl; exact rfl; exact rfl; refine bT ?_; omega; apply wl_val; apply opv_fa; exact fa_Ld0; exact rfl; exact rfl; apply wl_take; exact rfl; exact rfl; exact rfl; refine bT ?_; omega; apply wl_val; apply opv_ldX; exact rfl; assumption; exact g1_bbs; exact rfl; exact rfl; apply wl_take; exact rfl; exact rfl; exact rfl; refine bT ?_; omega; apply wl_val; apply opv_len; exact rfl; exact tyBB.sl; exact rfl; apply wl_take; exact rfl; exact rfl; exact rfl; refine bT ?_; omega; refine wl_bin rfl rfl bin_gtr rfl ?_; apply wl_val; apply opv_pickT; exact rfl; refine bT ?_; omega; exact rfl; exact rfl; refine wl_as rfl rfl ?_; refine wl_ns ?_; refine wc_ret ?_
      exact we_ret1 rfl rfl ⟨_, rfl, by simp, rfl⟩
  · apply wl_skip; exact rfl; exact rfl; exact rfl; refine bFn ?_; omega; exact rfl; apply wl_skip; exact rfl; exact rfl; exact rfl; refine bFn ?_; omega; exact rfl; apply wl_skip; exact rfl; exact rfl; exact rfl; refine bFn ?_; omega; exact rfl; apply wl_skip; exact rfl; exact rfl; exact rfl; refine bFn ?_; omega; exact rfl; apply wl_skip; exact rfl; exact rfl; exact rfl; refine bFn ?_; omega; exact rfl; apply wl_skip; exact rfl; exact rfl; exact rfl; refine bFn ?_; omega; exact rfl; apply wl_val; apply opv_pickF; exact rfl; refine bF ?_; omega; exact rfl; exact rfl; refine wl_as rfl rfl ?_; refine wl_ns ?_; refine wc_ret ?_
    exact we_ret1 rfl rfl ⟨_, rfl, by simp [he], rfl⟩
theorem lnum_any {g base : Nat} {A : Option Addr} {c : Nat} {r : Rd1} {S : BS} {w : World} {K : World → Prop} (h0 : Sat w [ldP g A c r] S) (hK : ∀ w', Mod S w w' → K w') (hr : RdK K base A c r.1) (hl : ∀ p ∈ r.1, p.length ≤ 1099511627776) :
    CallsV Try.prog 37 #[.pointer (some ⟨g, 0, none⟩)] w fun v w' => ∃ (A' : Option Addr) (c' : Nat), v = .int .i64 (numR r).1 ∧ RdK K base A' c' (numR r).2.1 ∧ St S w w' [ldP g A' c' (numR r).2] := by
  have hs := St.start h0
  have hmax : maxLen = 9223372036854775807 := rfl
  have hpl := next_len hl
  refine calls_in (N := _) Try.func37 rfl Try.ntmps37 rfl ?_; show WC _ _ _ _ _ _
  refine wc_sr ?_; refine wl_as rfl rfl ?_; refine wl_ns ?_; refine wc_sr ?_; refine wl_mv rfl rfl ?_
  obtain ⟨S2, hS2, hB2, hM2, hH2, hB⟩ := St.lend (H1 := [ldP g A c r]) (H2 := []) hs
  refine wl_call ok_plan_reader_next (lnext_any hS2 (fun w' k => hK w' (hM2 w' k)) hr) ⟨rfl, trivial⟩ rfl ?_
  rintro _ _ ⟨B, cb, A', c', rfl, hB0, hr0, hsx⟩
  replace hs := hB _ _ hsx
  clear hsx hB hH2 hM2 hB2 hS2
  dsimp only [List.cons_append, List.nil_append] at hs
  have hfit := getU_fits (nextR r).1 0
  have hrng := getU_rngW (nextR r).1 0 hpl
  unfold numR
  obtain ⟨p, hp⟩ : ∃ p, (nextR r).1 = p := ⟨_, rfl⟩
  obtain ⟨⟨rows, e⟩, hr2⟩ : ∃ p, (nextR r).2 = p := ⟨_, rfl⟩
  rw [hp] at hB0 hpl hfit hrng ⊢
  rw [hr2] at hs hr0 ⊢
  dsimp only at hr0 ⊢
  unfold ldP ldV at hs
  dsimp only at hs
  refine wl_as rfl rfl ?_; refine wl_ns ?_; refine wc_seq ?_; refine wc_sr ?_; refine wl_mv rfl rfl ?_; apply wl_val; apply opv_nilOk; exact rfl; exact rfl; apply wl_val; apply opv_fa; exact fa_Ld1; exact rfl; exact rfl; apply wl_val; apply opv_ldX; exact rfl; exact hs.ar 0 rfl; exact g1_err; exact rfl; exact rfl; refine wl_bin rfl rfl bin_neq rfl ?_; refine wl_ns ?_
  by_cases he : e = 0
  · subst he
    rw [if_pos rfl]
    apply wc_condFb; exact rfl; exact rfl; refine wc_skip ?_; refine we_seq ?_; refine wc_sr ?_; refine wl_mv rfl rfl ?_
    refine wl_call ok_codec_GetU (getU_any (hB0 _ (hK _ hs.1)).rd rfl (by omega) (by omega)) ⟨rfl, rfl, trivial⟩ rfl ?_
    rintro _ _ ⟨rfl, hbx⟩
    replace hs := hs.below hbx
    clear hbx
    obtain ⟨x, hx⟩ : ∃ x, (getU p 0).1 = x := ⟨_, rfl⟩
    obtain ⟨q2, hq2⟩ : ∃ x, (getU p 0).2.1 = x := ⟨_, rfl⟩
    obtain ⟨e2, he2⟩ : ∃ x, (getU p 0).2.2 = x := ⟨_, rfl⟩
    rw [hx] at hfit
    rw [hx, hq2, he2]
    by_cases h2 : e2 = 0
    · subst h2
      by_cases h3 : q2 < (p.length : Int)
      · rw [if_pos ⟨rfl, h3⟩]
        refine wl_mv rfl rfl ?_; apply wl_val; apply opv_extract; exact rfl; exact rfl; exact rfl; apply wl_val; apply opv_extract; exact rfl; exact rfl; exact rfl; apply wl_val; apply opv_extract; exact rfl; exact rfl; exact rfl; refine wl_as rfl rfl ?_; refine wl_as rfl rfl ?_; refine wl_as rfl rfl ?_; refine wl_ns ?_; refine wc_seq ?_; refine wc_sr ?_; refine wl_mv rfl rfl ?_; refine wl_bin rfl rfl bin_eql rfl ?_; refine wl_mv rfl rfl ?_; apply wl_take; exact rfl; exact rfl; exact rfl; refine bT ?_; omega; refine wl_mv rfl rfl ?_; apply wl_take; exact rfl; exact rfl; exact rfl; refine bT ?_; omega; refine wl_mv rfl rfl ?_; apply wl_take; exact rfl; exact rfl; exact rfl; refine bT ?_; omega; apply wl_val; apply opv_len; exact rfl; exact tyB.sl; exact rfl; apply wl_take; exact rfl; exact rfl; exact rfl; refine bT ?_; omega; refine wl_bin rfl rfl bin_lss rfl ?_; apply wl_val; apply opv_pickT; exact rfl; refine bT ?_; omega; exact rfl; exact rfl; refine wl_ns ?_; apply wc_decT; exact rfl; (with_reducible assumption); refine wc_region ?_; refine wl_as rfl rfl ?_; refine wl_ns ?_; refine wc_sr ?_; refine wl_mv rfl rfl ?_; refine wl_mv rfl rfl ?_; apply wl_val; apply opv_nilOk; exact rfl; exact rfl; apply wl_val; apply opv_fa; exact fa_Ld1; exact rfl; exact rfl; apply ws_st hs 0; exact rfl; exact rfl; exact g1_err; exact rfl; exact rfl; exact rfl; clear hs; intro _ hs; dsimp only [setC, List.set] at hs; refine wl_ns ?_; refine wc_sr ?_; refine wl_mv rfl rfl ?_
        refine wl_val (opv_convR rfl Try.underlying22 Try.underlying3 (wrap_iU hfit)) rfl ?_
        dsimp only
        refine wl_as rfl rfl ?_; refine wl_ns ?_; refine wc_ret ?_
        exact we_ret1 rfl rfl ⟨_, rfl, A', c', rfl, hr0, hs⟩
      · rw [if_neg (fun k => h3 k.2)]
        refine wl_mv rfl rfl ?_; apply wl_val; apply opv_extract; exact rfl; exact rfl; exact rfl; apply wl_val; apply opv_extract; exact rfl; exact rfl; exact rfl; apply wl_val; apply opv_extract; exact rfl; exact rfl; exact rfl; refine wl_as rfl rfl ?_; refine wl_as rfl rfl ?_; refine wl_as rfl rfl ?_; refine wl_ns ?_; refine wc_seq ?_; refine wc_sr ?_; refine wl_mv rfl rfl ?_; refine wl_bin rfl rfl bin_eql rfl ?_; refine wl_mv rfl rfl ?_; apply wl_take; exact rfl; exact rfl; exact rfl; refine bT ?_; omega; refine wl_mv rfl rfl ?_; apply wl_take; exact rfl; exact rfl; exact rfl; refine bT ?_; omega; refine wl_mv rfl rfl ?_; apply wl_take; exact rfl; exact rfl; exact rfl; refine bT ?_; omega; apply wl_val; apply opv_len; exact rfl; exact tyB.sl; exact rfl; apply wl_take; exact rfl; exact rfl; exact rfl; refine bT ?_; omega; refine wl_bin rfl rfl bin_lss rfl ?_; apply wl_val; apply opv_pickT; exact rfl; refine bT ?_; omega; exact rfl; exact rfl; refine wl_ns ?_; apply wc_decF; exact rfl; (with_reducible assumption); refine wc_skip ?_; refine we_seq ?_; refine wc_sr ?_; refine wl_mv rfl rfl ?_; refine wl_mv rfl rfl ?_; apply wl_val; apply opv_nilOk; exact rfl; exact rfl; apply wl_val; apply opv_fa; exact fa_Ld1; exact rfl; exact rfl; apply ws_st hs 0; exact rfl; exact rfl; exact g1_err; exact rfl; exact rfl; exact rfl; clear hs; intro _ hs; dsimp only [setC, List.set] at hs; refine wl_ns ?_; refine wc_sr ?_; refine wl_mv rfl rfl ?_
        refine wl_val (opv_convR rfl Try.underlying22 Try.underlying3 (wrap_iU hfit)) rfl ?_
        dsimp only
        refine wl_as rfl rfl ?_; refine wl_ns ?_; refine wc_ret ?_
        exact we_ret1 rfl rfl ⟨_, rfl, A', c', rfl, hr0, hs⟩
    · rw [if_neg (fun k => h2 k.1)]
      refine wl_mv rfl rfl ?_; apply wl_val; apply opv_extract; exact rfl; exact rfl; exact rfl; apply wl_val; apply opv_extract; exact rfl; exact rfl; exact rfl; apply wl_val; apply opv_extract; exact rfl; exact rfl; exact rfl; refine wl_as rfl rfl ?_; refine wl_as rfl rfl ?_; refine wl_as rfl rfl ?_; refine wl_ns ?_; refine wc_seq ?_; refine wc_sr ?_; refine wl_mv rfl rfl ?_; refine wl_bin rfl rfl bin_eql rfl ?_; refine wl_mv rfl rfl ?_; apply wl_skip; exact rfl; exact rfl; exact rfl; refine bFn ?_; omega; exact rfl; apply wl_skip; exact rfl; exact rfl; exact rfl; refine bFn ?_; omega; exact rfl; apply wl_skip; exact rfl; exact rfl; exact rfl; refine bFn ?_; omega; exact rfl; apply wl_skip; exact rfl; exact rfl; exact rfl; refine bFn ?_; omega; exact rfl; apply wl_val; apply opv_pickF; exact rfl; refine bF ?_; omega; exact rfl; exact rfl; refine wl_ns ?_; apply wc_condFb; exact rfl; exact rfl; refine wc_skip ?_; refine we_seq ?_; refine wc_sr ?_; refine wl_mv rfl rfl ?_; refine wl_mv rfl rfl ?_; apply wl_val; apply opv_nilOk; exact rfl; exact rfl; apply wl_val; apply opv_fa; exact fa_Ld1; exact rfl; exact rfl; apply ws_st hs 0; exact rfl; exact rfl; exact g1_err; exact rfl; exact rfl; exact rfl; clear hs; intro _ hs; dsimp only [setC, List.set] at hs; refine wl_ns ?_; refine wc_sr ?_; refine wl_mv rfl rfl ?_
      refine wl_val (opv_convR rfl Try.underlying22 Try.underlying3 (wrap_iU hfit)) rfl ?_
      dsimp only
      refine wl_as rfl rfl ?_; refine wl_ns ?_; refine wc_ret ?_
      exact we_ret1 rfl rfl ⟨_, rfl, A', c', rfl, hr0, hs⟩
  · rw [if_neg he]
    apply wc_decT; exact rfl; omega; refine wc_sr ?_; refine wl_as rfl rfl ?_; refine wl_ns ?_; refine wc_ret ?_; refine we_seq_ret ?_
    exact we_ret1 rfl rfl ⟨_, rfl, A', c', rfl, hr0, hs⟩
theorem u8one {x : UInt8} (h : (x.toNat : Int) = 1) : x = 1 := UInt8.toNat_inj.1 (show x.toNat = 1 by omega)
theorem u8zero {x : UInt8} (h : ¬ 1 < (x.toNat : Int)) (h2 : ¬ (x.toNat : Int) = 1) : x = 0 := UInt8.toNat_inj.1 (show x.toNat = 0 by omega)
theorem u8big0 {x : UInt8} (h : 1 < (x.toNat : Int)) : ¬ ([x] : By) = [0] := by
  intro k
  have k2 : x = 0 := (List.cons.inj k).1
  rw [k2] at h
  exact absurd h (by decide)
theorem u8big1 {x : UInt8} (h : 1 < (x.toNat : Int)) : ¬ ([x] : By) = [1] := by
  intro k
  have k2 : x = 1 := (List.cons.inj k).1
  rw [k2] at h
  exact absurd h (by decide)
theorem ltruth_any {g base : Nat} {A : Option Addr} {c : Nat} {r : Rd1} {S : BS} {w : World} {K : World → Prop} (h0 : Sat w [ldP g A c r] S) (hK : ∀ w', Mod S w w' → K w') (hr : RdK K base A c r.1) (hl : ∀ p ∈ r.1, p.length ≤ 1099511627776) :
    CallsV Try.prog 87 #[.pointer (some ⟨g, 0, none⟩)] w fun v w' => ∃ (A' : Option Addr) (c' : Nat), v = .bool (trR r).1 ∧ RdK K base A' c' (trR r).2.1 ∧ St S w w' [ldP g A' c' (trR r).2] := by
  have hs := St.start h0
  have hpl := next_len hl
  refine calls_in (N := _) Try.func87 rfl Try.ntmps87 rfl ?_; show WC _ _ _ _ _ _
  refine wc_sr ?_; refine wl_as rfl rfl ?_; refine wl_ns ?_; refine wc_sr ?_; refine wl_mv rfl rfl ?_
  obtain ⟨S2, hS2, hB2, hM2, hH2, hB⟩ := St.lend (H1 := [ldP g A c r]) (H2 := []) hs
  refine wl_call ok_plan_reader_next (lnext_any hS2 (fun w' k => hK w' (hM2 w' k)) hr) ⟨rfl, trivial⟩ rfl ?_
  rintro _ _ ⟨B, cb, A', c', rfl, hB0, hr0, hsx⟩
  replace hs := hB _ _ hsx
  clear hsx hB hH2 hM2 hB2 hS2
  dsimp only [List.cons_append, List.nil_append] at hs
  unfold trR
  obtain ⟨p, hp⟩ : ∃ p, (nextR r).1 = p := ⟨_, rfl⟩
  obtain ⟨⟨rows, e⟩, hr2⟩ : ∃ p, (nextR r).2 = p := ⟨_, rfl⟩
  rw [hp] at hB0 hpl ⊢
  rw [hr2] at hs hr0 ⊢
  dsimp only at hr0 ⊢
  unfold ldP ldV at hs
  dsimp only at hs
  refine wl_as rfl rfl ?_; refine wl_ns ?_; refine wc_seq ?_; refine wc_sr ?_; refine wl_mv rfl rfl ?_; apply wl_val; apply opv_nilOk; exact rfl; exact rfl; apply wl_val; apply opv_fa; exact fa_Ld1; exact rfl; exact rfl; apply wl_val; apply opv_ldX; exact rfl; exact hs.ar 0 rfl; exact g1_err; exact rfl; exact rfl; refine wl_bin rfl rfl bin_eql rfl ?_; refine wl_mv rfl rfl ?_
  by_cases he : e = 0
  · subst he
    rw [if_pos rfl]
    have hrd := (hB0 _ (hK _ hs.1)).rd
    match p, hrd, hpl with
    | [], hrd, hpl =>
      have hl1 : ¬ (([] : By).length : Int) = 1 := by decide
      rw [if_neg (by simp), if_neg (by simp)]
      apply wl_take; exact rfl; exact rfl; exact rfl; refine bT ?_; omega; refine wl_mv rfl rfl ?_; apply wl_take; exact rfl; exact rfl; exact rfl; refine bT ?_; omega; apply wl_val; apply opv_len; exact rfl; exact tyB.sl; exact rfl; apply wl_take; exact rfl; exact rfl; exact rfl; refine bT ?_; omega; refine wl_bin rfl rfl bin_neq rfl ?_; apply wl_take; exact rfl; exact rfl; exact rfl; refine bT ?_; omega; refine wl_mv rfl rfl ?_; apply wl_skip; exact rfl; exact rfl; exact rfl; refine bTn ?_; (with_reducible assumption); exact rfl; apply wl_skip; exact rfl; exact rfl; exact rfl; refine bTn ?_; (with_reducible assumption); exact rfl; apply wl_skip; exact rfl; exact rfl; exact rfl; refine bTn ?_; (with_reducible assumption); exact rfl; apply wl_skip; exact rfl; exact rfl; exact rfl; refine bTn ?_; (with_reducible assumption); exact rfl; apply wl_take; exact rfl; exact rfl; exact rfl; refine bT ?_; omega; apply wl_val; apply opv_pickT; exact rfl; refine bT ?_; (with_reducible assumption); exact rfl; exact rfl; apply wl_val; apply opv_pickT; exact rfl; refine bT ?_; omega; exact rfl; exact rfl; refine wl_ns ?_; apply wc_condTb; exact rfl; exact rfl; refine wc_region ?_; refine wl_mv rfl rfl ?_; apply wl_val; apply opv_nilOk; exact rfl; exact rfl; apply wl_val; apply opv_fa; exact fa_Ld1; exact rfl; exact rfl; apply ws_st hs 0; exact rfl; exact rfl; exact g1_err; exact rfl; exact rfl; exact rfl; clear hs; intro _ hs; dsimp only [setC, List.set] at hs; refine wl_ns ?_; refine wc_sr ?_; refine wl_mv rfl rfl ?_; apply wl_val; apply opv_nilOk; exact rfl; exact rfl; apply wl_val; apply opv_fa; exact fa_Ld1; exact rfl; exact rfl; apply wl_val; apply opv_ldX; exact rfl; exact hs.ar 0 rfl; exact g1_err; exact rfl; exact rfl; refine wl_bin rfl rfl bin_eql rfl ?_; refine wl_mv rfl rfl ?_; apply wl_skip; exact rfl; exact rfl; exact rfl; refine bFn ?_; omega; exact rfl; apply wl_skip; exact rfl; exact rfl; exact rfl; refine bFn ?_; omega; exact rfl; apply wl_skip; exact rfl; exact rfl; exact rfl; refine bFn ?_; omega; exact rfl; apply wl_skip; exact rfl; exact rfl; exact rfl; refine bFn ?_; omega; exact rfl; apply wl_val; apply opv_pickF; exact rfl; refine bF ?_; omega; exact rfl; exact rfl; refine wl_as rfl rfl ?_; refine wl_ns ?_; refine wc_ret ?_
      exact we_ret1 rfl rfl ⟨_, rfl, A', c', rfl, hr0, hs⟩
    | [x], hrd, hpl =>
      have hl1 : (([x] : By).length : Int) = 1 := rfl
      have hxl := x.toNat_lt
      have hu : (bvs [x])[0]? = some (.int .u8 (x.toNat : Int)) := rfl
      by_cases h1 : 1 < (x.toNat : Int)
      · have n0 : ¬ ([x] : By) = [0] := u8big0 h1
        have n1 : ¬ ([x] : By) = [1] := u8big1 h1
        rw [if_neg n0, if_neg n1]
        apply wl_take; exact rfl; exact rfl; exact rfl; refine bT ?_; omega; refine wl_mv rfl rfl ?_; apply wl_take; exact rfl; exact rfl; exact rfl; refine bT ?_; omega; apply wl_val; apply opv_len; exact rfl; exact tyB.sl; exact rfl; apply wl_take; exact rfl; exact rfl; exact rfl; refine bT ?_; omega; refine wl_bin rfl rfl bin_neq rfl ?_; apply wl_take; exact rfl; exact rfl; exact rfl; refine bT ?_; omega; refine wl_mv rfl rfl ?_; apply wl_take; exact rfl; exact rfl; exact rfl; refine bF ?_; omega; refine wl_mv rfl rfl ?_; apply wl_take; exact rfl; exact rfl; exact rfl; refine bF ?_; omega
        refine wl_val (opv_idxR (kk := 0) (u := .int .u8 (x.toNat : Int)) tyB rfl rfl hrd rfl hu) rfl ?_
        refine wl_take rfl rfl rfl (by first | rfl | exact bF nne) ?_
        refine wl_val (opv_loadR (kk := 0) (u := .int .u8 (x.toNat : Int)) tyB rfl hrd hu) rfl ?_
        dsimp only
        apply wl_take; exact rfl; exact rfl; exact rfl; refine bF ?_; omega; refine wl_bin rfl rfl bin_gtr rfl ?_; apply wl_take; exact rfl; exact rfl; exact rfl; refine bT ?_; omega; apply wl_val; apply opv_pickF; exact rfl; refine bF ?_; omega; exact rfl; exact rfl; apply wl_val; apply opv_pickT; exact rfl; refine bT ?_; omega; exact rfl; exact rfl; refine wl_ns ?_; apply wc_decT; exact rfl; (with_reducible assumption); refine wc_region ?_; refine wl_mv rfl rfl ?_; apply wl_val; apply opv_nilOk; exact rfl; exact rfl; apply wl_val; apply opv_fa; exact fa_Ld1; exact rfl; exact rfl; apply ws_st hs 0; exact rfl; exact rfl; exact g1_err; exact rfl; exact rfl; exact rfl; clear hs; intro _ hs; dsimp only [setC, List.set] at hs; refine wl_ns ?_; refine wc_sr ?_; refine wl_mv rfl rfl ?_; apply wl_val; apply opv_nilOk; exact rfl; exact rfl; apply wl_val; apply opv_fa; exact fa_Ld1; exact rfl; exact rfl; apply wl_val; apply opv_ldX; exact rfl; exact hs.ar 0 rfl; exact g1_err; exact rfl; exact rfl; refine wl_bin rfl rfl bin_eql rfl ?_; refine wl_mv rfl rfl ?_; apply wl_skip; exact rfl; exact rfl; exact rfl; refine bFn ?_; omega; exact rfl; apply wl_skip; exact rfl; exact rfl; exact rfl; refine bFn ?_; omega; exact rfl; apply wl_skip; exact rfl; exact rfl; exact rfl; refine bFn ?_; omega; exact rfl; apply wl_skip; exact rfl; exact rfl; exact rfl; refine bFn ?_; omega; exact rfl; apply wl_val; apply opv_pickF; exact rfl; refine bF ?_; omega; exact rfl; exact rfl; refine wl_as rfl rfl ?_; refine wl_ns ?_; refine wc_ret ?_
        exact we_ret1 rfl rfl ⟨_, rfl, A', c', rfl, hr0, hs⟩
      · by_cases h2 : (x.toNat : Int) = 1
        · have e1 : ([x] : By) = [1] := by rw [u8one h2]
          have n0 : ¬ ([x] : By) = [0] := by rw [e1]; decide
          rw [if_neg n0, if_pos e1]
          apply wl_take; exact rfl; exact rfl; exact rfl; refine bT ?_; omega; refine wl_mv rfl rfl ?_; apply wl_take; exact rfl; exact rfl; exact rfl; refine bT ?_; omega; apply wl_val; apply opv_len; exact rfl; exact tyB.sl; exact rfl; apply wl_take; exact rfl; exact rfl; exact rfl; refine bT ?_; omega; refine wl_bin rfl rfl bin_neq rfl ?_; apply wl_take; exact rfl; exact rfl; exact rfl; refine bT ?_; omega; refine wl_mv rfl rfl ?_; apply wl_take; exact rfl; exact rfl; exact rfl; refine bF ?_; omega; refine wl_mv rfl rfl ?_; apply wl_take; exact rfl; exact rfl; exact rfl; refine bF ?_; omega
          refine wl_val (opv_idxR (kk := 0) (u := .int .u8 (x.toNat : Int)) tyB rfl rfl hrd rfl hu) rfl ?_
          refine wl_take rfl rfl rfl (by first | rfl | exact bF nne) ?_
          refine wl_val (opv_loadR (kk := 0) (u := .int .u8 (x.toNat : Int)) tyB rfl hrd hu) rfl ?_
          apply wl_take; exact rfl; exact rfl; exact rfl; refine bF ?_; omega; refine wl_bin rfl rfl bin_gtr rfl ?_; apply wl_take; exact rfl; exact rfl; exact rfl; refine bT ?_; omega; apply wl_val; apply opv_pickF; exact rfl; refine bF ?_; omega; exact rfl; exact rfl; apply wl_val; apply opv_pickT; exact rfl; refine bT ?_; omega; exact rfl; exact rfl; refine wl_ns ?_; apply wc_decF; exact rfl; (with_reducible assumption); refine wc_skip ?_; refine we_seq ?_; refine wc_sr ?_; refine wl_mv rfl rfl ?_; apply wl_val; apply opv_nilOk; exact rfl; exact rfl; apply wl_val; apply opv_fa; exact fa_Ld1; exact rfl; exact rfl; apply wl_val; apply opv_ldX; exact rfl; exact hs.ar 0 rfl; exact g1_err; exact rfl; exact rfl; refine wl_bin rfl rfl bin_eql rfl ?_; refine wl_mv rfl rfl ?_; apply wl_take; exact rfl; exact rfl; exact rfl; refine bT ?_; omega; refine wl_mv rfl rfl ?_; apply wl_take; exact rfl; exact rfl; exact rfl; refine bT ?_; omega
          refine wl_val (opv_idxR (kk := 0) (u := .int .u8 (x.toNat : Int)) tyB rfl rfl (hB0 _ (hK _ hs.1)).rd rfl hu) rfl ?_
          refine wl_take rfl rfl rfl (by first | rfl | exact bT rfl) ?_
          refine wl_val (opv_loadR (kk := 0) (u := .int .u8 (x.toNat : Int)) tyB rfl (hB0 _ (hK _ hs.1)).rd hu) rfl ?_
          apply wl_take; exact rfl; exact rfl; exact rfl; refine bT ?_; omega; refine wl_bin rfl rfl bin_eql rfl ?_; apply wl_val; apply opv_pickT; exact rfl; refine bT ?_; omega; exact rfl; exact rfl; refine wl_as rfl rfl ?_; refine wl_ns ?_; refine wc_ret ?_
          exact we_ret1 rfl rfl ⟨_, rfl, A', c', by rw [decide_eq_true h2], hr0, hs⟩
        · have e0 : ([x] : By) = [0] := by rw [u8zero h1 h2]
          rw [if_pos e0]
          apply wl_take; exact rfl; exact rfl; exact rfl; refine bT ?_; omega; refine wl_mv rfl rfl ?_; apply wl_take; exact rfl; exact rfl; exact rfl; refine bT ?_; omega; apply wl_val; apply opv_len; exact rfl; exact tyB.sl; exact rfl; apply wl_take; exact rfl; exact rfl; exact rfl; refine bT ?_; omega; refine wl_bin rfl rfl bin_neq rfl ?_; apply wl_take; exact rfl; exact rfl; exact rfl; refine bT ?_; omega; refine wl_mv rfl rfl ?_; apply wl_take; exact rfl; exact rfl; exact rfl; refine bF ?_; omega; refine wl_mv rfl rfl ?_; apply wl_take; exact rfl; exact rfl; exact rfl; refine bF ?_; omega
          refine wl_val (opv_idxR (kk := 0) (u := .int .u8 (x.toNat : Int)) tyB rfl rfl hrd rfl hu) rfl ?_
          refine wl_take rfl rfl rfl (by first | rfl | exact bF nne) ?_
          refine wl_val (opv_loadR (kk := 0) (u := .int .u8 (x.toNat : Int)) tyB rfl hrd hu) rfl ?_
          apply wl_take; exact rfl; exact rfl; exact rfl; refine bF ?_; omega; refine wl_bin rfl rfl bin_gtr rfl ?_; apply wl_take; exact rfl; exact rfl; exact rfl; refine bT ?_; omega; apply wl_val; apply opv_pickF; exact rfl; refine bF ?_; omega; exact rfl; exact rfl; apply wl_val; apply opv_pickT; exact rfl; refine bT ?_; omega; exact rfl; exact rfl; refine wl_ns ?_; apply wc_decF; exact rfl; (with_reducible assumption); refine wc_skip ?_; refine we_seq ?_; refine wc_sr ?_; refine wl_mv rfl rfl ?_; apply wl_val; apply opv_nilOk; exact rfl; exact rfl; apply wl_val; apply opv_fa; exact fa_Ld1; exact rfl; exact rfl; apply wl_val; apply opv_ldX; exact rfl; exact hs.ar 0 rfl; exact g1_err; exact rfl; exact rfl; refine wl_bin rfl rfl bin_eql rfl ?_; refine wl_mv rfl rfl ?_; apply wl_take; exact rfl; exact rfl; exact rfl; refine bT ?_; omega; refine wl_mv rfl rfl ?_; apply wl_take; exact rfl; exact rfl; exact rfl; refine bT ?_; omega
          refine wl_val (opv_idxR (kk := 0) (u := .int .u8 (x.toNat : Int)) tyB rfl rfl (hB0 _ (hK _ hs.1)).rd rfl hu) rfl ?_
          refine wl_take rfl rfl rfl (by first | rfl | exact bT rfl) ?_
          refine wl_val (opv_loadR (kk := 0) (u := .int .u8 (x.toNat : Int)) tyB rfl (hB0 _ (hK _ hs.1)).rd hu) rfl ?_
          apply wl_take; exact rfl; exact rfl; exact rfl; refine bT ?_; omega; refine wl_bin rfl rfl bin_eql rfl ?_; apply wl_val; apply opv_pickT; exact rfl; refine bT ?_; omega; exact rfl; exact rfl; refine wl_as rfl rfl ?_; refine wl_ns ?_; refine wc_ret ?_
          exact we_ret1 rfl rfl ⟨_, rfl, A', c', by rw [decide_eq_false h2], hr0, hs⟩
    | x :: y :: z, hrd, hpl =>
      have hl1 : ¬ ((x :: y :: z).length : Int) = 1 := by rw [List.length_cons, List.length_cons]; omega
      rw [if_neg (by simp), if_neg (by simp)]
      apply wl_take; exact rfl; exact rfl; exact rfl; refine bT ?_; omega; refine wl_mv rfl rfl ?_; apply wl_take; exact rfl; exact rfl; exact rfl; refine bT ?_; omega; apply wl_val; apply opv_len; exact rfl; exact tyB.sl; exact rfl; apply wl_take; exact rfl; exact rfl; exact rfl; refine bT ?_; omega; refine wl_bin rfl rfl bin_neq rfl ?_; apply wl_take; exact rfl; exact rfl; exact rfl; refine bT ?_; omega; refine wl_mv rfl rfl ?_; apply wl_skip; exact rfl; exact rfl; exact rfl; refine bTn ?_; (with_reducible assumption); exact rfl; apply wl_skip; exact rfl; exact rfl; exact rfl; refine bTn ?_; (with_reducible assumption); exact rfl; apply wl_skip; exact rfl; exact rfl; exact rfl; refine bTn ?_; (with_reducible assumption); exact rfl; apply wl_skip; exact rfl; exact rfl; exact rfl; refine bTn ?_; (with_reducible assumption); exact rfl; apply wl_take; exact rfl; exact rfl; exact rfl; refine bT ?_; omega; apply wl_val; apply opv_pickT; exact rfl; refine bT ?_; (with_reducible assumption); exact rfl; exact rfl; apply wl_val; apply opv_pickT; exact rfl; refine bT ?_; omega; exact rfl; exact rfl; refine wl_ns ?_; apply wc_condTb; exact rfl; exact rfl; refine wc_region ?_; refine wl_mv rfl rfl ?_; apply wl_val; apply opv_nilOk; exact rfl; exact rfl; apply wl_val; apply opv_fa; exact fa_Ld1; exact rfl; exact rfl; apply ws_st hs 0; exact rfl; exact rfl; exact g1_err; exact rfl; exact rfl; exact rfl; clear hs; intro _ hs; dsimp only [setC, List.set] at hs; refine wl_ns ?_; refine wc_sr ?_; refine wl_mv rfl rfl ?_; apply wl_val; apply opv_nilOk; exact rfl; exact rfl; apply wl_val; apply opv_fa; exact fa_Ld1; exact rfl; exact rfl; apply wl_val; apply opv_ldX; exact rfl; exact hs.ar 0 rfl; exact g1_err; exact rfl; exact rfl; refine wl_bin rfl rfl bin_eql rfl ?_; refine wl_mv rfl rfl ?_; apply wl_skip; exact rfl; exact rfl; exact rfl; refine bFn ?_; omega; exact rfl; apply wl_skip; exact rfl; exact rfl; exact rfl; refine bFn ?_; omega; exact rfl; apply wl_skip; exact rfl; exact rfl; exact rfl; refine bFn ?_; omega; exact rfl; apply wl_skip; exact rfl; exact rfl; exact rfl; refine bFn ?_; omega; exact rfl; apply wl_val; apply opv_pickF; exact rfl; refine bF ?_; omega; exact rfl; exact rfl; refine wl_as rfl rfl ?_; refine wl_ns ?_; refine wc_ret ?_
      exact we_ret1 rfl rfl ⟨_, rfl, A', c', rfl, hr0, hs⟩
  · rw [if_neg he]
    apply wl_skip; exact rfl; exact rfl; exact rfl; refine bFn ?_; omega; exact rfl; apply wl_skip; exact rfl; exact rfl; exact rfl; refine bFn ?_; omega; exact rfl; apply wl_skip; exact rfl; exact rfl; exact rfl; refine bFn ?_; omega; exact rfl; apply wl_skip; exact rfl; exact rfl; exact rfl; refine bFn ?_; omega; exact rfl; apply wl_skipU; exact rfl; exact rfl; exact rfl; exact rfl; apply wl_skipU; exact rfl; exact rfl; exact rfl; exact rfl; apply wl_skipU; exact rfl; exact rfl; exact rfl; exact rfl; apply wl_skipU; exact rfl; exact rfl; exact rfl; exact rfl; apply wl_skip; exact rfl; exact rfl; exact rfl; refine bFn ?_; omega; exact rfl; apply wl_val; apply opv_pickF; exact rfl; refine bF ?_; omega; exact rfl; exact rfl; refine wl_ns ?_; apply wc_condFb; exact rfl; exact rfl; refine wc_skip ?_; refine we_seq ?_; refine wc_sr ?_; refine wl_mv rfl rfl ?_; apply wl_val; apply opv_nilOk; exact rfl; exact rfl; apply wl_val; apply opv_fa; exact fa_Ld1; exact rfl; exact rfl; apply wl_val; apply opv_ldX; exact rfl; exact hs.ar 0 rfl; exact g1_err; exact rfl; exact rfl; refine wl_bin rfl rfl bin_eql rfl ?_; refine wl_mv rfl rfl ?_; apply wl_skip; exact rfl; exact rfl; exact rfl; refine bFn ?_; omega; exact rfl; apply wl_skip; exact rfl; exact rfl; exact rfl; refine bFn ?_; omega; exact rfl; apply wl_skip; exact rfl; exact rfl; exact rfl; refine bFn ?_; omega; exact rfl; apply wl_skip; exact rfl; exact rfl; exact rfl; refine bFn ?_; omega; exact rfl; apply wl_val; apply opv_pickF; exact rfl; refine bF ?_; omega; exact rfl; exact rfl; refine wl_as rfl rfl ?_; refine wl_ns ?_; refine wc_ret ?_
    exact we_ret1 rfl rfl ⟨_, rfl, A', c', rfl, hr0, hs⟩
set_option maxHeartbeats 2000000 in
theorem lin_any {α : Type} {g base : Nat} {A : Option Addr} {c f : Nat} {us : List Value} {r : Rd1} {S : BS} {w : World} {K : World → Prop} {H : List Cd} {take : Rd1 → α × Rd1} {z : α} (R : α → (World → Prop) → List Cd → Prop)
    (h0 : Sat w (ldP g A c r :: H) S) (hK : ∀ w', Mod S w w' → K w') (hr : RdK K base A c r.1) (hb : base ≤ w.heap.size) (hl : ∀ p ∈ r.1, p.length ≤ 1099511627776) (hf : CallOk Try.prog f)
    (ht : ∀ (p : By) (g1 : Nat) (A1 : Option Addr) (c1 : Nat) (K1 : World → Prop) (S1 : BS) (w1 : World), p = (nextR r).1 → Sat w1 (ldP g1 A1 c1 (parts p) :: H) S1 → (∀ w', Mod S1 w1 w' → K1 w') → RdK K1 base A1 c1 (parts p).1 → base ≤ w1.heap.size →
      CallsV Try.prog f (.pointer (some ⟨g1, 0, none⟩) :: us).toArray w1 fun _ w2 => ∃ (A2 : Option Addr) (c2 : Nat) (H2 : List Cd), St S1 w1 w2 (ldP g1 A2 c2 (take (parts p)).2 :: H2) ∧ R (take (parts p)).1 K1 H2) :
    CallsV Try.prog 39 #[.pointer (some ⟨g, 0, none⟩), .func (.func f) #[] us.toArray] w fun v w' => ∃ (A' : Option Addr) (c' : Nat), RdK K base A' c' (withinR z take r).2.1 ∧
      (((nextR r).2.2 ≠ 0 ∧ St S w w' (ldP g A' c' (withinR z take r).2 :: H)) ∨ ((nextR r).2.2 = 0 ∧ ∃ (H2 : List Cd) (K1 : World → Prop), R (withinR z take r).1 K1 H2 ∧ St S w w' (ldP g A' c' (withinR z take r).2 :: .ck (kp K1) :: H2))) := by
  have hs := St.start h0
  have hmax : maxLen = 9223372036854775807 := rfl
  have hpl := next_len hl
  refine calls_in (N := _) Try.func39 rfl Try.ntmps39 rfl ?_; show WC _ _ _ _ _ _
  refine wc_sr ?_; refine wl_mv rfl rfl ?_
  obtain ⟨S2, hS2, hB2, hM2, hH2, hB⟩ := St.lend (H1 := [ldP g A c r]) (H2 := H) hs
  refine wl_call ok_plan_reader_next (lnext_any hS2 (fun w' k => hK w' (hM2 w' k)) hr) ⟨rfl, trivial⟩ rfl ?_
  rintro _ _ ⟨B, cb, A', c', rfl, hB0, hr0, hsx⟩
  replace hs := hB _ _ hsx
  clear hsx hB hH2 hM2 hB2 hS2
  dsimp only [List.cons_append, List.nil_append] at hs
  have hw1 := hB0 _ (hK _ hs.1)
  unfold withinR
  obtain ⟨p, hp⟩ : ∃ p, (nextR r).1 = p := ⟨_, rfl⟩
  obtain ⟨r2, hr2⟩ : ∃ p, (nextR r).2 = p := ⟨_, rfl⟩
  rw [hp] at hB0 hw1 hpl
  rw [hr2] at hs hr0 ⊢
  rw [hp]
  have hag := hs.ar 0 rfl
  unfold ldV at hag
  refine wl_as rfl rfl ?_; refine wl_ns ?_; refine wc_seq ?_; refine wc_sr ?_; refine wl_mv rfl rfl ?_; apply wl_val; apply opv_nilOk; exact rfl; exact rfl; apply wl_val; apply opv_fa; exact fa_Ld1; exact rfl; exact rfl; apply wl_val; apply opv_ldX; exact rfl; assumption; exact g1_err; exact rfl; exact rfl; refine wl_bin rfl rfl bin_neq rfl ?_; refine wl_ns ?_
  by_cases he : r2.2 = 0
  · rw [if_pos he]
    apply wc_decF; exact rfl; omega; refine wc_skip ?_; refine we_seq ?_; refine wc_sr ?_; refine wl_mv rfl rfl ?_
    refine wl_call ok_plan_open (lopen_any hw1.rd rfl hw1.capW hpl) ⟨rfl, trivial⟩ rfl ?_
    rintro _ w3 ⟨g1, B1, cb1, K1, rfl, hk1, hsx⟩
    have hk1 := hk1.low (Nat.le_trans hb hs.size)
    replace hs := hs.call hsx
    clear hsx
    dsimp only [List.cons_append, List.nil_append] at hs
    refine wl_as rfl rfl ?_; refine wl_ns ?_; refine wc_sr ?_; refine wl_mv rfl rfl ?_; refine wl_mv rfl rfl ?_
    replace hs := St.tailSwap (H1 := [_, _]) hs
    rw [← List.cons_append] at hs
    obtain ⟨S2, hS2, hB2, hM2, hH2, hB⟩ := St.lend hs
    refine wl_callFn (vs := [.pointer (some ⟨g1, 0, none⟩)]) hf rfl (R := fun _ w2 => ∃ (A2 : Option Addr) (c2 : Nat) (H2 : List Cd), St S2 w3 w2 (ldP g1 A2 c2 (take (parts p)).2 :: H2) ∧ R (take (parts p)).1 K1 H2) ?_ ⟨rfl, trivial⟩ rfl ?_
    · have := ht p g1 B1 cb1 K1 S2 _ hp.symm hS2 (fun w' k => Sat.kp (i := 0) (hH2 w' k) rfl) hk1 (Nat.le_trans hb hs.size)
      simpa using this
    rintro _ _ ⟨A2, c2, H2, hsx, hR⟩
    replace hs := hB _ _ hsx
    clear hsx hB hH2 hM2 hB2 hS2
    rw [List.cons_append] at hs
    replace hs := St.tailSwap hs
    dsimp only [List.cons_append, List.nil_append] at hs
    obtain ⟨y, hy⟩ : ∃ y, (take (parts p)).2 = y := ⟨_, rfl⟩
    rw [hy] at hs ⊢
    obtain ⟨rows, e2⟩ := y
    unfold ldP ldV at hs
    dsimp only at hs
    unfold inR
    dsimp only
    by_cases he2 : e2 = 0
    · subst he2
      cases rows with
      | nil =>
        rw [if_neg (by simp)]
        refine wl_ns ?_; refine wc_seq ?_; refine wc_sr ?_; refine wl_mv rfl rfl ?_; apply wl_val; apply opv_nilOk; exact rfl; exact rfl; apply wl_val; apply opv_fa; exact fa_Ld1; exact rfl; exact rfl; apply wl_val; apply opv_ldX; exact rfl; exact hs.ar 0 rfl; exact g1_err; exact rfl; exact rfl; refine wl_bin rfl rfl bin_eql rfl ?_; refine wl_mv rfl rfl ?_; apply wl_take; exact rfl; exact rfl; exact rfl; refine bT ?_; omega; refine wl_mv rfl rfl ?_; apply wl_take; exact rfl; exact rfl; exact rfl; refine bT ?_; omega; apply wl_val; apply opv_nilOk; exact rfl; exact rfl; apply wl_take; exact rfl; exact rfl; exact rfl; refine bT ?_; omega; apply wl_val; apply opv_fa; exact fa_Ld0; exact rfl; exact rfl; apply wl_take; exact rfl; exact rfl; exact rfl; refine bT ?_; omega; apply wl_val; apply opv_ldX; exact rfl; exact hs.ar 0 rfl; exact g1_bbs; exact rfl; exact rfl; apply wl_take; exact rfl; exact rfl; exact rfl; refine bT ?_; omega; apply wl_val; apply opv_len; exact rfl; exact tyBB.sl; exact rfl; apply wl_take; exact rfl; exact rfl; exact rfl; refine bT ?_; omega; refine wl_bin rfl rfl bin_gtr rfl ?_; apply wl_val; apply opv_pickT; exact rfl; refine bT ?_; omega; exact rfl; exact rfl; refine wl_ns ?_; apply wc_condFb; exact rfl; exact rfl; refine wc_skip ?_; refine we_seq ?_; refine wc_region ?_; refine wl_mv rfl rfl ?_; refine wl_mv rfl rfl ?_; apply wl_val; apply opv_nilOk; exact rfl; exact rfl; apply wl_val; apply opv_fa; exact fa_Ld1; exact rfl; exact rfl; apply wl_val; apply opv_ldX; exact rfl; exact hs.ar 0 rfl; exact g1_err; exact rfl; exact rfl; apply wl_val; apply opv_nilOk; exact rfl; exact rfl; apply wl_val; apply opv_fa; exact fa_Ld1; exact rfl; exact rfl; apply ws_st hs 2; exact rfl; exact rfl; exact g1_err; exact rfl; exact rfl; exact rfl; clear hs; intro _ hs; dsimp only [setC, List.set] at hs; refine wl_nil ?_
        replace hs := (hs.drop 0 rfl).front 1 rfl
        exact we_end0 rfl ⟨_, rfl, A', c', hr0, .inr ⟨he, H2, K1, hR, hs⟩⟩
      | cons x xs =>
        rw [if_pos ⟨rfl, by simp⟩]
        have hlt : (0 : Int) < ((x :: xs).length : Int) := by rw [List.length_cons]; omega
        refine wl_ns ?_; refine wc_seq ?_; refine wc_sr ?_; refine wl_mv rfl rfl ?_; apply wl_val; apply opv_nilOk; exact rfl; exact rfl; apply wl_val; apply opv_fa; exact fa_Ld1; exact rfl; exact rfl; apply wl_val; apply opv_ldX; exact rfl; exact hs.ar 0 rfl; exact g1_err; exact rfl; exact rfl; refine wl_bin rfl rfl bin_eql rfl ?_; refine wl_mv rfl rfl ?_; apply wl_take; exact rfl; exact rfl; exact rfl; refine bT ?_; omega; refine wl_mv rfl rfl ?_; apply wl_take; exact rfl; exact rfl; exact rfl; refine bT ?_; omega; apply wl_val; apply opv_nilOk; exact rfl; exact rfl; apply wl_take; exact rfl; exact rfl; exact rfl; refine bT ?_; omega; apply wl_val; apply opv_fa; exact fa_Ld0; exact rfl; exact rfl; apply wl_take; exact rfl; exact rfl; exact rfl; refine bT ?_; omega; apply wl_val; apply opv_ldX; exact rfl; exact hs.ar 0 rfl; exact g1_bbs; exact rfl; exact rfl; apply wl_take; exact rfl; exact rfl; exact rfl; refine bT ?_; omega; apply wl_val; apply opv_len; exact rfl; exact tyBB.sl; exact rfl; apply wl_take; exact rfl; exact rfl; exact rfl; refine bT ?_; omega; refine wl_bin rfl rfl bin_gtr rfl ?_; apply wl_val; apply opv_pickT; exact rfl; refine bT ?_; omega; exact rfl; exact rfl; refine wl_ns ?_; apply wc_decT; exact rfl; (with_reducible assumption); refine wc_region ?_; refine wl_mv rfl rfl ?_; apply wl_val; apply opv_nilOk; exact rfl; exact rfl; apply wl_val; apply opv_fa; exact fa_Ld1; exact rfl; exact rfl; apply ws_st hs 0; exact rfl; exact rfl; exact g1_err; exact rfl; exact rfl; exact rfl; clear hs; intro _ hs; dsimp only [setC, List.set] at hs; refine wl_ns ?_; refine wc_region ?_; refine wl_mv rfl rfl ?_; refine wl_mv rfl rfl ?_; apply wl_val; apply opv_nilOk; exact rfl; exact rfl; apply wl_val; apply opv_fa; exact fa_Ld1; exact rfl; exact rfl; apply wl_val; apply opv_ldX; exact rfl; exact hs.ar 0 rfl; exact g1_err; exact rfl; exact rfl; apply wl_val; apply opv_nilOk; exact rfl; exact rfl; apply wl_val; apply opv_fa; exact fa_Ld1; exact rfl; exact rfl; apply ws_st hs 2; exact rfl; exact rfl; exact g1_err; exact rfl; exact rfl; exact rfl; clear hs; intro _ hs; dsimp only [setC, List.set] at hs; refine wl_nil ?_
        replace hs := (hs.drop 0 rfl).front 1 rfl
        exact we_end0 rfl ⟨_, rfl, A', c', hr0, .inr ⟨he, H2, K1, hR, hs⟩⟩
    · rw [if_neg (fun k => he2 k.1)]
      refine wl_ns ?_; refine wc_seq ?_; refine wc_sr ?_; refine wl_mv rfl rfl ?_; apply wl_val; apply opv_nilOk; exact rfl; exact rfl; apply wl_val; apply opv_fa; exact fa_Ld1; exact rfl; exact rfl; apply wl_val; apply opv_ldX; exact rfl; exact hs.ar 0 rfl; exact g1_err; exact rfl; exact rfl; refine wl_bin rfl rfl bin_eql rfl ?_; refine wl_mv rfl rfl ?_; apply wl_skip; exact rfl; exact rfl; exact rfl; refine bFn ?_; omega; exact rfl; apply wl_skip; exact rfl; exact rfl; exact rfl; refine bFn ?_; omega; exact rfl; apply wl_skip; exact rfl; exact rfl; exact rfl; refine bFn ?_; omega; exact rfl; apply wl_skip; exact rfl; exact rfl; exact rfl; refine bFn ?_; omega; exact rfl; apply wl_skip; exact rfl; exact rfl; exact rfl; refine bFn ?_; omega; exact rfl; apply wl_skip; exact rfl; exact rfl; exact rfl; refine bFn ?_; omega; exact rfl; apply wl_val; apply opv_pickF; exact rfl; refine bF ?_; omega; exact rfl; exact rfl; refine wl_ns ?_; apply wc_condFb; exact rfl; exact rfl; refine wc_skip ?_; refine we_seq ?_; refine wc_region ?_; refine wl_mv rfl rfl ?_; refine wl_mv rfl rfl ?_; apply wl_val; apply opv_nilOk; exact rfl; exact rfl; apply wl_val; apply opv_fa; exact fa_Ld1; exact rfl; exact rfl; apply wl_val; apply opv_ldX; exact rfl; exact hs.ar 0 rfl; exact g1_err; exact rfl; exact rfl; apply wl_val; apply opv_nilOk; exact rfl; exact rfl; apply wl_val; apply opv_fa; exact fa_Ld1; exact rfl; exact rfl; apply ws_st hs 2; exact rfl; exact rfl; exact g1_err; exact rfl; exact rfl; exact rfl; clear hs; intro _ hs; dsimp only [setC, List.set] at hs; refine wl_nil ?_
      replace hs := (hs.drop 0 rfl).front 1 rfl
      exact we_end0 rfl ⟨_, rfl, A', c', hr0, .inr ⟨he, H2, K1, hR, hs⟩⟩
  · rw [if_neg he]
    apply wc_decT; exact rfl; omega; refine wc_ret ?_; refine we_seq_ret ?_
    exact we_ret0 rfl ⟨_, rfl, A', c', hr0, .inl ⟨he, hs⟩⟩
end Go.Proofs.Ytaacnknniaipmaa

/-
  Walks over cells, rows and replies of plan's reader.
-/
namespace Go.Proofs.Ytaacnknniaipmaa
open Go.RowKit

theorem g1_str : Cell1 Try.prog 9 := ⟨by kernel_rfl, by rw [Try.underlying9]⟩
theorem g1_i64 : Cell1 Try.prog 2 := ⟨by kernel_rfl, by rw [Try.underlying2]⟩
theorem g1_lcs : Cell1 Try.prog 107 := ⟨by kernel_rfl, by rw [Try.underlying107]⟩
theorem g1_rws : Cell1 Try.prog 116 := ⟨by kernel_rfl, by rw [Try.underlying116]⟩
theorem g1_rss : Cell1 Try.prog 54 := ⟨by kernel_rfl, by rw [Try.underlying54]⟩
theorem sLc : StT Try.prog 112 5 := ⟨by kernel_rfl, by kernel_rfl⟩
theorem sRp : StT Try.prog 56 3 := ⟨by kernel_rfl, by kernel_rfl⟩
theorem fa_Lc0 : FieldAt Try.prog 112 0 0 := fieldAt_mk Try.underlying112 rfl rfl (by kernel_rfl)
theorem fa_Lc1 : FieldAt Try.prog 112 1 1 := fieldAt_mk Try.underlying112 rfl rfl (by kernel_rfl)
theorem fa_Lc2 : FieldAt Try.prog 112 2 2 := fieldAt_mk Try.underlying112 rfl rfl (by kernel_rfl)
theorem fa_Lc3 : FieldAt Try.prog 112 3 3 := fieldAt_mk Try.underlying112 rfl rfl (by kernel_rfl)
theorem fa_Lc4 : FieldAt Try.prog 112 4 4 := fieldAt_mk Try.underlying112 rfl rfl (by kernel_rfl)
theorem fa_Rp0 : FieldAt Try.prog 56 0 0 := fieldAt_mk Try.underlying56 rfl rfl (by kernel_rfl)
theorem fa_Rp1 : FieldAt Try.prog 56 1 1 := fieldAt_mk Try.underlying56 rfl rfl (by kernel_rfl)
theorem fa_Rp2 : FieldAt Try.prog 56 2 2 := fieldAt_mk Try.underlying56 rfl rfl (by kernel_rfl)
def lcV (c : LcM) (D : Option Addr) (d : Nat) : List Value := [.int .i64 c.kind, .bool c.b, .int .i64 c.i, str c.text, .slice D c.data.length d]
def lcEl (c : LcM) : El where
  P w S cs := ∃ (D : Option Addr) (d : Nat), cs = lcV c D d ∧ (byEl c.data).P w S [.slice D c.data.length d]
  move := by rintro w w' S S' cs ⟨D, d, h, h1⟩ hz hm; exact ⟨D, d, h, El.move _ h1 hz hm⟩
def rwEl (l : List LcM) : El := rowEl 5 (l.map lcEl)
def rsEl' (l : List (List LcM)) : El := rowEl 1 (l.map rwEl)
theorem zeroLc : (Try.prog.info? 112).map (·.zero) = some (some (.agg (lcV zLc none 0).toArray)) := by kernel_rfl
theorem tkLc : RowK Try.prog 107 112 5 (.agg (lcV zLc none 0).toArray) 64 := ⟨Try.underlying107, by kernel_rfl, by simp [lcV, Value.cells], by decide⟩
theorem tkRw : RowK Try.prog 116 107 1 (.slice none 0 0) 24 := ⟨Try.underlying116, by kernel_rfl, by simp [Value.cells], by decide⟩
theorem tkRs : RowK Try.prog 54 116 1 (.slice none 0 0) 24 := ⟨Try.underlying54, by kernel_rfl, by simp [Value.cells], by decide⟩
theorem z1_lcs : (Try.prog.info? 107).map (·.zero) = some (some (.slice none 0 0)) := by kernel_rfl
theorem z1_rws : (Try.prog.info? 116).map (·.zero) = some (some (.slice none 0 0)) := by kernel_rfl
def rpV (r : RpM) (A : Option Addr) (c : Nat) : List Value := [.int .i64 r.err, .int .i64 r.at_, .slice A r.rows.length c]
theorem zeroRp : (Try.prog.info? 56).map (·.zero) = some (some (.agg (rpV zRp none 0).toArray)) := by kernel_rfl
def QLc (base : Nat) (c : LcM) (cs : List Value) (w : World) : Prop := ∃ (D : Option Addr) (d : Nat), cs = lcV c D d ∧ OwB w base D d c.data
def QRw (l : List LcM) (cs : List Value) (w : World) : Prop := ∃ (E : Option Addr) (e : Nat), cs = [.slice E l.length e] ∧ l.length ≤ e ∧ RdR 5 w All E (l.map lcEl)
def QRs (l : List (List LcM)) (cs : List Value) (w : World) : Prop := ∃ (E : Option Addr) (e : Nat), cs = [.slice E l.length e] ∧ l.length ≤ e ∧ RdR 1 w All E (l.map rwEl)
theorem lc_of {base : Nat} {c : LcM} {cs : List Value} {w : World} (h : QLc base c cs w) : (lcEl c).P w All cs ∧ cs.length = 5 := by
  obtain ⟨D, d, rfl, h1⟩ := h
  exact ⟨⟨D, d, rfl, byEl.mk h1.rd h1.cap fun _ _ _ => trivial⟩, rfl⟩
theorem rw_of {l : List LcM} {cs : List Value} {w : World} (h : QRw l cs w) : (rwEl l).P w All cs ∧ cs.length = 1 := by
  obtain ⟨E, e, rfl, h1, h2⟩ := h
  have := rowEl.mk (S := All) h2 (c := e) (by simpa using h1) (by decide)
  rw [List.length_map] at this
  exact ⟨this, rfl⟩
theorem rs_of {l : List (List LcM)} {cs : List Value} {w : World} (h : QRs l cs w) : (rsEl' l).P w All cs ∧ cs.length = 1 := by
  obtain ⟨E, e, rfl, h1, h2⟩ := h
  have := rowEl.mk (S := All) h2 (c := e) (by simpa using h1) (by decide)
  rw [List.length_map] at this
  exact ⟨this, rfl⟩
theorem OwR.capR {k : Nat} {e : TypeId} {w : World} {base c : Nat} {S : BS} {A : Option Addr} {els : List El} (h : OwR k e w base S A c els) : els.length ≤ c := by
  obtain ⟨css, _, h2⟩ := h
  rcases h2.2 with ⟨hv, h0⟩ | ⟨g, cap, cur, hv, _, _, hn, _⟩
  · omega
  · injection hv with _ _ hc
    omega
theorem numR_rest {r : Rd1} {m : Nat} (hl : ∀ p ∈ r.1, p.length ≤ m) : ∀ p ∈ (numR r).2.1, p.length ≤ m := by rw [num_rest]; exact next_rest hl
theorem trR_rest {r : Rd1} {m : Nat} (hl : ∀ p ∈ r.1, p.length ≤ m) : ∀ p ∈ (trR r).2.1, p.length ≤ m := by rw [tr_rest]; exact next_rest hl
set_option maxHeartbeats 4000000 in
theorem lcell1_any {g gc base : Nat} {A : Option Addr} {c : Nat} {r : Rd1} {S : BS} {w : World} {K : World → Prop} (h0 : Sat w [ldP g A c r, .blk gc 112 (lcV zLc none 0)] S) (hK : ∀ w', Mod S w w' → K w') (hr : RdK K base A c r.1) (hl : ∀ p ∈ r.1, p.length ≤ 1099511627776) :
    CallsV Try.prog 86 #[.pointer (some ⟨g, 0, none⟩), .pointer (some ⟨gc, 0, none⟩)] w fun _ w' => ∃ (A' : Option Addr) (c' : Nat) (D : Option Addr) (cd : Nat),
      St S w w' [ldP g A' c' (cellT r).2, .blk gc 112 (lcV (cellT r).1 D cd)] ∧ ∀ w, K w → OwB w base D cd (cellT r).1.data := by
  have hs := St.start h0
  unfold lcV at hs
  unfold cellT
  refine calls_in (N := _) Try.func86 rfl Try.ntmps86 rfl ?_; show WC _ _ _ _ _ _
  refine wc_sr ?_; refine wl_mv rfl rfl ?_
  obtain ⟨S2, hS2, hB2, hM2, hH2, hB⟩ := St.lend (H1 := [ldP g A c r]) (H2 := [_]) hs
  refine wl_call ok_plan_reader_number (lnum_any hS2 (fun w' k => hK w' (hM2 w' k)) hr hl) ⟨rfl, trivial⟩ rfl ?_
  rintro _ _ ⟨A1, c1, rfl, hr1, hsx⟩
  replace hs := hB _ _ hsx
  clear hsx hB hH2 hM2 hB2 hS2
  dsimp only [List.cons_append, List.nil_append] at hs
  have hl1 := numR_rest hl
  obtain ⟨⟨kd, r1⟩, hx1⟩ : ∃ x, numR r = x := ⟨_, rfl⟩
  rw [hx1] at hs hr1 hl1 ⊢
  dsimp only at hs hr1 hl1 ⊢
  refine wl_mv rfl rfl ?_
  obtain ⟨S2, hS2, hB2, hM2, hH2, hB⟩ := St.lend (H1 := [ldP g A1 c1 r1]) (H2 := [_]) hs
  refine wl_call ok_plan_reader_truth (ltruth_any hS2 (fun w' k => hK w' (hM2 w' k)) hr1 hl1) ⟨rfl, trivial⟩ rfl ?_
  rintro _ _ ⟨A2, c2, rfl, hr2, hsx⟩
  replace hs := hB _ _ hsx
  clear hsx hB hH2 hM2 hB2 hS2
  dsimp only [List.cons_append, List.nil_append] at hs
  have hl2 := trR_rest hl1
  obtain ⟨⟨tb, r2⟩, hx2⟩ : ∃ x, trR r1 = x := ⟨_, rfl⟩
  rw [hx2] at hs hr2 hl2 ⊢
  dsimp only at hs hr2 hl2 ⊢
  refine wl_mv rfl rfl ?_
  obtain ⟨S2, hS2, hB2, hM2, hH2, hB⟩ := St.lend (H1 := [ldP g A2 c2 r2]) (H2 := [_]) hs
  refine wl_call ok_plan_reader_number (lnum_any hS2 (fun w' k => hK w' (hM2 w' k)) hr2 hl2) ⟨rfl, trivial⟩ rfl ?_
  rintro _ _ ⟨A3, c3, rfl, hr3, hsx⟩
  replace hs := hB _ _ hsx
  clear hsx hB hH2 hM2 hB2 hS2
  dsimp only [List.cons_append, List.nil_append] at hs
  have hl3 := numR_rest hl2
  obtain ⟨⟨ki, r3⟩, hx3⟩ : ∃ x, numR r2 = x := ⟨_, rfl⟩
  rw [hx3] at hs hr3 hl3 ⊢
  dsimp only at hs hr3 hl3 ⊢
  apply wl_val; apply opv_fa; exact fa_Lc0; exact rfl; exact rfl; apply ws_st hs 1; exact rfl; exact rfl; exact g1_int; exact rfl; exact rfl; exact rfl; clear hs; intro _ hs; dsimp only [setC, List.set] at hs; apply wl_val; apply opv_fa; exact fa_Lc1; exact rfl; exact rfl; apply ws_st hs 1; exact rfl; exact rfl; exact g1_bool; exact rfl; exact rfl; exact rfl; clear hs; intro _ hs; dsimp only [setC, List.set] at hs; apply wl_val; apply opv_fa; exact fa_Lc2; exact rfl; exact rfl; apply ws_st hs 1; exact rfl; exact rfl; exact g1_i64; exact rfl; exact rfl; exact rfl; clear hs; intro _ hs; dsimp only [setC, List.set] at hs; refine wl_ns ?_
  refine wc_heldG K 8 mixed ?_
  replace hs := hs.below (Below.refl _ _).drew
  have hS := hK _ hs.1
  apply wm_takeP 0; exact rfl; intro _; apply opv_move; exact rfl; exact rfl; kernel_rfl; exact fun _ => hS; apply wm_takeP 3; exact rfl; intro _; apply opv_move; exact rfl; exact rfl; kernel_rfl; exact fun _ => hS
  clear hS
  refine wm_one 1 (by kernel_rfl) rfl ?_; dsimp only [List.getElem_toArray, List.getElem_cons_succ, List.getElem_cons_zero]
  obtain ⟨S2, hS2, hB2, hM2, hH2, hB⟩ := St.lend (H1 := [ldP g A3 c3 r3]) (H2 := [_]) hs
  refine wl_call ok_plan_reader_next (lnext_any hS2 (fun w' k => hK w' (hM2 w' k)) hr3) ⟨rfl, trivial⟩ rfl ?_
  rintro _ _ ⟨B, cb, A4, c4, rfl, hB0, hr4, hsx⟩
  replace hs := hB _ _ hsx
  clear hsx hB hH2 hM2 hB2 hS2
  dsimp only [List.cons_append, List.nil_append] at hs
  obtain ⟨⟨tx, r4⟩, hx4⟩ : ∃ x, nextR r3 = x := ⟨_, rfl⟩
  rw [hx4] at hs hr4 hB0 ⊢
  dsimp only at hs hr4 hB0 ⊢
  refine wl_nil ?_
  refine we_heldM (fun _ => hK _ hs.1) ?_
  have hS := hK _ hs.1
  refine wm_take 2 rfl (fun w' hw => opv_ofBytes Try.underlying32 Try.underlying5 Try.underlying9 rfl (hB0 w' hw).rd) rfl (by kernel_rfl) hS ?_
  apply wm_takeP 5; exact rfl; intro _; apply opv_fa; exact fa_Lc3; exact rfl; exact rfl; kernel_rfl; exact fun _ => hS
  clear hS
  refine wm_one 4 (by kernel_rfl) rfl ?_; dsimp only [List.getElem_toArray, List.getElem_cons_succ, List.getElem_cons_zero]
  obtain ⟨S2, hS2, hB2, hM2, hH2, hB⟩ := St.lend (H1 := [ldP g A4 c4 r4]) (H2 := [_]) hs
  refine wl_call ok_plan_reader_next (lnext_any hS2 (fun w' k => hK w' (hM2 w' k)) hr4) ⟨rfl, trivial⟩ rfl ?_
  rintro _ _ ⟨D, cd, A5, c5, rfl, hD0, hr5, hsx⟩
  replace hs := hB _ _ hsx
  clear hsx hB hH2 hM2 hB2 hS2
  dsimp only [List.cons_append, List.nil_append] at hs
  obtain ⟨⟨dt, r5⟩, hx5⟩ : ∃ x, nextR r4 = x := ⟨_, rfl⟩
  rw [hx5] at hs hD0 ⊢
  dsimp only at hs hD0 ⊢
  refine wl_nil ?_
  refine we_heldM (fun _ => hK _ hs.1) ?_
  refine wm_one 6 (by kernel_rfl) rfl ?_; dsimp only [List.getElem_toArray, List.getElem_cons_succ, List.getElem_cons_zero]
  apply ws_st hs 1; exact rfl; exact rfl; exact g1_str; exact rfl; exact rfl; exact rfl; clear hs; intro _ hs; dsimp only [setC, List.set] at hs; refine wl_nil ?_
  refine we_heldM (fun _ => hK _ hs.1) ?_
  have hS := hK _ hs.1
  apply wm_takeP 7; exact rfl; intro _; apply opv_fa; exact fa_Lc4; exact rfl; exact rfl; kernel_rfl; exact fun _ => hS
  clear hS
  refine wm_one 8 (by kernel_rfl) rfl ?_; dsimp only [List.getElem_toArray, List.getElem_cons_succ, List.getElem_cons_zero]
  apply ws_st hs 1; exact rfl; exact rfl; exact g1_by; exact rfl; exact rfl; exact rfl; clear hs; intro _ hs; dsimp only [setC, List.set] at hs; refine wl_nil ?_
  refine we_heldM (fun h => absurd h (by decide)) ?_
  refine wm_done (by kernel_rfl) ?_
  skip
  exact we_end0 rfl ⟨_, rfl, A5, c5, D, cd, hs, hD0⟩
def LcR (base gc : Nat) (x : LcM) (K : World → Prop) (H : List Cd) : Prop := ∃ (D : Option Addr) (cd : Nat), H = [.blk gc 112 (lcV x D cd)] ∧ ∀ w, K w → OwB w base D cd x.data
theorem lcell_any {g base : Nat} {A : Option Addr} {c : Nat} {r : Rd1} {S : BS} {w : World} {K : World → Prop} (h0 : Sat w [ldP g A c r] S) (hK : ∀ w', Mod S w w' → K w') (hr : RdK K base A c r.1) (hb : base ≤ w.heap.size) (hl : ∀ p ∈ r.1, p.length ≤ 1099511627776) :
    CallsV Try.prog 68 #[.pointer (some ⟨g, 0, none⟩)] w fun v w' => ∃ (A' : Option Addr) (c' : Nat) (D : Option Addr) (cd : Nat), v = .agg (lcV (cellP r).1 D cd).toArray ∧ RdK K base A' c' (cellP r).2.1 ∧
      St S w w' [ldP g A' c' (cellP r).2, .ck (kp fun w => OwB w base D cd (cellP r).1.data)] := by
  have hs := St.start h0
  have hpl := next_len hl
  refine calls_in (N := _) Try.func68 rfl Try.ntmps68 rfl ?_; show WC _ _ _ _ _ _
  refine wc_sr ?_
  refine ws_new hs zeroLc rfl ?_; clear hs; intro g1 _ hs
  replace hs := hs.front 1 rfl
  dsimp only [delC] at hs
  refine wl_ns ?_; refine wc_sr ?_; refine wl_mv rfl rfl ?_
  refine wl_val (opv_mkFn (us := [.pointer (some ⟨g1, 0, none⟩)]) ⟨rfl, trivial⟩) rfl ?_
  obtain ⟨S2, hS2, hB2, hM2, hH2, hB⟩ := St.lend (H1 := [ldP g A c r, .blk g1 112 (lcV zLc none 0)]) (H2 := []) hs
  refine wl_call ok_plan_reader_in (lin_any (take := cellT) (z := zLc) (H := [.blk g1 112 (lcV zLc none 0)]) (LcR base g1) hS2 (fun w' k => hK w' (hM2 w' k)) hr (Nat.le_trans hb hs.size) hl ok_plan_reader_cell_1 ?_) ⟨rfl, rfl, trivial⟩ rfl ?_
  · intro p g2 A1 c1 K1 S1 w1 hp h01 hK1 hr1 hb1
    have hp2 : p.length ≤ 1099511627776 := by rw [hp]; exact hpl
    refine (lcell1_any h01 hK1 hr1 (fun q hq => Nat.le_trans (parts_le hq) hp2)).mono ?_
    rintro _ w2 ⟨A', c', D, cd, hsx, h2⟩
    exact ⟨A', c', _, hsx, D, cd, rfl, h2⟩
  rintro _ _ ⟨A', c', hr', hcase⟩
  rcases hcase with ⟨hn, hsx⟩ | ⟨hn, H2, K1, ⟨D, cd, rfl, hD⟩, hsx⟩
  · replace hs := hB _ _ hsx
    clear hsx hB hH2 hM2 hB2 hS2
    have hm : cellP r = (zLc, (nextR r).2) := by unfold cellP withinR; rw [if_neg hn]
    have hm2 : withinR zLc cellT r = (zLc, (nextR r).2) := hm
    rw [hm2] at hs hr'
    rw [hm]
    dsimp only [List.cons_append, List.nil_append] at hs hr' ⊢
    refine wl_ns ?_; refine wc_sr ?_; apply wl_val; apply opv_loadX; exact rfl; exact hs.ar 1 rfl; exact sLc; exact rfl; apply ws_stS hs 1; exact rfl; exact rfl; exact rfl; exact sLc; exact rfl; exact rfl; clear hs; intro _ hs; dsimp only [setC] at hs; refine wl_ns ?_; refine wc_ret ?_
    refine we_retC rfl rfl (hs.ar 1 rfl) sLc ⟨_, rfl, A', c', none, 0, rfl, hr', ?_⟩
    have h2 := (hs.drop 1 rfl).kpNil (K := fun w => OwB w base none 0 zLc.data) fun w => Ow.nil _ _ _
    exact h2.front 1 rfl
  · replace hs := hB _ _ hsx
    clear hsx hB hH2 hM2 hB2 hS2
    have hm2 : withinR zLc cellT r = cellP r := rfl
    rw [hm2] at hs hr' hD
    dsimp only [List.cons_append, List.nil_append] at hs
    refine wl_ns ?_; refine wc_sr ?_; apply wl_val; apply opv_loadX; exact rfl; exact hs.ar 2 rfl; exact sLc; exact rfl; apply ws_stS hs 2; exact rfl; exact rfl; exact rfl; exact sLc; exact rfl; exact rfl; clear hs; intro _ hs; dsimp only [setC] at hs; refine wl_ns ?_; refine wc_ret ?_
    refine we_retC rfl rfl (hs.ar 2 rfl) sLc ⟨_, rfl, A', c', D, cd, rfl, hr', ?_⟩
    have h2 := ((hs.drop 2 rfl).front 1 rfl).kpMono (K' := fun w => OwB w base D cd (cellP r).1.data) hD
    exact h2.front 1 rfl
section
variable {P : Program} {N : Nat} {Q : Exit → Act → World → Prop} {L : FL} {w : World} {t : TypeId} {g : Nat}
/-- A variable of one cell is handed back. -/
theorem we_retX {fn : Func} {R : Ending → World → Prop} {p : Nat} {T : TypeId} {u : Value} (hr : fn.results = #[.cell p t]) (hx : lookT L p = some (.pointer (some ⟨g, 0, none⟩))) (ha : Ar w g T [u]) (E : Cell1 P t)
    (h : R (.returned u) w) : WE N (bodyPost P fn R) .ret L w := fun a hA =>
  ⟨hA.nodefer, _, by
    have hc : w.cell? ⟨g, 0, none⟩ = some u := by have := ha.cell 0; simpa using this
    have hl : (loadVar t ⟨g, 0, none⟩).run P w = .ok u w := by simp [loadVar, E.agg, hc]
    have e := hA.get p _ hx
    rw [Array.getD_eq_getD_getElem?] at e
    simp [results, hr, e, asAddr, hl], h⟩
end
theorem within_2 {α : Type} {z : α} {take : Rd1 → α × Rd1} {r : Rd1} : (withinR z take r).2.1 = (nextR r).2.1 := by
  unfold withinR
  split <;> rfl
def lclI (S : BS) (w : World) (K : World → Prop) (base g gl : Nat) (r0 : Rd1) : FL → World → Nat → Prop := fun L wr f =>
  ∃ (r : Rd1) (pre : List LcM) (css : List (List Value)) (K2 : World → Prop) (E : Option Addr) (ce : Nat) (A : Option Addr) (c : Nat), L = [(0, .pointer (some ⟨g, 0, none⟩)), (1, .pointer (some ⟨gl, 0, none⟩))] ∧
    allT cellP r0 = (pre ++ (allF cellP f r).1, (allF cellP f r).2) ∧ r.1.length ≤ f ∧ pre.length + f ≤ 1099511627776 ∧ (∀ p ∈ r.1, p.length ≤ 1099511627776) ∧ RdK K base A c r.1 ∧ AllK K2 (QLc 0) pre css ∧
    St S w wr [ldP g A c r, .blk gl 107 [.slice E pre.length ce], .rg 5 112 E ce (css.map rawEl), .ck (kp K2)]
set_option maxHeartbeats 4000000 in
theorem lcl1_any {g gl base : Nat} {A : Option Addr} {c : Nat} {r : Rd1} {S : BS} {w : World} {K : World → Prop} (h0 : Sat w [ldP g A c r, .blk gl 107 [.slice none 0 0]] S) (hK : ∀ w', Mod S w w' → K w') (hr : RdK K base A c r.1) (hb : base ≤ w.heap.size) (hl : ∀ p ∈ r.1, p.length ≤ 1099511627776) (hlr : r.1.length ≤ 1099511627776) :
    CallsV Try.prog 67 #[.pointer (some ⟨g, 0, none⟩), .pointer (some ⟨gl, 0, none⟩)] w fun _ w' => ∃ (A' : Option Addr) (c' : Nat) (E : Option Addr) (ce : Nat) (css : List (List Value)) (K2 : World → Prop),
      St S w w' [ldP g A' c' (allT cellP r).2, .blk gl 107 [.slice E (allT cellP r).1.length ce], .rg 5 112 E ce (css.map rawEl), .ck (kp K2)] ∧ AllK K2 (QLc 0) (allT cellP r).1 css := by
  have hs := (((St.start h0).kpNil (K := fun _ => True) fun _ => trivial).nilG 5 112)
  replace hs := ((((hs.front 1 rfl).front 1 rfl).front 3 rfl).front 3 rfl)
  have hmax : maxLen = 9223372036854775807 := rfl
  refine calls_in (N := _) Try.func67 rfl Try.ntmps67 rfl ?_; show WC _ _ _ _ _ _
  refine wc_block ?_
  refine wc_loop (lclI S w K base g gl r) [(0, .pointer (some ⟨g, 0, none⟩)), (1, .pointer (some ⟨gl, 0, none⟩))] r.1.length ⟨r, [], [], _, none, 0, A, c, rfl, rfl, Nat.le_refl _, by simp; omega, hl, hr, AllK.nil, hs⟩ ⟨rfl, rfl, trivial⟩ ?_
  clear hs hr hl
  rintro _ w5 f ⟨r5, pre, css, K2, E, ce, A5, c5, rfl, hent, hf, hpf, hl5, hr5, hEK, hs⟩
  have hkl := hEK.1
  refine wc_seq ?_; refine wc_sr ?_; refine wl_mv rfl rfl ?_
  refine wl_call ok_plan_reader_more (lmore_any (hs.ar 0 rfl)) ⟨rfl, trivial⟩ rfl ?_
  rintro _ _ ⟨rfl, rfl⟩
  refine wl_ns ?_
  refine wc_cond rfl (fun h1 => ?_) (fun h1 => ?_)
  · have hcn := next_cnt1 h1
    obtain ⟨f, rfl⟩ : ∃ f', f = f' + 1 := ⟨f - 1, by omega⟩
    rw [allF, if_pos h1] at hent
    rw [← within_2 (z := (zLc, cellT).1) (take := (zLc, cellT).2)] at hcn
    have hl6 := within_rest (z := (zLc, cellT).1) (take := (zLc, cellT).2) hl5
    refine wc_skip ?_; refine we_seq ?_; refine wc_block ?_
    refine wc_heldG (fun w' => Ar w' gl 107 [.slice E pre.length ce]) 5 mixed ?_
    replace hs := hs.below (Below.refl _ _).drew
    have hS := hs.ar 1 rfl
    apply wm_take 0; exact rfl; intro _ hw_; apply opv_ldX; exact rfl; assumption; exact g1_lcs; exact rfl; exact rfl; kernel_rfl; exact hS; apply wm_take 1; exact rfl; intro _ hw_; apply opv_move; exact rfl; exact rfl; kernel_rfl; exact hS
    clear hS
    refine wm_one 2 (by kernel_rfl) rfl ?_; dsimp only [List.getElem_toArray, List.getElem_cons_succ, List.getElem_cons_zero]
    obtain ⟨S2, hS2, hB2, hM2, hH2, hB⟩ := St.lend (H1 := [ldP g A5 c5 r5]) (H2 := [_, _, _]) hs
    refine wl_call ok_plan_reader_cell (lcell_any hS2 (fun w' k => hK w' (hM2 w' k)) hr5 (Nat.le_trans hb hs.size) hl5) ⟨rfl, trivial⟩ rfl ?_
    rintro _ _ ⟨A6, c6, D, cd, rfl, hr6, hsx⟩
    replace hs := hB _ _ hsx
    clear hsx hB hH2 hM2 hB2 hS2
    dsimp only [List.cons_append, List.nil_append] at hs
    obtain ⟨⟨x, r6⟩, hx6⟩ : ∃ z, cellP r5 = z := ⟨_, rfl⟩
    have hx6' : withinR (zLc, cellT).1 (zLc, cellT).2 r5 = (x, r6) := hx6
    rw [hx6'] at hcn hl6
    rw [hx6] at hs hr6 hent ⊢
    dsimp only at hs hr6 hcn hl6 hent ⊢
    refine wl_nil ?_
    refine we_heldM (fun _ => hs.ar 2 rfl) ?_
    refine wm_one 3 (by kernel_rfl) rfl ?_; dsimp only [List.getElem_toArray, List.getElem_cons_succ, List.getElem_cons_zero]
    refine ws_bsR (cs := lcV x D cd) hs tkLc ⟨_, rfl, rfl⟩ rfl (by decide) rfl ?_
    clear hs; intro B3 _ hs
    refine wl_nil ?_
    refine we_heldM (fun _ => hs.ar 3 rfl) ?_
    refine wm_one 4 (by kernel_rfl) rfl ?_; dsimp only [List.getElem_toArray, List.getElem_cons_succ, List.getElem_cons_zero]
    refine ws_appR (css := [lcV x D cd]) hs 4 rfl rfl tkLc (by simp [hkl]) rfl (hs.rg 0 rfl).rd rfl (by simp [lcV, Value.oneCell']) (by omega) (by simp only [maxLen]; omega) rfl ?_
    clear hs; intro E2 ce2 _ hs; dsimp only [setC] at hs
    refine wl_nil ?_
    refine we_heldM (fun _ => hs.ar 3 rfl) ?_
    refine wm_one 5 (by kernel_rfl) rfl ?_; dsimp only [List.getElem_toArray, List.getElem_cons_succ, List.getElem_cons_zero]
    apply ws_st hs 3; exact rfl; exact rfl; exact g1_lcs; exact rfl; exact rfl; exact rfl; clear hs; intro _ hs; dsimp only [setC, List.set] at hs; refine wl_nil ?_
    refine we_heldM (fun h => absurd h (by decide)) ?_
    refine wm_done (by kernel_rfl) ?_
    replace hs := (St.kpAnd ((((((hs.front 4 rfl).front 4 rfl).front 3 rfl).front 5 rfl).front 5 rfl).drop 5 rfl))
    replace hs := (((hs.front 3 rfl).front 3 rfl).front 3 rfl)
    rw [show css.map rawEl ++ [lcV x D cd].map rawEl = (css ++ [lcV x D cd]).map rawEl by simp] at hs
    refine we_block_norm ?_
    refine we_loop _ f ⟨r6, pre ++ [x], css ++ [lcV x D cd], fun w => OwB w base D cd x.data ∧ K2 w, E2, ce2, A6, c6, rfl, by rw [hent]; simp, by omega, by simp; omega, hl6, hr6, (hEK.weak fun w h => h.2).snoc fun w' h => ⟨D, cd, rfl, h.1.mono (Nat.zero_le _)⟩, ?_⟩ (by omega) ⟨rfl, rfl, trivial⟩
    rw [show pre.length + 1 = (pre ++ [x]).length by simp] at hs
    exact hs
  · have he5 : allF cellP f r5 = ([], r5) := by cases f <;> simp [allF, h1]
    rw [he5, List.append_nil] at hent
    dsimp only at hent
    rw [hent]
    refine wc_exit ?_; refine we_seq_exit ?_; refine we_loop_exit ?_; refine we_block_exit ?_
    exact we_end0 rfl ⟨_, rfl, A5, c5, E, ce, css, K2, hs, hEK⟩
def lcellsR (gl : Nat) (l : List LcM) (K : World → Prop) (H : List Cd) : Prop := ∃ (E : Option Addr) (ce : Nat) (css : List (List Value)) (K2 : World → Prop), H = [.blk gl 107 [.slice E l.length ce], .rg 5 112 E ce (css.map rawEl), .ck (kp K2)] ∧ AllK K2 (QLc 0) l css
theorem lcells_any {g base : Nat} {A : Option Addr} {c : Nat} {r : Rd1} {S : BS} {w : World} {K : World → Prop} (h0 : Sat w [ldP g A c r] S) (hK : ∀ w', Mod S w w' → K w') (hr : RdK K base A c r.1) (hb : base ≤ w.heap.size) (hl : ∀ p ∈ r.1, p.length ≤ 1099511627776) :
    CallsV Try.prog 41 #[.pointer (some ⟨g, 0, none⟩)] w fun v w' => ∃ (A' : Option Addr) (c' : Nat) (E : Option Addr) (ce : Nat), v = .slice E (cellsP r).1.length ce ∧ (cellsP r).1.length ≤ ce ∧ RdK K base A' c' (cellsP r).2.1 ∧
      St S w w' [ldP g A' c' (cellsP r).2, .ck (kp fun w => RdR 5 w All E ((cellsP r).1.map lcEl))] := by
  have hs := St.start h0
  have hpl := next_len hl
  refine calls_in (N := _) Try.func41 rfl Try.ntmps41 rfl ?_; show WC _ _ _ _ _ _
  refine wc_sr ?_
  refine ws_new1 hs z1_lcs rfl rfl ?_; clear hs; intro g1 _ hs
  replace hs := hs.front 1 rfl
  dsimp only [delC] at hs
  refine wl_ns ?_; refine wc_sr ?_; refine wl_mv rfl rfl ?_
  refine wl_val (opv_mkFn (us := [.pointer (some ⟨g1, 0, none⟩)]) ⟨rfl, trivial⟩) rfl ?_
  obtain ⟨S2, hS2, hB2, hM2, hH2, hB⟩ := St.lend (H1 := [ldP g A c r, .blk g1 107 [.slice none 0 0]]) (H2 := []) hs
  refine wl_call ok_plan_reader_in (lin_any (take := allT cellP) (z := []) (H := [.blk g1 107 [.slice none 0 0]]) (lcellsR g1) hS2 (fun w' k => hK w' (hM2 w' k)) hr (Nat.le_trans hb hs.size) hl ok_plan_reader_cells_1 ?_) ⟨rfl, rfl, trivial⟩ rfl ?_
  · intro p g2 A1 c1 K1 S1 w1 hp h01 hK1 hr1 hb1
    have hp2 : p.length ≤ 1099511627776 := by rw [hp]; exact hpl
    refine (lcl1_any h01 hK1 hr1 hb1 (fun q hq => Nat.le_trans (parts_le hq) hp2) (by have := parts_sizeX p; omega)).mono ?_
    rintro _ w2 ⟨A', c', E, ce, css, K2, hsx, h2⟩
    exact ⟨A', c', _, hsx, E, ce, css, K2, rfl, h2⟩
  rintro _ _ ⟨A', c', hr', hcase⟩
  rcases hcase with ⟨hn, hsx⟩ | ⟨hn, H2, K1, ⟨E, ce, css, K2, rfl, hEK⟩, hsx⟩
  · replace hs := hB _ _ hsx
    clear hsx hB hH2 hM2 hB2 hS2
    have hm : cellsP r = ([], (nextR r).2) := by unfold cellsP withinR; rw [if_neg hn]
    have hm2 : withinR [] (allT cellP) r = ([], (nextR r).2) := hm
    rw [hm2] at hs hr'
    rw [hm]
    dsimp only [List.cons_append, List.nil_append] at hs hr' ⊢
    refine wl_ns ?_; refine wc_sr ?_; apply wl_val; apply opv_ldX; exact rfl; exact hs.ar 1 rfl; exact g1_lcs; exact rfl; exact rfl; apply ws_st hs 1; exact rfl; exact rfl; exact g1_lcs; exact rfl; exact rfl; exact rfl; clear hs; intro _ hs; dsimp only [setC, List.set] at hs; refine wl_ns ?_; refine wc_ret ?_
    refine we_retX rfl rfl (hs.ar 1 rfl) g1_lcs ⟨_, rfl, A', c', none, 0, rfl, Nat.le_refl _, hr', ?_⟩
    have h2 := (hs.drop 1 rfl).kpNil (K := fun w => RdR 5 w All none (([] : List LcM).map lcEl)) fun w => rdr_nil
    exact h2.front 1 rfl
  · replace hs := hB _ _ hsx
    clear hsx hB hH2 hM2 hB2 hS2
    have hm2 : withinR [] (allT cellP) r = cellsP r := rfl
    rw [hm2] at hs hr' hEK
    dsimp only [List.cons_append, List.nil_append] at hs
    have hcap := OwR.capR (hs.rg 3 rfl)
    rw [List.length_map, hEK.1] at hcap
    refine wl_ns ?_; refine wc_sr ?_; apply wl_val; apply opv_ldX; exact rfl; exact hs.ar 2 rfl; exact g1_lcs; exact rfl; exact rfl; apply ws_st hs 2; exact rfl; exact rfl; exact g1_lcs; exact rfl; exact rfl; exact rfl; clear hs; intro _ hs; dsimp only [setC, List.set] at hs; refine wl_ns ?_; refine wc_ret ?_
    refine we_retX rfl rfl (hs.ar 2 rfl) g1_lcs ⟨_, rfl, A', c', E, ce, rfl, hcap, hr', ?_⟩
    have h2 := St.kpOf (K := fun w => RdR 5 w All E ((cellsP r).1.map lcEl)) (H1 := [_, _]) ((((hs.front 4 rfl).front 4 rfl).drop 3 rfl).drop 3 rfl) fun w S hS => by
      obtain ⟨S', ho⟩ := St.rgP (M := S) (w0 := w) (w := w) hS
      exact hEK.rdr (Sat.kp (i := 1) hS rfl) (fun x cs h => lc_of h) ho
    exact h2.front 1 rfl
def lrwI (S : BS) (w : World) (K : World → Prop) (base g gl : Nat) (r0 : Rd1) : FL → World → Nat → Prop := fun L wr f =>
  ∃ (r : Rd1) (pre : List (List LcM)) (css : List (List Value)) (K2 : World → Prop) (E : Option Addr) (ce : Nat) (A : Option Addr) (c : Nat), L = [(0, .pointer (some ⟨g, 0, none⟩)), (1, .pointer (some ⟨gl, 0, none⟩))] ∧
    allT cellsP r0 = (pre ++ (allF cellsP f r).1, (allF cellsP f r).2) ∧ r.1.length ≤ f ∧ pre.length + f ≤ 1099511627776 ∧ (∀ p ∈ r.1, p.length ≤ 1099511627776) ∧ RdK K base A c r.1 ∧ AllK K2 QRw pre css ∧
    St S w wr [ldP g A c r, .blk gl 116 [.slice E pre.length ce], .rg 1 107 E ce (css.map rawEl), .ck (kp K2)]
set_option maxHeartbeats 4000000 in
theorem lrw1_any {g gl base : Nat} {A : Option Addr} {c : Nat} {r : Rd1} {S : BS} {w : World} {K : World → Prop} (h0 : Sat w [ldP g A c r, .blk gl 116 [.slice none 0 0]] S) (hK : ∀ w', Mod S w w' → K w') (hr : RdK K base A c r.1) (hb : base ≤ w.heap.size) (hl : ∀ p ∈ r.1, p.length ≤ 1099511627776) (hlr : r.1.length ≤ 1099511627776) :
    CallsV Try.prog 40 #[.pointer (some ⟨g, 0, none⟩), .pointer (some ⟨gl, 0, none⟩)] w fun _ w' => ∃ (A' : Option Addr) (c' : Nat) (E : Option Addr) (ce : Nat) (css : List (List Value)) (K2 : World → Prop),
      St S w w' [ldP g A' c' (allT cellsP r).2, .blk gl 116 [.slice E (allT cellsP r).1.length ce], .rg 1 107 E ce (css.map rawEl), .ck (kp K2)] ∧ AllK K2 QRw (allT cellsP r).1 css := by
  have hs := (((St.start h0).kpNil (K := fun _ => True) fun _ => trivial).nilG 1 107)
  replace hs := ((((hs.front 1 rfl).front 1 rfl).front 3 rfl).front 3 rfl)
  have hmax : maxLen = 9223372036854775807 := rfl
  refine calls_in (N := _) Try.func40 rfl Try.ntmps40 rfl ?_; show WC _ _ _ _ _ _
  refine wc_block ?_
  refine wc_loop (lrwI S w K base g gl r) [(0, .pointer (some ⟨g, 0, none⟩)), (1, .pointer (some ⟨gl, 0, none⟩))] r.1.length ⟨r, [], [], _, none, 0, A, c, rfl, rfl, Nat.le_refl _, by simp; omega, hl, hr, AllK.nil, hs⟩ ⟨rfl, rfl, trivial⟩ ?_
  clear hs hr hl
  rintro _ w5 f ⟨r5, pre, css, K2, E, ce, A5, c5, rfl, hent, hf, hpf, hl5, hr5, hEK, hs⟩
  have hkl := hEK.1
  refine wc_seq ?_; refine wc_sr ?_; refine wl_mv rfl rfl ?_
  refine wl_call ok_plan_reader_more (lmore_any (hs.ar 0 rfl)) ⟨rfl, trivial⟩ rfl ?_
  rintro _ _ ⟨rfl, rfl⟩
  refine wl_ns ?_
  refine wc_cond rfl (fun h1 => ?_) (fun h1 => ?_)
  · have hcn := next_cnt1 h1
    obtain ⟨f, rfl⟩ : ∃ f', f = f' + 1 := ⟨f - 1, by omega⟩
    rw [allF, if_pos h1] at hent
    rw [← within_2 (z := (([] : List LcM), allT cellP).1) (take := (([] : List LcM), allT cellP).2)] at hcn
    have hl6 := within_rest (z := (([] : List LcM), allT cellP).1) (take := (([] : List LcM), allT cellP).2) hl5
    refine wc_skip ?_; refine we_seq ?_; refine wc_block ?_
    refine wc_heldG (fun w' => Ar w' gl 116 [.slice E pre.length ce]) 5 mixed ?_
    replace hs := hs.below (Below.refl _ _).drew
    have hS := hs.ar 1 rfl
    apply wm_take 0; exact rfl; intro _ hw_; apply opv_ldX; exact rfl; assumption; exact g1_rws; exact rfl; exact rfl; kernel_rfl; exact hS; apply wm_take 1; exact rfl; intro _ hw_; apply opv_move; exact rfl; exact rfl; kernel_rfl; exact hS
    clear hS
    refine wm_one 2 (by kernel_rfl) rfl ?_; dsimp only [List.getElem_toArray, List.getElem_cons_succ, List.getElem_cons_zero]
    obtain ⟨S2, hS2, hB2, hM2, hH2, hB⟩ := St.lend (H1 := [ldP g A5 c5 r5]) (H2 := [_, _, _]) hs
    refine wl_call ok_plan_reader_cells (lcells_any hS2 (fun w' k => hK w' (hM2 w' k)) hr5 (Nat.le_trans hb hs.size) hl5) ⟨rfl, trivial⟩ rfl ?_
    rintro _ _ ⟨A6, c6, X, xc, rfl, hxc, hr6, hsx⟩
    replace hs := hB _ _ hsx
    clear hsx hB hH2 hM2 hB2 hS2
    dsimp only [List.cons_append, List.nil_append] at hs
    obtain ⟨⟨x, r6⟩, hx6⟩ : ∃ z, cellsP r5 = z := ⟨_, rfl⟩
    have hx6' : withinR (([] : List LcM), allT cellP).1 (([] : List LcM), allT cellP).2 r5 = (x, r6) := hx6
    rw [hx6'] at hcn hl6
    rw [hx6] at hs hr6 hent hxc ⊢
    dsimp only at hs hr6 hcn hl6 hent hxc ⊢
    refine wl_nil ?_
    refine we_heldM (fun _ => hs.ar 2 rfl) ?_
    refine wm_one 3 (by kernel_rfl) rfl ?_; dsimp only [List.getElem_toArray, List.getElem_cons_succ, List.getElem_cons_zero]
    refine ws_bsR (cs := [Value.slice X x.length xc]) hs tkRw ⟨_, rfl, rfl⟩ rfl (by decide) rfl ?_
    clear hs; intro B3 _ hs
    refine wl_nil ?_
    refine we_heldM (fun _ => hs.ar 3 rfl) ?_
    refine wm_one 4 (by kernel_rfl) rfl ?_; dsimp only [List.getElem_toArray, List.getElem_cons_succ, List.getElem_cons_zero]
    refine ws_appR (css := [[Value.slice X x.length xc]]) hs 4 rfl rfl tkRw (by simp [hkl]) rfl (hs.rg 0 rfl).rd rfl (by simp [lcV, Value.oneCell']) (by omega) (by simp only [maxLen]; omega) rfl ?_
    clear hs; intro E2 ce2 _ hs; dsimp only [setC] at hs
    refine wl_nil ?_
    refine we_heldM (fun _ => hs.ar 3 rfl) ?_
    refine wm_one 5 (by kernel_rfl) rfl ?_; dsimp only [List.getElem_toArray, List.getElem_cons_succ, List.getElem_cons_zero]
    apply ws_st hs 3; exact rfl; exact rfl; exact g1_rws; exact rfl; exact rfl; exact rfl; clear hs; intro _ hs; dsimp only [setC, List.set] at hs; refine wl_nil ?_
    refine we_heldM (fun h => absurd h (by decide)) ?_
    refine wm_done (by kernel_rfl) ?_
    replace hs := (St.kpAnd ((((((hs.front 4 rfl).front 4 rfl).front 3 rfl).front 5 rfl).front 5 rfl).drop 5 rfl))
    replace hs := (((hs.front 3 rfl).front 3 rfl).front 3 rfl)
    rw [show css.map rawEl ++ [[Value.slice X x.length xc]].map rawEl = (css ++ [[Value.slice X x.length xc]]).map rawEl by simp] at hs
    refine we_block_norm ?_
    refine we_loop _ f ⟨r6, pre ++ [x], css ++ [[Value.slice X x.length xc]], fun w => RdR 5 w All X (x.map lcEl) ∧ K2 w, E2, ce2, A6, c6, rfl, by rw [hent]; simp, by omega, by simp; omega, hl6, hr6, (hEK.weak fun w h => h.2).snoc fun w' h => ⟨X, xc, rfl, hxc, h.1⟩, ?_⟩ (by omega) ⟨rfl, rfl, trivial⟩
    rw [show pre.length + 1 = (pre ++ [x]).length by simp] at hs
    exact hs
  · have he5 : allF cellsP f r5 = ([], r5) := by cases f <;> simp [allF, h1]
    rw [he5, List.append_nil] at hent
    dsimp only at hent
    rw [hent]
    refine wc_exit ?_; refine we_seq_exit ?_; refine we_loop_exit ?_; refine we_block_exit ?_
    exact we_end0 rfl ⟨_, rfl, A5, c5, E, ce, css, K2, hs, hEK⟩
end Go.Proofs.Ytaacnknniaipmaa

/-
  The walk over Read of plan's replies.
-/
namespace Go.Proofs.Ytaacnknniaipmaa
open Go.RowKit

theorem numR_le {r : Rd1} : (numR r).2.1.length ≤ r.1.length := by
  rw [num_rest]
  exact next_le _
theorem lrwin_any {g g6 base : Nat} {A : Option Addr} {c : Nat} {r : Rd1} {S : BS} {w : World} {K : World → Prop} (h0 : Sat w [ldP g A c r, .blk g6 116 [.slice none 0 0]] S) (hK : ∀ w', Mod S w w' → K w') (hr : RdK K base A c r.1) (hb : base ≤ w.heap.size) (hl : ∀ p ∈ r.1, p.length ≤ 1099511627776) :
    CallsV Try.prog 39 #[.pointer (some ⟨g, 0, none⟩), .func (.func 40) #[] #[.pointer (some ⟨g6, 0, none⟩)]] w fun v w' => ∃ (A' : Option Addr) (c' : Nat) (X : Option Addr) (xc : Nat), (rowsP r).1.length ≤ xc ∧ RdK K base A' c' (rowsP r).2.1 ∧
      St S w w' [ldP g A' c' (rowsP r).2, .blk g6 116 [.slice X (rowsP r).1.length xc], .ck (kp fun w => RdR 1 w All X ((rowsP r).1.map rwEl))] := by
  have hs := St.start h0
  have hpl := next_len hl
  refine (lin_any (us := [.pointer (some ⟨g6, 0, none⟩)]) (take := allT cellsP) (z := []) (H := [.blk g6 116 [.slice none 0 0]]) (fun l K H => ∃ (E : Option Addr) (ce : Nat) (css : List (List Value)) (K2 : World → Prop), H = [.blk g6 116 [.slice E l.length ce], .rg 1 107 E ce (css.map rawEl), .ck (kp K2)] ∧ AllK K2 QRw l css) h0 hK hr hb hl ok_plan_Read_1 ?_).mono ?_
  · intro p g2 A1 c1 K1 S1 w1 hp h01 hK1 hr1 hb1
    have hp2 : p.length ≤ 1099511627776 := by rw [hp]; exact hpl
    refine (lrw1_any h01 hK1 hr1 hb1 (fun q hq => Nat.le_trans (parts_le hq) hp2) (by have := parts_sizeX p; omega)).mono ?_
    rintro _ w2 ⟨A', c', E, ce, css, K2, hsx, h2⟩
    exact ⟨A', c', _, hsx, E, ce, css, K2, rfl, h2⟩
  rintro _ w2 ⟨A', c', hr', hcase⟩
  rcases hcase with ⟨hn, hsx⟩ | ⟨hn, H2, K1, ⟨E, ce, css, K2, rfl, hEK⟩, hsx⟩
  · have hm : rowsP r = ([], (nextR r).2) := by unfold rowsP withinR; rw [if_neg hn]
    have hm2 : withinR [] (allT cellsP) r = ([], (nextR r).2) := hm
    rw [hm2] at hsx hr'
    rw [hm]
    refine ⟨A', c', none, 0, Nat.le_refl _, hr', ?_⟩
    have h2 := hsx.kpNil (K := fun w => RdR 1 w All none (([] : List (List LcM)).map rwEl)) fun w => rdr_nil
    exact ((h2.front 2 rfl).front 2 rfl)
  · have hm2 : withinR [] (allT cellsP) r = rowsP r := rfl
    rw [hm2] at hsx hr' hEK
    have hcap := OwR.capR (hsx.rg 3 rfl)
    rw [List.length_map, hEK.1] at hcap
    refine ⟨A', c', E, ce, hcap, hr', ?_⟩
    have h2 := St.kpOf (K := fun w => RdR 1 w All E ((rowsP r).1.map rwEl)) (H1 := [_, _]) (((((hsx.front 2 rfl).front 1 rfl).front 4 rfl).front 4 rfl).drop 4 rfl) fun w S hS => by
      obtain ⟨S', ho⟩ := St.rgP (M := S) (w0 := w) (w := w) hS
      exact hEK.rdr (Sat.kp (i := 1) hS rfl) (fun x cs h => rw_of h) ho
    exact ((h2.front 2 rfl).front 2 rfl)
def RpRes (w : World) (x : RpM × Nat) (v : Value) (w' : World) : Prop := ∃ (E : Option Addr) (ce : Nat),
  v = .tuple #[.agg (rpV x.1 E ce).toArray, .int .i64 (x.2 : Int)] ∧ x.1.rows.length ≤ ce ∧ St NoB w w' [.ck (kp fun w' => RdR 1 w' All E (x.1.rows.map rsEl'))]
theorem RpRes.no {w w' : World} {e : Nat} {H : List Cd} {v : Value} (hs : St NoB w w' H) (hv : v = .tuple #[.agg (rpV zRp none 0).toArray, .int .i64 (e : Int)]) : RpRes w (zRp, e) v w' :=
  ⟨none, 0, hv, Nat.le_refl _, hs.nil.kpNil fun w' => rdr_nil⟩
theorem within_rows {r : Rd1} : (rowsP r).2.1 = (nextR r).2.1 := within_2
def LrI (w : World) (g g2 g5 : Nat) (e a : Int) (K : World → Prop) (r0 : Rd1) : FL → World → Nat → Prop := fun L wr f =>
  ∃ (r : Rd1) (pre : List (List (List LcM))) (css : List (List Value)) (K2 : World → Prop) (E : Option Addr) (ce : Nat) (A : Option Addr) (c : Nat), L = [(2, .pointer (some ⟨g2, 0, none⟩)), (4, .pointer (some ⟨g, 0, none⟩)), (5, .pointer (some ⟨g5, 0, none⟩))] ∧
    allT rowsP r0 = (pre ++ (allF rowsP f r).1, (allF rowsP f r).2) ∧ r.1.length ≤ f ∧ pre.length + f ≤ 1099511627776 ∧ (∀ p ∈ r.1, p.length ≤ 1099511627776) ∧ RdK K w.heap.size A c r.1 ∧ AllK K2 QRs pre css ∧
    St NoB w wr [ldP g A c r, .blk g5 56 [.int .i64 e, .int .i64 a, .slice E pre.length ce], .rg 1 116 E ce (css.map rawEl), .ck (kp K2), .ck (kp K), .blk g2 56 (rpV zRp none 0)]
set_option maxHeartbeats 8000000 in
set_option maxRecDepth 8000 in
theorem lread_any {A : Option Addr} {n c : Nat} {xs : By} {w : World} (hr : RdB w A xs) (hn : xs.length = n) (hc : xs.length ≤ c) (hl : xs.length ≤ 1099511627776) :
    CallsV Try.prog 16 #[.slice A n c] w (RpRes w (readRp xs)) := by
  subst hn
  have hs := St.init w
  have hmax : maxLen = 9223372036854775807 := rfl
  have hpl : ∀ p ∈ (parts xs).1, p.length ≤ 1099511627776 := fun q hq => by have := parts_le hq; omega
  have hpz : (parts xs).1.length ≤ 1099511627776 := by have := parts_sizeX xs; omega
  unfold readRp rplT
  refine calls_in (N := _) Try.func16 rfl Try.ntmps16 rfl ?_; show WC _ _ _ _ _ _
  refine wc_sr ?_
  refine ws_new hs zeroRp rfl ?_; clear hs; intro g2 _ hs
  refine wl_as rfl rfl ?_; refine wl_ns ?_; refine wc_sr ?_; refine wl_mv rfl rfl ?_
  refine wl_call ok_plan_open (lopen_any (hr.below hs.bel) rfl hc (by omega)) ⟨rfl, trivial⟩ rfl ?_
  rintro _ _ ⟨g, B1, cb1, K, rfl, hk1, hsx⟩
  have hsz := hs.size
  have hk1 := hk1.low hsz
  replace hs := hs.call hsx
  clear hsx
  dsimp only [List.cons_append, List.nil_append, delC] at hs
  obtain ⟨r, hrr⟩ : ∃ r, parts xs = r := ⟨_, rfl⟩
  rw [hrr] at hs hk1 hpl hpz ⊢
  refine wl_as rfl rfl ?_; refine wl_ns ?_; refine wc_sr ?_; refine wl_mv rfl rfl ?_
  obtain ⟨S2, hS2, hB2, hM2, hH2, hB⟩ := St.lend (H1 := [ldP g B1 cb1 r]) (H2 := [_, _]) hs
  refine wl_call ok_plan_reader_number (lnum_any hS2 (fun w' k => Sat.kp (i := 0) (hH2 w' k) rfl) hk1 hpl) ⟨rfl, trivial⟩ rfl ?_
  rintro _ _ ⟨A1, c1, rfl, hr1, hsx⟩
  replace hs := hB _ _ hsx
  clear hsx hB hH2 hM2 hB2 hS2
  dsimp only [List.cons_append, List.nil_append] at hs
  have hl1 := numR_rest hpl
  have hz1 : (numR r).2.1.length ≤ r.1.length := numR_le
  obtain ⟨⟨e, r1⟩, hx1⟩ : ∃ x, numR r = x := ⟨_, rfl⟩
  rw [hx1] at hs hr1 hl1 hz1 ⊢
  dsimp only at hs hr1 hl1 hz1 ⊢
  refine wl_mv rfl rfl ?_
  obtain ⟨S2, hS2, hB2, hM2, hH2, hB⟩ := St.lend (H1 := [ldP g A1 c1 r1]) (H2 := [_, _]) hs
  refine wl_call ok_plan_reader_number (lnum_any hS2 (fun w' k => Sat.kp (i := 0) (hH2 w' k) rfl) hr1 hl1) ⟨rfl, trivial⟩ rfl ?_
  rintro _ _ ⟨A2, c2, rfl, hr2, hsx⟩
  replace hs := hB _ _ hsx
  clear hsx hB hH2 hM2 hB2 hS2
  dsimp only [List.cons_append, List.nil_append] at hs
  have hl2 := numR_rest hl1
  have hz2 : (numR r1).2.1.length ≤ r1.1.length := numR_le
  obtain ⟨⟨a, r2⟩, hx2⟩ : ∃ x, numR r1 = x := ⟨_, rfl⟩
  rw [hx2] at hs hr2 hl2 hz2 ⊢
  dsimp only at hs hr2 hl2 hz2 ⊢
  refine wl_val (opv_build (vs := [(0, .int .i64 e), (1, .int .i64 a)]) (cs := rpV ⟨e, a, []⟩ none 0) ⟨rfl, rfl, rfl, rfl, trivial⟩ (by kernel_rfl)) rfl ?_
  refine ws_var (cs := rpV ⟨e, a, []⟩ none 0) hs zeroRp sRp rfl (fun _ => rfl) (by first | rfl | simp [Value.oneCell']) rfl ?_; clear hs; intro g5 _ hs
  refine wl_ns ?_; refine wc_seq ?_; refine wc_block ?_
  dsimp only [rpV, List.length_nil] at hs
  replace hs := ((hs.kpNil (K := fun _ => True) fun _ => trivial).nilG 1 116)
  replace hs :=  ((((((hs.front 5 rfl).front 5 rfl).front 3 rfl).front 3 rfl).front 4 rfl).front 5 rfl)
  refine wc_loop (LrI w g g2 g5 e a K r2) [(2, .pointer (some ⟨g2, 0, none⟩)), (4, .pointer (some ⟨g, 0, none⟩)), (5, .pointer (some ⟨g5, 0, none⟩))] r2.1.length ⟨r2, [], [], _, none, 0, A2, c2, rfl, rfl, Nat.le_refl _, by simp; omega, hl2, hr2, AllK.nil, hs⟩ ⟨rfl, rfl, rfl, trivial⟩ ?_
  clear hs hr2 hl2 hr1 hl1 hk1
  rintro _ w5 f ⟨r5, pre, css, K2, E, ce, A5, c5, rfl, hent, hf, hpf, hl5, hr5, hEK, hs⟩
  have hkl := hEK.1
  refine wc_seq ?_; refine wc_sr ?_; refine wl_mv rfl rfl ?_
  refine wl_call ok_plan_reader_more (lmore_any (hs.ar 0 rfl)) ⟨rfl, trivial⟩ rfl ?_
  rintro _ _ ⟨rfl, rfl⟩
  refine wl_ns ?_
  refine wc_cond rfl (fun h1 => ?_) (fun h1 => ?_)
  · have hcn := next_cnt1 h1
    obtain ⟨f, rfl⟩ : ∃ f', f = f' + 1 := ⟨f - 1, by omega⟩
    rw [allF, if_pos h1] at hent
    rw [← within_rows] at hcn
    have hl6 := within_rest (z := ([] : List (List LcM))) (take := allT cellsP) hl5
    have hl6 : ∀ p ∈ (rowsP r5).2.1, p.length ≤ 1099511627776 := hl6
    refine wc_skip ?_; refine we_seq ?_; refine wc_block ?_; refine wc_sr ?_
    refine ws_new1 hs z1_rws rfl rfl ?_; clear hs; intro g6 _ hs
    refine wl_ns ?_; refine wc_sr ?_; refine wl_mv rfl rfl ?_
    refine wl_val (opv_mkFn (us := [.pointer (some ⟨g6, 0, none⟩)]) ⟨rfl, trivial⟩) rfl ?_
    replace hs := (((((((hs.front 6 rfl).front 6 rfl).front 6 rfl).front 6 rfl).front 6 rfl).front 5 rfl).front 6 rfl)
    have hsz5 := hs.size
    obtain ⟨S2, hS2, hB2, hM2, hH2, hB⟩ := St.lend (H1 := [ldP g A5 c5 r5, .blk g6 116 [.slice none 0 0]]) (H2 := [_, _, _, _, _]) hs
    refine wl_call ok_plan_reader_in (lrwin_any hS2 (fun w' k => Sat.kp (i := 3) (hH2 w' k) rfl) hr5 hs.size hl5) ⟨rfl, rfl, trivial⟩ rfl ?_
    rintro _ _ ⟨A6, c6, X, xc, hxc, hr6, hsx⟩
    replace hs := hB _ _ hsx
    clear hsx hB hH2 hM2 hB2 hS2
    dsimp only [List.cons_append, List.nil_append] at hs
    obtain ⟨⟨x, r6⟩, hx6⟩ : ∃ z, rowsP r5 = z := ⟨_, rfl⟩
    rw [hx6] at hs hr6 hent hxc hcn hl6
    dsimp only at hs hr6 hent hxc hcn hl6
    refine wl_ns ?_; refine wc_region ?_; apply wl_val; apply opv_fa; exact fa_Rp2; exact rfl; exact rfl; apply wl_val; apply opv_ldX; exact rfl; exact hs.ar 3 rfl; exact g1_rss; exact rfl; exact rfl; apply wl_val; apply opv_ldX; exact rfl; exact hs.ar 1 rfl; exact g1_rws; exact rfl; exact rfl
    refine ws_bsR (cs := [Value.slice X x.length xc]) hs tkRs ⟨_, rfl, rfl⟩ rfl (by decide) rfl ?_
    clear hs; intro B3 _ hs
    skip
    refine ws_appR (css := [[Value.slice X x.length xc]]) hs 5 rfl rfl tkRs (by simp [hkl]) rfl (hs.rg 0 rfl).rd rfl (by simp [lcV, Value.oneCell']) (by omega) (by simp only [maxLen]; omega) rfl ?_
    clear hs; intro E2 ce2 _ hs; dsimp only [setC] at hs
    apply wl_val; apply opv_fa; exact fa_Rp2; exact rfl; exact rfl; apply ws_st hs 4; exact rfl; exact rfl; exact g1_rss; exact rfl; exact rfl; exact rfl; clear hs; intro _ hs; dsimp only [setC, List.set] at hs; refine wl_nil ?_; refine we_block_norm ?_
    replace hs := (St.kpAnd (((((((((hs.front 8 rfl).front 8 rfl).front 7 rfl).front 7 rfl).front 5 rfl).front 8 rfl).front 8 rfl).drop 7 rfl).drop 7 rfl))
    rw [show css.map rawEl ++ [[Value.slice X x.length xc]].map rawEl = (css ++ [[Value.slice X x.length xc]]).map rawEl by simp] at hs
    refine we_loop _ f ⟨r6, pre ++ [x], css ++ [[Value.slice X x.length xc]], fun w => RdR 1 w All X (x.map rwEl) ∧ K2 w, E2, ce2, A6, c6, rfl, by rw [hent]; simp, by omega, by simp; omega, hl6, hr6, (hEK.weak fun w h => h.2).snoc fun w' h => ⟨X, xc, rfl, hxc, h.1⟩, ?_⟩ (by omega) ⟨rfl, rfl, rfl, trivial⟩
    rw [show pre.length + 1 = (pre ++ [x]).length by simp] at hs
    exact ((((((hs.front 5 rfl).front 5 rfl).front 2 rfl).front 5 rfl).front 5 rfl).front 5 rfl)
  · have he5 : allF rowsP f r5 = ([], r5) := by cases f <;> simp [allF, h1]
    rw [he5, List.append_nil] at hent
    dsimp only at hent
    rw [hent]
    clear hent he5 h1 hf hpf hl5
    obtain ⟨rows, er⟩ := r5
    dsimp only
    unfold ldP ldV rpV at hs
    dsimp only at hs
    refine wc_exit ?_; refine we_seq_exit ?_; refine we_loop_exit ?_; refine we_block_exit ?_; refine we_seq ?_; refine wc_seq ?_; refine wc_sr ?_; refine wl_mv rfl rfl ?_; apply wl_val; apply opv_nilOk; exact rfl; exact rfl; apply wl_val; apply opv_fa; exact fa_Ld1; exact rfl; exact rfl; apply wl_val; apply opv_ldX; exact rfl; exact hs.ar 0 rfl; exact g1_err; exact rfl; exact rfl; refine wl_bin rfl rfl bin_neq rfl ?_; refine wl_ns ?_
    by_cases he : er = 0
    · subst he
      rw [if_pos rfl]
      have hcap := OwR.capR (hs.rg 2 rfl)
      rw [List.length_map, hkl] at hcap
      apply wc_condFb; exact rfl; exact rfl; refine wc_skip ?_; refine we_seq ?_; refine wc_sr ?_; apply wl_val; apply opv_loadX; exact rfl; exact hs.ar 1 rfl; exact sRp; exact rfl; apply ws_stS hs 5; exact rfl; exact rfl; exact rfl; exact sRp; exact rfl; exact rfl; clear hs; intro _ hs; dsimp only [setC] at hs; refine wl_as rfl rfl ?_; refine wl_ns ?_; refine wc_ret ?_
      exact we_retC1 rfl rfl rfl (hs.ar 5 rfl) sRp ⟨_, rfl, E, ce, rfl, hcap, by
        have h2 := St.kpOf (K := fun w' => RdR 1 w' All E (pre.map rsEl')) (H1 := [_, _]) ((((((hs.front 3 rfl).front 3 rfl).drop 2 rfl).drop 2 rfl).drop 2 rfl).drop 2 rfl) fun w S hS => by
          obtain ⟨S', ho⟩ := St.rgP (M := S) (w0 := w) (w := w) hS
          exact hEK.rdr (Sat.kp (i := 1) hS rfl) (fun x cs h => rs_of h) ho
        exact h2⟩
    · rw [if_neg he]
      apply wc_decT; exact rfl; omega; refine wc_seq ?_
      refine wc_heldG (fun w' => Ar w' g 125 [.slice A5 rows.length c5, .int .i64 (er : Int)]) 6 mixed ?_
      replace hs := hs.below (Below.refl _ _).drew
      have hS := hs.ar 0 rfl
      apply wm_take 1; exact rfl; intro _ hw_; apply opv_move; exact rfl; exact rfl; kernel_rfl; exact hS; apply wm_take 2; exact rfl; intro _ hw_; apply opv_nilOk; exact rfl; exact rfl; kernel_rfl; exact hS; apply wm_take 3; exact rfl; intro _ hw_; apply opv_fa; exact fa_Ld1; exact rfl; exact rfl; kernel_rfl; exact hS; apply wm_take 4; exact rfl; intro _ hw_; apply opv_ldX; exact rfl; assumption; exact g1_err; exact rfl; exact rfl; kernel_rfl; exact hS
      refine wm_takeP 0 rfl (fun _ => opv_build (vs := []) (cs := rpV zRp none 0) trivial (by kernel_rfl)) rfl (by kernel_rfl) (fun _ => hS) ?_
      clear hS
      refine wm_one 5 (by kernel_rfl) rfl ?_; dsimp only [List.getElem_toArray, List.getElem_cons_succ, List.getElem_cons_zero]
      apply ws_stS hs 5; exact rfl; exact rfl; exact rfl; exact sRp; exact rfl; exact rfl; clear hs; intro _ hs; dsimp only [setC] at hs; refine wl_nil ?_
      refine we_heldM (fun _ => hs.ar 0 rfl) ?_
      refine wm_one 6 (by kernel_rfl) rfl ?_; dsimp only [List.getElem_toArray, List.getElem_cons_succ, List.getElem_cons_zero]
      refine wl_as rfl rfl ?_; refine wl_nil ?_
      refine we_heldM (fun h => absurd h (by decide)) ?_
      refine wm_done (by kernel_rfl) ?_
      refine we_seq ?_; refine wc_ret ?_; refine we_seq_ret ?_
      exact we_retC1 rfl rfl rfl (hs.ar 5 rfl) sRp ⟨_, rfl, RpRes.no hs rfl⟩
end Go.Proofs.Ytaacnknniaipmaa
