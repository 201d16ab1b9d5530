/-
  The texts of this proof, joined: Xp, Xq, Xr, Xs, Xt, Ph, Xu, Xv, Xw.
-/
import Derived.Test.YtaacnknniaipmaaCliM4
import Derived.Test.YtaacnknniaipmaaCliM1
import Derived.Test.YtaacnknniaipmaaCliM2

/-
  The walk over the fields of a packet that is read.
-/
namespace Go.Proofs.Ytaacnknniaipmaa
open Go.RowKit

theorem sTxn : StT Try.prog 29 2 := ⟨by kernel_rfl, by kernel_rfl⟩
/-- The packet's cells, as long as it has no message and no result. -/
def pkZ (p : PkM) : List Value := [.int .i64 p.kind, .int .i64 p.fr, .int .i64 p.to, .int .i64 p.shard, .int .i64 p.round, .int .i64 p.cmd, .int .i64 p.lead, .int .u64 (p.tx.1 : Int), .int .u64 (p.tx.2 : Int), .int .i64 p.code, .int .i64 0, .int .i64 0, .int .i64 0, .int .u64 0, .int .u64 0, .int .u64 0, .int .u64 0, .slice none 0 0, .bool false, .slice none 0 0, .int .i64 0, .int .i64 0, .int .u64 0, .slice none 0 0, .bool false, .int .u64 0, .slice none 0 0, .slice none 0 0, .slice none 0 0]
theorem zeroPk : (Try.prog.info? 42).map (·.zero) = some (some (.agg (pkZ zPk).toArray)) := by kernel_rfl
/-- What a packet's memory holds. -/
def PkK (base : Nat) (y : PkM) (E M P W Y : Option Addr) (cm cy : Nat) (w : World) : Prop := MsK base y.msg E M cm w ∧ ReK base y.res P W Y cy w
theorem msK0 (base : Nat) (w : World) : MsK base zMsg none none 0 w := ⟨rdr_nil, Ow.nil _ _ _⟩
theorem reK0 (base : Nat) (w : World) : ReK base zRes none none none 0 w := ⟨rdr_nil, rdr_nil, Ow.nil _ _ _⟩
end Go.Proofs.Ytaacnknniaipmaa

/-
  The walk over Read of packets.
-/
namespace Go.Proofs.Ytaacnknniaipmaa
open Go.RowKit

def RdRes (w : World) (x : PkM × Nat) (v : Value) (w' : World) : Prop := ∃ (E : Option Addr) (ce : Nat) (M : Option Addr) (cm : Nat) (P : Option Addr) (cp : Nat) (W : Option Addr) (cw : Nat) (Y : Option Addr) (cy : Nat) (D : Option Addr) (cd : Nat),
  v = .tuple #[.agg (pkV x.1 (msV x.1.msg E ce M cm) (reV x.1.res P cp W cw Y cy) D cd).toArray, .int .i64 (x.2 : Int)] ∧ St NoB w w' [.ck (kp fun w' => PkK w.heap.size x.1 E M P W Y cm cy w' ∧ OwB w' w.heap.size D cd x.1.data)]
theorem RdRes.no {w w' : World} {e : Nat} {H : List Cd} {v : Value} (hs : St NoB w w' H) (hv : v = .tuple #[.agg (pkZ zPk).toArray, .int .i64 (e : Int)]) : RdRes w (zPk, e) v w' :=
  ⟨none, 0, none, 0, none, 0, none, 0, none, 0, none, 0, hv, hs.nil.kpNil fun w' => ⟨⟨msK0 _ _, reK0 _ _⟩, Ow.nil _ _ _⟩⟩
end Go.Proofs.Ytaacnknniaipmaa

/-
  Walks over the client of session and awake of its laws.
-/
namespace Go.Proofs.Ytaacnknniaipmaa
open Go.RowKit

/-- A name's cells. -/
def txW (x : Nat × Nat) : List Value := [.int .u64 (x.1 : Int), .int .u64 (x.2 : Int)]
theorem bin_eqlTw (x y : Nat × Nat) : BinV Try.prog .eql 29 (.agg (txW x).toArray) (.agg (txW y).toArray) (.bool (decide (x = y))) := .mk fun u v w => by
  have hf : Try.prog.underlying 29 = some (.struct (Try.prog.fieldsOf 29)) := by kernel_rfl
  have hp : Try.prog.stoodInHeld 29 = false := by kernel_rfl
  have hg : Try.prog.eqGuardType Try.prog.depth 29 = false := by kernel_rfl
  have h1 := run_eqGuard_agg (P := Try.prog) w .eql 29 u v (txW x).toArray (txW y).toArray hg
  have h2 := run_equalIn_agg (P := Try.prog) w 9999 29 (txW x).toArray (txW y).toArray hf hp
  have h3 := run_eql_struct (P := Try.prog) w 29 (txW x).toArray (txW y).toArray
  have h4 : (Op.eqFields 9999 (txW x).toArray (txW y).toArray (Try.prog.fieldsOf 29).toList).run Try.prog w = .ok (decide (x = y)) w := by
    have e : (Try.prog.fieldsOf 29).toList.map (fun f => (f.name, f.type, f.offset)) = [("Session", 22, 0), ("Seq", 22, 1)] := by kernel_rfl
    obtain ⟨f1, f2, hfs, e1, e2⟩ : ∃ f1 f2 : Field, (Try.prog.fieldsOf 29).toList = [f1, f2] ∧ (f1.name, f1.type, f1.offset) = ("Session", 22, 0) ∧ (f2.name, f2.type, f2.offset) = ("Seq", 22, 1) := by
      generalize (Try.prog.fieldsOf 29).toList = l at e
      match l, e with
      | [f1, f2], e => simp only [List.map_cons, List.map_nil, List.cons.injEq, and_true] at e; exact ⟨f1, f2, rfl, e.1, e.2⟩
      | [], e => simp at e
      | [_], e => simp at e
      | _ :: _ :: _ :: _, e => simp at e
    simp only [Prod.mk.injEq] at e1 e2
    obtain ⟨n1, t1, o1⟩ := e1
    obtain ⟨n2, t2, o2⟩ := e2
    rw [hfs]
    have hi : ∀ a b : Int, (Op.equalIn 9999 22 (.int .u64 a) (.int .u64 b)).run Try.prog w = .ok (a == b) w := fun a b => run_equalIn_int (P := Try.prog) w 9998 22 .u64 .u64 a b Try.underlying22
    have hpt : ∀ (z : Nat × Nat) , (part 22 (txW z).toArray 0).run Try.prog w = .ok (.int .u64 (z.1 : Int)) w ∧ (part 22 (txW z).toArray 1).run Try.prog w = .ok (.int .u64 (z.2 : Int)) w := fun z => by
      obtain ⟨j, hj, hs⟩ : ∃ j, Try.prog.info? 22 = some j ∧ j.size = 1 := by
        have hq : (Try.prog.info? 22).map (·.size) = some 1 := by kernel_rfl
        cases hk : Try.prog.info? 22 with
        | none => rw [hk] at hq; cases hq
        | some j => rw [hk] at hq; exact ⟨j, rfl, by simpa using hq⟩
      constructor <;> simp [part, isAgg, run_underlying Try.underlying22, sizeOf, typeInfo, hj, hs, txW]
    simp only [Op.eqFields, n1, n2, t1, t2, o1, o2]
    simp only [Sem.run_bind, (hpt x).1, (hpt y).1, (hpt x).2, (hpt y).2, Result.andThen_ok, hi, Sem.run_ite, Sem.run_pure]
    by_cases k1 : x.1 = y.1
    · by_cases k2 : x.2 = y.2
      · have : x = y := Prod.ext k1 k2
        simp [this, hi]
      · have : ¬ x = y := fun h => k2 (by rw [h])
        have k2' : ((x.2 : Int) == (y.2 : Int)) = false := by simp; omega
        simp [k1, this, hi, k2']
    · have : ¬ x = y := fun h => k1 (by rw [h])
      have k1' : ((x.1 : Int) == (y.1 : Int)) = false := by simp; omega
      simp [this, hi, k1']
  rw [Sem.run_bind, h1]
  simp only [Result.andThen_ok, h3, h2, h4]
theorem fa_Cl0 : FieldAt Try.prog 98 0 0 := fieldAt_mk Try.underlying98 rfl rfl (by kernel_rfl)
theorem fa_Cl1 : FieldAt Try.prog 98 1 1 := fieldAt_mk Try.underlying98 rfl rfl (by kernel_rfl)
theorem fa_Cl2 : FieldAt Try.prog 98 2 2 := fieldAt_mk Try.underlying98 rfl rfl (by kernel_rfl)
theorem fa_Cl3 : FieldAt Try.prog 98 3 3 := fieldAt_mk Try.underlying98 rfl rfl (by kernel_rfl)
theorem fa_Cl4 : FieldAt Try.prog 98 4 4 := fieldAt_mk Try.underlying98 rfl rfl (by kernel_rfl)
/-- A client. -/
def clV (ses seq : Nat) (A : Option Addr) (n c : Nat) (busy : Bool) (R : Option Addr) (m d : Nat) : List Value := [.int .u64 (ses : Int), .int .u64 (seq : Int), .slice A n c, .bool busy, .slice R m d]
theorem zeroTx : (Try.prog.info? 29).map (·.zero) = some (some (.agg (txW (0, 0)).toArray)) := by kernel_rfl
theorem cnew_any (s : Nat) (w : World) : CallsV Try.prog 8 #[.int .u64 (s : Int)] w fun v w' => ∃ g, v = .pointer (some ⟨g, 0, none⟩) ∧ St NoB w w' [.blk g 98 (clV s 0 none 0 0 false none 0 0)] := by
  have hs := St.init w
  refine calls_in (N := _) Try.func8 rfl Try.ntmps8 rfl ?_; show WC _ _ _ _ _ _
  refine wc_sr ?_; refine wl_as rfl rfl ?_; refine wl_ns ?_; refine wc_sr ?_; refine wl_mv rfl rfl ?_
  refine wl_val (opv_build (vs := [(0, .int .u64 (s : Int))]) (cs := clV s 0 none 0 0 false none 0 0) ⟨rfl, rfl, trivial⟩ (by kernel_rfl)) rfl ?_
  refine ws_box (cs := clV s 0 none 0 0 false none 0 0) hs rfl rfl ?_; clear hs; intro g1 _ hs
  refine wl_as rfl rfl ?_; refine wl_ns ?_; refine wc_ret ?_
  exact we_ret1 rfl rfl ⟨_, rfl, g1, rfl, hs⟩
theorem ctxn_any {g ses seq n c m d : Nat} {A R : Option Addr} {busy : Bool} {w : World} (ha : Ar w g 98 (clV ses seq A n c busy R m d)) :
    CallsV Try.prog 30 #[.pointer (some ⟨g, 0, none⟩)] w fun v w' => v = .agg (txW (ses, seq)).toArray ∧ Below w.heap.size w w' := by
  have hs := St.init w
  unfold clV at ha
  refine calls_in (N := _) Try.func30 rfl Try.ntmps30 rfl ?_; show WC _ _ _ _ _ _
  refine wc_sr ?_
  refine ws_new hs zeroTx rfl ?_; clear hs; intro g2 _ hs
  unfold txW at hs
  refine wl_ns ?_; refine wc_seq ?_
  have ha2 := ha.bel hs.bel
  refine wc_heldG (fun w' => Ar w' g 98 [.int .u64 (ses : Int), .int .u64 (seq : Int), .slice A n c, .bool busy, .slice R m d]) 9 mixed ?_
  replace hs := hs.below (Below.refl _ _).drew
  have hS := ha2.bel (Below.refl _ _).drew
  apply wm_take 0; exact rfl; intro _ hw_; apply opv_move; exact rfl; exact rfl; kernel_rfl; exact hS; apply wm_take 1; exact rfl; intro _ hw_; apply opv_nilOk; exact rfl; exact rfl; kernel_rfl; exact hS; apply wm_take 2; exact rfl; intro _ hw_; apply opv_fa; exact fa_Cl0; exact rfl; exact rfl; kernel_rfl; exact hS; apply wm_take 3; exact rfl; intro _ hw_; apply opv_ldX; exact rfl; assumption; exact g1_u64; exact rfl; exact rfl; kernel_rfl; exact hS; apply wm_take 4; exact rfl; intro _ hw_; apply opv_move; exact rfl; exact rfl; kernel_rfl; exact hS; apply wm_take 5; exact rfl; intro _ hw_; apply opv_nilOk; exact rfl; exact rfl; kernel_rfl; exact hS; apply wm_take 6; exact rfl; intro _ hw_; apply opv_fa; exact fa_Cl1; exact rfl; exact rfl; kernel_rfl; exact hS; apply wm_take 7; exact rfl; intro _ hw_; apply opv_ldX; exact rfl; assumption; exact g1_u64; exact rfl; exact rfl; kernel_rfl; exact hS
  refine wm_takeP 8 rfl (fun _ => opv_build (vs := [(0, .int .u64 (ses : Int)), (1, .int .u64 (seq : Int))]) (cs := txW (ses, seq)) ⟨rfl, rfl, rfl, rfl, trivial⟩ (by kernel_rfl)) rfl (by kernel_rfl) (fun _ => hS) ?_
  clear hS
  refine wm_one 9 (by kernel_rfl) rfl ?_; dsimp only [List.getElem_toArray, List.getElem_cons_succ, List.getElem_cons_zero]
  apply ws_stS hs 0; exact rfl; exact rfl; exact rfl; exact sTxn; exact rfl; exact rfl; clear hs; intro _ hs; dsimp only [setC] at hs; refine wl_nil ?_
  refine we_heldM (fun h => absurd h (by decide)) ?_
  refine wm_done (by kernel_rfl) ?_
  refine we_seq ?_; refine wc_ret ?_
  exact we_retC rfl rfl (hs.ar 0 rfl) sTxn ⟨_, rfl, rfl, hs.bel⟩
theorem enc0_any (w : World) : CallsV Try.prog 11 #[.slice none 0 0] w (RetW w []) := by
  have hs := St.init w
  refine calls_in (N := _) Try.func11 rfl Try.ntmps11 rfl ?_; show WC _ _ _ _ _ _
  refine wc_sr ?_; refine wl_as rfl rfl ?_; refine wl_ns ?_; refine wc_sr ?_; refine wl_as rfl rfl ?_; refine wl_ns ?_; refine wc_seq ?_; refine wc_sr ?_; refine wl_mv rfl rfl ?_; apply wl_val; apply opv_len; exact rfl; exact Try.underlying48; exact rfl; refine wl_mv rfl rfl ?_; refine wl_ns ?_; refine wc_block ?_
  refine wc_loop (fun L wr mm => L = [(3, .slice none 0 0), (6, .slice none 0 0), (7, .int .i64 ((0 : Nat) : Int)), (8, .int .i64 ((0 : Nat) : Int))] ∧ St NoB w wr [] ∧ mm = 0) [(3, .slice none 0 0), (6, .slice none 0 0), (7, .int .i64 ((0 : Nat) : Int)), (8, .int .i64 ((0 : Nat) : Int))] 0 ⟨rfl, hs, rfl⟩ ⟨rfl, rfl, rfl, rfl, trivial⟩ ?_
  rintro _ w1 _ ⟨rfl, hs, rfl⟩
  refine wc_sr ?_; refine wl_bin rfl rfl bin_lss rfl ?_; refine wl_ns ?_; refine wc_seq ?_; apply wc_condFb; exact rfl; exact rfl; refine wc_exit ?_; refine we_seq_exit ?_; refine we_loop_exit ?_; refine we_block_exit ?_; refine we_seq ?_; refine wc_sr ?_; refine wl_mv rfl rfl ?_
  refine wl_call ok_codec_Frame (frame_any (rows := []) (A := none) (n := 0) (c := 0) ⟨[], Rd.nil _ _, fun i r h => by simp at h⟩ rfl (by simp)) ⟨rfl, trivial⟩ rfl ?_
  rintro _ _ ⟨B, cb, rfl, o_, hbx⟩
  replace hs := hs.newO hbx o_ (Nat.le_refl _)
  refine wl_as rfl rfl ?_; refine wl_ns ?_; refine wc_ret ?_
  exact we_ret1 rfl rfl ⟨_, rfl, B, cb, rfl, hs⟩
section
variable {g ses seq n c m d k q : Nat} {A R O : Option Addr} {S : BS} {w : World} {enc : By}
theorem cask_busy (h0 : Sat w [.blk g 98 (clV ses seq A n c true R m d)] S) :
    CallsV Try.prog 9 #[.pointer (some ⟨g, 0, none⟩), .slice O k q] w fun v w' => v = .tuple #[.agg (txW (0, 0)).toArray, .int .i64 12] ∧ St S w w' [.blk g 98 (clV ses seq A n c true R m d)] := by
  have hs := St.start h0
  unfold clV at hs
  refine calls_in (N := _) Try.func9 rfl Try.ntmps9 rfl ?_; show WC _ _ _ _ _ _
  refine wc_sr ?_
  refine ws_new hs zeroTx rfl ?_; clear hs; intro g4 _ hs
  refine wl_as rfl rfl ?_; refine wl_ns ?_; refine wc_seq ?_; refine wc_sr ?_; refine wl_mv rfl rfl ?_; apply wl_val; apply opv_nilOk; exact rfl; exact rfl; apply wl_val; apply opv_fa; exact fa_Cl3; exact rfl; exact rfl; apply wl_val; apply opv_ldX; exact rfl; exact hs.ar 1 rfl; exact g1_bool; exact rfl; exact rfl; refine wl_ns ?_; apply wc_condTb; exact rfl; exact rfl; refine wc_sr ?_
  refine wl_val (opv_build (vs := []) (cs := txW (0, 0)) trivial (by kernel_rfl)) rfl ?_
  apply ws_stS hs 0; exact rfl; exact rfl; exact rfl; exact sTxn; exact rfl; exact rfl; clear hs; intro _ hs; dsimp only [setC] at hs; refine wl_as rfl rfl ?_; refine wl_ns ?_; refine wc_ret ?_; refine we_seq_ret ?_
  exact we_retC1 rfl rfl rfl (hs.ar 0 rfl) sTxn ⟨_, rfl, rfl, hs.drop 0 rfl⟩
theorem cask_any (h0 : Sat w [.blk g 98 (clV ses seq A n c false R m d)] S) (henc : ∀ w', Mod S w w' → CallsV Try.prog 11 #[.slice O k q] w' (RetW w' enc)) (hq : seq + 1 < 2 ^ 64) (hl : enc.length ≤ 1099511627776) :
    CallsV Try.prog 9 #[.pointer (some ⟨g, 0, none⟩), .slice O k q] w fun v w' =>
      (8000 < enc.length ∧ v = .tuple #[.agg (txW (0, 0)).toArray, .int .i64 2] ∧ St S w w' [.blk g 98 (clV ses seq A n c false R m d)]) ∨
      (enc.length ≤ 8000 ∧ v = .tuple #[.agg (txW (ses, seq + 1)).toArray, .int .i64 0] ∧ ∃ (B : Option Addr) (cb : Nat), St S w w' [.blk g 98 (clV ses (seq + 1) B enc.length cb true R m d), .ow 5 B enc.length cb (bvs enc)]) := by
  have hs := St.start h0
  unfold clV at hs
  refine calls_in (N := _) Try.func9 rfl Try.ntmps9 rfl ?_; show WC _ _ _ _ _ _
  refine wc_sr ?_
  refine ws_new hs zeroTx rfl ?_; clear hs; intro g4 _ hs
  refine wl_as rfl rfl ?_; refine wl_ns ?_; refine wc_seq ?_; refine wc_sr ?_; refine wl_mv rfl rfl ?_; apply wl_val; apply opv_nilOk; exact rfl; exact rfl; apply wl_val; apply opv_fa; exact fa_Cl3; exact rfl; exact rfl; apply wl_val; apply opv_ldX; exact rfl; exact hs.ar 1 rfl; exact g1_bool; exact rfl; exact rfl; refine wl_ns ?_; apply wc_condFb; exact rfl; exact rfl; refine wc_skip ?_; refine we_seq ?_; refine wc_sr ?_; refine wl_mv rfl rfl ?_
  refine wl_call ok_plan_Encode (henc _ hs.1) ⟨rfl, trivial⟩ rfl ?_
  rintro _ _ ⟨B, cb, rfl, hsx⟩
  replace hs := hs.call hsx
  clear hsx
  dsimp only [List.cons_append, List.nil_append] at hs
  refine wl_as rfl rfl ?_; refine wl_ns ?_; refine wc_seq ?_; refine wc_sr ?_; refine wl_mv rfl rfl ?_; apply wl_val; apply opv_len; exact rfl; exact tyB.sl; exact rfl; refine wl_bin rfl rfl bin_gtr rfl ?_; refine wl_ns ?_
  by_cases h8 : 8000 < enc.length
  · have h8' : (8000 : Int) < (enc.length : Int) := by omega
    apply wc_decT; exact rfl; (with_reducible assumption); refine wc_sr ?_
    refine wl_val (opv_build (vs := []) (cs := txW (0, 0)) trivial (by kernel_rfl)) rfl ?_
    apply ws_stS hs 1; exact rfl; exact rfl; exact rfl; exact sTxn; exact rfl; exact rfl; clear hs; intro _ hs; dsimp only [setC] at hs; refine wl_as rfl rfl ?_; refine wl_ns ?_; refine wc_ret ?_; refine we_seq_ret ?_
    exact we_retC1 rfl rfl rfl (hs.ar 1 rfl) sTxn ⟨_, rfl, .inl ⟨h8, rfl, (hs.drop 0 rfl).drop 0 rfl⟩⟩
  · have h8' : ¬ (8000 : Int) < (enc.length : Int) := by omega
    have hw : IntKind.u64.wrap ((seq : Int) + 1) = ((seq + 1 : Nat) : Int) := by rw [IntWalk.u64_in _ (by omega)]; omega
    apply wc_decF; exact rfl; (with_reducible assumption); refine wc_skip ?_; refine we_seq ?_; refine wc_sr ?_; refine wl_mv rfl rfl ?_; apply wl_val; apply opv_nilOk; exact rfl; exact rfl; apply wl_val; apply opv_fa; exact fa_Cl1; exact rfl; exact rfl; apply wl_val; apply opv_ldX; exact rfl; exact hs.ar 2 rfl; exact g1_u64; exact rfl; exact rfl
    refine wl_bin rfl rfl (bin_add.to (congrArg (Value.int .u64) hw)) rfl ?_
    apply wl_val; apply opv_nilOk; exact rfl; exact rfl; apply wl_val; apply opv_fa; exact fa_Cl1; exact rfl; exact rfl; apply ws_st hs 2; exact rfl; exact rfl; exact g1_u64; exact rfl; exact rfl; exact rfl; clear hs; intro _ hs; dsimp only [setC, List.set] at hs; refine wl_ns ?_; refine wc_sr ?_; refine wl_mv rfl rfl ?_; refine wl_mv rfl rfl ?_; refine wl_mv rfl rfl ?_; apply wl_val; apply opv_nilOk; exact rfl; exact rfl; apply wl_val; apply opv_fa; exact fa_Cl3; exact rfl; exact rfl; apply ws_st hs 2; exact rfl; exact rfl; exact g1_bool; exact rfl; exact rfl; exact rfl; clear hs; intro _ hs; dsimp only [setC, List.set] at hs; apply wl_val; apply opv_nilOk; exact rfl; exact rfl; apply wl_val; apply opv_fa; exact fa_Cl2; exact rfl; exact rfl; apply ws_st hs 2; exact rfl; exact rfl; exact g1_by; exact rfl; exact rfl; exact rfl; clear hs; intro _ hs; dsimp only [setC, List.set] at hs; refine wl_ns ?_; refine wc_sr ?_; refine wl_mv rfl rfl ?_
    refine wl_call ok_session_Client_txn (ctxn_any (ses := ses) (seq := seq + 1) (A := B) (n := enc.length) (c := cb) (R := R) (m := m) (d := d) (busy := true) (hs.ar 2 rfl)) ⟨rfl, trivial⟩ rfl ?_
    rintro _ _ ⟨rfl, hbx⟩
    replace hs := hs.below hbx
    clear hbx
    unfold txW at hs
    apply ws_stS hs 1; exact rfl; exact rfl; exact rfl; exact sTxn; exact rfl; exact rfl; clear hs; intro _ hs; dsimp only [setC] at hs; refine wl_as rfl rfl ?_; refine wl_ns ?_; refine wc_ret ?_
    exact we_retC1 rfl rfl rfl (hs.ar 1 rfl) sTxn ⟨_, rfl, .inr ⟨by omega, rfl, B, cb, (hs.drop 1 rfl).front 1 rfl⟩⟩
theorem ccall_any {req : By} {to : Int} (ha : Ar w g 98 (clV ses seq A req.length c true R m d)) (hr : RdB w A req) (hl : req.length ≤ 8000) :
    CallsV Try.prog 12 #[.pointer (some ⟨g, 0, none⟩), .int .i64 to] w fun v w' => ∃ (D : Option Addr) (cd : Nat), v = .tuple #[.agg (pkV ⟨4, 0, to, 0, 0, 0, 0, (ses, seq), 0, zMsg, zRes, req⟩ (msV zMsg none 0 none 0) (reV zRes none 0 none 0 none 0) D cd).toArray, .bool true] ∧ St NoB w w' [.ow 5 D req.length cd (bvs req)] := by
  have hs := St.init w
  unfold clV at ha
  refine calls_in (N := _) Try.func12 rfl Try.ntmps12 rfl ?_; show WC _ _ _ _ _ _
  refine wc_sr ?_
  refine ws_new hs zeroPk rfl ?_; clear hs; intro g4 _ hs
  unfold pkZ zPk at hs
  dsimp only at hs
  have ha2 := ha.bel hs.bel
  refine wl_as rfl rfl ?_; refine wl_ns ?_; refine wc_seq ?_; refine wc_sr ?_; refine wl_mv rfl rfl ?_; apply wl_val; apply opv_nilOk; exact rfl; exact rfl; apply wl_val; apply opv_fa; exact fa_Cl3; exact rfl; exact rfl; apply wl_val; apply opv_ldX; exact rfl; assumption; exact g1_bool; exact rfl; exact rfl; apply wl_val; apply opv_not; exact rfl; exact rfl; refine wl_ns ?_; apply wc_condFb; exact rfl; exact Bool.not_true; refine wc_skip ?_; refine we_seq ?_; refine wc_seq ?_
  refine wc_heldG (fun w' => Ar w' g 98 [.int .u64 (ses : Int), .int .u64 (seq : Int), .slice A req.length c, .bool true, .slice R m d]) 9 mixed ?_
  replace hs := hs.below (Below.refl _ _).drew
  have hS := ha.bel hs.bel
  apply wm_take 0; exact rfl; intro _ hw_; apply opv_move; exact rfl; exact rfl; kernel_rfl; exact hS; apply wm_take 1; exact rfl; intro _ hw_; apply opv_move; exact rfl; exact rfl; kernel_rfl; exact hS; apply wm_take 3; exact rfl; intro _ hw_; apply opv_move; exact rfl; exact rfl; kernel_rfl; exact hS; apply wm_take 4; exact rfl; intro _ hw_; apply opv_nilOk; exact rfl; exact rfl; kernel_rfl; exact hS; apply wm_take 5; exact rfl; intro _ hw_; apply opv_fa; exact fa_Cl2; exact rfl; exact rfl; kernel_rfl; exact hS; apply wm_take 6; exact rfl; intro _ hw_; apply opv_ldX; exact rfl; assumption; exact g1_by; exact rfl; exact rfl; kernel_rfl; exact hS
  clear hS
  refine wm_one 2 (by kernel_rfl) rfl ?_; dsimp only [List.getElem_toArray, List.getElem_cons_succ, List.getElem_cons_zero]
  refine wl_call ok_session_Client_txn (ctxn_any (ses := ses) (seq := seq) (A := A) (n := req.length) (c := c) (R := R) (m := m) (d := d) (busy := true) (ha.bel hs.bel)) ⟨rfl, trivial⟩ rfl ?_
  rintro _ _ ⟨rfl, hbx⟩
  replace hs := hs.below hbx
  clear hbx
  refine wl_nil ?_
  refine we_heldM (fun _ => ha.bel hs.bel) ?_
  refine wm_one 7 (by kernel_rfl) rfl ?_; dsimp only [List.getElem_toArray, List.getElem_cons_succ, List.getElem_cons_zero]
  refine wl_call ok_bytes_Clone (clone_any (hr.below hs.bel) rfl (by omega)) ⟨rfl, trivial⟩ rfl ?_
  rintro _ _ ⟨D, cd, rfl, o_, hbx⟩
  replace hs := hs.newO hbx o_ (Nat.le_refl _)
  clear hbx o_
  refine wl_nil ?_
  refine we_heldM (fun _ => ha.bel hs.bel) ?_
  refine wm_one 8 (by kernel_rfl) rfl ?_; dsimp only [List.getElem_toArray, List.getElem_cons_succ, List.getElem_cons_zero]
  refine wl_val (opv_build (vs := [(0, .int .i64 4), (2, .int .i64 to), (7, .agg (txW (ses, seq)).toArray), (11, .slice D req.length cd)]) (cs := pkV ⟨4, 0, to, 0, 0, 0, 0, (ses, seq), 0, zMsg, zRes, req⟩ (msV zMsg none 0 none 0) (reV zRes none 0 none 0 none 0) D cd) ⟨rfl, rfl, rfl, rfl, rfl, rfl, rfl, rfl, trivial⟩ (by kernel_rfl)) rfl ?_
  refine wl_nil ?_
  refine we_heldM (fun _ => ha.bel hs.bel) ?_
  refine wm_one 9 (by kernel_rfl) rfl ?_; dsimp only [List.getElem_toArray, List.getElem_cons_succ, List.getElem_cons_zero]
  apply ws_stS hs 1; exact rfl; exact rfl; exact rfl; exact sPk; exact rfl; exact rfl; clear hs; intro _ hs; dsimp only [setC] at hs; refine wl_nil ?_
  refine we_heldM (fun h => absurd h (by decide)) ?_
  refine wm_one 10 (by kernel_rfl) rfl ?_; dsimp only [List.getElem_toArray, List.getElem_cons_succ, List.getElem_cons_zero]
  refine wl_as rfl rfl ?_; refine wl_nil ?_
  refine we_heldM (fun h => absurd h (by decide)) ?_
  refine wm_done (by kernel_rfl) ?_
  refine we_seq ?_; refine wc_ret ?_
  exact we_retC1 rfl rfl rfl (hs.ar 1 rfl) sPk ⟨_, rfl, D, cd, rfl, hs.drop 1 rfl⟩
end
set_option maxRecDepth 8000 in
theorem awake24_any (w : World) : CallsV Try.prog 7 #[] w fun v w' => v = .bool true ∧ Below w.heap.size w w' := by
  have hs := St.init w
  refine calls_in (N := _) Try.func7 rfl Try.ntmps7 rfl ?_; show WC _ _ _ _ _ _
  refine wc_sr ?_; refine wl_as rfl rfl ?_; refine wl_ns ?_; refine wc_sr ?_
  refine wl_call ok_session_New (cnew_any 7 w) ⟨rfl, trivial⟩ rfl ?_
  rintro _ _ ⟨g, rfl, hsx⟩
  replace hs := hs.call hsx
  clear hsx
  dsimp only [List.cons_append, List.nil_append] at hs
  refine wl_as rfl rfl ?_; refine wl_ns ?_; refine wc_seq ?_; refine wc_sr ?_; refine wl_mv rfl rfl ?_; apply wl_val; apply opv_bin; exact rfl; exact rfl; exact bin_eqlPtrNil Try.underlying25; exact rfl; refine wl_ns ?_; apply wc_condFb; exact rfl; exact rfl; refine wc_skip ?_; refine we_seq ?_; refine wc_sr ?_; refine wl_mv rfl rfl ?_
  obtain ⟨S2, hS2, hB2, hM2, hH2, hB⟩ := St.lend (H1 := [_]) (H2 := []) hs
  refine wl_call ok_session_Client_Ask (cask_any hS2 (enc := []) (fun w' _ => enc0_any w') (by decide) (by simp)) ⟨rfl, rfl, trivial⟩ rfl ?_
  rintro _ _ hcase
  rcases hcase with ⟨h8, _⟩ | ⟨_, rfl, B, cb, hsx⟩
  · simp at h8
  replace hs := hB _ _ hsx
  clear hsx hB hH2 hM2 hB2 hS2
  dsimp only [List.cons_append, List.nil_append] at hs
  refine wl_mv rfl rfl ?_; apply wl_val; apply opv_extract; exact rfl; exact rfl; exact rfl; apply wl_val; apply opv_extract; exact rfl; exact rfl; exact rfl
  refine ws_var (cs := txW (7, 1)) hs zeroTx sTxn rfl (fun _ => rfl) (by first | rfl | simp [Value.oneCell']) rfl ?_; clear hs; intro g2 _ hs
  replace hs := hs.front 1 rfl
  dsimp only [delC] at hs
  refine wl_as rfl rfl ?_; refine wl_ns ?_; refine wc_sr ?_; refine wl_mv rfl rfl ?_
  obtain ⟨S2, hS2, hB2, hM2, hH2, hB⟩ := St.lend (H1 := [_]) (H2 := [_, _]) hs
  refine wl_call ok_session_Client_Ask (cask_busy hS2) ⟨rfl, rfl, trivial⟩ rfl ?_
  rintro _ _ ⟨rfl, hsx⟩
  replace hs := hB _ _ hsx
  clear hsx hB hH2 hM2 hB2 hS2
  dsimp only [List.cons_append, List.nil_append] at hs
  refine wl_mv rfl rfl ?_; apply wl_val; apply opv_extract; exact rfl; exact rfl; exact rfl; apply wl_val; apply opv_extract; exact rfl; exact rfl; exact rfl
  refine ws_var (cs := txW (0, 0)) hs zeroTx sTxn rfl (fun _ => rfl) (by first | rfl | simp [Value.oneCell']) rfl ?_; clear hs; intro g4 _ hs
  refine wl_as rfl rfl ?_; refine wl_ns ?_; refine wc_sr ?_; refine wl_mv rfl rfl ?_
  refine wl_call ok_session_Client_Call (ccall_any (hs.ar 1 rfl) (hs.ow 3 rfl).rd (by simp)) ⟨rfl, rfl, trivial⟩ rfl ?_
  rintro _ _ ⟨D, cd, rfl, hsx⟩
  replace hs := hs.call hsx
  clear hsx
  dsimp only [List.cons_append, List.nil_append] at hs
  replace hs := hs.front 3 rfl
  dsimp only [delC] at hs
  refine wl_mv rfl rfl ?_; apply wl_val; apply opv_extract; exact rfl; exact rfl; exact rfl; apply wl_val; apply opv_extract; exact rfl; exact rfl; exact rfl
  refine ws_var (cs := pkV ⟨4, 0, 2, 0, 0, 0, 0, (7, 1), 0, zMsg, zRes, []⟩ (msV zMsg none 0 none 0) (reV zRes none 0 none 0 none 0) D cd) hs zeroPk sPk rfl (fun _ => rfl) (by first | rfl | simp [Value.oneCell']) rfl ?_; clear hs; intro g6 _ hs
  unfold pkV msV reV zMsg zRes at hs
  dsimp only [List.cons_append, List.nil_append] at hs
  refine wl_as rfl rfl ?_; refine wl_ns ?_; refine wc_sr ?_; refine wl_mv rfl rfl ?_; refine wl_bin rfl rfl bin_eql rfl ?_; refine wl_mv rfl rfl ?_; apply wl_take; exact rfl; exact rfl; exact rfl; refine bT ?_; (with_reducible rfl); refine wl_mv rfl rfl ?_; apply wl_take; exact rfl; exact rfl; exact rfl; refine bT ?_; (with_reducible rfl); refine wl_bin rfl rfl bin_eql rfl ?_; apply wl_val; apply opv_pickT; exact rfl; refine bT ?_; (with_reducible rfl); exact rfl; exact rfl; refine wl_mv rfl rfl ?_; apply wl_take; exact rfl; exact rfl; exact rfl; refine bT ?_; (with_reducible rfl); apply wl_val; apply opv_loadX; exact rfl; exact hs.ar 1 rfl; exact sTxn; exact rfl; apply wl_take; exact rfl; exact rfl; exact rfl; refine bT ?_; (with_reducible rfl)
  refine wl_val (opv_build (vs := [(0, .int .u64 7), (1, .int .u64 1)]) (cs := txW (7, 1)) ⟨rfl, rfl, rfl, rfl, trivial⟩ (by kernel_rfl)) rfl ?_
  apply wl_take; exact rfl; exact rfl; exact rfl; refine bT ?_; (with_reducible rfl); apply wl_val; apply opv_bin; exact rfl; exact rfl; exact (bin_eqlTw _ _); exact rfl; apply wl_val; apply opv_pickT; exact rfl; refine bT ?_; (with_reducible rfl); exact rfl; exact rfl; refine wl_mv rfl rfl ?_; apply wl_take; exact rfl; exact rfl; exact rfl; refine bT ?_; (with_reducible rfl); refine wl_mv rfl rfl ?_; apply wl_val; apply opv_pickT; exact rfl; refine bT ?_; (with_reducible rfl); exact rfl; exact rfl; refine wl_mv rfl rfl ?_; apply wl_take; exact rfl; exact rfl; exact rfl; exact rfl; apply wl_val; apply opv_fa; exact fa_Pk0; exact rfl; exact rfl; apply wl_take; exact rfl; exact rfl; exact rfl; exact rfl; apply wl_val; apply opv_ldX; exact rfl; exact hs.ar 0 rfl; exact g1_int; exact rfl; exact rfl; apply wl_take; exact rfl; exact rfl; exact rfl; exact rfl; refine wl_bin rfl rfl bin_eql rfl ?_; apply wl_val; apply opv_pickT; exact rfl; exact rfl; exact rfl; exact rfl; refine wl_mv rfl rfl ?_; apply wl_take; exact rfl; exact rfl; exact rfl; refine bT ?_; (with_reducible rfl); apply wl_val; apply opv_fa; exact fa_Pk2; exact rfl; exact rfl; apply wl_take; exact rfl; exact rfl; exact rfl; refine bT ?_; (with_reducible rfl); apply wl_val; apply opv_ldX; exact rfl; exact hs.ar 0 rfl; exact g1_int; exact rfl; exact rfl; apply wl_take; exact rfl; exact rfl; exact rfl; refine bT ?_; (with_reducible rfl); refine wl_bin rfl rfl bin_eql rfl ?_; apply wl_val; apply opv_pickT; exact rfl; refine bT ?_; (with_reducible rfl); exact rfl; exact rfl; refine wl_mv rfl rfl ?_; apply wl_take; exact rfl; exact rfl; exact rfl; refine bT ?_; (with_reducible rfl); apply wl_val; apply opv_fa; exact fa_Pk7; exact rfl; exact rfl; apply wl_take; exact rfl; exact rfl; exact rfl; refine bT ?_; (with_reducible rfl)
  refine wl_val (opv_ldG (cs := txW (7, 1)) rfl (ar_wiP (hs.ar 0 rfl) 7 (txW (7, 1)) (fun j u hu => by
    match j, hu with
    | 0, hu => exact hu
    | 1, hu => exact hu)) sTxn) rfl ?_
  apply wl_take; exact rfl; exact rfl; exact rfl; refine bT ?_; (with_reducible rfl); apply wl_val; apply opv_loadX; exact rfl; exact hs.ar 1 rfl; exact sTxn; exact rfl; apply wl_take; exact rfl; exact rfl; exact rfl; refine bT ?_; (with_reducible rfl); apply wl_val; apply opv_bin; exact rfl; exact rfl; exact (bin_eqlTw _ _); exact rfl; apply wl_val; apply opv_pickT; exact rfl; refine bT ?_; (with_reducible rfl); exact rfl; exact rfl; refine wl_as rfl rfl ?_; refine wl_ns ?_; refine wc_ret ?_
  exact we_ret1 rfl rfl ⟨_, rfl, rfl, hs.bel⟩
end Go.Proofs.Ytaacnknniaipmaa

/-
  Walks over the packet that a law makes out of plain data.
-/
namespace Go.Proofs.Ytaacnknniaipmaa
open Go.RowKit

structure NoteM where
  kind : Int
  fr : Int
  to : Int
  term : Nat
  ix : Nat
  lt : Nat
  cm : Nat
  terms : List Nat
  ok : Bool
structure FormM where
  kind : Int
  fr : Int
  to : Int
  shard : Int
  round : Int
  cmd : Int
  lead : Int
  code : Int
  tx : Nat × Nat
  note : NoteM
  err : Int
  status : Int
  ts : Nat
  pairs : List PairM
  rtx : Nat × Nat
  commit : Bool
  rts : Nat
  writes : List WrM
  reply : By
  data : By
def noV (n : NoteM) (T : Option Addr) (ct : Nat) : List Value := [.int .i64 n.kind, .int .i64 n.fr, .int .i64 n.to, .int .u64 (n.term : Int), .int .u64 (n.ix : Int), .int .u64 (n.lt : Int), .int .u64 (n.cm : Int), .slice T n.terms.length ct, .bool n.ok]
def fmV (f : FormM) (nv : List Value) (P : Option Addr) (cp : Nat) (W : Option Addr) (cw : Nat) (Y : Option Addr) (cy : Nat) (D : Option Addr) (cd : Nat) : List Value :=
  [.int .i64 f.kind, .int .i64 f.fr, .int .i64 f.to, .int .i64 f.shard, .int .i64 f.round, .int .i64 f.cmd, .int .i64 f.lead, .int .i64 f.code, .int .u64 (f.tx.1 : Int), .int .u64 (f.tx.2 : Int)] ++ (nv ++
  [.int .i64 f.err, .int .i64 f.status, .int .u64 (f.ts : Int), .slice P f.pairs.length cp, .int .u64 (f.rtx.1 : Int), .int .u64 (f.rtx.2 : Int), .bool f.commit, .int .u64 (f.rts : Int), .slice W f.writes.length cw, .slice Y f.reply.length cy, .slice D f.data.length cd])
section
variable {P : Program} {N : Nat} {ops : Array Oper} {Q : Exit → Act → World → Prop} {rest : List Oper} {L : FL} {w0 w : World} {M : BS} {H : List Cd} {t e : TypeId} {z : Value} {bytes k : Nat} {cs : List Value}
/-- A slice of one element of k cells. -/
theorem ws_bsR {d : Nat} {x : Operand} {ty : TypeId} {pos : String} {aft : Array Edge} (hs : St M w0 w H) (T : RowK P t e k z bytes) (hx : ∃ v, look L x = some v ∧ v.cells = cs.toArray) (hl : cs.length = k) (hk : k ≤ 16777216) (hd : Nat.blt d N = true)
    (h : ∀ A w', St M w0 w' (.rg k e A 1 [rawEl cs] :: H) → WL P N ops Q rest ((d, .slice A 1 1) :: L) w') :
    WL P N ops Q (⟨some d, .buildSlice t 1 #[(0, x)], ty, pos, aft, none⟩ :: rest) L w :=
  wl_bsG (css := [cs]) (els := [rawEl cs]) (S := NoB) (ps := [(0, x)]) T ⟨rfl, hx, hl, trivial⟩ rfl (by simpa using hk) (by decide) (grp_raw (css := [cs]) (by simpa using hl)) hd fun A w' ho hb _ =>
    h A w' (hs.newG hb ho (Nat.le_refl _) fun _ _ h => h.elim)
end
theorem sat_ow {w : World} {H : List Cd} {S : BS} {e : TypeId} {A : Option Addr} {n c : Nat} {xs : List Value} (h : Sat w H S) (i : Nat) (hi : nthC H i = some (.ow e A n c xs)) : Ow w 0 e A n c xs := by
  obtain ⟨T, _, hc, _⟩ := h.front hi
  exact hc.2
theorem AllK.weak {α : Type} {K K' : World → Prop} {Q : α → List Value → World → Prop} {xs : List α} {css : List (List Value)} (h : AllK K Q xs css) (hk : ∀ w, K' w → K w) : AllK K' Q xs css := ⟨h.1, fun i x hi => by
  obtain ⟨cs, h1, h2⟩ := h.2 i x hi
  exact ⟨cs, h1, fun w hw => h2 w (hk w hw)⟩⟩
end Go.Proofs.Ytaacnknniaipmaa

/-
  The walk over the packet that a law makes out of a form.
-/
namespace Go.Proofs.Ytaacnknniaipmaa
open Go.RowKit

end Go.Proofs.Ytaacnknniaipmaa

/-
  Plain laws of bursts: bits that are turned within 32 of one another are seen by the sum, in a record too. No program in sight.
-/
namespace Go.Proofs.Ytaacnknniaipmaa

end Go.Proofs.Ytaacnknniaipmaa

/-
  Walk over the law SessionBursts.
-/
namespace Go.Proofs.Ytaacnknniaipmaa
open Go.RowKit

/-- What is known of a form's memory. -/
structure FmR (w : World) (f : FormM) (T P W Y : Option Addr) (cy : Nat) (D : Option Addr) (cd : Nat) : Prop where
  rT : Rd w T f.note.terms.length (wVs f.note.terms)
  rP : RdR 2 w All P (f.pairs.map prEl)
  rW : RdR 3 w All W (f.writes.map wrEl)
  rY : RdB w Y f.reply
  rD : RdB w D f.data
  cD : f.data.length ≤ cd
end Go.Proofs.Ytaacnknniaipmaa

/-
  Forms as arguments of a law.
-/
namespace Go.Proofs.Ytaacnknniaipmaa
open Go.RowKit Go.ChangeShapes Go.WideShapes Go.ChangeAt Go.Deep

theorem ln3 {α : Type _} {l : List α} (h : l.length = 3) : ∃ a0 a1 a2, l = [a0, a1, a2] := match l, h with | [a0, a1, a2], _ => ⟨a0, a1, a2, rfl⟩
theorem ln5 {α : Type _} {l : List α} (h : l.length = 5) : ∃ a0 a1 a2 a3 a4, l = [a0, a1, a2, a3, a4] := match l, h with | [a0, a1, a2, a3, a4], _ => ⟨a0, a1, a2, a3, a4, rfl⟩
def uEl (n : Nat) : El := vEl (.int .u64 (n : Int))
theorem flat_u : ∀ l : List Nat, (l.map fun (n : Nat) => [Value.int .u64 (n : Int)]).flatten = wVs l
  | [] => rfl
  | a :: l => by rw [List.map_cons, List.flatten_cons, flat_u l]; rfl
theorem u64s_rd {w : World} {S : BS} {A : Option Addr} {l : List Nat} (h : RdR 1 w S A (l.map uEl)) : Rd w A l.length (wVs l) := by
  obtain ⟨css, hg, hr, _⟩ := h
  rw [List.length_map, Nat.mul_one] at hr
  have e : css.flatten = wVs l := by
    have h1 := hg.1
    rw [List.length_map] at h1
    have h2 : css = l.map fun (n : Nat) => [Value.int .u64 (n : Int)] := by
      refine List.ext_getElem? fun i => ?_
      rw [List.getElem?_map]
      rcases Nat.lt_or_ge i l.length with hlt | hge
      · rw [List.getElem?_eq_getElem (show i < css.length by omega), List.getElem?_eq_getElem hlt]
        obtain ⟨_, E, h3, h4⟩ := hg.2 i _ (List.getElem?_eq_getElem (show i < css.length by omega))
        rw [List.getElem?_map, List.getElem?_eq_getElem hlt] at h3
        simp only [Option.map_some, Option.some.injEq] at h3
        subst h3
        have h5 : css[i] = [Value.int .u64 (l[i] : Int)] := h4
        rw [h5]; rfl
      · rw [List.getElem?_eq_none (by omega), List.getElem?_eq_none hge]; rfl
    rw [h2, flat_u]
  rw [← e]; exact hr
def fmEl (f : FormM) : El where
  P w S cs := ∃ (T : Option Addr) (ct : Nat) (P : Option Addr) (cp : Nat) (W : Option Addr) (cw : Nat) (Y : Option Addr) (cy : Nat) (D : Option Addr) (cd : Nat), cs = fmV f (noV f.note T ct) P cp W cw Y cy D cd ∧ (rowEl 1 (f.note.terms.map uEl)).P w S [.slice T f.note.terms.length ct] ∧ (rowEl 2 (f.pairs.map prEl)).P w S [.slice P f.pairs.length cp] ∧ (rowEl 3 (f.writes.map wrEl)).P w S [.slice W f.writes.length cw] ∧ (byEl f.reply).P w S [.slice Y f.reply.length cy] ∧ (byEl f.data).P w S [.slice D f.data.length cd]
  move := by rintro w w' S S' cs ⟨T, ct, P, cp, W, cw, Y, cy, D, cd, h, h1, h2, h3, h4, h5⟩ hz hm; exact ⟨T, ct, P, cp, W, cw, Y, cy, D, cd, h, El.move _ h1 hz hm, El.move _ h2 hz hm, El.move _ h3 hz hm, El.move _ h4 hz hm, El.move _ h5 hz hm⟩
end Go.Proofs.Ytaacnknniaipmaa

/-
  What an argument that is a form brings; SessionBursts over such an argument.
-/
namespace Go.Proofs.Ytaacnknniaipmaa
open Go.RowKit

theorem fmEl.rd {w : World} {f : FormM} {cs : List Value} (h : (fmEl f).P w All cs) : ∃ (T : Option Addr) (ct : Nat) (P : Option Addr) (cp : Nat) (W : Option Addr) (cw : Nat) (Y : Option Addr) (cy : Nat) (D : Option Addr) (cd : Nat), cs = fmV f (noV f.note T ct) P cp W cw Y cy D cd ∧ FmR w f T P W Y cy D cd := by
  obtain ⟨T, ct, P, cp, W, cw, Y, cy, D, cd, h0, h1, h2, h3, h4, h5⟩ := h
  refine ⟨T, ct, P, cp, W, cw, Y, cy, D, cd, h0, u64s_rd (rowEl.rd h1).2.2, (rowEl.rd h2).2.2, (rowEl.rd h3).2.2, (by_rd h4).1, (by_rd h5).1, (by_rd h5).2⟩
end Go.Proofs.Ytaacnknniaipmaa
