/-
  The texts of this proof, joined: Xp, Xq, Xr, Xs, Xt, Ph, Xu, Xv, Xw, Ka.
-/
import Derived.Test.YtaacnknniaipmaaKeeM4
import Derived.Test.YtaacnknniaipmaaKeeM1
import Derived.Test.YtaacnknniaipmaaKeeM2
import Derived.Test.YtaacnknniaipmaaKeeM3

/-
  The walk over the fields of a packet that is read.
-/
namespace Go.Proofs.Ytaacnknniaipmaa
open Go.RowKit

/-- What stands behind a kind's numbers. -/
def tailR (p : PkM) (r : Rd1) : PkM × Rd1 :=
  if p.kind = 3 then ({ p with tx := ((wordsR 2 r).1.getD 0 0, (wordsR 2 r).1.getD 1 0), res := (resR (wordsR 2 r).2).1 }, (resR (wordsR 2 r).2).2)
  else ({ p with tx := ((wordsR 2 r).1.getD 0 0, (wordsR 2 r).1.getD 1 0), data := (nextR (wordsR 2 r).2).1 }, (nextR (wordsR 2 r).2).2)
theorem fields_2 {r r1 : Rd1} {a b c d : Int} (h : intsR 4 r = ([a, b, c, d], r1)) : fieldsR 2 r = tailR ⟨2, a, b, c, d, 0, 0, (0, 0), 0, zMsg, zRes, []⟩ r1 := by
  unfold fieldsR tailR
  rw [h]; rfl
theorem fields_3 {r r1 : Rd1} {a b c d e f g : Int} (h : intsR 7 r = ([a, b, c, d, e, f, g], r1)) : fieldsR 3 r = tailR ⟨3, a, b, c, d, e, g, (0, 0), f, zMsg, zRes, []⟩ r1 := by
  unfold fieldsR tailR
  rw [h]; rfl
theorem fields_4 {r r1 : Rd1} {a : Int} (h : intsR 1 r = ([a], r1)) : fieldsR 4 r = tailR ⟨4, 0, a, 0, 0, 0, 0, (0, 0), 0, zMsg, zRes, []⟩ r1 := by
  unfold fieldsR tailR
  rw [h]; rfl
theorem fields_5 {r r1 : Rd1} {a b : Int} (h : intsR 2 r = ([a, b], r1)) : fieldsR 5 r = tailR ⟨5, a, 0, 0, 0, 0, 0, (0, 0), b, zMsg, zRes, []⟩ r1 := by
  unfold fieldsR tailR
  rw [h]; rfl
theorem fields_1 {r r1 : Rd1} {a b c : Int} (h : intsR 3 r = ([a, b, c], r1)) : fieldsR 1 r = (⟨1, a, b, c, 0, 0, 0, (0, 0), 0, (msgR r1).1, zRes, []⟩, (msgR r1).2) := by
  unfold fieldsR
  rw [h]; rfl
theorem fields_no {k : Int} {r : Rd1} (h1 : k ≠ 1) (h2 : k ≠ 2) (h3 : k ≠ 3) (h4 : k ≠ 4) (h5 : k ≠ 5) : fieldsR k r = (⟨k, 0, 0, 0, 0, 0, 0, (0, 0), 0, zMsg, zRes, []⟩, (r.1, 3)) := by
  unfold fieldsR
  rw [if_neg h1, if_neg h2, if_neg h3, if_neg h4, if_neg h5]; rfl
theorem get7 {α : Type} {l : List α} {z : α} (h : l.length = 7) : l = [l.getD 0 z, l.getD 1 z, l.getD 2 z, l.getD 3 z, l.getD 4 z, l.getD 5 z, l.getD 6 z] := by
  match l, h with
  | [a, b, c, d, e, f, g], _ => rfl
theorem sTxn : StT Try.prog 29 2 := ⟨by kernel_rfl, by kernel_rfl⟩
/-- The packet's cells, as long as it has no message and no result. -/
def pkZ (p : PkM) : List Value := [.int .i64 p.kind, .int .i64 p.fr, .int .i64 p.to, .int .i64 p.shard, .int .i64 p.round, .int .i64 p.cmd, .int .i64 p.lead, .int .u64 (p.tx.1 : Int), .int .u64 (p.tx.2 : Int), .int .i64 p.code, .int .i64 0, .int .i64 0, .int .i64 0, .int .u64 0, .int .u64 0, .int .u64 0, .int .u64 0, .slice none 0 0, .bool false, .slice none 0 0, .int .i64 0, .int .i64 0, .int .u64 0, .slice none 0 0, .bool false, .int .u64 0, .slice none 0 0, .slice none 0 0, .slice none 0 0]
theorem zeroPk : (Try.prog.info? 42).map (·.zero) = some (some (.agg (pkZ zPk).toArray)) := by kernel_rfl
/-- What a packet's memory holds. -/
def PkK (base : Nat) (y : PkM) (E M P W Y : Option Addr) (cm cy : Nat) (w : World) : Prop := MsK base y.msg E M cm w ∧ ReK base y.res P W Y cy w
theorem msK0 (base : Nat) (w : World) : MsK base zMsg none none 0 w := ⟨rdr_nil, Ow.nil _ _ _⟩
theorem reK0 (base : Nat) (w : World) : ReK base zRes none none none 0 w := ⟨rdr_nil, rdr_nil, Ow.nil _ _ _⟩
set_option maxHeartbeats 8000000 in
set_option maxRecDepth 8000 in
theorem sfields_any {g gp base : Nat} {k : Int} {A : Option Addr} {c : Nat} {r : Rd1} {S : BS} {w : World} {K : World → Prop} (h0 : Sat w [rdP g A c r, .blk gp 42 (pkZ { zPk with kind := k })] S) (hK : ∀ w', Mod S w w' → K w') (hr : RdK K base A c r.1) (hb : base ≤ w.heap.size) (hl : ∀ p ∈ r.1, p.length ≤ 1099511627776) :
    CallsV Try.prog 53 #[.pointer (some ⟨g, 0, none⟩), .pointer (some ⟨gp, 0, none⟩)] w fun _ w' => ∃ (A' : Option Addr) (c' : Nat) (E : Option Addr) (ce : Nat) (M : Option Addr) (cm : Nat) (P : Option Addr) (cp : Nat) (W : Option Addr) (cw : Nat) (Y : Option Addr) (cy : Nat) (D : Option Addr) (cd : Nat),
      St S w w' [rdP g A' c' (fieldsR k r).2, .blk gp 42 (pkV (fieldsR k r).1 (msV (fieldsR k r).1.msg E ce M cm) (reV (fieldsR k r).1.res P cp W cw Y cy) D cd), .ck (kp (PkK base (fieldsR k r).1 E M P W Y cm cy))] ∧ ∀ w, K w → OwB w base D cd (fieldsR k r).1.data := by
  have hs := St.start h0
  have hmax : maxLen = 9223372036854775807 := rfl
  unfold pkZ zPk at hs
  dsimp only at hs
  refine calls_in (N := _) Try.func53 rfl Try.ntmps53 rfl ?_; show WC _ _ _ _ _ _
  refine wc_cut (fun L w' => ∃ (p : PkM) (r1 : Rd1) (A1 : Option Addr) (c1 : Nat), L = [(0, .pointer (some ⟨g, 0, none⟩)), (1, .pointer (some ⟨gp, 0, none⟩))] ∧ p.msg = zMsg ∧ p.res = zRes ∧ p.data = [] ∧ p.kind = k ∧ fieldsR k r = tailR p r1 ∧ RdK K base A1 c1 r1.1 ∧ (∀ p ∈ r1.1, p.length ≤ 1099511627776) ∧ St S w w' [rdP g A1 c1 r1, .blk gp 42 (pkZ p)]) ?_ ?_
  · refine wc_sr ?_; refine wl_mv rfl rfl ?_; apply wl_val; apply opv_nilOk; exact rfl; exact rfl; apply wl_val; apply opv_fa; exact fa_Pk0; exact rfl; exact rfl; apply wl_val; apply opv_ldX; exact rfl; exact hs.ar 1 rfl; exact g1_int; exact rfl; exact rfl; refine wl_ns ?_; refine wc_block ?_; refine wc_sr ?_; refine wl_bin rfl rfl bin_eql rfl ?_; refine wl_as rfl rfl ?_; refine wl_ns ?_
    by_cases k1 : k = 1
    · subst k1
      apply wc_condTb; exact rfl; exact rfl; refine wc_sr ?_; refine wl_mv rfl rfl ?_
      obtain ⟨S2, hS2, hB2, hM2, hH2, hB⟩ := St.lend (H1 := [rdP g A c r]) (H2 := [_]) hs
      refine wl_call ok_session_reader_ints (srints_any (n := 3) hS2 (fun w' k => hK w' (hM2 w' k)) hr (by decide) hl) ⟨rfl, rfl, trivial⟩ rfl ?_
      rintro _ _ ⟨O, co, A1, c1, rfl, hr1, hsx⟩
      replace hs := hB _ _ hsx
      clear hsx hB hH2 hM2 hB2 hS2
      dsimp only [List.cons_append, List.nil_append] at hs
      have hnl := intsR_len 3 r
      have hl1 := ints_rest (n := 3) hl
      obtain ⟨⟨ns, r1⟩, hx1⟩ : ∃ x, intsR 3 r = x := ⟨_, rfl⟩
      rw [hx1] at hs hr1 hnl hl1
      dsimp only at hs hr1 hnl hl1
      generalize hn0 : ns.getD 0 0 = a
      generalize hn1 : ns.getD 1 0 = b
      generalize hn2 : ns.getD 2 0 = d
      have hns : ns = [a, b, d] := by rw [← hn0, ← hn1, ← hn2]; exact get3 hnl
      clear hn0 hn1 hn2
      subst hns
      clear hnl
      have hi0 : (iVs [a, b, d])[0]? = some (.int .i64 a) := rfl
      have hi1 : (iVs [a, b, d])[1]? = some (.int .i64 b) := rfl
      have hi2 : (iVs [a, b, d])[2]? = some (.int .i64 d) := rfl
      refine wl_as rfl rfl ?_; refine wl_ns ?_; refine wc_seq ?_
      refine wc_heldG (fun w' => Rd w' O 3 (iVs [a, b, d])) 20 mixed ?_
      replace hs := hs.below (Below.refl _ _).drew
      have hS := (hs.ow 0 rfl).rd
      apply wm_take 0; exact rfl; intro _ hw_; apply opv_move; exact rfl; exact rfl; kernel_rfl; exact hS; apply wm_take 1; exact rfl; intro _ hw_; apply opv_move; exact rfl; exact rfl; kernel_rfl; exact hS; apply wm_take 2; exact rfl; intro _ hw_; apply opv_move; exact rfl; exact rfl; kernel_rfl; exact hS; apply wm_take 3; exact rfl; intro _ hw_; apply opv_move; exact rfl; exact rfl; kernel_rfl; exact hS; apply wm_take 4; exact rfl; intro _ hw_; apply opv_idxR (T := tyIs) (hr := hw_) (hu := hi0); exact rfl; exact rfl; exact rfl; exact rfl; kernel_rfl; exact hS; apply wm_take 5; exact rfl; intro _ hw_; refine opv_loadR tyIs rfl hw_ hi0; exact rfl; kernel_rfl; exact hS; apply wm_take 6; exact rfl; intro _ hw_; apply opv_move; exact rfl; exact rfl; kernel_rfl; exact hS; apply wm_take 7; exact rfl; intro _ hw_; apply opv_idxR (T := tyIs) (hr := hw_) (hu := hi1); exact rfl; exact rfl; exact rfl; exact rfl; kernel_rfl; exact hS; apply wm_take 8; exact rfl; intro _ hw_; refine opv_loadR tyIs rfl hw_ hi1; exact rfl; kernel_rfl; exact hS; apply wm_take 9; exact rfl; intro _ hw_; apply opv_move; exact rfl; exact rfl; kernel_rfl; exact hS; apply wm_take 10; exact rfl; intro _ hw_; apply opv_idxR (T := tyIs) (hr := hw_) (hu := hi2); exact rfl; exact rfl; exact rfl; exact rfl; kernel_rfl; exact hS; apply wm_take 11; exact rfl; intro _ hw_; refine opv_loadR tyIs rfl hw_ hi2; exact rfl; kernel_rfl; exact hS
      clear hS
      have hS := (hs.ow 0 rfl).rd
      apply wm_takeP 12; exact rfl; intro _; apply opv_nilOk; exact rfl; exact rfl; kernel_rfl; exact fun _ => hS; apply wm_takeP 13; exact rfl; intro _; apply opv_fa; exact fa_Pk1; exact rfl; exact rfl; kernel_rfl; exact fun _ => hS
      clear hS
      refine wm_one 14 (by kernel_rfl) rfl ?_; dsimp only [List.getElem_toArray, List.getElem_cons_succ, List.getElem_cons_zero]
      apply ws_st hs 2; exact rfl; exact rfl; exact g1_int; exact rfl; exact rfl; exact rfl; clear hs; intro _ hs; dsimp only [setC, List.set] at hs; refine wl_nil ?_
      refine we_heldM (fun _ => (hs.ow 0 rfl).rd) ?_
      have hS := (hs.ow 0 rfl).rd
      apply wm_takeP 15; exact rfl; intro _; apply opv_nilOk; exact rfl; exact rfl; kernel_rfl; exact fun _ => hS; apply wm_takeP 16; exact rfl; intro _; apply opv_fa; exact fa_Pk2; exact rfl; exact rfl; kernel_rfl; exact fun _ => hS
      clear hS
      refine wm_one 17 (by kernel_rfl) rfl ?_; dsimp only [List.getElem_toArray, List.getElem_cons_succ, List.getElem_cons_zero]
      apply ws_st hs 2; exact rfl; exact rfl; exact g1_int; exact rfl; exact rfl; exact rfl; clear hs; intro _ hs; dsimp only [setC, List.set] at hs; refine wl_nil ?_
      refine we_heldM (fun _ => (hs.ow 0 rfl).rd) ?_
      have hS := (hs.ow 0 rfl).rd
      apply wm_takeP 18; exact rfl; intro _; apply opv_nilOk; exact rfl; exact rfl; kernel_rfl; exact fun _ => hS; apply wm_takeP 19; exact rfl; intro _; apply opv_fa; exact fa_Pk3; exact rfl; exact rfl; kernel_rfl; exact fun _ => hS
      clear hS
      refine wm_one 20 (by kernel_rfl) rfl ?_; dsimp only [List.getElem_toArray, List.getElem_cons_succ, List.getElem_cons_zero]
      apply ws_st hs 2; exact rfl; exact rfl; exact g1_int; exact rfl; exact rfl; exact rfl; clear hs; intro _ hs; dsimp only [setC, List.set] at hs; refine wl_nil ?_
      refine we_heldM (fun h => absurd h (by decide)) ?_
      refine wm_done (by kernel_rfl) ?_
      replace hs := hs.drop 0 rfl
      dsimp only [delC] at hs
      refine we_seq ?_; refine wc_sr ?_; refine wl_mv rfl rfl ?_; refine wl_mv rfl rfl ?_
      obtain ⟨S2, hS2, hB2, hM2, hH2, hB⟩ := St.lend (H1 := [rdP g A1 c1 r1]) (H2 := [_]) hs
      refine wl_call ok_session_reader_msg (smsg_any hS2 (fun w' k => hK w' (hM2 w' k)) hr1 (Nat.le_trans hb hs.size) hl1) ⟨rfl, trivial⟩ rfl ?_
      rintro _ _ ⟨A2, c2, E, ce, M, cm, rfl, hr2, hsx⟩
      replace hs := hB _ _ hsx
      clear hsx hB hH2 hM2 hB2 hS2
      dsimp only [List.cons_append, List.nil_append] at hs
      apply wl_val; apply opv_nilOk; exact rfl; exact rfl; apply wl_val; apply opv_fa; exact fa_Pk9; exact rfl; exact rfl
      refine ws_stM (ds := msV (msgR r1).1 E ce M cm) hs 2 rfl rfl rfl sMs (Nat.le_of_ble_eq_true rfl) rfl ?_
      clear hs; intro _ hs; dsimp only [setC] at hs
      rw [fields_1 hx1]
      refine wl_ns ?_; refine wc_ret ?_; refine we_block_ret ?_; refine we_cut_ret ?_
      refine we_ret0 rfl ⟨_, rfl, A2, c2, E, ce, M, cm, none, 0, none, 0, none, 0, none, 0, ?_, fun _ _ => Ow.nil _ _ _⟩
      have h2 := (hs.front 1 rfl).kpMono (K' := PkK base ⟨1, a, b, d, 0, 0, 0, (0, 0), 0, (msgR r1).1, zRes, []⟩ E M none none none cm 0) fun w h => ⟨h, reK0 _ _⟩
      have h3 := h2.front 2 rfl
      exact h3.front 2 rfl
    by_cases k2 : k = 2
    · subst k2
      apply wc_condFb; exact rfl; exact rfl; refine wc_sr ?_; refine wl_bin rfl rfl bin_eql rfl ?_; refine wl_as rfl rfl ?_; refine wl_ns ?_; apply wc_condTb; exact rfl; exact rfl; refine wc_sr ?_; refine wl_mv rfl rfl ?_
      obtain ⟨S2, hS2, hB2, hM2, hH2, hB⟩ := St.lend (H1 := [rdP g A c r]) (H2 := [_]) hs
      refine wl_call ok_session_reader_ints (srints_any (n := 4) hS2 (fun w' k => hK w' (hM2 w' k)) hr (by decide) hl) ⟨rfl, rfl, trivial⟩ rfl ?_
      rintro _ _ ⟨O, co, A1, c1, rfl, hr1, hsx⟩
      replace hs := hB _ _ hsx
      clear hsx hB hH2 hM2 hB2 hS2
      dsimp only [List.cons_append, List.nil_append] at hs
      have hnl := intsR_len 4 r
      have hl1 := ints_rest (n := 4) hl
      obtain ⟨⟨ns, r1⟩, hx1⟩ : ∃ x, intsR 4 r = x := ⟨_, rfl⟩
      rw [hx1] at hs hr1 hnl hl1
      dsimp only at hs hr1 hnl hl1
      generalize hn0 : ns.getD 0 0 = a
      generalize hn1 : ns.getD 1 0 = b
      generalize hn2 : ns.getD 2 0 = d
      generalize hn3 : ns.getD 3 0 = e
      have hns : ns = [a, b, d, e] := by rw [← hn0, ← hn1, ← hn2, ← hn3]; exact get4 hnl
      clear hn0 hn1 hn2 hn3
      subst hns
      clear hnl
      have hi0 : (iVs [a, b, d, e])[0]? = some (.int .i64 a) := rfl
      have hi1 : (iVs [a, b, d, e])[1]? = some (.int .i64 b) := rfl
      have hi2 : (iVs [a, b, d, e])[2]? = some (.int .i64 d) := rfl
      have hi3 : (iVs [a, b, d, e])[3]? = some (.int .i64 e) := rfl
      refine wl_as rfl rfl ?_; refine wl_ns ?_
      refine wc_heldG (fun w' => Rd w' O 4 (iVs [a, b, d, e])) 27 mixed ?_
      replace hs := hs.below (Below.refl _ _).drew
      have hS := (hs.ow 0 rfl).rd
      apply wm_take 0; exact rfl; intro _ hw_; apply opv_move; exact rfl; exact rfl; kernel_rfl; exact hS; apply wm_take 1; exact rfl; intro _ hw_; apply opv_move; exact rfl; exact rfl; kernel_rfl; exact hS; apply wm_take 2; exact rfl; intro _ hw_; apply opv_move; exact rfl; exact rfl; kernel_rfl; exact hS; apply wm_take 3; exact rfl; intro _ hw_; apply opv_move; exact rfl; exact rfl; kernel_rfl; exact hS; apply wm_take 4; exact rfl; intro _ hw_; apply opv_move; exact rfl; exact rfl; kernel_rfl; exact hS; apply wm_take 5; exact rfl; intro _ hw_; apply opv_idxR (T := tyIs) (hr := hw_) (hu := hi0); exact rfl; exact rfl; exact rfl; exact rfl; kernel_rfl; exact hS; apply wm_take 6; exact rfl; intro _ hw_; refine opv_loadR tyIs rfl hw_ hi0; exact rfl; kernel_rfl; exact hS; apply wm_take 7; exact rfl; intro _ hw_; apply opv_move; exact rfl; exact rfl; kernel_rfl; exact hS; apply wm_take 8; exact rfl; intro _ hw_; apply opv_idxR (T := tyIs) (hr := hw_) (hu := hi1); exact rfl; exact rfl; exact rfl; exact rfl; kernel_rfl; exact hS; apply wm_take 9; exact rfl; intro _ hw_; refine opv_loadR tyIs rfl hw_ hi1; exact rfl; kernel_rfl; exact hS; apply wm_take 10; exact rfl; intro _ hw_; apply opv_move; exact rfl; exact rfl; kernel_rfl; exact hS; apply wm_take 11; exact rfl; intro _ hw_; apply opv_idxR (T := tyIs) (hr := hw_) (hu := hi2); exact rfl; exact rfl; exact rfl; exact rfl; kernel_rfl; exact hS; apply wm_take 12; exact rfl; intro _ hw_; refine opv_loadR tyIs rfl hw_ hi2; exact rfl; kernel_rfl; exact hS; apply wm_take 13; exact rfl; intro _ hw_; apply opv_move; exact rfl; exact rfl; kernel_rfl; exact hS; apply wm_take 14; exact rfl; intro _ hw_; apply opv_idxR (T := tyIs) (hr := hw_) (hu := hi3); exact rfl; exact rfl; exact rfl; exact rfl; kernel_rfl; exact hS; apply wm_take 15; exact rfl; intro _ hw_; refine opv_loadR tyIs rfl hw_ hi3; exact rfl; kernel_rfl; exact hS
      clear hS
      have hS := (hs.ow 0 rfl).rd
      apply wm_takeP 16; exact rfl; intro _; apply opv_nilOk; exact rfl; exact rfl; kernel_rfl; exact fun _ => hS; apply wm_takeP 17; exact rfl; intro _; apply opv_fa; exact fa_Pk1; exact rfl; exact rfl; kernel_rfl; exact fun _ => hS
      clear hS
      refine wm_one 18 (by kernel_rfl) rfl ?_; dsimp only [List.getElem_toArray, List.getElem_cons_succ, List.getElem_cons_zero]
      apply ws_st hs 2; exact rfl; exact rfl; exact g1_int; exact rfl; exact rfl; exact rfl; clear hs; intro _ hs; dsimp only [setC, List.set] at hs; refine wl_nil ?_
      refine we_heldM (fun _ => (hs.ow 0 rfl).rd) ?_
      have hS := (hs.ow 0 rfl).rd
      apply wm_takeP 19; exact rfl; intro _; apply opv_nilOk; exact rfl; exact rfl; kernel_rfl; exact fun _ => hS; apply wm_takeP 20; exact rfl; intro _; apply opv_fa; exact fa_Pk2; exact rfl; exact rfl; kernel_rfl; exact fun _ => hS
      clear hS
      refine wm_one 21 (by kernel_rfl) rfl ?_; dsimp only [List.getElem_toArray, List.getElem_cons_succ, List.getElem_cons_zero]
      apply ws_st hs 2; exact rfl; exact rfl; exact g1_int; exact rfl; exact rfl; exact rfl; clear hs; intro _ hs; dsimp only [setC, List.set] at hs; refine wl_nil ?_
      refine we_heldM (fun _ => (hs.ow 0 rfl).rd) ?_
      have hS := (hs.ow 0 rfl).rd
      apply wm_takeP 22; exact rfl; intro _; apply opv_nilOk; exact rfl; exact rfl; kernel_rfl; exact fun _ => hS; apply wm_takeP 23; exact rfl; intro _; apply opv_fa; exact fa_Pk3; exact rfl; exact rfl; kernel_rfl; exact fun _ => hS
      clear hS
      refine wm_one 24 (by kernel_rfl) rfl ?_; dsimp only [List.getElem_toArray, List.getElem_cons_succ, List.getElem_cons_zero]
      apply ws_st hs 2; exact rfl; exact rfl; exact g1_int; exact rfl; exact rfl; exact rfl; clear hs; intro _ hs; dsimp only [setC, List.set] at hs; refine wl_nil ?_
      refine we_heldM (fun _ => (hs.ow 0 rfl).rd) ?_
      have hS := (hs.ow 0 rfl).rd
      apply wm_takeP 25; exact rfl; intro _; apply opv_nilOk; exact rfl; exact rfl; kernel_rfl; exact fun _ => hS; apply wm_takeP 26; exact rfl; intro _; apply opv_fa; exact fa_Pk4; exact rfl; exact rfl; kernel_rfl; exact fun _ => hS
      clear hS
      refine wm_one 27 (by kernel_rfl) rfl ?_; dsimp only [List.getElem_toArray, List.getElem_cons_succ, List.getElem_cons_zero]
      apply ws_st hs 2; exact rfl; exact rfl; exact g1_int; exact rfl; exact rfl; exact rfl; clear hs; intro _ hs; dsimp only [setC, List.set] at hs; refine wl_nil ?_
      refine we_heldM (fun h => absurd h (by decide)) ?_
      refine wm_done (by kernel_rfl) ?_
      replace hs := hs.drop 0 rfl
      dsimp only [delC] at hs
      exact we_cut _ ⟨⟨2, a, b, d, e, 0, 0, (0, 0), 0, zMsg, zRes, []⟩, r1, A1, c1, rfl, rfl, rfl, rfl, rfl, fields_2 hx1, hr1, hl1, hs⟩ ⟨rfl, rfl, trivial⟩
    by_cases k3 : k = 3
    · subst k3
      apply wc_condFb; exact rfl; exact rfl; refine wc_sr ?_; refine wl_bin rfl rfl bin_eql rfl ?_; refine wl_as rfl rfl ?_; refine wl_ns ?_; apply wc_condFb; exact rfl; exact rfl; refine wc_sr ?_; refine wl_bin rfl rfl bin_eql rfl ?_; refine wl_as rfl rfl ?_; refine wl_ns ?_; apply wc_condTb; exact rfl; exact rfl; refine wc_sr ?_; refine wl_mv rfl rfl ?_
      obtain ⟨S2, hS2, hB2, hM2, hH2, hB⟩ := St.lend (H1 := [rdP g A c r]) (H2 := [_]) hs
      refine wl_call ok_session_reader_ints (srints_any (n := 7) hS2 (fun w' k => hK w' (hM2 w' k)) hr (by decide) hl) ⟨rfl, rfl, trivial⟩ rfl ?_
      rintro _ _ ⟨O, co, A1, c1, rfl, hr1, hsx⟩
      replace hs := hB _ _ hsx
      clear hsx hB hH2 hM2 hB2 hS2
      dsimp only [List.cons_append, List.nil_append] at hs
      have hnl := intsR_len 7 r
      have hl1 := ints_rest (n := 7) hl
      obtain ⟨⟨ns, r1⟩, hx1⟩ : ∃ x, intsR 7 r = x := ⟨_, rfl⟩
      rw [hx1] at hs hr1 hnl hl1
      dsimp only at hs hr1 hnl hl1
      generalize hn0 : ns.getD 0 0 = a
      generalize hn1 : ns.getD 1 0 = b
      generalize hn2 : ns.getD 2 0 = d
      generalize hn3 : ns.getD 3 0 = e
      generalize hn4 : ns.getD 4 0 = f
      generalize hn5 : ns.getD 5 0 = h
      generalize hn6 : ns.getD 6 0 = i
      have hns : ns = [a, b, d, e, f, h, i] := by rw [← hn0, ← hn1, ← hn2, ← hn3, ← hn4, ← hn5, ← hn6]; exact get7 hnl
      clear hn0 hn1 hn2 hn3 hn4 hn5 hn6
      subst hns
      clear hnl
      have hi0 : (iVs [a, b, d, e, f, h, i])[0]? = some (.int .i64 a) := rfl
      have hi1 : (iVs [a, b, d, e, f, h, i])[1]? = some (.int .i64 b) := rfl
      have hi2 : (iVs [a, b, d, e, f, h, i])[2]? = some (.int .i64 d) := rfl
      have hi3 : (iVs [a, b, d, e, f, h, i])[3]? = some (.int .i64 e) := rfl
      have hi4 : (iVs [a, b, d, e, f, h, i])[4]? = some (.int .i64 f) := rfl
      have hi5 : (iVs [a, b, d, e, f, h, i])[5]? = some (.int .i64 h) := rfl
      have hi6 : (iVs [a, b, d, e, f, h, i])[6]? = some (.int .i64 i) := rfl
      refine wl_as rfl rfl ?_; refine wl_ns ?_
      refine wc_heldG (fun w' => Rd w' O 7 (iVs [a, b, d, e, f, h, i])) 48 mixed ?_
      replace hs := hs.below (Below.refl _ _).drew
      have hS := (hs.ow 0 rfl).rd
      apply wm_take 0; exact rfl; intro _ hw_; apply opv_move; exact rfl; exact rfl; kernel_rfl; exact hS; apply wm_take 1; exact rfl; intro _ hw_; apply opv_move; exact rfl; exact rfl; kernel_rfl; exact hS; apply wm_take 2; exact rfl; intro _ hw_; apply opv_move; exact rfl; exact rfl; kernel_rfl; exact hS; apply wm_take 3; exact rfl; intro _ hw_; apply opv_move; exact rfl; exact rfl; kernel_rfl; exact hS; apply wm_take 4; exact rfl; intro _ hw_; apply opv_move; exact rfl; exact rfl; kernel_rfl; exact hS; apply wm_take 5; exact rfl; intro _ hw_; apply opv_move; exact rfl; exact rfl; kernel_rfl; exact hS; apply wm_take 6; exact rfl; intro _ hw_; apply opv_move; exact rfl; exact rfl; kernel_rfl; exact hS; apply wm_take 7; exact rfl; intro _ hw_; apply opv_move; exact rfl; exact rfl; kernel_rfl; exact hS; apply wm_take 8; exact rfl; intro _ hw_; apply opv_idxR (T := tyIs) (hr := hw_) (hu := hi0); exact rfl; exact rfl; exact rfl; exact rfl; kernel_rfl; exact hS; apply wm_take 9; exact rfl; intro _ hw_; refine opv_loadR tyIs rfl hw_ hi0; exact rfl; kernel_rfl; exact hS; apply wm_take 10; exact rfl; intro _ hw_; apply opv_move; exact rfl; exact rfl; kernel_rfl; exact hS; apply wm_take 11; exact rfl; intro _ hw_; apply opv_idxR (T := tyIs) (hr := hw_) (hu := hi1); exact rfl; exact rfl; exact rfl; exact rfl; kernel_rfl; exact hS; apply wm_take 12; exact rfl; intro _ hw_; refine opv_loadR tyIs rfl hw_ hi1; exact rfl; kernel_rfl; exact hS; apply wm_take 13; exact rfl; intro _ hw_; apply opv_move; exact rfl; exact rfl; kernel_rfl; exact hS; apply wm_take 14; exact rfl; intro _ hw_; apply opv_idxR (T := tyIs) (hr := hw_) (hu := hi2); exact rfl; exact rfl; exact rfl; exact rfl; kernel_rfl; exact hS; apply wm_take 15; exact rfl; intro _ hw_; refine opv_loadR tyIs rfl hw_ hi2; exact rfl; kernel_rfl; exact hS; apply wm_take 16; exact rfl; intro _ hw_; apply opv_move; exact rfl; exact rfl; kernel_rfl; exact hS; apply wm_take 17; exact rfl; intro _ hw_; apply opv_idxR (T := tyIs) (hr := hw_) (hu := hi3); exact rfl; exact rfl; exact rfl; exact rfl; kernel_rfl; exact hS; apply wm_take 18; exact rfl; intro _ hw_; refine opv_loadR tyIs rfl hw_ hi3; exact rfl; kernel_rfl; exact hS; apply wm_take 19; exact rfl; intro _ hw_; apply opv_move; exact rfl; exact rfl; kernel_rfl; exact hS; apply wm_take 20; exact rfl; intro _ hw_; apply opv_idxR (T := tyIs) (hr := hw_) (hu := hi4); exact rfl; exact rfl; exact rfl; exact rfl; kernel_rfl; exact hS; apply wm_take 21; exact rfl; intro _ hw_; refine opv_loadR tyIs rfl hw_ hi4; exact rfl; kernel_rfl; exact hS; apply wm_take 22; exact rfl; intro _ hw_; apply opv_move; exact rfl; exact rfl; kernel_rfl; exact hS; apply wm_take 23; exact rfl; intro _ hw_; apply opv_idxR (T := tyIs) (hr := hw_) (hu := hi5); exact rfl; exact rfl; exact rfl; exact rfl; kernel_rfl; exact hS; apply wm_take 24; exact rfl; intro _ hw_; refine opv_loadR tyIs rfl hw_ hi5; exact rfl; kernel_rfl; exact hS; apply wm_take 25; exact rfl; intro _ hw_; apply opv_move; exact rfl; exact rfl; kernel_rfl; exact hS; apply wm_take 26; exact rfl; intro _ hw_; apply opv_idxR (T := tyIs) (hr := hw_) (hu := hi6); exact rfl; exact rfl; exact rfl; exact rfl; kernel_rfl; exact hS; apply wm_take 27; exact rfl; intro _ hw_; refine opv_loadR tyIs rfl hw_ hi6; exact rfl; kernel_rfl; exact hS
      clear hS
      have hS := (hs.ow 0 rfl).rd
      apply wm_takeP 28; exact rfl; intro _; apply opv_nilOk; exact rfl; exact rfl; kernel_rfl; exact fun _ => hS; apply wm_takeP 29; exact rfl; intro _; apply opv_fa; exact fa_Pk1; exact rfl; exact rfl; kernel_rfl; exact fun _ => hS
      clear hS
      refine wm_one 30 (by kernel_rfl) rfl ?_; dsimp only [List.getElem_toArray, List.getElem_cons_succ, List.getElem_cons_zero]
      apply ws_st hs 2; exact rfl; exact rfl; exact g1_int; exact rfl; exact rfl; exact rfl; clear hs; intro _ hs; dsimp only [setC, List.set] at hs; refine wl_nil ?_
      refine we_heldM (fun _ => (hs.ow 0 rfl).rd) ?_
      have hS := (hs.ow 0 rfl).rd
      apply wm_takeP 31; exact rfl; intro _; apply opv_nilOk; exact rfl; exact rfl; kernel_rfl; exact fun _ => hS; apply wm_takeP 32; exact rfl; intro _; apply opv_fa; exact fa_Pk2; exact rfl; exact rfl; kernel_rfl; exact fun _ => hS
      clear hS
      refine wm_one 33 (by kernel_rfl) rfl ?_; dsimp only [List.getElem_toArray, List.getElem_cons_succ, List.getElem_cons_zero]
      apply ws_st hs 2; exact rfl; exact rfl; exact g1_int; exact rfl; exact rfl; exact rfl; clear hs; intro _ hs; dsimp only [setC, List.set] at hs; refine wl_nil ?_
      refine we_heldM (fun _ => (hs.ow 0 rfl).rd) ?_
      have hS := (hs.ow 0 rfl).rd
      apply wm_takeP 34; exact rfl; intro _; apply opv_nilOk; exact rfl; exact rfl; kernel_rfl; exact fun _ => hS; apply wm_takeP 35; exact rfl; intro _; apply opv_fa; exact fa_Pk3; exact rfl; exact rfl; kernel_rfl; exact fun _ => hS
      clear hS
      refine wm_one 36 (by kernel_rfl) rfl ?_; dsimp only [List.getElem_toArray, List.getElem_cons_succ, List.getElem_cons_zero]
      apply ws_st hs 2; exact rfl; exact rfl; exact g1_int; exact rfl; exact rfl; exact rfl; clear hs; intro _ hs; dsimp only [setC, List.set] at hs; refine wl_nil ?_
      refine we_heldM (fun _ => (hs.ow 0 rfl).rd) ?_
      have hS := (hs.ow 0 rfl).rd
      apply wm_takeP 37; exact rfl; intro _; apply opv_nilOk; exact rfl; exact rfl; kernel_rfl; exact fun _ => hS; apply wm_takeP 38; exact rfl; intro _; apply opv_fa; exact fa_Pk4; exact rfl; exact rfl; kernel_rfl; exact fun _ => hS
      clear hS
      refine wm_one 39 (by kernel_rfl) rfl ?_; dsimp only [List.getElem_toArray, List.getElem_cons_succ, List.getElem_cons_zero]
      apply ws_st hs 2; exact rfl; exact rfl; exact g1_int; exact rfl; exact rfl; exact rfl; clear hs; intro _ hs; dsimp only [setC, List.set] at hs; refine wl_nil ?_
      refine we_heldM (fun _ => (hs.ow 0 rfl).rd) ?_
      have hS := (hs.ow 0 rfl).rd
      apply wm_takeP 40; exact rfl; intro _; apply opv_nilOk; exact rfl; exact rfl; kernel_rfl; exact fun _ => hS; apply wm_takeP 41; exact rfl; intro _; apply opv_fa; exact fa_Pk5; exact rfl; exact rfl; kernel_rfl; exact fun _ => hS
      clear hS
      refine wm_one 42 (by kernel_rfl) rfl ?_; dsimp only [List.getElem_toArray, List.getElem_cons_succ, List.getElem_cons_zero]
      apply ws_st hs 2; exact rfl; exact rfl; exact g1_int; exact rfl; exact rfl; exact rfl; clear hs; intro _ hs; dsimp only [setC, List.set] at hs; refine wl_nil ?_
      refine we_heldM (fun _ => (hs.ow 0 rfl).rd) ?_
      have hS := (hs.ow 0 rfl).rd
      apply wm_takeP 43; exact rfl; intro _; apply opv_nilOk; exact rfl; exact rfl; kernel_rfl; exact fun _ => hS; apply wm_takeP 44; exact rfl; intro _; apply opv_fa; exact fa_Pk8; exact rfl; exact rfl; kernel_rfl; exact fun _ => hS
      clear hS
      refine wm_one 45 (by kernel_rfl) rfl ?_; dsimp only [List.getElem_toArray, List.getElem_cons_succ, List.getElem_cons_zero]
      apply ws_st hs 2; exact rfl; exact rfl; exact g1_err; exact rfl; exact rfl; exact rfl; clear hs; intro _ hs; dsimp only [setC, List.set] at hs; refine wl_nil ?_
      refine we_heldM (fun _ => (hs.ow 0 rfl).rd) ?_
      have hS := (hs.ow 0 rfl).rd
      apply wm_takeP 46; exact rfl; intro _; apply opv_nilOk; exact rfl; exact rfl; kernel_rfl; exact fun _ => hS; apply wm_takeP 47; exact rfl; intro _; apply opv_fa; exact fa_Pk6; exact rfl; exact rfl; kernel_rfl; exact fun _ => hS
      clear hS
      refine wm_one 48 (by kernel_rfl) rfl ?_; dsimp only [List.getElem_toArray, List.getElem_cons_succ, List.getElem_cons_zero]
      apply ws_st hs 2; exact rfl; exact rfl; exact g1_int; exact rfl; exact rfl; exact rfl; clear hs; intro _ hs; dsimp only [setC, List.set] at hs; refine wl_nil ?_
      refine we_heldM (fun h => absurd h (by decide)) ?_
      refine wm_done (by kernel_rfl) ?_
      replace hs := hs.drop 0 rfl
      dsimp only [delC] at hs
      exact we_cut _ ⟨⟨3, a, b, d, e, f, i, (0, 0), h, zMsg, zRes, []⟩, r1, A1, c1, rfl, rfl, rfl, rfl, rfl, fields_3 hx1, hr1, hl1, hs⟩ ⟨rfl, rfl, trivial⟩
    by_cases k4 : k = 4
    · subst k4
      apply wc_condFb; exact rfl; exact rfl; refine wc_sr ?_; refine wl_bin rfl rfl bin_eql rfl ?_; refine wl_as rfl rfl ?_; refine wl_ns ?_; apply wc_condFb; exact rfl; exact rfl; refine wc_sr ?_; refine wl_bin rfl rfl bin_eql rfl ?_; refine wl_as rfl rfl ?_; refine wl_ns ?_; apply wc_condFb; exact rfl; exact rfl; refine wc_sr ?_; refine wl_bin rfl rfl bin_eql rfl ?_; refine wl_as rfl rfl ?_; refine wl_ns ?_; apply wc_condTb; exact rfl; exact rfl; refine wc_region ?_; refine wl_mv rfl rfl ?_; refine wl_mv rfl rfl ?_
      obtain ⟨S2, hS2, hB2, hM2, hH2, hB⟩ := St.lend (H1 := [rdP g A c r]) (H2 := [_]) hs
      refine wl_call ok_session_reader_ints (srints_any (n := 1) hS2 (fun w' k => hK w' (hM2 w' k)) hr (by decide) hl) ⟨rfl, rfl, trivial⟩ rfl ?_
      rintro _ _ ⟨O, co, A1, c1, rfl, hr1, hsx⟩
      replace hs := hB _ _ hsx
      clear hsx hB hH2 hM2 hB2 hS2
      dsimp only [List.cons_append, List.nil_append] at hs
      have hnl := intsR_len 1 r
      have hl1 := ints_rest (n := 1) hl
      obtain ⟨⟨ns, r1⟩, hx1⟩ : ∃ x, intsR 1 r = x := ⟨_, rfl⟩
      rw [hx1] at hs hr1 hnl hl1
      dsimp only at hs hr1 hnl hl1
      generalize hn0 : ns.getD 0 0 = a
      have hns : ns = [a] := by rw [← hn0]; exact get1 hnl
      clear hn0
      subst hns
      clear hnl
      have hi0 : (iVs [a])[0]? = some (.int .i64 a) := rfl
      refine wl_val (opv_idxR (kk := 0) (u := .int .i64 a) tyIs rfl rfl (hs.ow 0 rfl).rd rfl rfl) rfl ?_
      refine wl_val (opv_loadR (kk := 0) (u := .int .i64 a) tyIs rfl (hs.ow 0 rfl).rd rfl) rfl ?_
      apply wl_val; apply opv_nilOk; exact rfl; exact rfl; apply wl_val; apply opv_fa; exact fa_Pk2; exact rfl; exact rfl; apply ws_st hs 2; exact rfl; exact rfl; exact g1_int; exact rfl; exact rfl; exact rfl; clear hs; intro _ hs; dsimp only [setC, List.set] at hs; refine wl_nil ?_; refine we_block_norm ?_
      replace hs := hs.drop 0 rfl
      dsimp only [delC] at hs
      exact we_cut _ ⟨⟨4, 0, a, 0, 0, 0, 0, (0, 0), 0, zMsg, zRes, []⟩, r1, A1, c1, rfl, rfl, rfl, rfl, rfl, fields_4 hx1, hr1, hl1, hs⟩ ⟨rfl, rfl, trivial⟩
    by_cases k5 : k = 5
    · subst k5
      apply wc_condFb; exact rfl; exact rfl; refine wc_sr ?_; refine wl_bin rfl rfl bin_eql rfl ?_; refine wl_as rfl rfl ?_; refine wl_ns ?_; apply wc_condFb; exact rfl; exact rfl; refine wc_sr ?_; refine wl_bin rfl rfl bin_eql rfl ?_; refine wl_as rfl rfl ?_; refine wl_ns ?_; apply wc_condFb; exact rfl; exact rfl; refine wc_sr ?_; refine wl_bin rfl rfl bin_eql rfl ?_; refine wl_as rfl rfl ?_; refine wl_ns ?_; apply wc_condFb; exact rfl; exact rfl; refine wc_sr ?_; refine wl_bin rfl rfl bin_eql rfl ?_; refine wl_as rfl rfl ?_; refine wl_ns ?_; apply wc_condTb; exact rfl; exact rfl; refine wc_sr ?_; refine wl_mv rfl rfl ?_
      obtain ⟨S2, hS2, hB2, hM2, hH2, hB⟩ := St.lend (H1 := [rdP g A c r]) (H2 := [_]) hs
      refine wl_call ok_session_reader_ints (srints_any (n := 2) hS2 (fun w' k => hK w' (hM2 w' k)) hr (by decide) hl) ⟨rfl, rfl, trivial⟩ rfl ?_
      rintro _ _ ⟨O, co, A1, c1, rfl, hr1, hsx⟩
      replace hs := hB _ _ hsx
      clear hsx hB hH2 hM2 hB2 hS2
      dsimp only [List.cons_append, List.nil_append] at hs
      have hnl := intsR_len 2 r
      have hl1 := ints_rest (n := 2) hl
      obtain ⟨⟨ns, r1⟩, hx1⟩ : ∃ x, intsR 2 r = x := ⟨_, rfl⟩
      rw [hx1] at hs hr1 hnl hl1
      dsimp only at hs hr1 hnl hl1
      generalize hn0 : ns.getD 0 0 = a
      generalize hn1 : ns.getD 1 0 = b
      have hns : ns = [a, b] := by rw [← hn0, ← hn1]; exact get2 hnl
      clear hn0 hn1
      subst hns
      clear hnl
      have hi0 : (iVs [a, b])[0]? = some (.int .i64 a) := rfl
      have hi1 : (iVs [a, b])[1]? = some (.int .i64 b) := rfl
      refine wl_as rfl rfl ?_; refine wl_ns ?_
      refine wc_heldG (fun w' => Rd w' O 2 (iVs [a, b])) 13 mixed ?_
      replace hs := hs.below (Below.refl _ _).drew
      have hS := (hs.ow 0 rfl).rd
      apply wm_take 0; exact rfl; intro _ hw_; apply opv_move; exact rfl; exact rfl; kernel_rfl; exact hS; apply wm_take 1; exact rfl; intro _ hw_; apply opv_move; exact rfl; exact rfl; kernel_rfl; exact hS; apply wm_take 2; exact rfl; intro _ hw_; apply opv_move; exact rfl; exact rfl; kernel_rfl; exact hS; apply wm_take 3; exact rfl; intro _ hw_; apply opv_idxR (T := tyIs) (hr := hw_) (hu := hi0); exact rfl; exact rfl; exact rfl; exact rfl; kernel_rfl; exact hS; apply wm_take 4; exact rfl; intro _ hw_; refine opv_loadR tyIs rfl hw_ hi0; exact rfl; kernel_rfl; exact hS; apply wm_take 5; exact rfl; intro _ hw_; apply opv_move; exact rfl; exact rfl; kernel_rfl; exact hS; apply wm_take 6; exact rfl; intro _ hw_; apply opv_idxR (T := tyIs) (hr := hw_) (hu := hi1); exact rfl; exact rfl; exact rfl; exact rfl; kernel_rfl; exact hS; apply wm_take 7; exact rfl; intro _ hw_; refine opv_loadR tyIs rfl hw_ hi1; exact rfl; kernel_rfl; exact hS
      clear hS
      have hS := (hs.ow 0 rfl).rd
      apply wm_takeP 8; exact rfl; intro _; apply opv_nilOk; exact rfl; exact rfl; kernel_rfl; exact fun _ => hS; apply wm_takeP 9; exact rfl; intro _; apply opv_fa; exact fa_Pk1; exact rfl; exact rfl; kernel_rfl; exact fun _ => hS
      clear hS
      refine wm_one 10 (by kernel_rfl) rfl ?_; dsimp only [List.getElem_toArray, List.getElem_cons_succ, List.getElem_cons_zero]
      apply ws_st hs 2; exact rfl; exact rfl; exact g1_int; exact rfl; exact rfl; exact rfl; clear hs; intro _ hs; dsimp only [setC, List.set] at hs; refine wl_nil ?_
      refine we_heldM (fun _ => (hs.ow 0 rfl).rd) ?_
      have hS := (hs.ow 0 rfl).rd
      apply wm_takeP 11; exact rfl; intro _; apply opv_nilOk; exact rfl; exact rfl; kernel_rfl; exact fun _ => hS; apply wm_takeP 12; exact rfl; intro _; apply opv_fa; exact fa_Pk8; exact rfl; exact rfl; kernel_rfl; exact fun _ => hS
      clear hS
      refine wm_one 13 (by kernel_rfl) rfl ?_; dsimp only [List.getElem_toArray, List.getElem_cons_succ, List.getElem_cons_zero]
      apply ws_st hs 2; exact rfl; exact rfl; exact g1_err; exact rfl; exact rfl; exact rfl; clear hs; intro _ hs; dsimp only [setC, List.set] at hs; refine wl_nil ?_
      refine we_heldM (fun h => absurd h (by decide)) ?_
      refine wm_done (by kernel_rfl) ?_
      replace hs := hs.drop 0 rfl
      dsimp only [delC] at hs
      exact we_cut _ ⟨⟨5, a, 0, 0, 0, 0, 0, (0, 0), b, zMsg, zRes, []⟩, r1, A1, c1, rfl, rfl, rfl, rfl, rfl, fields_5 hx1, hr1, hl1, hs⟩ ⟨rfl, rfl, trivial⟩
    have hf := fields_no (r := r) k1 k2 k3 k4 k5
    obtain ⟨rows, e⟩ := r
    unfold rdP rdV at hs
    dsimp only at hs
    rw [hf]
    apply wc_decF; exact rfl; (with_reducible assumption); refine wc_sr ?_; refine wl_bin rfl rfl bin_eql rfl ?_; refine wl_as rfl rfl ?_; refine wl_ns ?_; apply wc_decF; exact rfl; (with_reducible assumption); refine wc_sr ?_; refine wl_bin rfl rfl bin_eql rfl ?_; refine wl_as rfl rfl ?_; refine wl_ns ?_; apply wc_decF; exact rfl; (with_reducible assumption); refine wc_sr ?_; refine wl_bin rfl rfl bin_eql rfl ?_; refine wl_as rfl rfl ?_; refine wl_ns ?_; apply wc_decF; exact rfl; (with_reducible assumption); refine wc_sr ?_; refine wl_bin rfl rfl bin_eql rfl ?_; refine wl_as rfl rfl ?_; refine wl_ns ?_; apply wc_decF; exact rfl; (with_reducible assumption); refine wc_sr ?_; refine wl_mv rfl rfl ?_; apply wl_val; apply opv_nilOk; exact rfl; exact rfl; apply wl_val; apply opv_fa; exact fa_Rd1; exact rfl; exact rfl; apply ws_st hs 0; exact rfl; exact rfl; exact g1_err; exact rfl; exact rfl; exact rfl; clear hs; intro _ hs; dsimp only [setC, List.set] at hs; refine wl_ns ?_; refine wc_ret ?_; refine we_block_ret ?_; refine we_cut_ret ?_
    refine we_ret0 rfl ⟨_, rfl, A, c, none, 0, none, 0, none, 0, none, 0, none, 0, none, 0, ?_, fun _ _ => Ow.nil _ _ _⟩
    have h2 := hs.kpNil (K := PkK base ⟨k, 0, 0, 0, 0, 0, 0, (0, 0), 0, zMsg, zRes, []⟩ none none none none none 0 0) fun w => ⟨msK0 _ _, reK0 _ _⟩
    have h3 := h2.front 2 rfl
    exact h3.front 2 rfl
  · clear hs hr hl h0
    rintro _ w1 ⟨p, r1, A1, c1, rfl, hpm, hpr, hpd, hpk, hf, hr1, hl1, hs⟩
    obtain ⟨kd, fr, to, sh, ro, cm0, ld, tx, code, m0, x0, d0⟩ := p
    dsimp only at hpm hpr hpd hpk
    subst hpm hpr hpd hpk
    unfold pkZ at hs
    dsimp only at hs
    rw [hf]
    unfold tailR
    dsimp only
    refine wc_sr ?_; refine wl_mv rfl rfl ?_
    obtain ⟨S2, hS2, hB2, hM2, hH2, hB⟩ := St.lend (H1 := [rdP g A1 c1 r1]) (H2 := [_]) hs
    refine wl_call ok_session_reader_words (swords_any (n := 2) hS2 (fun w' k => hK w' (hM2 w' k)) hr1 (by decide) hl1) ⟨rfl, rfl, trivial⟩ rfl ?_
    rintro _ _ ⟨O, co, A2, c2, rfl, hr2, hsx⟩
    replace hs := hB _ _ hsx
    clear hsx hB hH2 hM2 hB2 hS2
    dsimp only [List.cons_append, List.nil_append] at hs
    have hw2 := wordsR_len 2 r1
    have hl2 := words_rest (n := 2) hl1
    obtain ⟨⟨ws, r2⟩, hx2⟩ : ∃ x, wordsR 2 r1 = x := ⟨_, rfl⟩
    rw [hx2] at hs hr2 hw2 hl2 ⊢
    dsimp only at hs hr2 hw2 hl2 ⊢
    generalize hm0 : ws.getD 0 0 = s
    generalize hm1 : ws.getD 1 0 = q
    have hws : ws = [s, q] := by rw [← hm0, ← hm1]; exact get2 hw2
    clear hm0 hm1
    subst hws
    clear hw2
    have hj0 : (wVs [s, q])[0]? = some (.int .u64 (s : Int)) := rfl
    have hj1 : (wVs [s, q])[1]? = some (.int .u64 (q : Int)) := rfl
    refine wl_as rfl rfl ?_; refine wl_ns ?_; refine wc_seq ?_
    refine wc_cutE (fun L w' => L = [(0, .pointer (some ⟨g, 0, none⟩)), (1, .pointer (some ⟨gp, 0, none⟩))] ∧ St S w w' [rdP g A2 c2 r2, .blk gp 42 (pkZ ⟨kd, fr, to, sh, ro, cm0, ld, (s, q), code, zMsg, zRes, []⟩)]) ?_ ?_
    · refine wc_heldG (fun w' => Rd w' O 2 (wVs [s, q])) 10 mixed ?_
      replace hs := hs.below (Below.refl _ _).drew
      have hS := (hs.ow 0 rfl).rd
      apply wm_take 0; exact rfl; intro _ hw_; apply opv_move; exact rfl; exact rfl; kernel_rfl; exact hS; apply wm_take 1; exact rfl; intro _ hw_; apply opv_move; exact rfl; exact rfl; kernel_rfl; exact hS; apply wm_take 2; exact rfl; intro _ hw_; apply opv_idxR (T := tyWs) (hr := hw_) (hu := hj0); exact rfl; exact rfl; exact rfl; exact rfl; kernel_rfl; exact hS; apply wm_take 3; exact rfl; intro _ hw_; refine opv_loadR tyWs rfl hw_ hj0; exact rfl; kernel_rfl; exact hS; apply wm_take 4; exact rfl; intro _ hw_; apply opv_move; exact rfl; exact rfl; kernel_rfl; exact hS; apply wm_take 5; exact rfl; intro _ hw_; apply opv_idxR (T := tyWs) (hr := hw_) (hu := hj1); exact rfl; exact rfl; exact rfl; exact rfl; kernel_rfl; exact hS; apply wm_take 6; exact rfl; intro _ hw_; refine opv_loadR tyWs rfl hw_ hj1; exact rfl; kernel_rfl; exact hS
      clear hS
      refine wm_one 7 (by kernel_rfl) rfl ?_; dsimp only [List.getElem_toArray, List.getElem_cons_succ, List.getElem_cons_zero]
      refine wl_val (opv_build (vs := [(0, .int .u64 (s : Int)), (1, .int .u64 (q : Int))]) (cs := [.int .u64 (s : Int), .int .u64 (q : Int)]) ⟨rfl, rfl, rfl, rfl, trivial⟩ (by kernel_rfl)) rfl ?_
      refine wl_nil ?_
      refine we_heldM (fun _ => (hs.ow 0 rfl).rd) ?_
      have hS := (hs.ow 0 rfl).rd
      apply wm_takeP 8; exact rfl; intro _; apply opv_nilOk; exact rfl; exact rfl; kernel_rfl; exact fun _ => hS; apply wm_takeP 9; exact rfl; intro _; apply opv_fa; exact fa_Pk7; exact rfl; exact rfl; kernel_rfl; exact fun _ => hS
      clear hS
      refine wm_one 10 (by kernel_rfl) rfl ?_; dsimp only [List.getElem_toArray, List.getElem_cons_succ, List.getElem_cons_zero]
      refine ws_stM (ds := [.int .u64 (s : Int), .int .u64 (q : Int)]) hs 2 rfl rfl rfl sTxn (Nat.le_of_ble_eq_true rfl) rfl ?_
      clear hs; intro _ hs; dsimp only [setC, putN, List.set] at hs
      refine wl_nil ?_
      refine we_heldM (fun h => absurd h (by decide)) ?_
      refine wm_done (by kernel_rfl) ?_
      replace hs := hs.drop 0 rfl
      exact we_cut _ ⟨rfl, hs⟩ ⟨rfl, rfl, trivial⟩
    rintro _ w2 ⟨rfl, hs⟩
    unfold pkZ at hs
    dsimp only at hs
    refine we_seq ?_; refine wc_sr ?_; refine wl_mv rfl rfl ?_; apply wl_val; apply opv_nilOk; exact rfl; exact rfl; apply wl_val; apply opv_fa; exact fa_Pk0; exact rfl; exact rfl; apply wl_val; apply opv_ldX; exact rfl; exact hs.ar 1 rfl; exact g1_int; exact rfl; exact rfl; refine wl_bin rfl rfl bin_eql rfl ?_; refine wl_ns ?_
    by_cases k3 : kd = 3
    · subst k3
      rw [if_pos rfl]
      apply wc_condTb; exact rfl; exact rfl; refine wc_region ?_; refine wl_mv rfl rfl ?_; refine wl_mv rfl rfl ?_
      obtain ⟨S2, hS2, hB2, hM2, hH2, hB⟩ := St.lend (H1 := [rdP g A2 c2 r2]) (H2 := [_]) hs
      refine wl_call ok_session_reader_result (sresult_any hS2 (fun w' k => hK w' (hM2 w' k)) hr2 (Nat.le_trans hb hs.size) hl2) ⟨rfl, trivial⟩ rfl ?_
      rintro _ _ ⟨A3, c3, P, cp, W, cw, Y, cy, rfl, hr3, hsx⟩
      replace hs := hB _ _ hsx
      clear hsx hB hH2 hM2 hB2 hS2
      dsimp only [List.cons_append, List.nil_append] at hs
      apply wl_val; apply opv_nilOk; exact rfl; exact rfl; apply wl_val; apply opv_fa; exact fa_Pk10; exact rfl; exact rfl
      refine ws_stM (ds := reV (resR r2).1 P cp W cw Y cy) hs 2 rfl rfl rfl sRe (Nat.le_of_ble_eq_true rfl) rfl ?_
      clear hs; intro _ hs; dsimp only [setC] at hs
      refine wl_nil ?_
      refine we_end0 rfl ⟨_, rfl, A3, c3, none, 0, none, 0, P, cp, W, cw, Y, cy, none, 0, ?_, fun _ _ => Ow.nil _ _ _⟩
      have h2 := (hs.front 1 rfl).kpMono (K' := PkK base ⟨3, fr, to, sh, ro, cm0, ld, (s, q), code, zMsg, (resR r2).1, []⟩ none none P W Y 0 cy) fun w h => ⟨msK0 _ _, h⟩
      have h3 := h2.front 2 rfl
      exact h3.front 2 rfl
    · rw [if_neg k3]
      apply wc_decF; exact rfl; (with_reducible assumption); refine wc_region ?_; refine wl_mv rfl rfl ?_; refine wl_mv rfl rfl ?_
      obtain ⟨S2, hS2, hB2, hM2, hH2, hB⟩ := St.lend (H1 := [rdP g A2 c2 r2]) (H2 := [_]) hs
      refine wl_call ok_session_reader_next (snext_any hS2 (fun w' k => hK w' (hM2 w' k)) hr2) ⟨rfl, trivial⟩ rfl ?_
      rintro _ _ ⟨D, cd, A3, c3, rfl, hD, hr3, hsx⟩
      replace hs := hB _ _ hsx
      clear hsx hB hH2 hM2 hB2 hS2
      dsimp only [List.cons_append, List.nil_append] at hs
      obtain ⟨⟨dt, r3⟩, hx3⟩ : ∃ x, nextR r2 = x := ⟨_, rfl⟩
      rw [hx3] at hs hD ⊢
      dsimp only at hs hD ⊢
      apply wl_val; apply opv_nilOk; exact rfl; exact rfl; apply wl_val; apply opv_fa; exact fa_Pk11; exact rfl; exact rfl; apply ws_st hs 1; exact rfl; exact rfl; exact g1_by; exact rfl; exact rfl; exact rfl; clear hs; intro _ hs; dsimp only [setC, List.set] at hs; refine wl_nil ?_
      refine we_end0 rfl ⟨_, rfl, A3, c3, none, 0, none, 0, none, 0, none, 0, none, 0, D, cd, ?_, hD⟩
      have h2 := hs.kpNil (K := PkK base ⟨kd, fr, to, sh, ro, cm0, ld, (s, q), code, zMsg, zRes, dt⟩ none none none none none 0 0) fun w => ⟨msK0 _ _, reK0 _ _⟩
      have h3 := h2.front 2 rfl
      exact h3.front 2 rfl
end Go.Proofs.Ytaacnknniaipmaa

/-
  The walk over Read of packets.
-/
namespace Go.Proofs.Ytaacnknniaipmaa
open Go.RowKit

theorem openB_len {b body : By} {x e : Nat} (h : openB b 0 = (body, x, e)) : body.length ≤ b.length := by
  by_cases he : e = 0
  · subst he
    obtain ⟨h1, h2, _⟩ := openB_inv (Nat.zero_le _) h
    omega
  · have := (openB_err' h he).1
    simp [this]
def RdRes (w : World) (x : PkM × Nat) (v : Value) (w' : World) : Prop := ∃ (E : Option Addr) (ce : Nat) (M : Option Addr) (cm : Nat) (P : Option Addr) (cp : Nat) (W : Option Addr) (cw : Nat) (Y : Option Addr) (cy : Nat) (D : Option Addr) (cd : Nat),
  v = .tuple #[.agg (pkV x.1 (msV x.1.msg E ce M cm) (reV x.1.res P cp W cw Y cy) D cd).toArray, .int .i64 (x.2 : Int)] ∧ St NoB w w' [.ck (kp fun w' => PkK w.heap.size x.1 E M P W Y cm cy w' ∧ OwB w' w.heap.size D cd x.1.data)]
theorem RdRes.no {w w' : World} {e : Nat} {H : List Cd} {v : Value} (hs : St NoB w w' H) (hv : v = .tuple #[.agg (pkZ zPk).toArray, .int .i64 (e : Int)]) : RdRes w (zPk, e) v w' :=
  ⟨none, 0, none, 0, none, 0, none, 0, none, 0, none, 0, hv, hs.nil.kpNil fun w' => ⟨⟨msK0 _ _, reK0 _ _⟩, Ow.nil _ _ _⟩⟩
set_option maxHeartbeats 8000000 in
set_option maxRecDepth 8000 in
theorem sread_any {A : Option Addr} {n c : Nat} {xs : By} {w : World} (hr : RdB w A xs) (hn : xs.length = n) (hc : xs.length ≤ c) (hl : xs.length ≤ 1099511627776) :
    CallsV Try.prog 24 #[.slice A n c] w (RdRes w (readP xs)) := by
  subst hn
  have hs := St.init w
  have hmax : maxLen = 9223372036854775807 := rfl
  unfold readP
  refine calls_in (N := _) Try.func24 rfl Try.ntmps24 rfl ?_; show WC _ _ _ _ _ _
  refine wc_sr ?_
  refine ws_new hs zeroPk rfl ?_; clear hs; intro g2 _ hs
  refine wl_as rfl rfl ?_; refine wl_ns ?_; refine wc_sr ?_; refine wl_mv rfl rfl ?_
  refine wl_call ok_crc_Open (open_any (p := 0) (hr.below hs.bel) rfl hc (by omega)) ⟨rfl, rfl, trivial⟩ rfl ?_
  rintro _ _ ⟨B, cb, rfl, o_, hbx⟩
  replace hs := hs.newO hbx o_ (Nat.le_refl _)
  clear o_ hbx
  obtain ⟨⟨bd, nx, e1⟩, ho⟩ : ∃ z, openB xs 0 = z := ⟨_, rfl⟩
  have hbl := openB_len ho
  rw [ho] at hs ⊢
  dsimp only at hs ⊢
  refine wl_mv rfl rfl ?_; apply wl_val; apply opv_extract; exact rfl; exact rfl; exact rfl; apply wl_val; apply opv_extract; exact rfl; exact rfl; exact rfl; apply wl_val; apply opv_extract; exact rfl; exact rfl; exact rfl; refine wl_as rfl rfl ?_; refine wl_as rfl rfl ?_; refine wl_as rfl rfl ?_; refine wl_ns ?_; refine wc_seq ?_; refine wc_sr ?_; refine wl_mv rfl rfl ?_; refine wl_bin rfl rfl bin_neq rfl ?_; refine wl_ns ?_
  by_cases he1 : e1 = 0
  · subst he1
    rw [if_pos rfl]
    apply wc_condFb; exact rfl; exact rfl; refine wc_skip ?_; refine we_seq ?_; refine wc_seq ?_; refine wc_sr ?_; refine wl_mv rfl rfl ?_; refine wl_mv rfl rfl ?_; apply wl_val; apply opv_len; exact rfl; exact tyB.sl; exact rfl; refine wl_bin rfl rfl bin_lss rfl ?_; refine wl_ns ?_
    by_cases hnx : nx < xs.length
    · rw [if_pos hnx]
      have hnx' : (nx : Int) < (xs.length : Int) := by omega
      apply wc_decT; exact rfl; (with_reducible assumption); refine wc_sr ?_
      refine wl_val (opv_build (vs := []) (cs := pkZ zPk) trivial (by kernel_rfl)) rfl ?_
      apply ws_stS hs 1; exact rfl; exact rfl; exact rfl; exact sPk; exact rfl; exact rfl; clear hs; intro _ hs; dsimp only [setC] at hs; refine wl_as rfl rfl ?_; refine wl_ns ?_; refine wc_ret ?_; refine we_seq_ret ?_
      exact we_retC1 rfl rfl rfl (hs.ar 1 rfl) sPk ⟨_, rfl, RdRes.no hs rfl⟩
    rw [if_neg hnx]
    have hnx' : ¬ (nx : Int) < (xs.length : Int) := by omega
    apply wc_decF; exact rfl; (with_reducible assumption); refine wc_skip ?_; refine we_seq ?_; refine wc_sr ?_; refine wl_mv rfl rfl ?_
    have hbd := hs.ow 0 rfl
    refine wl_call ok_session_open (sopen_any (hs.ow 0 rfl).rd rfl (OwB.cap hbd) (by omega)) ⟨rfl, trivial⟩ rfl ?_
    rintro _ _ ⟨g, B1, cb1, K1, rfl, hk1, hsx⟩
    have hsz := hs.size
    have hsz2 : w.heap.size ≤ w.heap.size := Nat.le_refl _
    have hk1 := hk1.low hsz
    replace hs := (hs.call hsx).drop 2 rfl
    clear hsx hbd
    dsimp only [List.cons_append, List.nil_append, delC] at hs
    have hpl : ∀ p ∈ (parts bd).1, p.length ≤ 1099511627776 := fun q hq => by have := parts_le hq; omega
    obtain ⟨r, hrr⟩ : ∃ r, parts bd = r := ⟨_, rfl⟩
    rw [hrr] at hs hk1 hpl ⊢
    refine wl_as rfl rfl ?_; refine wl_ns ?_; refine wc_sr ?_; refine wl_mv rfl rfl ?_
    obtain ⟨S2, hS2, hB2, hM2, hH2, hB⟩ := St.lend (H1 := [rdP g B1 cb1 r]) (H2 := [_, _]) hs
    refine wl_call ok_session_reader_ints (srints_any (n := 1) hS2 (fun w' k => Sat.kp (i := 0) (hH2 w' k) rfl) hk1 (by decide) hpl) ⟨rfl, rfl, trivial⟩ rfl ?_
    rintro _ _ ⟨O, co, A1, c1, rfl, hr1, hsx⟩
    replace hs := hB _ _ hsx
    clear hsx hB hH2 hM2 hB2 hS2
    dsimp only [List.cons_append, List.nil_append] at hs
    have hn1 := intsR_len 1 r
    have hl1 := ints_rest (n := 1) hpl
    unfold bodyR
    dsimp only
    obtain ⟨⟨ns, r1⟩, hx1⟩ : ∃ x, intsR 1 r = x := ⟨_, rfl⟩
    rw [hx1] at hs hr1 hn1 hl1 ⊢
    dsimp only at hs hr1 hn1 hl1 ⊢
    obtain ⟨k, rfl⟩ : ∃ k, ns = [k] := ⟨_, get1 (z := 0) hn1⟩
    clear hn1
    simp only [List.getD_cons_zero]
    refine wl_val (opv_idxR (kk := 0) (u := .int .i64 k) tyIs rfl rfl (hs.ow 0 rfl).rd rfl rfl) rfl ?_
    refine wl_val (opv_loadR (kk := 0) (u := .int .i64 k) tyIs rfl (hs.ow 0 rfl).rd rfl) rfl ?_
    replace hs := hs.drop 0 rfl
    dsimp only [delC] at hs
    refine wl_val (opv_build (vs := [(0, .int .i64 k)]) (cs := pkZ { zPk with kind := k }) ⟨rfl, rfl, trivial⟩ (by kernel_rfl)) rfl ?_
    refine ws_var (cs := pkZ { zPk with kind := k }) hs zeroPk sPk rfl (fun _ => rfl) (by first | rfl | simp [Value.oneCell']) rfl ?_; clear hs; intro g8 _ hs
    refine wl_ns ?_
    obtain ⟨⟨y, rz⟩, hy⟩ : ∃ z, (if r1.2 = 0 then fieldsR k r1 else ({ zPk with kind := k }, r1)) = z := ⟨_, rfl⟩
    rw [hy]
    dsimp only
    refine wc_cut (fun L w' => ∃ (A' : Option Addr) (c' : Nat) (E : Option Addr) (ce : Nat) (M : Option Addr) (cm : Nat) (P : Option Addr) (cp : Nat) (W : Option Addr) (cw : Nat) (Y : Option Addr) (cy : Nat) (D : Option Addr) (cd : Nat), L = [(2, .pointer (some ⟨g2, 0, none⟩)), (7, .pointer (some ⟨g, 0, none⟩)), (8, .pointer (some ⟨g8, 0, none⟩))] ∧
      St NoB w w' [rdP g A' c' rz, .blk g8 42 (pkV y (msV y.msg E ce M cm) (reV y.res P cp W cw Y cy) D cd), .blk g2 42 (pkZ zPk), .ck (kp fun w' => PkK w.heap.size y E M P W Y cm cy w' ∧ OwB w' w.heap.size D cd y.data)]) ?_ ?_
    · refine wc_sr ?_; refine wl_mv rfl rfl ?_; apply wl_val; apply opv_nilOk; exact rfl; exact rfl; apply wl_val; apply opv_fa; exact fa_Rd1; exact rfl; exact rfl; apply wl_val; apply opv_ldX; exact rfl; exact hs.ar 1 rfl; exact g1_err; exact rfl; exact rfl; refine wl_bin rfl rfl bin_eql rfl ?_; refine wl_ns ?_
      by_cases he2 : r1.2 = 0
      · rw [if_pos he2] at hy
        replace hs := hs.front 1 rfl
        dsimp only [delC] at hs
        unfold rdP rdV at hs
        apply wc_decT; exact rfl; omega; refine wc_region ?_; refine wl_mv rfl rfl ?_
        obtain ⟨S2, hS2, hB2, hM2, hH2, hB⟩ := St.lend (H1 := [rdP g A1 c1 r1, .blk g8 _ _]) (H2 := [_, _]) hs
        refine wl_call ok_session_reader_fields (sfields_any hS2 (fun w' k => Sat.kp (i := 0) (hH2 w' k) rfl) hr1 (Nat.le_trans hsz2 hs.size) hl1) ⟨rfl, rfl, trivial⟩ rfl ?_
        rintro _ _ ⟨A2, c2, E, ce, M, cm, P, cp, W, cw, Y, cy, D, cd, hsx, hD⟩
        replace hs := hB _ _ hsx
        clear hsx hB hH2 hM2 hB2 hS2
        dsimp only [List.cons_append, List.nil_append] at hs
        rw [hy] at hs hD
        dsimp only at hs hD
        refine we_cut _ ⟨A2, c2, E, ce, M, cm, P, cp, W, cw, Y, cy, D, cd, rfl, ?_⟩ ⟨rfl, rfl, rfl, trivial⟩
        have h2 := hs.front 3 rfl
        dsimp only [delC] at h2
        have h3 := h2.front 3 rfl
        dsimp only [delC] at h3
        have h4 := (St.kpAnd h3).kpMono (K' := fun w' => PkK w.heap.size y E M P W Y cm cy w' ∧ OwB w' w.heap.size D cd y.data) fun w' ⟨k1, k2⟩ => ⟨k1, hD w' k2⟩
        exact (((h4.front 3 rfl).front 3 rfl).front 3 rfl)
      · rw [if_neg he2] at hy
        cases hy
        unfold rdP rdV at hs
        apply wc_decF; exact rfl; omega; refine wc_skip ?_
        refine we_cut _ ⟨A1, c1, none, 0, none, 0, none, 0, none, 0, none, 0, none, 0, rfl, ?_⟩ ⟨rfl, rfl, rfl, trivial⟩
        have h2 := (hs.drop 2 rfl).kpNil (K := fun w' => PkK w.heap.size { zPk with kind := k } none none none none none 0 0 w' ∧ OwB w' w.heap.size none 0 []) fun w' => ⟨⟨msK0 _ _, reK0 _ _⟩, Ow.nil _ _ _⟩
        exact (((h2.front 3 rfl).front 2 rfl).front 3 rfl)
    · clear hs hr1 hl1
      rintro _ w9 ⟨A', c', E, ce, M, cm, P, cp, W, cw, Y, cy, D, cd, rfl, hs⟩
      obtain ⟨rows, e⟩ := rz
      unfold rdP rdV pkZ zPk at hs
      dsimp only at hs
      refine wc_seq ?_; refine wc_sr ?_; refine wl_mv rfl rfl ?_; apply wl_val; apply opv_nilOk; exact rfl; exact rfl; apply wl_val; apply opv_fa; exact fa_Rd1; exact rfl; exact rfl; apply wl_val; apply opv_ldX; exact rfl; exact hs.ar 0 rfl; exact g1_err; exact rfl; exact rfl; refine wl_bin rfl rfl bin_eql rfl ?_; refine wl_mv rfl rfl ?_
      by_cases he : e = 0
      · subst he
        cases rows with
        | nil =>
          rw [show endE (([] : List By), 0) = 0 from rfl]
          rw [if_pos rfl]
          unfold pkV msV reV at hs
          dsimp only [List.cons_append, List.nil_append] at hs
          apply wl_take; exact rfl; exact rfl; exact rfl; refine bT ?_; omega; refine wl_mv rfl rfl ?_; apply wl_take; exact rfl; exact rfl; exact rfl; refine bT ?_; omega; apply wl_val; apply opv_nilOk; exact rfl; exact rfl; apply wl_take; exact rfl; exact rfl; exact rfl; refine bT ?_; omega; apply wl_val; apply opv_fa; exact fa_Rd0; exact rfl; exact rfl; apply wl_take; exact rfl; exact rfl; exact rfl; refine bT ?_; omega; apply wl_val; apply opv_ldX; exact rfl; exact hs.ar 0 rfl; exact g1_bbs; exact rfl; exact rfl; apply wl_take; exact rfl; exact rfl; exact rfl; refine bT ?_; omega; apply wl_val; apply opv_len; exact rfl; exact tyBB.sl; exact rfl; apply wl_take; exact rfl; exact rfl; exact rfl; refine bT ?_; omega; refine wl_bin rfl rfl bin_gtr rfl ?_; apply wl_val; apply opv_pickT; exact rfl; refine bT ?_; omega; exact rfl; exact rfl; refine wl_ns ?_; apply wc_condFb; exact rfl; exact rfl; refine wc_skip ?_; refine we_seq ?_; refine wc_seq ?_; refine wc_sr ?_; refine wl_mv rfl rfl ?_; apply wl_val; apply opv_nilOk; exact rfl; exact rfl; apply wl_val; apply opv_fa; exact fa_Rd1; exact rfl; exact rfl; apply wl_val; apply opv_ldX; exact rfl; exact hs.ar 0 rfl; exact g1_err; exact rfl; exact rfl; refine wl_bin rfl rfl bin_neq rfl ?_; refine wl_ns ?_; apply wc_condFb; exact rfl; exact rfl; refine wc_skip ?_; refine we_seq ?_; refine wc_sr ?_; apply wl_val; apply opv_loadX; exact rfl; exact hs.ar 1 rfl; exact sPk; exact rfl; apply ws_stS hs 2; exact rfl; exact rfl; exact rfl; exact sPk; exact rfl; exact rfl; clear hs; intro _ hs; dsimp only [setC] at hs; refine wl_as rfl rfl ?_; refine wl_ns ?_; refine wc_ret ?_
          exact we_retC1 rfl rfl rfl (hs.ar 2 rfl) sPk ⟨_, rfl, E, ce, M, cm, P, cp, W, cw, Y, cy, D, cd, rfl, ((((hs.front 3 rfl).drop 1 rfl).drop 1 rfl).drop 1 rfl)⟩
        | cons x xs2 =>
          rw [show endE (x :: xs2, 0) = 3 by unfold endE; rw [if_pos ⟨rfl, by simp⟩]]
          rw [if_neg (by decide)]
          have hlt : (0 : Int) < ((x :: xs2).length : Int) := by rw [List.length_cons]; omega
          apply wl_take; exact rfl; exact rfl; exact rfl; refine bT ?_; omega; refine wl_mv rfl rfl ?_; apply wl_take; exact rfl; exact rfl; exact rfl; refine bT ?_; omega; apply wl_val; apply opv_nilOk; exact rfl; exact rfl; apply wl_take; exact rfl; exact rfl; exact rfl; refine bT ?_; omega; apply wl_val; apply opv_fa; exact fa_Rd0; exact rfl; exact rfl; apply wl_take; exact rfl; exact rfl; exact rfl; refine bT ?_; omega; apply wl_val; apply opv_ldX; exact rfl; exact hs.ar 0 rfl; exact g1_bbs; exact rfl; exact rfl; apply wl_take; exact rfl; exact rfl; exact rfl; refine bT ?_; omega; apply wl_val; apply opv_len; exact rfl; exact tyBB.sl; exact rfl; apply wl_take; exact rfl; exact rfl; exact rfl; refine bT ?_; omega; refine wl_bin rfl rfl bin_gtr rfl ?_; apply wl_val; apply opv_pickT; exact rfl; refine bT ?_; omega; exact rfl; exact rfl; refine wl_ns ?_; apply wc_decT; exact rfl; (with_reducible assumption); refine wc_region ?_; refine wl_mv rfl rfl ?_; apply wl_val; apply opv_nilOk; exact rfl; exact rfl; apply wl_val; apply opv_fa; exact fa_Rd1; exact rfl; exact rfl; apply ws_st hs 0; exact rfl; exact rfl; exact g1_err; exact rfl; exact rfl; exact rfl; clear hs; intro _ hs; dsimp only [setC, List.set] at hs; refine wl_ns ?_; refine wc_seq ?_; refine wc_sr ?_; refine wl_mv rfl rfl ?_; apply wl_val; apply opv_nilOk; exact rfl; exact rfl; apply wl_val; apply opv_fa; exact fa_Rd1; exact rfl; exact rfl; apply wl_val; apply opv_ldX; exact rfl; exact hs.ar 0 rfl; exact g1_err; exact rfl; exact rfl; refine wl_bin rfl rfl bin_neq rfl ?_; refine wl_ns ?_; apply wc_condTb; exact rfl; exact rfl; refine wc_seq ?_
          refine wc_heldG (fun w' => Ar w' g 142 [.slice A' (x :: xs2).length c', .int .i64 (3 : Int)]) 6 mixed ?_
          replace hs := hs.below (Below.refl _ _).drew
          have hS := hs.ar 0 rfl
          apply wm_take 1; exact rfl; intro _ hw_; apply opv_move; exact rfl; exact rfl; kernel_rfl; exact hS; apply wm_take 2; exact rfl; intro _ hw_; apply opv_nilOk; exact rfl; exact rfl; kernel_rfl; exact hS; apply wm_take 3; exact rfl; intro _ hw_; apply opv_fa; exact fa_Rd1; exact rfl; exact rfl; kernel_rfl; exact hS; apply wm_take 4; exact rfl; intro _ hw_; apply opv_ldX; exact rfl; assumption; exact g1_err; exact rfl; exact rfl; kernel_rfl; exact hS
          refine wm_takeP 0 rfl (fun _ => opv_build (vs := []) (cs := pkZ zPk) trivial (by kernel_rfl)) rfl (by kernel_rfl) (fun _ => hS) ?_
          clear hS
          refine wm_one 5 (by kernel_rfl) rfl ?_; dsimp only [List.getElem_toArray, List.getElem_cons_succ, List.getElem_cons_zero]
          apply ws_stS hs 2; exact rfl; exact rfl; exact rfl; exact sPk; exact rfl; exact rfl; clear hs; intro _ hs; dsimp only [setC] at hs; refine wl_nil ?_
          refine we_heldM (fun _ => hs.ar 0 rfl) ?_
          refine wm_one 6 (by kernel_rfl) rfl ?_; dsimp only [List.getElem_toArray, List.getElem_cons_succ, List.getElem_cons_zero]
          refine wl_as rfl rfl ?_; refine wl_nil ?_
          refine we_heldM (fun h => absurd h (by decide)) ?_
          refine wm_done (by kernel_rfl) ?_
          refine we_seq ?_; refine wc_ret ?_; refine we_seq_ret ?_
          exact we_retC1 rfl rfl rfl (hs.ar 2 rfl) sPk ⟨_, rfl, RdRes.no hs rfl⟩
      · rw [show endE (rows, e) = e by unfold endE; rw [if_neg (fun k => he k.1)]]
        rw [if_neg he]
        apply wl_skip; exact rfl; exact rfl; exact rfl; refine bFn ?_; omega; exact rfl; apply wl_skip; exact rfl; exact rfl; exact rfl; refine bFn ?_; omega; exact rfl; apply wl_skip; exact rfl; exact rfl; exact rfl; refine bFn ?_; omega; exact rfl; apply wl_skip; exact rfl; exact rfl; exact rfl; refine bFn ?_; omega; exact rfl; apply wl_skip; exact rfl; exact rfl; exact rfl; refine bFn ?_; omega; exact rfl; apply wl_skip; exact rfl; exact rfl; exact rfl; refine bFn ?_; omega; exact rfl; apply wl_val; apply opv_pickF; exact rfl; refine bF ?_; omega; exact rfl; exact rfl; refine wl_ns ?_; apply wc_condFb; exact rfl; exact rfl; refine wc_skip ?_; refine we_seq ?_; refine wc_seq ?_; refine wc_sr ?_; refine wl_mv rfl rfl ?_; apply wl_val; apply opv_nilOk; exact rfl; exact rfl; apply wl_val; apply opv_fa; exact fa_Rd1; exact rfl; exact rfl; apply wl_val; apply opv_ldX; exact rfl; exact hs.ar 0 rfl; exact g1_err; exact rfl; exact rfl; refine wl_bin rfl rfl bin_neq rfl ?_; refine wl_ns ?_; apply wc_decT; exact rfl; omega; refine wc_seq ?_
        refine wc_heldG (fun w' => Ar w' g 142 [.slice A' rows.length c', .int .i64 (e : Int)]) 6 mixed ?_
        replace hs := hs.below (Below.refl _ _).drew
        have hS := hs.ar 0 rfl
        apply wm_take 1; exact rfl; intro _ hw_; apply opv_move; exact rfl; exact rfl; kernel_rfl; exact hS; apply wm_take 2; exact rfl; intro _ hw_; apply opv_nilOk; exact rfl; exact rfl; kernel_rfl; exact hS; apply wm_take 3; exact rfl; intro _ hw_; apply opv_fa; exact fa_Rd1; exact rfl; exact rfl; kernel_rfl; exact hS; apply wm_take 4; exact rfl; intro _ hw_; apply opv_ldX; exact rfl; assumption; exact g1_err; exact rfl; exact rfl; kernel_rfl; exact hS
        refine wm_takeP 0 rfl (fun _ => opv_build (vs := []) (cs := pkZ zPk) trivial (by kernel_rfl)) rfl (by kernel_rfl) (fun _ => hS) ?_
        clear hS
        refine wm_one 5 (by kernel_rfl) rfl ?_; dsimp only [List.getElem_toArray, List.getElem_cons_succ, List.getElem_cons_zero]
        apply ws_stS hs 2; exact rfl; exact rfl; exact rfl; exact sPk; exact rfl; exact rfl; clear hs; intro _ hs; dsimp only [setC] at hs; refine wl_nil ?_
        refine we_heldM (fun _ => hs.ar 0 rfl) ?_
        refine wm_one 6 (by kernel_rfl) rfl ?_; dsimp only [List.getElem_toArray, List.getElem_cons_succ, List.getElem_cons_zero]
        refine wl_as rfl rfl ?_; refine wl_nil ?_
        refine we_heldM (fun h => absurd h (by decide)) ?_
        refine wm_done (by kernel_rfl) ?_
        refine we_seq ?_; refine wc_ret ?_; refine we_seq_ret ?_
        exact we_retC1 rfl rfl rfl (hs.ar 2 rfl) sPk ⟨_, rfl, RdRes.no hs rfl⟩
  · rw [if_neg he1]
    apply wc_decT; exact rfl; omega; refine wc_sr ?_
    refine wl_val (opv_build (vs := []) (cs := pkZ zPk) trivial (by kernel_rfl)) rfl ?_
    refine wl_mv rfl rfl ?_; apply ws_stS hs 1; exact rfl; exact rfl; exact rfl; exact sPk; exact rfl; exact rfl; clear hs; intro _ hs; dsimp only [setC] at hs; refine wl_as rfl rfl ?_; refine wl_ns ?_; refine wc_ret ?_; refine we_seq_ret ?_
    exact we_retC1 rfl rfl rfl (hs.ar 1 rfl) sPk ⟨_, rfl, RdRes.no hs rfl⟩
end Go.Proofs.Ytaacnknniaipmaa

/-
  Walks over the client of session and awake of its laws.
-/
namespace Go.Proofs.Ytaacnknniaipmaa
open Go.RowKit

/-- A name's cells. -/
def txW (x : Nat × Nat) : List Value := [.int .u64 (x.1 : Int), .int .u64 (x.2 : Int)]
theorem bin_eqlTw (x y : Nat × Nat) : BinV Try.prog .eql 29 (.agg (txW x).toArray) (.agg (txW y).toArray) (.bool (decide (x = y))) := .mk fun u v w => by
  have hf : Try.prog.underlying 29 = some (.struct (Try.prog.fieldsOf 29)) := by kernel_rfl
  have hp : Try.prog.stoodInHeld 29 = false := by kernel_rfl
  have hg : Try.prog.eqGuardType Try.prog.depth 29 = false := by kernel_rfl
  have h1 := run_eqGuard_agg (P := Try.prog) w .eql 29 u v (txW x).toArray (txW y).toArray hg
  have h2 := run_equalIn_agg (P := Try.prog) w 9999 29 (txW x).toArray (txW y).toArray hf hp
  have h3 := run_eql_struct (P := Try.prog) w 29 (txW x).toArray (txW y).toArray
  have h4 : (Op.eqFields 9999 (txW x).toArray (txW y).toArray (Try.prog.fieldsOf 29).toList).run Try.prog w = .ok (decide (x = y)) w := by
    have e : (Try.prog.fieldsOf 29).toList.map (fun f => (f.name, f.type, f.offset)) = [("Session", 22, 0), ("Seq", 22, 1)] := by kernel_rfl
    obtain ⟨f1, f2, hfs, e1, e2⟩ : ∃ f1 f2 : Field, (Try.prog.fieldsOf 29).toList = [f1, f2] ∧ (f1.name, f1.type, f1.offset) = ("Session", 22, 0) ∧ (f2.name, f2.type, f2.offset) = ("Seq", 22, 1) := by
      generalize (Try.prog.fieldsOf 29).toList = l at e
      match l, e with
      | [f1, f2], e => simp only [List.map_cons, List.map_nil, List.cons.injEq, and_true] at e; exact ⟨f1, f2, rfl, e.1, e.2⟩
      | [], e => simp at e
      | [_], e => simp at e
      | _ :: _ :: _ :: _, e => simp at e
    simp only [Prod.mk.injEq] at e1 e2
    obtain ⟨n1, t1, o1⟩ := e1
    obtain ⟨n2, t2, o2⟩ := e2
    rw [hfs]
    have hi : ∀ a b : Int, (Op.equalIn 9999 22 (.int .u64 a) (.int .u64 b)).run Try.prog w = .ok (a == b) w := fun a b => run_equalIn_int (P := Try.prog) w 9998 22 .u64 .u64 a b Try.underlying22
    have hpt : ∀ (z : Nat × Nat) , (part 22 (txW z).toArray 0).run Try.prog w = .ok (.int .u64 (z.1 : Int)) w ∧ (part 22 (txW z).toArray 1).run Try.prog w = .ok (.int .u64 (z.2 : Int)) w := fun z => by
      obtain ⟨j, hj, hs⟩ : ∃ j, Try.prog.info? 22 = some j ∧ j.size = 1 := by
        have hq : (Try.prog.info? 22).map (·.size) = some 1 := by kernel_rfl
        cases hk : Try.prog.info? 22 with
        | none => rw [hk] at hq; cases hq
        | some j => rw [hk] at hq; exact ⟨j, rfl, by simpa using hq⟩
      constructor <;> simp [part, isAgg, run_underlying Try.underlying22, sizeOf, typeInfo, hj, hs, txW]
    simp only [Op.eqFields, n1, n2, t1, t2, o1, o2]
    simp only [Sem.run_bind, (hpt x).1, (hpt y).1, (hpt x).2, (hpt y).2, Result.andThen_ok, hi, Sem.run_ite, Sem.run_pure]
    by_cases k1 : x.1 = y.1
    · by_cases k2 : x.2 = y.2
      · have : x = y := Prod.ext k1 k2
        simp [this, hi]
      · have : ¬ x = y := fun h => k2 (by rw [h])
        have k2' : ((x.2 : Int) == (y.2 : Int)) = false := by simp; omega
        simp [k1, this, hi, k2']
    · have : ¬ x = y := fun h => k1 (by rw [h])
      have k1' : ((x.1 : Int) == (y.1 : Int)) = false := by simp; omega
      simp [this, hi, k1']
  rw [Sem.run_bind, h1]
  simp only [Result.andThen_ok, h3, h2, h4]
theorem fa_Cl0 : FieldAt Try.prog 98 0 0 := fieldAt_mk Try.underlying98 rfl rfl (by kernel_rfl)
theorem fa_Cl1 : FieldAt Try.prog 98 1 1 := fieldAt_mk Try.underlying98 rfl rfl (by kernel_rfl)
theorem fa_Cl2 : FieldAt Try.prog 98 2 2 := fieldAt_mk Try.underlying98 rfl rfl (by kernel_rfl)
theorem fa_Cl3 : FieldAt Try.prog 98 3 3 := fieldAt_mk Try.underlying98 rfl rfl (by kernel_rfl)
/-- A client. -/
def clV (ses seq : Nat) (A : Option Addr) (n c : Nat) (busy : Bool) (R : Option Addr) (m d : Nat) : List Value := [.int .u64 (ses : Int), .int .u64 (seq : Int), .slice A n c, .bool busy, .slice R m d]
theorem zeroTx : (Try.prog.info? 29).map (·.zero) = some (some (.agg (txW (0, 0)).toArray)) := by kernel_rfl
theorem cnew_any (s : Nat) (w : World) : CallsV Try.prog 8 #[.int .u64 (s : Int)] w fun v w' => ∃ g, v = .pointer (some ⟨g, 0, none⟩) ∧ St NoB w w' [.blk g 98 (clV s 0 none 0 0 false none 0 0)] := by
  have hs := St.init w
  refine calls_in (N := _) Try.func8 rfl Try.ntmps8 rfl ?_; show WC _ _ _ _ _ _
  refine wc_sr ?_; refine wl_as rfl rfl ?_; refine wl_ns ?_; refine wc_sr ?_; refine wl_mv rfl rfl ?_
  refine wl_val (opv_build (vs := [(0, .int .u64 (s : Int))]) (cs := clV s 0 none 0 0 false none 0 0) ⟨rfl, rfl, trivial⟩ (by kernel_rfl)) rfl ?_
  refine ws_box (cs := clV s 0 none 0 0 false none 0 0) hs rfl rfl ?_; clear hs; intro g1 _ hs
  refine wl_as rfl rfl ?_; refine wl_ns ?_; refine wc_ret ?_
  exact we_ret1 rfl rfl ⟨_, rfl, g1, rfl, hs⟩
theorem ctxn_any {g ses seq n c m d : Nat} {A R : Option Addr} {busy : Bool} {w : World} (ha : Ar w g 98 (clV ses seq A n c busy R m d)) :
    CallsV Try.prog 30 #[.pointer (some ⟨g, 0, none⟩)] w fun v w' => v = .agg (txW (ses, seq)).toArray ∧ Below w.heap.size w w' := by
  have hs := St.init w
  unfold clV at ha
  refine calls_in (N := _) Try.func30 rfl Try.ntmps30 rfl ?_; show WC _ _ _ _ _ _
  refine wc_sr ?_
  refine ws_new hs zeroTx rfl ?_; clear hs; intro g2 _ hs
  unfold txW at hs
  refine wl_ns ?_; refine wc_seq ?_
  have ha2 := ha.bel hs.bel
  refine wc_heldG (fun w' => Ar w' g 98 [.int .u64 (ses : Int), .int .u64 (seq : Int), .slice A n c, .bool busy, .slice R m d]) 9 mixed ?_
  replace hs := hs.below (Below.refl _ _).drew
  have hS := ha2.bel (Below.refl _ _).drew
  apply wm_take 0; exact rfl; intro _ hw_; apply opv_move; exact rfl; exact rfl; kernel_rfl; exact hS; apply wm_take 1; exact rfl; intro _ hw_; apply opv_nilOk; exact rfl; exact rfl; kernel_rfl; exact hS; apply wm_take 2; exact rfl; intro _ hw_; apply opv_fa; exact fa_Cl0; exact rfl; exact rfl; kernel_rfl; exact hS; apply wm_take 3; exact rfl; intro _ hw_; apply opv_ldX; exact rfl; assumption; exact g1_u64; exact rfl; exact rfl; kernel_rfl; exact hS; apply wm_take 4; exact rfl; intro _ hw_; apply opv_move; exact rfl; exact rfl; kernel_rfl; exact hS; apply wm_take 5; exact rfl; intro _ hw_; apply opv_nilOk; exact rfl; exact rfl; kernel_rfl; exact hS; apply wm_take 6; exact rfl; intro _ hw_; apply opv_fa; exact fa_Cl1; exact rfl; exact rfl; kernel_rfl; exact hS; apply wm_take 7; exact rfl; intro _ hw_; apply opv_ldX; exact rfl; assumption; exact g1_u64; exact rfl; exact rfl; kernel_rfl; exact hS
  refine wm_takeP 8 rfl (fun _ => opv_build (vs := [(0, .int .u64 (ses : Int)), (1, .int .u64 (seq : Int))]) (cs := txW (ses, seq)) ⟨rfl, rfl, rfl, rfl, trivial⟩ (by kernel_rfl)) rfl (by kernel_rfl) (fun _ => hS) ?_
  clear hS
  refine wm_one 9 (by kernel_rfl) rfl ?_; dsimp only [List.getElem_toArray, List.getElem_cons_succ, List.getElem_cons_zero]
  apply ws_stS hs 0; exact rfl; exact rfl; exact rfl; exact sTxn; exact rfl; exact rfl; clear hs; intro _ hs; dsimp only [setC] at hs; refine wl_nil ?_
  refine we_heldM (fun h => absurd h (by decide)) ?_
  refine wm_done (by kernel_rfl) ?_
  refine we_seq ?_; refine wc_ret ?_
  exact we_retC rfl rfl (hs.ar 0 rfl) sTxn ⟨_, rfl, rfl, hs.bel⟩
theorem enc0_any (w : World) : CallsV Try.prog 11 #[.slice none 0 0] w (RetW w []) := by
  have hs := St.init w
  refine calls_in (N := _) Try.func11 rfl Try.ntmps11 rfl ?_; show WC _ _ _ _ _ _
  refine wc_sr ?_; refine wl_as rfl rfl ?_; refine wl_ns ?_; refine wc_sr ?_; refine wl_as rfl rfl ?_; refine wl_ns ?_; refine wc_seq ?_; refine wc_sr ?_; refine wl_mv rfl rfl ?_; apply wl_val; apply opv_len; exact rfl; exact Try.underlying48; exact rfl; refine wl_mv rfl rfl ?_; refine wl_ns ?_; refine wc_block ?_
  refine wc_loop (fun L wr mm => L = [(3, .slice none 0 0), (6, .slice none 0 0), (7, .int .i64 ((0 : Nat) : Int)), (8, .int .i64 ((0 : Nat) : Int))] ∧ St NoB w wr [] ∧ mm = 0) [(3, .slice none 0 0), (6, .slice none 0 0), (7, .int .i64 ((0 : Nat) : Int)), (8, .int .i64 ((0 : Nat) : Int))] 0 ⟨rfl, hs, rfl⟩ ⟨rfl, rfl, rfl, rfl, trivial⟩ ?_
  rintro _ w1 _ ⟨rfl, hs, rfl⟩
  refine wc_sr ?_; refine wl_bin rfl rfl bin_lss rfl ?_; refine wl_ns ?_; refine wc_seq ?_; apply wc_condFb; exact rfl; exact rfl; refine wc_exit ?_; refine we_seq_exit ?_; refine we_loop_exit ?_; refine we_block_exit ?_; refine we_seq ?_; refine wc_sr ?_; refine wl_mv rfl rfl ?_
  refine wl_call ok_codec_Frame (frame_any (rows := []) (A := none) (n := 0) (c := 0) ⟨[], Rd.nil _ _, fun i r h => by simp at h⟩ rfl (by simp)) ⟨rfl, trivial⟩ rfl ?_
  rintro _ _ ⟨B, cb, rfl, o_, hbx⟩
  replace hs := hs.newO hbx o_ (Nat.le_refl _)
  refine wl_as rfl rfl ?_; refine wl_ns ?_; refine wc_ret ?_
  exact we_ret1 rfl rfl ⟨_, rfl, B, cb, rfl, hs⟩
section
variable {g ses seq n c m d k q : Nat} {A R O : Option Addr} {S : BS} {w : World} {enc : By}
theorem cask_busy (h0 : Sat w [.blk g 98 (clV ses seq A n c true R m d)] S) :
    CallsV Try.prog 9 #[.pointer (some ⟨g, 0, none⟩), .slice O k q] w fun v w' => v = .tuple #[.agg (txW (0, 0)).toArray, .int .i64 12] ∧ St S w w' [.blk g 98 (clV ses seq A n c true R m d)] := by
  have hs := St.start h0
  unfold clV at hs
  refine calls_in (N := _) Try.func9 rfl Try.ntmps9 rfl ?_; show WC _ _ _ _ _ _
  refine wc_sr ?_
  refine ws_new hs zeroTx rfl ?_; clear hs; intro g4 _ hs
  refine wl_as rfl rfl ?_; refine wl_ns ?_; refine wc_seq ?_; refine wc_sr ?_; refine wl_mv rfl rfl ?_; apply wl_val; apply opv_nilOk; exact rfl; exact rfl; apply wl_val; apply opv_fa; exact fa_Cl3; exact rfl; exact rfl; apply wl_val; apply opv_ldX; exact rfl; exact hs.ar 1 rfl; exact g1_bool; exact rfl; exact rfl; refine wl_ns ?_; apply wc_condTb; exact rfl; exact rfl; refine wc_sr ?_
  refine wl_val (opv_build (vs := []) (cs := txW (0, 0)) trivial (by kernel_rfl)) rfl ?_
  apply ws_stS hs 0; exact rfl; exact rfl; exact rfl; exact sTxn; exact rfl; exact rfl; clear hs; intro _ hs; dsimp only [setC] at hs; refine wl_as rfl rfl ?_; refine wl_ns ?_; refine wc_ret ?_; refine we_seq_ret ?_
  exact we_retC1 rfl rfl rfl (hs.ar 0 rfl) sTxn ⟨_, rfl, rfl, hs.drop 0 rfl⟩
theorem cask_any (h0 : Sat w [.blk g 98 (clV ses seq A n c false R m d)] S) (henc : ∀ w', Mod S w w' → CallsV Try.prog 11 #[.slice O k q] w' (RetW w' enc)) (hq : seq + 1 < 2 ^ 64) (hl : enc.length ≤ 1099511627776) :
    CallsV Try.prog 9 #[.pointer (some ⟨g, 0, none⟩), .slice O k q] w fun v w' =>
      (8000 < enc.length ∧ v = .tuple #[.agg (txW (0, 0)).toArray, .int .i64 2] ∧ St S w w' [.blk g 98 (clV ses seq A n c false R m d)]) ∨
      (enc.length ≤ 8000 ∧ v = .tuple #[.agg (txW (ses, seq + 1)).toArray, .int .i64 0] ∧ ∃ (B : Option Addr) (cb : Nat), St S w w' [.blk g 98 (clV ses (seq + 1) B enc.length cb true R m d), .ow 5 B enc.length cb (bvs enc)]) := by
  have hs := St.start h0
  unfold clV at hs
  refine calls_in (N := _) Try.func9 rfl Try.ntmps9 rfl ?_; show WC _ _ _ _ _ _
  refine wc_sr ?_
  refine ws_new hs zeroTx rfl ?_; clear hs; intro g4 _ hs
  refine wl_as rfl rfl ?_; refine wl_ns ?_; refine wc_seq ?_; refine wc_sr ?_; refine wl_mv rfl rfl ?_; apply wl_val; apply opv_nilOk; exact rfl; exact rfl; apply wl_val; apply opv_fa; exact fa_Cl3; exact rfl; exact rfl; apply wl_val; apply opv_ldX; exact rfl; exact hs.ar 1 rfl; exact g1_bool; exact rfl; exact rfl; refine wl_ns ?_; apply wc_condFb; exact rfl; exact rfl; refine wc_skip ?_; refine we_seq ?_; refine wc_sr ?_; refine wl_mv rfl rfl ?_
  refine wl_call ok_plan_Encode (henc _ hs.1) ⟨rfl, trivial⟩ rfl ?_
  rintro _ _ ⟨B, cb, rfl, hsx⟩
  replace hs := hs.call hsx
  clear hsx
  dsimp only [List.cons_append, List.nil_append] at hs
  refine wl_as rfl rfl ?_; refine wl_ns ?_; refine wc_seq ?_; refine wc_sr ?_; refine wl_mv rfl rfl ?_; apply wl_val; apply opv_len; exact rfl; exact tyB.sl; exact rfl; refine wl_bin rfl rfl bin_gtr rfl ?_; refine wl_ns ?_
  by_cases h8 : 8000 < enc.length
  · have h8' : (8000 : Int) < (enc.length : Int) := by omega
    apply wc_decT; exact rfl; (with_reducible assumption); refine wc_sr ?_
    refine wl_val (opv_build (vs := []) (cs := txW (0, 0)) trivial (by kernel_rfl)) rfl ?_
    apply ws_stS hs 1; exact rfl; exact rfl; exact rfl; exact sTxn; exact rfl; exact rfl; clear hs; intro _ hs; dsimp only [setC] at hs; refine wl_as rfl rfl ?_; refine wl_ns ?_; refine wc_ret ?_; refine we_seq_ret ?_
    exact we_retC1 rfl rfl rfl (hs.ar 1 rfl) sTxn ⟨_, rfl, .inl ⟨h8, rfl, (hs.drop 0 rfl).drop 0 rfl⟩⟩
  · have h8' : ¬ (8000 : Int) < (enc.length : Int) := by omega
    have hw : IntKind.u64.wrap ((seq : Int) + 1) = ((seq + 1 : Nat) : Int) := by rw [IntWalk.u64_in _ (by omega)]; omega
    apply wc_decF; exact rfl; (with_reducible assumption); refine wc_skip ?_; refine we_seq ?_; refine wc_sr ?_; refine wl_mv rfl rfl ?_; apply wl_val; apply opv_nilOk; exact rfl; exact rfl; apply wl_val; apply opv_fa; exact fa_Cl1; exact rfl; exact rfl; apply wl_val; apply opv_ldX; exact rfl; exact hs.ar 2 rfl; exact g1_u64; exact rfl; exact rfl
    refine wl_bin rfl rfl (bin_add.to (congrArg (Value.int .u64) hw)) rfl ?_
    apply wl_val; apply opv_nilOk; exact rfl; exact rfl; apply wl_val; apply opv_fa; exact fa_Cl1; exact rfl; exact rfl; apply ws_st hs 2; exact rfl; exact rfl; exact g1_u64; exact rfl; exact rfl; exact rfl; clear hs; intro _ hs; dsimp only [setC, List.set] at hs; refine wl_ns ?_; refine wc_sr ?_; refine wl_mv rfl rfl ?_; refine wl_mv rfl rfl ?_; refine wl_mv rfl rfl ?_; apply wl_val; apply opv_nilOk; exact rfl; exact rfl; apply wl_val; apply opv_fa; exact fa_Cl3; exact rfl; exact rfl; apply ws_st hs 2; exact rfl; exact rfl; exact g1_bool; exact rfl; exact rfl; exact rfl; clear hs; intro _ hs; dsimp only [setC, List.set] at hs; apply wl_val; apply opv_nilOk; exact rfl; exact rfl; apply wl_val; apply opv_fa; exact fa_Cl2; exact rfl; exact rfl; apply ws_st hs 2; exact rfl; exact rfl; exact g1_by; exact rfl; exact rfl; exact rfl; clear hs; intro _ hs; dsimp only [setC, List.set] at hs; refine wl_ns ?_; refine wc_sr ?_; refine wl_mv rfl rfl ?_
    refine wl_call ok_session_Client_txn (ctxn_any (ses := ses) (seq := seq + 1) (A := B) (n := enc.length) (c := cb) (R := R) (m := m) (d := d) (busy := true) (hs.ar 2 rfl)) ⟨rfl, trivial⟩ rfl ?_
    rintro _ _ ⟨rfl, hbx⟩
    replace hs := hs.below hbx
    clear hbx
    unfold txW at hs
    apply ws_stS hs 1; exact rfl; exact rfl; exact rfl; exact sTxn; exact rfl; exact rfl; clear hs; intro _ hs; dsimp only [setC] at hs; refine wl_as rfl rfl ?_; refine wl_ns ?_; refine wc_ret ?_
    exact we_retC1 rfl rfl rfl (hs.ar 1 rfl) sTxn ⟨_, rfl, .inr ⟨by omega, rfl, B, cb, (hs.drop 1 rfl).front 1 rfl⟩⟩
theorem ccall_any {req : By} {to : Int} (ha : Ar w g 98 (clV ses seq A req.length c true R m d)) (hr : RdB w A req) (hl : req.length ≤ 8000) :
    CallsV Try.prog 12 #[.pointer (some ⟨g, 0, none⟩), .int .i64 to] w fun v w' => ∃ (D : Option Addr) (cd : Nat), v = .tuple #[.agg (pkV ⟨4, 0, to, 0, 0, 0, 0, (ses, seq), 0, zMsg, zRes, req⟩ (msV zMsg none 0 none 0) (reV zRes none 0 none 0 none 0) D cd).toArray, .bool true] ∧ St NoB w w' [.ow 5 D req.length cd (bvs req)] := by
  have hs := St.init w
  unfold clV at ha
  refine calls_in (N := _) Try.func12 rfl Try.ntmps12 rfl ?_; show WC _ _ _ _ _ _
  refine wc_sr ?_
  refine ws_new hs zeroPk rfl ?_; clear hs; intro g4 _ hs
  unfold pkZ zPk at hs
  dsimp only at hs
  have ha2 := ha.bel hs.bel
  refine wl_as rfl rfl ?_; refine wl_ns ?_; refine wc_seq ?_; refine wc_sr ?_; refine wl_mv rfl rfl ?_; apply wl_val; apply opv_nilOk; exact rfl; exact rfl; apply wl_val; apply opv_fa; exact fa_Cl3; exact rfl; exact rfl; apply wl_val; apply opv_ldX; exact rfl; assumption; exact g1_bool; exact rfl; exact rfl; apply wl_val; apply opv_not; exact rfl; exact rfl; refine wl_ns ?_; apply wc_condFb; exact rfl; exact Bool.not_true; refine wc_skip ?_; refine we_seq ?_; refine wc_seq ?_
  refine wc_heldG (fun w' => Ar w' g 98 [.int .u64 (ses : Int), .int .u64 (seq : Int), .slice A req.length c, .bool true, .slice R m d]) 9 mixed ?_
  replace hs := hs.below (Below.refl _ _).drew
  have hS := ha.bel hs.bel
  apply wm_take 0; exact rfl; intro _ hw_; apply opv_move; exact rfl; exact rfl; kernel_rfl; exact hS; apply wm_take 1; exact rfl; intro _ hw_; apply opv_move; exact rfl; exact rfl; kernel_rfl; exact hS; apply wm_take 3; exact rfl; intro _ hw_; apply opv_move; exact rfl; exact rfl; kernel_rfl; exact hS; apply wm_take 4; exact rfl; intro _ hw_; apply opv_nilOk; exact rfl; exact rfl; kernel_rfl; exact hS; apply wm_take 5; exact rfl; intro _ hw_; apply opv_fa; exact fa_Cl2; exact rfl; exact rfl; kernel_rfl; exact hS; apply wm_take 6; exact rfl; intro _ hw_; apply opv_ldX; exact rfl; assumption; exact g1_by; exact rfl; exact rfl; kernel_rfl; exact hS
  clear hS
  refine wm_one 2 (by kernel_rfl) rfl ?_; dsimp only [List.getElem_toArray, List.getElem_cons_succ, List.getElem_cons_zero]
  refine wl_call ok_session_Client_txn (ctxn_any (ses := ses) (seq := seq) (A := A) (n := req.length) (c := c) (R := R) (m := m) (d := d) (busy := true) (ha.bel hs.bel)) ⟨rfl, trivial⟩ rfl ?_
  rintro _ _ ⟨rfl, hbx⟩
  replace hs := hs.below hbx
  clear hbx
  refine wl_nil ?_
  refine we_heldM (fun _ => ha.bel hs.bel) ?_
  refine wm_one 7 (by kernel_rfl) rfl ?_; dsimp only [List.getElem_toArray, List.getElem_cons_succ, List.getElem_cons_zero]
  refine wl_call ok_bytes_Clone (clone_any (hr.below hs.bel) rfl (by omega)) ⟨rfl, trivial⟩ rfl ?_
  rintro _ _ ⟨D, cd, rfl, o_, hbx⟩
  replace hs := hs.newO hbx o_ (Nat.le_refl _)
  clear hbx o_
  refine wl_nil ?_
  refine we_heldM (fun _ => ha.bel hs.bel) ?_
  refine wm_one 8 (by kernel_rfl) rfl ?_; dsimp only [List.getElem_toArray, List.getElem_cons_succ, List.getElem_cons_zero]
  refine wl_val (opv_build (vs := [(0, .int .i64 4), (2, .int .i64 to), (7, .agg (txW (ses, seq)).toArray), (11, .slice D req.length cd)]) (cs := pkV ⟨4, 0, to, 0, 0, 0, 0, (ses, seq), 0, zMsg, zRes, req⟩ (msV zMsg none 0 none 0) (reV zRes none 0 none 0 none 0) D cd) ⟨rfl, rfl, rfl, rfl, rfl, rfl, rfl, rfl, trivial⟩ (by kernel_rfl)) rfl ?_
  refine wl_nil ?_
  refine we_heldM (fun _ => ha.bel hs.bel) ?_
  refine wm_one 9 (by kernel_rfl) rfl ?_; dsimp only [List.getElem_toArray, List.getElem_cons_succ, List.getElem_cons_zero]
  apply ws_stS hs 1; exact rfl; exact rfl; exact rfl; exact sPk; exact rfl; exact rfl; clear hs; intro _ hs; dsimp only [setC] at hs; refine wl_nil ?_
  refine we_heldM (fun h => absurd h (by decide)) ?_
  refine wm_one 10 (by kernel_rfl) rfl ?_; dsimp only [List.getElem_toArray, List.getElem_cons_succ, List.getElem_cons_zero]
  refine wl_as rfl rfl ?_; refine wl_nil ?_
  refine we_heldM (fun h => absurd h (by decide)) ?_
  refine wm_done (by kernel_rfl) ?_
  refine we_seq ?_; refine wc_ret ?_
  exact we_retC1 rfl rfl rfl (hs.ar 1 rfl) sPk ⟨_, rfl, D, cd, rfl, hs.drop 1 rfl⟩
end
set_option maxRecDepth 8000 in
theorem awake24_any (w : World) : CallsV Try.prog 7 #[] w fun v w' => v = .bool true ∧ Below w.heap.size w w' := by
  have hs := St.init w
  refine calls_in (N := _) Try.func7 rfl Try.ntmps7 rfl ?_; show WC _ _ _ _ _ _
  refine wc_sr ?_; refine wl_as rfl rfl ?_; refine wl_ns ?_; refine wc_sr ?_
  refine wl_call ok_session_New (cnew_any 7 w) ⟨rfl, trivial⟩ rfl ?_
  rintro _ _ ⟨g, rfl, hsx⟩
  replace hs := hs.call hsx
  clear hsx
  dsimp only [List.cons_append, List.nil_append] at hs
  refine wl_as rfl rfl ?_; refine wl_ns ?_; refine wc_seq ?_; refine wc_sr ?_; refine wl_mv rfl rfl ?_; apply wl_val; apply opv_bin; exact rfl; exact rfl; exact bin_eqlPtrNil Try.underlying25; exact rfl; refine wl_ns ?_; apply wc_condFb; exact rfl; exact rfl; refine wc_skip ?_; refine we_seq ?_; refine wc_sr ?_; refine wl_mv rfl rfl ?_
  obtain ⟨S2, hS2, hB2, hM2, hH2, hB⟩ := St.lend (H1 := [_]) (H2 := []) hs
  refine wl_call ok_session_Client_Ask (cask_any hS2 (enc := []) (fun w' _ => enc0_any w') (by decide) (by simp)) ⟨rfl, rfl, trivial⟩ rfl ?_
  rintro _ _ hcase
  rcases hcase with ⟨h8, _⟩ | ⟨_, rfl, B, cb, hsx⟩
  · simp at h8
  replace hs := hB _ _ hsx
  clear hsx hB hH2 hM2 hB2 hS2
  dsimp only [List.cons_append, List.nil_append] at hs
  refine wl_mv rfl rfl ?_; apply wl_val; apply opv_extract; exact rfl; exact rfl; exact rfl; apply wl_val; apply opv_extract; exact rfl; exact rfl; exact rfl
  refine ws_var (cs := txW (7, 1)) hs zeroTx sTxn rfl (fun _ => rfl) (by first | rfl | simp [Value.oneCell']) rfl ?_; clear hs; intro g2 _ hs
  replace hs := hs.front 1 rfl
  dsimp only [delC] at hs
  refine wl_as rfl rfl ?_; refine wl_ns ?_; refine wc_sr ?_; refine wl_mv rfl rfl ?_
  obtain ⟨S2, hS2, hB2, hM2, hH2, hB⟩ := St.lend (H1 := [_]) (H2 := [_, _]) hs
  refine wl_call ok_session_Client_Ask (cask_busy hS2) ⟨rfl, rfl, trivial⟩ rfl ?_
  rintro _ _ ⟨rfl, hsx⟩
  replace hs := hB _ _ hsx
  clear hsx hB hH2 hM2 hB2 hS2
  dsimp only [List.cons_append, List.nil_append] at hs
  refine wl_mv rfl rfl ?_; apply wl_val; apply opv_extract; exact rfl; exact rfl; exact rfl; apply wl_val; apply opv_extract; exact rfl; exact rfl; exact rfl
  refine ws_var (cs := txW (0, 0)) hs zeroTx sTxn rfl (fun _ => rfl) (by first | rfl | simp [Value.oneCell']) rfl ?_; clear hs; intro g4 _ hs
  refine wl_as rfl rfl ?_; refine wl_ns ?_; refine wc_sr ?_; refine wl_mv rfl rfl ?_
  refine wl_call ok_session_Client_Call (ccall_any (hs.ar 1 rfl) (hs.ow 3 rfl).rd (by simp)) ⟨rfl, rfl, trivial⟩ rfl ?_
  rintro _ _ ⟨D, cd, rfl, hsx⟩
  replace hs := hs.call hsx
  clear hsx
  dsimp only [List.cons_append, List.nil_append] at hs
  replace hs := hs.front 3 rfl
  dsimp only [delC] at hs
  refine wl_mv rfl rfl ?_; apply wl_val; apply opv_extract; exact rfl; exact rfl; exact rfl; apply wl_val; apply opv_extract; exact rfl; exact rfl; exact rfl
  refine ws_var (cs := pkV ⟨4, 0, 2, 0, 0, 0, 0, (7, 1), 0, zMsg, zRes, []⟩ (msV zMsg none 0 none 0) (reV zRes none 0 none 0 none 0) D cd) hs zeroPk sPk rfl (fun _ => rfl) (by first | rfl | simp [Value.oneCell']) rfl ?_; clear hs; intro g6 _ hs
  unfold pkV msV reV zMsg zRes at hs
  dsimp only [List.cons_append, List.nil_append] at hs
  refine wl_as rfl rfl ?_; refine wl_ns ?_; refine wc_sr ?_; refine wl_mv rfl rfl ?_; refine wl_bin rfl rfl bin_eql rfl ?_; refine wl_mv rfl rfl ?_; apply wl_take; exact rfl; exact rfl; exact rfl; refine bT ?_; (with_reducible rfl); refine wl_mv rfl rfl ?_; apply wl_take; exact rfl; exact rfl; exact rfl; refine bT ?_; (with_reducible rfl); refine wl_bin rfl rfl bin_eql rfl ?_; apply wl_val; apply opv_pickT; exact rfl; refine bT ?_; (with_reducible rfl); exact rfl; exact rfl; refine wl_mv rfl rfl ?_; apply wl_take; exact rfl; exact rfl; exact rfl; refine bT ?_; (with_reducible rfl); apply wl_val; apply opv_loadX; exact rfl; exact hs.ar 1 rfl; exact sTxn; exact rfl; apply wl_take; exact rfl; exact rfl; exact rfl; refine bT ?_; (with_reducible rfl)
  refine wl_val (opv_build (vs := [(0, .int .u64 7), (1, .int .u64 1)]) (cs := txW (7, 1)) ⟨rfl, rfl, rfl, rfl, trivial⟩ (by kernel_rfl)) rfl ?_
  apply wl_take; exact rfl; exact rfl; exact rfl; refine bT ?_; (with_reducible rfl); apply wl_val; apply opv_bin; exact rfl; exact rfl; exact (bin_eqlTw _ _); exact rfl; apply wl_val; apply opv_pickT; exact rfl; refine bT ?_; (with_reducible rfl); exact rfl; exact rfl; refine wl_mv rfl rfl ?_; apply wl_take; exact rfl; exact rfl; exact rfl; refine bT ?_; (with_reducible rfl); refine wl_mv rfl rfl ?_; apply wl_val; apply opv_pickT; exact rfl; refine bT ?_; (with_reducible rfl); exact rfl; exact rfl; refine wl_mv rfl rfl ?_; apply wl_take; exact rfl; exact rfl; exact rfl; exact rfl; apply wl_val; apply opv_fa; exact fa_Pk0; exact rfl; exact rfl; apply wl_take; exact rfl; exact rfl; exact rfl; exact rfl; apply wl_val; apply opv_ldX; exact rfl; exact hs.ar 0 rfl; exact g1_int; exact rfl; exact rfl; apply wl_take; exact rfl; exact rfl; exact rfl; exact rfl; refine wl_bin rfl rfl bin_eql rfl ?_; apply wl_val; apply opv_pickT; exact rfl; exact rfl; exact rfl; exact rfl; refine wl_mv rfl rfl ?_; apply wl_take; exact rfl; exact rfl; exact rfl; refine bT ?_; (with_reducible rfl); apply wl_val; apply opv_fa; exact fa_Pk2; exact rfl; exact rfl; apply wl_take; exact rfl; exact rfl; exact rfl; refine bT ?_; (with_reducible rfl); apply wl_val; apply opv_ldX; exact rfl; exact hs.ar 0 rfl; exact g1_int; exact rfl; exact rfl; apply wl_take; exact rfl; exact rfl; exact rfl; refine bT ?_; (with_reducible rfl); refine wl_bin rfl rfl bin_eql rfl ?_; apply wl_val; apply opv_pickT; exact rfl; refine bT ?_; (with_reducible rfl); exact rfl; exact rfl; refine wl_mv rfl rfl ?_; apply wl_take; exact rfl; exact rfl; exact rfl; refine bT ?_; (with_reducible rfl); apply wl_val; apply opv_fa; exact fa_Pk7; exact rfl; exact rfl; apply wl_take; exact rfl; exact rfl; exact rfl; refine bT ?_; (with_reducible rfl)
  refine wl_val (opv_ldG (cs := txW (7, 1)) rfl (ar_wiP (hs.ar 0 rfl) 7 (txW (7, 1)) (fun j u hu => by
    match j, hu with
    | 0, hu => exact hu
    | 1, hu => exact hu)) sTxn) rfl ?_
  apply wl_take; exact rfl; exact rfl; exact rfl; refine bT ?_; (with_reducible rfl); apply wl_val; apply opv_loadX; exact rfl; exact hs.ar 1 rfl; exact sTxn; exact rfl; apply wl_take; exact rfl; exact rfl; exact rfl; refine bT ?_; (with_reducible rfl); apply wl_val; apply opv_bin; exact rfl; exact rfl; exact (bin_eqlTw _ _); exact rfl; apply wl_val; apply opv_pickT; exact rfl; refine bT ?_; (with_reducible rfl); exact rfl; exact rfl; refine wl_as rfl rfl ?_; refine wl_ns ?_; refine wc_ret ?_
  exact we_ret1 rfl rfl ⟨_, rfl, rfl, hs.bel⟩
end Go.Proofs.Ytaacnknniaipmaa

/-
  Walks over the packet that a law makes out of plain data.
-/
namespace Go.Proofs.Ytaacnknniaipmaa
open Go.RowKit

structure NoteM where
  kind : Int
  fr : Int
  to : Int
  term : Nat
  ix : Nat
  lt : Nat
  cm : Nat
  terms : List Nat
  ok : Bool
structure FormM where
  kind : Int
  fr : Int
  to : Int
  shard : Int
  round : Int
  cmd : Int
  lead : Int
  code : Int
  tx : Nat × Nat
  note : NoteM
  err : Int
  status : Int
  ts : Nat
  pairs : List PairM
  rtx : Nat × Nat
  commit : Bool
  rts : Nat
  writes : List WrM
  reply : By
  data : By
def noV (n : NoteM) (T : Option Addr) (ct : Nat) : List Value := [.int .i64 n.kind, .int .i64 n.fr, .int .i64 n.to, .int .u64 (n.term : Int), .int .u64 (n.ix : Int), .int .u64 (n.lt : Int), .int .u64 (n.cm : Int), .slice T n.terms.length ct, .bool n.ok]
def fmV (f : FormM) (nv : List Value) (P : Option Addr) (cp : Nat) (W : Option Addr) (cw : Nat) (Y : Option Addr) (cy : Nat) (D : Option Addr) (cd : Nat) : List Value :=
  [.int .i64 f.kind, .int .i64 f.fr, .int .i64 f.to, .int .i64 f.shard, .int .i64 f.round, .int .i64 f.cmd, .int .i64 f.lead, .int .i64 f.code, .int .u64 (f.tx.1 : Int), .int .u64 (f.tx.2 : Int)] ++ (nv ++
  [.int .i64 f.err, .int .i64 f.status, .int .u64 (f.ts : Int), .slice P f.pairs.length cp, .int .u64 (f.rtx.1 : Int), .int .u64 (f.rtx.2 : Int), .bool f.commit, .int .u64 (f.rts : Int), .slice W f.writes.length cw, .slice Y f.reply.length cy, .slice D f.data.length cd])
section
variable {P : Program} {N : Nat} {ops : Array Oper} {Q : Exit → Act → World → Prop} {rest : List Oper} {L : FL} {w0 w : World} {M : BS} {H : List Cd} {t e : TypeId} {z : Value} {bytes k : Nat} {cs : List Value}
end
end Go.Proofs.Ytaacnknniaipmaa

/-
  The walk over the packet that a law makes out of a form.
-/
namespace Go.Proofs.Ytaacnknniaipmaa
open Go.RowKit

end Go.Proofs.Ytaacnknniaipmaa

/-
  Plain laws of bursts: bits that are turned within 32 of one another are seen by the sum, in a record too. No program in sight.
-/
namespace Go.Proofs.Ytaacnknniaipmaa

end Go.Proofs.Ytaacnknniaipmaa

/-
  Walk over the law SessionBursts.
-/
namespace Go.Proofs.Ytaacnknniaipmaa
open Go.RowKit

/-- What is known of a form's memory. -/
structure FmR (w : World) (f : FormM) (T P W Y : Option Addr) (cy : Nat) (D : Option Addr) (cd : Nat) : Prop where
  rT : Rd w T f.note.terms.length (wVs f.note.terms)
  rP : RdR 2 w All P (f.pairs.map prEl)
  rW : RdR 3 w All W (f.writes.map wrEl)
  rY : RdB w Y f.reply
  rD : RdB w D f.data
  cD : f.data.length ≤ cd
end Go.Proofs.Ytaacnknniaipmaa

/-
  Forms as arguments of a law.
-/
namespace Go.Proofs.Ytaacnknniaipmaa
open Go.RowKit Go.ChangeShapes Go.WideShapes Go.ChangeAt Go.Deep

def uEl (n : Nat) : El := vEl (.int .u64 (n : Int))
theorem flat_u : ∀ l : List Nat, (l.map fun (n : Nat) => [Value.int .u64 (n : Int)]).flatten = wVs l
  | [] => rfl
  | a :: l => by rw [List.map_cons, List.flatten_cons, flat_u l]; rfl
theorem u64s_rd {w : World} {S : BS} {A : Option Addr} {l : List Nat} (h : RdR 1 w S A (l.map uEl)) : Rd w A l.length (wVs l) := by
  obtain ⟨css, hg, hr, _⟩ := h
  rw [List.length_map, Nat.mul_one] at hr
  have e : css.flatten = wVs l := by
    have h1 := hg.1
    rw [List.length_map] at h1
    have h2 : css = l.map fun (n : Nat) => [Value.int .u64 (n : Int)] := by
      refine List.ext_getElem? fun i => ?_
      rw [List.getElem?_map]
      rcases Nat.lt_or_ge i l.length with hlt | hge
      · rw [List.getElem?_eq_getElem (show i < css.length by omega), List.getElem?_eq_getElem hlt]
        obtain ⟨_, E, h3, h4⟩ := hg.2 i _ (List.getElem?_eq_getElem (show i < css.length by omega))
        rw [List.getElem?_map, List.getElem?_eq_getElem hlt] at h3
        simp only [Option.map_some, Option.some.injEq] at h3
        subst h3
        have h5 : css[i] = [Value.int .u64 (l[i] : Int)] := h4
        rw [h5]; rfl
      · rw [List.getElem?_eq_none (by omega), List.getElem?_eq_none hge]; rfl
    rw [h2, flat_u]
  rw [← e]; exact hr
def fmEl (f : FormM) : El where
  P w S cs := ∃ (T : Option Addr) (ct : Nat) (P : Option Addr) (cp : Nat) (W : Option Addr) (cw : Nat) (Y : Option Addr) (cy : Nat) (D : Option Addr) (cd : Nat), cs = fmV f (noV f.note T ct) P cp W cw Y cy D cd ∧ (rowEl 1 (f.note.terms.map uEl)).P w S [.slice T f.note.terms.length ct] ∧ (rowEl 2 (f.pairs.map prEl)).P w S [.slice P f.pairs.length cp] ∧ (rowEl 3 (f.writes.map wrEl)).P w S [.slice W f.writes.length cw] ∧ (byEl f.reply).P w S [.slice Y f.reply.length cy] ∧ (byEl f.data).P w S [.slice D f.data.length cd]
  move := by rintro w w' S S' cs ⟨T, ct, P, cp, W, cw, Y, cy, D, cd, h, h1, h2, h3, h4, h5⟩ hz hm; exact ⟨T, ct, P, cp, W, cw, Y, cy, D, cd, h, El.move _ h1 hz hm, El.move _ h2 hz hm, El.move _ h3 hz hm, El.move _ h4 hz hm, El.move _ h5 hz hm⟩
end Go.Proofs.Ytaacnknniaipmaa

/-
  What an argument that is a form brings; SessionBursts over such an argument.
-/
namespace Go.Proofs.Ytaacnknniaipmaa
open Go.RowKit

theorem fmEl.rd {w : World} {f : FormM} {cs : List Value} (h : (fmEl f).P w All cs) : ∃ (T : Option Addr) (ct : Nat) (P : Option Addr) (cp : Nat) (W : Option Addr) (cw : Nat) (Y : Option Addr) (cy : Nat) (D : Option Addr) (cd : Nat), cs = fmV f (noV f.note T ct) P cp W cw Y cy D cd ∧ FmR w f T P W Y cy D cd := by
  obtain ⟨T, ct, P, cp, W, cw, Y, cy, D, cd, h0, h1, h2, h3, h4, h5⟩ := h
  refine ⟨T, ct, P, cp, W, cw, Y, cy, D, cd, h0, u64s_rd (rowEl.rd h1).2.2, (rowEl.rd h2).2.2, (rowEl.rd h3).2.2, (by_rd h4).1, (by_rd h5).1, (by_rd h5).2⟩
end Go.Proofs.Ytaacnknniaipmaa

/-
  Blocks that hold a list's marks: append onto a slice at the head of a block that is known whole, and what a step may change of such blocks.
-/
namespace Go.Proofs.Ytaacnknniaipmaa
open Go.RowKit

section
variable {P : Program} {N : Nat} {ops : Array Oper} {Q : Exit → Act → World → Prop} {rest : List Oper} {L : FL} {w : World} {t e : TypeId} {z : Value} {bytes : Nat}
theorem opv_app {s x : Operand} {ty : TypeId} {u v r : Value} {w' : World} (hs : look L s = some u) (hx : look L x = some v) (hrun : ∀ ty, (Builtin.append_ #[t, t] ty #[u, v]).run P w = .ok r w') :
    OpV P (.call { callee := .builtin .append, args := #[s, x], argTypes := #[t, t] }) ty L w r w' := fun ρ o hρ ho _ => by
  unfold execOp
  simp only [ho, resolve, invoke, builtin, Sem.run_bind, Sem.run_pure, Result.andThen_ok, List.map_toArray, List.map_cons, List.map_nil, hρ s _ hs, hρ x _ hx, hrun]
/-- append onto a slice at the head of a block that is known whole. -/
theorem wl_appA {d : Nat} {s x : Operand} {ty : TypeId} {pos : String} {aft : Array Edge} {g n c m c' : Nat} {cs ys : List Value} {B : Option Addr} (T : Row1 P t e z bytes)
    (hs : look L s = some (.slice (some ⟨g, 0, none⟩) n c)) (ha : Ar w g e cs) (hnc : n ≤ c) (hc : c ≤ cs.length) (hx : look L x = some (.slice B m c')) (hr : Rd w B m ys) (hm : 0 < m) (h1 : ∀ u ∈ ys, u.oneCell' = true)
    (hbytes : (n + m) * bytes ≤ 140737488355328) (hmax : n + m ≤ maxLen) (hd : Nat.blt d N = true)
    (hA : n + m ≤ c → ∀ w', Ar w' g e (cs.take n ++ (ys ++ cs.drop (n + m))) → Gr w w' (some ⟨g, 0, none⟩) → WL P N ops Q rest ((d, .slice (some ⟨g, 0, none⟩) (n + m) c) :: L) w')
    (hB : ∀ A' c2 w', Ow w' w.heap.size e A' (n + m) c2 (cs.take n ++ ys) → Below w.heap.size w w' → WL P N ops Q rest ((d, .slice A' (n + m) c2) :: L) w') :
    WL P N ops Q (⟨some d, .call { callee := .builtin .append, args := #[s, x], argTypes := #[t, t] }, ty, pos, aft, none⟩ :: rest) L w := by
  obtain ⟨i, hi, hz, hsz, hby⟩ := info_parts T.info
  have hzs : z.cells.size = 1 := by rw [cells_one T.one]; rfl
  have hl : ys.length = m := hr.1
  obtain ⟨b, o, rfl, _, hcell⟩ := hr.2 hm
  have hnews : ∀ j u, ys[j]? = some u → w.cell? ((⟨b, o, none⟩ : Addr).add j) = some u := fun j u hu => by rw [Addr.add_lit]; exact hcell j u hu
  by_cases hroom : n + m ≤ c
  · refine wl_val (opv_app hs hx fun ty => run_append_room (P := P) w t ty e i T.sl hi g n c cs.toArray ha ⟨b, o, none⟩ m c' ys (by rw [hsz]; omega) hnews h1 hroom (by simp [hsz]; omega)) hd ?_
    have e1 : (cs.toArray.toList.take (n * i.size) ++ ys ++ cs.toArray.toList.drop (n * i.size + ys.length)) = cs.take n ++ (ys ++ cs.drop (n + m)) := by
      rw [hsz, hl, Nat.mul_one, List.append_assoc]
    rw [e1]
    exact hA hroom _ ha.setRow ⟨rfl, rfl, rfl, by simp [World.setRow], fun k _ hk => by
      simp only [World.setRow, Array.getElem?_modify]
      rw [if_neg (by simp at hk; exact fun h => hk h.symm)]⟩
  · have hol : (cs.take n).length = n := by simp; omega
    have hsmall : n + m ≤ 9223372036854775807 := by simp only [maxLen] at hmax; omega
    have hge := grownCap_ge w (n + m) c e
    have hcm : grownCap w (n + m) c e ≤ maxLen := grownCap_le_maxLen w (n + m) c e hmax
    refine wl_val (opv_app hs hx fun ty => run_append_grow (P := P) w t ty e i z T.sl hi hz ⟨g, 0, none⟩ n c (cs.take n) (by rw [hsz]; omega) (fun j u hu => by
      rw [Addr.add_lit, Nat.zero_add, ha.cell]
      rw [List.getElem?_take] at hu
      split at hu
      · exact hu
      · cases hu) ⟨b, o, none⟩ m c' ys (by rw [hsz]; omega) hnews (by omega) (by omega) (growslice_fits (by omega) (by rw [hby]; exact hbytes))) hd ?_
    refine hB _ _ _ ⟨by simp; omega, .inr ⟨w.heap.size, _, _, rfl, Nat.le_refl _, heap_alloc_new w.drew _, hge, hcm, ?_, ?_⟩⟩ ⟨rfl, rfl, rfl, by simp, fun k hk => heap_alloc_old w.drew _ hk⟩
    · simp only [Array.size_append, List.size_toArray, size_zeroCells, hzs, hol, hl]; omega
    · simp only [Array.toList_append, List.append_assoc]
      rw [← List.append_assoc]
      refine List.take_left' ?_
      simp; omega
end

/-- The byte that stands for place j of list i. -/
def mkb (i j : Nat) : UInt8 := UInt8.ofNat (17 * i + 3 * j + 1)
def mk (i j : Nat) : Value := bv (mkb i j)
def mkl (i n : Nat) : List UInt8 := (List.range n).map (mkb i)
theorem mkl_length (i n : Nat) : (mkl i n).length = n := by simp [mkl]
theorem mkl_get {i n j : Nat} (h : j < n) : (mkl i n)[j]? = some (mkb i j) := by simp [mkl, h]
/-- Block b holds the marks of list i, at its first n places. -/
def MkB (w : World) (b i n : Nat) : Prop := ∃ cs, Ar w b 5 cs ∧ n ≤ cs.length ∧ ∀ j, j < n → cs[j]? = some (mk i j)
/-- A step that may write marks of list i into block X, and changes no other block of bytes. -/
def Sk (w w' : World) (X : Option Nat) (i : Nat) : Prop :=
  ∀ b cs, Ar w b 5 cs → ∃ cs', Ar w' b 5 cs' ∧ cs'.length = cs.length ∧ (cs' = cs ∨ (X = some b ∧ ∀ j u, cs'[j]? = some u → cs[j]? = some u ∨ u = mk i j))
/-- A slice at the head of a block of the call's own, or nil. -/
def Hd (w : World) (base : Nat) (A : Option Addr) (n c : Nat) : Prop :=
  (A = none ∧ n = 0 ∧ c = 0) ∨ ∃ g cs, A = some ⟨g, 0, none⟩ ∧ base ≤ g ∧ Ar w g 5 cs ∧ n ≤ c ∧ c ≤ cs.length
section
variable {w w' w1 : World} {X : Option Nat} {A : Option Addr} {b i k n c base : Nat}
theorem MkB.rd (h : MkB w b i n) : RdB w (some ⟨b, 0, none⟩) (mkl i n) := by
  obtain ⟨cs, ha, hl, hm⟩ := h
  refine ⟨bvs_length _, fun _ => ⟨b, 0, rfl, ha.lt, fun j u hu => ?_⟩⟩
  rw [ha.cell, Nat.zero_add]
  have hj : j < n := by have := (List.getElem?_eq_some_iff.1 hu).1; rwa [bvs_length, mkl_length] at this
  rw [bvs, List.getElem?_map, mkl_get hj] at hu
  rw [hm j hj]; exact hu
theorem Sk.refl (w : World) (X : Option Nat) (i : Nat) : Sk w w X i := fun _ cs h => ⟨cs, h, rfl, .inl rfl⟩
theorem Sk.trans (h : Sk w w1 X i) (h2 : Sk w1 w' X i) : Sk w w' X i := fun b cs ha => by
  obtain ⟨c1, a1, l1, r1⟩ := h b cs ha
  obtain ⟨c2, a2, l2, r2⟩ := h2 b c1 a1
  refine ⟨c2, a2, l2.trans l1, ?_⟩
  rcases r2 with rfl | ⟨hX, r2⟩
  · exact r1
  · refine .inr ⟨hX, fun j u hu => ?_⟩
    rcases r2 j u hu with h | h
    · rcases r1 with rfl | ⟨_, r1⟩
      · exact .inl h
      · exact r1 j u h
    · exact .inr h
theorem Sk.bel (h : Below w.heap.size w w') : Sk w w' X i := fun _ cs ha => ⟨cs, ha.bel h, rfl, .inl rfl⟩
/-- A step that changes one block of another type alone. -/
theorem Sk.other {g : Nat} {t : TypeId} {cs : List Value} (h : Gr w w' A) (hA : ∀ a, A = some a → a.block = g) (ht : A = none ∨ Ar w g t cs) (hne : t ≠ 5) : Sk w w' X i := fun b ds hb => by
  refine ⟨ds, ?_, rfl, .inl rfl⟩
  unfold Ar
  rw [h.block b hb.lt fun hk => ?_]
  · exact hb
  · cases A with
    | none => simp at hk
    | some a =>
      simp only [Option.map_some, Option.some.injEq] at hk
      rcases ht with ht | ht
      · cases ht
      · rw [← hA a rfl, ← hk] at ht
        unfold Ar at ht hb
        rw [ht] at hb
        simp only [Option.some.injEq, Obj.cells.injEq] at hb
        exact hne hb.2.1
/-- A step that writes marks into block g. -/
theorem Sk.at {g : Nat} {cs cs' : List Value} (h : Gr w w' (some ⟨g, 0, none⟩)) (ha : Ar w g 5 cs) (ha' : Ar w' g 5 cs') (hl : cs'.length = cs.length) (hm : ∀ j u, cs'[j]? = some u → cs[j]? = some u ∨ u = mk i j) : Sk w w' (some g) i := fun b ds hb => by
  by_cases hbg : b = g
  · subst hbg
    have e : ds = cs := by
      unfold Ar at ha hb
      rw [ha] at hb
      simp only [Option.some.injEq, Obj.cells.injEq] at hb
      have := congrArg Array.toList hb.1
      simpa using this.symm
    subst e
    exact ⟨cs', ha', hl, .inr ⟨rfl, hm⟩⟩
  · refine ⟨ds, ?_, rfl, .inl rfl⟩
    unfold Ar
    rw [h.block b hb.lt (by simp; exact fun h => hbg h)]
    exact hb
theorem MkB.st (h : MkB w b i n) (s : Sk w w' X k) (hX : X = some b → k = i) : MkB w' b i n := by
  obtain ⟨cs, ha, hl, hm⟩ := h
  obtain ⟨cs', ha', hl', r⟩ := s b cs ha
  refine ⟨cs', ha', by omega, fun j hj => ?_⟩
  rcases r with rfl | ⟨hXb, r⟩
  · exact hm j hj
  · have hk := hX hXb
    subst hk
    rw [List.getElem?_eq_getElem (by omega)]
    rcases r j _ (List.getElem?_eq_getElem (by omega)) with h | h
    · rw [← h]; exact hm j hj
    · rw [h]
theorem Hd.st (h : Hd w base A n c) (s : Sk w w' X k) : Hd w' base A n c := by
  rcases h with h | ⟨g, cs, hA, hb, ha, h1, h2⟩
  · exact .inl h
  · obtain ⟨cs', ha', hl', _⟩ := s g cs ha
    exact .inr ⟨g, cs', hA, hb, ha', h1, by omega⟩
theorem NwB.hd {xs : List UInt8} (h : NwB w base A c xs) : Hd w base A xs.length c := by
  rcases h with ⟨hA, hc, rfl⟩ | ⟨g, cs, hA, hb, ha, h1, h2, _⟩
  · exact .inl ⟨hA, rfl, hc⟩
  · exact .inr ⟨g, cs, hA, hb, ha, h1, h2⟩
end

/-- All slices of a list lie at the heads of blocks of the call's own, each in another one. -/
def Own1 (w : World) (base : Nat) (vs : List Value) : Prop :=
  (∀ v ∈ vs, ∃ (A : Option Addr) (n c : Nat), v = .slice A n c ∧ Hd w base A n c ∧ n ≤ 1099511627776) ∧ vs.Pairwise fun v v' => ∀ g, v.ownBlock = some g → v'.ownBlock ≠ some g
section
variable {w w' w0 : World} {X : Option Nat} {vs : List Value} {base k : Nat}
theorem Own1.at (h : Own1 w base vs) {i : Nat} {v : Value} (hi : vs[i]? = some v) : ∃ (A : Option Addr) (n c : Nat), v = .slice A n c ∧ Hd w base A n c ∧ n ≤ 1099511627776 := h.1 v (List.mem_of_getElem? hi)
theorem Own1.inj (h : Own1 w base vs) {i j g : Nat} {v v' : Value} (hi : vs[i]? = some v) (hj : vs[j]? = some v') (hg : v.ownBlock = some g) (hg' : v'.ownBlock = some g) : i = j := by
  have hp := List.pairwise_iff_getElem.1 h.2
  obtain ⟨h1, e1⟩ := List.getElem?_eq_some_iff.1 hi
  obtain ⟨h2, e2⟩ := List.getElem?_eq_some_iff.1 hj
  rcases Nat.lt_trichotomy i j with hlt | heq | hgt
  · exact absurd (e2 ▸ hg') (hp i j h1 h2 hlt g (e1 ▸ hg))
  · exact heq
  · exact absurd (e1 ▸ hg) (hp j i h2 h1 hgt g (e2 ▸ hg'))
theorem Own1.st (h : Own1 w base vs) (s : Sk w w' X k) : Own1 w' base vs := ⟨fun v hv => by
  obtain ⟨A, n, c, e, hd, hn⟩ := h.1 v hv
  exact ⟨A, n, c, e, hd.st s, hn⟩, h.2⟩
/-- The marks of the first m lists stand. -/
def Mx (w : World) (vs : List Value) (m : Nat) : Prop := ∀ (k : Nat) (A : Addr) (n c : Nat), k < m → vs[k]? = some (.slice (some A) n c) → MkB w A.block k n
theorem Mx.st {i m : Nat} {A : Option Addr} {n c : Nat} (h : Mx w vs m) (ho : Own1 w base vs) (hi : vs[i]? = some (.slice A n c)) (s : Sk w w' (A.map (·.block)) i) : Mx w' vs m := fun k A' n' c' hk hv =>
  (h k A' n' c' hk hv).st s fun hX => ho.inj hi hv (by rw [ownBlock_slice]; exact hX) (by rw [ownBlock_slice]; rfl)
theorem Mx.bel {m : Nat} (h : Mx w vs m) (hb : Below w.heap.size w w') : Mx w' vs m := fun k A n c hk hv => (h k A n c hk hv).st (X := none) (k := 0) (Sk.bel hb) (by simp)
/-- A grown slice: marks of list i, in list i's own block or in another one. -/
def Gd (w : World) (vs : List Value) (i : Nat) (v : Value) : Prop := ∃ b n c, v = .slice (some ⟨b, 0, none⟩) n c ∧ n ≤ c ∧ n ≤ 2199023255552 ∧ MkB w b i n ∧ ∀ (k : Nat) (u : Value), vs[k]? = some u → u.ownBlock = some b → k = i
theorem Gd.st {i m : Nat} {A : Option Addr} {n c : Nat} {v : Value} (h : Gd w vs m v) (hi : vs[i]? = some (.slice A n c)) (s : Sk w w' (A.map (·.block)) i) : Gd w' vs m v := by
  obtain ⟨b, n', c', e, h1, h2, hm, ht⟩ := h
  exact ⟨b, n', c', e, h1, h2, hm.st s fun hX => ht i _ hi (by rw [ownBlock_slice]; exact hX), ht⟩
/-- Nothing below base changes, and of what stood at the start the lists' blocks alone. -/
def Kp (w0 w : World) (vs : List Value) : Prop := w.os = w0.os ∧ w.tape = w0.tape ∧ w.output = w0.output ∧ w0.heap.size ≤ w.heap.size ∧ ∀ k, k < w0.heap.size → (∀ v ∈ vs, v.ownBlock ≠ some k) → w.heap[k]? = w0.heap[k]?
theorem Kp.refl (w : World) (vs : List Value) : Kp w w vs := ⟨rfl, rfl, rfl, Nat.le_refl _, fun _ _ _ => rfl⟩
theorem Kp.gr {A : Option Addr} (h : Kp w0 w vs) (g : Gr w w' A) (hA : ∀ a, A = some a → a.block < w0.heap.size → ∃ v ∈ vs, v.ownBlock = some a.block) : Kp w0 w' vs := by
  obtain ⟨h1, h2, h3, h4, h5⟩ := h
  refine ⟨g.os.trans h1, g.tape.trans h2, g.output.trans h3, Nat.le_trans h4 g.size, fun k hk hv => ?_⟩
  rw [← h5 k hk hv]
  refine g.block k (by omega) fun hk' => ?_
  cases A with
  | none => simp at hk'
  | some a =>
    simp only [Option.map_some, Option.some.injEq] at hk'
    obtain ⟨v, hm, hv'⟩ := hA a rfl (by rw [← hk']; exact hk)
    exact hv v hm (by rw [hv', ← hk'])
theorem Kp.bel (h : Kp w0 w vs) (hb : Below w.heap.size w w') : Kp w0 w' vs := h.gr (Gr.of_below none hb (Nat.le_refl _)) (by simp)
theorem Kp.below (h : Kp w0 w vs) (ho : ∀ v ∈ vs, ∀ g, v.ownBlock = some g → base ≤ g) (hb : base ≤ w0.heap.size) : Below base w0 w :=
  ⟨h.1, h.2.1, h.2.2.1, h.2.2.2.1, fun j hj => h.2.2.2.2 j (by omega) fun v hv hc => by have := ho v hv j hc; omega⟩
theorem Kp.rd {A : Option Addr} {n : Nat} {xs : List Value} (h : Kp w0 w vs) (hr : Rd w0 A n xs) (hA : ∀ a, A = some a → ∀ v ∈ vs, v.ownBlock ≠ some a.block) : Rd w A n xs := ⟨hr.1, fun hn => by
  obtain ⟨b, o, rfl, hb, hc⟩ := hr.2 hn
  exact ⟨b, o, rfl, Nat.lt_of_lt_of_le hb h.2.2.2.1, fun j u hu => by
    rw [World.cell?_of_block (a := ⟨b, o + j, none⟩) (h.2.2.2.2 b hb (hA _ rfl))]; exact hc j u hu⟩⟩
end
end Go.Proofs.Ytaacnknniaipmaa
