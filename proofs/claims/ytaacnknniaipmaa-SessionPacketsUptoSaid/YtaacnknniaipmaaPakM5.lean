/-
  The texts of this proof, joined: Xp, Xq, Xr, Xs, Xt, Ph, Xu, Xv, Xw.
-/
import Derived.Test.YtaacnknniaipmaaPakM4
import Derived.Test.YtaacnknniaipmaaPakM1
import Derived.Test.YtaacnknniaipmaaPakM2

/-
  The walk over the fields of a packet that is read.
-/
namespace Go.Proofs.Ytaacnknniaipmaa
open Go.RowKit

/-- What stands behind a kind's numbers. -/
def tailR (p : PkM) (r : Rd1) : PkM × Rd1 :=
  if p.kind = 3 then ({ p with tx := ((wordsR 2 r).1.getD 0 0, (wordsR 2 r).1.getD 1 0), res := (resR (wordsR 2 r).2).1 }, (resR (wordsR 2 r).2).2)
  else ({ p with tx := ((wordsR 2 r).1.getD 0 0, (wordsR 2 r).1.getD 1 0), data := (nextR (wordsR 2 r).2).1 }, (nextR (wordsR 2 r).2).2)
theorem fields_2 {r r1 : Rd1} {a b c d : Int} (h : intsR 4 r = ([a, b, c, d], r1)) : fieldsR 2 r = tailR ⟨2, a, b, c, d, 0, 0, (0, 0), 0, zMsg, zRes, []⟩ r1 := by
  unfold fieldsR tailR
  rw [h]; rfl
theorem fields_3 {r r1 : Rd1} {a b c d e f g : Int} (h : intsR 7 r = ([a, b, c, d, e, f, g], r1)) : fieldsR 3 r = tailR ⟨3, a, b, c, d, e, g, (0, 0), f, zMsg, zRes, []⟩ r1 := by
  unfold fieldsR tailR
  rw [h]; rfl
theorem fields_4 {r r1 : Rd1} {a : Int} (h : intsR 1 r = ([a], r1)) : fieldsR 4 r = tailR ⟨4, 0, a, 0, 0, 0, 0, (0, 0), 0, zMsg, zRes, []⟩ r1 := by
  unfold fieldsR tailR
  rw [h]; rfl
theorem fields_5 {r r1 : Rd1} {a b : Int} (h : intsR 2 r = ([a, b], r1)) : fieldsR 5 r = tailR ⟨5, a, 0, 0, 0, 0, 0, (0, 0), b, zMsg, zRes, []⟩ r1 := by
  unfold fieldsR tailR
  rw [h]; rfl
theorem fields_1 {r r1 : Rd1} {a b c : Int} (h : intsR 3 r = ([a, b, c], r1)) : fieldsR 1 r = (⟨1, a, b, c, 0, 0, 0, (0, 0), 0, (msgR r1).1, zRes, []⟩, (msgR r1).2) := by
  unfold fieldsR
  rw [h]; rfl
theorem fields_no {k : Int} {r : Rd1} (h1 : k ≠ 1) (h2 : k ≠ 2) (h3 : k ≠ 3) (h4 : k ≠ 4) (h5 : k ≠ 5) : fieldsR k r = (⟨k, 0, 0, 0, 0, 0, 0, (0, 0), 0, zMsg, zRes, []⟩, (r.1, 3)) := by
  unfold fieldsR
  rw [if_neg h1, if_neg h2, if_neg h3, if_neg h4, if_neg h5]; rfl
theorem get7 {α : Type} {l : List α} {z : α} (h : l.length = 7) : l = [l.getD 0 z, l.getD 1 z, l.getD 2 z, l.getD 3 z, l.getD 4 z, l.getD 5 z, l.getD 6 z] := by
  match l, h with
  | [a, b, c, d, e, f, g], _ => rfl
theorem sTxn : StT Try.prog 29 2 := ⟨by kernel_rfl, by kernel_rfl⟩
/-- The packet's cells, as long as it has no message and no result. -/
def pkZ (p : PkM) : List Value := [.int .i64 p.kind, .int .i64 p.fr, .int .i64 p.to, .int .i64 p.shard, .int .i64 p.round, .int .i64 p.cmd, .int .i64 p.lead, .int .u64 (p.tx.1 : Int), .int .u64 (p.tx.2 : Int), .int .i64 p.code, .int .i64 0, .int .i64 0, .int .i64 0, .int .u64 0, .int .u64 0, .int .u64 0, .int .u64 0, .slice none 0 0, .bool false, .slice none 0 0, .int .i64 0, .int .i64 0, .int .u64 0, .slice none 0 0, .bool false, .int .u64 0, .slice none 0 0, .slice none 0 0, .slice none 0 0]
theorem zeroPk : (Try.prog.info? 42).map (·.zero) = some (some (.agg (pkZ zPk).toArray)) := by kernel_rfl
/-- What a packet's memory holds. -/
def PkK (base : Nat) (y : PkM) (E M P W Y : Option Addr) (cm cy : Nat) (w : World) : Prop := MsK base y.msg E M cm w ∧ ReK base y.res P W Y cy w
theorem msK0 (base : Nat) (w : World) : MsK base zMsg none none 0 w := ⟨rdr_nil, Ow.nil _ _ _⟩
theorem reK0 (base : Nat) (w : World) : ReK base zRes none none none 0 w := ⟨rdr_nil, rdr_nil, Ow.nil _ _ _⟩
set_option maxHeartbeats 8000000 in
set_option maxRecDepth 8000 in
theorem sfields_any {g gp base : Nat} {k : Int} {A : Option Addr} {c : Nat} {r : Rd1} {S : BS} {w : World} {K : World → Prop} (h0 : Sat w [rdP g A c r, .blk gp 42 (pkZ { zPk with kind := k })] S) (hK : ∀ w', Mod S w w' → K w') (hr : RdK K base A c r.1) (hb : base ≤ w.heap.size) (hl : ∀ p ∈ r.1, p.length ≤ 1099511627776) :
    CallsV Try.prog 53 #[.pointer (some ⟨g, 0, none⟩), .pointer (some ⟨gp, 0, none⟩)] w fun _ w' => ∃ (A' : Option Addr) (c' : Nat) (E : Option Addr) (ce : Nat) (M : Option Addr) (cm : Nat) (P : Option Addr) (cp : Nat) (W : Option Addr) (cw : Nat) (Y : Option Addr) (cy : Nat) (D : Option Addr) (cd : Nat),
      St S w w' [rdP g A' c' (fieldsR k r).2, .blk gp 42 (pkV (fieldsR k r).1 (msV (fieldsR k r).1.msg E ce M cm) (reV (fieldsR k r).1.res P cp W cw Y cy) D cd), .ck (kp (PkK base (fieldsR k r).1 E M P W Y cm cy))] ∧ ∀ w, K w → OwB w base D cd (fieldsR k r).1.data := by
  have hs := St.start h0
  have hmax : maxLen = 9223372036854775807 := rfl
  unfold pkZ zPk at hs
  dsimp only at hs
  refine calls_in (N := _) Try.func53 rfl Try.ntmps53 rfl ?_; show WC _ _ _ _ _ _
  refine wc_cut (fun L w' => ∃ (p : PkM) (r1 : Rd1) (A1 : Option Addr) (c1 : Nat), L = [(0, .pointer (some ⟨g, 0, none⟩)), (1, .pointer (some ⟨gp, 0, none⟩))] ∧ p.msg = zMsg ∧ p.res = zRes ∧ p.data = [] ∧ p.kind = k ∧ fieldsR k r = tailR p r1 ∧ RdK K base A1 c1 r1.1 ∧ (∀ p ∈ r1.1, p.length ≤ 1099511627776) ∧ St S w w' [rdP g A1 c1 r1, .blk gp 42 (pkZ p)]) ?_ ?_
  · refine wc_sr ?_; refine wl_mv rfl rfl ?_; apply wl_val; apply opv_nilOk; exact rfl; exact rfl; apply wl_val; apply opv_fa; exact fa_Pk0; exact rfl; exact rfl; apply wl_val; apply opv_ldX; exact rfl; exact hs.ar 1 rfl; exact g1_int; exact rfl; exact rfl; refine wl_ns ?_; refine wc_block ?_; refine wc_sr ?_; refine wl_bin rfl rfl bin_eql rfl ?_; refine wl_as rfl rfl ?_; refine wl_ns ?_
    by_cases k1 : k = 1
    · subst k1
      apply wc_condTb; exact rfl; exact rfl; refine wc_sr ?_; refine wl_mv rfl rfl ?_
      obtain ⟨S2, hS2, hB2, hM2, hH2, hB⟩ := St.lend (H1 := [rdP g A c r]) (H2 := [_]) hs
      refine wl_call ok_session_reader_ints (srints_any (n := 3) hS2 (fun w' k => hK w' (hM2 w' k)) hr (by decide) hl) ⟨rfl, rfl, trivial⟩ rfl ?_
      rintro _ _ ⟨O, co, A1, c1, rfl, hr1, hsx⟩
      replace hs := hB _ _ hsx
      clear hsx hB hH2 hM2 hB2 hS2
      dsimp only [List.cons_append, List.nil_append] at hs
      have hnl := intsR_len 3 r
      have hl1 := ints_rest (n := 3) hl
      obtain ⟨⟨ns, r1⟩, hx1⟩ : ∃ x, intsR 3 r = x := ⟨_, rfl⟩
      rw [hx1] at hs hr1 hnl hl1
      dsimp only at hs hr1 hnl hl1
      generalize hn0 : ns.getD 0 0 = a
      generalize hn1 : ns.getD 1 0 = b
      generalize hn2 : ns.getD 2 0 = d
      have hns : ns = [a, b, d] := by rw [← hn0, ← hn1, ← hn2]; exact get3 hnl
      clear hn0 hn1 hn2
      subst hns
      clear hnl
      have hi0 : (iVs [a, b, d])[0]? = some (.int .i64 a) := rfl
      have hi1 : (iVs [a, b, d])[1]? = some (.int .i64 b) := rfl
      have hi2 : (iVs [a, b, d])[2]? = some (.int .i64 d) := rfl
      refine wl_as rfl rfl ?_; refine wl_ns ?_; refine wc_seq ?_
      refine wc_heldG (fun w' => Rd w' O 3 (iVs [a, b, d])) 20 mixed ?_
      replace hs := hs.below (Below.refl _ _).drew
      have hS := (hs.ow 0 rfl).rd
      apply wm_take 0; exact rfl; intro _ hw_; apply opv_move; exact rfl; exact rfl; kernel_rfl; exact hS; apply wm_take 1; exact rfl; intro _ hw_; apply opv_move; exact rfl; exact rfl; kernel_rfl; exact hS; apply wm_take 2; exact rfl; intro _ hw_; apply opv_move; exact rfl; exact rfl; kernel_rfl; exact hS; apply wm_take 3; exact rfl; intro _ hw_; apply opv_move; exact rfl; exact rfl; kernel_rfl; exact hS; apply wm_take 4; exact rfl; intro _ hw_; apply opv_idxR (T := tyIs) (hr := hw_) (hu := hi0); exact rfl; exact rfl; exact rfl; exact rfl; kernel_rfl; exact hS; apply wm_take 5; exact rfl; intro _ hw_; refine opv_loadR tyIs rfl hw_ hi0; exact rfl; kernel_rfl; exact hS; apply wm_take 6; exact rfl; intro _ hw_; apply opv_move; exact rfl; exact rfl; kernel_rfl; exact hS; apply wm_take 7; exact rfl; intro _ hw_; apply opv_idxR (T := tyIs) (hr := hw_) (hu := hi1); exact rfl; exact rfl; exact rfl; exact rfl; kernel_rfl; exact hS; apply wm_take 8; exact rfl; intro _ hw_; refine opv_loadR tyIs rfl hw_ hi1; exact rfl; kernel_rfl; exact hS; apply wm_take 9; exact rfl; intro _ hw_; apply opv_move; exact rfl; exact rfl; kernel_rfl; exact hS; apply wm_take 10; exact rfl; intro _ hw_; apply opv_idxR (T := tyIs) (hr := hw_) (hu := hi2); exact rfl; exact rfl; exact rfl; exact rfl; kernel_rfl; exact hS; apply wm_take 11; exact rfl; intro _ hw_; refine opv_loadR tyIs rfl hw_ hi2; exact rfl; kernel_rfl; exact hS
      clear hS
      have hS := (hs.ow 0 rfl).rd
      apply wm_takeP 12; exact rfl; intro _; apply opv_nilOk; exact rfl; exact rfl; kernel_rfl; exact fun _ => hS; apply wm_takeP 13; exact rfl; intro _; apply opv_fa; exact fa_Pk1; exact rfl; exact rfl; kernel_rfl; exact fun _ => hS
      clear hS
      refine wm_one 14 (by kernel_rfl) rfl ?_; dsimp only [List.getElem_toArray, List.getElem_cons_succ, List.getElem_cons_zero]
      apply ws_st hs 2; exact rfl; exact rfl; exact g1_int; exact rfl; exact rfl; exact rfl; clear hs; intro _ hs; dsimp only [setC, List.set] at hs; refine wl_nil ?_
      refine we_heldM (fun _ => (hs.ow 0 rfl).rd) ?_
      have hS := (hs.ow 0 rfl).rd
      apply wm_takeP 15; exact rfl; intro _; apply opv_nilOk; exact rfl; exact rfl; kernel_rfl; exact fun _ => hS; apply wm_takeP 16; exact rfl; intro _; apply opv_fa; exact fa_Pk2; exact rfl; exact rfl; kernel_rfl; exact fun _ => hS
      clear hS
      refine wm_one 17 (by kernel_rfl) rfl ?_; dsimp only [List.getElem_toArray, List.getElem_cons_succ, List.getElem_cons_zero]
      apply ws_st hs 2; exact rfl; exact rfl; exact g1_int; exact rfl; exact rfl; exact rfl; clear hs; intro _ hs; dsimp only [setC, List.set] at hs; refine wl_nil ?_
      refine we_heldM (fun _ => (hs.ow 0 rfl).rd) ?_
      have hS := (hs.ow 0 rfl).rd
      apply wm_takeP 18; exact rfl; intro _; apply opv_nilOk; exact rfl; exact rfl; kernel_rfl; exact fun _ => hS; apply wm_takeP 19; exact rfl; intro _; apply opv_fa; exact fa_Pk3; exact rfl; exact rfl; kernel_rfl; exact fun _ => hS
      clear hS
      refine wm_one 20 (by kernel_rfl) rfl ?_; dsimp only [List.getElem_toArray, List.getElem_cons_succ, List.getElem_cons_zero]
      apply ws_st hs 2; exact rfl; exact rfl; exact g1_int; exact rfl; exact rfl; exact rfl; clear hs; intro _ hs; dsimp only [setC, List.set] at hs; refine wl_nil ?_
      refine we_heldM (fun h => absurd h (by decide)) ?_
      refine wm_done (by kernel_rfl) ?_
      replace hs := hs.drop 0 rfl
      dsimp only [delC] at hs
      refine we_seq ?_; refine wc_sr ?_; refine wl_mv rfl rfl ?_; refine wl_mv rfl rfl ?_
      obtain ⟨S2, hS2, hB2, hM2, hH2, hB⟩ := St.lend (H1 := [rdP g A1 c1 r1]) (H2 := [_]) hs
      refine wl_call ok_session_reader_msg (smsg_any hS2 (fun w' k => hK w' (hM2 w' k)) hr1 (Nat.le_trans hb hs.size) hl1) ⟨rfl, trivial⟩ rfl ?_
      rintro _ _ ⟨A2, c2, E, ce, M, cm, rfl, hr2, hsx⟩
      replace hs := hB _ _ hsx
      clear hsx hB hH2 hM2 hB2 hS2
      dsimp only [List.cons_append, List.nil_append] at hs
      apply wl_val; apply opv_nilOk; exact rfl; exact rfl; apply wl_val; apply opv_fa; exact fa_Pk9; exact rfl; exact rfl
      refine ws_stM (ds := msV (msgR r1).1 E ce M cm) hs 2 rfl rfl rfl sMs (Nat.le_of_ble_eq_true rfl) rfl ?_
      clear hs; intro _ hs; dsimp only [setC] at hs
      rw [fields_1 hx1]
      refine wl_ns ?_; refine wc_ret ?_; refine we_block_ret ?_; refine we_cut_ret ?_
      refine we_ret0 rfl ⟨_, rfl, A2, c2, E, ce, M, cm, none, 0, none, 0, none, 0, none, 0, ?_, fun _ _ => Ow.nil _ _ _⟩
      have h2 := (hs.front 1 rfl).kpMono (K' := PkK base ⟨1, a, b, d, 0, 0, 0, (0, 0), 0, (msgR r1).1, zRes, []⟩ E M none none none cm 0) fun w h => ⟨h, reK0 _ _⟩
      have h3 := h2.front 2 rfl
      exact h3.front 2 rfl
    by_cases k2 : k = 2
    · subst k2
      apply wc_condFb; exact rfl; exact rfl; refine wc_sr ?_; refine wl_bin rfl rfl bin_eql rfl ?_; refine wl_as rfl rfl ?_; refine wl_ns ?_; apply wc_condTb; exact rfl; exact rfl; refine wc_sr ?_; refine wl_mv rfl rfl ?_
      obtain ⟨S2, hS2, hB2, hM2, hH2, hB⟩ := St.lend (H1 := [rdP g A c r]) (H2 := [_]) hs
      refine wl_call ok_session_reader_ints (srints_any (n := 4) hS2 (fun w' k => hK w' (hM2 w' k)) hr (by decide) hl) ⟨rfl, rfl, trivial⟩ rfl ?_
      rintro _ _ ⟨O, co, A1, c1, rfl, hr1, hsx⟩
      replace hs := hB _ _ hsx
      clear hsx hB hH2 hM2 hB2 hS2
      dsimp only [List.cons_append, List.nil_append] at hs
      have hnl := intsR_len 4 r
      have hl1 := ints_rest (n := 4) hl
      obtain ⟨⟨ns, r1⟩, hx1⟩ : ∃ x, intsR 4 r = x := ⟨_, rfl⟩
      rw [hx1] at hs hr1 hnl hl1
      dsimp only at hs hr1 hnl hl1
      generalize hn0 : ns.getD 0 0 = a
      generalize hn1 : ns.getD 1 0 = b
      generalize hn2 : ns.getD 2 0 = d
      generalize hn3 : ns.getD 3 0 = e
      have hns : ns = [a, b, d, e] := by rw [← hn0, ← hn1, ← hn2, ← hn3]; exact get4 hnl
      clear hn0 hn1 hn2 hn3
      subst hns
      clear hnl
      have hi0 : (iVs [a, b, d, e])[0]? = some (.int .i64 a) := rfl
      have hi1 : (iVs [a, b, d, e])[1]? = some (.int .i64 b) := rfl
      have hi2 : (iVs [a, b, d, e])[2]? = some (.int .i64 d) := rfl
      have hi3 : (iVs [a, b, d, e])[3]? = some (.int .i64 e) := rfl
      refine wl_as rfl rfl ?_; refine wl_ns ?_
      refine wc_heldG (fun w' => Rd w' O 4 (iVs [a, b, d, e])) 27 mixed ?_
      replace hs := hs.below (Below.refl _ _).drew
      have hS := (hs.ow 0 rfl).rd
      apply wm_take 0; exact rfl; intro _ hw_; apply opv_move; exact rfl; exact rfl; kernel_rfl; exact hS; apply wm_take 1; exact rfl; intro _ hw_; apply opv_move; exact rfl; exact rfl; kernel_rfl; exact hS; apply wm_take 2; exact rfl; intro _ hw_; apply opv_move; exact rfl; exact rfl; kernel_rfl; exact hS; apply wm_take 3; exact rfl; intro _ hw_; apply opv_move; exact rfl; exact rfl; kernel_rfl; exact hS; apply wm_take 4; exact rfl; intro _ hw_; apply opv_move; exact rfl; exact rfl; kernel_rfl; exact hS; apply wm_take 5; exact rfl; intro _ hw_; apply opv_idxR (T := tyIs) (hr := hw_) (hu := hi0); exact rfl; exact rfl; exact rfl; exact rfl; kernel_rfl; exact hS; apply wm_take 6; exact rfl; intro _ hw_; refine opv_loadR tyIs rfl hw_ hi0; exact rfl; kernel_rfl; exact hS; apply wm_take 7; exact rfl; intro _ hw_; apply opv_move; exact rfl; exact rfl; kernel_rfl; exact hS; apply wm_take 8; exact rfl; intro _ hw_; apply opv_idxR (T := tyIs) (hr := hw_) (hu := hi1); exact rfl; exact rfl; exact rfl; exact rfl; kernel_rfl; exact hS; apply wm_take 9; exact rfl; intro _ hw_; refine opv_loadR tyIs rfl hw_ hi1; exact rfl; kernel_rfl; exact hS; apply wm_take 10; exact rfl; intro _ hw_; apply opv_move; exact rfl; exact rfl; kernel_rfl; exact hS; apply wm_take 11; exact rfl; intro _ hw_; apply opv_idxR (T := tyIs) (hr := hw_) (hu := hi2); exact rfl; exact rfl; exact rfl; exact rfl; kernel_rfl; exact hS; apply wm_take 12; exact rfl; intro _ hw_; refine opv_loadR tyIs rfl hw_ hi2; exact rfl; kernel_rfl; exact hS; apply wm_take 13; exact rfl; intro _ hw_; apply opv_move; exact rfl; exact rfl; kernel_rfl; exact hS; apply wm_take 14; exact rfl; intro _ hw_; apply opv_idxR (T := tyIs) (hr := hw_) (hu := hi3); exact rfl; exact rfl; exact rfl; exact rfl; kernel_rfl; exact hS; apply wm_take 15; exact rfl; intro _ hw_; refine opv_loadR tyIs rfl hw_ hi3; exact rfl; kernel_rfl; exact hS
      clear hS
      have hS := (hs.ow 0 rfl).rd
      apply wm_takeP 16; exact rfl; intro _; apply opv_nilOk; exact rfl; exact rfl; kernel_rfl; exact fun _ => hS; apply wm_takeP 17; exact rfl; intro _; apply opv_fa; exact fa_Pk1; exact rfl; exact rfl; kernel_rfl; exact fun _ => hS
      clear hS
      refine wm_one 18 (by kernel_rfl) rfl ?_; dsimp only [List.getElem_toArray, List.getElem_cons_succ, List.getElem_cons_zero]
      apply ws_st hs 2; exact rfl; exact rfl; exact g1_int; exact rfl; exact rfl; exact rfl; clear hs; intro _ hs; dsimp only [setC, List.set] at hs; refine wl_nil ?_
      refine we_heldM (fun _ => (hs.ow 0 rfl).rd) ?_
      have hS := (hs.ow 0 rfl).rd
      apply wm_takeP 19; exact rfl; intro _; apply opv_nilOk; exact rfl; exact rfl; kernel_rfl; exact fun _ => hS; apply wm_takeP 20; exact rfl; intro _; apply opv_fa; exact fa_Pk2; exact rfl; exact rfl; kernel_rfl; exact fun _ => hS
      clear hS
      refine wm_one 21 (by kernel_rfl) rfl ?_; dsimp only [List.getElem_toArray, List.getElem_cons_succ, List.getElem_cons_zero]
      apply ws_st hs 2; exact rfl; exact rfl; exact g1_int; exact rfl; exact rfl; exact rfl; clear hs; intro _ hs; dsimp only [setC, List.set] at hs; refine wl_nil ?_
      refine we_heldM (fun _ => (hs.ow 0 rfl).rd) ?_
      have hS := (hs.ow 0 rfl).rd
      apply wm_takeP 22; exact rfl; intro _; apply opv_nilOk; exact rfl; exact rfl; kernel_rfl; exact fun _ => hS; apply wm_takeP 23; exact rfl; intro _; apply opv_fa; exact fa_Pk3; exact rfl; exact rfl; kernel_rfl; exact fun _ => hS
      clear hS
      refine wm_one 24 (by kernel_rfl) rfl ?_; dsimp only [List.getElem_toArray, List.getElem_cons_succ, List.getElem_cons_zero]
      apply ws_st hs 2; exact rfl; exact rfl; exact g1_int; exact rfl; exact rfl; exact rfl; clear hs; intro _ hs; dsimp only [setC, List.set] at hs; refine wl_nil ?_
      refine we_heldM (fun _ => (hs.ow 0 rfl).rd) ?_
      have hS := (hs.ow 0 rfl).rd
      apply wm_takeP 25; exact rfl; intro _; apply opv_nilOk; exact rfl; exact rfl; kernel_rfl; exact fun _ => hS; apply wm_takeP 26; exact rfl; intro _; apply opv_fa; exact fa_Pk4; exact rfl; exact rfl; kernel_rfl; exact fun _ => hS
      clear hS
      refine wm_one 27 (by kernel_rfl) rfl ?_; dsimp only [List.getElem_toArray, List.getElem_cons_succ, List.getElem_cons_zero]
      apply ws_st hs 2; exact rfl; exact rfl; exact g1_int; exact rfl; exact rfl; exact rfl; clear hs; intro _ hs; dsimp only [setC, List.set] at hs; refine wl_nil ?_
      refine we_heldM (fun h => absurd h (by decide)) ?_
      refine wm_done (by kernel_rfl) ?_
      replace hs := hs.drop 0 rfl
      dsimp only [delC] at hs
      exact we_cut _ ⟨⟨2, a, b, d, e, 0, 0, (0, 0), 0, zMsg, zRes, []⟩, r1, A1, c1, rfl, rfl, rfl, rfl, rfl, fields_2 hx1, hr1, hl1, hs⟩ ⟨rfl, rfl, trivial⟩
    by_cases k3 : k = 3
    · subst k3
      apply wc_condFb; exact rfl; exact rfl; refine wc_sr ?_; refine wl_bin rfl rfl bin_eql rfl ?_; refine wl_as rfl rfl ?_; refine wl_ns ?_; apply wc_condFb; exact rfl; exact rfl; refine wc_sr ?_; refine wl_bin rfl rfl bin_eql rfl ?_; refine wl_as rfl rfl ?_; refine wl_ns ?_; apply wc_condTb; exact rfl; exact rfl; refine wc_sr ?_; refine wl_mv rfl rfl ?_
      obtain ⟨S2, hS2, hB2, hM2, hH2, hB⟩ := St.lend (H1 := [rdP g A c r]) (H2 := [_]) hs
      refine wl_call ok_session_reader_ints (srints_any (n := 7) hS2 (fun w' k => hK w' (hM2 w' k)) hr (by decide) hl) ⟨rfl, rfl, trivial⟩ rfl ?_
      rintro _ _ ⟨O, co, A1, c1, rfl, hr1, hsx⟩
      replace hs := hB _ _ hsx
      clear hsx hB hH2 hM2 hB2 hS2
      dsimp only [List.cons_append, List.nil_append] at hs
      have hnl := intsR_len 7 r
      have hl1 := ints_rest (n := 7) hl
      obtain ⟨⟨ns, r1⟩, hx1⟩ : ∃ x, intsR 7 r = x := ⟨_, rfl⟩
      rw [hx1] at hs hr1 hnl hl1
      dsimp only at hs hr1 hnl hl1
      generalize hn0 : ns.getD 0 0 = a
      generalize hn1 : ns.getD 1 0 = b
      generalize hn2 : ns.getD 2 0 = d
      generalize hn3 : ns.getD 3 0 = e
      generalize hn4 : ns.getD 4 0 = f
      generalize hn5 : ns.getD 5 0 = h
      generalize hn6 : ns.getD 6 0 = i
      have hns : ns = [a, b, d, e, f, h, i] := by rw [← hn0, ← hn1, ← hn2, ← hn3, ← hn4, ← hn5, ← hn6]; exact get7 hnl
      clear hn0 hn1 hn2 hn3 hn4 hn5 hn6
      subst hns
      clear hnl
      have hi0 : (iVs [a, b, d, e, f, h, i])[0]? = some (.int .i64 a) := rfl
      have hi1 : (iVs [a, b, d, e, f, h, i])[1]? = some (.int .i64 b) := rfl
      have hi2 : (iVs [a, b, d, e, f, h, i])[2]? = some (.int .i64 d) := rfl
      have hi3 : (iVs [a, b, d, e, f, h, i])[3]? = some (.int .i64 e) := rfl
      have hi4 : (iVs [a, b, d, e, f, h, i])[4]? = some (.int .i64 f) := rfl
      have hi5 : (iVs [a, b, d, e, f, h, i])[5]? = some (.int .i64 h) := rfl
      have hi6 : (iVs [a, b, d, e, f, h, i])[6]? = some (.int .i64 i) := rfl
      refine wl_as rfl rfl ?_; refine wl_ns ?_
      refine wc_heldG (fun w' => Rd w' O 7 (iVs [a, b, d, e, f, h, i])) 48 mixed ?_
      replace hs := hs.below (Below.refl _ _).drew
      have hS := (hs.ow 0 rfl).rd
      apply wm_take 0; exact rfl; intro _ hw_; apply opv_move; exact rfl; exact rfl; kernel_rfl; exact hS; apply wm_take 1; exact rfl; intro _ hw_; apply opv_move; exact rfl; exact rfl; kernel_rfl; exact hS; apply wm_take 2; exact rfl; intro _ hw_; apply opv_move; exact rfl; exact rfl; kernel_rfl; exact hS; apply wm_take 3; exact rfl; intro _ hw_; apply opv_move; exact rfl; exact rfl; kernel_rfl; exact hS; apply wm_take 4; exact rfl; intro _ hw_; apply opv_move; exact rfl; exact rfl; kernel_rfl; exact hS; apply wm_take 5; exact rfl; intro _ hw_; apply opv_move; exact rfl; exact rfl; kernel_rfl; exact hS; apply wm_take 6; exact rfl; intro _ hw_; apply opv_move; exact rfl; exact rfl; kernel_rfl; exact hS; apply wm_take 7; exact rfl; intro _ hw_; apply opv_move; exact rfl; exact rfl; kernel_rfl; exact hS; apply wm_take 8; exact rfl; intro _ hw_; apply opv_idxR (T := tyIs) (hr := hw_) (hu := hi0); exact rfl; exact rfl; exact rfl; exact rfl; kernel_rfl; exact hS; apply wm_take 9; exact rfl; intro _ hw_; refine opv_loadR tyIs rfl hw_ hi0; exact rfl; kernel_rfl; exact hS; apply wm_take 10; exact rfl; intro _ hw_; apply opv_move; exact rfl; exact rfl; kernel_rfl; exact hS; apply wm_take 11; exact rfl; intro _ hw_; apply opv_idxR (T := tyIs) (hr := hw_) (hu := hi1); exact rfl; exact rfl; exact rfl; exact rfl; kernel_rfl; exact hS; apply wm_take 12; exact rfl; intro _ hw_; refine opv_loadR tyIs rfl hw_ hi1; exact rfl; kernel_rfl; exact hS; apply wm_take 13; exact rfl; intro _ hw_; apply opv_move; exact rfl; exact rfl; kernel_rfl; exact hS; apply wm_take 14; exact rfl; intro _ hw_; apply opv_idxR (T := tyIs) (hr := hw_) (hu := hi2); exact rfl; exact rfl; exact rfl; exact rfl; kernel_rfl; exact hS; apply wm_take 15; exact rfl; intro _ hw_; refine opv_loadR tyIs rfl hw_ hi2; exact rfl; kernel_rfl; exact hS; apply wm_take 16; exact rfl; intro _ hw_; apply opv_move; exact rfl; exact rfl; kernel_rfl; exact hS; apply wm_take 17; exact rfl; intro _ hw_; apply opv_idxR (T := tyIs) (hr := hw_) (hu := hi3); exact rfl; exact rfl; exact rfl; exact rfl; kernel_rfl; exact hS; apply wm_take 18; exact rfl; intro _ hw_; refine opv_loadR tyIs rfl hw_ hi3; exact rfl; kernel_rfl; exact hS; apply wm_take 19; exact rfl; intro _ hw_; apply opv_move; exact rfl; exact rfl; kernel_rfl; exact hS; apply wm_take 20; exact rfl; intro _ hw_; apply opv_idxR (T := tyIs) (hr := hw_) (hu := hi4); exact rfl; exact rfl; exact rfl; exact rfl; kernel_rfl; exact hS; apply wm_take 21; exact rfl; intro _ hw_; refine opv_loadR tyIs rfl hw_ hi4; exact rfl; kernel_rfl; exact hS; apply wm_take 22; exact rfl; intro _ hw_; apply opv_move; exact rfl; exact rfl; kernel_rfl; exact hS; apply wm_take 23; exact rfl; intro _ hw_; apply opv_idxR (T := tyIs) (hr := hw_) (hu := hi5); exact rfl; exact rfl; exact rfl; exact rfl; kernel_rfl; exact hS; apply wm_take 24; exact rfl; intro _ hw_; refine opv_loadR tyIs rfl hw_ hi5; exact rfl; kernel_rfl; exact hS; apply wm_take 25; exact rfl; intro _ hw_; apply opv_move; exact rfl; exact rfl; kernel_rfl; exact hS; apply wm_take 26; exact rfl; intro _ hw_; apply opv_idxR (T := tyIs) (hr := hw_) (hu := hi6); exact rfl; exact rfl; exact rfl; exact rfl; kernel_rfl; exact hS; apply wm_take 27; exact rfl; intro _ hw_; refine opv_loadR tyIs rfl hw_ hi6; exact rfl; kernel_rfl; exact hS
      clear hS
      have hS := (hs.ow 0 rfl).rd
      apply wm_takeP 28; exact rfl; intro _; apply opv_nilOk; exact rfl; exact rfl; kernel_rfl; exact fun _ => hS; apply wm_takeP 29; exact rfl; intro _; apply opv_fa; exact fa_Pk1; exact rfl; exact rfl; kernel_rfl; exact fun _ => hS
      clear hS
      refine wm_one 30 (by kernel_rfl) rfl ?_; dsimp only [List.getElem_toArray, List.getElem_cons_succ, List.getElem_cons_zero]
      apply ws_st hs 2; exact rfl; exact rfl; exact g1_int; exact rfl; exact rfl; exact rfl; clear hs; intro _ hs; dsimp only [setC, List.set] at hs; refine wl_nil ?_
      refine we_heldM (fun _ => (hs.ow 0 rfl).rd) ?_
      have hS := (hs.ow 0 rfl).rd
      apply wm_takeP 31; exact rfl; intro _; apply opv_nilOk; exact rfl; exact rfl; kernel_rfl; exact fun _ => hS; apply wm_takeP 32; exact rfl; intro _; apply opv_fa; exact fa_Pk2; exact rfl; exact rfl; kernel_rfl; exact fun _ => hS
      clear hS
      refine wm_one 33 (by kernel_rfl) rfl ?_; dsimp only [List.getElem_toArray, List.getElem_cons_succ, List.getElem_cons_zero]
      apply ws_st hs 2; exact rfl; exact rfl; exact g1_int; exact rfl; exact rfl; exact rfl; clear hs; intro _ hs; dsimp only [setC, List.set] at hs; refine wl_nil ?_
      refine we_heldM (fun _ => (hs.ow 0 rfl).rd) ?_
      have hS := (hs.ow 0 rfl).rd
      apply wm_takeP 34; exact rfl; intro _; apply opv_nilOk; exact rfl; exact rfl; kernel_rfl; exact fun _ => hS; apply wm_takeP 35; exact rfl; intro _; apply opv_fa; exact fa_Pk3; exact rfl; exact rfl; kernel_rfl; exact fun _ => hS
      clear hS
      refine wm_one 36 (by kernel_rfl) rfl ?_; dsimp only [List.getElem_toArray, List.getElem_cons_succ, List.getElem_cons_zero]
      apply ws_st hs 2; exact rfl; exact rfl; exact g1_int; exact rfl; exact rfl; exact rfl; clear hs; intro _ hs; dsimp only [setC, List.set] at hs; refine wl_nil ?_
      refine we_heldM (fun _ => (hs.ow 0 rfl).rd) ?_
      have hS := (hs.ow 0 rfl).rd
      apply wm_takeP 37; exact rfl; intro _; apply opv_nilOk; exact rfl; exact rfl; kernel_rfl; exact fun _ => hS; apply wm_takeP 38; exact rfl; intro _; apply opv_fa; exact fa_Pk4; exact rfl; exact rfl; kernel_rfl; exact fun _ => hS
      clear hS
      refine wm_one 39 (by kernel_rfl) rfl ?_; dsimp only [List.getElem_toArray, List.getElem_cons_succ, List.getElem_cons_zero]
      apply ws_st hs 2; exact rfl; exact rfl; exact g1_int; exact rfl; exact rfl; exact rfl; clear hs; intro _ hs; dsimp only [setC, List.set] at hs; refine wl_nil ?_
      refine we_heldM (fun _ => (hs.ow 0 rfl).rd) ?_
      have hS := (hs.ow 0 rfl).rd
      apply wm_takeP 40; exact rfl; intro _; apply opv_nilOk; exact rfl; exact rfl; kernel_rfl; exact fun _ => hS; apply wm_takeP 41; exact rfl; intro _; apply opv_fa; exact fa_Pk5; exact rfl; exact rfl; kernel_rfl; exact fun _ => hS
      clear hS
      refine wm_one 42 (by kernel_rfl) rfl ?_; dsimp only [List.getElem_toArray, List.getElem_cons_succ, List.getElem_cons_zero]
      apply ws_st hs 2; exact rfl; exact rfl; exact g1_int; exact rfl; exact rfl; exact rfl; clear hs; intro _ hs; dsimp only [setC, List.set] at hs; refine wl_nil ?_
      refine we_heldM (fun _ => (hs.ow 0 rfl).rd) ?_
      have hS := (hs.ow 0 rfl).rd
      apply wm_takeP 43; exact rfl; intro _; apply opv_nilOk; exact rfl; exact rfl; kernel_rfl; exact fun _ => hS; apply wm_takeP 44; exact rfl; intro _; apply opv_fa; exact fa_Pk8; exact rfl; exact rfl; kernel_rfl; exact fun _ => hS
      clear hS
      refine wm_one 45 (by kernel_rfl) rfl ?_; dsimp only [List.getElem_toArray, List.getElem_cons_succ, List.getElem_cons_zero]
      apply ws_st hs 2; exact rfl; exact rfl; exact g1_err; exact rfl; exact rfl; exact rfl; clear hs; intro _ hs; dsimp only [setC, List.set] at hs; refine wl_nil ?_
      refine we_heldM (fun _ => (hs.ow 0 rfl).rd) ?_
      have hS := (hs.ow 0 rfl).rd
      apply wm_takeP 46; exact rfl; intro _; apply opv_nilOk; exact rfl; exact rfl; kernel_rfl; exact fun _ => hS; apply wm_takeP 47; exact rfl; intro _; apply opv_fa; exact fa_Pk6; exact rfl; exact rfl; kernel_rfl; exact fun _ => hS
      clear hS
      refine wm_one 48 (by kernel_rfl) rfl ?_; dsimp only [List.getElem_toArray, List.getElem_cons_succ, List.getElem_cons_zero]
      apply ws_st hs 2; exact rfl; exact rfl; exact g1_int; exact rfl; exact rfl; exact rfl; clear hs; intro _ hs; dsimp only [setC, List.set] at hs; refine wl_nil ?_
      refine we_heldM (fun h => absurd h (by decide)) ?_
      refine wm_done (by kernel_rfl) ?_
      replace hs := hs.drop 0 rfl
      dsimp only [delC] at hs
      exact we_cut _ ⟨⟨3, a, b, d, e, f, i, (0, 0), h, zMsg, zRes, []⟩, r1, A1, c1, rfl, rfl, rfl, rfl, rfl, fields_3 hx1, hr1, hl1, hs⟩ ⟨rfl, rfl, trivial⟩
    by_cases k4 : k = 4
    · subst k4
      apply wc_condFb; exact rfl; exact rfl; refine wc_sr ?_; refine wl_bin rfl rfl bin_eql rfl ?_; refine wl_as rfl rfl ?_; refine wl_ns ?_; apply wc_condFb; exact rfl; exact rfl; refine wc_sr ?_; refine wl_bin rfl rfl bin_eql rfl ?_; refine wl_as rfl rfl ?_; refine wl_ns ?_; apply wc_condFb; exact rfl; exact rfl; refine wc_sr ?_; refine wl_bin rfl rfl bin_eql rfl ?_; refine wl_as rfl rfl ?_; refine wl_ns ?_; apply wc_condTb; exact rfl; exact rfl; refine wc_region ?_; refine wl_mv rfl rfl ?_; refine wl_mv rfl rfl ?_
      obtain ⟨S2, hS2, hB2, hM2, hH2, hB⟩ := St.lend (H1 := [rdP g A c r]) (H2 := [_]) hs
      refine wl_call ok_session_reader_ints (srints_any (n := 1) hS2 (fun w' k => hK w' (hM2 w' k)) hr (by decide) hl) ⟨rfl, rfl, trivial⟩ rfl ?_
      rintro _ _ ⟨O, co, A1, c1, rfl, hr1, hsx⟩
      replace hs := hB _ _ hsx
      clear hsx hB hH2 hM2 hB2 hS2
      dsimp only [List.cons_append, List.nil_append] at hs
      have hnl := intsR_len 1 r
      have hl1 := ints_rest (n := 1) hl
      obtain ⟨⟨ns, r1⟩, hx1⟩ : ∃ x, intsR 1 r = x := ⟨_, rfl⟩
      rw [hx1] at hs hr1 hnl hl1
      dsimp only at hs hr1 hnl hl1
      generalize hn0 : ns.getD 0 0 = a
      have hns : ns = [a] := by rw [← hn0]; exact get1 hnl
      clear hn0
      subst hns
      clear hnl
      have hi0 : (iVs [a])[0]? = some (.int .i64 a) := rfl
      refine wl_val (opv_idxR (kk := 0) (u := .int .i64 a) tyIs rfl rfl (hs.ow 0 rfl).rd rfl rfl) rfl ?_
      refine wl_val (opv_loadR (kk := 0) (u := .int .i64 a) tyIs rfl (hs.ow 0 rfl).rd rfl) rfl ?_
      apply wl_val; apply opv_nilOk; exact rfl; exact rfl; apply wl_val; apply opv_fa; exact fa_Pk2; exact rfl; exact rfl; apply ws_st hs 2; exact rfl; exact rfl; exact g1_int; exact rfl; exact rfl; exact rfl; clear hs; intro _ hs; dsimp only [setC, List.set] at hs; refine wl_nil ?_; refine we_block_norm ?_
      replace hs := hs.drop 0 rfl
      dsimp only [delC] at hs
      exact we_cut _ ⟨⟨4, 0, a, 0, 0, 0, 0, (0, 0), 0, zMsg, zRes, []⟩, r1, A1, c1, rfl, rfl, rfl, rfl, rfl, fields_4 hx1, hr1, hl1, hs⟩ ⟨rfl, rfl, trivial⟩
    by_cases k5 : k = 5
    · subst k5
      apply wc_condFb; exact rfl; exact rfl; refine wc_sr ?_; refine wl_bin rfl rfl bin_eql rfl ?_; refine wl_as rfl rfl ?_; refine wl_ns ?_; apply wc_condFb; exact rfl; exact rfl; refine wc_sr ?_; refine wl_bin rfl rfl bin_eql rfl ?_; refine wl_as rfl rfl ?_; refine wl_ns ?_; apply wc_condFb; exact rfl; exact rfl; refine wc_sr ?_; refine wl_bin rfl rfl bin_eql rfl ?_; refine wl_as rfl rfl ?_; refine wl_ns ?_; apply wc_condFb; exact rfl; exact rfl; refine wc_sr ?_; refine wl_bin rfl rfl bin_eql rfl ?_; refine wl_as rfl rfl ?_; refine wl_ns ?_; apply wc_condTb; exact rfl; exact rfl; refine wc_sr ?_; refine wl_mv rfl rfl ?_
      obtain ⟨S2, hS2, hB2, hM2, hH2, hB⟩ := St.lend (H1 := [rdP g A c r]) (H2 := [_]) hs
      refine wl_call ok_session_reader_ints (srints_any (n := 2) hS2 (fun w' k => hK w' (hM2 w' k)) hr (by decide) hl) ⟨rfl, rfl, trivial⟩ rfl ?_
      rintro _ _ ⟨O, co, A1, c1, rfl, hr1, hsx⟩
      replace hs := hB _ _ hsx
      clear hsx hB hH2 hM2 hB2 hS2
      dsimp only [List.cons_append, List.nil_append] at hs
      have hnl := intsR_len 2 r
      have hl1 := ints_rest (n := 2) hl
      obtain ⟨⟨ns, r1⟩, hx1⟩ : ∃ x, intsR 2 r = x := ⟨_, rfl⟩
      rw [hx1] at hs hr1 hnl hl1
      dsimp only at hs hr1 hnl hl1
      generalize hn0 : ns.getD 0 0 = a
      generalize hn1 : ns.getD 1 0 = b
      have hns : ns = [a, b] := by rw [← hn0, ← hn1]; exact get2 hnl
      clear hn0 hn1
      subst hns
      clear hnl
      have hi0 : (iVs [a, b])[0]? = some (.int .i64 a) := rfl
      have hi1 : (iVs [a, b])[1]? = some (.int .i64 b) := rfl
      refine wl_as rfl rfl ?_; refine wl_ns ?_
      refine wc_heldG (fun w' => Rd w' O 2 (iVs [a, b])) 13 mixed ?_
      replace hs := hs.below (Below.refl _ _).drew
      have hS := (hs.ow 0 rfl).rd
      apply wm_take 0; exact rfl; intro _ hw_; apply opv_move; exact rfl; exact rfl; kernel_rfl; exact hS; apply wm_take 1; exact rfl; intro _ hw_; apply opv_move; exact rfl; exact rfl; kernel_rfl; exact hS; apply wm_take 2; exact rfl; intro _ hw_; apply opv_move; exact rfl; exact rfl; kernel_rfl; exact hS; apply wm_take 3; exact rfl; intro _ hw_; apply opv_idxR (T := tyIs) (hr := hw_) (hu := hi0); exact rfl; exact rfl; exact rfl; exact rfl; kernel_rfl; exact hS; apply wm_take 4; exact rfl; intro _ hw_; refine opv_loadR tyIs rfl hw_ hi0; exact rfl; kernel_rfl; exact hS; apply wm_take 5; exact rfl; intro _ hw_; apply opv_move; exact rfl; exact rfl; kernel_rfl; exact hS; apply wm_take 6; exact rfl; intro _ hw_; apply opv_idxR (T := tyIs) (hr := hw_) (hu := hi1); exact rfl; exact rfl; exact rfl; exact rfl; kernel_rfl; exact hS; apply wm_take 7; exact rfl; intro _ hw_; refine opv_loadR tyIs rfl hw_ hi1; exact rfl; kernel_rfl; exact hS
      clear hS
      have hS := (hs.ow 0 rfl).rd
      apply wm_takeP 8; exact rfl; intro _; apply opv_nilOk; exact rfl; exact rfl; kernel_rfl; exact fun _ => hS; apply wm_takeP 9; exact rfl; intro _; apply opv_fa; exact fa_Pk1; exact rfl; exact rfl; kernel_rfl; exact fun _ => hS
      clear hS
      refine wm_one 10 (by kernel_rfl) rfl ?_; dsimp only [List.getElem_toArray, List.getElem_cons_succ, List.getElem_cons_zero]
      apply ws_st hs 2; exact rfl; exact rfl; exact g1_int; exact rfl; exact rfl; exact rfl; clear hs; intro _ hs; dsimp only [setC, List.set] at hs; refine wl_nil ?_
      refine we_heldM (fun _ => (hs.ow 0 rfl).rd) ?_
      have hS := (hs.ow 0 rfl).rd
      apply wm_takeP 11; exact rfl; intro _; apply opv_nilOk; exact rfl; exact rfl; kernel_rfl; exact fun _ => hS; apply wm_takeP 12; exact rfl; intro _; apply opv_fa; exact fa_Pk8; exact rfl; exact rfl; kernel_rfl; exact fun _ => hS
      clear hS
      refine wm_one 13 (by kernel_rfl) rfl ?_; dsimp only [List.getElem_toArray, List.getElem_cons_succ, List.getElem_cons_zero]
      apply ws_st hs 2; exact rfl; exact rfl; exact g1_err; exact rfl; exact rfl; exact rfl; clear hs; intro _ hs; dsimp only [setC, List.set] at hs; refine wl_nil ?_
      refine we_heldM (fun h => absurd h (by decide)) ?_
      refine wm_done (by kernel_rfl) ?_
      replace hs := hs.drop 0 rfl
      dsimp only [delC] at hs
      exact we_cut _ ⟨⟨5, a, 0, 0, 0, 0, 0, (0, 0), b, zMsg, zRes, []⟩, r1, A1, c1, rfl, rfl, rfl, rfl, rfl, fields_5 hx1, hr1, hl1, hs⟩ ⟨rfl, rfl, trivial⟩
    have hf := fields_no (r := r) k1 k2 k3 k4 k5
    obtain ⟨rows, e⟩ := r
    unfold rdP rdV at hs
    dsimp only at hs
    rw [hf]
    apply wc_decF; exact rfl; (with_reducible assumption); refine wc_sr ?_; refine wl_bin rfl rfl bin_eql rfl ?_; refine wl_as rfl rfl ?_; refine wl_ns ?_; apply wc_decF; exact rfl; (with_reducible assumption); refine wc_sr ?_; refine wl_bin rfl rfl bin_eql rfl ?_; refine wl_as rfl rfl ?_; refine wl_ns ?_; apply wc_decF; exact rfl; (with_reducible assumption); refine wc_sr ?_; refine wl_bin rfl rfl bin_eql rfl ?_; refine wl_as rfl rfl ?_; refine wl_ns ?_; apply wc_decF; exact rfl; (with_reducible assumption); refine wc_sr ?_; refine wl_bin rfl rfl bin_eql rfl ?_; refine wl_as rfl rfl ?_; refine wl_ns ?_; apply wc_decF; exact rfl; (with_reducible assumption); refine wc_sr ?_; refine wl_mv rfl rfl ?_; apply wl_val; apply opv_nilOk; exact rfl; exact rfl; apply wl_val; apply opv_fa; exact fa_Rd1; exact rfl; exact rfl; apply ws_st hs 0; exact rfl; exact rfl; exact g1_err; exact rfl; exact rfl; exact rfl; clear hs; intro _ hs; dsimp only [setC, List.set] at hs; refine wl_ns ?_; refine wc_ret ?_; refine we_block_ret ?_; refine we_cut_ret ?_
    refine we_ret0 rfl ⟨_, rfl, A, c, none, 0, none, 0, none, 0, none, 0, none, 0, none, 0, ?_, fun _ _ => Ow.nil _ _ _⟩
    have h2 := hs.kpNil (K := PkK base ⟨k, 0, 0, 0, 0, 0, 0, (0, 0), 0, zMsg, zRes, []⟩ none none none none none 0 0) fun w => ⟨msK0 _ _, reK0 _ _⟩
    have h3 := h2.front 2 rfl
    exact h3.front 2 rfl
  · clear hs hr hl h0
    rintro _ w1 ⟨p, r1, A1, c1, rfl, hpm, hpr, hpd, hpk, hf, hr1, hl1, hs⟩
    obtain ⟨kd, fr, to, sh, ro, cm0, ld, tx, code, m0, x0, d0⟩ := p
    dsimp only at hpm hpr hpd hpk
    subst hpm hpr hpd hpk
    unfold pkZ at hs
    dsimp only at hs
    rw [hf]
    unfold tailR
    dsimp only
    refine wc_sr ?_; refine wl_mv rfl rfl ?_
    obtain ⟨S2, hS2, hB2, hM2, hH2, hB⟩ := St.lend (H1 := [rdP g A1 c1 r1]) (H2 := [_]) hs
    refine wl_call ok_session_reader_words (swords_any (n := 2) hS2 (fun w' k => hK w' (hM2 w' k)) hr1 (by decide) hl1) ⟨rfl, rfl, trivial⟩ rfl ?_
    rintro _ _ ⟨O, co, A2, c2, rfl, hr2, hsx⟩
    replace hs := hB _ _ hsx
    clear hsx hB hH2 hM2 hB2 hS2
    dsimp only [List.cons_append, List.nil_append] at hs
    have hw2 := wordsR_len 2 r1
    have hl2 := words_rest (n := 2) hl1
    obtain ⟨⟨ws, r2⟩, hx2⟩ : ∃ x, wordsR 2 r1 = x := ⟨_, rfl⟩
    rw [hx2] at hs hr2 hw2 hl2 ⊢
    dsimp only at hs hr2 hw2 hl2 ⊢
    generalize hm0 : ws.getD 0 0 = s
    generalize hm1 : ws.getD 1 0 = q
    have hws : ws = [s, q] := by rw [← hm0, ← hm1]; exact get2 hw2
    clear hm0 hm1
    subst hws
    clear hw2
    have hj0 : (wVs [s, q])[0]? = some (.int .u64 (s : Int)) := rfl
    have hj1 : (wVs [s, q])[1]? = some (.int .u64 (q : Int)) := rfl
    refine wl_as rfl rfl ?_; refine wl_ns ?_; refine wc_seq ?_
    refine wc_cutE (fun L w' => L = [(0, .pointer (some ⟨g, 0, none⟩)), (1, .pointer (some ⟨gp, 0, none⟩))] ∧ St S w w' [rdP g A2 c2 r2, .blk gp 42 (pkZ ⟨kd, fr, to, sh, ro, cm0, ld, (s, q), code, zMsg, zRes, []⟩)]) ?_ ?_
    · refine wc_heldG (fun w' => Rd w' O 2 (wVs [s, q])) 10 mixed ?_
      replace hs := hs.below (Below.refl _ _).drew
      have hS := (hs.ow 0 rfl).rd
      apply wm_take 0; exact rfl; intro _ hw_; apply opv_move; exact rfl; exact rfl; kernel_rfl; exact hS; apply wm_take 1; exact rfl; intro _ hw_; apply opv_move; exact rfl; exact rfl; kernel_rfl; exact hS; apply wm_take 2; exact rfl; intro _ hw_; apply opv_idxR (T := tyWs) (hr := hw_) (hu := hj0); exact rfl; exact rfl; exact rfl; exact rfl; kernel_rfl; exact hS; apply wm_take 3; exact rfl; intro _ hw_; refine opv_loadR tyWs rfl hw_ hj0; exact rfl; kernel_rfl; exact hS; apply wm_take 4; exact rfl; intro _ hw_; apply opv_move; exact rfl; exact rfl; kernel_rfl; exact hS; apply wm_take 5; exact rfl; intro _ hw_; apply opv_idxR (T := tyWs) (hr := hw_) (hu := hj1); exact rfl; exact rfl; exact rfl; exact rfl; kernel_rfl; exact hS; apply wm_take 6; exact rfl; intro _ hw_; refine opv_loadR tyWs rfl hw_ hj1; exact rfl; kernel_rfl; exact hS
      clear hS
      refine wm_one 7 (by kernel_rfl) rfl ?_; dsimp only [List.getElem_toArray, List.getElem_cons_succ, List.getElem_cons_zero]
      refine wl_val (opv_build (vs := [(0, .int .u64 (s : Int)), (1, .int .u64 (q : Int))]) (cs := [.int .u64 (s : Int), .int .u64 (q : Int)]) ⟨rfl, rfl, rfl, rfl, trivial⟩ (by kernel_rfl)) rfl ?_
      refine wl_nil ?_
      refine we_heldM (fun _ => (hs.ow 0 rfl).rd) ?_
      have hS := (hs.ow 0 rfl).rd
      apply wm_takeP 8; exact rfl; intro _; apply opv_nilOk; exact rfl; exact rfl; kernel_rfl; exact fun _ => hS; apply wm_takeP 9; exact rfl; intro _; apply opv_fa; exact fa_Pk7; exact rfl; exact rfl; kernel_rfl; exact fun _ => hS
      clear hS
      refine wm_one 10 (by kernel_rfl) rfl ?_; dsimp only [List.getElem_toArray, List.getElem_cons_succ, List.getElem_cons_zero]
      refine ws_stM (ds := [.int .u64 (s : Int), .int .u64 (q : Int)]) hs 2 rfl rfl rfl sTxn (Nat.le_of_ble_eq_true rfl) rfl ?_
      clear hs; intro _ hs; dsimp only [setC, putN, List.set] at hs
      refine wl_nil ?_
      refine we_heldM (fun h => absurd h (by decide)) ?_
      refine wm_done (by kernel_rfl) ?_
      replace hs := hs.drop 0 rfl
      exact we_cut _ ⟨rfl, hs⟩ ⟨rfl, rfl, trivial⟩
    rintro _ w2 ⟨rfl, hs⟩
    unfold pkZ at hs
    dsimp only at hs
    refine we_seq ?_; refine wc_sr ?_; refine wl_mv rfl rfl ?_; apply wl_val; apply opv_nilOk; exact rfl; exact rfl; apply wl_val; apply opv_fa; exact fa_Pk0; exact rfl; exact rfl; apply wl_val; apply opv_ldX; exact rfl; exact hs.ar 1 rfl; exact g1_int; exact rfl; exact rfl; refine wl_bin rfl rfl bin_eql rfl ?_; refine wl_ns ?_
    by_cases k3 : kd = 3
    · subst k3
      rw [if_pos rfl]
      apply wc_condTb; exact rfl; exact rfl; refine wc_region ?_; refine wl_mv rfl rfl ?_; refine wl_mv rfl rfl ?_
      obtain ⟨S2, hS2, hB2, hM2, hH2, hB⟩ := St.lend (H1 := [rdP g A2 c2 r2]) (H2 := [_]) hs
      refine wl_call ok_session_reader_result (sresult_any hS2 (fun w' k => hK w' (hM2 w' k)) hr2 (Nat.le_trans hb hs.size) hl2) ⟨rfl, trivial⟩ rfl ?_
      rintro _ _ ⟨A3, c3, P, cp, W, cw, Y, cy, rfl, hr3, hsx⟩
      replace hs := hB _ _ hsx
      clear hsx hB hH2 hM2 hB2 hS2
      dsimp only [List.cons_append, List.nil_append] at hs
      apply wl_val; apply opv_nilOk; exact rfl; exact rfl; apply wl_val; apply opv_fa; exact fa_Pk10; exact rfl; exact rfl
      refine ws_stM (ds := reV (resR r2).1 P cp W cw Y cy) hs 2 rfl rfl rfl sRe (Nat.le_of_ble_eq_true rfl) rfl ?_
      clear hs; intro _ hs; dsimp only [setC] at hs
      refine wl_nil ?_
      refine we_end0 rfl ⟨_, rfl, A3, c3, none, 0, none, 0, P, cp, W, cw, Y, cy, none, 0, ?_, fun _ _ => Ow.nil _ _ _⟩
      have h2 := (hs.front 1 rfl).kpMono (K' := PkK base ⟨3, fr, to, sh, ro, cm0, ld, (s, q), code, zMsg, (resR r2).1, []⟩ none none P W Y 0 cy) fun w h => ⟨msK0 _ _, h⟩
      have h3 := h2.front 2 rfl
      exact h3.front 2 rfl
    · rw [if_neg k3]
      apply wc_decF; exact rfl; (with_reducible assumption); refine wc_region ?_; refine wl_mv rfl rfl ?_; refine wl_mv rfl rfl ?_
      obtain ⟨S2, hS2, hB2, hM2, hH2, hB⟩ := St.lend (H1 := [rdP g A2 c2 r2]) (H2 := [_]) hs
      refine wl_call ok_session_reader_next (snext_any hS2 (fun w' k => hK w' (hM2 w' k)) hr2) ⟨rfl, trivial⟩ rfl ?_
      rintro _ _ ⟨D, cd, A3, c3, rfl, hD, hr3, hsx⟩
      replace hs := hB _ _ hsx
      clear hsx hB hH2 hM2 hB2 hS2
      dsimp only [List.cons_append, List.nil_append] at hs
      obtain ⟨⟨dt, r3⟩, hx3⟩ : ∃ x, nextR r2 = x := ⟨_, rfl⟩
      rw [hx3] at hs hD ⊢
      dsimp only at hs hD ⊢
      apply wl_val; apply opv_nilOk; exact rfl; exact rfl; apply wl_val; apply opv_fa; exact fa_Pk11; exact rfl; exact rfl; apply ws_st hs 1; exact rfl; exact rfl; exact g1_by; exact rfl; exact rfl; exact rfl; clear hs; intro _ hs; dsimp only [setC, List.set] at hs; refine wl_nil ?_
      refine we_end0 rfl ⟨_, rfl, A3, c3, none, 0, none, 0, none, 0, none, 0, none, 0, D, cd, ?_, hD⟩
      have h2 := hs.kpNil (K := PkK base ⟨kd, fr, to, sh, ro, cm0, ld, (s, q), code, zMsg, zRes, dt⟩ none none none none none 0 0) fun w => ⟨msK0 _ _, reK0 _ _⟩
      have h3 := h2.front 2 rfl
      exact h3.front 2 rfl
end Go.Proofs.Ytaacnknniaipmaa

/-
  The walk over Read of packets.
-/
namespace Go.Proofs.Ytaacnknniaipmaa
open Go.RowKit

theorem openB_len {b body : By} {x e : Nat} (h : openB b 0 = (body, x, e)) : body.length ≤ b.length := by
  by_cases he : e = 0
  · subst he
    obtain ⟨h1, h2, _⟩ := openB_inv (Nat.zero_le _) h
    omega
  · have := (openB_err' h he).1
    simp [this]
def RdRes (w : World) (x : PkM × Nat) (v : Value) (w' : World) : Prop := ∃ (E : Option Addr) (ce : Nat) (M : Option Addr) (cm : Nat) (P : Option Addr) (cp : Nat) (W : Option Addr) (cw : Nat) (Y : Option Addr) (cy : Nat) (D : Option Addr) (cd : Nat),
  v = .tuple #[.agg (pkV x.1 (msV x.1.msg E ce M cm) (reV x.1.res P cp W cw Y cy) D cd).toArray, .int .i64 (x.2 : Int)] ∧ St NoB w w' [.ck (kp fun w' => PkK w.heap.size x.1 E M P W Y cm cy w' ∧ OwB w' w.heap.size D cd x.1.data)]
theorem RdRes.no {w w' : World} {e : Nat} {H : List Cd} {v : Value} (hs : St NoB w w' H) (hv : v = .tuple #[.agg (pkZ zPk).toArray, .int .i64 (e : Int)]) : RdRes w (zPk, e) v w' :=
  ⟨none, 0, none, 0, none, 0, none, 0, none, 0, none, 0, hv, hs.nil.kpNil fun w' => ⟨⟨msK0 _ _, reK0 _ _⟩, Ow.nil _ _ _⟩⟩
set_option maxHeartbeats 8000000 in
set_option maxRecDepth 8000 in
theorem sread_any {A : Option Addr} {n c : Nat} {xs : By} {w : World} (hr : RdB w A xs) (hn : xs.length = n) (hc : xs.length ≤ c) (hl : xs.length ≤ 1099511627776) :
    CallsV Try.prog 24 #[.slice A n c] w (RdRes w (readP xs)) := by
  subst hn
  have hs := St.init w
  have hmax : maxLen = 9223372036854775807 := rfl
  unfold readP
  refine calls_in (N := _) Try.func24 rfl Try.ntmps24 rfl ?_; show WC _ _ _ _ _ _
  refine wc_sr ?_
  refine ws_new hs zeroPk rfl ?_; clear hs; intro g2 _ hs
  refine wl_as rfl rfl ?_; refine wl_ns ?_; refine wc_sr ?_; refine wl_mv rfl rfl ?_
  refine wl_call ok_crc_Open (open_any (p := 0) (hr.below hs.bel) rfl hc (by omega)) ⟨rfl, rfl, trivial⟩ rfl ?_
  rintro _ _ ⟨B, cb, rfl, o_, hbx⟩
  replace hs := hs.newO hbx o_ (Nat.le_refl _)
  clear o_ hbx
  obtain ⟨⟨bd, nx, e1⟩, ho⟩ : ∃ z, openB xs 0 = z := ⟨_, rfl⟩
  have hbl := openB_len ho
  rw [ho] at hs ⊢
  dsimp only at hs ⊢
  refine wl_mv rfl rfl ?_; apply wl_val; apply opv_extract; exact rfl; exact rfl; exact rfl; apply wl_val; apply opv_extract; exact rfl; exact rfl; exact rfl; apply wl_val; apply opv_extract; exact rfl; exact rfl; exact rfl; refine wl_as rfl rfl ?_; refine wl_as rfl rfl ?_; refine wl_as rfl rfl ?_; refine wl_ns ?_; refine wc_seq ?_; refine wc_sr ?_; refine wl_mv rfl rfl ?_; refine wl_bin rfl rfl bin_neq rfl ?_; refine wl_ns ?_
  by_cases he1 : e1 = 0
  · subst he1
    rw [if_pos rfl]
    apply wc_condFb; exact rfl; exact rfl; refine wc_skip ?_; refine we_seq ?_; refine wc_seq ?_; refine wc_sr ?_; refine wl_mv rfl rfl ?_; refine wl_mv rfl rfl ?_; apply wl_val; apply opv_len; exact rfl; exact tyB.sl; exact rfl; refine wl_bin rfl rfl bin_lss rfl ?_; refine wl_ns ?_
    by_cases hnx : nx < xs.length
    · rw [if_pos hnx]
      have hnx' : (nx : Int) < (xs.length : Int) := by omega
      apply wc_decT; exact rfl; (with_reducible assumption); refine wc_sr ?_
      refine wl_val (opv_build (vs := []) (cs := pkZ zPk) trivial (by kernel_rfl)) rfl ?_
      apply ws_stS hs 1; exact rfl; exact rfl; exact rfl; exact sPk; exact rfl; exact rfl; clear hs; intro _ hs; dsimp only [setC] at hs; refine wl_as rfl rfl ?_; refine wl_ns ?_; refine wc_ret ?_; refine we_seq_ret ?_
      exact we_retC1 rfl rfl rfl (hs.ar 1 rfl) sPk ⟨_, rfl, RdRes.no hs rfl⟩
    rw [if_neg hnx]
    have hnx' : ¬ (nx : Int) < (xs.length : Int) := by omega
    apply wc_decF; exact rfl; (with_reducible assumption); refine wc_skip ?_; refine we_seq ?_; refine wc_sr ?_; refine wl_mv rfl rfl ?_
    have hbd := hs.ow 0 rfl
    refine wl_call ok_session_open (sopen_any (hs.ow 0 rfl).rd rfl (OwB.cap hbd) (by omega)) ⟨rfl, trivial⟩ rfl ?_
    rintro _ _ ⟨g, B1, cb1, K1, rfl, hk1, hsx⟩
    have hsz := hs.size
    have hsz2 : w.heap.size ≤ w.heap.size := Nat.le_refl _
    have hk1 := hk1.low hsz
    replace hs := (hs.call hsx).drop 2 rfl
    clear hsx hbd
    dsimp only [List.cons_append, List.nil_append, delC] at hs
    have hpl : ∀ p ∈ (parts bd).1, p.length ≤ 1099511627776 := fun q hq => by have := parts_le hq; omega
    obtain ⟨r, hrr⟩ : ∃ r, parts bd = r := ⟨_, rfl⟩
    rw [hrr] at hs hk1 hpl ⊢
    refine wl_as rfl rfl ?_; refine wl_ns ?_; refine wc_sr ?_; refine wl_mv rfl rfl ?_
    obtain ⟨S2, hS2, hB2, hM2, hH2, hB⟩ := St.lend (H1 := [rdP g B1 cb1 r]) (H2 := [_, _]) hs
    refine wl_call ok_session_reader_ints (srints_any (n := 1) hS2 (fun w' k => Sat.kp (i := 0) (hH2 w' k) rfl) hk1 (by decide) hpl) ⟨rfl, rfl, trivial⟩ rfl ?_
    rintro _ _ ⟨O, co, A1, c1, rfl, hr1, hsx⟩
    replace hs := hB _ _ hsx
    clear hsx hB hH2 hM2 hB2 hS2
    dsimp only [List.cons_append, List.nil_append] at hs
    have hn1 := intsR_len 1 r
    have hl1 := ints_rest (n := 1) hpl
    unfold bodyR
    dsimp only
    obtain ⟨⟨ns, r1⟩, hx1⟩ : ∃ x, intsR 1 r = x := ⟨_, rfl⟩
    rw [hx1] at hs hr1 hn1 hl1 ⊢
    dsimp only at hs hr1 hn1 hl1 ⊢
    obtain ⟨k, rfl⟩ : ∃ k, ns = [k] := ⟨_, get1 (z := 0) hn1⟩
    clear hn1
    simp only [List.getD_cons_zero]
    refine wl_val (opv_idxR (kk := 0) (u := .int .i64 k) tyIs rfl rfl (hs.ow 0 rfl).rd rfl rfl) rfl ?_
    refine wl_val (opv_loadR (kk := 0) (u := .int .i64 k) tyIs rfl (hs.ow 0 rfl).rd rfl) rfl ?_
    replace hs := hs.drop 0 rfl
    dsimp only [delC] at hs
    refine wl_val (opv_build (vs := [(0, .int .i64 k)]) (cs := pkZ { zPk with kind := k }) ⟨rfl, rfl, trivial⟩ (by kernel_rfl)) rfl ?_
    refine ws_var (cs := pkZ { zPk with kind := k }) hs zeroPk sPk rfl (fun _ => rfl) (by first | rfl | simp [Value.oneCell']) rfl ?_; clear hs; intro g8 _ hs
    refine wl_ns ?_
    obtain ⟨⟨y, rz⟩, hy⟩ : ∃ z, (if r1.2 = 0 then fieldsR k r1 else ({ zPk with kind := k }, r1)) = z := ⟨_, rfl⟩
    rw [hy]
    dsimp only
    refine wc_cut (fun L w' => ∃ (A' : Option Addr) (c' : Nat) (E : Option Addr) (ce : Nat) (M : Option Addr) (cm : Nat) (P : Option Addr) (cp : Nat) (W : Option Addr) (cw : Nat) (Y : Option Addr) (cy : Nat) (D : Option Addr) (cd : Nat), L = [(2, .pointer (some ⟨g2, 0, none⟩)), (7, .pointer (some ⟨g, 0, none⟩)), (8, .pointer (some ⟨g8, 0, none⟩))] ∧
      St NoB w w' [rdP g A' c' rz, .blk g8 42 (pkV y (msV y.msg E ce M cm) (reV y.res P cp W cw Y cy) D cd), .blk g2 42 (pkZ zPk), .ck (kp fun w' => PkK w.heap.size y E M P W Y cm cy w' ∧ OwB w' w.heap.size D cd y.data)]) ?_ ?_
    · refine wc_sr ?_; refine wl_mv rfl rfl ?_; apply wl_val; apply opv_nilOk; exact rfl; exact rfl; apply wl_val; apply opv_fa; exact fa_Rd1; exact rfl; exact rfl; apply wl_val; apply opv_ldX; exact rfl; exact hs.ar 1 rfl; exact g1_err; exact rfl; exact rfl; refine wl_bin rfl rfl bin_eql rfl ?_; refine wl_ns ?_
      by_cases he2 : r1.2 = 0
      · rw [if_pos he2] at hy
        replace hs := hs.front 1 rfl
        dsimp only [delC] at hs
        unfold rdP rdV at hs
        apply wc_decT; exact rfl; omega; refine wc_region ?_; refine wl_mv rfl rfl ?_
        obtain ⟨S2, hS2, hB2, hM2, hH2, hB⟩ := St.lend (H1 := [rdP g A1 c1 r1, .blk g8 _ _]) (H2 := [_, _]) hs
        refine wl_call ok_session_reader_fields (sfields_any hS2 (fun w' k => Sat.kp (i := 0) (hH2 w' k) rfl) hr1 (Nat.le_trans hsz2 hs.size) hl1) ⟨rfl, rfl, trivial⟩ rfl ?_
        rintro _ _ ⟨A2, c2, E, ce, M, cm, P, cp, W, cw, Y, cy, D, cd, hsx, hD⟩
        replace hs := hB _ _ hsx
        clear hsx hB hH2 hM2 hB2 hS2
        dsimp only [List.cons_append, List.nil_append] at hs
        rw [hy] at hs hD
        dsimp only at hs hD
        refine we_cut _ ⟨A2, c2, E, ce, M, cm, P, cp, W, cw, Y, cy, D, cd, rfl, ?_⟩ ⟨rfl, rfl, rfl, trivial⟩
        have h2 := hs.front 3 rfl
        dsimp only [delC] at h2
        have h3 := h2.front 3 rfl
        dsimp only [delC] at h3
        have h4 := (St.kpAnd h3).kpMono (K' := fun w' => PkK w.heap.size y E M P W Y cm cy w' ∧ OwB w' w.heap.size D cd y.data) fun w' ⟨k1, k2⟩ => ⟨k1, hD w' k2⟩
        exact (((h4.front 3 rfl).front 3 rfl).front 3 rfl)
      · rw [if_neg he2] at hy
        cases hy
        unfold rdP rdV at hs
        apply wc_decF; exact rfl; omega; refine wc_skip ?_
        refine we_cut _ ⟨A1, c1, none, 0, none, 0, none, 0, none, 0, none, 0, none, 0, rfl, ?_⟩ ⟨rfl, rfl, rfl, trivial⟩
        have h2 := (hs.drop 2 rfl).kpNil (K := fun w' => PkK w.heap.size { zPk with kind := k } none none none none none 0 0 w' ∧ OwB w' w.heap.size none 0 []) fun w' => ⟨⟨msK0 _ _, reK0 _ _⟩, Ow.nil _ _ _⟩
        exact (((h2.front 3 rfl).front 2 rfl).front 3 rfl)
    · clear hs hr1 hl1
      rintro _ w9 ⟨A', c', E, ce, M, cm, P, cp, W, cw, Y, cy, D, cd, rfl, hs⟩
      obtain ⟨rows, e⟩ := rz
      unfold rdP rdV pkZ zPk at hs
      dsimp only at hs
      refine wc_seq ?_; refine wc_sr ?_; refine wl_mv rfl rfl ?_; apply wl_val; apply opv_nilOk; exact rfl; exact rfl; apply wl_val; apply opv_fa; exact fa_Rd1; exact rfl; exact rfl; apply wl_val; apply opv_ldX; exact rfl; exact hs.ar 0 rfl; exact g1_err; exact rfl; exact rfl; refine wl_bin rfl rfl bin_eql rfl ?_; refine wl_mv rfl rfl ?_
      by_cases he : e = 0
      · subst he
        cases rows with
        | nil =>
          rw [show endE (([] : List By), 0) = 0 from rfl]
          rw [if_pos rfl]
          unfold pkV msV reV at hs
          dsimp only [List.cons_append, List.nil_append] at hs
          apply wl_take; exact rfl; exact rfl; exact rfl; refine bT ?_; omega; refine wl_mv rfl rfl ?_; apply wl_take; exact rfl; exact rfl; exact rfl; refine bT ?_; omega; apply wl_val; apply opv_nilOk; exact rfl; exact rfl; apply wl_take; exact rfl; exact rfl; exact rfl; refine bT ?_; omega; apply wl_val; apply opv_fa; exact fa_Rd0; exact rfl; exact rfl; apply wl_take; exact rfl; exact rfl; exact rfl; refine bT ?_; omega; apply wl_val; apply opv_ldX; exact rfl; exact hs.ar 0 rfl; exact g1_bbs; exact rfl; exact rfl; apply wl_take; exact rfl; exact rfl; exact rfl; refine bT ?_; omega; apply wl_val; apply opv_len; exact rfl; exact tyBB.sl; exact rfl; apply wl_take; exact rfl; exact rfl; exact rfl; refine bT ?_; omega; refine wl_bin rfl rfl bin_gtr rfl ?_; apply wl_val; apply opv_pickT; exact rfl; refine bT ?_; omega; exact rfl; exact rfl; refine wl_ns ?_; apply wc_condFb; exact rfl; exact rfl; refine wc_skip ?_; refine we_seq ?_; refine wc_seq ?_; refine wc_sr ?_; refine wl_mv rfl rfl ?_; apply wl_val; apply opv_nilOk; exact rfl; exact rfl; apply wl_val; apply opv_fa; exact fa_Rd1; exact rfl; exact rfl; apply wl_val; apply opv_ldX; exact rfl; exact hs.ar 0 rfl; exact g1_err; exact rfl; exact rfl; refine wl_bin rfl rfl bin_neq rfl ?_; refine wl_ns ?_; apply wc_condFb; exact rfl; exact rfl; refine wc_skip ?_; refine we_seq ?_; refine wc_sr ?_; apply wl_val; apply opv_loadX; exact rfl; exact hs.ar 1 rfl; exact sPk; exact rfl; apply ws_stS hs 2; exact rfl; exact rfl; exact rfl; exact sPk; exact rfl; exact rfl; clear hs; intro _ hs; dsimp only [setC] at hs; refine wl_as rfl rfl ?_; refine wl_ns ?_; refine wc_ret ?_
          exact we_retC1 rfl rfl rfl (hs.ar 2 rfl) sPk ⟨_, rfl, E, ce, M, cm, P, cp, W, cw, Y, cy, D, cd, rfl, ((((hs.front 3 rfl).drop 1 rfl).drop 1 rfl).drop 1 rfl)⟩
        | cons x xs2 =>
          rw [show endE (x :: xs2, 0) = 3 by unfold endE; rw [if_pos ⟨rfl, by simp⟩]]
          rw [if_neg (by decide)]
          have hlt : (0 : Int) < ((x :: xs2).length : Int) := by rw [List.length_cons]; omega
          apply wl_take; exact rfl; exact rfl; exact rfl; refine bT ?_; omega; refine wl_mv rfl rfl ?_; apply wl_take; exact rfl; exact rfl; exact rfl; refine bT ?_; omega; apply wl_val; apply opv_nilOk; exact rfl; exact rfl; apply wl_take; exact rfl; exact rfl; exact rfl; refine bT ?_; omega; apply wl_val; apply opv_fa; exact fa_Rd0; exact rfl; exact rfl; apply wl_take; exact rfl; exact rfl; exact rfl; refine bT ?_; omega; apply wl_val; apply opv_ldX; exact rfl; exact hs.ar 0 rfl; exact g1_bbs; exact rfl; exact rfl; apply wl_take; exact rfl; exact rfl; exact rfl; refine bT ?_; omega; apply wl_val; apply opv_len; exact rfl; exact tyBB.sl; exact rfl; apply wl_take; exact rfl; exact rfl; exact rfl; refine bT ?_; omega; refine wl_bin rfl rfl bin_gtr rfl ?_; apply wl_val; apply opv_pickT; exact rfl; refine bT ?_; omega; exact rfl; exact rfl; refine wl_ns ?_; apply wc_decT; exact rfl; (with_reducible assumption); refine wc_region ?_; refine wl_mv rfl rfl ?_; apply wl_val; apply opv_nilOk; exact rfl; exact rfl; apply wl_val; apply opv_fa; exact fa_Rd1; exact rfl; exact rfl; apply ws_st hs 0; exact rfl; exact rfl; exact g1_err; exact rfl; exact rfl; exact rfl; clear hs; intro _ hs; dsimp only [setC, List.set] at hs; refine wl_ns ?_; refine wc_seq ?_; refine wc_sr ?_; refine wl_mv rfl rfl ?_; apply wl_val; apply opv_nilOk; exact rfl; exact rfl; apply wl_val; apply opv_fa; exact fa_Rd1; exact rfl; exact rfl; apply wl_val; apply opv_ldX; exact rfl; exact hs.ar 0 rfl; exact g1_err; exact rfl; exact rfl; refine wl_bin rfl rfl bin_neq rfl ?_; refine wl_ns ?_; apply wc_condTb; exact rfl; exact rfl; refine wc_seq ?_
          refine wc_heldG (fun w' => Ar w' g 142 [.slice A' (x :: xs2).length c', .int .i64 (3 : Int)]) 6 mixed ?_
          replace hs := hs.below (Below.refl _ _).drew
          have hS := hs.ar 0 rfl
          apply wm_take 1; exact rfl; intro _ hw_; apply opv_move; exact rfl; exact rfl; kernel_rfl; exact hS; apply wm_take 2; exact rfl; intro _ hw_; apply opv_nilOk; exact rfl; exact rfl; kernel_rfl; exact hS; apply wm_take 3; exact rfl; intro _ hw_; apply opv_fa; exact fa_Rd1; exact rfl; exact rfl; kernel_rfl; exact hS; apply wm_take 4; exact rfl; intro _ hw_; apply opv_ldX; exact rfl; assumption; exact g1_err; exact rfl; exact rfl; kernel_rfl; exact hS
          refine wm_takeP 0 rfl (fun _ => opv_build (vs := []) (cs := pkZ zPk) trivial (by kernel_rfl)) rfl (by kernel_rfl) (fun _ => hS) ?_
          clear hS
          refine wm_one 5 (by kernel_rfl) rfl ?_; dsimp only [List.getElem_toArray, List.getElem_cons_succ, List.getElem_cons_zero]
          apply ws_stS hs 2; exact rfl; exact rfl; exact rfl; exact sPk; exact rfl; exact rfl; clear hs; intro _ hs; dsimp only [setC] at hs; refine wl_nil ?_
          refine we_heldM (fun _ => hs.ar 0 rfl) ?_
          refine wm_one 6 (by kernel_rfl) rfl ?_; dsimp only [List.getElem_toArray, List.getElem_cons_succ, List.getElem_cons_zero]
          refine wl_as rfl rfl ?_; refine wl_nil ?_
          refine we_heldM (fun h => absurd h (by decide)) ?_
          refine wm_done (by kernel_rfl) ?_
          refine we_seq ?_; refine wc_ret ?_; refine we_seq_ret ?_
          exact we_retC1 rfl rfl rfl (hs.ar 2 rfl) sPk ⟨_, rfl, RdRes.no hs rfl⟩
      · rw [show endE (rows, e) = e by unfold endE; rw [if_neg (fun k => he k.1)]]
        rw [if_neg he]
        apply wl_skip; exact rfl; exact rfl; exact rfl; refine bFn ?_; omega; exact rfl; apply wl_skip; exact rfl; exact rfl; exact rfl; refine bFn ?_; omega; exact rfl; apply wl_skip; exact rfl; exact rfl; exact rfl; refine bFn ?_; omega; exact rfl; apply wl_skip; exact rfl; exact rfl; exact rfl; refine bFn ?_; omega; exact rfl; apply wl_skip; exact rfl; exact rfl; exact rfl; refine bFn ?_; omega; exact rfl; apply wl_skip; exact rfl; exact rfl; exact rfl; refine bFn ?_; omega; exact rfl; apply wl_val; apply opv_pickF; exact rfl; refine bF ?_; omega; exact rfl; exact rfl; refine wl_ns ?_; apply wc_condFb; exact rfl; exact rfl; refine wc_skip ?_; refine we_seq ?_; refine wc_seq ?_; refine wc_sr ?_; refine wl_mv rfl rfl ?_; apply wl_val; apply opv_nilOk; exact rfl; exact rfl; apply wl_val; apply opv_fa; exact fa_Rd1; exact rfl; exact rfl; apply wl_val; apply opv_ldX; exact rfl; exact hs.ar 0 rfl; exact g1_err; exact rfl; exact rfl; refine wl_bin rfl rfl bin_neq rfl ?_; refine wl_ns ?_; apply wc_decT; exact rfl; omega; refine wc_seq ?_
        refine wc_heldG (fun w' => Ar w' g 142 [.slice A' rows.length c', .int .i64 (e : Int)]) 6 mixed ?_
        replace hs := hs.below (Below.refl _ _).drew
        have hS := hs.ar 0 rfl
        apply wm_take 1; exact rfl; intro _ hw_; apply opv_move; exact rfl; exact rfl; kernel_rfl; exact hS; apply wm_take 2; exact rfl; intro _ hw_; apply opv_nilOk; exact rfl; exact rfl; kernel_rfl; exact hS; apply wm_take 3; exact rfl; intro _ hw_; apply opv_fa; exact fa_Rd1; exact rfl; exact rfl; kernel_rfl; exact hS; apply wm_take 4; exact rfl; intro _ hw_; apply opv_ldX; exact rfl; assumption; exact g1_err; exact rfl; exact rfl; kernel_rfl; exact hS
        refine wm_takeP 0 rfl (fun _ => opv_build (vs := []) (cs := pkZ zPk) trivial (by kernel_rfl)) rfl (by kernel_rfl) (fun _ => hS) ?_
        clear hS
        refine wm_one 5 (by kernel_rfl) rfl ?_; dsimp only [List.getElem_toArray, List.getElem_cons_succ, List.getElem_cons_zero]
        apply ws_stS hs 2; exact rfl; exact rfl; exact rfl; exact sPk; exact rfl; exact rfl; clear hs; intro _ hs; dsimp only [setC] at hs; refine wl_nil ?_
        refine we_heldM (fun _ => hs.ar 0 rfl) ?_
        refine wm_one 6 (by kernel_rfl) rfl ?_; dsimp only [List.getElem_toArray, List.getElem_cons_succ, List.getElem_cons_zero]
        refine wl_as rfl rfl ?_; refine wl_nil ?_
        refine we_heldM (fun h => absurd h (by decide)) ?_
        refine wm_done (by kernel_rfl) ?_
        refine we_seq ?_; refine wc_ret ?_; refine we_seq_ret ?_
        exact we_retC1 rfl rfl rfl (hs.ar 2 rfl) sPk ⟨_, rfl, RdRes.no hs rfl⟩
  · rw [if_neg he1]
    apply wc_decT; exact rfl; omega; refine wc_sr ?_
    refine wl_val (opv_build (vs := []) (cs := pkZ zPk) trivial (by kernel_rfl)) rfl ?_
    refine wl_mv rfl rfl ?_; apply ws_stS hs 1; exact rfl; exact rfl; exact rfl; exact sPk; exact rfl; exact rfl; clear hs; intro _ hs; dsimp only [setC] at hs; refine wl_as rfl rfl ?_; refine wl_ns ?_; refine wc_ret ?_; refine we_seq_ret ?_
    exact we_retC1 rfl rfl rfl (hs.ar 1 rfl) sPk ⟨_, rfl, RdRes.no hs rfl⟩
end Go.Proofs.Ytaacnknniaipmaa

/-
  Walks over the client of session and awake of its laws.
-/
namespace Go.Proofs.Ytaacnknniaipmaa
open Go.RowKit

/-- A name's cells. -/
def txW (x : Nat × Nat) : List Value := [.int .u64 (x.1 : Int), .int .u64 (x.2 : Int)]
theorem bin_eqlTw (x y : Nat × Nat) : BinV Try.prog .eql 29 (.agg (txW x).toArray) (.agg (txW y).toArray) (.bool (decide (x = y))) := .mk fun u v w => by
  have hf : Try.prog.underlying 29 = some (.struct (Try.prog.fieldsOf 29)) := by kernel_rfl
  have hp : Try.prog.stoodInHeld 29 = false := by kernel_rfl
  have hg : Try.prog.eqGuardType Try.prog.depth 29 = false := by kernel_rfl
  have h1 := run_eqGuard_agg (P := Try.prog) w .eql 29 u v (txW x).toArray (txW y).toArray hg
  have h2 := run_equalIn_agg (P := Try.prog) w 9999 29 (txW x).toArray (txW y).toArray hf hp
  have h3 := run_eql_struct (P := Try.prog) w 29 (txW x).toArray (txW y).toArray
  have h4 : (Op.eqFields 9999 (txW x).toArray (txW y).toArray (Try.prog.fieldsOf 29).toList).run Try.prog w = .ok (decide (x = y)) w := by
    have e : (Try.prog.fieldsOf 29).toList.map (fun f => (f.name, f.type, f.offset)) = [("Session", 22, 0), ("Seq", 22, 1)] := by kernel_rfl
    obtain ⟨f1, f2, hfs, e1, e2⟩ : ∃ f1 f2 : Field, (Try.prog.fieldsOf 29).toList = [f1, f2] ∧ (f1.name, f1.type, f1.offset) = ("Session", 22, 0) ∧ (f2.name, f2.type, f2.offset) = ("Seq", 22, 1) := by
      generalize (Try.prog.fieldsOf 29).toList = l at e
      match l, e with
      | [f1, f2], e => simp only [List.map_cons, List.map_nil, List.cons.injEq, and_true] at e; exact ⟨f1, f2, rfl, e.1, e.2⟩
      | [], e => simp at e
      | [_], e => simp at e
      | _ :: _ :: _ :: _, e => simp at e
    simp only [Prod.mk.injEq] at e1 e2
    obtain ⟨n1, t1, o1⟩ := e1
    obtain ⟨n2, t2, o2⟩ := e2
    rw [hfs]
    have hi : ∀ a b : Int, (Op.equalIn 9999 22 (.int .u64 a) (.int .u64 b)).run Try.prog w = .ok (a == b) w := fun a b => run_equalIn_int (P := Try.prog) w 9998 22 .u64 .u64 a b Try.underlying22
    have hpt : ∀ (z : Nat × Nat) , (part 22 (txW z).toArray 0).run Try.prog w = .ok (.int .u64 (z.1 : Int)) w ∧ (part 22 (txW z).toArray 1).run Try.prog w = .ok (.int .u64 (z.2 : Int)) w := fun z => by
      obtain ⟨j, hj, hs⟩ : ∃ j, Try.prog.info? 22 = some j ∧ j.size = 1 := by
        have hq : (Try.prog.info? 22).map (·.size) = some 1 := by kernel_rfl
        cases hk : Try.prog.info? 22 with
        | none => rw [hk] at hq; cases hq
        | some j => rw [hk] at hq; exact ⟨j, rfl, by simpa using hq⟩
      constructor <;> simp [part, isAgg, run_underlying Try.underlying22, sizeOf, typeInfo, hj, hs, txW]
    simp only [Op.eqFields, n1, n2, t1, t2, o1, o2]
    simp only [Sem.run_bind, (hpt x).1, (hpt y).1, (hpt x).2, (hpt y).2, Result.andThen_ok, hi, Sem.run_ite, Sem.run_pure]
    by_cases k1 : x.1 = y.1
    · by_cases k2 : x.2 = y.2
      · have : x = y := Prod.ext k1 k2
        simp [this, hi]
      · have : ¬ x = y := fun h => k2 (by rw [h])
        have k2' : ((x.2 : Int) == (y.2 : Int)) = false := by simp; omega
        simp [k1, this, hi, k2']
    · have : ¬ x = y := fun h => k1 (by rw [h])
      have k1' : ((x.1 : Int) == (y.1 : Int)) = false := by simp; omega
      simp [this, hi, k1']
  rw [Sem.run_bind, h1]
  simp only [Result.andThen_ok, h3, h2, h4]
theorem fa_Cl0 : FieldAt Try.prog 98 0 0 := fieldAt_mk Try.underlying98 rfl rfl (by kernel_rfl)
theorem fa_Cl1 : FieldAt Try.prog 98 1 1 := fieldAt_mk Try.underlying98 rfl rfl (by kernel_rfl)
theorem fa_Cl2 : FieldAt Try.prog 98 2 2 := fieldAt_mk Try.underlying98 rfl rfl (by kernel_rfl)
theorem fa_Cl3 : FieldAt Try.prog 98 3 3 := fieldAt_mk Try.underlying98 rfl rfl (by kernel_rfl)
/-- A client. -/
def clV (ses seq : Nat) (A : Option Addr) (n c : Nat) (busy : Bool) (R : Option Addr) (m d : Nat) : List Value := [.int .u64 (ses : Int), .int .u64 (seq : Int), .slice A n c, .bool busy, .slice R m d]
theorem zeroTx : (Try.prog.info? 29).map (·.zero) = some (some (.agg (txW (0, 0)).toArray)) := by kernel_rfl
theorem cnew_any (s : Nat) (w : World) : CallsV Try.prog 8 #[.int .u64 (s : Int)] w fun v w' => ∃ g, v = .pointer (some ⟨g, 0, none⟩) ∧ St NoB w w' [.blk g 98 (clV s 0 none 0 0 false none 0 0)] := by
  have hs := St.init w
  refine calls_in (N := _) Try.func8 rfl Try.ntmps8 rfl ?_; show WC _ _ _ _ _ _
  refine wc_sr ?_; refine wl_as rfl rfl ?_; refine wl_ns ?_; refine wc_sr ?_; refine wl_mv rfl rfl ?_
  refine wl_val (opv_build (vs := [(0, .int .u64 (s : Int))]) (cs := clV s 0 none 0 0 false none 0 0) ⟨rfl, rfl, trivial⟩ (by kernel_rfl)) rfl ?_
  refine ws_box (cs := clV s 0 none 0 0 false none 0 0) hs rfl rfl ?_; clear hs; intro g1 _ hs
  refine wl_as rfl rfl ?_; refine wl_ns ?_; refine wc_ret ?_
  exact we_ret1 rfl rfl ⟨_, rfl, g1, rfl, hs⟩
theorem ctxn_any {g ses seq n c m d : Nat} {A R : Option Addr} {busy : Bool} {w : World} (ha : Ar w g 98 (clV ses seq A n c busy R m d)) :
    CallsV Try.prog 30 #[.pointer (some ⟨g, 0, none⟩)] w fun v w' => v = .agg (txW (ses, seq)).toArray ∧ Below w.heap.size w w' := by
  have hs := St.init w
  unfold clV at ha
  refine calls_in (N := _) Try.func30 rfl Try.ntmps30 rfl ?_; show WC _ _ _ _ _ _
  refine wc_sr ?_
  refine ws_new hs zeroTx rfl ?_; clear hs; intro g2 _ hs
  unfold txW at hs
  refine wl_ns ?_; refine wc_seq ?_
  have ha2 := ha.bel hs.bel
  refine wc_heldG (fun w' => Ar w' g 98 [.int .u64 (ses : Int), .int .u64 (seq : Int), .slice A n c, .bool busy, .slice R m d]) 9 mixed ?_
  replace hs := hs.below (Below.refl _ _).drew
  have hS := ha2.bel (Below.refl _ _).drew
  apply wm_take 0; exact rfl; intro _ hw_; apply opv_move; exact rfl; exact rfl; kernel_rfl; exact hS; apply wm_take 1; exact rfl; intro _ hw_; apply opv_nilOk; exact rfl; exact rfl; kernel_rfl; exact hS; apply wm_take 2; exact rfl; intro _ hw_; apply opv_fa; exact fa_Cl0; exact rfl; exact rfl; kernel_rfl; exact hS; apply wm_take 3; exact rfl; intro _ hw_; apply opv_ldX; exact rfl; assumption; exact g1_u64; exact rfl; exact rfl; kernel_rfl; exact hS; apply wm_take 4; exact rfl; intro _ hw_; apply opv_move; exact rfl; exact rfl; kernel_rfl; exact hS; apply wm_take 5; exact rfl; intro _ hw_; apply opv_nilOk; exact rfl; exact rfl; kernel_rfl; exact hS; apply wm_take 6; exact rfl; intro _ hw_; apply opv_fa; exact fa_Cl1; exact rfl; exact rfl; kernel_rfl; exact hS; apply wm_take 7; exact rfl; intro _ hw_; apply opv_ldX; exact rfl; assumption; exact g1_u64; exact rfl; exact rfl; kernel_rfl; exact hS
  refine wm_takeP 8 rfl (fun _ => opv_build (vs := [(0, .int .u64 (ses : Int)), (1, .int .u64 (seq : Int))]) (cs := txW (ses, seq)) ⟨rfl, rfl, rfl, rfl, trivial⟩ (by kernel_rfl)) rfl (by kernel_rfl) (fun _ => hS) ?_
  clear hS
  refine wm_one 9 (by kernel_rfl) rfl ?_; dsimp only [List.getElem_toArray, List.getElem_cons_succ, List.getElem_cons_zero]
  apply ws_stS hs 0; exact rfl; exact rfl; exact rfl; exact sTxn; exact rfl; exact rfl; clear hs; intro _ hs; dsimp only [setC] at hs; refine wl_nil ?_
  refine we_heldM (fun h => absurd h (by decide)) ?_
  refine wm_done (by kernel_rfl) ?_
  refine we_seq ?_; refine wc_ret ?_
  exact we_retC rfl rfl (hs.ar 0 rfl) sTxn ⟨_, rfl, rfl, hs.bel⟩
theorem enc0_any (w : World) : CallsV Try.prog 11 #[.slice none 0 0] w (RetW w []) := by
  have hs := St.init w
  refine calls_in (N := _) Try.func11 rfl Try.ntmps11 rfl ?_; show WC _ _ _ _ _ _
  refine wc_sr ?_; refine wl_as rfl rfl ?_; refine wl_ns ?_; refine wc_sr ?_; refine wl_as rfl rfl ?_; refine wl_ns ?_; refine wc_seq ?_; refine wc_sr ?_; refine wl_mv rfl rfl ?_; apply wl_val; apply opv_len; exact rfl; exact Try.underlying48; exact rfl; refine wl_mv rfl rfl ?_; refine wl_ns ?_; refine wc_block ?_
  refine wc_loop (fun L wr mm => L = [(3, .slice none 0 0), (6, .slice none 0 0), (7, .int .i64 ((0 : Nat) : Int)), (8, .int .i64 ((0 : Nat) : Int))] ∧ St NoB w wr [] ∧ mm = 0) [(3, .slice none 0 0), (6, .slice none 0 0), (7, .int .i64 ((0 : Nat) : Int)), (8, .int .i64 ((0 : Nat) : Int))] 0 ⟨rfl, hs, rfl⟩ ⟨rfl, rfl, rfl, rfl, trivial⟩ ?_
  rintro _ w1 _ ⟨rfl, hs, rfl⟩
  refine wc_sr ?_; refine wl_bin rfl rfl bin_lss rfl ?_; refine wl_ns ?_; refine wc_seq ?_; apply wc_condFb; exact rfl; exact rfl; refine wc_exit ?_; refine we_seq_exit ?_; refine we_loop_exit ?_; refine we_block_exit ?_; refine we_seq ?_; refine wc_sr ?_; refine wl_mv rfl rfl ?_
  refine wl_call ok_codec_Frame (frame_any (rows := []) (A := none) (n := 0) (c := 0) ⟨[], Rd.nil _ _, fun i r h => by simp at h⟩ rfl (by simp)) ⟨rfl, trivial⟩ rfl ?_
  rintro _ _ ⟨B, cb, rfl, o_, hbx⟩
  replace hs := hs.newO hbx o_ (Nat.le_refl _)
  refine wl_as rfl rfl ?_; refine wl_ns ?_; refine wc_ret ?_
  exact we_ret1 rfl rfl ⟨_, rfl, B, cb, rfl, hs⟩
section
variable {g ses seq n c m d k q : Nat} {A R O : Option Addr} {S : BS} {w : World} {enc : By}
theorem cask_busy (h0 : Sat w [.blk g 98 (clV ses seq A n c true R m d)] S) :
    CallsV Try.prog 9 #[.pointer (some ⟨g, 0, none⟩), .slice O k q] w fun v w' => v = .tuple #[.agg (txW (0, 0)).toArray, .int .i64 12] ∧ St S w w' [.blk g 98 (clV ses seq A n c true R m d)] := by
  have hs := St.start h0
  unfold clV at hs
  refine calls_in (N := _) Try.func9 rfl Try.ntmps9 rfl ?_; show WC _ _ _ _ _ _
  refine wc_sr ?_
  refine ws_new hs zeroTx rfl ?_; clear hs; intro g4 _ hs
  refine wl_as rfl rfl ?_; refine wl_ns ?_; refine wc_seq ?_; refine wc_sr ?_; refine wl_mv rfl rfl ?_; apply wl_val; apply opv_nilOk; exact rfl; exact rfl; apply wl_val; apply opv_fa; exact fa_Cl3; exact rfl; exact rfl; apply wl_val; apply opv_ldX; exact rfl; exact hs.ar 1 rfl; exact g1_bool; exact rfl; exact rfl; refine wl_ns ?_; apply wc_condTb; exact rfl; exact rfl; refine wc_sr ?_
  refine wl_val (opv_build (vs := []) (cs := txW (0, 0)) trivial (by kernel_rfl)) rfl ?_
  apply ws_stS hs 0; exact rfl; exact rfl; exact rfl; exact sTxn; exact rfl; exact rfl; clear hs; intro _ hs; dsimp only [setC] at hs; refine wl_as rfl rfl ?_; refine wl_ns ?_; refine wc_ret ?_; refine we_seq_ret ?_
  exact we_retC1 rfl rfl rfl (hs.ar 0 rfl) sTxn ⟨_, rfl, rfl, hs.drop 0 rfl⟩
theorem cask_any (h0 : Sat w [.blk g 98 (clV ses seq A n c false R m d)] S) (henc : ∀ w', Mod S w w' → CallsV Try.prog 11 #[.slice O k q] w' (RetW w' enc)) (hq : seq + 1 < 2 ^ 64) (hl : enc.length ≤ 1099511627776) :
    CallsV Try.prog 9 #[.pointer (some ⟨g, 0, none⟩), .slice O k q] w fun v w' =>
      (8000 < enc.length ∧ v = .tuple #[.agg (txW (0, 0)).toArray, .int .i64 2] ∧ St S w w' [.blk g 98 (clV ses seq A n c false R m d)]) ∨
      (enc.length ≤ 8000 ∧ v = .tuple #[.agg (txW (ses, seq + 1)).toArray, .int .i64 0] ∧ ∃ (B : Option Addr) (cb : Nat), St S w w' [.blk g 98 (clV ses (seq + 1) B enc.length cb true R m d), .ow 5 B enc.length cb (bvs enc)]) := by
  have hs := St.start h0
  unfold clV at hs
  refine calls_in (N := _) Try.func9 rfl Try.ntmps9 rfl ?_; show WC _ _ _ _ _ _
  refine wc_sr ?_
  refine ws_new hs zeroTx rfl ?_; clear hs; intro g4 _ hs
  refine wl_as rfl rfl ?_; refine wl_ns ?_; refine wc_seq ?_; refine wc_sr ?_; refine wl_mv rfl rfl ?_; apply wl_val; apply opv_nilOk; exact rfl; exact rfl; apply wl_val; apply opv_fa; exact fa_Cl3; exact rfl; exact rfl; apply wl_val; apply opv_ldX; exact rfl; exact hs.ar 1 rfl; exact g1_bool; exact rfl; exact rfl; refine wl_ns ?_; apply wc_condFb; exact rfl; exact rfl; refine wc_skip ?_; refine we_seq ?_; refine wc_sr ?_; refine wl_mv rfl rfl ?_
  refine wl_call ok_plan_Encode (henc _ hs.1) ⟨rfl, trivial⟩ rfl ?_
  rintro _ _ ⟨B, cb, rfl, hsx⟩
  replace hs := hs.call hsx
  clear hsx
  dsimp only [List.cons_append, List.nil_append] at hs
  refine wl_as rfl rfl ?_; refine wl_ns ?_; refine wc_seq ?_; refine wc_sr ?_; refine wl_mv rfl rfl ?_; apply wl_val; apply opv_len; exact rfl; exact tyB.sl; exact rfl; refine wl_bin rfl rfl bin_gtr rfl ?_; refine wl_ns ?_
  by_cases h8 : 8000 < enc.length
  · have h8' : (8000 : Int) < (enc.length : Int) := by omega
    apply wc_decT; exact rfl; (with_reducible assumption); refine wc_sr ?_
    refine wl_val (opv_build (vs := []) (cs := txW (0, 0)) trivial (by kernel_rfl)) rfl ?_
    apply ws_stS hs 1; exact rfl; exact rfl; exact rfl; exact sTxn; exact rfl; exact rfl; clear hs; intro _ hs; dsimp only [setC] at hs; refine wl_as rfl rfl ?_; refine wl_ns ?_; refine wc_ret ?_; refine we_seq_ret ?_
    exact we_retC1 rfl rfl rfl (hs.ar 1 rfl) sTxn ⟨_, rfl, .inl ⟨h8, rfl, (hs.drop 0 rfl).drop 0 rfl⟩⟩
  · have h8' : ¬ (8000 : Int) < (enc.length : Int) := by omega
    have hw : IntKind.u64.wrap ((seq : Int) + 1) = ((seq + 1 : Nat) : Int) := by rw [IntWalk.u64_in _ (by omega)]; omega
    apply wc_decF; exact rfl; (with_reducible assumption); refine wc_skip ?_; refine we_seq ?_; refine wc_sr ?_; refine wl_mv rfl rfl ?_; apply wl_val; apply opv_nilOk; exact rfl; exact rfl; apply wl_val; apply opv_fa; exact fa_Cl1; exact rfl; exact rfl; apply wl_val; apply opv_ldX; exact rfl; exact hs.ar 2 rfl; exact g1_u64; exact rfl; exact rfl
    refine wl_bin rfl rfl (bin_add.to (congrArg (Value.int .u64) hw)) rfl ?_
    apply wl_val; apply opv_nilOk; exact rfl; exact rfl; apply wl_val; apply opv_fa; exact fa_Cl1; exact rfl; exact rfl; apply ws_st hs 2; exact rfl; exact rfl; exact g1_u64; exact rfl; exact rfl; exact rfl; clear hs; intro _ hs; dsimp only [setC, List.set] at hs; refine wl_ns ?_; refine wc_sr ?_; refine wl_mv rfl rfl ?_; refine wl_mv rfl rfl ?_; refine wl_mv rfl rfl ?_; apply wl_val; apply opv_nilOk; exact rfl; exact rfl; apply wl_val; apply opv_fa; exact fa_Cl3; exact rfl; exact rfl; apply ws_st hs 2; exact rfl; exact rfl; exact g1_bool; exact rfl; exact rfl; exact rfl; clear hs; intro _ hs; dsimp only [setC, List.set] at hs; apply wl_val; apply opv_nilOk; exact rfl; exact rfl; apply wl_val; apply opv_fa; exact fa_Cl2; exact rfl; exact rfl; apply ws_st hs 2; exact rfl; exact rfl; exact g1_by; exact rfl; exact rfl; exact rfl; clear hs; intro _ hs; dsimp only [setC, List.set] at hs; refine wl_ns ?_; refine wc_sr ?_; refine wl_mv rfl rfl ?_
    refine wl_call ok_session_Client_txn (ctxn_any (ses := ses) (seq := seq + 1) (A := B) (n := enc.length) (c := cb) (R := R) (m := m) (d := d) (busy := true) (hs.ar 2 rfl)) ⟨rfl, trivial⟩ rfl ?_
    rintro _ _ ⟨rfl, hbx⟩
    replace hs := hs.below hbx
    clear hbx
    unfold txW at hs
    apply ws_stS hs 1; exact rfl; exact rfl; exact rfl; exact sTxn; exact rfl; exact rfl; clear hs; intro _ hs; dsimp only [setC] at hs; refine wl_as rfl rfl ?_; refine wl_ns ?_; refine wc_ret ?_
    exact we_retC1 rfl rfl rfl (hs.ar 1 rfl) sTxn ⟨_, rfl, .inr ⟨by omega, rfl, B, cb, (hs.drop 1 rfl).front 1 rfl⟩⟩
theorem ccall_any {req : By} {to : Int} (ha : Ar w g 98 (clV ses seq A req.length c true R m d)) (hr : RdB w A req) (hl : req.length ≤ 8000) :
    CallsV Try.prog 12 #[.pointer (some ⟨g, 0, none⟩), .int .i64 to] w fun v w' => ∃ (D : Option Addr) (cd : Nat), v = .tuple #[.agg (pkV ⟨4, 0, to, 0, 0, 0, 0, (ses, seq), 0, zMsg, zRes, req⟩ (msV zMsg none 0 none 0) (reV zRes none 0 none 0 none 0) D cd).toArray, .bool true] ∧ St NoB w w' [.ow 5 D req.length cd (bvs req)] := by
  have hs := St.init w
  unfold clV at ha
  refine calls_in (N := _) Try.func12 rfl Try.ntmps12 rfl ?_; show WC _ _ _ _ _ _
  refine wc_sr ?_
  refine ws_new hs zeroPk rfl ?_; clear hs; intro g4 _ hs
  unfold pkZ zPk at hs
  dsimp only at hs
  have ha2 := ha.bel hs.bel
  refine wl_as rfl rfl ?_; refine wl_ns ?_; refine wc_seq ?_; refine wc_sr ?_; refine wl_mv rfl rfl ?_; apply wl_val; apply opv_nilOk; exact rfl; exact rfl; apply wl_val; apply opv_fa; exact fa_Cl3; exact rfl; exact rfl; apply wl_val; apply opv_ldX; exact rfl; assumption; exact g1_bool; exact rfl; exact rfl; apply wl_val; apply opv_not; exact rfl; exact rfl; refine wl_ns ?_; apply wc_condFb; exact rfl; exact Bool.not_true; refine wc_skip ?_; refine we_seq ?_; refine wc_seq ?_
  refine wc_heldG (fun w' => Ar w' g 98 [.int .u64 (ses : Int), .int .u64 (seq : Int), .slice A req.length c, .bool true, .slice R m d]) 9 mixed ?_
  replace hs := hs.below (Below.refl _ _).drew
  have hS := ha.bel hs.bel
  apply wm_take 0; exact rfl; intro _ hw_; apply opv_move; exact rfl; exact rfl; kernel_rfl; exact hS; apply wm_take 1; exact rfl; intro _ hw_; apply opv_move; exact rfl; exact rfl; kernel_rfl; exact hS; apply wm_take 3; exact rfl; intro _ hw_; apply opv_move; exact rfl; exact rfl; kernel_rfl; exact hS; apply wm_take 4; exact rfl; intro _ hw_; apply opv_nilOk; exact rfl; exact rfl; kernel_rfl; exact hS; apply wm_take 5; exact rfl; intro _ hw_; apply opv_fa; exact fa_Cl2; exact rfl; exact rfl; kernel_rfl; exact hS; apply wm_take 6; exact rfl; intro _ hw_; apply opv_ldX; exact rfl; assumption; exact g1_by; exact rfl; exact rfl; kernel_rfl; exact hS
  clear hS
  refine wm_one 2 (by kernel_rfl) rfl ?_; dsimp only [List.getElem_toArray, List.getElem_cons_succ, List.getElem_cons_zero]
  refine wl_call ok_session_Client_txn (ctxn_any (ses := ses) (seq := seq) (A := A) (n := req.length) (c := c) (R := R) (m := m) (d := d) (busy := true) (ha.bel hs.bel)) ⟨rfl, trivial⟩ rfl ?_
  rintro _ _ ⟨rfl, hbx⟩
  replace hs := hs.below hbx
  clear hbx
  refine wl_nil ?_
  refine we_heldM (fun _ => ha.bel hs.bel) ?_
  refine wm_one 7 (by kernel_rfl) rfl ?_; dsimp only [List.getElem_toArray, List.getElem_cons_succ, List.getElem_cons_zero]
  refine wl_call ok_bytes_Clone (clone_any (hr.below hs.bel) rfl (by omega)) ⟨rfl, trivial⟩ rfl ?_
  rintro _ _ ⟨D, cd, rfl, o_, hbx⟩
  replace hs := hs.newO hbx o_ (Nat.le_refl _)
  clear hbx o_
  refine wl_nil ?_
  refine we_heldM (fun _ => ha.bel hs.bel) ?_
  refine wm_one 8 (by kernel_rfl) rfl ?_; dsimp only [List.getElem_toArray, List.getElem_cons_succ, List.getElem_cons_zero]
  refine wl_val (opv_build (vs := [(0, .int .i64 4), (2, .int .i64 to), (7, .agg (txW (ses, seq)).toArray), (11, .slice D req.length cd)]) (cs := pkV ⟨4, 0, to, 0, 0, 0, 0, (ses, seq), 0, zMsg, zRes, req⟩ (msV zMsg none 0 none 0) (reV zRes none 0 none 0 none 0) D cd) ⟨rfl, rfl, rfl, rfl, rfl, rfl, rfl, rfl, trivial⟩ (by kernel_rfl)) rfl ?_
  refine wl_nil ?_
  refine we_heldM (fun _ => ha.bel hs.bel) ?_
  refine wm_one 9 (by kernel_rfl) rfl ?_; dsimp only [List.getElem_toArray, List.getElem_cons_succ, List.getElem_cons_zero]
  apply ws_stS hs 1; exact rfl; exact rfl; exact rfl; exact sPk; exact rfl; exact rfl; clear hs; intro _ hs; dsimp only [setC] at hs; refine wl_nil ?_
  refine we_heldM (fun h => absurd h (by decide)) ?_
  refine wm_one 10 (by kernel_rfl) rfl ?_; dsimp only [List.getElem_toArray, List.getElem_cons_succ, List.getElem_cons_zero]
  refine wl_as rfl rfl ?_; refine wl_nil ?_
  refine we_heldM (fun h => absurd h (by decide)) ?_
  refine wm_done (by kernel_rfl) ?_
  refine we_seq ?_; refine wc_ret ?_
  exact we_retC1 rfl rfl rfl (hs.ar 1 rfl) sPk ⟨_, rfl, D, cd, rfl, hs.drop 1 rfl⟩
end
set_option maxRecDepth 8000 in
theorem awake24_any (w : World) : CallsV Try.prog 7 #[] w fun v w' => v = .bool true ∧ Below w.heap.size w w' := by
  have hs := St.init w
  refine calls_in (N := _) Try.func7 rfl Try.ntmps7 rfl ?_; show WC _ _ _ _ _ _
  refine wc_sr ?_; refine wl_as rfl rfl ?_; refine wl_ns ?_; refine wc_sr ?_
  refine wl_call ok_session_New (cnew_any 7 w) ⟨rfl, trivial⟩ rfl ?_
  rintro _ _ ⟨g, rfl, hsx⟩
  replace hs := hs.call hsx
  clear hsx
  dsimp only [List.cons_append, List.nil_append] at hs
  refine wl_as rfl rfl ?_; refine wl_ns ?_; refine wc_seq ?_; refine wc_sr ?_; refine wl_mv rfl rfl ?_; apply wl_val; apply opv_bin; exact rfl; exact rfl; exact bin_eqlPtrNil Try.underlying25; exact rfl; refine wl_ns ?_; apply wc_condFb; exact rfl; exact rfl; refine wc_skip ?_; refine we_seq ?_; refine wc_sr ?_; refine wl_mv rfl rfl ?_
  obtain ⟨S2, hS2, hB2, hM2, hH2, hB⟩ := St.lend (H1 := [_]) (H2 := []) hs
  refine wl_call ok_session_Client_Ask (cask_any hS2 (enc := []) (fun w' _ => enc0_any w') (by decide) (by simp)) ⟨rfl, rfl, trivial⟩ rfl ?_
  rintro _ _ hcase
  rcases hcase with ⟨h8, _⟩ | ⟨_, rfl, B, cb, hsx⟩
  · simp at h8
  replace hs := hB _ _ hsx
  clear hsx hB hH2 hM2 hB2 hS2
  dsimp only [List.cons_append, List.nil_append] at hs
  refine wl_mv rfl rfl ?_; apply wl_val; apply opv_extract; exact rfl; exact rfl; exact rfl; apply wl_val; apply opv_extract; exact rfl; exact rfl; exact rfl
  refine ws_var (cs := txW (7, 1)) hs zeroTx sTxn rfl (fun _ => rfl) (by first | rfl | simp [Value.oneCell']) rfl ?_; clear hs; intro g2 _ hs
  replace hs := hs.front 1 rfl
  dsimp only [delC] at hs
  refine wl_as rfl rfl ?_; refine wl_ns ?_; refine wc_sr ?_; refine wl_mv rfl rfl ?_
  obtain ⟨S2, hS2, hB2, hM2, hH2, hB⟩ := St.lend (H1 := [_]) (H2 := [_, _]) hs
  refine wl_call ok_session_Client_Ask (cask_busy hS2) ⟨rfl, rfl, trivial⟩ rfl ?_
  rintro _ _ ⟨rfl, hsx⟩
  replace hs := hB _ _ hsx
  clear hsx hB hH2 hM2 hB2 hS2
  dsimp only [List.cons_append, List.nil_append] at hs
  refine wl_mv rfl rfl ?_; apply wl_val; apply opv_extract; exact rfl; exact rfl; exact rfl; apply wl_val; apply opv_extract; exact rfl; exact rfl; exact rfl
  refine ws_var (cs := txW (0, 0)) hs zeroTx sTxn rfl (fun _ => rfl) (by first | rfl | simp [Value.oneCell']) rfl ?_; clear hs; intro g4 _ hs
  refine wl_as rfl rfl ?_; refine wl_ns ?_; refine wc_sr ?_; refine wl_mv rfl rfl ?_
  refine wl_call ok_session_Client_Call (ccall_any (hs.ar 1 rfl) (hs.ow 3 rfl).rd (by simp)) ⟨rfl, rfl, trivial⟩ rfl ?_
  rintro _ _ ⟨D, cd, rfl, hsx⟩
  replace hs := hs.call hsx
  clear hsx
  dsimp only [List.cons_append, List.nil_append] at hs
  replace hs := hs.front 3 rfl
  dsimp only [delC] at hs
  refine wl_mv rfl rfl ?_; apply wl_val; apply opv_extract; exact rfl; exact rfl; exact rfl; apply wl_val; apply opv_extract; exact rfl; exact rfl; exact rfl
  refine ws_var (cs := pkV ⟨4, 0, 2, 0, 0, 0, 0, (7, 1), 0, zMsg, zRes, []⟩ (msV zMsg none 0 none 0) (reV zRes none 0 none 0 none 0) D cd) hs zeroPk sPk rfl (fun _ => rfl) (by first | rfl | simp [Value.oneCell']) rfl ?_; clear hs; intro g6 _ hs
  unfold pkV msV reV zMsg zRes at hs
  dsimp only [List.cons_append, List.nil_append] at hs
  refine wl_as rfl rfl ?_; refine wl_ns ?_; refine wc_sr ?_; refine wl_mv rfl rfl ?_; refine wl_bin rfl rfl bin_eql rfl ?_; refine wl_mv rfl rfl ?_; apply wl_take; exact rfl; exact rfl; exact rfl; refine bT ?_; (with_reducible rfl); refine wl_mv rfl rfl ?_; apply wl_take; exact rfl; exact rfl; exact rfl; refine bT ?_; (with_reducible rfl); refine wl_bin rfl rfl bin_eql rfl ?_; apply wl_val; apply opv_pickT; exact rfl; refine bT ?_; (with_reducible rfl); exact rfl; exact rfl; refine wl_mv rfl rfl ?_; apply wl_take; exact rfl; exact rfl; exact rfl; refine bT ?_; (with_reducible rfl); apply wl_val; apply opv_loadX; exact rfl; exact hs.ar 1 rfl; exact sTxn; exact rfl; apply wl_take; exact rfl; exact rfl; exact rfl; refine bT ?_; (with_reducible rfl)
  refine wl_val (opv_build (vs := [(0, .int .u64 7), (1, .int .u64 1)]) (cs := txW (7, 1)) ⟨rfl, rfl, rfl, rfl, trivial⟩ (by kernel_rfl)) rfl ?_
  apply wl_take; exact rfl; exact rfl; exact rfl; refine bT ?_; (with_reducible rfl); apply wl_val; apply opv_bin; exact rfl; exact rfl; exact (bin_eqlTw _ _); exact rfl; apply wl_val; apply opv_pickT; exact rfl; refine bT ?_; (with_reducible rfl); exact rfl; exact rfl; refine wl_mv rfl rfl ?_; apply wl_take; exact rfl; exact rfl; exact rfl; refine bT ?_; (with_reducible rfl); refine wl_mv rfl rfl ?_; apply wl_val; apply opv_pickT; exact rfl; refine bT ?_; (with_reducible rfl); exact rfl; exact rfl; refine wl_mv rfl rfl ?_; apply wl_take; exact rfl; exact rfl; exact rfl; exact rfl; apply wl_val; apply opv_fa; exact fa_Pk0; exact rfl; exact rfl; apply wl_take; exact rfl; exact rfl; exact rfl; exact rfl; apply wl_val; apply opv_ldX; exact rfl; exact hs.ar 0 rfl; exact g1_int; exact rfl; exact rfl; apply wl_take; exact rfl; exact rfl; exact rfl; exact rfl; refine wl_bin rfl rfl bin_eql rfl ?_; apply wl_val; apply opv_pickT; exact rfl; exact rfl; exact rfl; exact rfl; refine wl_mv rfl rfl ?_; apply wl_take; exact rfl; exact rfl; exact rfl; refine bT ?_; (with_reducible rfl); apply wl_val; apply opv_fa; exact fa_Pk2; exact rfl; exact rfl; apply wl_take; exact rfl; exact rfl; exact rfl; refine bT ?_; (with_reducible rfl); apply wl_val; apply opv_ldX; exact rfl; exact hs.ar 0 rfl; exact g1_int; exact rfl; exact rfl; apply wl_take; exact rfl; exact rfl; exact rfl; refine bT ?_; (with_reducible rfl); refine wl_bin rfl rfl bin_eql rfl ?_; apply wl_val; apply opv_pickT; exact rfl; refine bT ?_; (with_reducible rfl); exact rfl; exact rfl; refine wl_mv rfl rfl ?_; apply wl_take; exact rfl; exact rfl; exact rfl; refine bT ?_; (with_reducible rfl); apply wl_val; apply opv_fa; exact fa_Pk7; exact rfl; exact rfl; apply wl_take; exact rfl; exact rfl; exact rfl; refine bT ?_; (with_reducible rfl)
  refine wl_val (opv_ldG (cs := txW (7, 1)) rfl (ar_wiP (hs.ar 0 rfl) 7 (txW (7, 1)) (fun j u hu => by
    match j, hu with
    | 0, hu => exact hu
    | 1, hu => exact hu)) sTxn) rfl ?_
  apply wl_take; exact rfl; exact rfl; exact rfl; refine bT ?_; (with_reducible rfl); apply wl_val; apply opv_loadX; exact rfl; exact hs.ar 1 rfl; exact sTxn; exact rfl; apply wl_take; exact rfl; exact rfl; exact rfl; refine bT ?_; (with_reducible rfl); apply wl_val; apply opv_bin; exact rfl; exact rfl; exact (bin_eqlTw _ _); exact rfl; apply wl_val; apply opv_pickT; exact rfl; refine bT ?_; (with_reducible rfl); exact rfl; exact rfl; refine wl_as rfl rfl ?_; refine wl_ns ?_; refine wc_ret ?_
  exact we_ret1 rfl rfl ⟨_, rfl, rfl, hs.bel⟩
end Go.Proofs.Ytaacnknniaipmaa

/-
  Walks over the packet that a law makes out of plain data.
-/
namespace Go.Proofs.Ytaacnknniaipmaa
open Go.RowKit

theorem g1_ws : Cell1 Try.prog 71 := ⟨by kernel_rfl, by rw [Try.underlying71]⟩
theorem sFm : StT Try.prog 79 30 := ⟨by kernel_rfl, by kernel_rfl⟩
theorem sNo : StT Try.prog 73 9 := ⟨by kernel_rfl, by kernel_rfl⟩
theorem fa_Fm0 : FieldAt Try.prog 79 0 0 := fieldAt_mk Try.underlying79 rfl rfl (by kernel_rfl)
theorem fa_Fm1 : FieldAt Try.prog 79 1 1 := fieldAt_mk Try.underlying79 rfl rfl (by kernel_rfl)
theorem fa_Fm2 : FieldAt Try.prog 79 2 2 := fieldAt_mk Try.underlying79 rfl rfl (by kernel_rfl)
theorem fa_Fm3 : FieldAt Try.prog 79 3 3 := fieldAt_mk Try.underlying79 rfl rfl (by kernel_rfl)
theorem fa_Fm4 : FieldAt Try.prog 79 4 4 := fieldAt_mk Try.underlying79 rfl rfl (by kernel_rfl)
theorem fa_Fm5 : FieldAt Try.prog 79 5 5 := fieldAt_mk Try.underlying79 rfl rfl (by kernel_rfl)
theorem fa_Fm6 : FieldAt Try.prog 79 6 6 := fieldAt_mk Try.underlying79 rfl rfl (by kernel_rfl)
theorem fa_Fm7 : FieldAt Try.prog 79 7 7 := fieldAt_mk Try.underlying79 rfl rfl (by kernel_rfl)
theorem fa_Fm8 : FieldAt Try.prog 79 8 8 := fieldAt_mk Try.underlying79 rfl rfl (by kernel_rfl)
theorem fa_Fm9 : FieldAt Try.prog 79 9 10 := fieldAt_mk Try.underlying79 rfl rfl (by kernel_rfl)
theorem fa_Fm10 : FieldAt Try.prog 79 10 19 := fieldAt_mk Try.underlying79 rfl rfl (by kernel_rfl)
theorem fa_Fm11 : FieldAt Try.prog 79 11 29 := fieldAt_mk Try.underlying79 rfl rfl (by kernel_rfl)
theorem fa_No0 : FieldAt Try.prog 73 0 0 := fieldAt_mk Try.underlying73 rfl rfl (by kernel_rfl)
theorem fa_No1 : FieldAt Try.prog 73 1 1 := fieldAt_mk Try.underlying73 rfl rfl (by kernel_rfl)
theorem fa_No2 : FieldAt Try.prog 73 2 2 := fieldAt_mk Try.underlying73 rfl rfl (by kernel_rfl)
theorem fa_No3 : FieldAt Try.prog 73 3 3 := fieldAt_mk Try.underlying73 rfl rfl (by kernel_rfl)
theorem fa_No4 : FieldAt Try.prog 73 4 4 := fieldAt_mk Try.underlying73 rfl rfl (by kernel_rfl)
theorem fa_No5 : FieldAt Try.prog 73 5 5 := fieldAt_mk Try.underlying73 rfl rfl (by kernel_rfl)
theorem fa_No6 : FieldAt Try.prog 73 6 6 := fieldAt_mk Try.underlying73 rfl rfl (by kernel_rfl)
theorem fa_No7 : FieldAt Try.prog 73 7 7 := fieldAt_mk Try.underlying73 rfl rfl (by kernel_rfl)
theorem fa_No8 : FieldAt Try.prog 73 8 8 := fieldAt_mk Try.underlying73 rfl rfl (by kernel_rfl)
theorem fa_Rs0 : FieldAt Try.prog 77 0 0 := fieldAt_mk Try.underlying77 rfl rfl (by kernel_rfl)
theorem fa_Rs1 : FieldAt Try.prog 77 1 1 := fieldAt_mk Try.underlying77 rfl rfl (by kernel_rfl)
theorem fa_Rs2 : FieldAt Try.prog 77 2 2 := fieldAt_mk Try.underlying77 rfl rfl (by kernel_rfl)
theorem fa_Rs3 : FieldAt Try.prog 77 3 3 := fieldAt_mk Try.underlying77 rfl rfl (by kernel_rfl)
theorem fa_Rs4 : FieldAt Try.prog 77 4 4 := fieldAt_mk Try.underlying77 rfl rfl (by kernel_rfl)
theorem fa_Rr1 : FieldAt Try.prog 75 1 2 := fieldAt_mk Try.underlying75 rfl rfl (by kernel_rfl)
theorem fa_Rr2 : FieldAt Try.prog 75 2 3 := fieldAt_mk Try.underlying75 rfl rfl (by kernel_rfl)
theorem fa_Rr3 : FieldAt Try.prog 75 3 4 := fieldAt_mk Try.underlying75 rfl rfl (by kernel_rfl)
theorem fa_Rr4 : FieldAt Try.prog 75 4 5 := fieldAt_mk Try.underlying75 rfl rfl (by kernel_rfl)
structure NoteM where
  kind : Int
  fr : Int
  to : Int
  term : Nat
  ix : Nat
  lt : Nat
  cm : Nat
  terms : List Nat
  ok : Bool
structure FormM where
  kind : Int
  fr : Int
  to : Int
  shard : Int
  round : Int
  cmd : Int
  lead : Int
  code : Int
  tx : Nat × Nat
  note : NoteM
  err : Int
  status : Int
  ts : Nat
  pairs : List PairM
  rtx : Nat × Nat
  commit : Bool
  rts : Nat
  writes : List WrM
  reply : By
  data : By
def noV (n : NoteM) (T : Option Addr) (ct : Nat) : List Value := [.int .i64 n.kind, .int .i64 n.fr, .int .i64 n.to, .int .u64 (n.term : Int), .int .u64 (n.ix : Int), .int .u64 (n.lt : Int), .int .u64 (n.cm : Int), .slice T n.terms.length ct, .bool n.ok]
def fmV (f : FormM) (nv : List Value) (P : Option Addr) (cp : Nat) (W : Option Addr) (cw : Nat) (Y : Option Addr) (cy : Nat) (D : Option Addr) (cd : Nat) : List Value :=
  [.int .i64 f.kind, .int .i64 f.fr, .int .i64 f.to, .int .i64 f.shard, .int .i64 f.round, .int .i64 f.cmd, .int .i64 f.lead, .int .i64 f.code, .int .u64 (f.tx.1 : Int), .int .u64 (f.tx.2 : Int)] ++ (nv ++
  [.int .i64 f.err, .int .i64 f.status, .int .u64 (f.ts : Int), .slice P f.pairs.length cp, .int .u64 (f.rtx.1 : Int), .int .u64 (f.rtx.2 : Int), .bool f.commit, .int .u64 (f.rts : Int), .slice W f.writes.length cw, .slice Y f.reply.length cy, .slice D f.data.length cd])
def entsN : Nat → List Nat → List (Nat × By)
  | _, [] => []
  | k, t :: l => (t, [UInt8.ofNat k, 7]) :: entsN (k + 1) l
theorem entsN_snoc (t : Nat) : ∀ (l : List Nat) (k : Nat), entsN k (l ++ [t]) = entsN k l ++ [(t, [UInt8.ofNat (k + l.length), 7])]
  | [], k => by simp [entsN]
  | a :: l, k => by
    rw [List.cons_append, entsN, entsN_snoc t l (k + 1), entsN, List.length_cons, show k + 1 + l.length = k + (l.length + 1) by omega]; rfl
theorem entsN_len : ∀ (l : List Nat) (k : Nat), (entsN k l).length = l.length
  | [], _ => rfl
  | a :: l, k => by rw [entsN, List.length_cons, entsN_len, List.length_cons]
def msgOf (n : NoteM) : MsgM := ⟨n.kind, n.fr, n.to, n.term, n.ix, n.lt, n.cm, entsN 0 n.terms, n.ok, []⟩
def resOf (f : FormM) : ResM := ⟨f.err, f.status, f.ts, f.pairs, f.commit, f.rts, f.writes, f.reply⟩
def pkOf (f : FormM) : PkM := ⟨f.kind, f.fr, f.to, f.shard, f.round, f.cmd, f.lead, f.tx, f.code, msgOf f.note, resOf f, f.data⟩
section
variable {P : Program} {N : Nat} {ops : Array Oper} {Q : Exit → Act → World → Prop} {rest : List Oper} {L : FL} {w0 w : World} {M : BS} {H : List Cd} {t e : TypeId} {z : Value} {bytes k : Nat} {cs : List Value}
/-- A slice of one element of k cells. -/
theorem ws_bsR {d : Nat} {x : Operand} {ty : TypeId} {pos : String} {aft : Array Edge} (hs : St M w0 w H) (T : RowK P t e k z bytes) (hx : ∃ v, look L x = some v ∧ v.cells = cs.toArray) (hl : cs.length = k) (hk : k ≤ 16777216) (hd : Nat.blt d N = true)
    (h : ∀ A w', St M w0 w' (.rg k e A 1 [rawEl cs] :: H) → WL P N ops Q rest ((d, .slice A 1 1) :: L) w') :
    WL P N ops Q (⟨some d, .buildSlice t 1 #[(0, x)], ty, pos, aft, none⟩ :: rest) L w :=
  wl_bsG (css := [cs]) (els := [rawEl cs]) (S := NoB) (ps := [(0, x)]) T ⟨rfl, hx, hl, trivial⟩ rfl (by simpa using hk) (by decide) (grp_raw (css := [cs]) (by simpa using hl)) hd fun A w' ho hb _ =>
    h A w' (hs.newG hb ho (Nat.le_refl _) fun _ _ h => h.elim)
end
theorem sat_ow {w : World} {H : List Cd} {S : BS} {e : TypeId} {A : Option Addr} {n c : Nat} {xs : List Value} (h : Sat w H S) (i : Nat) (hi : nthC H i = some (.ow e A n c xs)) : Ow w 0 e A n c xs := by
  obtain ⟨T, _, hc, _⟩ := h.front hi
  exact hc.2
theorem AllK.weak {α : Type} {K K' : World → Prop} {Q : α → List Value → World → Prop} {xs : List α} {css : List (List Value)} (h : AllK K Q xs css) (hk : ∀ w, K' w → K w) : AllK K' Q xs css := ⟨h.1, fun i x hi => by
  obtain ⟨cs, h1, h2⟩ := h.2 i x hi
  exact ⟨cs, h1, fun w hw => h2 w (hk w hw)⟩⟩
def TwI (w : World) (W : Option Addr) (cw : Nat) (ws : List WrM) : FL → World → Nat → Prop := fun L wr q =>
  ∃ (k : Nat) (R : Option Addr) (c : Nat) (css : List (List Value)) (K : World → Prop), L = [(0, .slice W ws.length cw), (3, .slice R k c), (4, .int .i64 (k : Int))] ∧ k ≤ ws.length ∧ AllK K (QWr 0) (ws.take k) css ∧
    St NoB w wr [.rg 3 163 R c (css.map rawEl), .ck (kp K)] ∧ q = ws.length - k
set_option maxHeartbeats 4000000 in
theorem twins13_any {ws : List WrM} {W : Option Addr} {n cw : Nat} {w : World} (rW : RdR 3 w All W (ws.map wrEl)) (hn : ws.length = n) (hl : ws.length ≤ 4194304) (hb : ∀ x ∈ ws, x.key.length ≤ 4194304 ∧ x.val.length ≤ 4194304) :
    CallsV Try.prog 44 #[.slice W n cw] w fun v w' => ∃ (R : Option Addr) (c : Nat), v = .slice R ws.length c ∧ St NoB w w' [.ck (kp fun w => RdR 3 w All R (ws.map wrEl))] := by
  subst hn
  have hs := (((St.init w).kpNil (K := fun _ => True) fun _ => trivial).nilG 3 163)
  have hmax : maxLen = 9223372036854775807 := rfl
  refine calls_in (N := _) Try.func44 rfl Try.ntmps44 rfl ?_; show WC _ _ _ _ _ _
  refine wc_sr ?_; refine wl_as rfl rfl ?_; refine wl_ns ?_; refine wc_sr ?_; refine wl_as rfl rfl ?_; refine wl_ns ?_; refine wc_seq ?_; refine wc_sr ?_; refine wl_as rfl rfl ?_; refine wl_ns ?_; refine wc_block ?_
  refine wc_loop (TwI w W cw ws) [(0, .slice W ws.length cw), (3, .slice none 0 0), (4, .int .i64 (0 : Nat))] ws.length ⟨0, none, 0, [], _, rfl, Nat.zero_le _, AllK.nil, hs, rfl⟩ ⟨rfl, rfl, rfl, trivial⟩ ?_
  clear hs
  rintro _ w3 q ⟨k, R, c, css, K, rfl, hk, hA, hs, rfl⟩
  have hkl : css.length = k := by rw [hA.1, List.length_take]; omega
  refine wc_seq ?_; refine wc_sr ?_; refine wl_mv rfl rfl ?_; refine wl_mv rfl rfl ?_; apply wl_val; apply opv_len; exact rfl; exact tkWr.sl; exact rfl; refine wl_bin rfl rfl bin_lss rfl ?_; refine wl_ns ?_
  refine wc_cond rfl (fun h1 => ?_) (fun h1 => ?_)
  · obtain ⟨x, hx0⟩ : ∃ x, ws[k]? = some x := ⟨_, List.getElem?_eq_getElem (by omega)⟩
    obtain ⟨b, o, cs, rfl, _, _, ⟨X, a, Y, y, rfl, hx, hy⟩, hw⟩ := RdR.at (k := 3) (by decide) rW (E := wrEl x) (i := k) (by rw [List.getElem?_map, hx0]; rfl)
    have i1 := hw
    unfold wrV at i1
    have rx := by_rd hx
    have ry := by_rd hy
    have hbx0 := hb x (List.mem_of_getElem? hx0)
    have htk := take_getR hx0
    refine wc_skip ?_; refine we_seq ?_; refine wc_seq ?_; refine wc_block ?_
    refine wc_heldG (Below w.heap.size w) 21 mixed ?_
    replace hs := hs.below (Below.refl _ _).drew
    have hS := hs.bel
    apply wm_take 0; exact rfl; intro _ hw_; apply opv_move; exact rfl; exact rfl; kernel_rfl; exact hS; apply wm_take 1; exact rfl; intro _ hw_; apply opv_move; exact rfl; exact rfl; kernel_rfl; exact hS; apply wm_take 2; exact rfl; intro _ hw_; apply opv_move; exact rfl; exact rfl; kernel_rfl; exact hS; apply wm_take 3; exact rfl; intro _ hw_; apply opv_idxG tkWr; exact rfl; exact rfl; exact rfl; omega; exact rfl; kernel_rfl; exact hS; apply wm_take 4; exact rfl; intro _ hw_; apply opv_fa; exact fa_sWr (by decide); exact rfl; exact rfl; kernel_rfl; exact hS; apply wm_take 5; exact rfl; intro _ hw_; apply opv_ldW; exact rfl; exact Wi.below (by assumption) hw_; exact g1_by; exact rfl; exact rfl; kernel_rfl; exact hS; apply wm_take 7; exact rfl; intro _ hw_; apply opv_move; exact rfl; exact rfl; kernel_rfl; exact hS; apply wm_take 8; exact rfl; intro _ hw_; apply opv_move; exact rfl; exact rfl; kernel_rfl; exact hS; apply wm_take 9; exact rfl; intro _ hw_; apply opv_idxG tkWr; exact rfl; exact rfl; exact rfl; omega; exact rfl; kernel_rfl; exact hS; apply wm_take 10; exact rfl; intro _ hw_; apply opv_fa; exact fa_sWr (by decide); exact rfl; exact rfl; kernel_rfl; exact hS; apply wm_take 11; exact rfl; intro _ hw_; apply opv_ldW; exact rfl; exact Wi.below (by assumption) hw_; exact g1_by; exact rfl; exact rfl; kernel_rfl; exact hS; apply wm_take 13; exact rfl; intro _ hw_; apply opv_move; exact rfl; exact rfl; kernel_rfl; exact hS; apply wm_take 14; exact rfl; intro _ hw_; apply opv_move; exact rfl; exact rfl; kernel_rfl; exact hS; apply wm_take 15; exact rfl; intro _ hw_; apply opv_idxG tkWr; exact rfl; exact rfl; exact rfl; omega; exact rfl; kernel_rfl; exact hS; apply wm_take 16; exact rfl; intro _ hw_; apply opv_fa; exact fa_sWr (by decide); exact rfl; exact rfl; kernel_rfl; exact hS; apply wm_take 17; exact rfl; intro _ hw_; apply opv_ldW; exact rfl; exact Wi.below (by assumption) hw_; exact g1_bool; exact rfl; exact rfl; kernel_rfl; exact hS
    refine wm_one 6 (by kernel_rfl) rfl ?_; dsimp only [List.getElem_toArray, List.getElem_cons_succ, List.getElem_cons_zero]
    refine wl_call ok_caissonref01_Copy (copy_any (rx.1.below hs.bel) rfl (by omega)) ⟨rfl, trivial⟩ rfl ?_
    rintro _ _ ⟨X2, x2, rfl, o_, hbx⟩
    have q1 := OwB.cap o_
    replace hs := hs.newO hbx o_ (Nat.le_refl _)
    replace hS := hs.bel
    clear hbx o_
    refine wl_nil ?_
    refine we_heldM (fun _ => hS) ?_
    refine wm_one 12 (by kernel_rfl) rfl ?_; dsimp only [List.getElem_toArray, List.getElem_cons_succ, List.getElem_cons_zero]
    refine wl_call ok_caissonref01_Copy (copy_any (ry.1.below hs.bel) rfl (by omega)) ⟨rfl, trivial⟩ rfl ?_
    rintro _ _ ⟨Y2, y2, rfl, o_, hbx⟩
    replace hs := hs.newO hbx o_ (Nat.le_refl _)
    replace hS := hs.bel
    clear hbx o_
    refine wl_nil ?_
    refine we_heldM (fun _ => hS) ?_
    refine wm_takeP 18 rfl (fun _ => opv_build (vs := [(0, .slice X2 x.key.length x2), (1, .slice Y2 x.val.length y2), (2, .bool x.gone)]) (cs := wrV x X2 x2 Y2 y2) ⟨rfl, rfl, rfl, rfl, rfl, rfl, trivial⟩ (by kernel_rfl)) rfl (by kernel_rfl) (fun _ => hS) ?_
    refine wm_one 19 (by kernel_rfl) rfl ?_; dsimp only [List.getElem_toArray, List.getElem_cons_succ, List.getElem_cons_zero]
    refine ws_bsR (cs := wrV x X2 x2 Y2 y2) hs tkWr ⟨_, rfl, rfl⟩ rfl (by decide) rfl ?_
    clear hs; intro B19 _ hs
    replace hS := hs.bel
    refine wl_nil ?_
    refine we_heldM (fun _ => hS) ?_
    refine wm_one 20 (by kernel_rfl) rfl ?_; dsimp only [List.getElem_toArray, List.getElem_cons_succ, List.getElem_cons_zero]
    refine ws_appR (css := [wrV x X2 x2 Y2 y2]) hs 3 rfl rfl tkWr (by simp [hkl]) rfl (hs.rg 0 rfl).rd rfl (by simp [wrV, Value.oneCell']) (by omega) (by simp only [maxLen]; omega) rfl ?_
    clear hs; intro R2 c2 _ hs; dsimp only [setC] at hs
    replace hS := hs.bel
    refine wl_nil ?_
    refine we_heldM (fun _ => hS) ?_
    refine wm_one 21 (by kernel_rfl) rfl ?_; dsimp only [List.getElem_toArray, List.getElem_cons_succ, List.getElem_cons_zero]
    refine wl_as rfl rfl ?_; refine wl_nil ?_
    refine we_heldM (fun h => absurd h (by decide)) ?_
    refine wm_done (by kernel_rfl) ?_
    replace hs := (St.kpOf (K := fun w => OwB w 0 X2 x2 x.key ∧ OwB w 0 Y2 y2 x.val ∧ K w) (H1 := [_, _, _]) (((((hs.front 3 rfl).front 4 rfl).front 3 rfl).front 4 rfl).drop 4 rfl) fun w S hS => ⟨sat_ow hS 0 rfl, sat_ow hS 1 rfl, Sat.kp (i := 2) hS rfl⟩).front 1 rfl
    dsimp only [delC] at hs
    rw [show css.map rawEl ++ [wrV x X2 x2 Y2 y2].map rawEl = (css ++ [wrV x X2 x2 Y2 y2]).map rawEl by simp] at hs
    refine we_block_norm ?_; refine we_seq ?_; refine wc_region ?_; refine wl_mv rfl rfl ?_; apply wl_val; apply opv_bin; exact rfl; exact rfl; exact bin_add64 (by omega); exact rfl; refine wl_as rfl rfl ?_; refine wl_nil ?_
    refine we_loop _ (ws.length - (k + 1)) ⟨k + 1, R2, c2, css ++ [wrV x X2 x2 Y2 y2], _, rfl, by omega, ?_, hs, rfl⟩ (by omega) ⟨rfl, rfl, by simp [lookT], trivial⟩
    rw [htk]
    exact (hA.weak fun w h => h.2.2).snoc fun w' h => ⟨X2, x2, Y2, y2, rfl, h.1, h.2.1⟩
  · obtain rfl : k = ws.length := by omega
    rw [List.take_length] at hA
    refine wc_exit ?_; refine we_seq_exit ?_; refine we_loop_exit ?_; refine we_block_exit ?_; refine we_seq ?_; refine wc_sr ?_; refine wl_mv rfl rfl ?_; refine wl_as rfl rfl ?_; refine wl_ns ?_; refine wc_ret ?_
    refine we_ret1 rfl rfl ⟨_, rfl, R, c, rfl, ?_⟩
    exact St.kpOf (H1 := [_, _]) hs fun w S hS => by
      obtain ⟨S', ho⟩ := St.rgP (M := S) (w0 := w) (w := w) hS
      exact hA.rdr (Sat.kp (i := 1) hS rfl) (fun x cs h => wr_of h) ho
def NtI (w : World) (T : Option Addr) (ct g1 g3 : Nat) (cs : List Value) (n : NoteM) : FL → World → Nat → Prop := fun L wr q =>
  ∃ (k : Nat) (E : Option Addr) (ce : Nat) (css : List (List Value)) (K : World → Prop) (g2 : Nat), L = [(2, .pointer (some ⟨g2, 0, none⟩)), (3, .pointer (some ⟨g3, 0, none⟩)), (24, .slice T n.terms.length ct), (25, .int .i64 (n.terms.length : Int)), (26, .int .i64 (k : Int))] ∧ k ≤ n.terms.length ∧ AllK K (QEn 0) (entsN 0 (n.terms.take k)) css ∧
    St NoB w wr [.blk g3 34 [.int .i64 n.kind, .int .i64 n.fr, .int .i64 n.to, .int .u64 (n.term : Int), .int .u64 (n.ix : Int), .int .u64 (n.lt : Int), .int .u64 (n.cm : Int), .slice E k ce, .bool n.ok, .slice none 0 0], .blk g2 34 zMs, .rg 2 166 E ce (css.map rawEl), .ck (kp K)] ∧ q = n.terms.length - k
set_option maxHeartbeats 4000000 in
theorem msg17_any {n : NoteM} {T : Option Addr} {ct : Nat} {w : World} (rT : Rd w T n.terms.length (wVs n.terms)) (hl : n.terms.length ≤ 200) :
    CallsV Try.prog 70 #[.agg (noV n T ct).toArray] w fun v w' => ∃ (E : Option Addr) (ce : Nat), v = .agg (msV (msgOf n) E ce none 0).toArray ∧ St NoB w w' [.ck (kp fun w => RdR 2 w All E ((msgOf n).ents.map etEl))] := by
  have hs := St.init w
  have hmax : maxLen = 9223372036854775807 := rfl
  refine calls_in (N := _) Try.func70 rfl Try.ntmps70 rfl ?_; show WC _ _ _ _ _ _
  refine wc_sr ?_
  refine ws_box (cs := noV n T ct) hs rfl rfl ?_; clear hs; intro g1 _ hs
  unfold noV at hs
  skip
  refine ws_new hs zeroMs rfl ?_; clear hs; intro g2 _ hs
  refine wl_ns ?_; refine wc_sr ?_; apply wl_val; apply opv_fa; exact fa_No0; exact rfl; exact rfl; apply wl_val; apply opv_ldX; exact rfl; exact hs.ar 1 rfl; exact g1_int; exact rfl; exact rfl; apply wl_val; apply opv_fa; exact fa_No1; exact rfl; exact rfl; apply wl_val; apply opv_ldX; exact rfl; exact hs.ar 1 rfl; exact g1_int; exact rfl; exact rfl; apply wl_val; apply opv_fa; exact fa_No2; exact rfl; exact rfl; apply wl_val; apply opv_ldX; exact rfl; exact hs.ar 1 rfl; exact g1_int; exact rfl; exact rfl; apply wl_val; apply opv_fa; exact fa_No3; exact rfl; exact rfl; apply wl_val; apply opv_ldX; exact rfl; exact hs.ar 1 rfl; exact g1_u64; exact rfl; exact rfl; apply wl_val; apply opv_fa; exact fa_No4; exact rfl; exact rfl; apply wl_val; apply opv_ldX; exact rfl; exact hs.ar 1 rfl; exact g1_u64; exact rfl; exact rfl; apply wl_val; apply opv_fa; exact fa_No5; exact rfl; exact rfl; apply wl_val; apply opv_ldX; exact rfl; exact hs.ar 1 rfl; exact g1_u64; exact rfl; exact rfl; apply wl_val; apply opv_fa; exact fa_No6; exact rfl; exact rfl; apply wl_val; apply opv_ldX; exact rfl; exact hs.ar 1 rfl; exact g1_u64; exact rfl; exact rfl; apply wl_val; apply opv_fa; exact fa_No8; exact rfl; exact rfl; apply wl_val; apply opv_ldX; exact rfl; exact hs.ar 1 rfl; exact g1_bool; exact rfl; exact rfl
  refine wl_val (opv_build (vs := [(0, .int .i64 n.kind), (1, .int .i64 n.fr), (2, .int .i64 n.to), (3, .int .u64 (n.term : Int)), (4, .int .u64 (n.ix : Int)), (5, .int .u64 (n.lt : Int)), (6, .int .u64 (n.cm : Int)), (8, .bool n.ok)]) (cs := [.int .i64 n.kind, .int .i64 n.fr, .int .i64 n.to, .int .u64 (n.term : Int), .int .u64 (n.ix : Int), .int .u64 (n.lt : Int), .int .u64 (n.cm : Int), .slice none 0 0, .bool n.ok, .slice none 0 0]) ⟨rfl, rfl, rfl, rfl, rfl, rfl, rfl, rfl, rfl, rfl, rfl, rfl, rfl, rfl, rfl, rfl, trivial⟩ (by kernel_rfl)) rfl ?_
  refine ws_var (cs := [.int .i64 n.kind, .int .i64 n.fr, .int .i64 n.to, .int .u64 (n.term : Int), .int .u64 (n.ix : Int), .int .u64 (n.lt : Int), .int .u64 (n.cm : Int), .slice none 0 0, .bool n.ok, .slice none 0 0]) hs zeroMs sMs rfl (fun _ => rfl) (by first | rfl | simp [Value.oneCell']) rfl ?_; clear hs; intro g3 _ hs
  refine wl_ns ?_; refine wc_seq ?_; refine wc_sr ?_; apply wl_val; apply opv_fa; exact fa_No7; exact rfl; exact rfl; apply wl_val; apply opv_ldX; exact rfl; exact hs.ar 2 rfl; exact g1_ws; exact rfl; exact rfl; apply wl_val; apply opv_len; exact rfl; exact tyWs.sl; exact rfl; refine wl_mv rfl rfl ?_; refine wl_ns ?_; refine wc_block ?_
  replace hs := ((hs.drop 2 rfl).kpNil (K := fun _ => True) fun _ => trivial).nilG 2 166
  replace hs := ((((hs.front 1 rfl).front 1 rfl).front 3 rfl).front 3 rfl)
  refine wc_loop (NtI w T ct g1 g3 [] n) [(2, .pointer (some ⟨g2, 0, none⟩)), (3, .pointer (some ⟨g3, 0, none⟩)), (24, .slice T n.terms.length ct), (25, .int .i64 (n.terms.length : Int)), (26, .int .i64 (0 : Nat))] n.terms.length ⟨0, none, 0, [], _, g2, rfl, Nat.zero_le _, AllK.nil, hs, rfl⟩ ⟨rfl, rfl, rfl, rfl, rfl, trivial⟩ ?_
  clear hs
  rintro _ w3 q ⟨k, E, ce, css, K, g2, rfl, hk, hA, hs, rfl⟩
  have hkl : css.length = k := by rw [hA.1, entsN_len, List.length_take]; omega
  refine wc_sr ?_; refine wl_bin rfl rfl bin_lss rfl ?_; refine wl_ns ?_; refine wc_seq ?_
  refine wc_cond rfl (fun h1 => ?_) (fun h1 => ?_)
  · obtain ⟨x, hx⟩ : ∃ x, n.terms[k]? = some x := ⟨_, List.getElem?_eq_getElem (by omega)⟩
    have hv : (wVs n.terms)[k]? = some (.int .u64 (x : Int)) := by simp [wVs, hx]
    have htk := take_getR hx
    have hkt : (n.terms.take k).length = k := by rw [List.length_take]; omega
    refine wc_skip ?_; refine we_seq ?_; refine wc_seq ?_; refine wc_block ?_; refine wc_sr ?_; refine wl_mv rfl rfl ?_
    refine wl_val (opv_idxR (kk := k) (u := .int .u64 (x : Int)) tyWs rfl rfl (rT.below hs.bel) rfl hv) rfl ?_
    refine wl_val (opv_loadR (kk := k) (u := .int .u64 (x : Int)) tyWs rfl (rT.below hs.bel) hv) rfl ?_
    refine wl_as rfl rfl ?_; refine wl_as rfl rfl ?_; refine wl_ns ?_; refine wc_region ?_; apply wl_val; apply opv_fa; exact fa_sMs (by decide); exact rfl; exact rfl; apply wl_val; apply opv_ldX; exact rfl; exact hs.ar 0 rfl; exact g1_ens; exact rfl; exact rfl; refine wl_mv rfl rfl ?_; refine wl_mv rfl rfl ?_; apply wl_val; apply opv_convR; exact rfl; exact Try.underlying3; exact Try.underlying5; exact IntWalk.u8_in _ (by omega); exact rfl
    refine ws_bs (vs := bvs [UInt8.ofNat k, 7]) hs tyB ⟨rfl, by rw [show Value.int .u8 (k : Int) = bv (UInt8.ofNat k) from (bv_of (by omega)).symm]; rfl, rfl, rfl, rfl, rfl, trivial⟩ rfl (by decide) rfl ?_
    clear hs; intro X _ hs
    skip
    refine wl_val (opv_build (vs := [(0, .int .u64 (x : Int)), (1, .slice X 2 2)]) (cs := [.int .u64 (x : Int), .slice X 2 2]) ⟨rfl, rfl, rfl, rfl, trivial⟩ (by kernel_rfl)) rfl ?_
    refine ws_pushR (cs := [.int .u64 (x : Int), .slice X 2 2]) hs 3 (fun _ => rfl) rfl tkEn (by simp [hkl]) ⟨_, rfl, rfl⟩ rfl rfl (by decide) (by omega) (by simp only [maxLen]; omega) rfl rfl ?_
    clear hs; intro _ E2 ce2 _ hs; dsimp only [setC] at hs
    rw [show css.map rawEl ++ [rawEl [.int .u64 (x : Int), .slice X 2 2]] = (css ++ [enV (x, [UInt8.ofNat k, 7]) X 2]).map rawEl by simp [enV]] at hs
    replace hs := hs.front 1 rfl
    dsimp only [delC] at hs
    apply wl_val; apply opv_fa; exact fa_sMs (by decide); exact rfl; exact rfl; apply ws_st hs 0; exact rfl; exact rfl; exact g1_ens; exact rfl; exact rfl; exact rfl; clear hs; intro _ hs; dsimp only [setC, List.set] at hs; refine wl_nil ?_; refine we_block_norm ?_; refine we_seq ?_; refine wc_region ?_; apply wl_val; apply opv_bin; exact rfl; exact rfl; exact bin_add64 (by omega); exact rfl; refine wl_mv rfl rfl ?_; refine wl_nil ?_
    replace hs := St.kpOf (K := fun w => OwB w 0 X 2 [UInt8.ofNat k, 7] ∧ K w) (H1 := [_, _]) (((((hs.front 3 rfl).front 3 rfl).front 2 rfl).front 4 rfl).front 4 rfl) fun w S hS => ⟨sat_ow hS 0 rfl, Sat.kp (i := 1) hS rfl⟩
    replace hs := (((hs.front 3 rfl).front 3 rfl).front 3 rfl)
    refine we_loop _ (n.terms.length - (k + 1)) ⟨k + 1, E2, ce2, css ++ [enV (x, [UInt8.ofNat k, 7]) X 2], _, g2, rfl, by omega, ?_, hs, rfl⟩ (by omega) ⟨rfl, rfl, rfl, rfl, by simp [lookT], trivial⟩
    rw [htk, entsN_snoc, hkt, Nat.zero_add]
    exact (hA.weak fun w h => h.2).snoc fun w' h => ⟨X, 2, rfl, h.1⟩
  · obtain rfl : k = n.terms.length := by omega
    rw [List.take_length] at hA
    unfold zMs msV at hs
    refine wc_exit ?_; refine we_seq_exit ?_; refine we_loop_exit ?_; refine we_block_exit ?_; refine we_seq ?_; refine wc_sr ?_; apply wl_val; apply opv_loadX; exact rfl; exact hs.ar 0 rfl; exact sMs; exact rfl; apply ws_stS hs 1; exact rfl; exact rfl; exact rfl; exact sMs; exact rfl; exact rfl; clear hs; intro _ hs; dsimp only [setC] at hs; refine wl_ns ?_; refine wc_ret ?_
    refine we_retC rfl rfl (hs.ar 1 rfl) sMs ⟨_, rfl, E, ce, by unfold msV msgOf; dsimp only; rw [entsN_len]; rfl, ?_⟩
    replace hs := (hs.drop 0 rfl).drop 0 rfl
    exact St.kpOf (H1 := [_, _]) hs fun w S hS => by
      obtain ⟨S', ho⟩ := St.rgP (M := S) (w0 := w) (w := w) hS
      exact hA.rdr (Sat.kp (i := 1) hS rfl) (fun x cs h => et_of h) ho
theorem message_any {n : NoteM} {T : Option Addr} {ct : Nat} {w : World} (rT : Rd w T n.terms.length (wVs n.terms)) (hl : n.terms.length ≤ 200) :
    CallsV Try.prog 43 #[.agg (noV n T ct).toArray] w fun v w' => ∃ (E : Option Addr) (ce : Nat), v = .agg (msV (msgOf n) E ce none 0).toArray ∧ St NoB w w' [.ck (kp fun w => RdR 2 w All E ((msgOf n).ents.map etEl))] := by
  have hs := St.init w
  refine calls_in (N := _) Try.func43 rfl Try.ntmps43 rfl ?_; show WC _ _ _ _ _ _
  refine wc_sr ?_
  refine ws_box (cs := noV n T ct) hs rfl rfl ?_; clear hs; intro g1 _ hs
  skip
  refine ws_new hs zeroMs rfl ?_; clear hs; intro g2 _ hs
  refine wl_ns ?_; refine wc_sr ?_; apply wl_val; apply opv_loadX; exact rfl; exact hs.ar 1 rfl; exact sNo; exact rfl
  refine wl_call ok_caissonlaw17_msg (msg17_any (rT.below hs.bel) hl) ⟨rfl, trivial⟩ rfl ?_
  rintro _ _ ⟨E, ce, rfl, hsx⟩
  replace hs := hs.call hsx
  clear hsx
  dsimp only [List.cons_append, List.nil_append] at hs
  unfold zMs at hs
  apply ws_stS hs 1; exact rfl; exact rfl; exact rfl; exact sMs; exact rfl; exact rfl; clear hs; intro _ hs; dsimp only [setC] at hs; refine wl_ns ?_; refine wc_ret ?_
  exact we_retC rfl rfl (hs.ar 1 rfl) sMs ⟨_, rfl, E, ce, rfl, (hs.drop 1 rfl).drop 1 rfl⟩
end Go.Proofs.Ytaacnknniaipmaa

/-
  The walk over the packet that a law makes out of a form.
-/
namespace Go.Proofs.Ytaacnknniaipmaa
open Go.RowKit

def PkG (f : FormM) (E P W Y : Option Addr) (cy : Nat) (D : Option Addr) (cd : Nat) (w : World) : Prop := RdR 2 w All E ((msgOf f.note).ents.map etEl) ∧ RdR 2 w All P (f.pairs.map prEl) ∧ RdR 3 w All W (f.writes.map wrEl) ∧ OwB w 0 Y cy f.reply ∧ OwB w 0 D cd f.data
def PtI (w : World) (f : FormM) (P : Option Addr) (cp : Nat) (E : Option Addr) (ce : Nat) (W2 : Option Addr) (w2 : Nat) (Y2 : Option Addr) (y2 : Nat) (D2 : Option Addr) (d2 g2 g3 : Nat) (K0 : World → Prop) : FL → World → Nat → Prop := fun L wr q =>
  ∃ (k : Nat) (R : Option Addr) (c : Nat) (css : List (List Value)) (K : World → Prop), L = [(2, .pointer (some ⟨g2, 0, none⟩)), (3, .pointer (some ⟨g3, 0, none⟩)), (63, .slice P f.pairs.length cp), (64, .int .i64 (f.pairs.length : Int)), (65, .int .i64 (k : Int))] ∧ k ≤ f.pairs.length ∧ AllK K (QPr 0) (f.pairs.take k) css ∧
    St NoB w wr [.blk g3 42 (pkV ⟨f.kind, f.fr, f.to, f.shard, f.round, f.cmd, f.lead, f.tx, f.code, msgOf f.note, { resOf f with pairs := f.pairs.take k }, f.data⟩ (msV (msgOf f.note) E ce none 0) (reV { resOf f with pairs := f.pairs.take k } R c W2 w2 Y2 y2) D2 d2), .blk g2 42 (pkZ zPk), .rg 2 130 R c (css.map rawEl), .ck (kp K), .ck (kp K0)] ∧ q = f.pairs.length - k
set_option maxHeartbeats 8000000 in
set_option maxRecDepth 8000 in
theorem packet_any {f : FormM} {T P W Y D : Option Addr} {ct cp cw cy cd : Nat} {w : World} (rT : Rd w T f.note.terms.length (wVs f.note.terms)) (hlt : f.note.terms.length ≤ 200) (rP : RdR 2 w All P (f.pairs.map prEl)) (hlp : f.pairs.length ≤ 4194304) (hbp : ∀ x ∈ f.pairs, x.1.length ≤ 4194304 ∧ x.2.length ≤ 4194304)
    (rW : RdR 3 w All W (f.writes.map wrEl)) (hlw : f.writes.length ≤ 4194304) (hbw : ∀ x ∈ f.writes, x.key.length ≤ 4194304 ∧ x.val.length ≤ 4194304) (rY : RdB w Y f.reply) (hly : f.reply.length ≤ 4194304) (rD : RdB w D f.data) (hld : f.data.length ≤ 4194304) :
    CallsV Try.prog 21 #[.agg (fmV f (noV f.note T ct) P cp W cw Y cy D cd).toArray] w fun v w' => ∃ (E : Option Addr) (ce : Nat) (P2 : Option Addr) (p2 : Nat) (W2 : Option Addr) (w2 : Nat) (Y2 : Option Addr) (y2 : Nat) (D2 : Option Addr) (d2 : Nat),
      v = .agg (pkV (pkOf f) (msV (msgOf f.note) E ce none 0) (reV (resOf f) P2 p2 W2 w2 Y2 y2) D2 d2).toArray ∧ St NoB w w' [.ck (kp (PkG f E P2 W2 Y2 y2 D2 d2))] := by
  have hs := St.init w
  have hmax : maxLen = 9223372036854775807 := rfl
  refine calls_in (N := _) Try.func21 rfl Try.ntmps21 rfl ?_; show WC _ _ _ _ _ _
  refine wc_sr ?_
  refine ws_box (cs := fmV f (noV f.note T ct) P cp W cw Y cy D cd) hs rfl rfl ?_; clear hs; intro g1 _ hs
  skip
  refine ws_new hs zeroPk rfl ?_; clear hs; intro g2 _ hs
  refine wl_ns ?_; refine wc_seq ?_
  refine wc_cutE (fun L w' => ∃ (E : Option Addr) (ce : Nat) (D2 : Option Addr) (d2 g3 : Nat), L = [(1, .pointer (some ⟨g1, 0, none⟩)), (2, .pointer (some ⟨g2, 0, none⟩)), (3, .pointer (some ⟨g3, 0, none⟩))] ∧
    St NoB w w' [.blk g1 79 (fmV f (noV f.note T ct) P cp W cw Y cy D cd), .blk g3 42 (pkV ⟨f.kind, f.fr, f.to, f.shard, f.round, f.cmd, f.lead, f.tx, f.code, msgOf f.note, zRes, f.data⟩ (msV (msgOf f.note) E ce none 0) (reV zRes none 0 none 0 none 0) D2 d2), .blk g2 42 (pkZ zPk), .ck (kp fun w => RdR 2 w All E ((msgOf f.note).ents.map etEl)), .ow 5 D2 f.data.length d2 (bvs f.data)]) ?_ ?_
  · refine wc_heldG (fun w' => Ar w' g1 79 (fmV f (noV f.note T ct) P cp W cw Y cy D cd)) 26 mixed ?_
    replace hs := hs.below (Below.refl _ _).drew
    have hS := hs.ar 1 rfl
    apply wm_take 0; exact rfl; intro _ hw_; apply opv_fa; exact fa_Fm0; exact rfl; exact rfl; kernel_rfl; exact hS; apply wm_take 1; exact rfl; intro _ hw_; apply opv_ldX; exact rfl; assumption; exact g1_int; exact rfl; exact rfl; kernel_rfl; exact hS; apply wm_take 2; exact rfl; intro _ hw_; apply opv_fa; exact fa_Fm1; exact rfl; exact rfl; kernel_rfl; exact hS; apply wm_take 3; exact rfl; intro _ hw_; apply opv_ldX; exact rfl; assumption; exact g1_int; exact rfl; exact rfl; kernel_rfl; exact hS; apply wm_take 4; exact rfl; intro _ hw_; apply opv_fa; exact fa_Fm2; exact rfl; exact rfl; kernel_rfl; exact hS; apply wm_take 5; exact rfl; intro _ hw_; apply opv_ldX; exact rfl; assumption; exact g1_int; exact rfl; exact rfl; kernel_rfl; exact hS; apply wm_take 6; exact rfl; intro _ hw_; apply opv_fa; exact fa_Fm3; exact rfl; exact rfl; kernel_rfl; exact hS; apply wm_take 7; exact rfl; intro _ hw_; apply opv_ldX; exact rfl; assumption; exact g1_int; exact rfl; exact rfl; kernel_rfl; exact hS; apply wm_take 8; exact rfl; intro _ hw_; apply opv_fa; exact fa_Fm4; exact rfl; exact rfl; kernel_rfl; exact hS; apply wm_take 9; exact rfl; intro _ hw_; apply opv_ldX; exact rfl; assumption; exact g1_int; exact rfl; exact rfl; kernel_rfl; exact hS; apply wm_take 10; exact rfl; intro _ hw_; apply opv_fa; exact fa_Fm5; exact rfl; exact rfl; kernel_rfl; exact hS; apply wm_take 11; exact rfl; intro _ hw_; apply opv_ldX; exact rfl; assumption; exact g1_int; exact rfl; exact rfl; kernel_rfl; exact hS; apply wm_take 12; exact rfl; intro _ hw_; apply opv_fa; exact fa_Fm6; exact rfl; exact rfl; kernel_rfl; exact hS; apply wm_take 13; exact rfl; intro _ hw_; apply opv_ldX; exact rfl; assumption; exact g1_int; exact rfl; exact rfl; kernel_rfl; exact hS; apply wm_take 14; exact rfl; intro _ hw_; apply opv_fa; exact fa_Fm7; exact rfl; exact rfl; kernel_rfl; exact hS; apply wm_take 15; exact rfl; intro _ hw_; apply opv_ldX; exact rfl; assumption; exact g1_int; exact rfl; exact rfl; kernel_rfl; exact hS; apply wm_take 16; exact rfl; intro _ hw_; apply opv_fa; exact fa_Fm8; exact rfl; exact rfl; kernel_rfl; exact hS
    refine wm_take 17 rfl (fun w' hw => opv_ldG (cs := txW f.tx) rfl (ar_wiP hw 8 (txW f.tx) (fun j u hu => by
      match j, hu with
      | 0, hu => exact hu
      | 1, hu => exact hu)) sTxn) rfl (by kernel_rfl) hS ?_
    apply wm_take 18; exact rfl; intro _ hw_; apply opv_fa; exact fa_Fm9; exact rfl; exact rfl; kernel_rfl; exact hS
    refine wm_take 19 rfl (fun w' hw => opv_ldG (cs := noV f.note T ct) rfl (ar_wiP hw 10 (noV f.note T ct) (fun j u hu => pk_mid hu)) sNo) rfl (by kernel_rfl) hS ?_
    apply wm_take 21; exact rfl; intro _ hw_; apply opv_fa; exact fa_Fm11; exact rfl; exact rfl; kernel_rfl; exact hS; apply wm_take 22; exact rfl; intro _ hw_; apply opv_ldX; exact rfl; assumption; exact g1_by; exact rfl; exact rfl; kernel_rfl; exact hS
    clear hS
    refine wm_two 20 25 (by kernel_rfl) rfl rfl ?_ ?_ <;> dsimp only [List.getElem_toArray, List.getElem_cons_succ, List.getElem_cons_zero]
    · refine wl_call ok_caissonlaw17_Message (message_any (rT.below hs.bel) hlt) ⟨rfl, trivial⟩ rfl ?_
      rintro _ _ ⟨E, ce, rfl, hsx⟩
      replace hs := hs.call hsx
      clear hsx
      dsimp only [List.cons_append, List.nil_append] at hs
      refine wl_nil ?_
      refine we_heldM (fun _ => hs.ar 2 rfl) ?_
      refine wm_two 23 25 (by kernel_rfl) rfl rfl ?_ ?_ <;> dsimp only [List.getElem_toArray, List.getElem_cons_succ, List.getElem_cons_zero]
      · refine wl_call ok_caissonref01_Copy (copy_any (rD.below hs.bel) rfl (by omega)) ⟨rfl, trivial⟩ rfl ?_
        rintro _ _ ⟨D2, d2, rfl, o_, hbx⟩
        replace hs := hs.newO hbx o_ (Nat.le_refl _)
        clear hbx o_
        refine wl_nil ?_
        refine we_heldM (fun _ => hs.ar 3 rfl) ?_
        have hS := hs.ar 3 rfl
        refine wm_takeP 24 rfl (fun _ => opv_build (vs := [(0, .int .i64 f.kind), (1, .int .i64 f.fr), (2, .int .i64 f.to), (3, .int .i64 f.shard), (4, .int .i64 f.round), (5, .int .i64 f.cmd), (6, .int .i64 f.lead), (8, .int .i64 f.code), (7, .agg (txW f.tx).toArray), (9, .agg (msV (msgOf f.note) E ce none 0).toArray), (11, .slice D2 f.data.length d2)]) (cs := pkV ⟨f.kind, f.fr, f.to, f.shard, f.round, f.cmd, f.lead, f.tx, f.code, msgOf f.note, zRes, f.data⟩ (msV (msgOf f.note) E ce none 0) (reV zRes none 0 none 0 none 0) D2 d2) ⟨rfl, rfl, rfl, rfl, rfl, rfl, rfl, rfl, rfl, rfl, rfl, rfl, rfl, rfl, rfl, rfl, rfl, rfl, rfl, rfl, rfl, rfl, trivial⟩ (by kernel_rfl)) rfl (by kernel_rfl) (fun _ => hS) ?_
        clear hS
        refine wm_one 25 (by kernel_rfl) rfl ?_; dsimp only [List.getElem_toArray, List.getElem_cons_succ, List.getElem_cons_zero]
        refine ws_new hs zeroPk rfl ?_
        clear hs; intro g3 _ hs
        refine wl_nil ?_
        refine we_heldM (fun _ => hs.ar 4 rfl) ?_
        refine wm_one 26 (by kernel_rfl) rfl ?_; dsimp only [List.getElem_toArray, List.getElem_cons_succ, List.getElem_cons_zero]
        refine ws_stS (cs' := pkV ⟨f.kind, f.fr, f.to, f.shard, f.round, f.cmd, f.lead, f.tx, f.code, msgOf f.note, zRes, f.data⟩ (msV (msgOf f.note) E ce none 0) (reV zRes none 0 none 0 none 0) D2 d2) hs 0 rfl rfl rfl sPk rfl rfl ?_
        clear hs; intro _ hs; dsimp only [setC] at hs
        refine wl_nil ?_
        refine we_heldM (fun h => absurd h (by decide)) ?_
        refine wm_done (by kernel_rfl) ?_
        exact we_cut _ ⟨E, ce, D2, d2, g3, rfl, (((((hs.front 1 rfl).front 2 rfl).front 3 rfl).front 3 rfl).front 4 rfl)⟩ ⟨rfl, rfl, rfl, trivial⟩
      · refine ws_new hs zeroPk rfl ?_
        clear hs; intro g3 _ hs
        refine wl_nil ?_
        refine we_heldM (fun _ => hs.ar 3 rfl) ?_
        refine wm_one 23 (by kernel_rfl) rfl ?_; dsimp only [List.getElem_toArray, List.getElem_cons_succ, List.getElem_cons_zero]
        refine wl_call ok_caissonref01_Copy (copy_any (rD.below hs.bel) rfl (by omega)) ⟨rfl, trivial⟩ rfl ?_
        rintro _ _ ⟨D2, d2, rfl, o_, hbx⟩
        replace hs := hs.newO hbx o_ (Nat.le_refl _)
        clear hbx o_
        refine wl_nil ?_
        refine we_heldM (fun _ => hs.ar 4 rfl) ?_
        have hS := hs.ar 4 rfl
        refine wm_takeP 24 rfl (fun _ => opv_build (vs := [(0, .int .i64 f.kind), (1, .int .i64 f.fr), (2, .int .i64 f.to), (3, .int .i64 f.shard), (4, .int .i64 f.round), (5, .int .i64 f.cmd), (6, .int .i64 f.lead), (8, .int .i64 f.code), (7, .agg (txW f.tx).toArray), (9, .agg (msV (msgOf f.note) E ce none 0).toArray), (11, .slice D2 f.data.length d2)]) (cs := pkV ⟨f.kind, f.fr, f.to, f.shard, f.round, f.cmd, f.lead, f.tx, f.code, msgOf f.note, zRes, f.data⟩ (msV (msgOf f.note) E ce none 0) (reV zRes none 0 none 0 none 0) D2 d2) ⟨rfl, rfl, rfl, rfl, rfl, rfl, rfl, rfl, rfl, rfl, rfl, rfl, rfl, rfl, rfl, rfl, rfl, rfl, rfl, rfl, rfl, rfl, trivial⟩ (by kernel_rfl)) rfl (by kernel_rfl) (fun _ => hS) ?_
        clear hS
        refine wm_one 26 (by kernel_rfl) rfl ?_; dsimp only [List.getElem_toArray, List.getElem_cons_succ, List.getElem_cons_zero]
        refine ws_stS (cs' := pkV ⟨f.kind, f.fr, f.to, f.shard, f.round, f.cmd, f.lead, f.tx, f.code, msgOf f.note, zRes, f.data⟩ (msV (msgOf f.note) E ce none 0) (reV zRes none 0 none 0 none 0) D2 d2) hs 1 rfl rfl rfl sPk rfl rfl ?_
        clear hs; intro _ hs; dsimp only [setC] at hs
        refine wl_nil ?_
        refine we_heldM (fun h => absurd h (by decide)) ?_
        refine wm_done (by kernel_rfl) ?_
        exact we_cut _ ⟨E, ce, D2, d2, g3, rfl, ((((hs.front 2 rfl).front 3 rfl).front 3 rfl).front 4 rfl)⟩ ⟨rfl, rfl, rfl, trivial⟩
    · refine ws_new hs zeroPk rfl ?_
      clear hs; intro g3 _ hs
      refine wl_nil ?_
      refine we_heldM (fun _ => hs.ar 2 rfl) ?_
      refine wm_one 20 (by kernel_rfl) rfl ?_; dsimp only [List.getElem_toArray, List.getElem_cons_succ, List.getElem_cons_zero]
      refine wl_call ok_caissonlaw17_Message (message_any (rT.below hs.bel) hlt) ⟨rfl, trivial⟩ rfl ?_
      rintro _ _ ⟨E, ce, rfl, hsx⟩
      replace hs := hs.call hsx
      clear hsx
      dsimp only [List.cons_append, List.nil_append] at hs
      refine wl_nil ?_
      refine we_heldM (fun _ => hs.ar 3 rfl) ?_
      refine wm_one 23 (by kernel_rfl) rfl ?_; dsimp only [List.getElem_toArray, List.getElem_cons_succ, List.getElem_cons_zero]
      refine wl_call ok_caissonref01_Copy (copy_any (rD.below hs.bel) rfl (by omega)) ⟨rfl, trivial⟩ rfl ?_
      rintro _ _ ⟨D2, d2, rfl, o_, hbx⟩
      replace hs := hs.newO hbx o_ (Nat.le_refl _)
      clear hbx o_
      refine wl_nil ?_
      refine we_heldM (fun _ => hs.ar 4 rfl) ?_
      have hS := hs.ar 4 rfl
      refine wm_takeP 24 rfl (fun _ => opv_build (vs := [(0, .int .i64 f.kind), (1, .int .i64 f.fr), (2, .int .i64 f.to), (3, .int .i64 f.shard), (4, .int .i64 f.round), (5, .int .i64 f.cmd), (6, .int .i64 f.lead), (8, .int .i64 f.code), (7, .agg (txW f.tx).toArray), (9, .agg (msV (msgOf f.note) E ce none 0).toArray), (11, .slice D2 f.data.length d2)]) (cs := pkV ⟨f.kind, f.fr, f.to, f.shard, f.round, f.cmd, f.lead, f.tx, f.code, msgOf f.note, zRes, f.data⟩ (msV (msgOf f.note) E ce none 0) (reV zRes none 0 none 0 none 0) D2 d2) ⟨rfl, rfl, rfl, rfl, rfl, rfl, rfl, rfl, rfl, rfl, rfl, rfl, rfl, rfl, rfl, rfl, rfl, rfl, rfl, rfl, rfl, rfl, trivial⟩ (by kernel_rfl)) rfl (by kernel_rfl) (fun _ => hS) ?_
      clear hS
      refine wm_one 26 (by kernel_rfl) rfl ?_; dsimp only [List.getElem_toArray, List.getElem_cons_succ, List.getElem_cons_zero]
      refine ws_stS (cs' := pkV ⟨f.kind, f.fr, f.to, f.shard, f.round, f.cmd, f.lead, f.tx, f.code, msgOf f.note, zRes, f.data⟩ (msV (msgOf f.note) E ce none 0) (reV zRes none 0 none 0 none 0) D2 d2) hs 2 rfl rfl rfl sPk rfl rfl ?_
      clear hs; intro _ hs; dsimp only [setC] at hs
      refine wl_nil ?_
      refine we_heldM (fun h => absurd h (by decide)) ?_
      refine wm_done (by kernel_rfl) ?_
      exact we_cut _ ⟨E, ce, D2, d2, g3, rfl, ((((hs.front 1 rfl).front 3 rfl).front 3 rfl).front 4 rfl)⟩ ⟨rfl, rfl, rfl, trivial⟩
  clear hs
  rintro _ w5 ⟨E, ce, D2, d2, g3, rfl, hs⟩
  refine we_seq ?_; refine wc_seq ?_
  refine wc_cutE (fun L w' => ∃ (W2 : Option Addr) (w2 : Nat) (Y2 : Option Addr) (y2 : Nat), L = [(1, .pointer (some ⟨g1, 0, none⟩)), (2, .pointer (some ⟨g2, 0, none⟩)), (3, .pointer (some ⟨g3, 0, none⟩))] ∧
    St NoB w w' [.blk g1 79 (fmV f (noV f.note T ct) P cp W cw Y cy D cd), .blk g3 42 (pkV ⟨f.kind, f.fr, f.to, f.shard, f.round, f.cmd, f.lead, f.tx, f.code, msgOf f.note, { resOf f with pairs := [] }, f.data⟩ (msV (msgOf f.note) E ce none 0) (reV { resOf f with pairs := [] } none 0 W2 w2 Y2 y2) D2 d2), .blk g2 42 (pkZ zPk), .ck (kp fun w => RdR 2 w All E ((msgOf f.note).ents.map etEl) ∧ RdR 3 w All W2 (f.writes.map wrEl) ∧ OwB w 0 Y2 y2 f.reply ∧ OwB w 0 D2 d2 f.data)]) ?_ ?_
  · refine wc_heldG (fun w' => Ar w' g1 79 (fmV f (noV f.note T ct) P cp W cw Y cy D cd)) 30 mixed ?_
    replace hs := hs.below (Below.refl _ _).drew
    have hS := hs.ar 0 rfl
    apply wm_take 0; exact rfl; intro _ hw_; apply opv_fa; exact fa_Fm10; exact rfl; exact rfl; kernel_rfl; exact hS; apply wm_take 1; exact rfl; intro _ hw_; apply opv_fa; exact fa_Rs0; exact rfl; exact rfl; kernel_rfl; exact hS; apply wm_take 2; exact rfl; intro _ hw_; apply opv_ldX; exact rfl; assumption; exact g1_int; exact rfl; exact rfl; kernel_rfl; exact hS; apply wm_take 3; exact rfl; intro _ hw_; apply opv_fa; exact fa_Fm10; exact rfl; exact rfl; kernel_rfl; exact hS; apply wm_take 4; exact rfl; intro _ hw_; apply opv_fa; exact fa_Rs1; exact rfl; exact rfl; kernel_rfl; exact hS; apply wm_take 5; exact rfl; intro _ hw_; apply opv_ldX; exact rfl; assumption; exact g1_int; exact rfl; exact rfl; kernel_rfl; exact hS; apply wm_take 6; exact rfl; intro _ hw_; apply opv_fa; exact fa_Fm10; exact rfl; exact rfl; kernel_rfl; exact hS; apply wm_take 7; exact rfl; intro _ hw_; apply opv_fa; exact fa_Rs2; exact rfl; exact rfl; kernel_rfl; exact hS; apply wm_take 8; exact rfl; intro _ hw_; apply opv_ldX; exact rfl; assumption; exact g1_u64; exact rfl; exact rfl; kernel_rfl; exact hS; apply wm_take 9; exact rfl; intro _ hw_; apply opv_fa; exact fa_Fm10; exact rfl; exact rfl; kernel_rfl; exact hS; apply wm_take 10; exact rfl; intro _ hw_; apply opv_fa; exact fa_Rs4; exact rfl; exact rfl; kernel_rfl; exact hS; apply wm_take 11; exact rfl; intro _ hw_; apply opv_fa; exact fa_Rr1; exact rfl; exact rfl; kernel_rfl; exact hS; apply wm_take 12; exact rfl; intro _ hw_; apply opv_ldX; exact rfl; assumption; exact g1_bool; exact rfl; exact rfl; kernel_rfl; exact hS; apply wm_take 13; exact rfl; intro _ hw_; apply opv_fa; exact fa_Fm10; exact rfl; exact rfl; kernel_rfl; exact hS; apply wm_take 14; exact rfl; intro _ hw_; apply opv_fa; exact fa_Rs4; exact rfl; exact rfl; kernel_rfl; exact hS; apply wm_take 15; exact rfl; intro _ hw_; apply opv_fa; exact fa_Rr2; exact rfl; exact rfl; kernel_rfl; exact hS; apply wm_take 16; exact rfl; intro _ hw_; apply opv_ldX; exact rfl; assumption; exact g1_u64; exact rfl; exact rfl; kernel_rfl; exact hS; apply wm_take 17; exact rfl; intro _ hw_; apply opv_fa; exact fa_Fm10; exact rfl; exact rfl; kernel_rfl; exact hS; apply wm_take 18; exact rfl; intro _ hw_; apply opv_fa; exact fa_Rs4; exact rfl; exact rfl; kernel_rfl; exact hS; apply wm_take 19; exact rfl; intro _ hw_; apply opv_fa; exact fa_Rr4; exact rfl; exact rfl; kernel_rfl; exact hS; apply wm_take 20; exact rfl; intro _ hw_; apply opv_ldX; exact rfl; assumption; exact g1_by; exact rfl; exact rfl; kernel_rfl; exact hS; apply wm_take 22; exact rfl; intro _ hw_; apply opv_fa; exact fa_Fm10; exact rfl; exact rfl; kernel_rfl; exact hS; apply wm_take 23; exact rfl; intro _ hw_; apply opv_fa; exact fa_Rs4; exact rfl; exact rfl; kernel_rfl; exact hS; apply wm_take 24; exact rfl; intro _ hw_; apply opv_fa; exact fa_Rr3; exact rfl; exact rfl; kernel_rfl; exact hS; apply wm_take 25; exact rfl; intro _ hw_; apply opv_ldX; exact rfl; assumption; exact g1_wrs; exact rfl; exact rfl; kernel_rfl; exact hS
    clear hS
    refine wm_one 21 (by kernel_rfl) rfl ?_; dsimp only [List.getElem_toArray, List.getElem_cons_succ, List.getElem_cons_zero]
    refine wl_call ok_caissonref01_Copy (copy_any (rY.below hs.bel) rfl (by omega)) ⟨rfl, trivial⟩ rfl ?_
    rintro _ _ ⟨Y2, y2, rfl, o_, hbx⟩
    replace hs := (hs.newO hbx o_ (Nat.le_refl _)).front 1 rfl
    dsimp only [delC] at hs
    clear hbx o_
    refine wl_nil ?_
    refine we_heldM (fun _ => hs.ar 0 rfl) ?_
    refine wm_one 26 (by kernel_rfl) rfl ?_; dsimp only [List.getElem_toArray, List.getElem_cons_succ, List.getElem_cons_zero]
    refine wl_call ok_caissonref13_Twins (twins13_any (rW.below hs.bel) rfl hlw hbw) ⟨rfl, trivial⟩ rfl ?_
    rintro _ _ ⟨W2, w2, rfl, hsx⟩
    replace hs := (hs.call hsx).front 1 rfl
    clear hsx
    dsimp only [List.cons_append, List.nil_append, delC] at hs
    refine wl_nil ?_
    refine we_heldM (fun _ => hs.ar 0 rfl) ?_
    have hS := hs.ar 0 rfl
    refine wm_takeP 27 rfl (fun _ => opv_build (vs := [(0, .bool f.commit), (1, .int .u64 (f.rts : Int)), (3, .slice Y2 f.reply.length y2), (2, .slice W2 f.writes.length w2)]) (cs := [.bool f.commit, .int .u64 (f.rts : Int), .slice W2 f.writes.length w2, .slice Y2 f.reply.length y2]) ⟨rfl, rfl, rfl, rfl, rfl, rfl, rfl, rfl, trivial⟩ (by kernel_rfl)) rfl (by kernel_rfl) (fun _ => hS) ?_
    refine wm_takeP 28 rfl (fun _ => opv_build (vs := [(0, .int .i64 f.err), (1, .int .i64 f.status), (2, .int .u64 (f.ts : Int)), (4, .agg [.bool f.commit, .int .u64 (f.rts : Int), .slice W2 f.writes.length w2, .slice Y2 f.reply.length y2].toArray)]) (cs := reV { resOf f with pairs := [] } none 0 W2 w2 Y2 y2) ⟨rfl, rfl, rfl, rfl, rfl, rfl, rfl, rfl, trivial⟩ (by kernel_rfl)) rfl (by kernel_rfl) (fun _ => hS) ?_
    apply wm_takeP 29; exact rfl; intro _; apply opv_fa; exact fa_Pk10; exact rfl; exact rfl; kernel_rfl; exact fun _ => hS
    clear hS
    refine wm_one 30 (by kernel_rfl) rfl ?_; dsimp only [List.getElem_toArray, List.getElem_cons_succ, List.getElem_cons_zero]
    refine ws_stM (ds := reV { resOf f with pairs := [] } none 0 W2 w2 Y2 y2) hs 3 rfl rfl rfl sRe (Nat.le_of_ble_eq_true rfl) rfl ?_
    clear hs; intro _ hs; dsimp only [setC] at hs
    refine wl_nil ?_
    refine we_heldM (fun h => absurd h (by decide)) ?_
    refine wm_done (by kernel_rfl) ?_
    have h2 := St.kpOf (K := fun w => RdR 2 w All E ((msgOf f.note).ents.map etEl) ∧ RdR 3 w All W2 (f.writes.map wrEl) ∧ OwB w 0 Y2 y2 f.reply ∧ OwB w 0 D2 d2 f.data) (H1 := [_, _, _, _]) (((((((hs.front 4 rfl).front 4 rfl).front 2 rfl).front 6 rfl).front 5 rfl).front 5 rfl).front 6 rfl) fun w S hS => ⟨Sat.kp (i := 0) hS rfl, Sat.kp (i := 1) hS rfl, sat_ow hS 2 rfl, sat_ow hS 3 rfl⟩
    exact we_cut _ ⟨W2, w2, Y2, y2, rfl, (((h2.front 3 rfl).front 3 rfl).front 3 rfl)⟩ ⟨rfl, rfl, rfl, trivial⟩
  clear hs
  rintro _ w6 ⟨W2, w2, Y2, y2, rfl, hs⟩
  obtain ⟨K0, hK0⟩ : ∃ K0 : World → Prop, (fun w => RdR 2 w All E ((msgOf f.note).ents.map etEl) ∧ RdR 3 w All W2 (f.writes.map wrEl) ∧ OwB w 0 Y2 y2 f.reply ∧ OwB w 0 D2 d2 f.data) = K0 := ⟨_, rfl⟩
  rw [hK0] at hs
  refine we_seq ?_; refine wc_seq ?_; refine wc_sr ?_; apply wl_val; apply opv_fa; exact fa_Fm10; exact rfl; exact rfl; apply wl_val; apply opv_fa; exact fa_Rs3; exact rfl; exact rfl; apply wl_val; apply opv_ldX; exact rfl; exact hs.ar 0 rfl; exact g1_prs; exact rfl; exact rfl; apply wl_val; apply opv_len; exact rfl; exact tkPr.sl; exact rfl; refine wl_mv rfl rfl ?_; refine wl_ns ?_; refine wc_block ?_
  replace hs := ((hs.drop 0 rfl).kpNil (K := fun _ => True) fun _ => trivial).nilG 2 130
  replace hs := (((((hs.front 4 rfl).front 2 rfl).front 2 rfl).front 4 rfl).front 4 rfl)
  refine wc_loop (PtI w f P cp E ce W2 w2 Y2 y2 D2 d2 g2 g3 K0) [(2, .pointer (some ⟨g2, 0, none⟩)), (3, .pointer (some ⟨g3, 0, none⟩)), (63, .slice P f.pairs.length cp), (64, .int .i64 (f.pairs.length : Int)), (65, .int .i64 (0 : Nat))] f.pairs.length ⟨0, none, 0, [], _, rfl, Nat.zero_le _, AllK.nil, hs, rfl⟩ ⟨rfl, rfl, rfl, rfl, rfl, trivial⟩ ?_
  clear hs
  rintro _ w7 q ⟨k, R, c, css, K, rfl, hk, hA, hs, rfl⟩
  have hkl : css.length = k := by rw [hA.1, List.length_take]; omega
  have hkt : (f.pairs.take k).length = k := by rw [List.length_take]; omega
  refine wc_sr ?_; refine wl_bin rfl rfl bin_lss rfl ?_; refine wl_ns ?_; refine wc_seq ?_
  refine wc_cond rfl (fun h1 => ?_) (fun h1 => ?_)
  · obtain ⟨p, hp⟩ : ∃ p, f.pairs[k]? = some p := ⟨_, List.getElem?_eq_getElem (by omega)⟩
    obtain ⟨b, o, cs, rfl, _, _, ⟨X, x, Y', y', rfl, hx, hy⟩, hw⟩ := RdR.at (k := 2) (by decide) rP (E := prEl p) (i := k) (by rw [List.getElem?_map, hp]; rfl)
    have i1 := hw.below hs.bel
    have rx := by_rd hx
    have ry := by_rd hy
    have htk := take_getR hp
    have hbp0 := hbp p (List.mem_of_getElem? hp)
    refine wc_skip ?_; refine we_seq ?_; refine wc_seq ?_; refine wc_block ?_; refine wc_sr ?_; apply wl_val; apply opv_idxG tkPr; exact rfl; exact rfl; exact rfl; omega; exact rfl; apply wl_val; apply opv_ldG; exact rfl; assumption; exact sPr; exact rfl
    refine ws_var (cs := prV p X x Y' y') hs zeroPr sPr rfl (fun _ => rfl) (by first | rfl | simp [Value.oneCell']) rfl ?_; clear hs; intro g5 _ hs
    clear i1
    unfold prV at hs
    unfold pkV reV at hs
    dsimp only [List.cons_append, List.nil_append] at hs
    refine wl_ns ?_
    refine wc_heldG (fun w' => Ar w' g3 42 (pkV ⟨f.kind, f.fr, f.to, f.shard, f.round, f.cmd, f.lead, f.tx, f.code, msgOf f.note, { resOf f with pairs := f.pairs.take k }, f.data⟩ (msV (msgOf f.note) E ce none 0) (reV { resOf f with pairs := f.pairs.take k } R c W2 w2 Y2 y2) D2 d2) ∧ Ar w' g5 130 [.slice X p.1.length x, .slice Y' p.2.length y']) 14 mixed ?_
    replace hs := hs.below (Below.refl _ _).drew
    have hS := And.intro (hs.ar 1 rfl) (hs.ar 0 rfl)
    apply wm_take 0; exact rfl; intro _ hw_; apply opv_fa; exact fa_Pk10; exact rfl; exact rfl; kernel_rfl; exact hS; apply wm_take 1; exact rfl; intro _ hw_; apply opv_fa; exact fa_sRe (by decide); exact rfl; exact rfl; kernel_rfl; exact hS; apply wm_take 2; exact rfl; intro _ hw_; apply opv_ldX; exact rfl; exact hw_.1; exact g1_prs; exact rfl; exact rfl; kernel_rfl; exact hS; apply wm_take 3; exact rfl; intro _ hw_; apply opv_fa; exact fa_sPr (by decide); exact rfl; exact rfl; kernel_rfl; exact hS; apply wm_take 4; exact rfl; intro _ hw_; apply opv_ldX; exact rfl; exact hw_.2; exact g1_by; exact rfl; exact rfl; kernel_rfl; exact hS; apply wm_take 6; exact rfl; intro _ hw_; apply opv_fa; exact fa_sPr (by decide); exact rfl; exact rfl; kernel_rfl; exact hS; apply wm_take 7; exact rfl; intro _ hw_; apply opv_ldX; exact rfl; exact hw_.2; exact g1_by; exact rfl; exact rfl; kernel_rfl; exact hS
    clear hS
    refine wm_one 5 (by kernel_rfl) rfl ?_; dsimp only [List.getElem_toArray, List.getElem_cons_succ, List.getElem_cons_zero]
    refine wl_call ok_caissonref01_Copy (copy_any (rx.1.below hs.bel) rfl (by omega)) ⟨rfl, trivial⟩ rfl ?_
    rintro _ _ ⟨X2, x2, rfl, o_, hbx⟩
    replace hs := hs.newO hbx o_ (Nat.le_refl _)
    clear hbx o_
    refine wl_nil ?_
    refine we_heldM (fun _ => ⟨hs.ar 2 rfl, hs.ar 1 rfl⟩) ?_
    refine wm_one 8 (by kernel_rfl) rfl ?_; dsimp only [List.getElem_toArray, List.getElem_cons_succ, List.getElem_cons_zero]
    refine wl_call ok_caissonref01_Copy (copy_any (ry.1.below hs.bel) rfl (by omega)) ⟨rfl, trivial⟩ rfl ?_
    rintro _ _ ⟨Y3, y3, rfl, o_, hbx⟩
    replace hs := hs.newO hbx o_ (Nat.le_refl _)
    clear hbx o_
    refine wl_nil ?_
    refine we_heldM (fun _ => ⟨hs.ar 3 rfl, hs.ar 2 rfl⟩) ?_
    have hS := And.intro (hs.ar 3 rfl) (hs.ar 2 rfl)
    refine wm_takeP 9 rfl (fun _ => opv_build (vs := [(0, .slice X2 p.1.length x2), (1, .slice Y3 p.2.length y3)]) (cs := prV p X2 x2 Y3 y3) ⟨rfl, rfl, rfl, rfl, trivial⟩ (by kernel_rfl)) rfl (by kernel_rfl) (fun _ => hS) ?_
    clear hS
    refine wm_one 10 (by kernel_rfl) rfl ?_; dsimp only [List.getElem_toArray, List.getElem_cons_succ, List.getElem_cons_zero]
    refine ws_bsR (cs := prV p X2 x2 Y3 y3) hs tkPr ⟨_, rfl, rfl⟩ rfl (by decide) rfl ?_
    clear hs; intro B10 _ hs
    refine wl_nil ?_
    refine we_heldM (fun _ => ⟨hs.ar 4 rfl, hs.ar 3 rfl⟩) ?_
    refine wm_one 11 (by kernel_rfl) rfl ?_; dsimp only [List.getElem_toArray, List.getElem_cons_succ, List.getElem_cons_zero]
    refine ws_appR (css := [prV p X2 x2 Y3 y3]) hs 6 (congrArg (fun z => some (Value.slice R z c)) hkt) rfl tkPr (by simp [hkl]) rfl (hs.rg 0 rfl).rd rfl (by simp [prV, Value.oneCell']) (by omega) (by simp only [maxLen]; omega) rfl ?_
    clear hs; intro R2 c2 _ hs; dsimp only [setC] at hs
    refine wl_nil ?_
    refine we_heldM (fun _ => ⟨hs.ar 4 rfl, hs.ar 3 rfl⟩) ?_
    have hS := And.intro (hs.ar 4 rfl) (hs.ar 3 rfl)
    apply wm_takeP 12; exact rfl; intro _; apply opv_fa; exact fa_Pk10; exact rfl; exact rfl; kernel_rfl; exact fun _ => hS; apply wm_takeP 13; exact rfl; intro _; apply opv_fa; exact fa_sRe (by decide); exact rfl; exact rfl; kernel_rfl; exact fun _ => hS
    clear hS
    refine wm_one 14 (by kernel_rfl) rfl ?_; dsimp only [List.getElem_toArray, List.getElem_cons_succ, List.getElem_cons_zero]
    apply ws_st hs 4; exact rfl; exact rfl; exact g1_prs; exact rfl; exact rfl; exact rfl; clear hs; intro _ hs; dsimp only [setC, List.set] at hs; refine wl_nil ?_
    refine we_heldM (fun h => absurd h (by decide)) ?_
    refine wm_done (by kernel_rfl) ?_
    replace hs := St.kpOf (K := fun w => OwB w 0 X2 x2 p.1 ∧ OwB w 0 Y3 y3 p.2 ∧ K w) (H1 := [_, _, _]) (((((((((hs.front 8 rfl).front 7 rfl).front 7 rfl).front 7 rfl).front 8 rfl).front 6 rfl).front 7 rfl).drop 7 rfl).drop 7 rfl) fun w S hS => ⟨sat_ow hS 0 rfl, sat_ow hS 1 rfl, Sat.kp (i := 2) hS rfl⟩
    replace hs := (((((hs.front 4 rfl).front 1 rfl).front 4 rfl).front 4 rfl).front 4 rfl)
    rw [show css.map rawEl ++ [prV p X2 x2 Y3 y3].map rawEl = (css ++ [prV p X2 x2 Y3 y3]).map rawEl by simp] at hs
    refine we_block_norm ?_; refine we_seq ?_; refine wc_region ?_; apply wl_val; apply opv_bin; exact rfl; exact rfl; exact bin_add64 (by omega); exact rfl; refine wl_mv rfl rfl ?_; refine wl_nil ?_
    refine we_loop _ (f.pairs.length - (k + 1)) ⟨k + 1, R2, c2, css ++ [prV p X2 x2 Y3 y3], fun w => OwB w 0 X2 x2 p.1 ∧ OwB w 0 Y3 y3 p.2 ∧ K w, rfl, by omega, ?_, ?_, rfl⟩ (by omega) ⟨rfl, rfl, rfl, rfl, by simp [lookT], trivial⟩
    · rw [htk]
      exact (hA.weak fun w h => h.2.2).snoc fun w' h => ⟨X2, x2, Y3, y3, rfl, h.1, h.2.1⟩
    · rw [show k + 1 = (f.pairs.take (k + 1)).length by rw [List.length_take]; omega] at hs
      exact hs
  · obtain rfl : k = f.pairs.length := by omega
    rw [List.take_length] at hA hs
    unfold pkZ zPk at hs
    refine wc_exit ?_; refine we_seq_exit ?_; refine we_loop_exit ?_; refine we_block_exit ?_; refine we_seq ?_; refine wc_sr ?_; apply wl_val; apply opv_loadX; exact rfl; exact hs.ar 0 rfl; exact sPk; exact rfl; apply ws_stS hs 1; exact rfl; exact rfl; exact rfl; exact sPk; exact rfl; exact rfl; clear hs; intro _ hs; dsimp only [setC] at hs; refine wl_ns ?_; refine wc_ret ?_
    refine we_retC rfl rfl (hs.ar 1 rfl) sPk ⟨_, rfl, E, ce, R, c, W2, w2, Y2, y2, D2, d2, rfl, ?_⟩
    replace hs := (hs.drop 0 rfl).drop 0 rfl
    exact St.kpOf (H1 := [_, _, _]) hs fun w S hS => by
      obtain ⟨S', ho⟩ := St.rgP (M := S) (w0 := w) (w := w) hS
      have h0 := Sat.kp (i := 2) hS rfl
      rw [← hK0] at h0
      exact ⟨h0.1, hA.rdr (Sat.kp (i := 1) hS rfl) (fun x cs h => pr_of h) ho, h0.2.1, h0.2.2.1, h0.2.2.2⟩
end Go.Proofs.Ytaacnknniaipmaa

/-
  Plain laws of bursts: bits that are turned within 32 of one another are seen by the sum, in a record too. No program in sight.
-/
namespace Go.Proofs.Ytaacnknniaipmaa

end Go.Proofs.Ytaacnknniaipmaa

/-
  Walk over the law SessionBursts.
-/
namespace Go.Proofs.Ytaacnknniaipmaa
open Go.RowKit

/-- What is known of a form's memory. -/
structure FmR (w : World) (f : FormM) (T P W Y : Option Addr) (cy : Nat) (D : Option Addr) (cd : Nat) : Prop where
  rT : Rd w T f.note.terms.length (wVs f.note.terms)
  rP : RdR 2 w All P (f.pairs.map prEl)
  rW : RdR 3 w All W (f.writes.map wrEl)
  rY : RdB w Y f.reply
  rD : RdB w D f.data
  cD : f.data.length ≤ cd
/-- How great a form is. -/
structure FmS (f : FormM) : Prop where
  sT : f.note.terms.length ≤ 1048576
  sP : f.pairs.length ≤ 1048576
  sPb : ∀ x ∈ f.pairs, x.1.length ≤ 1048576 ∧ x.2.length ≤ 1048576
  sW : f.writes.length ≤ 1048576
  sWb : ∀ x ∈ f.writes, x.key.length ≤ 1048576 ∧ x.val.length ≤ 1048576
  sY : f.reply.length ≤ 1048576
  sD : f.data.length ≤ 1048576
  sum : f.reply.length + ((f.pairs.flatMap pairB).flatten).length + f.pairs.length + ((f.writes.flatMap wrB).flatten).length + f.writes.length ≤ 16777216
/-- How great its numbers are. -/
structure FmN (f : FormM) : Prop where
  tx : ∀ n ∈ [f.tx.1, f.tx.2], n < 2 ^ 64
  nw : ∀ n ∈ [f.note.term, f.note.ix, f.note.lt, f.note.cm], n < 2 ^ 64
  nt : ∀ n ∈ f.note.terms, n < 2 ^ 64
  rw : ∀ n ∈ [f.ts, f.rts], n < 2 ^ 64
theorem entsN_flat : ∀ (l : List Nat) (k : Nat), (((entsN k l).map (·.2)).flatten).length = 2 * l.length
  | [], _ => rfl
  | a :: l, k => by
    rw [entsN, List.map_cons, List.flatten_cons, List.length_append, entsN_flat l (k + 1), List.length_cons, List.length_cons, List.length_cons]
    simp; omega
theorem entsN_lt {m : Nat} : ∀ (l : List Nat) (k : Nat), (∀ n ∈ l, n < m) → ∀ e ∈ entsN k l, e.1 < m
  | [], _, _, e, h => by simp [entsN] at h
  | a :: l, k, hl, e, h => by
    rcases List.mem_cons.1 h with rfl | h
    · exact hl a List.mem_cons_self
    · exact entsN_lt l (k + 1) (fun n hn => hl n (List.mem_cons_of_mem _ hn)) e h
end Go.Proofs.Ytaacnknniaipmaa

/-
  Forms as arguments of a law.
-/
namespace Go.Proofs.Ytaacnknniaipmaa
open Go.RowKit Go.ChangeShapes Go.WideShapes Go.ChangeAt Go.Deep

theorem ln2 {α : Type _} {l : List α} (h : l.length = 2) : ∃ a0 a1, l = [a0, a1] := match l, h with | [a0, a1], _ => ⟨a0, a1, rfl⟩
theorem ln3 {α : Type _} {l : List α} (h : l.length = 3) : ∃ a0 a1 a2, l = [a0, a1, a2] := match l, h with | [a0, a1, a2], _ => ⟨a0, a1, a2, rfl⟩
theorem ln5 {α : Type _} {l : List α} (h : l.length = 5) : ∃ a0 a1 a2 a3 a4, l = [a0, a1, a2, a3, a4] := match l, h with | [a0, a1, a2, a3, a4], _ => ⟨a0, a1, a2, a3, a4, rfl⟩
theorem ln6 {α : Type _} {l : List α} (h : l.length = 6) : ∃ a0 a1 a2 a3 a4 a5, l = [a0, a1, a2, a3, a4, a5] := match l, h with | [a0, a1, a2, a3, a4, a5], _ => ⟨a0, a1, a2, a3, a4, a5, rfl⟩
theorem ln9 {α : Type _} {l : List α} (h : l.length = 9) : ∃ a0 a1 a2 a3 a4 a5 a6 a7 a8, l = [a0, a1, a2, a3, a4, a5, a6, a7, a8] := match l, h with | [a0, a1, a2, a3, a4, a5, a6, a7, a8], _ => ⟨a0, a1, a2, a3, a4, a5, a6, a7, a8, rfl⟩
theorem ln10 {α : Type _} {l : List α} (h : l.length = 10) : ∃ a0 a1 a2 a3 a4 a5 a6 a7 a8 a9, l = [a0, a1, a2, a3, a4, a5, a6, a7, a8, a9] := match l, h with | [a0, a1, a2, a3, a4, a5, a6, a7, a8, a9], _ => ⟨a0, a1, a2, a3, a4, a5, a6, a7, a8, a9, rfl⟩
theorem ln12 {α : Type _} {l : List α} (h : l.length = 12) : ∃ a0 a1 a2 a3 a4 a5 a6 a7 a8 a9 a10 a11, l = [a0, a1, a2, a3, a4, a5, a6, a7, a8, a9, a10, a11] := match l, h with | [a0, a1, a2, a3, a4, a5, a6, a7, a8, a9, a10, a11], _ => ⟨a0, a1, a2, a3, a4, a5, a6, a7, a8, a9, a10, a11, rfl⟩
theorem ln30 {α : Type _} {l : List α} (h : l.length = 30) : ∃ a0 a1 a2 a3 a4 a5 a6 a7 a8 a9 a10 a11 a12 a13 a14 a15 a16 a17 a18 a19 a20 a21 a22 a23 a24 a25 a26 a27 a28 a29, l = [a0, a1, a2, a3, a4, a5, a6, a7, a8, a9, a10, a11, a12, a13, a14, a15, a16, a17, a18, a19, a20, a21, a22, a23, a24, a25, a26, a27, a28, a29] := match l, h with | [a0, a1, a2, a3, a4, a5, a6, a7, a8, a9, a10, a11, a12, a13, a14, a15, a16, a17, a18, a19, a20, a21, a22, a23, a24, a25, a26, a27, a28, a29], _ => ⟨a0, a1, a2, a3, a4, a5, a6, a7, a8, a9, a10, a11, a12, a13, a14, a15, a16, a17, a18, a19, a20, a21, a22, a23, a24, a25, a26, a27, a28, a29, rfl⟩
def prB (p : PairM) : Nat := p.1.length + p.2.length
def wtB (x : WrM) : Nat := x.key.length + x.val.length
theorem opens_pair : Opens Try.prog 130 prEl 2 prB (fun _ => True) := fun {H} enc W fuel cs x h => by
  obtain ⟨xs, n, rfl, rfl, hl, hx, hf⟩ := DataW.trod_struct Try.underlying130 h
  replace hl : cs.length = 2 := hl.trans (by kernel_rfl)
  obtain ⟨c0, c1, rfl⟩ := ln2 hl
  obtain ⟨y0, y1, rfl⟩ := ln2 hx
  obtain ⟨a0, h0, _, k0, b0⟩ := opens_bytes enc W n [c0] y0 (field_at hf (i := 0) (off := 0) (k := 1) (t := 32) rfl rfl rfl (by kernel_rfl))
  obtain ⟨a1, h1, _, k1, b1⟩ := opens_bytes enc W n [c1] y1 (field_at hf (i := 1) (off := 1) (k := 1) (t := 32) rfl rfl rfl (by kernel_rfl))
  have h0' := h0
  obtain ⟨A0, d0, e0, _⟩ := h0
  obtain rfl : c0 = .slice A0 a0.length d0 := by simpa using e0
  replace b0 : a0.length + 1 ≤ _ := b0
  have h1' := h1
  obtain ⟨A1, d1, e1, _⟩ := h1
  obtain rfl : c1 = .slice A1 a1.length d1 := by simpa using e1
  replace b1 : a1.length + 1 ≤ _ := b1
  refine ⟨(a0, a1), ⟨A0, d0, A1, d1, rfl, h0', h1'⟩, rfl, trivial, ?_⟩
  simp only [prB, Rows.uptoBulk, Rows.uptoBulkAll, List.map_cons, List.map_nil]
  omega
theorem opens_write : Opens Try.prog 163 wrEl 3 wtB (fun _ => True) := fun {H} enc W fuel cs x h => by
  obtain ⟨xs, n, rfl, rfl, hl, hx, hf⟩ := DataW.trod_struct Try.underlying163 h
  replace hl : cs.length = 3 := hl.trans (by kernel_rfl)
  obtain ⟨c0, c1, c2, rfl⟩ := ln3 hl
  obtain ⟨y0, y1, y2, rfl⟩ := ln3 hx
  obtain ⟨a0, h0, _, k0, b0⟩ := opens_bytes enc W n [c0] y0 (field_at hf (i := 0) (off := 0) (k := 1) (t := 32) rfl rfl rfl (by kernel_rfl))
  obtain ⟨a1, h1, _, k1, b1⟩ := opens_bytes enc W n [c1] y1 (field_at hf (i := 1) (off := 1) (k := 1) (t := 32) rfl rfl rfl (by kernel_rfl))
  obtain ⟨a2, h2, _, k2, b2⟩ := opens_bool Try.underlying4 enc W n [c2] y2 (field_at hf (i := 2) (off := 2) (k := 1) (t := 4) rfl rfl rfl (by kernel_rfl))
  have h0' := h0
  obtain ⟨A0, d0, e0, _⟩ := h0
  obtain rfl : c0 = .slice A0 a0.length d0 := by simpa using e0
  replace b0 : a0.length + 1 ≤ _ := b0
  have h1' := h1
  obtain ⟨A1, d1, e1, _⟩ := h1
  obtain rfl : c1 = .slice A1 a1.length d1 := by simpa using e1
  replace b1 : a1.length + 1 ≤ _ := b1
  obtain rfl : c2 = .bool a2 := by simpa [vEl] using h2
  refine ⟨⟨a0, a1, a2⟩, ⟨A0, d0, A1, d1, rfl, h0', h1'⟩, rfl, trivial, ?_⟩
  simp only [wtB, Rows.uptoBulk, Rows.uptoBulkAll, List.map_cons, List.map_nil]
  omega
theorem opens_pairs : Opens Try.prog 35 (fun l : List PairM => rowEl 2 (l.map prEl)) 1 (sumB prB) (fun l => ∀ a ∈ l, True) := opens_slice tkPr (by kernel_rfl) opens_pair
theorem opens_writes : Opens Try.prog 36 (fun l : List WrM => rowEl 3 (l.map wrEl)) 1 (sumB wtB) (fun l => ∀ a ∈ l, True) := opens_slice tkWr (by kernel_rfl) opens_write
def uEl (n : Nat) : El := vEl (.int .u64 (n : Int))
theorem opens_u64 : Opens Try.prog 22 uEl 1 (fun _ => 0) (fun n => n < 2 ^ 64) := fun {H} enc W fuel cs x h => by
  obtain ⟨a, h0, hl, k, b⟩ := opens_int Try.underlying22 enc W fuel cs x h
  have k' : 0 ≤ a ∧ a ≤ 18446744073709551615 := by simpa [Lit.wf, IntKind.min, IntKind.max, IntKind.signed, IntKind.bits] using k
  obtain ⟨a, rfl⟩ := Int.eq_ofNat_of_zero_le k'.1
  exact ⟨a, h0, hl, by have := k'.2; omega, b⟩
theorem tkWs : RowK Try.prog 71 22 1 (.int .u64 0) 8 := ⟨Try.underlying71, by kernel_rfl, by simp [Value.cells], by decide⟩
theorem opens_u64s : Opens Try.prog 71 (fun l : List Nat => rowEl 1 (l.map uEl)) 1 (sumB fun _ => 0) (fun l => ∀ a ∈ l, a < 2 ^ 64) := opens_slice tkWs (by kernel_rfl) opens_u64
theorem flat_u : ∀ l : List Nat, (l.map fun (n : Nat) => [Value.int .u64 (n : Int)]).flatten = wVs l
  | [] => rfl
  | a :: l => by rw [List.map_cons, List.flatten_cons, flat_u l]; rfl
theorem u64s_rd {w : World} {S : BS} {A : Option Addr} {l : List Nat} (h : RdR 1 w S A (l.map uEl)) : Rd w A l.length (wVs l) := by
  obtain ⟨css, hg, hr, _⟩ := h
  rw [List.length_map, Nat.mul_one] at hr
  have e : css.flatten = wVs l := by
    have h1 := hg.1
    rw [List.length_map] at h1
    have h2 : css = l.map fun (n : Nat) => [Value.int .u64 (n : Int)] := by
      refine List.ext_getElem? fun i => ?_
      rw [List.getElem?_map]
      rcases Nat.lt_or_ge i l.length with hlt | hge
      · rw [List.getElem?_eq_getElem (show i < css.length by omega), List.getElem?_eq_getElem hlt]
        obtain ⟨_, E, h3, h4⟩ := hg.2 i _ (List.getElem?_eq_getElem (show i < css.length by omega))
        rw [List.getElem?_map, List.getElem?_eq_getElem hlt] at h3
        simp only [Option.map_some, Option.some.injEq] at h3
        subst h3
        have h5 : css[i] = [Value.int .u64 (l[i] : Int)] := h4
        rw [h5]; rfl
      · rw [List.getElem?_eq_none (by omega), List.getElem?_eq_none hge]; rfl
    rw [h2, flat_u]
  rw [← e]; exact hr
def tzEl (x : Nat × Nat) : El := rawEl (txW x)
theorem opens_txz : Opens Try.prog 29 tzEl 2 (fun _ => 0) (fun x => x.1 < 2 ^ 64 ∧ x.2 < 2 ^ 64) := fun {H} enc W fuel cs x h => by
  obtain ⟨xs, n, rfl, rfl, hl, hx, hf⟩ := DataW.trod_struct Try.underlying29 h
  replace hl : cs.length = 2 := hl.trans (by kernel_rfl)
  obtain ⟨c0, c1, rfl⟩ := ln2 hl
  obtain ⟨y0, y1, rfl⟩ := ln2 hx
  obtain ⟨a0, h0, _, k0, b0⟩ := opens_int Try.underlying22 enc W n [c0] y0 (field_at hf (i := 0) (off := 0) (k := 1) (t := 22) rfl rfl rfl (by kernel_rfl))
  obtain ⟨a1, h1, _, k1, b1⟩ := opens_int Try.underlying22 enc W n [c1] y1 (field_at hf (i := 1) (off := 1) (k := 1) (t := 22) rfl rfl rfl (by kernel_rfl))
  obtain rfl : c0 = .int .u64 a0 := by simpa [vEl] using h0
  have k0' : 0 ≤ a0 ∧ a0 ≤ 18446744073709551615 := by simpa [Lit.wf, IntKind.min, IntKind.max, IntKind.signed, IntKind.bits] using k0
  obtain ⟨a0, rfl⟩ := Int.eq_ofNat_of_zero_le k0'.1
  have k0' : a0 < 2 ^ 64 := by have := k0'.2; omega
  obtain rfl : c1 = .int .u64 a1 := by simpa [vEl] using h1
  have k1' : 0 ≤ a1 ∧ a1 ≤ 18446744073709551615 := by simpa [Lit.wf, IntKind.min, IntKind.max, IntKind.signed, IntKind.bits] using k1
  obtain ⟨a1, rfl⟩ := Int.eq_ofNat_of_zero_le k1'.1
  have k1' : a1 < 2 ^ 64 := by have := k1'.2; omega
  refine ⟨(a0, a1), rfl, rfl, ⟨k0', k1'⟩, ?_⟩
  simp only [Rows.uptoBulk, Rows.uptoBulkAll, List.map_cons, List.map_nil]
  omega
def noEl (n : NoteM) : El where
  P w S cs := ∃ (T : Option Addr) (ct : Nat), cs = noV n T ct ∧ (rowEl 1 (n.terms.map uEl)).P w S [.slice T n.terms.length ct]
  move := by rintro w w' S S' cs ⟨T, ct, h, h1⟩ hz hm; exact ⟨T, ct, h, El.move _ h1 hz hm⟩
def noB (n : NoteM) : Nat := sumB (fun _ => 0) n.terms
structure NoN (n : NoteM) : Prop where
  ints : ∀ x ∈ [n.kind, n.fr, n.to], I64 x
  nw : ∀ x ∈ [n.term, n.ix, n.lt, n.cm], x < 2 ^ 64
  nt : ∀ x ∈ n.terms, x < 2 ^ 64
theorem opens_note : Opens Try.prog 73 noEl 9 noB NoN := fun {H} enc W fuel cs x h => by
  obtain ⟨xs, n, rfl, rfl, hl, hx, hf⟩ := DataW.trod_struct Try.underlying73 h
  replace hl : cs.length = 9 := hl.trans (by kernel_rfl)
  obtain ⟨c0, c1, c2, c3, c4, c5, c6, c7, c8, rfl⟩ := ln9 hl
  obtain ⟨y0, y1, y2, y3, y4, y5, y6, y7, y8, rfl⟩ := ln9 hx
  obtain ⟨a0, h0, _, k0, b0⟩ := opens_int Try.underlying3 enc W n [c0] y0 (field_at hf (i := 0) (off := 0) (k := 1) (t := 3) rfl rfl rfl (by kernel_rfl))
  obtain ⟨a1, h1, _, k1, b1⟩ := opens_int Try.underlying3 enc W n [c1] y1 (field_at hf (i := 1) (off := 1) (k := 1) (t := 3) rfl rfl rfl (by kernel_rfl))
  obtain ⟨a2, h2, _, k2, b2⟩ := opens_int Try.underlying3 enc W n [c2] y2 (field_at hf (i := 2) (off := 2) (k := 1) (t := 3) rfl rfl rfl (by kernel_rfl))
  obtain ⟨a3, h3, _, k3, b3⟩ := opens_int Try.underlying22 enc W n [c3] y3 (field_at hf (i := 3) (off := 3) (k := 1) (t := 22) rfl rfl rfl (by kernel_rfl))
  obtain ⟨a4, h4, _, k4, b4⟩ := opens_int Try.underlying22 enc W n [c4] y4 (field_at hf (i := 4) (off := 4) (k := 1) (t := 22) rfl rfl rfl (by kernel_rfl))
  obtain ⟨a5, h5, _, k5, b5⟩ := opens_int Try.underlying22 enc W n [c5] y5 (field_at hf (i := 5) (off := 5) (k := 1) (t := 22) rfl rfl rfl (by kernel_rfl))
  obtain ⟨a6, h6, _, k6, b6⟩ := opens_int Try.underlying22 enc W n [c6] y6 (field_at hf (i := 6) (off := 6) (k := 1) (t := 22) rfl rfl rfl (by kernel_rfl))
  obtain ⟨a7, h7, _, k7, b7⟩ := opens_u64s enc W n [c7] y7 (field_at hf (i := 7) (off := 7) (k := 1) (t := 71) rfl rfl rfl (by kernel_rfl))
  obtain ⟨a8, h8, _, k8, b8⟩ := opens_bool Try.underlying4 enc W n [c8] y8 (field_at hf (i := 8) (off := 8) (k := 1) (t := 4) rfl rfl rfl (by kernel_rfl))
  obtain rfl : c0 = .int .i64 a0 := by simpa [vEl] using h0
  have k0' : -9223372036854775808 ≤ a0 ∧ a0 ≤ 9223372036854775807 := by simpa [Lit.wf, IntKind.min, IntKind.max, IntKind.signed, IntKind.bits] using k0
  obtain rfl : c1 = .int .i64 a1 := by simpa [vEl] using h1
  have k1' : -9223372036854775808 ≤ a1 ∧ a1 ≤ 9223372036854775807 := by simpa [Lit.wf, IntKind.min, IntKind.max, IntKind.signed, IntKind.bits] using k1
  obtain rfl : c2 = .int .i64 a2 := by simpa [vEl] using h2
  have k2' : -9223372036854775808 ≤ a2 ∧ a2 ≤ 9223372036854775807 := by simpa [Lit.wf, IntKind.min, IntKind.max, IntKind.signed, IntKind.bits] using k2
  obtain rfl : c3 = .int .u64 a3 := by simpa [vEl] using h3
  have k3' : 0 ≤ a3 ∧ a3 ≤ 18446744073709551615 := by simpa [Lit.wf, IntKind.min, IntKind.max, IntKind.signed, IntKind.bits] using k3
  obtain ⟨a3, rfl⟩ := Int.eq_ofNat_of_zero_le k3'.1
  have k3' : a3 < 2 ^ 64 := by have := k3'.2; omega
  obtain rfl : c4 = .int .u64 a4 := by simpa [vEl] using h4
  have k4' : 0 ≤ a4 ∧ a4 ≤ 18446744073709551615 := by simpa [Lit.wf, IntKind.min, IntKind.max, IntKind.signed, IntKind.bits] using k4
  obtain ⟨a4, rfl⟩ := Int.eq_ofNat_of_zero_le k4'.1
  have k4' : a4 < 2 ^ 64 := by have := k4'.2; omega
  obtain rfl : c5 = .int .u64 a5 := by simpa [vEl] using h5
  have k5' : 0 ≤ a5 ∧ a5 ≤ 18446744073709551615 := by simpa [Lit.wf, IntKind.min, IntKind.max, IntKind.signed, IntKind.bits] using k5
  obtain ⟨a5, rfl⟩ := Int.eq_ofNat_of_zero_le k5'.1
  have k5' : a5 < 2 ^ 64 := by have := k5'.2; omega
  obtain rfl : c6 = .int .u64 a6 := by simpa [vEl] using h6
  have k6' : 0 ≤ a6 ∧ a6 ≤ 18446744073709551615 := by simpa [Lit.wf, IntKind.min, IntKind.max, IntKind.signed, IntKind.bits] using k6
  obtain ⟨a6, rfl⟩ := Int.eq_ofNat_of_zero_le k6'.1
  have k6' : a6 < 2 ^ 64 := by have := k6'.2; omega
  have h7' := h7
  obtain ⟨A7, d7, e7, _⟩ := h7
  rw [List.length_map] at e7
  obtain rfl : c7 = .slice A7 a7.length d7 := by simpa using e7
  replace b7 : sumB (fun _ => 0) a7 + 1 ≤ _ := b7
  obtain rfl : c8 = .bool a8 := by simpa [vEl] using h8
  refine ⟨⟨a0, a1, a2, a3, a4, a5, a6, a7, a8⟩, ⟨A7, d7, rfl, h7'⟩, rfl, ⟨by simpa [I64] using ⟨k0', k1', k2'⟩, by simpa using ⟨k3', k4', k5', k6'⟩, k7⟩, ?_⟩
  simp only [noB, Rows.uptoBulk, Rows.uptoBulkAll, List.map_cons, List.map_nil]
  omega
structure RecM where
  tx : Nat × Nat
  commit : Bool
  ts : Nat
  writes : List WrM
  reply : By
def rrV (r : RecM) (W : Option Addr) (cw : Nat) (Y : Option Addr) (cy : Nat) : List Value := [.int .u64 (r.tx.1 : Int), .int .u64 (r.tx.2 : Int), .bool r.commit, .int .u64 (r.ts : Int), .slice W r.writes.length cw, .slice Y r.reply.length cy]
def rrEl (r : RecM) : El where
  P w S cs := ∃ (W : Option Addr) (cw : Nat) (Y : Option Addr) (cy : Nat), cs = rrV r W cw Y cy ∧ (rowEl 3 (r.writes.map wrEl)).P w S [.slice W r.writes.length cw] ∧ (byEl r.reply).P w S [.slice Y r.reply.length cy]
  move := by rintro w w' S S' cs ⟨W, cw, Y, cy, h, h1, h2⟩ hz hm; exact ⟨W, cw, Y, cy, h, El.move _ h1 hz hm, El.move _ h2 hz hm⟩
def rrB (r : RecM) : Nat := sumB wtB r.writes + r.reply.length
theorem opens_rec : Opens Try.prog 75 rrEl 6 rrB (fun r => r.ts < 2 ^ 64) := fun {H} enc W fuel cs x h => by
  obtain ⟨xs, n, rfl, rfl, hl, hx, hf⟩ := DataW.trod_struct Try.underlying75 h
  replace hl : cs.length = 6 := hl.trans (by kernel_rfl)
  obtain ⟨c0, c1, c2, c3, c4, c5, rfl⟩ := ln6 hl
  obtain ⟨y0, y1, y2, y3, y4, rfl⟩ := ln5 hx
  obtain ⟨a0, h0, _, k0, b0⟩ := opens_txz enc W n [c0, c1] y0 (field_at hf (i := 0) (off := 0) (k := 2) (t := 29) rfl rfl rfl (by kernel_rfl))
  obtain ⟨a1, h1, _, k1, b1⟩ := opens_bool Try.underlying4 enc W n [c2] y1 (field_at hf (i := 1) (off := 2) (k := 1) (t := 4) rfl rfl rfl (by kernel_rfl))
  obtain ⟨a2, h2, _, k2, b2⟩ := opens_int Try.underlying22 enc W n [c3] y2 (field_at hf (i := 2) (off := 3) (k := 1) (t := 22) rfl rfl rfl (by kernel_rfl))
  obtain ⟨a3, h3, _, k3, b3⟩ := opens_writes enc W n [c4] y3 (field_at hf (i := 3) (off := 4) (k := 1) (t := 36) rfl rfl rfl (by kernel_rfl))
  obtain ⟨a4, h4, _, k4, b4⟩ := opens_bytes enc W n [c5] y4 (field_at hf (i := 4) (off := 5) (k := 1) (t := 32) rfl rfl rfl (by kernel_rfl))
  have h0' : [c0, c1] = txW a0 := h0
  simp only [txW, List.cons.injEq, and_true] at h0'
  obtain ⟨rfl, rfl⟩ := h0'
  obtain rfl : c2 = .bool a1 := by simpa [vEl] using h1
  obtain rfl : c3 = .int .u64 a2 := by simpa [vEl] using h2
  have k2' : 0 ≤ a2 ∧ a2 ≤ 18446744073709551615 := by simpa [Lit.wf, IntKind.min, IntKind.max, IntKind.signed, IntKind.bits] using k2
  obtain ⟨a2, rfl⟩ := Int.eq_ofNat_of_zero_le k2'.1
  have k2' : a2 < 2 ^ 64 := by have := k2'.2; omega
  have h3' := h3
  obtain ⟨A3, d3, e3, _⟩ := h3
  rw [List.length_map] at e3
  obtain rfl : c4 = .slice A3 a3.length d3 := by simpa using e3
  replace b3 : sumB wtB a3 + 1 ≤ _ := b3
  have h4' := h4
  obtain ⟨A4, d4, e4, _⟩ := h4
  obtain rfl : c5 = .slice A4 a4.length d4 := by simpa using e4
  replace b4 : a4.length + 1 ≤ _ := b4
  refine ⟨⟨a0, a1, a2, a3, a4⟩, ⟨A3, d3, A4, d4, rfl, h3', h4'⟩, rfl, k2', ?_⟩
  simp only [rrB, Rows.uptoBulk, Rows.uptoBulkAll, List.map_cons, List.map_nil]
  omega
structure RsM where
  err : Int
  status : Int
  ts : Nat
  pairs : List PairM
  rc : RecM
def rsV (r : RsM) (P : Option Addr) (cp : Nat) (rv : List Value) : List Value := [.int .i64 r.err, .int .i64 r.status, .int .u64 (r.ts : Int), .slice P r.pairs.length cp] ++ rv
def rsEl (r : RsM) : El where
  P w S cs := ∃ (P : Option Addr) (cp : Nat) (rv : List Value), cs = rsV r P cp rv ∧ (rowEl 2 (r.pairs.map prEl)).P w S [.slice P r.pairs.length cp] ∧ (rrEl r.rc).P w S rv
  move := by rintro w w' S S' cs ⟨P, cp, rv, h, h1, h2⟩ hz hm; exact ⟨P, cp, rv, h, El.move _ h1 hz hm, El.move _ h2 hz hm⟩
def rsB (r : RsM) : Nat := sumB prB r.pairs + rrB r.rc
theorem opens_res : Opens Try.prog 77 rsEl 10 rsB (fun r => I64 r.err ∧ I64 r.status ∧ r.ts < 2 ^ 64 ∧ r.rc.ts < 2 ^ 64) := fun {H} enc W fuel cs x h => by
  obtain ⟨xs, n, rfl, rfl, hl, hx, hf⟩ := DataW.trod_struct Try.underlying77 h
  replace hl : cs.length = 10 := hl.trans (by kernel_rfl)
  obtain ⟨c0, c1, c2, c3, c4, c5, c6, c7, c8, c9, rfl⟩ := ln10 hl
  obtain ⟨y0, y1, y2, y3, y4, rfl⟩ := ln5 hx
  obtain ⟨a0, h0, _, k0, b0⟩ := opens_int Try.underlying3 enc W n [c0] y0 (field_at hf (i := 0) (off := 0) (k := 1) (t := 3) rfl rfl rfl (by kernel_rfl))
  obtain ⟨a1, h1, _, k1, b1⟩ := opens_int Try.underlying3 enc W n [c1] y1 (field_at hf (i := 1) (off := 1) (k := 1) (t := 3) rfl rfl rfl (by kernel_rfl))
  obtain ⟨a2, h2, _, k2, b2⟩ := opens_int Try.underlying22 enc W n [c2] y2 (field_at hf (i := 2) (off := 2) (k := 1) (t := 22) rfl rfl rfl (by kernel_rfl))
  obtain ⟨a3, h3, _, k3, b3⟩ := opens_pairs enc W n [c3] y3 (field_at hf (i := 3) (off := 3) (k := 1) (t := 35) rfl rfl rfl (by kernel_rfl))
  obtain ⟨a4, h4, _, k4, b4⟩ := opens_rec enc W n [c4, c5, c6, c7, c8, c9] y4 (field_at hf (i := 4) (off := 4) (k := 6) (t := 75) rfl rfl rfl (by kernel_rfl))
  obtain rfl : c0 = .int .i64 a0 := by simpa [vEl] using h0
  have k0' : -9223372036854775808 ≤ a0 ∧ a0 ≤ 9223372036854775807 := by simpa [Lit.wf, IntKind.min, IntKind.max, IntKind.signed, IntKind.bits] using k0
  obtain rfl : c1 = .int .i64 a1 := by simpa [vEl] using h1
  have k1' : -9223372036854775808 ≤ a1 ∧ a1 ≤ 9223372036854775807 := by simpa [Lit.wf, IntKind.min, IntKind.max, IntKind.signed, IntKind.bits] using k1
  obtain rfl : c2 = .int .u64 a2 := by simpa [vEl] using h2
  have k2' : 0 ≤ a2 ∧ a2 ≤ 18446744073709551615 := by simpa [Lit.wf, IntKind.min, IntKind.max, IntKind.signed, IntKind.bits] using k2
  obtain ⟨a2, rfl⟩ := Int.eq_ofNat_of_zero_le k2'.1
  have k2' : a2 < 2 ^ 64 := by have := k2'.2; omega
  have h3' := h3
  obtain ⟨A3, d3, e3, _⟩ := h3
  rw [List.length_map] at e3
  obtain rfl : c3 = .slice A3 a3.length d3 := by simpa using e3
  replace b3 : sumB prB a3 + 1 ≤ _ := b3
  replace b4 : rrB a4 + 1 ≤ _ := b4
  refine ⟨⟨a0, a1, a2, a3, a4⟩, ⟨A3, d3, _, rfl, h3', h4⟩, rfl, ⟨k0', k1', k2', k4⟩, ?_⟩
  simp only [rsB, Rows.uptoBulk, Rows.uptoBulkAll, List.map_cons, List.map_nil]
  omega
def fmOf (k fr to sh ro cm ld co : Int) (tx : Nat × Nat) (n : NoteM) (r : RsM) (d : By) : FormM := ⟨k, fr, to, sh, ro, cm, ld, co, tx, n, r.err, r.status, r.ts, r.pairs, r.rc.tx, r.rc.commit, r.rc.ts, r.rc.writes, r.rc.reply, d⟩
def fmEl (f : FormM) : El where
  P w S cs := ∃ (T : Option Addr) (ct : Nat) (P : Option Addr) (cp : Nat) (W : Option Addr) (cw : Nat) (Y : Option Addr) (cy : Nat) (D : Option Addr) (cd : Nat), cs = fmV f (noV f.note T ct) P cp W cw Y cy D cd ∧ (rowEl 1 (f.note.terms.map uEl)).P w S [.slice T f.note.terms.length ct] ∧ (rowEl 2 (f.pairs.map prEl)).P w S [.slice P f.pairs.length cp] ∧ (rowEl 3 (f.writes.map wrEl)).P w S [.slice W f.writes.length cw] ∧ (byEl f.reply).P w S [.slice Y f.reply.length cy] ∧ (byEl f.data).P w S [.slice D f.data.length cd]
  move := by rintro w w' S S' cs ⟨T, ct, P, cp, W, cw, Y, cy, D, cd, h, h1, h2, h3, h4, h5⟩ hz hm; exact ⟨T, ct, P, cp, W, cw, Y, cy, D, cd, h, El.move _ h1 hz hm, El.move _ h2 hz hm, El.move _ h3 hz hm, El.move _ h4 hz hm, El.move _ h5 hz hm⟩
def fmB (f : FormM) : Nat := sumB (fun _ => 0) f.note.terms + sumB prB f.pairs + sumB wtB f.writes + f.reply.length + f.data.length
structure FmO (f : FormM) : Prop where
  ints : ∀ x ∈ [f.kind, f.fr, f.to, f.shard, f.round, f.cmd, f.lead, f.code, f.err, f.status], I64 x
  no : NoN f.note
  tx : f.tx.1 < 2 ^ 64 ∧ f.tx.2 < 2 ^ 64
  rw : f.ts < 2 ^ 64 ∧ f.rts < 2 ^ 64
theorem opens_form : Opens Try.prog 79 fmEl 30 fmB FmO := fun {H} enc W fuel cs x h => by
  obtain ⟨xs, n, rfl, rfl, hl, hx, hf⟩ := DataW.trod_struct Try.underlying79 h
  replace hl : cs.length = 30 := hl.trans (by kernel_rfl)
  obtain ⟨c0, c1, c2, c3, c4, c5, c6, c7, c8, c9, c10, c11, c12, c13, c14, c15, c16, c17, c18, c19, c20, c21, c22, c23, c24, c25, c26, c27, c28, c29, rfl⟩ := ln30 hl
  obtain ⟨y0, y1, y2, y3, y4, y5, y6, y7, y8, y9, y10, y11, rfl⟩ := ln12 hx
  obtain ⟨a0, h0, _, k0, b0⟩ := opens_int Try.underlying3 enc W n [c0] y0 (field_at hf (i := 0) (off := 0) (k := 1) (t := 3) rfl rfl rfl (by kernel_rfl))
  obtain ⟨a1, h1, _, k1, b1⟩ := opens_int Try.underlying3 enc W n [c1] y1 (field_at hf (i := 1) (off := 1) (k := 1) (t := 3) rfl rfl rfl (by kernel_rfl))
  obtain ⟨a2, h2, _, k2, b2⟩ := opens_int Try.underlying3 enc W n [c2] y2 (field_at hf (i := 2) (off := 2) (k := 1) (t := 3) rfl rfl rfl (by kernel_rfl))
  obtain ⟨a3, h3, _, k3, b3⟩ := opens_int Try.underlying3 enc W n [c3] y3 (field_at hf (i := 3) (off := 3) (k := 1) (t := 3) rfl rfl rfl (by kernel_rfl))
  obtain ⟨a4, h4, _, k4, b4⟩ := opens_int Try.underlying3 enc W n [c4] y4 (field_at hf (i := 4) (off := 4) (k := 1) (t := 3) rfl rfl rfl (by kernel_rfl))
  obtain ⟨a5, h5, _, k5, b5⟩ := opens_int Try.underlying3 enc W n [c5] y5 (field_at hf (i := 5) (off := 5) (k := 1) (t := 3) rfl rfl rfl (by kernel_rfl))
  obtain ⟨a6, h6, _, k6, b6⟩ := opens_int Try.underlying3 enc W n [c6] y6 (field_at hf (i := 6) (off := 6) (k := 1) (t := 3) rfl rfl rfl (by kernel_rfl))
  obtain ⟨a7, h7, _, k7, b7⟩ := opens_int Try.underlying3 enc W n [c7] y7 (field_at hf (i := 7) (off := 7) (k := 1) (t := 3) rfl rfl rfl (by kernel_rfl))
  obtain ⟨a8, h8, _, k8, b8⟩ := opens_txz enc W n [c8, c9] y8 (field_at hf (i := 8) (off := 8) (k := 2) (t := 29) rfl rfl rfl (by kernel_rfl))
  obtain ⟨a9, h9, _, k9, b9⟩ := opens_note enc W n [c10, c11, c12, c13, c14, c15, c16, c17, c18] y9 (field_at hf (i := 9) (off := 10) (k := 9) (t := 73) rfl rfl rfl (by kernel_rfl))
  obtain ⟨a10, h10, _, k10, b10⟩ := opens_res enc W n [c19, c20, c21, c22, c23, c24, c25, c26, c27, c28] y10 (field_at hf (i := 10) (off := 19) (k := 10) (t := 77) rfl rfl rfl (by kernel_rfl))
  obtain ⟨a11, h11, _, k11, b11⟩ := opens_bytes enc W n [c29] y11 (field_at hf (i := 11) (off := 29) (k := 1) (t := 32) rfl rfl rfl (by kernel_rfl))
  obtain rfl : c0 = .int .i64 a0 := by simpa [vEl] using h0
  have k0' : -9223372036854775808 ≤ a0 ∧ a0 ≤ 9223372036854775807 := by simpa [Lit.wf, IntKind.min, IntKind.max, IntKind.signed, IntKind.bits] using k0
  obtain rfl : c1 = .int .i64 a1 := by simpa [vEl] using h1
  have k1' : -9223372036854775808 ≤ a1 ∧ a1 ≤ 9223372036854775807 := by simpa [Lit.wf, IntKind.min, IntKind.max, IntKind.signed, IntKind.bits] using k1
  obtain rfl : c2 = .int .i64 a2 := by simpa [vEl] using h2
  have k2' : -9223372036854775808 ≤ a2 ∧ a2 ≤ 9223372036854775807 := by simpa [Lit.wf, IntKind.min, IntKind.max, IntKind.signed, IntKind.bits] using k2
  obtain rfl : c3 = .int .i64 a3 := by simpa [vEl] using h3
  have k3' : -9223372036854775808 ≤ a3 ∧ a3 ≤ 9223372036854775807 := by simpa [Lit.wf, IntKind.min, IntKind.max, IntKind.signed, IntKind.bits] using k3
  obtain rfl : c4 = .int .i64 a4 := by simpa [vEl] using h4
  have k4' : -9223372036854775808 ≤ a4 ∧ a4 ≤ 9223372036854775807 := by simpa [Lit.wf, IntKind.min, IntKind.max, IntKind.signed, IntKind.bits] using k4
  obtain rfl : c5 = .int .i64 a5 := by simpa [vEl] using h5
  have k5' : -9223372036854775808 ≤ a5 ∧ a5 ≤ 9223372036854775807 := by simpa [Lit.wf, IntKind.min, IntKind.max, IntKind.signed, IntKind.bits] using k5
  obtain rfl : c6 = .int .i64 a6 := by simpa [vEl] using h6
  have k6' : -9223372036854775808 ≤ a6 ∧ a6 ≤ 9223372036854775807 := by simpa [Lit.wf, IntKind.min, IntKind.max, IntKind.signed, IntKind.bits] using k6
  obtain rfl : c7 = .int .i64 a7 := by simpa [vEl] using h7
  have k7' : -9223372036854775808 ≤ a7 ∧ a7 ≤ 9223372036854775807 := by simpa [Lit.wf, IntKind.min, IntKind.max, IntKind.signed, IntKind.bits] using k7
  have h8' : [c8, c9] = txW a8 := h8
  simp only [txW, List.cons.injEq, and_true] at h8'
  obtain ⟨rfl, rfl⟩ := h8'
  obtain ⟨T, ct, e9, t9⟩ := h9
  replace b9 : noB a9 + 1 ≤ _ := b9
  obtain ⟨P, cp, rv, e10, t10, W, cw, Y, cy, rfl, u10, v10⟩ := h10
  replace b10 : rsB a10 + 1 ≤ _ := b10
  have h11' := h11
  obtain ⟨A11, d11, e11, _⟩ := h11
  obtain rfl : c29 = .slice A11 a11.length d11 := by simpa using e11
  replace b11 : a11.length + 1 ≤ _ := b11
  refine ⟨fmOf a0 a1 a2 a3 a4 a5 a6 a7 a8 a9 a10 a11, ⟨T, ct, P, cp, W, cw, Y, cy, A11, d11, ?_, t9, t10, u10, v10, h11'⟩, rfl, ⟨by simpa [I64, fmOf] using ⟨k0', k1', k2', k3', k4', k5', k6', k7', k10.1, k10.2.1⟩, k9, k8, k10.2.2⟩, ?_⟩
  · unfold noV at e9
    unfold rsV rrV at e10
    simp only [List.cons_append, List.nil_append, List.cons.injEq, and_true] at e9 e10
    obtain ⟨rfl, rfl, rfl, rfl, rfl, rfl, rfl, rfl, rfl⟩ := e9
    obtain ⟨rfl, rfl, rfl, rfl, rfl, rfl, rfl, rfl, rfl, rfl⟩ := e10
    rfl
  · simp only [fmB, fmOf, noB, rsB, rrB, Rows.uptoBulk, Rows.uptoBulkAll, List.map_cons, List.map_nil] at *
    omega
end Go.Proofs.Ytaacnknniaipmaa

/-
  What an argument that is a form brings; SessionBursts over such an argument.
-/
namespace Go.Proofs.Ytaacnknniaipmaa
open Go.RowKit

theorem pairs_flat : ∀ l : List PairM, ((l.flatMap pairB).flatten).length ≤ sumB prB l
  | [] => by simp [sumB]
  | p :: l => by
    have := pairs_flat l
    rw [sumB_cons, List.flatMap_cons, List.flatten_append, List.length_append]
    simp only [pairB, prB, List.flatten_cons, List.flatten_nil, List.append_nil, List.length_append]
    omega
theorem writes_flat : ∀ l : List WrM, ((l.flatMap wrB).flatten).length ≤ 11 * sumB wtB l
  | [] => by simp [sumB]
  | x :: l => by
    have := writes_flat l
    have h1 := intsB_len [tI x.gone]
    rw [sumB_cons, List.flatMap_cons, List.flatten_append, List.length_append]
    simp only [wrB, wtB, List.flatten_cons, List.flatten_nil, List.append_nil, List.length_append, List.length_cons, List.length_nil] at h1 ⊢
    omega
theorem fmS_of {f : FormM} (h : fmB f ≤ 1048576) : FmS f := by
  unfold fmB at h
  have h1 := sumB_len (bulk := fun _ : Nat => 0) f.note.terms
  have h2 := sumB_len (bulk := prB) f.pairs
  have h3 := sumB_len (bulk := wtB) f.writes
  have h4 := pairs_flat f.pairs
  have h5 := writes_flat f.writes
  refine ⟨by omega, by omega, fun x hx => ?_, by omega, fun x hx => ?_, by omega, by omega, by omega⟩
  · have := sumB_mem (bulk := prB) hx
    unfold prB at this h
    omega
  · have := sumB_mem (bulk := wtB) hx
    unfold wtB at this h
    omega
theorem fmN_of {f : FormM} (h : FmO f) : FmN f := ⟨by simpa using h.tx, h.no.nw, h.no.nt, by simpa using h.rw⟩
theorem fmEl.rd {w : World} {f : FormM} {cs : List Value} (h : (fmEl f).P w All cs) : ∃ (T : Option Addr) (ct : Nat) (P : Option Addr) (cp : Nat) (W : Option Addr) (cw : Nat) (Y : Option Addr) (cy : Nat) (D : Option Addr) (cd : Nat), cs = fmV f (noV f.note T ct) P cp W cw Y cy D cd ∧ FmR w f T P W Y cy D cd := by
  obtain ⟨T, ct, P, cp, W, cw, Y, cy, D, cd, h0, h1, h2, h3, h4, h5⟩ := h
  refine ⟨T, ct, P, cp, W, cw, Y, cy, D, cd, h0, u64s_rd (rowEl.rd h1).2.2, (rowEl.rd h2).2.2, (rowEl.rd h3).2.2, (by_rd h4).1, (by_rd h5).1, (by_rd h5).2⟩
end Go.Proofs.Ytaacnknniaipmaa
