/-
  The texts of this proof, joined: Xh, Xi, Xj, Xk, Xl, Xm, Xn, Xo.
-/
import Derived.Test.YtaacnknniaipmaaPakM3

/-
  The walk over putResult of session.
-/
namespace Go.Proofs.Ytaacnknniaipmaa
open Go.RowKit

theorem g1_prs : Cell1 Try.prog 35 := ⟨by kernel_rfl, by rw [Try.underlying35]⟩
theorem g1_wrs : Cell1 Try.prog 36 := ⟨by kernel_rfl, by rw [Try.underlying36]⟩
theorem g1_err : Cell1 Try.prog 30 := ⟨by kernel_rfl, by rw [Try.underlying30]⟩
theorem sRe : StT Try.prog 40 8 := ⟨by kernel_rfl, by kernel_rfl⟩
theorem fa_sRe {k : Nat} (h : k < 5) : FieldAt Try.prog 40 k k := by
  match k, h with
  | 0, _ => exact fieldAt_mk Try.underlying40 rfl rfl (by kernel_rfl)
  | 1, _ => exact fieldAt_mk Try.underlying40 rfl rfl (by kernel_rfl)
  | 2, _ => exact fieldAt_mk Try.underlying40 rfl rfl (by kernel_rfl)
  | 3, _ => exact fieldAt_mk Try.underlying40 rfl rfl (by kernel_rfl)
  | 4, _ => exact fieldAt_mk Try.underlying40 rfl rfl (by kernel_rfl)
theorem sRc : StT Try.prog 38 4 := ⟨by kernel_rfl, by kernel_rfl⟩
theorem fa_sRc {k : Nat} (h : k < 4) : FieldAt Try.prog 38 k k := by
  match k, h with
  | 0, _ => exact fieldAt_mk Try.underlying38 rfl rfl (by kernel_rfl)
  | 1, _ => exact fieldAt_mk Try.underlying38 rfl rfl (by kernel_rfl)
  | 2, _ => exact fieldAt_mk Try.underlying38 rfl rfl (by kernel_rfl)
  | 3, _ => exact fieldAt_mk Try.underlying38 rfl rfl (by kernel_rfl)
theorem sPr : StT Try.prog 130 2 := ⟨by kernel_rfl, by kernel_rfl⟩
theorem fa_sPr {k : Nat} (h : k < 2) : FieldAt Try.prog 130 k k := by
  match k, h with
  | 0, _ => exact fieldAt_mk Try.underlying130 rfl rfl (by kernel_rfl)
  | 1, _ => exact fieldAt_mk Try.underlying130 rfl rfl (by kernel_rfl)
theorem sWr : StT Try.prog 163 3 := ⟨by kernel_rfl, by kernel_rfl⟩
theorem fa_sWr {k : Nat} (h : k < 3) : FieldAt Try.prog 163 k k := by
  match k, h with
  | 0, _ => exact fieldAt_mk Try.underlying163 rfl rfl (by kernel_rfl)
  | 1, _ => exact fieldAt_mk Try.underlying163 rfl rfl (by kernel_rfl)
  | 2, _ => exact fieldAt_mk Try.underlying163 rfl rfl (by kernel_rfl)
def zPr : List Value := [.slice none 0 0, .slice none 0 0]
theorem zeroPr : (Try.prog.info? 130).map (·.zero) = some (some (.agg zPr.toArray)) := by kernel_rfl
theorem tkPr : RowK Try.prog 35 130 2 (.agg zPr.toArray) 48 := ⟨Try.underlying35, by kernel_rfl, by simp [zPr, Value.cells], by decide⟩
def zWr : List Value := [.slice none 0 0, .slice none 0 0, .bool false]
theorem zeroWr : (Try.prog.info? 163).map (·.zero) = some (some (.agg zWr.toArray)) := by kernel_rfl
theorem tkWr : RowK Try.prog 36 163 3 (.agg zWr.toArray) 56 := ⟨Try.underlying36, by kernel_rfl, by simp [zWr, Value.cells], by decide⟩
def prV (p : PairM) (A : Option Addr) (a : Nat) (B : Option Addr) (b : Nat) : List Value := [.slice A p.1.length a, .slice B p.2.length b]
def prEl (p : PairM) : El where
  P w S cs := ∃ (A : Option Addr) (a : Nat) (B : Option Addr) (b : Nat), cs = prV p A a B b ∧ (byEl p.1).P w S [.slice A p.1.length a] ∧ (byEl p.2).P w S [.slice B p.2.length b]
  move := by rintro w w' S S' cs ⟨A, a, B, b, h, h1, h2⟩ hz hm; exact ⟨A, a, B, b, h, El.move _ h1 hz hm, El.move _ h2 hz hm⟩
def wrV (x : WrM) (A : Option Addr) (a : Nat) (B : Option Addr) (b : Nat) : List Value := [.slice A x.key.length a, .slice B x.val.length b, .bool x.gone]
def wrEl (x : WrM) : El where
  P w S cs := ∃ (A : Option Addr) (a : Nat) (B : Option Addr) (b : Nat), cs = wrV x A a B b ∧ (byEl x.key).P w S [.slice A x.key.length a] ∧ (byEl x.val).P w S [.slice B x.val.length b]
  move := by rintro w w' S S' cs ⟨A, a, B, b, h, h1, h2⟩ hz hm; exact ⟨A, a, B, b, h, El.move _ h1 hz hm, El.move _ h2 hz hm⟩
def reV (r : ResM) (P : Option Addr) (cp : Nat) (W : Option Addr) (cw : Nat) (D : Option Addr) (cd : Nat) : List Value := [.int .i64 r.err, .int .i64 r.status, .int .u64 (r.ts : Int), .slice P r.pairs.length cp, .bool r.commit, .int .u64 (r.rts : Int), .slice W r.writes.length cw, .slice D r.reply.length cd]
theorem by_rd {w : World} {S : BS} {xs : By} {A : Option Addr} {n c : Nat} (h : (byEl xs).P w S [.slice A n c]) : RdB w A xs ∧ xs.length ≤ c := by
  obtain ⟨A', c', h1, h2, h3, _⟩ := h
  simp only [List.cons.injEq, Value.slice.injEq, and_true] at h1
  obtain ⟨rfl, _, rfl⟩ := h1
  exact ⟨h3, h2⟩
def PrI (w : World) (r : ResM) (P : Option Addr) (cp g1 : Nat) (cs : List Value) : FL → World → Nat → Prop := fun L wr q =>
  ∃ (k : Nat) (R : Option Addr) (c : Nat) (vs : List Value), L = [(1, .pointer (some ⟨g1, 0, none⟩)), (3, .slice R ((r.pairs.take k).flatMap pairB).length c), (4, .slice none 0 0), (10, .slice P r.pairs.length cp), (11, .int .i64 (r.pairs.length : Int)), (12, .int .i64 (k : Int))] ∧ k ≤ r.pairs.length ∧
    St NoB w wr [.ow 32 R ((r.pairs.take k).flatMap pairB).length c vs, .ck (elC w vs ((r.pairs.take k).flatMap pairB)), .blk g1 40 cs] ∧ q = r.pairs.length - k
theorem pair_len (l : List PairM) : (l.flatMap pairB).length = 2 * l.length := by
  induction l with
  | nil => rfl
  | cons x l ih => rw [List.flatMap_cons, List.length_append, ih]; simp [pairB]; omega
def WrI (w : World) (r : ResM) (W : Option Addr) (cw g1 : Nat) (cs : List Value) (R : Option Addr) (c : Nat) (vs : List Value) : FL → World → Nat → Prop := fun L wr q =>
  ∃ (k : Nat) (R4 : Option Addr) (c4 : Nat) (v4 : List Value), L = [(1, .pointer (some ⟨g1, 0, none⟩)), (3, .slice R (r.pairs.flatMap pairB).length c), (4, .slice R4 ((r.writes.take k).flatMap wrB).length c4), (26, .slice W r.writes.length cw), (27, .int .i64 (r.writes.length : Int)), (28, .int .i64 (k : Int))] ∧ k ≤ r.writes.length ∧
    St NoB w wr [.ow 32 R4 ((r.writes.take k).flatMap wrB).length c4 v4, .ck (elC w v4 ((r.writes.take k).flatMap wrB)), .ow 32 R (r.pairs.flatMap pairB).length c vs, .ck (elC w vs (r.pairs.flatMap pairB)), .blk g1 40 cs] ∧ q = r.writes.length - k
theorem wr_len (l : List WrM) : (l.flatMap wrB).length = 3 * l.length := by
  induction l with
  | nil => rfl
  | cons x l ih => rw [List.flatMap_cons, List.length_append, ih]; simp [wrB]; omega
theorem resL_len {r : ResM} (hs : ((r.pairs.flatMap pairB).flatten).length + ((r.writes.flatMap wrB).flatten).length ≤ 16777216) (hW : ∀ n ∈ [r.ts, r.rts], n < 2 ^ 64) : (resL r).flatten.length ≤ 60 + r.reply.length + (((r.pairs.flatMap pairB).flatten).length + 20 * r.pairs.length) + (((r.writes.flatMap wrB).flatten).length + 30 * r.writes.length) := by
  have h1 := intsB_len [r.err, r.status, tI r.commit]
  have h2 := wordsB_len [r.ts, r.rts] hW
  have h3 := framed_length (r.pairs.flatMap pairB) (fun x hx => by have := mem_flat hx; omega)
  have h4 := framed_length (r.writes.flatMap wrB) (fun x hx => by have := mem_flat hx; omega)
  have h5 := pair_len r.pairs
  have h6 := wr_len r.writes
  unfold resL
  simp only [List.flatten_cons, List.flatten_nil, List.append_nil, List.length_append, List.length_cons, List.length_nil] at h1 h2 ⊢
  omega
set_option maxHeartbeats 8000000 in
set_option maxRecDepth 8000 in
theorem putRes_any {r : ResM} {P W D : Option Addr} {cp cw cd : Nat} {w : World} (rP : RdR 2 w All P (r.pairs.map prEl)) (rW : RdR 3 w All W (r.writes.map wrEl)) (rD : RdB w D r.reply) (hD : r.reply.length ≤ cd) (hW : ∀ n ∈ [r.ts, r.rts], n < 2 ^ 64)
    (hl : r.reply.length + ((r.pairs.flatMap pairB).flatten).length + r.pairs.length + ((r.writes.flatMap wrB).flatten).length + r.writes.length ≤ 16777216) :
    CallsV Try.prog 48 #[.agg (reV r P cp W cw D cd).toArray] w (RetW w (putRes r)) := by
  have hs := St.init w
  have hmax : maxLen = 9223372036854775807 := rfl
  refine calls_in (N := _) Try.func48 rfl Try.ntmps48 rfl ?_; show WC _ _ _ _ _ _
  refine wc_sr ?_
  refine ws_box (cs := reV r P cp W cw D cd) hs rfl rfl ?_; clear hs; intro g1 _ hs
  unfold reV at hs
  replace hs := hs.elNil.nilO 32
  refine wl_as rfl rfl ?_; refine wl_ns ?_; refine wc_sr ?_; refine wl_as rfl rfl ?_; refine wl_as rfl rfl ?_; refine wl_ns ?_; refine wc_seq ?_; refine wc_sr ?_; apply wl_val; apply opv_fa; exact fa_sRe (by decide); exact rfl; exact rfl; apply wl_val; apply opv_ldX; exact rfl; exact hs.ar 2 rfl; exact g1_prs; exact rfl; exact rfl; apply wl_val; apply opv_len; exact rfl; exact tkPr.sl; exact rfl; refine wl_mv rfl rfl ?_; refine wl_ns ?_; refine wc_block ?_
  refine wc_loop (PrI w r P cp g1 _) [(1, .pointer (some ⟨g1, 0, none⟩)), (3, .slice none 0 0), (4, .slice none 0 0), (10, .slice P r.pairs.length cp), (11, .int .i64 (r.pairs.length : Int)), (12, .int .i64 (0 : Nat))] r.pairs.length ⟨0, none, 0, [], rfl, Nat.zero_le _, hs, rfl⟩ ⟨rfl, rfl, rfl, rfl, rfl, rfl, trivial⟩ ?_
  clear hs
  rintro _ w3 q ⟨k, R, c, vs, rfl, hk, hs, rfl⟩
  have hkl := pair_len (r.pairs.take k)
  refine wc_sr ?_; refine wl_bin rfl rfl bin_lss rfl ?_; refine wl_ns ?_; refine wc_seq ?_
  refine wc_cond rfl (fun h1 => ?_) (fun h1 => ?_)
  · obtain ⟨p, hp⟩ : ∃ p, r.pairs[k]? = some p := ⟨_, List.getElem?_eq_getElem (by omega)⟩
    obtain ⟨b, o, cs, rfl, _, _, ⟨X, x, Y, y, rfl, hx, hy⟩, hw⟩ := RdR.at (k := 2) (by decide) rP (E := prEl p) (i := k) (by rw [List.getElem?_map, hp]; rfl)
    have i1 := hw.below hs.bel
    have rx := by_rd hx
    have ry := by_rd hy
    have htk := take_getR hp
    have hkk := List.length_take_le k r.pairs
    refine wc_skip ?_; refine we_seq ?_; refine wc_seq ?_; refine wc_block ?_; refine wc_sr ?_; apply wl_val; apply opv_idxG tkPr; exact rfl; exact rfl; exact rfl; omega; exact rfl; apply wl_val; apply opv_ldG; exact rfl; assumption; exact sPr; exact rfl
    refine ws_var (cs := prV p X x Y y) hs zeroPr sPr rfl (fun _ => rfl) (by first | rfl | simp [Value.oneCell']) rfl ?_; clear hs; intro g6 _ hs
    clear i1
    unfold prV at hs
    refine wl_ns ?_; refine wc_region ?_; refine wl_mv rfl rfl ?_; apply wl_val; apply opv_fa; exact fa_sPr (by decide); exact rfl; exact rfl; apply wl_val; apply opv_ldX; exact rfl; exact hs.ar 0 rfl; exact g1_by; exact rfl; exact rfl; apply wl_val; apply opv_fa; exact fa_sPr (by decide); exact rfl; exact rfl; apply wl_val; apply opv_ldX; exact rfl; exact hs.ar 0 rfl; exact g1_by; exact rfl; exact rfl
    refine ws_push (vs := [.slice X p.1.length x, .slice Y p.2.length y]) hs 1 rfl rfl tyBB ⟨rfl, rfl, rfl, rfl, rfl, rfl, trivial⟩ rfl (by decide) rfl (by omega) (by omega) rfl rfl ?_
    clear hs; intro _ R8 c8 _ hs; (try dsimp only [setC] at hs)
    replace hs := (hs.drop 0 rfl).front 1 rfl
    dsimp only [delC] at hs
    replace hs := (hs.bbOld rx.1 rx.2).bbOld ry.1 ry.2
    replace hs := hs.front 1 rfl
    dsimp only [delC] at hs
    have hnx : (r.pairs.take (k + 1)).flatMap pairB = (r.pairs.take k).flatMap pairB ++ [p.1] ++ [p.2] := by rw [htk]; simp [pairB]
    rw [← hnx, List.append_assoc] at hs
    rw [show ((r.pairs.take k).flatMap pairB).length + 2 = ((r.pairs.take (k + 1)).flatMap pairB).length by rw [hnx]; simp] at hs ⊢
    refine wl_as rfl rfl ?_; refine wl_nil ?_; refine we_block_norm ?_; refine we_seq ?_; refine wc_region ?_; apply wl_val; apply opv_bin; exact rfl; exact rfl; exact bin_add64 (by omega); exact rfl; refine wl_mv rfl rfl ?_; refine wl_nil ?_
    exact we_loop _ (r.pairs.length - (k + 1)) ⟨k + 1, R8, c8, _, rfl, by omega, hs, rfl⟩ (by omega) ⟨rfl, rfl, rfl, rfl, rfl, by rw [show ((k + 1 : Nat) : Int) = (k : Int) + 1 by omega]; rfl, trivial⟩
  · obtain rfl : k = r.pairs.length := by omega
    rw [List.take_length] at hs hkl ⊢
    refine wc_exit ?_; refine we_seq_exit ?_; refine we_loop_exit ?_; refine we_block_exit ?_; refine we_seq ?_; refine wc_seq ?_; refine wc_sr ?_; apply wl_val; apply opv_fa; exact fa_sRe (by decide); exact rfl; exact rfl; apply wl_val; apply opv_fa; exact fa_sRc (by decide); exact rfl; exact rfl; apply wl_val; apply opv_ldX; exact rfl; exact hs.ar 2 rfl; exact g1_wrs; exact rfl; exact rfl; apply wl_val; apply opv_len; exact rfl; exact tkWr.sl; exact rfl; refine wl_mv rfl rfl ?_; refine wl_ns ?_; refine wc_block ?_
    refine wc_loop (WrI w r W cw g1 _ R c vs) [(1, .pointer (some ⟨g1, 0, none⟩)), (3, .slice R (r.pairs.flatMap pairB).length c), (4, .slice none 0 0), (26, .slice W r.writes.length cw), (27, .int .i64 (r.writes.length : Int)), (28, .int .i64 (0 : Nat))] r.writes.length
      ⟨0, none, 0, [], rfl, Nat.zero_le _, hs.elNil.nilO 32, rfl⟩ ⟨rfl, rfl, rfl, rfl, rfl, rfl, trivial⟩ ?_
    clear hs
    rintro _ w4 q ⟨k, R4, c4, v4, rfl, hk, hs, rfl⟩
    have hkl4 := wr_len (r.writes.take k)
    refine wc_sr ?_; refine wl_bin rfl rfl bin_lss rfl ?_; refine wl_ns ?_; refine wc_seq ?_
    refine wc_cond rfl (fun h1 => ?_) (fun h1 => ?_)
    · obtain ⟨x, hx0⟩ : ∃ x, r.writes[k]? = some x := ⟨_, List.getElem?_eq_getElem (by omega)⟩
      obtain ⟨b, o, cs, rfl, _, _, ⟨X, a, Y, y, rfl, hx, hy⟩, hw⟩ := RdR.at (k := 3) (by decide) rW (E := wrEl x) (i := k) (by rw [List.getElem?_map, hx0]; rfl)
      have i1 := hw.below hs.bel
      have rx := by_rd hx
      have ry := by_rd hy
      have htk := take_getR hx0
      have hkk := List.length_take_le k r.writes
      refine wc_skip ?_; refine we_seq ?_; refine wc_seq ?_; refine wc_block ?_; refine wc_sr ?_; apply wl_val; apply opv_idxG tkWr; exact rfl; exact rfl; exact rfl; omega; exact rfl; apply wl_val; apply opv_ldG; exact rfl; assumption; exact sWr; exact rfl
      refine ws_var (cs := wrV x X a Y y) hs zeroWr sWr rfl (fun _ => rfl) (by first | rfl | simp [Value.oneCell']) rfl ?_; clear hs; intro g8 _ hs
      clear i1
      unfold wrV at hs
      refine wl_ns ?_
      refine wc_heldG (fun w' => Ar w' g8 163 [.slice X x.key.length a, .slice Y x.val.length y, .bool x.gone]) 12 mixed ?_
      replace hs := hs.below (Below.refl _ _).drew
      have hS := hs.ar 0 rfl
      apply wm_take 0; exact rfl; intro _ hw_; apply opv_move; exact rfl; exact rfl; kernel_rfl; exact hS; apply wm_take 1; exact rfl; intro _ hw_; apply opv_fa; exact fa_sWr (by decide); exact rfl; exact rfl; kernel_rfl; exact hS; apply wm_take 2; exact rfl; intro _ hw_; apply opv_ldX; exact rfl; assumption; exact g1_bool; exact rfl; exact rfl; kernel_rfl; exact hS; apply wm_take 6; exact rfl; intro _ hw_; apply opv_fa; exact fa_sWr (by decide); exact rfl; exact rfl; kernel_rfl; exact hS; apply wm_take 7; exact rfl; intro _ hw_; apply opv_ldX; exact rfl; assumption; exact g1_by; exact rfl; exact rfl; kernel_rfl; exact hS; apply wm_take 8; exact rfl; intro _ hw_; apply opv_fa; exact fa_sWr (by decide); exact rfl; exact rfl; kernel_rfl; exact hS; apply wm_take 9; exact rfl; intro _ hw_; apply opv_ldX; exact rfl; assumption; exact g1_by; exact rfl; exact rfl; kernel_rfl; exact hS
      refine wm_one 3 (by kernel_rfl) rfl ?_; dsimp only [List.getElem_toArray, List.getElem_cons_succ, List.getElem_cons_zero]
      refine wl_call ok_session_truth struth_any ⟨rfl, trivial⟩ rfl ?_
      rintro _ _ ⟨rfl, rfl⟩
      refine wl_nil ?_
      refine we_heldM (fun _ => hS) ?_
      refine wm_one 4 (by kernel_rfl) rfl ?_; dsimp only [List.getElem_toArray, List.getElem_cons_succ, List.getElem_cons_zero]
      refine wl_bs (vs := iVs [tI x.gone]) tyIs ⟨rfl, rfl, rfl, trivial⟩ rfl (by decide) rfl fun R3 _ o3 hbx _ => ?_
      replace hs := hs.below hbx
      clear hbx hS
      refine wl_nil ?_
      refine we_heldM (fun _ => hs.ar 0 rfl) ?_
      refine wm_one 5 (by kernel_rfl) rfl ?_; dsimp only [List.getElem_toArray, List.getElem_cons_succ, List.getElem_cons_zero]
      refine wl_call ok_session_ints (sints_any (ns := [tI x.gone]) o3.rd rfl (by simp)) ⟨rfl, trivial⟩ rfl ?_
      rintro _ _ ⟨X4, x4, rfl, hsx⟩
      replace hs := hs.call hsx
      clear hsx o3
      refine wl_nil ?_
      refine we_heldM (fun _ => hs.ar 1 rfl) ?_
      refine wm_one 10 (by kernel_rfl) rfl ?_; dsimp only [List.getElem_toArray, List.getElem_cons_succ, List.getElem_cons_zero]
      refine wl_bs (vs := [.slice X4 (intsB [tI x.gone]).length x4, .slice X x.key.length a, .slice Y x.val.length y]) tyBB ⟨rfl, rfl, rfl, rfl, rfl, rfl, rfl, rfl, rfl, trivial⟩ rfl (by decide) rfl fun R7 _ o7 hbx _ => ?_
      replace hs := hs.below hbx
      clear hbx
      refine wl_nil ?_
      refine we_heldM (fun _ => hs.ar 1 rfl) ?_
      refine wm_one 11 (by kernel_rfl) rfl ?_; dsimp only [List.getElem_toArray, List.getElem_cons_succ, List.getElem_cons_zero]
      refine ws_app hs 2 rfl rfl tyBB rfl o7.rd (by simp [Value.oneCell']) (by omega) (by simp only [maxLen]; omega) rfl ?_
      clear hs o7; intro R8 c8 _ hs; (try dsimp only [setC] at hs)
      refine wl_nil ?_
      refine we_heldM (fun _ => hs.ar 1 rfl) ?_
      refine wm_one 12 (by kernel_rfl) rfl ?_; dsimp only [List.getElem_toArray, List.getElem_cons_succ, List.getElem_cons_zero]
      refine wl_as rfl rfl ?_; refine wl_nil ?_
      refine we_heldM (fun h => absurd h (by decide)) ?_
      refine wm_done (by kernel_rfl) ?_
      replace hs := (hs.front 3 rfl).front 1 rfl
      dsimp only [delC] at hs
      replace hs := (hs.bbOwn.bbOld rx.1 rx.2).bbOld ry.1 ry.2
      replace hs := (hs.drop 1 rfl).front 1 rfl
      dsimp only [delC] at hs
      have hnx : (r.writes.take (k + 1)).flatMap wrB = (r.writes.take k).flatMap wrB ++ [intsB [tI x.gone]] ++ [x.key] ++ [x.val] := by rw [htk]; simp [wrB]
      rw [← hnx, List.append_assoc, List.append_assoc] at hs
      rw [show ((r.writes.take k).flatMap wrB).length + 3 = ((r.writes.take (k + 1)).flatMap wrB).length by rw [hnx]; simp] at hs ⊢
      refine we_block_norm ?_; refine we_seq ?_; refine wc_region ?_; apply wl_val; apply opv_bin; exact rfl; exact rfl; exact bin_add64 (by omega); exact rfl; refine wl_mv rfl rfl ?_; refine wl_nil ?_
      exact we_loop _ (r.writes.length - (k + 1)) ⟨k + 1, R8, c8, _, rfl, by omega, hs, rfl⟩ (by omega) ⟨rfl, rfl, rfl, rfl, rfl, by rw [show ((k + 1 : Nat) : Int) = (k : Int) + 1 by omega]; rfl, trivial⟩
    · obtain rfl : k = r.writes.length := by omega
      rw [List.take_length] at hs hkl4 ⊢
      refine wc_exit ?_; refine we_seq_exit ?_; refine we_loop_exit ?_; refine we_block_exit ?_; refine we_seq ?_; refine wc_seq ?_
      refine wc_heldM 26 mixed fun w_ hS => ?_
      apply wm_take 0; exact rfl; intro _ hw_; apply opv_fa; exact fa_sRe (by decide); exact rfl; exact rfl; kernel_rfl; exact hS; apply wm_take 1; exact rfl; intro _ hw_; apply opv_ldX; exact rfl; exact Ar.bel (hs.ar 4 rfl) hw_; exact g1_err; exact rfl; exact rfl; kernel_rfl; exact hS; apply wm_take 2; exact rfl; intro _ hw_; apply opv_fa; exact fa_sRe (by decide); exact rfl; exact rfl; kernel_rfl; exact hS; apply wm_take 3; exact rfl; intro _ hw_; apply opv_ldX; exact rfl; exact Ar.bel (hs.ar 4 rfl) hw_; exact g1_int; exact rfl; exact rfl; kernel_rfl; exact hS; apply wm_take 4; exact rfl; intro _ hw_; apply opv_fa; exact fa_sRe (by decide); exact rfl; exact rfl; kernel_rfl; exact hS; apply wm_take 5; exact rfl; intro _ hw_; apply opv_fa; exact fa_sRc (by decide); exact rfl; exact rfl; kernel_rfl; exact hS; apply wm_take 6; exact rfl; intro _ hw_; apply opv_ldX; exact rfl; exact Ar.bel (hs.ar 4 rfl) hw_; exact g1_bool; exact rfl; exact rfl; kernel_rfl; exact hS; apply wm_take 10; exact rfl; intro _ hw_; apply opv_fa; exact fa_sRe (by decide); exact rfl; exact rfl; kernel_rfl; exact hS; apply wm_take 11; exact rfl; intro _ hw_; apply opv_ldX; exact rfl; exact Ar.bel (hs.ar 4 rfl) hw_; exact g1_u64; exact rfl; exact rfl; kernel_rfl; exact hS; apply wm_take 12; exact rfl; intro _ hw_; apply opv_fa; exact fa_sRe (by decide); exact rfl; exact rfl; kernel_rfl; exact hS; apply wm_take 13; exact rfl; intro _ hw_; apply opv_fa; exact fa_sRc (by decide); exact rfl; exact rfl; kernel_rfl; exact hS; apply wm_take 14; exact rfl; intro _ hw_; apply opv_ldX; exact rfl; exact Ar.bel (hs.ar 4 rfl) hw_; exact g1_u64; exact rfl; exact rfl; kernel_rfl; exact hS; apply wm_take 17; exact rfl; intro _ hw_; apply opv_move; exact rfl; exact rfl; kernel_rfl; exact hS; apply wm_take 19; exact rfl; intro _ hw_; apply opv_move; exact rfl; exact rfl; kernel_rfl; exact hS; apply wm_take 21; exact rfl; intro _ hw_; apply opv_fa; exact fa_sRe (by decide); exact rfl; exact rfl; kernel_rfl; exact hS; apply wm_take 22; exact rfl; intro _ hw_; apply opv_fa; exact fa_sRc (by decide); exact rfl; exact rfl; kernel_rfl; exact hS; apply wm_take 23; exact rfl; intro _ hw_; apply opv_ldX; exact rfl; exact Ar.bel (hs.ar 4 rfl) hw_; exact g1_by; exact rfl; exact rfl; kernel_rfl; exact hS
      replace hs := hs.below hS
      refine wm_two 7 15 (by kernel_rfl) rfl rfl ?_ ?_ <;> dsimp only [List.getElem_toArray, List.getElem_cons_succ, List.getElem_cons_zero]
      · refine wl_call ok_session_truth struth_any ⟨rfl, trivial⟩ rfl ?_
        rintro _ _ ⟨rfl, rfl⟩
        refine wl_nil ?_
        refine we_heldM (fun _ => hS) ?_
        refine wm_two 8 15 (by kernel_rfl) rfl rfl ?_ ?_ <;> dsimp only [List.getElem_toArray, List.getElem_cons_succ, List.getElem_cons_zero]
        · refine wl_bs (vs := iVs [r.err, r.status, tI r.commit]) tyIs ⟨rfl, rfl, rfl, rfl, rfl, rfl, rfl, rfl, rfl, trivial⟩ rfl (by decide) rfl fun R8 _ o8 hbx _ => ?_
          replace o8 := o8.rd
          replace hs := hs.below hbx
          replace hS := hS.trans (hbx.mono hS.size)
          clear hbx
          refine wl_nil ?_
          refine we_heldM (fun _ => hS) ?_
          refine wm_two 9 15 (by kernel_rfl) rfl rfl ?_ ?_ <;> dsimp only [List.getElem_toArray, List.getElem_cons_succ, List.getElem_cons_zero]
          · refine wl_call ok_session_ints (sints_any (ns := [r.err, r.status, tI r.commit]) o8 rfl (by simp)) ⟨rfl, trivial⟩ rfl ?_
            rintro _ _ ⟨X9, x9, rfl, hsx⟩
            replace hs := hs.call hsx
            have hbx := hsx.bel
            replace hS := hS.trans (hbx.mono hS.size)
            replace o8 := o8.below hbx
            clear hbx hsx
            refine wl_nil ?_
            refine we_heldM (fun _ => hS) ?_
            refine wm_one 15 (by kernel_rfl) rfl ?_; dsimp only [List.getElem_toArray, List.getElem_cons_succ, List.getElem_cons_zero]
            refine wl_bs (vs := wVs [r.ts, r.rts]) tyWs ⟨rfl, rfl, rfl, rfl, rfl, rfl, trivial⟩ rfl (by decide) rfl fun R15 _ o15 hbx _ => ?_
            replace o15 := o15.rd
            replace hs := hs.below hbx
            replace hS := hS.trans (hbx.mono hS.size)
            replace o8 := o8.below hbx
            clear hbx
            refine wl_nil ?_
            refine we_heldM (fun _ => hS) ?_
            refine wm_one 16 (by kernel_rfl) rfl ?_; dsimp only [List.getElem_toArray, List.getElem_cons_succ, List.getElem_cons_zero]
            refine wl_call ok_session_words (words_any (ns := [r.ts, r.rts]) o15 rfl (fun n hn => hW n hn) (by simp)) ⟨rfl, trivial⟩ rfl ?_
            rintro _ _ ⟨X16, x16, rfl, hsx⟩
            replace hs := hs.call hsx
            have hbx := hsx.bel
            replace hS := hS.trans (hbx.mono hS.size)
            replace o8 := o8.below hbx
            replace o15 := o15.below hbx
            clear hbx hsx
            refine wl_nil ?_
            refine we_heldM (fun _ => hS) ?_
            refine wm_one 18 (by kernel_rfl) rfl ?_; dsimp only [List.getElem_toArray, List.getElem_cons_succ, List.getElem_cons_zero]
            refine wl_call ok_codec_Frame (frame_any (hs.bb 4 5 rfl rfl) rfl (by omega)) ⟨rfl, trivial⟩ rfl ?_
            rintro _ _ ⟨X18, x18, rfl, o_, hbx⟩
            replace hs := hs.newO hbx o_ (Nat.le_refl _)
            replace hS := hS.trans (hbx.mono hS.size)
            clear hbx o_
            refine wl_nil ?_
            refine we_heldM (fun _ => hS) ?_
            refine wm_one 20 (by kernel_rfl) rfl ?_; dsimp only [List.getElem_toArray, List.getElem_cons_succ, List.getElem_cons_zero]
            refine wl_call ok_codec_Frame (frame_any (hs.bb 3 4 rfl rfl) rfl (by omega)) ⟨rfl, trivial⟩ rfl ?_
            rintro _ _ ⟨X20, x20, rfl, o_, hbx⟩
            replace hs := hs.newO hbx o_ (Nat.le_refl _)
            replace hS := hS.trans (hbx.mono hS.size)
            clear hbx o_
            refine wl_nil ?_
            refine we_heldM (fun _ => hS) ?_
            refine wm_one 24 (by kernel_rfl) rfl ?_; dsimp only [List.getElem_toArray, List.getElem_cons_succ, List.getElem_cons_zero]
            refine wl_bs (vs := [.slice X9 (intsB [r.err, r.status, tI r.commit]).length x9, .slice X16 (wordsB [r.ts, r.rts]).length x16, .slice X18 (framed (r.pairs.flatMap pairB)).length x18, .slice X20 (framed (r.writes.flatMap wrB)).length x20, .slice D r.reply.length cd]) tyBB ⟨rfl, rfl, rfl, rfl, rfl, rfl, rfl, rfl, rfl, rfl, rfl, rfl, rfl, rfl, rfl, trivial⟩ rfl (by decide) rfl fun R24 _ o_ hbx _ => ?_
            replace hs := hs.newO hbx o_ (Nat.le_refl _)
            replace hS := hS.trans (hbx.mono hS.size)
            clear hbx o_
            refine wl_nil ?_
            refine we_heldM (fun _ => hS) ?_
            refine wm_one 25 (by kernel_rfl) rfl ?_; dsimp only [List.getElem_toArray, List.getElem_cons_succ, List.getElem_cons_zero]
            replace hs := hs.elNil.front 5 rfl
            dsimp only [delC] at hs
            replace hs := hs.bbOwn.front 4 rfl
            dsimp only [delC] at hs
            replace hs := hs.bbOwn.front 3 rfl
            dsimp only [delC] at hs
            replace hs := hs.bbOwn.front 2 rfl
            dsimp only [delC] at hs
            replace hs := hs.bbOwn.bbOld rD hD
            dsimp only [List.nil_append, List.cons_append] at hs
            refine wl_call ok_codec_Frame (frame_any (hs.bb 1 0 rfl rfl) rfl (by have := resL_len (r := r) (by omega) hW; unfold resL at this; simp only [List.length_cons, List.length_nil]; omega)) ⟨rfl, trivial⟩ rfl ?_
            rintro _ _ ⟨B, cB, rfl, o_, hbx⟩
            replace hs := hs.newO hbx o_ (Nat.le_refl _)
            replace hS := hS.trans (hbx.mono hS.size)
            clear hbx o_
            refine wl_nil ?_
            refine we_heldM (fun _ => hS) ?_
            refine wm_one 26 (by kernel_rfl) rfl ?_; dsimp only [List.getElem_toArray, List.getElem_cons_succ, List.getElem_cons_zero]
            refine wl_as rfl rfl ?_; refine wl_nil ?_
            refine we_heldM (fun h => absurd h (by decide)) ?_
            refine wm_done (by kernel_rfl) ?_
            replace hs := ((((((hs.drop 1 rfl).drop 1 rfl).drop 1 rfl).drop 1 rfl).drop 1 rfl).drop 1 rfl).drop 1 rfl
            refine we_seq ?_; refine wc_ret ?_
            exact we_ret1 rfl rfl ⟨_, rfl, B, cB, rfl, hs⟩
          · refine wl_bs (vs := wVs [r.ts, r.rts]) tyWs ⟨rfl, rfl, rfl, rfl, rfl, rfl, trivial⟩ rfl (by decide) rfl fun R15 _ o15 hbx _ => ?_
            replace o15 := o15.rd
            replace hs := hs.below hbx
            replace hS := hS.trans (hbx.mono hS.size)
            replace o8 := o8.below hbx
            clear hbx
            refine wl_nil ?_
            refine we_heldM (fun _ => hS) ?_
            refine wm_one 9 (by kernel_rfl) rfl ?_; dsimp only [List.getElem_toArray, List.getElem_cons_succ, List.getElem_cons_zero]
            refine wl_call ok_session_ints (sints_any (ns := [r.err, r.status, tI r.commit]) o8 rfl (by simp)) ⟨rfl, trivial⟩ rfl ?_
            rintro _ _ ⟨X9, x9, rfl, hsx⟩
            replace hs := hs.call hsx
            have hbx := hsx.bel
            replace hS := hS.trans (hbx.mono hS.size)
            replace o8 := o8.below hbx
            replace o15 := o15.below hbx
            clear hbx hsx
            refine wl_nil ?_
            refine we_heldM (fun _ => hS) ?_
            refine wm_one 16 (by kernel_rfl) rfl ?_; dsimp only [List.getElem_toArray, List.getElem_cons_succ, List.getElem_cons_zero]
            refine wl_call ok_session_words (words_any (ns := [r.ts, r.rts]) o15 rfl (fun n hn => hW n hn) (by simp)) ⟨rfl, trivial⟩ rfl ?_
            rintro _ _ ⟨X16, x16, rfl, hsx⟩
            replace hs := hs.call hsx
            have hbx := hsx.bel
            replace hS := hS.trans (hbx.mono hS.size)
            replace o8 := o8.below hbx
            replace o15 := o15.below hbx
            clear hbx hsx
            refine wl_nil ?_
            refine we_heldM (fun _ => hS) ?_
            refine wm_one 18 (by kernel_rfl) rfl ?_; dsimp only [List.getElem_toArray, List.getElem_cons_succ, List.getElem_cons_zero]
            refine wl_call ok_codec_Frame (frame_any (hs.bb 4 5 rfl rfl) rfl (by omega)) ⟨rfl, trivial⟩ rfl ?_
            rintro _ _ ⟨X18, x18, rfl, o_, hbx⟩
            replace hs := hs.newO hbx o_ (Nat.le_refl _)
            replace hS := hS.trans (hbx.mono hS.size)
            clear hbx o_
            refine wl_nil ?_
            refine we_heldM (fun _ => hS) ?_
            refine wm_one 20 (by kernel_rfl) rfl ?_; dsimp only [List.getElem_toArray, List.getElem_cons_succ, List.getElem_cons_zero]
            refine wl_call ok_codec_Frame (frame_any (hs.bb 3 4 rfl rfl) rfl (by omega)) ⟨rfl, trivial⟩ rfl ?_
            rintro _ _ ⟨X20, x20, rfl, o_, hbx⟩
            replace hs := hs.newO hbx o_ (Nat.le_refl _)
            replace hS := hS.trans (hbx.mono hS.size)
            clear hbx o_
            refine wl_nil ?_
            refine we_heldM (fun _ => hS) ?_
            refine wm_one 24 (by kernel_rfl) rfl ?_; dsimp only [List.getElem_toArray, List.getElem_cons_succ, List.getElem_cons_zero]
            refine wl_bs (vs := [.slice X9 (intsB [r.err, r.status, tI r.commit]).length x9, .slice X16 (wordsB [r.ts, r.rts]).length x16, .slice X18 (framed (r.pairs.flatMap pairB)).length x18, .slice X20 (framed (r.writes.flatMap wrB)).length x20, .slice D r.reply.length cd]) tyBB ⟨rfl, rfl, rfl, rfl, rfl, rfl, rfl, rfl, rfl, rfl, rfl, rfl, rfl, rfl, rfl, trivial⟩ rfl (by decide) rfl fun R24 _ o_ hbx _ => ?_
            replace hs := hs.newO hbx o_ (Nat.le_refl _)
            replace hS := hS.trans (hbx.mono hS.size)
            clear hbx o_
            refine wl_nil ?_
            refine we_heldM (fun _ => hS) ?_
            refine wm_one 25 (by kernel_rfl) rfl ?_; dsimp only [List.getElem_toArray, List.getElem_cons_succ, List.getElem_cons_zero]
            replace hs := hs.elNil.front 5 rfl
            dsimp only [delC] at hs
            replace hs := hs.bbOwn.front 4 rfl
            dsimp only [delC] at hs
            replace hs := hs.bbOwn.front 3 rfl
            dsimp only [delC] at hs
            replace hs := hs.bbOwn.front 2 rfl
            dsimp only [delC] at hs
            replace hs := hs.bbOwn.bbOld rD hD
            dsimp only [List.nil_append, List.cons_append] at hs
            refine wl_call ok_codec_Frame (frame_any (hs.bb 1 0 rfl rfl) rfl (by have := resL_len (r := r) (by omega) hW; unfold resL at this; simp only [List.length_cons, List.length_nil]; omega)) ⟨rfl, trivial⟩ rfl ?_
            rintro _ _ ⟨B, cB, rfl, o_, hbx⟩
            replace hs := hs.newO hbx o_ (Nat.le_refl _)
            replace hS := hS.trans (hbx.mono hS.size)
            clear hbx o_
            refine wl_nil ?_
            refine we_heldM (fun _ => hS) ?_
            refine wm_one 26 (by kernel_rfl) rfl ?_; dsimp only [List.getElem_toArray, List.getElem_cons_succ, List.getElem_cons_zero]
            refine wl_as rfl rfl ?_; refine wl_nil ?_
            refine we_heldM (fun h => absurd h (by decide)) ?_
            refine wm_done (by kernel_rfl) ?_
            replace hs := ((((((hs.drop 1 rfl).drop 1 rfl).drop 1 rfl).drop 1 rfl).drop 1 rfl).drop 1 rfl).drop 1 rfl
            refine we_seq ?_; refine wc_ret ?_
            exact we_ret1 rfl rfl ⟨_, rfl, B, cB, rfl, hs⟩
        · refine wl_bs (vs := wVs [r.ts, r.rts]) tyWs ⟨rfl, rfl, rfl, rfl, rfl, rfl, trivial⟩ rfl (by decide) rfl fun R15 _ o15 hbx _ => ?_
          replace o15 := o15.rd
          replace hs := hs.below hbx
          replace hS := hS.trans (hbx.mono hS.size)
          clear hbx
          refine wl_nil ?_
          refine we_heldM (fun _ => hS) ?_
          refine wm_one 8 (by kernel_rfl) rfl ?_; dsimp only [List.getElem_toArray, List.getElem_cons_succ, List.getElem_cons_zero]
          refine wl_bs (vs := iVs [r.err, r.status, tI r.commit]) tyIs ⟨rfl, rfl, rfl, rfl, rfl, rfl, rfl, rfl, rfl, trivial⟩ rfl (by decide) rfl fun R8 _ o8 hbx _ => ?_
          replace o8 := o8.rd
          replace hs := hs.below hbx
          replace hS := hS.trans (hbx.mono hS.size)
          replace o15 := o15.below hbx
          clear hbx
          refine wl_nil ?_
          refine we_heldM (fun _ => hS) ?_
          refine wm_one 9 (by kernel_rfl) rfl ?_; dsimp only [List.getElem_toArray, List.getElem_cons_succ, List.getElem_cons_zero]
          refine wl_call ok_session_ints (sints_any (ns := [r.err, r.status, tI r.commit]) o8 rfl (by simp)) ⟨rfl, trivial⟩ rfl ?_
          rintro _ _ ⟨X9, x9, rfl, hsx⟩
          replace hs := hs.call hsx
          have hbx := hsx.bel
          replace hS := hS.trans (hbx.mono hS.size)
          replace o8 := o8.below hbx
          replace o15 := o15.below hbx
          clear hbx hsx
          refine wl_nil ?_
          refine we_heldM (fun _ => hS) ?_
          refine wm_one 16 (by kernel_rfl) rfl ?_; dsimp only [List.getElem_toArray, List.getElem_cons_succ, List.getElem_cons_zero]
          refine wl_call ok_session_words (words_any (ns := [r.ts, r.rts]) o15 rfl (fun n hn => hW n hn) (by simp)) ⟨rfl, trivial⟩ rfl ?_
          rintro _ _ ⟨X16, x16, rfl, hsx⟩
          replace hs := hs.call hsx
          have hbx := hsx.bel
          replace hS := hS.trans (hbx.mono hS.size)
          replace o8 := o8.below hbx
          replace o15 := o15.below hbx
          clear hbx hsx
          refine wl_nil ?_
          refine we_heldM (fun _ => hS) ?_
          refine wm_one 18 (by kernel_rfl) rfl ?_; dsimp only [List.getElem_toArray, List.getElem_cons_succ, List.getElem_cons_zero]
          refine wl_call ok_codec_Frame (frame_any (hs.bb 4 5 rfl rfl) rfl (by omega)) ⟨rfl, trivial⟩ rfl ?_
          rintro _ _ ⟨X18, x18, rfl, o_, hbx⟩
          replace hs := hs.newO hbx o_ (Nat.le_refl _)
          replace hS := hS.trans (hbx.mono hS.size)
          clear hbx o_
          refine wl_nil ?_
          refine we_heldM (fun _ => hS) ?_
          refine wm_one 20 (by kernel_rfl) rfl ?_; dsimp only [List.getElem_toArray, List.getElem_cons_succ, List.getElem_cons_zero]
          refine wl_call ok_codec_Frame (frame_any (hs.bb 3 4 rfl rfl) rfl (by omega)) ⟨rfl, trivial⟩ rfl ?_
          rintro _ _ ⟨X20, x20, rfl, o_, hbx⟩
          replace hs := hs.newO hbx o_ (Nat.le_refl _)
          replace hS := hS.trans (hbx.mono hS.size)
          clear hbx o_
          refine wl_nil ?_
          refine we_heldM (fun _ => hS) ?_
          refine wm_one 24 (by kernel_rfl) rfl ?_; dsimp only [List.getElem_toArray, List.getElem_cons_succ, List.getElem_cons_zero]
          refine wl_bs (vs := [.slice X9 (intsB [r.err, r.status, tI r.commit]).length x9, .slice X16 (wordsB [r.ts, r.rts]).length x16, .slice X18 (framed (r.pairs.flatMap pairB)).length x18, .slice X20 (framed (r.writes.flatMap wrB)).length x20, .slice D r.reply.length cd]) tyBB ⟨rfl, rfl, rfl, rfl, rfl, rfl, rfl, rfl, rfl, rfl, rfl, rfl, rfl, rfl, rfl, trivial⟩ rfl (by decide) rfl fun R24 _ o_ hbx _ => ?_
          replace hs := hs.newO hbx o_ (Nat.le_refl _)
          replace hS := hS.trans (hbx.mono hS.size)
          clear hbx o_
          refine wl_nil ?_
          refine we_heldM (fun _ => hS) ?_
          refine wm_one 25 (by kernel_rfl) rfl ?_; dsimp only [List.getElem_toArray, List.getElem_cons_succ, List.getElem_cons_zero]
          replace hs := hs.elNil.front 5 rfl
          dsimp only [delC] at hs
          replace hs := hs.bbOwn.front 4 rfl
          dsimp only [delC] at hs
          replace hs := hs.bbOwn.front 3 rfl
          dsimp only [delC] at hs
          replace hs := hs.bbOwn.front 2 rfl
          dsimp only [delC] at hs
          replace hs := hs.bbOwn.bbOld rD hD
          dsimp only [List.nil_append, List.cons_append] at hs
          refine wl_call ok_codec_Frame (frame_any (hs.bb 1 0 rfl rfl) rfl (by have := resL_len (r := r) (by omega) hW; unfold resL at this; simp only [List.length_cons, List.length_nil]; omega)) ⟨rfl, trivial⟩ rfl ?_
          rintro _ _ ⟨B, cB, rfl, o_, hbx⟩
          replace hs := hs.newO hbx o_ (Nat.le_refl _)
          replace hS := hS.trans (hbx.mono hS.size)
          clear hbx o_
          refine wl_nil ?_
          refine we_heldM (fun _ => hS) ?_
          refine wm_one 26 (by kernel_rfl) rfl ?_; dsimp only [List.getElem_toArray, List.getElem_cons_succ, List.getElem_cons_zero]
          refine wl_as rfl rfl ?_; refine wl_nil ?_
          refine we_heldM (fun h => absurd h (by decide)) ?_
          refine wm_done (by kernel_rfl) ?_
          replace hs := ((((((hs.drop 1 rfl).drop 1 rfl).drop 1 rfl).drop 1 rfl).drop 1 rfl).drop 1 rfl).drop 1 rfl
          refine we_seq ?_; refine wc_ret ?_
          exact we_ret1 rfl rfl ⟨_, rfl, B, cB, rfl, hs⟩
      · refine wl_bs (vs := wVs [r.ts, r.rts]) tyWs ⟨rfl, rfl, rfl, rfl, rfl, rfl, trivial⟩ rfl (by decide) rfl fun R15 _ o15 hbx _ => ?_
        replace o15 := o15.rd
        replace hs := hs.below hbx
        replace hS := hS.trans (hbx.mono hS.size)
        clear hbx
        refine wl_nil ?_
        refine we_heldM (fun _ => hS) ?_
        refine wm_one 7 (by kernel_rfl) rfl ?_; dsimp only [List.getElem_toArray, List.getElem_cons_succ, List.getElem_cons_zero]
        refine wl_call ok_session_truth struth_any ⟨rfl, trivial⟩ rfl ?_
        rintro _ _ ⟨rfl, rfl⟩
        refine wl_nil ?_
        refine we_heldM (fun _ => hS) ?_
        refine wm_one 8 (by kernel_rfl) rfl ?_; dsimp only [List.getElem_toArray, List.getElem_cons_succ, List.getElem_cons_zero]
        refine wl_bs (vs := iVs [r.err, r.status, tI r.commit]) tyIs ⟨rfl, rfl, rfl, rfl, rfl, rfl, rfl, rfl, rfl, trivial⟩ rfl (by decide) rfl fun R8 _ o8 hbx _ => ?_
        replace o8 := o8.rd
        replace hs := hs.below hbx
        replace hS := hS.trans (hbx.mono hS.size)
        replace o15 := o15.below hbx
        clear hbx
        refine wl_nil ?_
        refine we_heldM (fun _ => hS) ?_
        refine wm_one 9 (by kernel_rfl) rfl ?_; dsimp only [List.getElem_toArray, List.getElem_cons_succ, List.getElem_cons_zero]
        refine wl_call ok_session_ints (sints_any (ns := [r.err, r.status, tI r.commit]) o8 rfl (by simp)) ⟨rfl, trivial⟩ rfl ?_
        rintro _ _ ⟨X9, x9, rfl, hsx⟩
        replace hs := hs.call hsx
        have hbx := hsx.bel
        replace hS := hS.trans (hbx.mono hS.size)
        replace o8 := o8.below hbx
        replace o15 := o15.below hbx
        clear hbx hsx
        refine wl_nil ?_
        refine we_heldM (fun _ => hS) ?_
        refine wm_one 16 (by kernel_rfl) rfl ?_; dsimp only [List.getElem_toArray, List.getElem_cons_succ, List.getElem_cons_zero]
        refine wl_call ok_session_words (words_any (ns := [r.ts, r.rts]) o15 rfl (fun n hn => hW n hn) (by simp)) ⟨rfl, trivial⟩ rfl ?_
        rintro _ _ ⟨X16, x16, rfl, hsx⟩
        replace hs := hs.call hsx
        have hbx := hsx.bel
        replace hS := hS.trans (hbx.mono hS.size)
        replace o8 := o8.below hbx
        replace o15 := o15.below hbx
        clear hbx hsx
        refine wl_nil ?_
        refine we_heldM (fun _ => hS) ?_
        refine wm_one 18 (by kernel_rfl) rfl ?_; dsimp only [List.getElem_toArray, List.getElem_cons_succ, List.getElem_cons_zero]
        refine wl_call ok_codec_Frame (frame_any (hs.bb 4 5 rfl rfl) rfl (by omega)) ⟨rfl, trivial⟩ rfl ?_
        rintro _ _ ⟨X18, x18, rfl, o_, hbx⟩
        replace hs := hs.newO hbx o_ (Nat.le_refl _)
        replace hS := hS.trans (hbx.mono hS.size)
        clear hbx o_
        refine wl_nil ?_
        refine we_heldM (fun _ => hS) ?_
        refine wm_one 20 (by kernel_rfl) rfl ?_; dsimp only [List.getElem_toArray, List.getElem_cons_succ, List.getElem_cons_zero]
        refine wl_call ok_codec_Frame (frame_any (hs.bb 3 4 rfl rfl) rfl (by omega)) ⟨rfl, trivial⟩ rfl ?_
        rintro _ _ ⟨X20, x20, rfl, o_, hbx⟩
        replace hs := hs.newO hbx o_ (Nat.le_refl _)
        replace hS := hS.trans (hbx.mono hS.size)
        clear hbx o_
        refine wl_nil ?_
        refine we_heldM (fun _ => hS) ?_
        refine wm_one 24 (by kernel_rfl) rfl ?_; dsimp only [List.getElem_toArray, List.getElem_cons_succ, List.getElem_cons_zero]
        refine wl_bs (vs := [.slice X9 (intsB [r.err, r.status, tI r.commit]).length x9, .slice X16 (wordsB [r.ts, r.rts]).length x16, .slice X18 (framed (r.pairs.flatMap pairB)).length x18, .slice X20 (framed (r.writes.flatMap wrB)).length x20, .slice D r.reply.length cd]) tyBB ⟨rfl, rfl, rfl, rfl, rfl, rfl, rfl, rfl, rfl, rfl, rfl, rfl, rfl, rfl, rfl, trivial⟩ rfl (by decide) rfl fun R24 _ o_ hbx _ => ?_
        replace hs := hs.newO hbx o_ (Nat.le_refl _)
        replace hS := hS.trans (hbx.mono hS.size)
        clear hbx o_
        refine wl_nil ?_
        refine we_heldM (fun _ => hS) ?_
        refine wm_one 25 (by kernel_rfl) rfl ?_; dsimp only [List.getElem_toArray, List.getElem_cons_succ, List.getElem_cons_zero]
        replace hs := hs.elNil.front 5 rfl
        dsimp only [delC] at hs
        replace hs := hs.bbOwn.front 4 rfl
        dsimp only [delC] at hs
        replace hs := hs.bbOwn.front 3 rfl
        dsimp only [delC] at hs
        replace hs := hs.bbOwn.front 2 rfl
        dsimp only [delC] at hs
        replace hs := hs.bbOwn.bbOld rD hD
        dsimp only [List.nil_append, List.cons_append] at hs
        refine wl_call ok_codec_Frame (frame_any (hs.bb 1 0 rfl rfl) rfl (by have := resL_len (r := r) (by omega) hW; unfold resL at this; simp only [List.length_cons, List.length_nil]; omega)) ⟨rfl, trivial⟩ rfl ?_
        rintro _ _ ⟨B, cB, rfl, o_, hbx⟩
        replace hs := hs.newO hbx o_ (Nat.le_refl _)
        replace hS := hS.trans (hbx.mono hS.size)
        clear hbx o_
        refine wl_nil ?_
        refine we_heldM (fun _ => hS) ?_
        refine wm_one 26 (by kernel_rfl) rfl ?_; dsimp only [List.getElem_toArray, List.getElem_cons_succ, List.getElem_cons_zero]
        refine wl_as rfl rfl ?_; refine wl_nil ?_
        refine we_heldM (fun h => absurd h (by decide)) ?_
        refine wm_done (by kernel_rfl) ?_
        replace hs := ((((((hs.drop 1 rfl).drop 1 rfl).drop 1 rfl).drop 1 rfl).drop 1 rfl).drop 1 rfl).drop 1 rfl
        refine we_seq ?_; refine wc_ret ?_
        exact we_ret1 rfl rfl ⟨_, rfl, B, cB, rfl, hs⟩
end Go.Proofs.Ytaacnknniaipmaa

/-
  The walk over Packet.Bytes.
-/
namespace Go.Proofs.Ytaacnknniaipmaa
open Go.RowKit

theorem sPk : StT Try.prog 42 29 := ⟨by kernel_rfl, by kernel_rfl⟩
theorem fa_Pk0 : FieldAt Try.prog 42 0 0 := fieldAt_mk Try.underlying42 rfl rfl (by kernel_rfl)
theorem fa_Pk1 : FieldAt Try.prog 42 1 1 := fieldAt_mk Try.underlying42 rfl rfl (by kernel_rfl)
theorem fa_Pk2 : FieldAt Try.prog 42 2 2 := fieldAt_mk Try.underlying42 rfl rfl (by kernel_rfl)
theorem fa_Pk3 : FieldAt Try.prog 42 3 3 := fieldAt_mk Try.underlying42 rfl rfl (by kernel_rfl)
theorem fa_Pk4 : FieldAt Try.prog 42 4 4 := fieldAt_mk Try.underlying42 rfl rfl (by kernel_rfl)
theorem fa_Pk5 : FieldAt Try.prog 42 5 5 := fieldAt_mk Try.underlying42 rfl rfl (by kernel_rfl)
theorem fa_Pk6 : FieldAt Try.prog 42 6 6 := fieldAt_mk Try.underlying42 rfl rfl (by kernel_rfl)
theorem fa_Pk7 : FieldAt Try.prog 42 7 7 := fieldAt_mk Try.underlying42 rfl rfl (by kernel_rfl)
theorem fa_Pk8 : FieldAt Try.prog 42 8 9 := fieldAt_mk Try.underlying42 rfl rfl (by kernel_rfl)
theorem fa_Pk9 : FieldAt Try.prog 42 9 10 := fieldAt_mk Try.underlying42 rfl rfl (by kernel_rfl)
theorem fa_Pk10 : FieldAt Try.prog 42 10 20 := fieldAt_mk Try.underlying42 rfl rfl (by kernel_rfl)
theorem fa_Pk11 : FieldAt Try.prog 42 11 28 := fieldAt_mk Try.underlying42 rfl rfl (by kernel_rfl)
theorem fa_Tx0 : FieldAt Try.prog 29 0 0 := fieldAt_mk Try.underlying29 rfl rfl (by kernel_rfl)
theorem fa_Tx1 : FieldAt Try.prog 29 1 1 := fieldAt_mk Try.underlying29 rfl rfl (by kernel_rfl)

/-- A packet as values, its message and its result told apart. -/
def pkV (p : PkM) (mv rv : List Value) (D : Option Addr) (cd : Nat) : List Value := [.int .i64 p.kind, .int .i64 p.fr, .int .i64 p.to, .int .i64 p.shard, .int .i64 p.round, .int .i64 p.cmd, .int .i64 p.lead, .int .u64 (p.tx.1 : Int), .int .u64 (p.tx.2 : Int), .int .i64 p.code] ++ (mv ++ (rv ++ [.slice D p.data.length cd]))
theorem ar_wiP {w : World} {g : Nat} {t : TypeId} {cs : List Value} (h : Ar w g t cs) (o : Nat) (ds : List Value) (hd : ∀ j u, ds[j]? = some u → cs[o + j]? = some u) : Wi w g o ds := ⟨h.lt, fun j u hu => (h.cell (o + j)).trans (hd j u hu)⟩
def pkA (p : PkM) : List Value := [.int .i64 p.kind, .int .i64 p.fr, .int .i64 p.to, .int .i64 p.shard, .int .i64 p.round, .int .i64 p.cmd, .int .i64 p.lead, .int .u64 (p.tx.1 : Int), .int .u64 (p.tx.2 : Int), .int .i64 p.code]
theorem pk_mid {A B C : List Value} {j : Nat} {u : Value} (h : B[j]? = some u) : (A ++ (B ++ C))[A.length + j]? = some u := by
  rw [List.getElem?_append_right (by omega), Nat.add_sub_cancel_left, List.getElem?_append_left (List.getElem?_eq_some_iff.1 h).1]; exact h
theorem pk_mid2 {A B C D : List Value} {j : Nat} {u : Value} (h : C[j]? = some u) : (A ++ (B ++ (C ++ D)))[A.length + B.length + j]? = some u := by
  rw [Nat.add_assoc, List.getElem?_append_right (by omega), Nat.add_sub_cancel_left]; exact pk_mid h
set_option maxHeartbeats 8000000 in
set_option maxRecDepth 8000 in
theorem pkBytes_any {p : PkM} {E M P W Y D : Option Addr} {ce cm cp cw cy cd : Nat} {w : World} (hk : ∀ n ∈ [p.tx.1, p.tx.2], n < 2 ^ 64)
    (rE : RdR 2 w All E (p.msg.ents.map etEl)) (rM : RdB w M p.msg.data) (hM : p.msg.data.length ≤ cm) (hWm : ∀ n ∈ [p.msg.term, p.msg.ix, p.msg.lt, p.msg.cm], n < 2 ^ 64) (hE : ∀ e ∈ p.msg.ents, e.1 < 2 ^ 64) (hlm : p.msg.data.length + (p.msg.ents.map (·.2)).flatten.length + p.msg.ents.length ≤ 16777216)
    (rP : RdR 2 w All P (p.res.pairs.map prEl)) (rW : RdR 3 w All W (p.res.writes.map wrEl)) (rY : RdB w Y p.res.reply) (hY : p.res.reply.length ≤ cy) (hWr : ∀ n ∈ [p.res.ts, p.res.rts], n < 2 ^ 64)
    (hlr : p.res.reply.length + ((p.res.pairs.flatMap pairB).flatten).length + p.res.pairs.length + ((p.res.writes.flatMap wrB).flatten).length + p.res.writes.length ≤ 16777216) (rD : RdB w D p.data) (hD : p.data.length ≤ cd) (hld : p.data.length ≤ 16777216) :
    CallsV Try.prog 22 #[.agg (pkV p (msV p.msg E ce M cm) (reV p.res P cp W cw Y cy) D cd).toArray] w fun v w' => ∃ (A : Option Addr) (c : Nat), v = .tuple #[.slice A (pkB p).1.length c, .int .i64 ((pkB p).2 : Nat)] ∧ NwB w' w.heap.size A c (pkB p).1 ∧ Below w.heap.size w w' := by
  have hs := St.init w
  have hmax : maxLen = 9223372036854775807 := rfl
  have hW := hk
  refine calls_in (N := _) Try.func22 rfl Try.ntmps22 rfl ?_; show WC _ _ _ _ _ _
  refine wc_sr ?_
  obtain ⟨mv, hmv⟩ : ∃ mv, msV p.msg E ce M cm = mv := ⟨_, rfl⟩
  refine ws_box (cs := pkV p (msV p.msg E ce M cm) (reV p.res P cp W cw Y cy) D cd) hs rfl rfl ?_; clear hs; intro g1 _ hs
  refine wl_as rfl rfl ?_; refine wl_as rfl rfl ?_; refine wl_ns ?_; refine wc_seq ?_
  obtain ⟨cs, hcs⟩ : ∃ cs, pkV p (msV p.msg E ce M cm) (reV p.res P cp W cw Y cy) D cd = cs := ⟨_, rfl⟩
  have hlen : cs.length = 29 := by rw [← hcs]; rfl
  refine wc_cutE (fun L w' => ∃ (X3 : Option Addr) (x3 : Nat) (X11 : Option Addr) (x11 : Nat), L = [(1, .pointer (some ⟨g1, 0, none⟩)), (4, .slice X3 (intsB [p.kind]).length x3), (5, .slice X11 (wordsB [p.tx.1, p.tx.2]).length x11)] ∧
    St NoB w w' [.ow 5 X11 (wordsB [p.tx.1, p.tx.2]).length x11 (bvs (wordsB [p.tx.1, p.tx.2])), .ow 5 X3 (intsB [p.kind]).length x3 (bvs (intsB [p.kind])), .blk g1 42 (pkV p (msV p.msg E ce M cm) (reV p.res P cp W cw Y cy) D cd)]) ?_ ?_
  · refine wc_heldM 13 mixed fun w_ hS => ?_
    apply wm_take 0; exact rfl; intro _ hw_; apply opv_fa; exact fa_Pk0; exact rfl; exact rfl; kernel_rfl; exact hS; apply wm_take 1; exact rfl; intro _ hw_; apply opv_ldX; exact rfl; exact Ar.bel (hs.ar 0 rfl) hw_; exact g1_int; exact rfl; exact rfl; kernel_rfl; exact hS; apply wm_take 4; exact rfl; intro _ hw_; apply opv_fa; exact fa_Pk7; exact rfl; exact rfl; kernel_rfl; exact hS; apply wm_take 5; exact rfl; intro _ hw_; apply opv_fa; exact fa_Tx0; exact rfl; exact rfl; kernel_rfl; exact hS; apply wm_take 6; exact rfl; intro _ hw_; apply opv_ldX; exact rfl; exact Ar.bel (hs.ar 0 rfl) hw_; exact g1_u64; exact rfl; exact rfl; kernel_rfl; exact hS; apply wm_take 7; exact rfl; intro _ hw_; apply opv_fa; exact fa_Pk7; exact rfl; exact rfl; kernel_rfl; exact hS; apply wm_take 8; exact rfl; intro _ hw_; apply opv_fa; exact fa_Tx1; exact rfl; exact rfl; kernel_rfl; exact hS; apply wm_take 9; exact rfl; intro _ hw_; apply opv_ldX; exact rfl; exact Ar.bel (hs.ar 0 rfl) hw_; exact g1_u64; exact rfl; exact rfl; kernel_rfl; exact hS
    replace hs := hs.below hS
    refine wm_two 2 10 (by kernel_rfl) rfl rfl ?_ ?_ <;> dsimp only [List.getElem_toArray, List.getElem_cons_succ, List.getElem_cons_zero]
    · refine wl_bs (vs := iVs [p.kind]) tyIs ⟨rfl, rfl, rfl, trivial⟩ rfl (by decide) rfl fun R2 _ o2 hbx _ => ?_
      replace o2 := o2.rd
      replace hs := hs.below hbx
      replace hS := hS.trans (hbx.mono hS.size)
      clear hbx
      refine wl_nil ?_
      refine we_heldM (fun _ => hS) ?_
      refine wm_two 3 10 (by kernel_rfl) rfl rfl ?_ ?_ <;> dsimp only [List.getElem_toArray, List.getElem_cons_succ, List.getElem_cons_zero]
      · refine wl_call ok_session_ints (sints_any (ns := [p.kind]) o2 rfl (by simp)) ⟨rfl, trivial⟩ rfl ?_
        rintro _ _ ⟨X3, x3, rfl, hsx⟩
        replace hs := hs.call hsx
        have hbx := hsx.bel
        replace hS := hS.trans (hbx.mono hS.size)
        replace o2 := o2.below hbx
        clear hbx hsx
        refine wl_nil ?_
        refine we_heldM (fun _ => hS) ?_
        refine wm_one 10 (by kernel_rfl) rfl ?_; dsimp only [List.getElem_toArray, List.getElem_cons_succ, List.getElem_cons_zero]
        refine wl_bs (vs := wVs [p.tx.1, p.tx.2]) tyWs ⟨rfl, rfl, rfl, rfl, rfl, rfl, trivial⟩ rfl (by decide) rfl fun R10 _ o10 hbx _ => ?_
        replace o10 := o10.rd
        replace hs := hs.below hbx
        replace hS := hS.trans (hbx.mono hS.size)
        replace o2 := o2.below hbx
        clear hbx
        refine wl_nil ?_
        refine we_heldM (fun _ => hS) ?_
        refine wm_one 11 (by kernel_rfl) rfl ?_; dsimp only [List.getElem_toArray, List.getElem_cons_succ, List.getElem_cons_zero]
        refine wl_call ok_session_words (words_any (ns := [p.tx.1, p.tx.2]) o10 rfl (fun n hn => hW n hn) (by simp)) ⟨rfl, trivial⟩ rfl ?_
        rintro _ _ ⟨X11, x11, rfl, hsx⟩
        replace hs := hs.call hsx
        have hbx := hsx.bel
        replace hS := hS.trans (hbx.mono hS.size)
        replace o2 := o2.below hbx
        replace o10 := o10.below hbx
        clear hbx hsx
        refine wl_nil ?_
        refine we_heldM (fun _ => hS) ?_
        refine wm_one 12 (by kernel_rfl) rfl ?_; dsimp only [List.getElem_toArray, List.getElem_cons_succ, List.getElem_cons_zero]
        refine wl_as rfl rfl ?_; refine wl_nil ?_
        refine we_heldM (fun _ => hS) ?_
        refine wm_one 13 (by kernel_rfl) rfl ?_; dsimp only [List.getElem_toArray, List.getElem_cons_succ, List.getElem_cons_zero]
        refine wl_as rfl rfl ?_; refine wl_nil ?_
        refine we_heldM (fun h => absurd h (by decide)) ?_
        refine wm_done (by kernel_rfl) ?_
        exact we_cut _ ⟨X3, x3, X11, x11, rfl, hs⟩ ⟨rfl, rfl, rfl, trivial⟩
      · refine wl_bs (vs := wVs [p.tx.1, p.tx.2]) tyWs ⟨rfl, rfl, rfl, rfl, rfl, rfl, trivial⟩ rfl (by decide) rfl fun R10 _ o10 hbx _ => ?_
        replace o10 := o10.rd
        replace hs := hs.below hbx
        replace hS := hS.trans (hbx.mono hS.size)
        replace o2 := o2.below hbx
        clear hbx
        refine wl_nil ?_
        refine we_heldM (fun _ => hS) ?_
        refine wm_one 3 (by kernel_rfl) rfl ?_; dsimp only [List.getElem_toArray, List.getElem_cons_succ, List.getElem_cons_zero]
        refine wl_call ok_session_ints (sints_any (ns := [p.kind]) o2 rfl (by simp)) ⟨rfl, trivial⟩ rfl ?_
        rintro _ _ ⟨X3, x3, rfl, hsx⟩
        replace hs := hs.call hsx
        have hbx := hsx.bel
        replace hS := hS.trans (hbx.mono hS.size)
        replace o2 := o2.below hbx
        replace o10 := o10.below hbx
        clear hbx hsx
        refine wl_nil ?_
        refine we_heldM (fun _ => hS) ?_
        refine wm_one 11 (by kernel_rfl) rfl ?_; dsimp only [List.getElem_toArray, List.getElem_cons_succ, List.getElem_cons_zero]
        refine wl_call ok_session_words (words_any (ns := [p.tx.1, p.tx.2]) o10 rfl (fun n hn => hW n hn) (by simp)) ⟨rfl, trivial⟩ rfl ?_
        rintro _ _ ⟨X11, x11, rfl, hsx⟩
        replace hs := hs.call hsx
        have hbx := hsx.bel
        replace hS := hS.trans (hbx.mono hS.size)
        replace o2 := o2.below hbx
        replace o10 := o10.below hbx
        clear hbx hsx
        refine wl_nil ?_
        refine we_heldM (fun _ => hS) ?_
        refine wm_one 12 (by kernel_rfl) rfl ?_; dsimp only [List.getElem_toArray, List.getElem_cons_succ, List.getElem_cons_zero]
        refine wl_as rfl rfl ?_; refine wl_nil ?_
        refine we_heldM (fun _ => hS) ?_
        refine wm_one 13 (by kernel_rfl) rfl ?_; dsimp only [List.getElem_toArray, List.getElem_cons_succ, List.getElem_cons_zero]
        refine wl_as rfl rfl ?_; refine wl_nil ?_
        refine we_heldM (fun h => absurd h (by decide)) ?_
        refine wm_done (by kernel_rfl) ?_
        exact we_cut _ ⟨X3, x3, X11, x11, rfl, hs⟩ ⟨rfl, rfl, rfl, trivial⟩
    · refine wl_bs (vs := wVs [p.tx.1, p.tx.2]) tyWs ⟨rfl, rfl, rfl, rfl, rfl, rfl, trivial⟩ rfl (by decide) rfl fun R10 _ o10 hbx _ => ?_
      replace o10 := o10.rd
      replace hs := hs.below hbx
      replace hS := hS.trans (hbx.mono hS.size)
      clear hbx
      refine wl_nil ?_
      refine we_heldM (fun _ => hS) ?_
      refine wm_one 2 (by kernel_rfl) rfl ?_; dsimp only [List.getElem_toArray, List.getElem_cons_succ, List.getElem_cons_zero]
      refine wl_bs (vs := iVs [p.kind]) tyIs ⟨rfl, rfl, rfl, trivial⟩ rfl (by decide) rfl fun R2 _ o2 hbx _ => ?_
      replace o2 := o2.rd
      replace hs := hs.below hbx
      replace hS := hS.trans (hbx.mono hS.size)
      replace o10 := o10.below hbx
      clear hbx
      refine wl_nil ?_
      refine we_heldM (fun _ => hS) ?_
      refine wm_one 3 (by kernel_rfl) rfl ?_; dsimp only [List.getElem_toArray, List.getElem_cons_succ, List.getElem_cons_zero]
      refine wl_call ok_session_ints (sints_any (ns := [p.kind]) o2 rfl (by simp)) ⟨rfl, trivial⟩ rfl ?_
      rintro _ _ ⟨X3, x3, rfl, hsx⟩
      replace hs := hs.call hsx
      have hbx := hsx.bel
      replace hS := hS.trans (hbx.mono hS.size)
      replace o2 := o2.below hbx
      replace o10 := o10.below hbx
      clear hbx hsx
      refine wl_nil ?_
      refine we_heldM (fun _ => hS) ?_
      refine wm_one 11 (by kernel_rfl) rfl ?_; dsimp only [List.getElem_toArray, List.getElem_cons_succ, List.getElem_cons_zero]
      refine wl_call ok_session_words (words_any (ns := [p.tx.1, p.tx.2]) o10 rfl (fun n hn => hW n hn) (by simp)) ⟨rfl, trivial⟩ rfl ?_
      rintro _ _ ⟨X11, x11, rfl, hsx⟩
      replace hs := hs.call hsx
      have hbx := hsx.bel
      replace hS := hS.trans (hbx.mono hS.size)
      replace o2 := o2.below hbx
      replace o10 := o10.below hbx
      clear hbx hsx
      refine wl_nil ?_
      refine we_heldM (fun _ => hS) ?_
      refine wm_one 12 (by kernel_rfl) rfl ?_; dsimp only [List.getElem_toArray, List.getElem_cons_succ, List.getElem_cons_zero]
      refine wl_as rfl rfl ?_; refine wl_nil ?_
      refine we_heldM (fun _ => hS) ?_
      refine wm_one 13 (by kernel_rfl) rfl ?_; dsimp only [List.getElem_toArray, List.getElem_cons_succ, List.getElem_cons_zero]
      refine wl_as rfl rfl ?_; refine wl_nil ?_
      refine we_heldM (fun h => absurd h (by decide)) ?_
      refine wm_done (by kernel_rfl) ?_
      exact we_cut _ ⟨X3, x3, X11, x11, rfl, hs⟩ ⟨rfl, rfl, rfl, trivial⟩
  rintro _ w2 ⟨X3, x3, X11, x11, rfl, hs⟩
  unfold pkV at hs
  refine we_seq ?_; refine wc_sr ?_; refine wl_as rfl rfl ?_; refine wl_ns ?_; refine wc_seq ?_; refine wc_sr ?_; apply wl_val; apply opv_fa; exact fa_Pk0; exact rfl; exact rfl; apply wl_val; apply opv_ldX; exact rfl; exact hs.ar 2 rfl; exact g1_int; exact rfl; exact rfl; refine wl_ns ?_; refine wc_block ?_; refine wc_sr ?_; refine wl_bin rfl rfl bin_eql rfl ?_; refine wl_as rfl rfl ?_; refine wl_ns ?_
  refine wc_cutB (fun L w' => ∃ (l : List By) (R : Option Addr) (c : Nat) (vs : List Value), pkL p = some l ∧ L = [(1, .pointer (some ⟨g1, 0, none⟩)), (6, .slice R l.length c)] ∧ St NoB w w' [.ow 32 R l.length c vs, .ck (elC w vs l)] ∧ l.flatten.length ≤ 1073741824 ∧ l.length ≤ 5) ?_ ?_
  · by_cases k1 : p.kind = 1
    · apply wc_decT; exact rfl; (with_reducible assumption)
      refine wc_heldM 13 mixed fun w_ hS => ?_
      apply wm_take 0; exact rfl; intro _ hw_; apply opv_move; exact rfl; exact rfl; kernel_rfl; exact hS; apply wm_take 1; exact rfl; intro _ hw_; apply opv_fa; exact fa_Pk1; exact rfl; exact rfl; kernel_rfl; exact hS; apply wm_take 2; exact rfl; intro _ hw_; apply opv_ldX; exact rfl; exact Ar.bel (hs.ar 2 rfl) hw_; exact g1_int; exact rfl; exact rfl; kernel_rfl; exact hS; apply wm_take 3; exact rfl; intro _ hw_; apply opv_fa; exact fa_Pk2; exact rfl; exact rfl; kernel_rfl; exact hS; apply wm_take 4; exact rfl; intro _ hw_; apply opv_ldX; exact rfl; exact Ar.bel (hs.ar 2 rfl) hw_; exact g1_int; exact rfl; exact rfl; kernel_rfl; exact hS; apply wm_take 5; exact rfl; intro _ hw_; apply opv_fa; exact fa_Pk3; exact rfl; exact rfl; kernel_rfl; exact hS; apply wm_take 6; exact rfl; intro _ hw_; apply opv_ldX; exact rfl; exact Ar.bel (hs.ar 2 rfl) hw_; exact g1_int; exact rfl; exact rfl; kernel_rfl; exact hS; apply wm_take 9; exact rfl; intro _ hw_; apply opv_fa; exact fa_Pk9; exact rfl; exact rfl; kernel_rfl; exact hS
      refine wm_take 10 rfl (fun w' hw => opv_ldG (cs := msV p.msg E ce M cm) rfl (ar_wiP (Ar.bel (hs.ar 2 rfl) hw) 10 (msV p.msg E ce M cm) (fun j u hu => pk_mid hu)) sMs) rfl (by kernel_rfl) hS ?_
      replace hs := hs.below hS
      refine wm_one 7 (by kernel_rfl) rfl ?_; dsimp only [List.getElem_toArray, List.getElem_cons_succ, List.getElem_cons_zero]
      refine wl_bs (vs := iVs [p.fr, p.to, p.shard]) tyIs ⟨rfl, rfl, rfl, rfl, rfl, rfl, rfl, rfl, rfl, trivial⟩ rfl (by decide) rfl fun R7 _ o7 hbx _ => ?_
      replace o7 := o7.rd
      replace hs := hs.below hbx
      replace hS := hS.trans (hbx.mono hS.size)
      clear hbx
      refine wl_nil ?_
      refine we_heldM (fun _ => hS) ?_
      refine wm_one 8 (by kernel_rfl) rfl ?_; dsimp only [List.getElem_toArray, List.getElem_cons_succ, List.getElem_cons_zero]
      refine wl_call ok_session_ints (sints_any (ns := [p.fr, p.to, p.shard]) o7 rfl (by simp)) ⟨rfl, trivial⟩ rfl ?_
      rintro _ _ ⟨X8, x8, rfl, hsx⟩
      replace hs := hs.call hsx
      have hbx := hsx.bel
      replace hS := hS.trans (hbx.mono hS.size)
      clear hbx hsx
      refine wl_nil ?_
      refine we_heldM (fun _ => hS) ?_
      refine wm_one 11 (by kernel_rfl) rfl ?_; dsimp only [List.getElem_toArray, List.getElem_cons_succ, List.getElem_cons_zero]
      refine wl_call ok_session_putMsg (putMsg_any (m := p.msg) (rE.below hs.bel) (rM.below hs.bel) hM hWm hE hlm) ⟨rfl, trivial⟩ rfl ?_
      rintro _ _ ⟨XM, xm, rfl, hsx⟩
      replace hs := hs.call hsx
      have hbx := hsx.bel
      replace hS := hS.trans (hbx.mono hS.size)
      clear hbx hsx
      refine wl_nil ?_
      refine we_heldM (fun _ => hS) ?_
      refine wm_one 12 (by kernel_rfl) rfl ?_; dsimp only [List.getElem_toArray, List.getElem_cons_succ, List.getElem_cons_zero]
      refine wl_bs (vs := [.slice X3 (intsB [p.kind]).length x3, .slice X8 (intsB [p.fr, p.to, p.shard]).length x8, .slice XM (putMsg p.msg).length xm]) tyBB ⟨rfl, rfl, rfl, rfl, rfl, rfl, rfl, rfl, rfl, trivial⟩ rfl (by decide) rfl fun R _ o_ hbx _ => ?_
      replace hs := hs.newO hbx o_ (Nat.le_refl _)
      replace hS := hS.trans (hbx.mono hS.size)
      clear hbx o_
      refine wl_nil ?_
      refine we_heldM (fun _ => hS) ?_
      refine wm_one 13 (by kernel_rfl) rfl ?_; dsimp only [List.getElem_toArray, List.getElem_cons_succ, List.getElem_cons_zero]
      refine wl_as rfl rfl ?_; refine wl_nil ?_
      refine we_heldM (fun h => absurd h (by decide)) ?_
      refine wm_done (by kernel_rfl) ?_
      replace hs := hs.elNil.front 5 rfl
      dsimp only [delC] at hs
      replace hs := hs.bbOwn.front 3 rfl
      dsimp only [delC] at hs
      replace hs := hs.bbOwn.front 2 rfl
      dsimp only [delC] at hs
      replace hs := (hs.bbOwn.drop 2 rfl).drop 2 rfl
      replace hs := hs.front 1 rfl
      try dsimp only [delC, List.nil_append, List.cons_append] at hs
      have b1 := intsB_len [p.fr, p.to, p.shard]
      have b2 := intsB_len [p.kind]
      have b3 : (putMsg p.msg).length ≤ 536870912 := by
        have h1 := msgL_len hWm hE
        have h2 := framed_length (msgL p.msg) (fun x hx => by have := mem_flat hx; omega)
        have h3 : (msgL p.msg).length = 3 + 2 * p.msg.ents.length := by have := msgK_len p.msg p.msg.ents.length (Nat.le_refl _); unfold msgK at this; rw [List.take_length] at this; exact this
        unfold putMsg; omega
      exact we_cut _ ⟨[intsB [p.kind], intsB [p.fr, p.to, p.shard], putMsg p.msg], R, 3, _, by unfold pkL; rw [if_pos k1]; (try rfl), rfl, hs, by simp only [List.flatten_cons, List.flatten_nil, List.append_nil, List.length_append, List.length_cons, List.length_nil] at b1 b2 b3 ⊢; omega, by simp⟩ ⟨rfl, rfl, trivial⟩
    by_cases k2 : p.kind = 2
    · apply wc_decF; exact rfl; (with_reducible assumption); refine wc_sr ?_; refine wl_bin rfl rfl bin_eql rfl ?_; refine wl_as rfl rfl ?_; refine wl_ns ?_; apply wc_decT; exact rfl; (with_reducible assumption)
      refine wc_heldM 15 mixed fun w_ hS => ?_
      apply wm_take 0; exact rfl; intro _ hw_; apply opv_move; exact rfl; exact rfl; kernel_rfl; exact hS; apply wm_take 1; exact rfl; intro _ hw_; apply opv_fa; exact fa_Pk1; exact rfl; exact rfl; kernel_rfl; exact hS; apply wm_take 2; exact rfl; intro _ hw_; apply opv_ldX; exact rfl; exact Ar.bel (hs.ar 2 rfl) hw_; exact g1_int; exact rfl; exact rfl; kernel_rfl; exact hS; apply wm_take 3; exact rfl; intro _ hw_; apply opv_fa; exact fa_Pk2; exact rfl; exact rfl; kernel_rfl; exact hS; apply wm_take 4; exact rfl; intro _ hw_; apply opv_ldX; exact rfl; exact Ar.bel (hs.ar 2 rfl) hw_; exact g1_int; exact rfl; exact rfl; kernel_rfl; exact hS; apply wm_take 5; exact rfl; intro _ hw_; apply opv_fa; exact fa_Pk3; exact rfl; exact rfl; kernel_rfl; exact hS; apply wm_take 6; exact rfl; intro _ hw_; apply opv_ldX; exact rfl; exact Ar.bel (hs.ar 2 rfl) hw_; exact g1_int; exact rfl; exact rfl; kernel_rfl; exact hS; apply wm_take 7; exact rfl; intro _ hw_; apply opv_fa; exact fa_Pk4; exact rfl; exact rfl; kernel_rfl; exact hS; apply wm_take 8; exact rfl; intro _ hw_; apply opv_ldX; exact rfl; exact Ar.bel (hs.ar 2 rfl) hw_; exact g1_int; exact rfl; exact rfl; kernel_rfl; exact hS; apply wm_take 11; exact rfl; intro _ hw_; apply opv_move; exact rfl; exact rfl; kernel_rfl; exact hS; apply wm_take 12; exact rfl; intro _ hw_; apply opv_fa; exact fa_Pk11; exact rfl; exact rfl; kernel_rfl; exact hS; apply wm_take 13; exact rfl; intro _ hw_; apply opv_ldX; exact rfl; exact Ar.bel (hs.ar 2 rfl) hw_; exact g1_by; exact rfl; exact rfl; kernel_rfl; exact hS
      replace hs := hs.below hS
      refine wm_one 9 (by kernel_rfl) rfl ?_; dsimp only [List.getElem_toArray, List.getElem_cons_succ, List.getElem_cons_zero]
      refine wl_bs (vs := iVs [p.fr, p.to, p.shard, p.round]) tyIs ⟨rfl, rfl, rfl, rfl, rfl, rfl, rfl, rfl, rfl, rfl, rfl, rfl, trivial⟩ rfl (by decide) rfl fun R9 _ o9 hbx _ => ?_
      replace o9 := o9.rd
      replace hs := hs.below hbx
      replace hS := hS.trans (hbx.mono hS.size)
      clear hbx
      refine wl_nil ?_
      refine we_heldM (fun _ => hS) ?_
      refine wm_one 10 (by kernel_rfl) rfl ?_; dsimp only [List.getElem_toArray, List.getElem_cons_succ, List.getElem_cons_zero]
      refine wl_call ok_session_ints (sints_any (ns := [p.fr, p.to, p.shard, p.round]) o9 rfl (by simp)) ⟨rfl, trivial⟩ rfl ?_
      rintro _ _ ⟨X10, x10, rfl, hsx⟩
      replace hs := hs.call hsx
      have hbx := hsx.bel
      replace hS := hS.trans (hbx.mono hS.size)
      clear hbx hsx
      refine wl_nil ?_
      refine we_heldM (fun _ => hS) ?_
      refine wm_one 14 (by kernel_rfl) rfl ?_; dsimp only [List.getElem_toArray, List.getElem_cons_succ, List.getElem_cons_zero]
      refine wl_bs (vs := [.slice X3 (intsB [p.kind]).length x3, .slice X10 (intsB [p.fr, p.to, p.shard, p.round]).length x10, .slice X11 (wordsB [p.tx.1, p.tx.2]).length x11, .slice D p.data.length cd]) tyBB ⟨rfl, rfl, rfl, rfl, rfl, rfl, rfl, rfl, rfl, rfl, rfl, rfl, trivial⟩ rfl (by decide) rfl fun R _ o_ hbx _ => ?_
      replace hs := hs.newO hbx o_ (Nat.le_refl _)
      replace hS := hS.trans (hbx.mono hS.size)
      clear hbx o_
      refine wl_nil ?_
      refine we_heldM (fun _ => hS) ?_
      refine wm_one 15 (by kernel_rfl) rfl ?_; dsimp only [List.getElem_toArray, List.getElem_cons_succ, List.getElem_cons_zero]
      refine wl_as rfl rfl ?_; refine wl_nil ?_
      refine we_heldM (fun h => absurd h (by decide)) ?_
      refine wm_done (by kernel_rfl) ?_
      replace hs := hs.elNil.front 4 rfl
      dsimp only [delC] at hs
      replace hs := hs.bbOwn.front 2 rfl
      dsimp only [delC] at hs
      replace hs := hs.bbOwn.front 2 rfl
      dsimp only [delC] at hs
      replace hs := (hs.bbOwn.bbOld rD hD).drop 2 rfl
      replace hs := hs.front 1 rfl
      try dsimp only [delC, List.nil_append, List.cons_append] at hs
      have b1 := intsB_len [p.fr, p.to, p.shard, p.round]
      have b2 := intsB_len [p.kind]
      have b3 := wordsB_len [p.tx.1, p.tx.2] hk
      exact we_cut _ ⟨[intsB [p.kind], intsB [p.fr, p.to, p.shard, p.round], wordsB [p.tx.1, p.tx.2], p.data], R, 4, _, by unfold pkL; rw [if_neg k1, if_pos k2]; (try rfl), rfl, hs, by simp only [List.flatten_cons, List.flatten_nil, List.append_nil, List.length_append, List.length_cons, List.length_nil] at b1 b2 b3 ⊢; omega, by simp⟩ ⟨rfl, rfl, trivial⟩
    by_cases k3 : p.kind = 3
    · apply wc_decF; exact rfl; (with_reducible assumption); refine wc_sr ?_; refine wl_bin rfl rfl bin_eql rfl ?_; refine wl_as rfl rfl ?_; refine wl_ns ?_; apply wc_decF; exact rfl; (with_reducible assumption); refine wc_sr ?_; refine wl_bin rfl rfl bin_eql rfl ?_; refine wl_as rfl rfl ?_; refine wl_ns ?_; apply wc_decT; exact rfl; (with_reducible assumption)
      refine wc_heldM 22 mixed fun w_ hS => ?_
      apply wm_take 0; exact rfl; intro _ hw_; apply opv_move; exact rfl; exact rfl; kernel_rfl; exact hS; apply wm_take 1; exact rfl; intro _ hw_; apply opv_fa; exact fa_Pk1; exact rfl; exact rfl; kernel_rfl; exact hS; apply wm_take 2; exact rfl; intro _ hw_; apply opv_ldX; exact rfl; exact Ar.bel (hs.ar 2 rfl) hw_; exact g1_int; exact rfl; exact rfl; kernel_rfl; exact hS; apply wm_take 3; exact rfl; intro _ hw_; apply opv_fa; exact fa_Pk2; exact rfl; exact rfl; kernel_rfl; exact hS; apply wm_take 4; exact rfl; intro _ hw_; apply opv_ldX; exact rfl; exact Ar.bel (hs.ar 2 rfl) hw_; exact g1_int; exact rfl; exact rfl; kernel_rfl; exact hS; apply wm_take 5; exact rfl; intro _ hw_; apply opv_fa; exact fa_Pk3; exact rfl; exact rfl; kernel_rfl; exact hS; apply wm_take 6; exact rfl; intro _ hw_; apply opv_ldX; exact rfl; exact Ar.bel (hs.ar 2 rfl) hw_; exact g1_int; exact rfl; exact rfl; kernel_rfl; exact hS; apply wm_take 7; exact rfl; intro _ hw_; apply opv_fa; exact fa_Pk4; exact rfl; exact rfl; kernel_rfl; exact hS; apply wm_take 8; exact rfl; intro _ hw_; apply opv_ldX; exact rfl; exact Ar.bel (hs.ar 2 rfl) hw_; exact g1_int; exact rfl; exact rfl; kernel_rfl; exact hS; apply wm_take 9; exact rfl; intro _ hw_; apply opv_fa; exact fa_Pk5; exact rfl; exact rfl; kernel_rfl; exact hS; apply wm_take 10; exact rfl; intro _ hw_; apply opv_ldX; exact rfl; exact Ar.bel (hs.ar 2 rfl) hw_; exact g1_int; exact rfl; exact rfl; kernel_rfl; exact hS; apply wm_take 11; exact rfl; intro _ hw_; apply opv_fa; exact fa_Pk8; exact rfl; exact rfl; kernel_rfl; exact hS; apply wm_take 12; exact rfl; intro _ hw_; apply opv_ldX; exact rfl; exact Ar.bel (hs.ar 2 rfl) hw_; exact g1_err; exact rfl; exact rfl; kernel_rfl; exact hS; apply wm_take 13; exact rfl; intro _ hw_; apply opv_fa; exact fa_Pk6; exact rfl; exact rfl; kernel_rfl; exact hS; apply wm_take 14; exact rfl; intro _ hw_; apply opv_ldX; exact rfl; exact Ar.bel (hs.ar 2 rfl) hw_; exact g1_int; exact rfl; exact rfl; kernel_rfl; exact hS; apply wm_take 17; exact rfl; intro _ hw_; apply opv_move; exact rfl; exact rfl; kernel_rfl; exact hS; apply wm_take 18; exact rfl; intro _ hw_; apply opv_fa; exact fa_Pk10; exact rfl; exact rfl; kernel_rfl; exact hS
      refine wm_take 19 rfl (fun w' hw => opv_ldG (cs := reV p.res P cp W cw Y cy) rfl (ar_wiP (Ar.bel (hs.ar 2 rfl) hw) 20 (reV p.res P cp W cw Y cy) (fun j u hu => pk_mid2 (A := pkA p) (B := msV p.msg E ce M cm) hu)) sRe) rfl (by kernel_rfl) hS ?_
      replace hs := hs.below hS
      refine wm_one 15 (by kernel_rfl) rfl ?_; dsimp only [List.getElem_toArray, List.getElem_cons_succ, List.getElem_cons_zero]
      refine wl_bs (vs := iVs [p.fr, p.to, p.shard, p.round, p.cmd, p.code, p.lead]) tyIs ⟨rfl, rfl, rfl, rfl, rfl, rfl, rfl, rfl, rfl, rfl, rfl, rfl, rfl, rfl, rfl, rfl, rfl, rfl, rfl, rfl, rfl, trivial⟩ rfl (by decide) rfl fun R15 _ o15 hbx _ => ?_
      replace o15 := o15.rd
      replace hs := hs.below hbx
      replace hS := hS.trans (hbx.mono hS.size)
      clear hbx
      refine wl_nil ?_
      refine we_heldM (fun _ => hS) ?_
      refine wm_one 16 (by kernel_rfl) rfl ?_; dsimp only [List.getElem_toArray, List.getElem_cons_succ, List.getElem_cons_zero]
      refine wl_call ok_session_ints (sints_any (ns := [p.fr, p.to, p.shard, p.round, p.cmd, p.code, p.lead]) o15 rfl (by simp)) ⟨rfl, trivial⟩ rfl ?_
      rintro _ _ ⟨X16, x16, rfl, hsx⟩
      replace hs := hs.call hsx
      have hbx := hsx.bel
      replace hS := hS.trans (hbx.mono hS.size)
      clear hbx hsx
      refine wl_nil ?_
      refine we_heldM (fun _ => hS) ?_
      refine wm_one 20 (by kernel_rfl) rfl ?_; dsimp only [List.getElem_toArray, List.getElem_cons_succ, List.getElem_cons_zero]
      refine wl_call ok_session_putResult (putRes_any (r := p.res) (rP.below hs.bel) (rW.below hs.bel) (rY.below hs.bel) hY hWr hlr) ⟨rfl, trivial⟩ rfl ?_
      rintro _ _ ⟨XM, xm, rfl, hsx⟩
      replace hs := hs.call hsx
      have hbx := hsx.bel
      replace hS := hS.trans (hbx.mono hS.size)
      clear hbx hsx
      refine wl_nil ?_
      refine we_heldM (fun _ => hS) ?_
      refine wm_one 21 (by kernel_rfl) rfl ?_; dsimp only [List.getElem_toArray, List.getElem_cons_succ, List.getElem_cons_zero]
      refine wl_bs (vs := [.slice X3 (intsB [p.kind]).length x3, .slice X16 (intsB [p.fr, p.to, p.shard, p.round, p.cmd, p.code, p.lead]).length x16, .slice X11 (wordsB [p.tx.1, p.tx.2]).length x11, .slice XM (putRes p.res).length xm]) tyBB ⟨rfl, rfl, rfl, rfl, rfl, rfl, rfl, rfl, rfl, rfl, rfl, rfl, trivial⟩ rfl (by decide) rfl fun R _ o_ hbx _ => ?_
      replace hs := hs.newO hbx o_ (Nat.le_refl _)
      replace hS := hS.trans (hbx.mono hS.size)
      clear hbx o_
      refine wl_nil ?_
      refine we_heldM (fun _ => hS) ?_
      refine wm_one 22 (by kernel_rfl) rfl ?_; dsimp only [List.getElem_toArray, List.getElem_cons_succ, List.getElem_cons_zero]
      refine wl_as rfl rfl ?_; refine wl_nil ?_
      refine we_heldM (fun h => absurd h (by decide)) ?_
      refine wm_done (by kernel_rfl) ?_
      replace hs := hs.elNil.front 5 rfl
      dsimp only [delC] at hs
      replace hs := hs.bbOwn.front 3 rfl
      dsimp only [delC] at hs
      replace hs := hs.bbOwn.front 3 rfl
      dsimp only [delC] at hs
      replace hs := hs.bbOwn.front 2 rfl
      dsimp only [delC] at hs
      replace hs := hs.bbOwn.drop 2 rfl
      replace hs := hs.front 1 rfl
      try dsimp only [delC, List.nil_append, List.cons_append] at hs
      have b1 := intsB_len [p.fr, p.to, p.shard, p.round, p.cmd, p.code, p.lead]
      have b2 := intsB_len [p.kind]
      have b4 := wordsB_len [p.tx.1, p.tx.2] hk
      have b3 : (putRes p.res).length ≤ 536870912 := by
        have h1 := resL_len (r := p.res) (by omega) hWr
        have h2 := framed_length (resL p.res) (fun x hx => by have := mem_flat hx; omega)
        have h3 : (resL p.res).length = 5 := rfl
        unfold putRes; omega
      exact we_cut _ ⟨[intsB [p.kind], intsB [p.fr, p.to, p.shard, p.round, p.cmd, p.code, p.lead], wordsB [p.tx.1, p.tx.2], putRes p.res], R, 4, _, by unfold pkL; rw [if_neg k1, if_neg k2, if_pos k3]; (try rfl), rfl, hs, by simp only [List.flatten_cons, List.flatten_nil, List.append_nil, List.length_append, List.length_cons, List.length_nil] at b1 b2 b3 b4 ⊢; omega, by simp⟩ ⟨rfl, rfl, trivial⟩
    by_cases k4 : p.kind = 4
    · apply wc_decF; exact rfl; (with_reducible assumption); refine wc_sr ?_; refine wl_bin rfl rfl bin_eql rfl ?_; refine wl_as rfl rfl ?_; refine wl_ns ?_; apply wc_decF; exact rfl; (with_reducible assumption); refine wc_sr ?_; refine wl_bin rfl rfl bin_eql rfl ?_; refine wl_as rfl rfl ?_; refine wl_ns ?_; apply wc_decF; exact rfl; (with_reducible assumption); refine wc_sr ?_; refine wl_bin rfl rfl bin_eql rfl ?_; refine wl_as rfl rfl ?_; refine wl_ns ?_; apply wc_decT; exact rfl; (with_reducible assumption)
      refine wc_heldM 9 mixed fun w_ hS => ?_
      apply wm_take 0; exact rfl; intro _ hw_; apply opv_move; exact rfl; exact rfl; kernel_rfl; exact hS; apply wm_take 1; exact rfl; intro _ hw_; apply opv_fa; exact fa_Pk2; exact rfl; exact rfl; kernel_rfl; exact hS; apply wm_take 2; exact rfl; intro _ hw_; apply opv_ldX; exact rfl; exact Ar.bel (hs.ar 2 rfl) hw_; exact g1_int; exact rfl; exact rfl; kernel_rfl; exact hS; apply wm_take 5; exact rfl; intro _ hw_; apply opv_move; exact rfl; exact rfl; kernel_rfl; exact hS; apply wm_take 6; exact rfl; intro _ hw_; apply opv_fa; exact fa_Pk11; exact rfl; exact rfl; kernel_rfl; exact hS; apply wm_take 7; exact rfl; intro _ hw_; apply opv_ldX; exact rfl; exact Ar.bel (hs.ar 2 rfl) hw_; exact g1_by; exact rfl; exact rfl; kernel_rfl; exact hS
      replace hs := hs.below hS
      refine wm_one 3 (by kernel_rfl) rfl ?_; dsimp only [List.getElem_toArray, List.getElem_cons_succ, List.getElem_cons_zero]
      refine wl_bs (vs := iVs [p.to]) tyIs ⟨rfl, rfl, rfl, trivial⟩ rfl (by decide) rfl fun R3 _ o3 hbx _ => ?_
      replace o3 := o3.rd
      replace hs := hs.below hbx
      replace hS := hS.trans (hbx.mono hS.size)
      clear hbx
      refine wl_nil ?_
      refine we_heldM (fun _ => hS) ?_
      refine wm_one 4 (by kernel_rfl) rfl ?_; dsimp only [List.getElem_toArray, List.getElem_cons_succ, List.getElem_cons_zero]
      refine wl_call ok_session_ints (sints_any (ns := [p.to]) o3 rfl (by simp)) ⟨rfl, trivial⟩ rfl ?_
      rintro _ _ ⟨X4, x4, rfl, hsx⟩
      replace hs := hs.call hsx
      have hbx := hsx.bel
      replace hS := hS.trans (hbx.mono hS.size)
      clear hbx hsx
      refine wl_nil ?_
      refine we_heldM (fun _ => hS) ?_
      refine wm_one 8 (by kernel_rfl) rfl ?_; dsimp only [List.getElem_toArray, List.getElem_cons_succ, List.getElem_cons_zero]
      refine wl_bs (vs := [.slice X3 (intsB [p.kind]).length x3, .slice X4 (intsB [p.to]).length x4, .slice X11 (wordsB [p.tx.1, p.tx.2]).length x11, .slice D p.data.length cd]) tyBB ⟨rfl, rfl, rfl, rfl, rfl, rfl, rfl, rfl, rfl, rfl, rfl, rfl, trivial⟩ rfl (by decide) rfl fun R _ o_ hbx _ => ?_
      replace hs := hs.newO hbx o_ (Nat.le_refl _)
      replace hS := hS.trans (hbx.mono hS.size)
      clear hbx o_
      refine wl_nil ?_
      refine we_heldM (fun _ => hS) ?_
      refine wm_one 9 (by kernel_rfl) rfl ?_; dsimp only [List.getElem_toArray, List.getElem_cons_succ, List.getElem_cons_zero]
      refine wl_as rfl rfl ?_; refine wl_nil ?_
      refine we_heldM (fun h => absurd h (by decide)) ?_
      refine wm_done (by kernel_rfl) ?_
      replace hs := hs.elNil.front 4 rfl
      dsimp only [delC] at hs
      replace hs := hs.bbOwn.front 2 rfl
      dsimp only [delC] at hs
      replace hs := hs.bbOwn.front 2 rfl
      dsimp only [delC] at hs
      replace hs := (hs.bbOwn.bbOld rD hD).drop 2 rfl
      replace hs := hs.front 1 rfl
      try dsimp only [delC, List.nil_append, List.cons_append] at hs
      have b1 := intsB_len [p.to]
      have b2 := intsB_len [p.kind]
      have b3 := wordsB_len [p.tx.1, p.tx.2] hk
      exact we_cut _ ⟨[intsB [p.kind], intsB [p.to], wordsB [p.tx.1, p.tx.2], p.data], R, 4, _, by unfold pkL; rw [if_neg k1, if_neg k2, if_neg k3, if_pos k4]; (try rfl), rfl, hs, by simp only [List.flatten_cons, List.flatten_nil, List.append_nil, List.length_append, List.length_cons, List.length_nil] at b1 b2 b3 ⊢; omega, by simp⟩ ⟨rfl, rfl, trivial⟩
    by_cases k5 : p.kind = 5
    · apply wc_decF; exact rfl; (with_reducible assumption); refine wc_sr ?_; refine wl_bin rfl rfl bin_eql rfl ?_; refine wl_as rfl rfl ?_; refine wl_ns ?_; apply wc_decF; exact rfl; (with_reducible assumption); refine wc_sr ?_; refine wl_bin rfl rfl bin_eql rfl ?_; refine wl_as rfl rfl ?_; refine wl_ns ?_; apply wc_decF; exact rfl; (with_reducible assumption); refine wc_sr ?_; refine wl_bin rfl rfl bin_eql rfl ?_; refine wl_as rfl rfl ?_; refine wl_ns ?_; apply wc_decF; exact rfl; (with_reducible assumption); refine wc_sr ?_; refine wl_bin rfl rfl bin_eql rfl ?_; refine wl_as rfl rfl ?_; refine wl_ns ?_; apply wc_decT; exact rfl; (with_reducible assumption)
      refine wc_heldM 11 mixed fun w_ hS => ?_
      apply wm_take 0; exact rfl; intro _ hw_; apply opv_move; exact rfl; exact rfl; kernel_rfl; exact hS; apply wm_take 1; exact rfl; intro _ hw_; apply opv_fa; exact fa_Pk1; exact rfl; exact rfl; kernel_rfl; exact hS; apply wm_take 2; exact rfl; intro _ hw_; apply opv_ldX; exact rfl; exact Ar.bel (hs.ar 2 rfl) hw_; exact g1_int; exact rfl; exact rfl; kernel_rfl; exact hS; apply wm_take 3; exact rfl; intro _ hw_; apply opv_fa; exact fa_Pk8; exact rfl; exact rfl; kernel_rfl; exact hS; apply wm_take 4; exact rfl; intro _ hw_; apply opv_ldX; exact rfl; exact Ar.bel (hs.ar 2 rfl) hw_; exact g1_err; exact rfl; exact rfl; kernel_rfl; exact hS; apply wm_take 7; exact rfl; intro _ hw_; apply opv_move; exact rfl; exact rfl; kernel_rfl; exact hS; apply wm_take 8; exact rfl; intro _ hw_; apply opv_fa; exact fa_Pk11; exact rfl; exact rfl; kernel_rfl; exact hS; apply wm_take 9; exact rfl; intro _ hw_; apply opv_ldX; exact rfl; exact Ar.bel (hs.ar 2 rfl) hw_; exact g1_by; exact rfl; exact rfl; kernel_rfl; exact hS
      replace hs := hs.below hS
      refine wm_one 5 (by kernel_rfl) rfl ?_; dsimp only [List.getElem_toArray, List.getElem_cons_succ, List.getElem_cons_zero]
      refine wl_bs (vs := iVs [p.fr, p.code]) tyIs ⟨rfl, rfl, rfl, rfl, rfl, rfl, trivial⟩ rfl (by decide) rfl fun R5 _ o5 hbx _ => ?_
      replace o5 := o5.rd
      replace hs := hs.below hbx
      replace hS := hS.trans (hbx.mono hS.size)
      clear hbx
      refine wl_nil ?_
      refine we_heldM (fun _ => hS) ?_
      refine wm_one 6 (by kernel_rfl) rfl ?_; dsimp only [List.getElem_toArray, List.getElem_cons_succ, List.getElem_cons_zero]
      refine wl_call ok_session_ints (sints_any (ns := [p.fr, p.code]) o5 rfl (by simp)) ⟨rfl, trivial⟩ rfl ?_
      rintro _ _ ⟨X6, x6, rfl, hsx⟩
      replace hs := hs.call hsx
      have hbx := hsx.bel
      replace hS := hS.trans (hbx.mono hS.size)
      clear hbx hsx
      refine wl_nil ?_
      refine we_heldM (fun _ => hS) ?_
      refine wm_one 10 (by kernel_rfl) rfl ?_; dsimp only [List.getElem_toArray, List.getElem_cons_succ, List.getElem_cons_zero]
      refine wl_bs (vs := [.slice X3 (intsB [p.kind]).length x3, .slice X6 (intsB [p.fr, p.code]).length x6, .slice X11 (wordsB [p.tx.1, p.tx.2]).length x11, .slice D p.data.length cd]) tyBB ⟨rfl, rfl, rfl, rfl, rfl, rfl, rfl, rfl, rfl, rfl, rfl, rfl, trivial⟩ rfl (by decide) rfl fun R _ o_ hbx _ => ?_
      replace hs := hs.newO hbx o_ (Nat.le_refl _)
      replace hS := hS.trans (hbx.mono hS.size)
      clear hbx o_
      refine wl_nil ?_
      refine we_heldM (fun _ => hS) ?_
      refine wm_one 11 (by kernel_rfl) rfl ?_; dsimp only [List.getElem_toArray, List.getElem_cons_succ, List.getElem_cons_zero]
      refine wl_as rfl rfl ?_; refine wl_nil ?_
      refine we_heldM (fun h => absurd h (by decide)) ?_
      refine wm_done (by kernel_rfl) ?_
      replace hs := hs.elNil.front 4 rfl
      dsimp only [delC] at hs
      replace hs := hs.bbOwn.front 2 rfl
      dsimp only [delC] at hs
      replace hs := hs.bbOwn.front 2 rfl
      dsimp only [delC] at hs
      replace hs := (hs.bbOwn.bbOld rD hD).drop 2 rfl
      replace hs := hs.front 1 rfl
      try dsimp only [delC, List.nil_append, List.cons_append] at hs
      have b1 := intsB_len [p.fr, p.code]
      have b2 := intsB_len [p.kind]
      have b3 := wordsB_len [p.tx.1, p.tx.2] hk
      exact we_cut _ ⟨[intsB [p.kind], intsB [p.fr, p.code], wordsB [p.tx.1, p.tx.2], p.data], R, 4, _, by unfold pkL; rw [if_neg k1, if_neg k2, if_neg k3, if_neg k4, if_pos k5]; (try rfl), rfl, hs, by simp only [List.flatten_cons, List.flatten_nil, List.append_nil, List.length_append, List.length_cons, List.length_nil] at b1 b2 b3 ⊢; omega, by simp⟩ ⟨rfl, rfl, trivial⟩
    have hpn : pkB p = ([], 3) := by unfold pkB pkL; rw [if_neg k1, if_neg k2, if_neg k3, if_neg k4, if_neg k5]
    rw [hpn]
    apply wc_decF; exact rfl; (with_reducible assumption); refine wc_sr ?_; refine wl_bin rfl rfl bin_eql rfl ?_; refine wl_as rfl rfl ?_; refine wl_ns ?_; apply wc_decF; exact rfl; (with_reducible assumption); refine wc_sr ?_; refine wl_bin rfl rfl bin_eql rfl ?_; refine wl_as rfl rfl ?_; refine wl_ns ?_; apply wc_decF; exact rfl; (with_reducible assumption); refine wc_sr ?_; refine wl_bin rfl rfl bin_eql rfl ?_; refine wl_as rfl rfl ?_; refine wl_ns ?_; apply wc_decF; exact rfl; (with_reducible assumption); refine wc_sr ?_; refine wl_bin rfl rfl bin_eql rfl ?_; refine wl_as rfl rfl ?_; refine wl_ns ?_; apply wc_decF; exact rfl; (with_reducible assumption); refine wc_sr ?_; refine wl_as rfl rfl ?_; refine wl_as rfl rfl ?_; refine wl_ns ?_; refine wc_ret ?_; refine we_block_ret ?_; refine we_cut_ret ?_; refine we_seq_ret ?_
    exact we_ret2 rfl rfl rfl ⟨_, rfl, none, 0, rfl, .inl ⟨rfl, rfl, rfl⟩, hs.bel⟩
  rintro _ w3 ⟨l, R, c, vs, hpl, rfl, hs, hl1, hl2⟩
  have hpb : pkB p = sealB (framed l) := by unfold pkB; rw [hpl]
  rw [hpb]
  have hfl := framed_length l (fun x hx => by have := mem_flat hx; omega)
  refine we_seq ?_; refine wc_sr ?_; refine wl_mv rfl rfl ?_
  refine wl_call ok_codec_Frame (frame_any (hs.bb 0 1 rfl rfl) rfl (by omega)) ⟨rfl, trivial⟩ rfl ?_
  rintro _ _ ⟨B, cB, rfl, o_, hbx⟩
  replace hs := hs.newO hbx o_ (Nat.le_refl _)
  have hcB := OwB.cap o_
  clear hbx o_
  skip
  refine wl_bs (vs := [.slice B (framed l).length cB]) tyBB ⟨rfl, rfl, rfl, trivial⟩ rfl (by decide) rfl fun R2 _ o2 hbx _ => ?_
  replace hs := hs.below hbx
  clear hbx
  skip
  refine wl_call ok_crc_Seal (seal_any (RdBB.one (r := framed l) o2.rd (hs.ow 0 rfl).rd hcB) rfl (Nat.le_refl 1) (by simp; omega) (by simp [hmax])) ⟨rfl, trivial⟩ rfl ?_
  rintro _ _ ⟨Z, z, rfl, hnw, hbx⟩
  rw [show ([framed l] : List By).flatten = framed l by simp] at hnw ⊢
  have hbb := hs.bel
  replace hnw := NwB.mono hnw hbb.size
  apply wl_val; apply opv_extract; exact rfl; exact rfl; exact rfl; apply wl_val; apply opv_extract; exact rfl; exact rfl; exact rfl; refine wl_as rfl rfl ?_; refine wl_as rfl rfl ?_; refine wl_ns ?_; refine wc_ret ?_
  exact we_ret2 rfl rfl rfl ⟨_, rfl, Z, z, rfl, hnw, hbb.trans (hbx.mono hbb.size)⟩
end Go.Proofs.Ytaacnknniaipmaa

/-
  What is known of memory that stays as it is, as a piece; the parts of a frame as a reader holds them; walks over open, next, more and truth of the reader.
-/
namespace Go.Proofs.Ytaacnknniaipmaa
open Go.RowKit

/-- A fact that the piece's own blocks support. -/
def kp (K : World → Prop) : Ck := ⟨fun w S => K w ∧ ∀ w', w.heap.size ≤ w'.heap.size → (∀ b, b < w.heap.size → S b → w'.heap[b]? = w.heap[b]?) → K w',
  fun {w w' S S'} ⟨h1, h2⟩ hz hm => ⟨h2 w' hz fun b hb hs => (hm b hb hs).2, fun w'' hz2 hm2 => h2 w'' (Nat.le_trans hz hz2) fun b hb hs => (hm2 b (Nat.lt_of_lt_of_le hb hz) (hm b hb hs).1).trans (hm b hb hs).2⟩⟩
section
variable {M : BS} {w0 w w' : World} {H H1 : List Cd} {K K' : World → Prop}
theorem Sat.kp {S : BS} {i : Nat} (h : Sat w H S) (hi : nthC H i = some (.ck (kp K))) : K w := by
  obtain ⟨T, _, hc, _⟩ := h.front hi
  exact hc.1
theorem St.kp (h : St M w0 w H) (i : Nat) (hi : nthC H i = some (.ck (kp K))) : K w := Sat.kp h.2 hi
theorem St.kpOf (h : St M w0 w (H1 ++ H)) (hK : ∀ w S, Sat w H1 S → K w) : St M w0 w (.ck (Go.Proofs.Ytaacnknniaipmaa.kp K) :: H) :=
  h.pack (.ck (Go.Proofs.Ytaacnknniaipmaa.kp K)) fun w S hs => ⟨hK w S hs, fun w' hz hm => hK w' S (hs.move hz fun b hb k => ⟨k, hm b hb k⟩)⟩
theorem St.kpMono (h : St M w0 w (.ck (Go.Proofs.Ytaacnknniaipmaa.kp K) :: H)) (hK : ∀ w, K w → K' w) : St M w0 w (.ck (Go.Proofs.Ytaacnknniaipmaa.kp K') :: H) :=
  St.kpOf (H1 := [_]) h fun w S hs => hK w (Sat.kp (i := 0) hs rfl)
theorem St.kpAnd (h : St M w0 w (.ck (Go.Proofs.Ytaacnknniaipmaa.kp K) :: .ck (Go.Proofs.Ytaacnknniaipmaa.kp K') :: H)) : St M w0 w (.ck (Go.Proofs.Ytaacnknniaipmaa.kp fun w => K w ∧ K' w) :: H) :=
  St.kpOf (H1 := [_, _]) h fun w S hs => ⟨Sat.kp (i := 0) hs rfl, Sat.kp (i := 1) hs rfl⟩
theorem St.kpNil (h : St M w0 w H) (hK : ∀ w, K w) : St M w0 w (.ck (Go.Proofs.Ytaacnknniaipmaa.kp K) :: H) := St.kpOf (H1 := []) h fun w _ _ => hK w
theorem St.kpNew (h : St M w0 w H) (hb : Below w.heap.size w w') (h1 : K w') (h2 : ∀ w'', w'.heap.size ≤ w''.heap.size → (∀ b, w.heap.size ≤ b → b < w'.heap.size → w''.heap[b]? = w'.heap[b]?) → K w'') : St M w0 w' (.ck (Go.Proofs.Ytaacnknniaipmaa.kp K) :: H) :=
  h.new (T := fun b => w.heap.size ≤ b) (c := .ck (Go.Proofs.Ytaacnknniaipmaa.kp K)) hb ⟨h1, fun w'' hz hm => h2 w'' hz fun b hl hb => hm b hb hl⟩ fun _ _ k => k
end
/-- The row reads as these byte lists, each of which lies at the head of a block of its own, from block base on. -/
def RdW (w : World) (base : Nat) (A : Option Addr) (vs : List Value) (rows : List By) : Prop :=
  Rd w A rows.length vs ∧ (∀ a, A = some a → 0 < rows.length → base ≤ a.block ∧ a.block < w.heap.size) ∧ ∀ (i : Nat) (r : By), rows[i]? = some r → ∃ (A' : Option Addr) (c' : Nat), vs[i]? = some (Value.slice A' r.length c') ∧ OwB w base A' c' r
section
variable {w w' : World} {base c : Nat} {A : Option Addr} {vs : List Value} {rows : List By} {r : By}
theorem Ow.capL {e : TypeId} {n : Nat} {xs : List Value} (h : Ow w base e A n c xs) : n ≤ c := by
  rcases h.2 with ⟨hv, hn⟩ | ⟨g, cap, cur, hv, _, _, hn, _⟩
  · omega
  · injection hv with _ _ hc
    omega
theorem OwB.keep (h : OwB w base A c r) (hm : ∀ b, base ≤ b → b < w.heap.size → w'.heap[b]? = w.heap[b]?) : OwB w' base A c r := Ow.moveS h fun a ha => hm _ (Ow.lt h a ha).1 (Ow.lt h a ha).2
theorem RdW.keep (h : RdW w base A vs rows) (hz : w.heap.size ≤ w'.heap.size) (hm : ∀ b, base ≤ b → b < w.heap.size → w'.heap[b]? = w.heap[b]?) : RdW w' base A vs rows := by
  obtain ⟨h1, h2, h3⟩ := h
  refine ⟨⟨h1.1, fun hn => ?_⟩, fun a ha hn => ⟨(h2 a ha hn).1, Nat.lt_of_lt_of_le (h2 a ha hn).2 hz⟩, fun i r hi => ?_⟩
  · obtain ⟨b, o, hA, hb, hc⟩ := h1.2 hn
    exact ⟨b, o, hA, by omega, fun j u hu => (World.cell?_of_block (a := ⟨b, o + j, none⟩) (hm b (h2 _ hA hn).1 hb)).trans (hc j u hu)⟩
  · obtain ⟨A', c', k1, k2⟩ := h3 i r hi
    exact ⟨A', c', k1, k2.keep hm⟩
theorem RdW.of (h : OwBB w base A c rows) : ∃ vs, RdW w base A vs rows := by
  obtain ⟨vs, ho, hr, _⟩ := h
  exact ⟨vs, ho.rd, fun a ha _ => Ow.lt ho a ha, fun i r hi => by obtain ⟨A', c', h1, h2, _⟩ := hr i r hi; exact ⟨A', c', h1, h2⟩⟩
theorem RdW.nil (w : World) (base : Nat) (A : Option Addr) : RdW w base A [] [] := ⟨Rd.nil _ _, fun _ _ h => absurd h (by simp), fun i r h => by simp at h⟩
theorem RdW.head (h : RdW w base A vs (r :: rows)) : ∃ (B : Option Addr) (cb : Nat), vs[0]? = some (.slice B r.length cb) := by
  obtain ⟨B, cb, k1, k2⟩ := h.2.2 0 r rfl
  exact ⟨B, cb, k1⟩
theorem RdW.own (h : RdW w base A vs (r :: rows)) {B : Option Addr} {n cb : Nat} (hv : vs[0]? = some (.slice B n cb)) : OwB w base B cb r := by
  obtain ⟨B', cb', k1, k2⟩ := h.2.2 0 r rfl
  rw [hv] at k1
  cases k1
  exact k2
theorem RdW.tail (h : RdW w base A vs (r :: rows)) (hc : rows.length + 1 ≤ c) : RdW w base (cutA A c 1) (vs.drop 1) rows := by
  obtain ⟨h1, h2, h3⟩ := h
  have h4 := Rd.cut (l := 1) (h := rows.length + 1) (c := c) h1 (by omega) (Nat.le_refl _) hc
  rw [List.take_of_length_le (by have := h1.1; simp at this; omega), Nat.add_sub_cancel] at h4
  refine ⟨h4, fun a ha hn => ?_, fun i x hi => ?_⟩
  · obtain ⟨b, o, rfl, _, _⟩ := h1.2 (by simp)
    have hne : ¬ c = 1 := by omega
    simp [cutA, hne] at ha
    have h5 := h2 _ rfl (by simp)
    rw [← ha]
    exact h5
  · obtain ⟨B, cb, k1, k2⟩ := h3 (i + 1) x (by simpa using hi)
    exact ⟨B, cb, by rw [List.getElem?_drop, Nat.add_comm]; exact k1, k2⟩
theorem RdW.low (h : RdW w base A vs rows) {base' : Nat} (hb : base' ≤ base) : RdW w base' A vs rows := ⟨h.1, fun a ha hn => ⟨Nat.le_trans hb (h.2.1 a ha hn).1, (h.2.1 a ha hn).2⟩, fun i r hi => by obtain ⟨B, cb, k1, k2⟩ := h.2.2 i r hi; exact ⟨B, cb, k1, Ow.mono k2 hb⟩⟩
end
/-- What is known of the parts that a reader holds, in all worlds of a class. -/
def RdK (K : World → Prop) (base : Nat) (A : Option Addr) (c : Nat) (rows : List By) : Prop := rows.length ≤ c ∧ ∃ vs, ∀ w, K w → RdW w base A vs rows
theorem g1_bbs : Cell1 Try.prog 95 := ⟨by kernel_rfl, by rw [Try.underlying95]⟩
theorem fa_Rd0 : FieldAt Try.prog 142 0 0 := fieldAt_mk Try.underlying142 rfl rfl (by kernel_rfl)
theorem fa_Rd1 : FieldAt Try.prog 142 1 1 := fieldAt_mk Try.underlying142 rfl rfl (by kernel_rfl)
/-- What a reader holds. -/
def rdV (A : Option Addr) (c : Nat) (r : Rd1) : List Value := [.slice A r.1.length c, .int .i64 (r.2 : Int)]
def rdP (g : Nat) (A : Option Addr) (c : Nat) (r : Rd1) : Cd := .blk g 142 (rdV A c r)
theorem sopen_any {A : Option Addr} {n c : Nat} {xs : By} {w : World} (hr : RdB w A xs) (hn : xs.length = n) (hc : xs.length ≤ c) (hl : xs.length ≤ 1099511627776) :
    CallsV Try.prog 51 #[.slice A n c] w fun v w' => ∃ (g : Nat) (B : Option Addr) (cb : Nat) (K : World → Prop), v = .pointer (some ⟨g, 0, none⟩) ∧ RdK K w.heap.size B cb (parts xs).1 ∧ St NoB w w' [rdP g B cb (parts xs), .ck (kp K)] := by
  subst hn
  have hs := St.init w
  refine calls_in (N := _) Try.func51 rfl Try.ntmps51 rfl ?_; show WC _ _ _ _ _ _
  refine wc_sr ?_; refine wl_as rfl rfl ?_; refine wl_ns ?_; refine wc_sr ?_; refine wl_mv rfl rfl ?_
  refine wl_call ok_codec_Parts (parts_any hr rfl hc hl) ⟨rfl, trivial⟩ rfl ?_
  rintro _ w1 ⟨B, cb, rfl, o_, hbx⟩
  obtain ⟨vs, hvs⟩ := RdW.of o_
  replace hs := hs.kpNew (K := fun w' => RdW w' w.heap.size B vs (parts xs).1) hbx hvs fun w'' hz hm => hvs.keep hz hm
  have hcb : (parts xs).1.length ≤ cb := by obtain ⟨vs2, o2, _⟩ := o_; exact Ow.capL o2
  clear hbx o_
  refine wl_mv rfl rfl ?_; apply wl_val; apply opv_extract; exact rfl; exact rfl; exact rfl; apply wl_val; apply opv_extract; exact rfl; exact rfl; exact rfl; refine wl_as rfl rfl ?_; refine wl_as rfl rfl ?_; refine wl_ns ?_; refine wc_sr ?_; refine wl_mv rfl rfl ?_; refine wl_mv rfl rfl ?_
  refine wl_val (opv_build (vs := [(0, .slice B (parts xs).1.length cb), (1, .int .i64 ((parts xs).2 : Int))]) (cs := rdV B cb (parts xs)) ⟨rfl, rfl, rfl, rfl, trivial⟩ (by kernel_rfl)) rfl ?_
  refine ws_box (cs := rdV B cb (parts xs)) hs rfl rfl ?_; clear hs; intro g1 _ hs
  refine wl_as rfl rfl ?_; refine wl_ns ?_; refine wc_ret ?_
  exact we_ret1 rfl rfl ⟨_, rfl, g1, B, cb, _, rfl, ⟨hcb, vs, fun _ h => h⟩, hs⟩
/-- The next part. -/
theorem snext_any {g base : Nat} {A : Option Addr} {c : Nat} {r : Rd1} {S : BS} {w : World} {K : World → Prop} (h0 : Sat w [rdP g A c r] S) (hK : ∀ w', Mod S w w' → K w') (hr : RdK K base A c r.1) :
    CallsV Try.prog 79 #[.pointer (some ⟨g, 0, none⟩)] w fun v w' => ∃ (B : Option Addr) (cb : Nat) (A' : Option Addr) (c' : Nat), v = .slice B (nextR r).1.length cb ∧ (∀ w', K w' → OwB w' base B cb (nextR r).1) ∧ RdK K base A' c' (nextR r).2.1 ∧ St S w w' [rdP g A' c' (nextR r).2] := by
  have hs := St.start h0
  clear h0
  obtain ⟨rows, e⟩ := r
  obtain ⟨hc, vs, hv⟩ := hr
  unfold rdP rdV at hs
  dsimp only at hs hc hv
  unfold rdP rdV nextR
  dsimp only
  have ew : ∀ w', K w' → OwB w' base none 0 [] := fun w' _ => Ow.nil _ _ _
  refine calls_in (N := _) Try.func79 rfl Try.ntmps79 rfl ?_; show WC _ _ _ _ _ _
  refine wc_sr ?_; refine wl_as rfl rfl ?_; refine wl_ns ?_; refine wc_seq ?_; refine wc_sr ?_; refine wl_mv rfl rfl ?_; apply wl_val; apply opv_nilOk; exact rfl; exact rfl; apply wl_val; apply opv_fa; exact fa_Rd1; exact rfl; exact rfl; apply wl_val; apply opv_ldX; exact rfl; exact hs.ar 0 rfl; exact g1_err; exact rfl; exact rfl; refine wl_bin rfl rfl bin_eql rfl ?_; refine wl_mv rfl rfl ?_
  by_cases he : e = 0
  · subst he
    cases rows with
    | nil =>
      apply wl_take; exact rfl; exact rfl; exact rfl; refine bT ?_; omega; refine wl_mv rfl rfl ?_; apply wl_take; exact rfl; exact rfl; exact rfl; refine bT ?_; omega; apply wl_val; apply opv_nilOk; exact rfl; exact rfl; apply wl_take; exact rfl; exact rfl; exact rfl; refine bT ?_; omega; apply wl_val; apply opv_fa; exact fa_Rd0; exact rfl; exact rfl; apply wl_take; exact rfl; exact rfl; exact rfl; refine bT ?_; omega; apply wl_val; apply opv_ldX; exact rfl; exact hs.ar 0 rfl; exact g1_bbs; exact rfl; exact rfl; apply wl_take; exact rfl; exact rfl; exact rfl; refine bT ?_; omega; apply wl_val; apply opv_len; exact rfl; exact tyBB.sl; exact rfl; apply wl_take; exact rfl; exact rfl; exact rfl; refine bT ?_; omega; refine wl_bin rfl rfl bin_eql rfl ?_; apply wl_val; apply opv_pickT; exact rfl; refine bT ?_; omega; exact rfl; exact rfl; refine wl_ns ?_; apply wc_condTb; exact rfl; exact rfl; refine wc_region ?_; refine wl_mv rfl rfl ?_; apply wl_val; apply opv_nilOk; exact rfl; exact rfl; apply wl_val; apply opv_fa; exact fa_Rd1; exact rfl; exact rfl; apply ws_st hs 0; exact rfl; exact rfl; exact g1_err; exact rfl; exact rfl; exact rfl; clear hs; intro _ hs; dsimp only [setC, List.set] at hs; refine wl_ns ?_; refine wc_seq ?_; refine wc_sr ?_; refine wl_mv rfl rfl ?_; apply wl_val; apply opv_nilOk; exact rfl; exact rfl; apply wl_val; apply opv_fa; exact fa_Rd1; exact rfl; exact rfl; apply wl_val; apply opv_ldX; exact rfl; exact hs.ar 0 rfl; exact g1_err; exact rfl; exact rfl; refine wl_bin rfl rfl bin_neq rfl ?_; refine wl_ns ?_; apply wc_condTb; exact rfl; exact rfl; refine wc_sr ?_; refine wl_as rfl rfl ?_; refine wl_ns ?_; refine wc_ret ?_; refine we_seq_ret ?_
      exact we_ret1 rfl rfl ⟨_, rfl, none, 0, A, c, rfl, ew, ⟨hc, vs, hv⟩, hs⟩
    | cons p ps =>
      rw [if_pos rfl]
      have hw := hv _ (hK _ hs.1)
      obtain ⟨B, cb, h1⟩ := hw.head
      have hrow := hw.1
      apply wl_take; exact rfl; exact rfl; exact rfl; refine bT ?_; omega; refine wl_mv rfl rfl ?_; apply wl_take; exact rfl; exact rfl; exact rfl; refine bT ?_; omega; apply wl_val; apply opv_nilOk; exact rfl; exact rfl; apply wl_take; exact rfl; exact rfl; exact rfl; refine bT ?_; omega; apply wl_val; apply opv_fa; exact fa_Rd0; exact rfl; exact rfl; apply wl_take; exact rfl; exact rfl; exact rfl; refine bT ?_; omega; apply wl_val; apply opv_ldX; exact rfl; exact hs.ar 0 rfl; exact g1_bbs; exact rfl; exact rfl; apply wl_take; exact rfl; exact rfl; exact rfl; refine bT ?_; omega; apply wl_val; apply opv_len; exact rfl; exact tyBB.sl; exact rfl; apply wl_take; exact rfl; exact rfl; exact rfl; refine bT ?_; omega; refine wl_bin rfl rfl bin_eql rfl ?_; apply wl_val; apply opv_pickT; exact rfl; refine bT ?_; omega; exact rfl; exact rfl; refine wl_ns ?_; apply wc_condFb; exact rfl; exact rfl; refine wc_skip ?_; refine we_seq ?_; refine wc_seq ?_; refine wc_sr ?_; refine wl_mv rfl rfl ?_; apply wl_val; apply opv_nilOk; exact rfl; exact rfl; apply wl_val; apply opv_fa; exact fa_Rd1; exact rfl; exact rfl; apply wl_val; apply opv_ldX; exact rfl; exact hs.ar 0 rfl; exact g1_err; exact rfl; exact rfl; refine wl_bin rfl rfl bin_neq rfl ?_; refine wl_ns ?_; apply wc_condFb; exact rfl; exact rfl; refine wc_skip ?_; refine we_seq ?_; refine wc_sr ?_; refine wl_mv rfl rfl ?_; apply wl_val; apply opv_nilOk; exact rfl; exact rfl; apply wl_val; apply opv_fa; exact fa_Rd0; exact rfl; exact rfl; apply wl_val; apply opv_ldX; exact rfl; exact hs.ar 0 rfl; exact g1_bbs; exact rfl; exact rfl
      refine wl_val (opv_idxR (kk := 0) (u := .slice B p.length cb) tyBB rfl rfl hrow rfl h1) rfl ?_
      refine wl_val (opv_loadR (kk := 0) (u := .slice B p.length cb) tyBB rfl hrow h1) rfl ?_
      refine wl_as rfl rfl ?_; refine wl_ns ?_; refine wc_sr ?_; refine wl_mv rfl rfl ?_; refine wl_mv rfl rfl ?_; apply wl_val; apply opv_nilOk; exact rfl; exact rfl; apply wl_val; apply opv_fa; exact fa_Rd0; exact rfl; exact rfl; apply wl_val; apply opv_ldX; exact rfl; exact hs.ar 0 rfl; exact g1_bbs; exact rfl; exact rfl
      refine wl_sl (l := 1) (h := ps.length + 1) tyBB rfl ⟨_, rfl⟩ rfl (by omega) hc rfl ?_
      apply wl_val; apply opv_nilOk; exact rfl; exact rfl; apply wl_val; apply opv_fa; exact fa_Rd0; exact rfl; exact rfl; apply ws_st hs 0; exact rfl; exact rfl; exact g1_bbs; exact rfl; exact rfl; exact rfl; clear hs; intro _ hs; dsimp only [setC, List.set] at hs; refine wl_ns ?_; refine wc_sr ?_; refine wl_mv rfl rfl ?_; refine wl_as rfl rfl ?_; refine wl_ns ?_; refine wc_ret ?_
      exact we_ret1 rfl rfl ⟨_, rfl, B, cb, _, _, rfl, fun w' k => (hv w' k).own h1, ⟨by simp at hc ⊢; omega, vs.drop 1, fun w' k => (hv w' k).tail hc⟩, hs⟩
  · rw [if_neg he]
    apply wl_skip; exact rfl; exact rfl; exact rfl; refine bFn ?_; omega; exact rfl; apply wl_skip; exact rfl; exact rfl; exact rfl; refine bFn ?_; omega; exact rfl; apply wl_skip; exact rfl; exact rfl; exact rfl; refine bFn ?_; omega; exact rfl; apply wl_skip; exact rfl; exact rfl; exact rfl; refine bFn ?_; omega; exact rfl; apply wl_skip; exact rfl; exact rfl; exact rfl; refine bFn ?_; omega; exact rfl; apply wl_skip; exact rfl; exact rfl; exact rfl; refine bFn ?_; omega; exact rfl; apply wl_val; apply opv_pickF; exact rfl; refine bF ?_; omega; exact rfl; exact rfl; refine wl_ns ?_; apply wc_condFb; exact rfl; exact rfl; refine wc_skip ?_; refine we_seq ?_; refine wc_seq ?_; refine wc_sr ?_; refine wl_mv rfl rfl ?_; apply wl_val; apply opv_nilOk; exact rfl; exact rfl; apply wl_val; apply opv_fa; exact fa_Rd1; exact rfl; exact rfl; apply wl_val; apply opv_ldX; exact rfl; exact hs.ar 0 rfl; exact g1_err; exact rfl; exact rfl; refine wl_bin rfl rfl bin_neq rfl ?_; refine wl_ns ?_; apply wc_decT; exact rfl; omega; refine wc_sr ?_; refine wl_as rfl rfl ?_; refine wl_ns ?_; refine wc_ret ?_; refine we_seq_ret ?_
    exact we_ret1 rfl rfl ⟨_, rfl, none, 0, A, c, rfl, ew, ⟨hc, vs, hv⟩, hs⟩
theorem smore_any {g : Nat} {A : Option Addr} {c : Nat} {r : Rd1} {w : World} (ha : Ar w g 142 (rdV A c r)) :
    CallsV Try.prog 94 #[.pointer (some ⟨g, 0, none⟩)] w fun v w' => v = .bool (decide (r.2 = 0 ∧ r.1 ≠ [])) ∧ w = w' := by
  obtain ⟨rows, e⟩ := r
  unfold rdV at ha
  dsimp only at ha ⊢
  refine calls_in (N := _) Try.func94 rfl Try.ntmps94 rfl ?_; show WC _ _ _ _ _ _
  refine wc_sr ?_; refine wl_as rfl rfl ?_; refine wl_ns ?_; refine wc_sr ?_; refine wl_mv rfl rfl ?_; apply wl_val; apply opv_nilOk; exact rfl; exact rfl; apply wl_val; apply opv_fa; exact fa_Rd1; exact rfl; exact rfl; apply wl_val; apply opv_ldX; exact rfl; assumption; exact g1_err; exact rfl; exact rfl; refine wl_bin rfl rfl bin_eql rfl ?_; refine wl_mv rfl rfl ?_
  by_cases he : e = 0
  · subst he
    cases rows with
    | nil =>
      apply wl_take; exact rfl; exact rfl; exact rfl; refine bT ?_; omega; refine wl_mv rfl rfl ?_; apply wl_take; exact rfl; exact rfl; exact rfl; refine bT ?_; omega; apply wl_val; apply opv_nilOk; exact rfl; exact rfl; apply wl_take; exact rfl; exact rfl; exact rfl; refine bT ?_; omega; apply wl_val; apply opv_fa; exact fa_Rd0; exact rfl; exact rfl; apply wl_take; exact rfl; exact rfl; exact rfl; refine bT ?_; omega; apply wl_val; apply opv_ldX; exact rfl; assumption; exact g1_bbs; exact rfl; exact rfl; apply wl_take; exact rfl; exact rfl; exact rfl; refine bT ?_; omega; apply wl_val; apply opv_len; exact rfl; exact tyBB.sl; exact rfl; apply wl_take; exact rfl; exact rfl; exact rfl; refine bT ?_; omega; refine wl_bin rfl rfl bin_gtr rfl ?_; apply wl_val; apply opv_pickT; exact rfl; refine bT ?_; omega; exact rfl; exact rfl; refine wl_as rfl rfl ?_; refine wl_ns ?_; refine wc_ret ?_
      exact we_ret1 rfl rfl ⟨_, rfl, by simp, rfl⟩
    | cons p ps =>
      apply wl_take; exact rfl; exact rfl; exact rfl; refine bT ?_; omega; refine wl_mv rfl rfl ?_; apply wl_take; exact rfl; exact rfl; exact rfl; refine bT ?_; omega; apply wl_val; apply opv_nilOk; exact rfl; exact rfl; apply wl_take; exact rfl; exact rfl; exact rfl; refine bT ?_; omega; apply wl_val; apply opv_fa; exact fa_Rd0; exact rfl; exact rfl; apply wl_take; exact rfl; exact rfl; exact rfl; refine bT ?_; omega; apply wl_val; apply opv_ldX; exact rfl; assumption; exact g1_bbs; exact rfl; exact rfl; apply wl_take; exact rfl; exact rfl; exact rfl; refine bT ?_; omega; apply wl_val; apply opv_len; exact rfl; exact tyBB.sl; exact rfl; apply wl_take; exact rfl; exact rfl; exact rfl; refine bT ?_; omega; refine wl_bin rfl rfl bin_gtr rfl ?_; apply wl_val; apply opv_pickT; exact rfl; refine bT ?_; omega; exact rfl; exact rfl; refine wl_as rfl rfl ?_; refine wl_ns ?_; refine wc_ret ?_
      exact we_ret1 rfl rfl ⟨_, rfl, by simp, rfl⟩
  · apply wl_skip; exact rfl; exact rfl; exact rfl; refine bFn ?_; omega; exact rfl; apply wl_skip; exact rfl; exact rfl; exact rfl; refine bFn ?_; omega; exact rfl; apply wl_skip; exact rfl; exact rfl; exact rfl; refine bFn ?_; omega; exact rfl; apply wl_skip; exact rfl; exact rfl; exact rfl; refine bFn ?_; omega; exact rfl; apply wl_skip; exact rfl; exact rfl; exact rfl; refine bFn ?_; omega; exact rfl; apply wl_skip; exact rfl; exact rfl; exact rfl; refine bFn ?_; omega; exact rfl; apply wl_val; apply opv_pickF; exact rfl; refine bF ?_; omega; exact rfl; exact rfl; refine wl_as rfl rfl ?_; refine wl_ns ?_; refine wc_ret ?_
    exact we_ret1 rfl rfl ⟨_, rfl, by simp [he], rfl⟩
theorem sstruth_any {g : Nat} {A : Option Addr} {c : Nat} {r : Rd1} {S : BS} {w : World} {n : Int} (h0 : Sat w [rdP g A c r] S) :
    CallsV Try.prog 93 #[.pointer (some ⟨g, 0, none⟩), .int .i64 n] w fun v w' => v = .bool (truthR n r).1 ∧ St S w w' [rdP g A c (truthR n r).2] := by
  have hs := St.start h0
  clear h0
  obtain ⟨rows, e⟩ := r
  unfold rdP rdV at hs
  dsimp only at hs
  unfold rdP rdV truthR
  dsimp only
  refine calls_in (N := _) Try.func93 rfl Try.ntmps93 rfl ?_; show WC _ _ _ _ _ _
  refine wc_sr ?_; refine wl_as rfl rfl ?_; refine wl_ns ?_; refine wc_seq ?_; refine wc_sr ?_; refine wl_mv rfl rfl ?_; refine wl_bin rfl rfl bin_lss rfl ?_; refine wl_mv rfl rfl ?_
  by_cases h1 : n < 0
  · rw [if_pos (Or.inl h1)]
    apply wl_skip; exact rfl; exact rfl; exact rfl; refine bTn ?_; (with_reducible assumption); exact rfl; apply wl_skip; exact rfl; exact rfl; exact rfl; refine bTn ?_; (with_reducible assumption); exact rfl; apply wl_val; apply opv_pickT; exact rfl; refine bT ?_; (with_reducible assumption); exact rfl; exact rfl; refine wl_ns ?_; apply wc_condTb; exact rfl; exact rfl; refine wc_region ?_; refine wl_mv rfl rfl ?_; apply wl_val; apply opv_nilOk; exact rfl; exact rfl; apply wl_val; apply opv_fa; exact fa_Rd1; exact rfl; exact rfl; apply ws_st hs 0; exact rfl; exact rfl; exact g1_err; exact rfl; exact rfl; exact rfl; clear hs; intro _ hs; dsimp only [setC, List.set] at hs; refine wl_ns ?_; refine wc_sr ?_; refine wl_mv rfl rfl ?_; refine wl_bin rfl rfl bin_eql rfl ?_; refine wl_as rfl rfl ?_; refine wl_ns ?_; refine wc_ret ?_
    exact we_ret1 rfl rfl ⟨_, rfl, rfl, hs⟩
  · by_cases h2 : 1 < n
    · rw [if_pos (Or.inr h2)]
      apply wl_take; exact rfl; exact rfl; exact rfl; refine bF ?_; (with_reducible assumption); refine wl_mv rfl rfl ?_; apply wl_take; exact rfl; exact rfl; exact rfl; refine bF ?_; (with_reducible assumption); refine wl_bin rfl rfl bin_gtr rfl ?_; apply wl_val; apply opv_pickF; exact rfl; refine bF ?_; (with_reducible assumption); exact rfl; exact rfl; refine wl_ns ?_; apply wc_decT; exact rfl; (with_reducible assumption); refine wc_region ?_; refine wl_mv rfl rfl ?_; apply wl_val; apply opv_nilOk; exact rfl; exact rfl; apply wl_val; apply opv_fa; exact fa_Rd1; exact rfl; exact rfl; apply ws_st hs 0; exact rfl; exact rfl; exact g1_err; exact rfl; exact rfl; exact rfl; clear hs; intro _ hs; dsimp only [setC, List.set] at hs; refine wl_ns ?_; refine wc_sr ?_; refine wl_mv rfl rfl ?_; refine wl_bin rfl rfl bin_eql rfl ?_; refine wl_as rfl rfl ?_; refine wl_ns ?_; refine wc_ret ?_
      exact we_ret1 rfl rfl ⟨_, rfl, rfl, hs⟩
    · rw [if_neg (fun k => k.elim h1 h2)]
      apply wl_take; exact rfl; exact rfl; exact rfl; refine bF ?_; (with_reducible assumption); refine wl_mv rfl rfl ?_; apply wl_take; exact rfl; exact rfl; exact rfl; refine bF ?_; (with_reducible assumption); refine wl_bin rfl rfl bin_gtr rfl ?_; apply wl_val; apply opv_pickF; exact rfl; refine bF ?_; (with_reducible assumption); exact rfl; exact rfl; refine wl_ns ?_; apply wc_decF; exact rfl; (with_reducible assumption); refine wc_skip ?_; refine we_seq ?_; refine wc_sr ?_; refine wl_mv rfl rfl ?_; refine wl_bin rfl rfl bin_eql rfl ?_; refine wl_as rfl rfl ?_; refine wl_ns ?_; refine wc_ret ?_
      exact we_ret1 rfl rfl ⟨_, rfl, rfl, hs⟩
end Go.Proofs.Ytaacnknniaipmaa

/-
  Walks over words and ints of the reader.
-/
namespace Go.Proofs.Ytaacnknniaipmaa
open Go.RowKit

theorem wVs_rep (n : Nat) : List.replicate n (Value.int .u64 0) = wVs (List.replicate n 0) := by simp [wVs]
theorem getU_rngW (p : By) (q : Int) (hl : p.length ≤ 1099511627776) : -9223372036854775808 ≤ (getU p q).2.1 ∧ (getU p q).2.1 ≤ 9223372036854775807 := by
  by_cases h : (getU p q).2.2 = 0
  · obtain ⟨_, k, _, h2, _, h3, _⟩ := getU_inv (l := p) (p := q) (v := (getU p q).1) (x := (getU p q).2.1) (by rw [← h])
    rw [h2]; omega
  · rw [(getU_err h).2]; omega
theorem set_wVs {pre : List Nat} {k m x : Nat} (hk : pre.length = k) : (wVs (pre ++ List.replicate (m + 1) 0)).set k (.int .u64 (x : Int)) = wVs ((pre ++ [x]) ++ List.replicate m 0) := by
  subst hk
  simp [wVs, List.replicate_succ]
def WdI (S : BS) (w : World) (g n : Nat) (p : By) (e0 : Nat) (B : Option Addr) (cb : Nat) (A' : Option Addr) (c' : Nat) (rest : List By) (O : Option Addr) (co : Nat) : FL → World → Nat → Prop := fun L wr m =>
  ∃ (k : Nat) (q : Int) (e : Nat) (pre : List Nat), L = [(0, .pointer (some ⟨g, 0, none⟩)), (5, .slice B p.length cb), (6, .int .i64 q), (7, .slice O n co), (14, .int .i64 (n : Int)), (15, .int .i64 (k : Int))] ∧ k ≤ n ∧ pre.length = k ∧ (-9223372036854775808 ≤ q ∧ q ≤ 9223372036854775807) ∧
    numsF n p 0 e0 = (pre ++ (numsF (n - k) p q e).1, (numsF (n - k) p q e).2) ∧ St S w wr [.ow 22 O n co (wVs (pre ++ List.replicate (n - k) 0)), rdP g A' c' (rest, e)] ∧ m = n - k
set_option maxHeartbeats 2000000 in
theorem swords_any {g base n : Nat} {A : Option Addr} {c : Nat} {r : Rd1} {S : BS} {w : World} {K : World → Prop} (h0 : Sat w [rdP g A c r] S) (hK : ∀ w', Mod S w w' → K w') (hr : RdK K base A c r.1) (hn : n ≤ 64) (hl : ∀ p ∈ r.1, p.length ≤ 1099511627776) :
    CallsV Try.prog 76 #[.pointer (some ⟨g, 0, none⟩), .int .i64 (n : Int)] w fun v w' => ∃ (O : Option Addr) (co : Nat) (A' : Option Addr) (c' : Nat), v = .slice O n co ∧ RdK K base A' c' (wordsR n r).2.1 ∧ St S w w' [.ow 22 O n co (wVs (wordsR n r).1), rdP g A' c' (wordsR n r).2] := by
  have hs := St.start h0
  have hmax : maxLen = 9223372036854775807 := rfl
  refine calls_in (N := _) Try.func76 rfl Try.ntmps76 rfl ?_; show WC _ _ _ _ _ _
  refine wc_sr ?_; refine wl_as rfl rfl ?_; refine wl_ns ?_; refine wc_seq ?_
  refine wc_cutE (fun L w' => ∃ (B : Option Addr) (cb : Nat) (A' : Option Addr) (c' : Nat) (O : Option Addr) (co : Nat), L = [(0, .pointer (some ⟨g, 0, none⟩)), (5, .slice B (nextR r).1.length cb), (6, .int .i64 (0 : Nat)), (7, .slice O n co)] ∧ (∀ w', K w' → OwB w' base B cb (nextR r).1) ∧ RdK K base A' c' (nextR r).2.1 ∧
    St S w w' [.ow 22 O n co (wVs (List.replicate n 0)), rdP g A' c' (nextR r).2]) ?_ ?_
  · have hS : True := trivial
    refine wc_heldG (fun _ => True) 6 mixed ?_
    replace hs := hs.below ((Below.refl _ _).drew)
    apply wm_takeP 0; exact rfl; intro _; apply opv_move; exact rfl; exact rfl; kernel_rfl; exact fun _ => hS; apply wm_takeP 2; exact rfl; intro _; apply opv_move; exact rfl; exact rfl; kernel_rfl; exact fun _ => hS
    refine wm_two 1 3 (by kernel_rfl) rfl rfl ?_ ?_ <;> dsimp only [List.getElem_toArray, List.getElem_cons_succ, List.getElem_cons_zero]
    · obtain ⟨S2, hS2, hB2, hM2, hH2, hB⟩ := St.lend (H1 := [rdP g A c r]) (H2 := []) hs
      refine wl_call ok_session_reader_next (snext_any hS2 (fun w' k => hK w' (hM2 w' k)) hr) ⟨rfl, trivial⟩ rfl ?_
      rintro _ _ ⟨B, cb, A', c', rfl, hB0, hr0, hsx⟩
      replace hs := hB _ _ hsx
      clear hsx hB hH2 hM2 hB2 hS2
      dsimp only [List.cons_append, List.nil_append] at hs
      refine wl_nil ?_
      refine we_heldM (fun _ => trivial) ?_
      apply wm_takeP 4; exact rfl; intro _; apply opv_assign; exact rfl; exact rfl; kernel_rfl; exact fun _ => hS; apply wm_takeP 5; exact rfl; intro _; apply opv_assign; exact rfl; exact rfl; kernel_rfl; exact fun _ => hS
      refine wm_one 3 (by kernel_rfl) rfl ?_; dsimp only [List.getElem_toArray, List.getElem_cons_succ, List.getElem_cons_zero]
      refine ws_mk (n := n) (c := n) hs tyWs rfl rfl rfl rfl (Nat.le_refl _) (by omega) (by simp only [maxLen]; omega) rfl ?_
      clear hs; intro O w_ hs
      refine wl_nil ?_
      refine we_heldM (fun _ => trivial) ?_
      refine wm_one 6 (by kernel_rfl) rfl ?_; dsimp only [List.getElem_toArray, List.getElem_cons_succ, List.getElem_cons_zero]
      refine wl_as rfl rfl ?_; refine wl_nil ?_
      refine we_heldM (fun _ => trivial) ?_
      refine wm_done (by kernel_rfl) ?_
      rw [wVs_rep] at hs
      exact we_cut _ ⟨B, cb, A', c', O, n, rfl, hB0, hr0, hs⟩ ⟨rfl, rfl, rfl, rfl, trivial⟩
    · refine ws_mk (n := n) (c := n) hs tyWs rfl rfl rfl rfl (Nat.le_refl _) (by omega) (by simp only [maxLen]; omega) rfl ?_
      clear hs; intro O w_ hs
      replace hs := hs.front 1 rfl
      dsimp only [delC] at hs
      refine wl_nil ?_
      refine we_heldM (fun _ => trivial) ?_
      refine wm_one 1 (by kernel_rfl) rfl ?_; dsimp only [List.getElem_toArray, List.getElem_cons_succ, List.getElem_cons_zero]
      obtain ⟨S2, hS2, hB2, hM2, hH2, hB⟩ := St.lend (H1 := [rdP g A c r]) (H2 := [.ow _ O n n _]) hs
      refine wl_call ok_session_reader_next (snext_any hS2 (fun w' k => hK w' (hM2 w' k)) hr) ⟨rfl, trivial⟩ rfl ?_
      rintro _ _ ⟨B, cb, A', c', rfl, hB0, hr0, hsx⟩
      replace hs := hB _ _ hsx
      clear hsx hB hH2 hM2 hB2 hS2
      dsimp only [List.cons_append, List.nil_append] at hs
      refine wl_nil ?_
      refine we_heldM (fun _ => trivial) ?_
      apply wm_takeP 4; exact rfl; intro _; apply opv_assign; exact rfl; exact rfl; kernel_rfl; exact fun _ => hS; apply wm_takeP 5; exact rfl; intro _; apply opv_assign; exact rfl; exact rfl; kernel_rfl; exact fun _ => hS
      refine wm_one 6 (by kernel_rfl) rfl ?_; dsimp only [List.getElem_toArray, List.getElem_cons_succ, List.getElem_cons_zero]
      refine wl_as rfl rfl ?_; refine wl_nil ?_
      refine we_heldM (fun _ => trivial) ?_
      refine wm_done (by kernel_rfl) ?_
      rw [wVs_rep] at hs
      replace hs := hs.front 1 rfl
      dsimp only [delC] at hs
      exact we_cut _ ⟨B, cb, A', c', O, n, rfl, hB0, hr0, hs⟩ ⟨rfl, rfl, rfl, rfl, trivial⟩
  rintro _ w1 ⟨B, cb, A', c', O, co, rfl, hB0, hr0, hs⟩
  clear h0
  have hpl : (nextR r).1.length ≤ 1099511627776 := by
    unfold nextR
    split
    · split
      · simp
      · rename_i p ps heq
        exact hl p (by rw [heq]; exact List.mem_cons_self)
    · simp
  obtain ⟨p, hp⟩ : ∃ p, (nextR r).1 = p := ⟨_, rfl⟩
  obtain ⟨rest, hrest⟩ : ∃ x, (nextR r).2.1 = x := ⟨_, rfl⟩
  obtain ⟨e0, he0⟩ : ∃ x, (nextR r).2.2 = x := ⟨_, rfl⟩
  have h2 : (nextR r).2 = (rest, e0) := by rw [← hrest, ← he0]
  unfold wordsR
  rw [h2] at hs hr0 ⊢
  rw [hp] at hB0 hpl ⊢
  dsimp only at hr0 ⊢
  refine we_seq ?_; refine wc_seq ?_; refine wc_sr ?_; refine wl_mv rfl rfl ?_; apply wl_val; apply opv_len; exact rfl; exact tyWs.sl; exact rfl; refine wl_mv rfl rfl ?_; refine wl_ns ?_; refine wc_block ?_
  refine wc_loop (WdI S w g n p e0 B cb A' c' rest O co) [(0, .pointer (some ⟨g, 0, none⟩)), (5, .slice B p.length cb), (6, .int .i64 (0 : Nat)), (7, .slice O n co), (14, .int .i64 (n : Int)), (15, .int .i64 (0 : Nat))] n ⟨0, 0, e0, [], rfl, by omega, rfl, by omega, rfl, hs, rfl⟩ ⟨rfl, rfl, rfl, rfl, rfl, rfl, trivial⟩ ?_
  clear hs
  rintro _ w2 m ⟨k, q, e, pre, rfl, hk, hpre, hq, hnum, hs, rfl⟩
  unfold rdP rdV at hs
  dsimp only at hs
  refine wc_sr ?_; refine wl_bin rfl rfl bin_lss rfl ?_; refine wl_ns ?_; refine wc_seq ?_
  refine wc_cond rfl (fun h1 => ?_) (fun h1 => ?_)
  · have hnk : n - k = (n - (k + 1)) + 1 := by omega
    rw [hnk] at hnum hs
    by_cases he : e = 0
    · subst he
      rw [numsF, if_pos rfl] at hnum
      refine wc_skip ?_; refine we_seq ?_; refine wc_seq ?_; refine wc_block ?_; refine wc_sr ?_; refine wl_mv rfl rfl ?_; refine wl_as rfl rfl ?_; refine wl_ns ?_; refine wc_sr ?_; refine wl_mv rfl rfl ?_; apply wl_val; apply opv_nilOk; exact rfl; exact rfl; apply wl_val; apply opv_fa; exact fa_Rd1; exact rfl; exact rfl; apply wl_val; apply opv_ldX; exact rfl; exact hs.ar 1 rfl; exact g1_err; exact rfl; exact rfl; refine wl_bin rfl rfl bin_eql rfl ?_; refine wl_ns ?_; apply wc_condTb; exact rfl; exact rfl; refine wc_region ?_; refine wl_mv rfl rfl ?_; refine wl_mv rfl rfl ?_; refine wl_mv rfl rfl ?_; refine wl_mv rfl rfl ?_; refine wl_mv rfl rfl ?_
      refine wl_call ok_codec_GetU (getU_any (hB0 w2 (hK _ hs.1)).rd rfl (by omega) hq) ⟨rfl, rfl, trivial⟩ rfl ?_
      rintro _ _ ⟨rfl, hbx⟩
      replace hs := hs.below hbx
      clear hbx
      have hbd := getU_rngW p q hpl
      obtain ⟨x, hx⟩ : ∃ x, (getU p q).1 = x := ⟨_, rfl⟩
      obtain ⟨q2, hq2⟩ : ∃ x, (getU p q).2.1 = x := ⟨_, rfl⟩
      obtain ⟨e2, he2⟩ : ∃ x, (getU p q).2.2 = x := ⟨_, rfl⟩
      rw [hx, hq2, he2] at hnum
      rw [hq2] at hbd
      rw [hx, hq2, he2]
      refine wl_mv rfl rfl ?_; apply wl_val; apply opv_extract; exact rfl; exact rfl; exact rfl; apply wl_val; apply opv_extract; exact rfl; exact rfl; exact rfl; apply wl_val; apply opv_extract; exact rfl; exact rfl; exact rfl
      refine ws_set (kk := k) (u := .int .u64 (x : Int)) hs 0 rfl rfl tyWs rfl rfl (by omega) (fun _ => rfl) rfl rfl ?_
      clear hs; intro _ w_ hs; dsimp only [setC] at hs
      rw [set_wVs hpre] at hs
      refine wl_as rfl rfl ?_; apply wl_val; apply opv_nilOk; exact rfl; exact rfl; apply wl_val; apply opv_fa; exact fa_Rd1; exact rfl; exact rfl; apply ws_st hs 1; exact rfl; exact rfl; exact g1_err; exact rfl; exact rfl; exact rfl; clear hs; intro _ hs; dsimp only [setC, List.set] at hs; refine wl_nil ?_; refine we_block_norm ?_; refine we_seq ?_; refine wc_region ?_; apply wl_val; apply opv_bin; exact rfl; exact rfl; exact bin_add64 (by omega); exact rfl; refine wl_mv rfl rfl ?_; refine wl_nil ?_
      exact we_loop _ (n - (k + 1)) ⟨k + 1, q2, e2, pre ++ [x], rfl, by omega, by simp [hpre], hbd, by rw [hnum]; simp, hs, rfl⟩ (by omega) ⟨rfl, rfl, rfl, rfl, rfl, by simp [lookT], trivial⟩
    · refine wc_skip ?_; refine we_seq ?_; refine wc_seq ?_; refine wc_block ?_; refine wc_sr ?_; refine wl_mv rfl rfl ?_; refine wl_as rfl rfl ?_; refine wl_ns ?_; refine wc_sr ?_; refine wl_mv rfl rfl ?_; apply wl_val; apply opv_nilOk; exact rfl; exact rfl; apply wl_val; apply opv_fa; exact fa_Rd1; exact rfl; exact rfl; apply wl_val; apply opv_ldX; exact rfl; exact hs.ar 1 rfl; exact g1_err; exact rfl; exact rfl; refine wl_bin rfl rfl bin_eql rfl ?_; refine wl_ns ?_; apply wc_decF; exact rfl; omega; refine wc_skip ?_; refine we_block_norm ?_; refine we_seq ?_; refine wc_region ?_; apply wl_val; apply opv_bin; exact rfl; exact rfl; exact bin_add64 (by omega); exact rfl; refine wl_mv rfl rfl ?_; refine wl_nil ?_
      have hnum2 : numsF n p 0 e0 = ((pre ++ [0]) ++ (numsF (n - (k + 1)) p q e).1, (numsF (n - (k + 1)) p q e).2) := by
        rw [hnum, numsF, if_neg he]; simp
      rw [show pre ++ List.replicate (n - (k + 1) + 1) 0 = (pre ++ [0]) ++ List.replicate (n - (k + 1)) 0 by simp [List.replicate_succ]] at hs
      exact we_loop _ (n - (k + 1)) ⟨k + 1, q, e, pre ++ [0], rfl, by omega, by simp [hpre], hq, hnum2, hs, rfl⟩ (by omega) ⟨rfl, rfl, rfl, rfl, rfl, by simp [lookT], trivial⟩
  · obtain rfl : k = n := by omega
    rw [Nat.sub_self] at hnum hs
    rw [List.replicate_zero, List.append_nil] at hs
    rw [numsF] at hnum
    dsimp only at hnum
    rw [List.append_nil] at hnum
    rw [hnum]
    dsimp only
    by_cases he : e = 0
    · subst he
      by_cases h2 : q < (p.length : Int)
      · rw [if_pos ⟨rfl, h2⟩]
        refine wc_exit ?_; refine we_seq_exit ?_; refine we_loop_exit ?_; refine we_block_exit ?_; refine we_seq ?_; refine wc_seq ?_; refine wc_sr ?_; refine wl_mv rfl rfl ?_; apply wl_val; apply opv_nilOk; exact rfl; exact rfl; apply wl_val; apply opv_fa; exact fa_Rd1; exact rfl; exact rfl; apply wl_val; apply opv_ldX; exact rfl; exact hs.ar 1 rfl; exact g1_err; exact rfl; exact rfl; refine wl_bin rfl rfl bin_eql rfl ?_; refine wl_mv rfl rfl ?_; apply wl_take; exact rfl; exact rfl; exact rfl; refine bT ?_; omega; refine wl_mv rfl rfl ?_; apply wl_take; exact rfl; exact rfl; exact rfl; refine bT ?_; omega; refine wl_mv rfl rfl ?_; apply wl_take; exact rfl; exact rfl; exact rfl; refine bT ?_; omega; apply wl_val; apply opv_len; exact rfl; exact tyB.sl; exact rfl; apply wl_take; exact rfl; exact rfl; exact rfl; refine bT ?_; omega; refine wl_bin rfl rfl bin_lss rfl ?_; apply wl_val; apply opv_pickT; exact rfl; refine bT ?_; omega; exact rfl; exact rfl; refine wl_ns ?_; apply wc_decT; exact rfl; (with_reducible assumption); refine wc_region ?_; refine wl_mv rfl rfl ?_; apply wl_val; apply opv_nilOk; exact rfl; exact rfl; apply wl_val; apply opv_fa; exact fa_Rd1; exact rfl; exact rfl; apply ws_st hs 1; exact rfl; exact rfl; exact g1_err; exact rfl; exact rfl; exact rfl; clear hs; intro _ hs; dsimp only [setC, List.set] at hs; refine wl_ns ?_; refine wc_sr ?_; refine wl_mv rfl rfl ?_; refine wl_as rfl rfl ?_; refine wl_ns ?_; refine wc_ret ?_
        exact we_ret1 rfl rfl ⟨_, rfl, O, co, A', c', rfl, hr0, hs⟩
      · rw [if_neg (fun k => h2 k.2)]
        refine wc_exit ?_; refine we_seq_exit ?_; refine we_loop_exit ?_; refine we_block_exit ?_; refine we_seq ?_; refine wc_seq ?_; refine wc_sr ?_; refine wl_mv rfl rfl ?_; apply wl_val; apply opv_nilOk; exact rfl; exact rfl; apply wl_val; apply opv_fa; exact fa_Rd1; exact rfl; exact rfl; apply wl_val; apply opv_ldX; exact rfl; exact hs.ar 1 rfl; exact g1_err; exact rfl; exact rfl; refine wl_bin rfl rfl bin_eql rfl ?_; refine wl_mv rfl rfl ?_; apply wl_take; exact rfl; exact rfl; exact rfl; refine bT ?_; omega; refine wl_mv rfl rfl ?_; apply wl_take; exact rfl; exact rfl; exact rfl; refine bT ?_; omega; refine wl_mv rfl rfl ?_; apply wl_take; exact rfl; exact rfl; exact rfl; refine bT ?_; omega; apply wl_val; apply opv_len; exact rfl; exact tyB.sl; exact rfl; apply wl_take; exact rfl; exact rfl; exact rfl; refine bT ?_; omega; refine wl_bin rfl rfl bin_lss rfl ?_; apply wl_val; apply opv_pickT; exact rfl; refine bT ?_; omega; exact rfl; exact rfl; refine wl_ns ?_; apply wc_decF; exact rfl; (with_reducible assumption); refine wc_skip ?_; refine we_seq ?_; refine wc_sr ?_; refine wl_mv rfl rfl ?_; refine wl_as rfl rfl ?_; refine wl_ns ?_; refine wc_ret ?_
        exact we_ret1 rfl rfl ⟨_, rfl, O, co, A', c', rfl, hr0, hs⟩
    · rw [if_neg (fun k => he k.1)]
      refine wc_exit ?_; refine we_seq_exit ?_; refine we_loop_exit ?_; refine we_block_exit ?_; refine we_seq ?_; refine wc_seq ?_; refine wc_sr ?_; refine wl_mv rfl rfl ?_; apply wl_val; apply opv_nilOk; exact rfl; exact rfl; apply wl_val; apply opv_fa; exact fa_Rd1; exact rfl; exact rfl; apply wl_val; apply opv_ldX; exact rfl; exact hs.ar 1 rfl; exact g1_err; exact rfl; exact rfl; refine wl_bin rfl rfl bin_eql rfl ?_; refine wl_mv rfl rfl ?_; apply wl_skip; exact rfl; exact rfl; exact rfl; refine bFn ?_; omega; exact rfl; apply wl_skip; exact rfl; exact rfl; exact rfl; refine bFn ?_; omega; exact rfl; apply wl_skip; exact rfl; exact rfl; exact rfl; refine bFn ?_; omega; exact rfl; apply wl_skip; exact rfl; exact rfl; exact rfl; refine bFn ?_; omega; exact rfl; apply wl_val; apply opv_pickF; exact rfl; refine bF ?_; omega; exact rfl; exact rfl; refine wl_ns ?_; apply wc_condFb; exact rfl; exact rfl; refine wc_skip ?_; refine we_seq ?_; refine wc_sr ?_; refine wl_mv rfl rfl ?_; refine wl_as rfl rfl ?_; refine wl_ns ?_; refine wc_ret ?_
      exact we_ret1 rfl rfl ⟨_, rfl, O, co, A', c', rfl, hr0, hs⟩
theorem iVs_rep (n : Nat) : List.replicate n (Value.int .i64 0) = iVs (List.replicate n 0) := by simp [iVs]
theorem set_iVs {pre : List Int} {k m : Nat} {x : Int} (hk : pre.length = k) : (iVs (pre ++ List.replicate (m + 1) 0)).set k (.int .i64 x) = iVs ((pre ++ [x]) ++ List.replicate m 0) := by
  subst hk
  simp [iVs, List.replicate_succ]
theorem numsF_lt : ∀ (n : Nat) (p : By) (q : Int) (e : Nat), ∀ x ∈ (numsF n p q e).1, x < 2 ^ 64
  | 0, _, _, _, x, h => by simp [numsF] at h
  | n + 1, p, q, e, x, h => by
    unfold numsF at h
    split at h
    · rcases List.mem_cons.1 h with rfl | h
      · exact getU_fits _ _
      · exact numsF_lt n _ _ _ x h
    · rcases List.mem_cons.1 h with rfl | h
      · decide
      · exact numsF_lt n _ _ _ x h
theorem wordsR_lt (n : Nat) (r : Rd1) : ∀ x ∈ (wordsR n r).1, x < 2 ^ 64 := numsF_lt _ _ _ _
def InI (S : BS) (w : World) (g n : Nat) (ws : List Nat) (A' : Option Addr) (c' : Nat) (r : Rd1) (O : Option Addr) (co : Nat) (B : Option Addr) (cb : Nat) : FL → World → Nat → Prop := fun L wr m =>
  ∃ (k : Nat), L = [(5, .slice O n co), (12, .slice B n cb), (13, .int .i64 (n : Int)), (14, .int .i64 (k : Int))] ∧ k ≤ n ∧
    St S w wr [.ow 3 O n co (iVs ((ws.take k).map iU ++ List.replicate (n - k) 0)), .ow 22 B n cb (wVs ws), rdP g A' c' r] ∧ m = n - k
set_option maxHeartbeats 2000000 in
theorem srints_any {g base n : Nat} {A : Option Addr} {c : Nat} {r : Rd1} {S : BS} {w : World} {K : World → Prop} (h0 : Sat w [rdP g A c r] S) (hK : ∀ w', Mod S w w' → K w') (hr : RdK K base A c r.1) (hn : n ≤ 64) (hl : ∀ p ∈ r.1, p.length ≤ 1099511627776) :
    CallsV Try.prog 52 #[.pointer (some ⟨g, 0, none⟩), .int .i64 (n : Int)] w fun v w' => ∃ (O : Option Addr) (co : Nat) (A' : Option Addr) (c' : Nat), v = .slice O n co ∧ RdK K base A' c' (intsR n r).2.1 ∧ St S w w' [.ow 3 O n co (iVs (intsR n r).1), rdP g A' c' (intsR n r).2] := by
  have hs := St.start h0
  have hmax : maxLen = 9223372036854775807 := rfl
  unfold intsR
  dsimp only
  have hlt := wordsR_lt n r
  have hwl := wordsR_len n r
  refine calls_in (N := _) Try.func52 rfl Try.ntmps52 rfl ?_; show WC _ _ _ _ _ _
  refine wc_sr ?_; refine wl_as rfl rfl ?_; refine wl_ns ?_; refine wc_sr ?_; refine wl_mv rfl rfl ?_
  refine ws_mk (n := n) (c := n) hs tyIs rfl rfl rfl rfl (Nat.le_refl _) (by omega) (by simp only [maxLen]; omega) rfl ?_
  clear hs; intro O w_ hs
  replace hs := hs.front 1 rfl
  dsimp only [delC] at hs
  refine wl_as rfl rfl ?_; refine wl_ns ?_; refine wc_seq ?_; refine wc_sr ?_; refine wl_mv rfl rfl ?_; refine wl_mv rfl rfl ?_
  obtain ⟨S2, hS2, hB2, hM2, hH2, hB⟩ := St.lend (H1 := [rdP g A c r]) (H2 := [.ow _ O n n _]) hs
  refine wl_call ok_session_reader_words (swords_any hS2 (fun w' k => hK w' (hM2 w' k)) hr hn hl) ⟨rfl, rfl, trivial⟩ rfl ?_
  rintro _ _ ⟨B, cb, A', c', rfl, hr0, hsx⟩
  replace hs := hB _ _ hsx
  clear hsx hB hH2 hM2 hB2 hS2
  dsimp only [List.cons_append, List.nil_append] at hs
  obtain ⟨ws, hws⟩ : ∃ x, (wordsR n r).1 = x := ⟨_, rfl⟩
  obtain ⟨r2, hr2⟩ : ∃ x, (wordsR n r).2 = x := ⟨_, rfl⟩
  rw [hws, hr2, iVs_rep] at hs
  rw [hr2] at hr0
  rw [hws] at hwl hlt
  rw [hws, hr2]
  replace hs := hs.front 2 rfl
  dsimp only [delC] at hs
  apply wl_val; apply opv_len; exact rfl; exact tyWs.sl; exact rfl; refine wl_mv rfl rfl ?_; refine wl_ns ?_; refine wc_block ?_
  refine wc_loop (InI S w g n ws A' c' r2 O n B cb) [(5, .slice O n n), (12, .slice B n cb), (13, .int .i64 (n : Int)), (14, .int .i64 (0 : Nat))] n ⟨0, rfl, by omega, hs, rfl⟩ ⟨rfl, rfl, rfl, rfl, trivial⟩ ?_
  clear hs
  rintro _ w2 m ⟨k, rfl, hk, hs, rfl⟩
  refine wc_sr ?_; refine wl_bin rfl rfl bin_lss rfl ?_; refine wl_ns ?_; refine wc_seq ?_
  refine wc_cond rfl (fun h1 => ?_) (fun h1 => ?_)
  · have hnk : n - k = (n - (k + 1)) + 1 := by omega
    rw [hnk] at hs
    obtain ⟨x, hx⟩ : ∃ x, ws[k]? = some x := ⟨_, List.getElem?_eq_getElem (by omega)⟩
    have hxl := hlt x (List.mem_of_getElem? hx)
    have hv : (wVs ws)[k]? = some (.int .u64 (x : Int)) := by simp [wVs, hx]
    refine wc_skip ?_; refine we_seq ?_; refine wc_seq ?_; refine wc_block ?_; refine wc_sr ?_; refine wl_mv rfl rfl ?_
    refine wl_val (opv_idxR (kk := k) (u := .int .u64 (x : Int)) tyWs rfl rfl (hs.ow 1 rfl).rd rfl hv) rfl ?_
    refine wl_val (opv_loadR (kk := k) (u := .int .u64 (x : Int)) tyWs rfl (hs.ow 1 rfl).rd hv) rfl ?_
    refine wl_as rfl rfl ?_; refine wl_as rfl rfl ?_; refine wl_ns ?_; refine wc_region ?_; refine wl_mv rfl rfl ?_; refine wl_mv rfl rfl ?_; refine wl_mv rfl rfl ?_
    refine wl_val (opv_convR rfl Try.underlying22 Try.underlying3 (wrap_iU hxl)) rfl ?_
    refine ws_set (kk := k) (u := .int .i64 (iU x)) hs 0 rfl rfl tyIs rfl rfl (by omega) (fun _ => rfl) rfl rfl ?_
    clear hs; intro _ w_ hs; dsimp only [setC] at hs
    rw [set_iVs (by simp; omega)] at hs
    rw [show (ws.take k).map iU ++ [iU x] = (ws.take (k + 1)).map iU by rw [take_getR hx]; simp] at hs
    refine wl_nil ?_; refine we_block_norm ?_; refine we_seq ?_; refine wc_region ?_; apply wl_val; apply opv_bin; exact rfl; exact rfl; exact bin_add64 (by omega); exact rfl; refine wl_mv rfl rfl ?_; refine wl_nil ?_
    exact we_loop _ (n - (k + 1)) ⟨k + 1, rfl, by omega, hs, rfl⟩ (by omega) ⟨rfl, rfl, rfl, by simp [lookT], trivial⟩
  · obtain rfl : k = n := by omega
    rw [Nat.sub_self, List.replicate_zero, List.append_nil, List.take_of_length_le (by omega)] at hs
    replace hs := hs.drop 1 rfl
    dsimp only [delC] at hs
    refine wc_exit ?_; refine we_seq_exit ?_; refine we_loop_exit ?_; refine we_block_exit ?_; refine we_seq ?_; refine wc_sr ?_; refine wl_mv rfl rfl ?_; refine wl_as rfl rfl ?_; refine wl_ns ?_; refine wc_ret ?_
    exact we_ret1 rfl rfl ⟨_, rfl, O, _, A', c', rfl, hr0, hs⟩
end Go.Proofs.Ytaacnknniaipmaa

/-
  The walk over within: a frame in a frame, taken by a function that is a value.
-/
namespace Go.Proofs.Ytaacnknniaipmaa
open Go.RowKit

section
variable {P : Program} {N : Nat} {ops : Array Oper} {Q : Exit → Act → World → Prop} {rest : List Oper} {L : FL} {w : World} {t ty : TypeId}
theorem opv_mkFn {f : FuncId} {xs : List Operand} {us : List Value} (hx : Looks L xs us) : OpV P (.makeFunc (.func f) #[] xs.toArray) ty L w (.func (.func f) #[] us.toArray) w := fun ρ o hρ ho _ => by
  have hm := Looks.map hρ hx
  unfold execOp
  simp only [ho, Instr.makeFunc]
  have e : xs.toArray.map ρ = us.toArray := by simp [hm]
  rw [e]
  simp
theorem exec_callFn {ρ : Operand → Value} {o : Oper} {x : Operand} {f : FuncId} {fs us : Array Value} {xs : List Operand} {vs : List Value} {ats : Array TypeId} (ho : o.op = .call { callee := .value x, args := xs.toArray, argTypes := ats })
    (hc : CallOk P f) (hρ : ∀ x u, look L x = some u → ρ x = u) (hf : look L x = some (.func (.func f) fs us)) (hx : Looks L xs vs) : (execOp ρ o).run P w = .ok (.enter f (fs ++ vs.toArray ++ us)) w := by
  have hf := hρ _ _ hf
  have hm := Looks.map hρ hx
  unfold execOp
  simp only [ho, resolve, Deferred.ofValue, hf, Sem.run_bind, Sem.run_pure, Result.andThen_ok, invoke]
  have : Array.map ρ xs.toArray = vs.toArray := by simp [hm]
  rw [this]
  exact hc _ _
/-- A call of a function that is a value. -/
theorem wl_callFn {d : Nat} {x : Operand} {f : FuncId} {fs us : Array Value} {xs : List Operand} {ats : Array TypeId} {ty : TypeId} {pos : String} {aft : Array Edge} {vs : List Value} {R : Value → World → Prop}
    (hc : CallOk P f) (hf : look L x = some (.func (.func f) fs us)) (hr : CallsV P f (fs ++ vs.toArray ++ us) w R) (hx : Looks L xs vs) (hd : Nat.blt d N = true)
    (h : ∀ v w', R v w' → WL P N ops Q rest ((d, v) :: L) w') :
    WL P N ops Q (⟨some d, .call { callee := .value x, args := xs.toArray, argTypes := ats }, ty, pos, aft, none⟩ :: rest) L w := fun a ha =>
  wpList_plain rfl fun K hK => by
    unfold Oper.wp
    rw [exec_callFn rfl hc (fun x u hx => ha.eval hx) hf hx]
    refine Calls.mono hr ?_
    rintro _ w' ⟨v, rfl, hv⟩
    exact hK _ _ (h v w' hv _ (ha.put hd v))
end
theorem RdK.low {K : World → Prop} {base base' c : Nat} {A : Option Addr} {rows : List By} (h : RdK K base A c rows) (hb : base' ≤ base) : RdK K base' A c rows := by
  obtain ⟨h1, vs, h2⟩ := h
  exact ⟨h1, vs, fun w hw => (h2 w hw).low hb⟩
theorem OwB.capW {w : World} {base c : Nat} {A : Option Addr} {r : By} (h : OwB w base A c r) : r.length ≤ c := OwB.cap h
theorem St.tailSwap {M : BS} {w0 w : World} {c : Cd} {H1 H2 : List Cd} (h : St M w0 w (c :: (H1 ++ H2))) : St M w0 w (c :: (H2 ++ H1)) :=
  h.map fun _ ⟨T, h1, h2, h3⟩ => ⟨T, h1, h2, Sat.swap h3⟩
theorem next_len {r : Rd1} {m : Nat} (hl : ∀ p ∈ r.1, p.length ≤ m) : (nextR r).1.length ≤ m := by
  unfold nextR
  split
  · split
    · simp
    · rename_i p ps heq
      exact hl p (by rw [heq]; exact List.mem_cons_self)
  · simp
theorem next_rest {r : Rd1} {m : Nat} (hl : ∀ p ∈ r.1, p.length ≤ m) : ∀ p ∈ (nextR r).2.1, p.length ≤ m := by
  unfold nextR
  split
  · split
    · simp
    · rename_i p ps heq
      intro x hx
      exact hl x (by rw [heq]; exact List.mem_cons_of_mem _ hx)
  · exact hl
set_option maxHeartbeats 2000000 in
/-- A frame within: what the next part says, taken by f. -/
theorem swithin_any {α : Type} {g base : Nat} {A : Option Addr} {c f : Nat} {us : List Value} {r : Rd1} {S : BS} {w : World} {K : World → Prop} {H : List Cd} {take : Rd1 → α × Rd1} {z : α} (R : α → (World → Prop) → List Cd → Prop)
    (h0 : Sat w (rdP g A c r :: H) S) (hK : ∀ w', Mod S w w' → K w') (hr : RdK K base A c r.1) (hb : base ≤ w.heap.size) (hl : ∀ p ∈ r.1, p.length ≤ 1099511627776) (hf : CallOk Try.prog f)
    (ht : ∀ (p : By) (g1 : Nat) (A1 : Option Addr) (c1 : Nat) (K1 : World → Prop) (S1 : BS) (w1 : World), p = (nextR r).1 → Sat w1 (rdP g1 A1 c1 (parts p) :: H) S1 → (∀ w', Mod S1 w1 w' → K1 w') → RdK K1 base A1 c1 (parts p).1 → base ≤ w1.heap.size →
      CallsV Try.prog f (.pointer (some ⟨g1, 0, none⟩) :: us).toArray w1 fun _ w2 => ∃ (A2 : Option Addr) (c2 : Nat) (H2 : List Cd), St S1 w1 w2 (rdP g1 A2 c2 (take (parts p)).2 :: H2) ∧ R (take (parts p)).1 K1 H2) :
    CallsV Try.prog 91 #[.pointer (some ⟨g, 0, none⟩), .func (.func f) #[] us.toArray] w fun v w' => ∃ (A' : Option Addr) (c' : Nat), RdK K base A' c' (withinR z take r).2.1 ∧
      (((nextR r).2.2 ≠ 0 ∧ St S w w' (rdP g A' c' (withinR z take r).2 :: H)) ∨ ((nextR r).2.2 = 0 ∧ ∃ (H2 : List Cd) (K1 : World → Prop), R (withinR z take r).1 K1 H2 ∧ St S w w' (rdP g A' c' (withinR z take r).2 :: .ck (kp K1) :: H2))) := by
  have hs := St.start h0
  have hmax : maxLen = 9223372036854775807 := rfl
  have hpl := next_len hl
  refine calls_in (N := _) Try.func91 rfl Try.ntmps91 rfl ?_; show WC _ _ _ _ _ _
  refine wc_sr ?_; refine wl_mv rfl rfl ?_
  obtain ⟨S2, hS2, hB2, hM2, hH2, hB⟩ := St.lend (H1 := [rdP g A c r]) (H2 := H) hs
  refine wl_call ok_session_reader_next (snext_any hS2 (fun w' k => hK w' (hM2 w' k)) hr) ⟨rfl, trivial⟩ rfl ?_
  rintro _ _ ⟨B, cb, A', c', rfl, hB0, hr0, hsx⟩
  replace hs := hB _ _ hsx
  clear hsx hB hH2 hM2 hB2 hS2
  dsimp only [List.cons_append, List.nil_append] at hs
  have hw1 := hB0 _ (hK _ hs.1)
  skip
  refine wl_call ok_session_open (sopen_any hw1.rd rfl hw1.capW hpl) ⟨rfl, trivial⟩ rfl ?_
  rintro _ w3 ⟨g1, B1, cb1, K1, rfl, hk1, hsx⟩
  have hk1 := hk1.low (Nat.le_trans hb hs.size)
  replace hs := hs.call hsx
  clear hsx
  dsimp only [List.cons_append, List.nil_append] at hs
  unfold withinR
  obtain ⟨p, hp⟩ : ∃ p, (nextR r).1 = p := ⟨_, rfl⟩
  obtain ⟨r2, hr2⟩ : ∃ p, (nextR r).2 = p := ⟨_, rfl⟩
  rw [hp] at hB0 hw1 hk1 hs
  rw [hr2] at hs hr0 ⊢
  rw [hp]
  have hag := hs.ar 2 rfl
  unfold rdV at hag
  refine wl_as rfl rfl ?_; refine wl_ns ?_; refine wc_seq ?_; refine wc_sr ?_; refine wl_mv rfl rfl ?_; apply wl_val; apply opv_nilOk; exact rfl; exact rfl; apply wl_val; apply opv_fa; exact fa_Rd1; exact rfl; exact rfl; apply wl_val; apply opv_ldX; exact rfl; assumption; exact g1_err; exact rfl; exact rfl; refine wl_bin rfl rfl bin_neq rfl ?_; refine wl_ns ?_
  by_cases he : r2.2 = 0
  · rw [if_pos he]
    apply wc_decF; exact rfl; omega; refine wc_skip ?_; refine we_seq ?_; refine wc_sr ?_; refine wl_mv rfl rfl ?_; refine wl_mv rfl rfl ?_
    replace hs := St.tailSwap (H1 := [_, _]) hs
    rw [← List.cons_append] at hs
    obtain ⟨S2, hS2, hB2, hM2, hH2, hB⟩ := St.lend hs
    refine wl_callFn (vs := [.pointer (some ⟨g1, 0, none⟩)]) hf rfl (R := fun _ w2 => ∃ (A2 : Option Addr) (c2 : Nat) (H2 : List Cd), St S2 w3 w2 (rdP g1 A2 c2 (take (parts p)).2 :: H2) ∧ R (take (parts p)).1 K1 H2) ?_ ⟨rfl, trivial⟩ rfl ?_
    · have := ht p g1 B1 cb1 K1 S2 _ hp.symm hS2 (fun w' k => Sat.kp (i := 0) (hH2 w' k) rfl) hk1 (Nat.le_trans hb hs.size)
      simpa using this
    rintro _ _ ⟨A2, c2, H2, hsx, hR⟩
    replace hs := hB _ _ hsx
    clear hsx hB hH2 hM2 hB2 hS2
    rw [List.cons_append] at hs
    replace hs := St.tailSwap hs
    dsimp only [List.cons_append, List.nil_append] at hs
    obtain ⟨y, hy⟩ : ∃ y, (take (parts p)).2 = y := ⟨_, rfl⟩
    rw [hy] at hs ⊢
    obtain ⟨rows, e2⟩ := y
    unfold rdP rdV at hs
    dsimp only at hs
    unfold inR
    dsimp only
    by_cases he2 : e2 = 0
    · subst he2
      cases rows with
      | nil =>
        rw [if_neg (by simp)]
        refine wl_ns ?_; refine wc_seq ?_; refine wc_sr ?_; refine wl_mv rfl rfl ?_; apply wl_val; apply opv_nilOk; exact rfl; exact rfl; apply wl_val; apply opv_fa; exact fa_Rd1; exact rfl; exact rfl; apply wl_val; apply opv_ldX; exact rfl; exact hs.ar 0 rfl; exact g1_err; exact rfl; exact rfl; refine wl_bin rfl rfl bin_eql rfl ?_; refine wl_mv rfl rfl ?_; apply wl_take; exact rfl; exact rfl; exact rfl; refine bT ?_; omega; refine wl_mv rfl rfl ?_; apply wl_take; exact rfl; exact rfl; exact rfl; refine bT ?_; omega; apply wl_val; apply opv_nilOk; exact rfl; exact rfl; apply wl_take; exact rfl; exact rfl; exact rfl; refine bT ?_; omega; apply wl_val; apply opv_fa; exact fa_Rd0; exact rfl; exact rfl; apply wl_take; exact rfl; exact rfl; exact rfl; refine bT ?_; omega; apply wl_val; apply opv_ldX; exact rfl; exact hs.ar 0 rfl; exact g1_bbs; exact rfl; exact rfl; apply wl_take; exact rfl; exact rfl; exact rfl; refine bT ?_; omega; apply wl_val; apply opv_len; exact rfl; exact tyBB.sl; exact rfl; apply wl_take; exact rfl; exact rfl; exact rfl; refine bT ?_; omega; refine wl_bin rfl rfl bin_gtr rfl ?_; apply wl_val; apply opv_pickT; exact rfl; refine bT ?_; omega; exact rfl; exact rfl; refine wl_ns ?_; apply wc_condFb; exact rfl; exact rfl; refine wc_skip ?_; refine we_seq ?_; refine wc_region ?_; refine wl_mv rfl rfl ?_; refine wl_mv rfl rfl ?_; apply wl_val; apply opv_nilOk; exact rfl; exact rfl; apply wl_val; apply opv_fa; exact fa_Rd1; exact rfl; exact rfl; apply wl_val; apply opv_ldX; exact rfl; exact hs.ar 0 rfl; exact g1_err; exact rfl; exact rfl; apply wl_val; apply opv_nilOk; exact rfl; exact rfl; apply wl_val; apply opv_fa; exact fa_Rd1; exact rfl; exact rfl; apply ws_st hs 2; exact rfl; exact rfl; exact g1_err; exact rfl; exact rfl; exact rfl; clear hs; intro _ hs; dsimp only [setC, List.set] at hs; refine wl_nil ?_
        replace hs := (hs.drop 0 rfl).front 1 rfl
        exact we_end0 rfl ⟨_, rfl, A', c', hr0, .inr ⟨he, H2, K1, hR, hs⟩⟩
      | cons x xs =>
        rw [if_pos ⟨rfl, by simp⟩]
        have hlt : (0 : Int) < ((x :: xs).length : Int) := by rw [List.length_cons]; omega
        refine wl_ns ?_; refine wc_seq ?_; refine wc_sr ?_; refine wl_mv rfl rfl ?_; apply wl_val; apply opv_nilOk; exact rfl; exact rfl; apply wl_val; apply opv_fa; exact fa_Rd1; exact rfl; exact rfl; apply wl_val; apply opv_ldX; exact rfl; exact hs.ar 0 rfl; exact g1_err; exact rfl; exact rfl; refine wl_bin rfl rfl bin_eql rfl ?_; refine wl_mv rfl rfl ?_; apply wl_take; exact rfl; exact rfl; exact rfl; refine bT ?_; omega; refine wl_mv rfl rfl ?_; apply wl_take; exact rfl; exact rfl; exact rfl; refine bT ?_; omega; apply wl_val; apply opv_nilOk; exact rfl; exact rfl; apply wl_take; exact rfl; exact rfl; exact rfl; refine bT ?_; omega; apply wl_val; apply opv_fa; exact fa_Rd0; exact rfl; exact rfl; apply wl_take; exact rfl; exact rfl; exact rfl; refine bT ?_; omega; apply wl_val; apply opv_ldX; exact rfl; exact hs.ar 0 rfl; exact g1_bbs; exact rfl; exact rfl; apply wl_take; exact rfl; exact rfl; exact rfl; refine bT ?_; omega; apply wl_val; apply opv_len; exact rfl; exact tyBB.sl; exact rfl; apply wl_take; exact rfl; exact rfl; exact rfl; refine bT ?_; omega; refine wl_bin rfl rfl bin_gtr rfl ?_; apply wl_val; apply opv_pickT; exact rfl; refine bT ?_; omega; exact rfl; exact rfl; refine wl_ns ?_; apply wc_decT; exact rfl; (with_reducible assumption); refine wc_region ?_; refine wl_mv rfl rfl ?_; apply wl_val; apply opv_nilOk; exact rfl; exact rfl; apply wl_val; apply opv_fa; exact fa_Rd1; exact rfl; exact rfl; apply ws_st hs 0; exact rfl; exact rfl; exact g1_err; exact rfl; exact rfl; exact rfl; clear hs; intro _ hs; dsimp only [setC, List.set] at hs; refine wl_ns ?_; refine wc_region ?_; refine wl_mv rfl rfl ?_; refine wl_mv rfl rfl ?_; apply wl_val; apply opv_nilOk; exact rfl; exact rfl; apply wl_val; apply opv_fa; exact fa_Rd1; exact rfl; exact rfl; apply wl_val; apply opv_ldX; exact rfl; exact hs.ar 0 rfl; exact g1_err; exact rfl; exact rfl; apply wl_val; apply opv_nilOk; exact rfl; exact rfl; apply wl_val; apply opv_fa; exact fa_Rd1; exact rfl; exact rfl; apply ws_st hs 2; exact rfl; exact rfl; exact g1_err; exact rfl; exact rfl; exact rfl; clear hs; intro _ hs; dsimp only [setC, List.set] at hs; refine wl_nil ?_
        replace hs := (hs.drop 0 rfl).front 1 rfl
        exact we_end0 rfl ⟨_, rfl, A', c', hr0, .inr ⟨he, H2, K1, hR, hs⟩⟩
    · rw [if_neg (fun k => he2 k.1)]
      refine wl_ns ?_; refine wc_seq ?_; refine wc_sr ?_; refine wl_mv rfl rfl ?_; apply wl_val; apply opv_nilOk; exact rfl; exact rfl; apply wl_val; apply opv_fa; exact fa_Rd1; exact rfl; exact rfl; apply wl_val; apply opv_ldX; exact rfl; exact hs.ar 0 rfl; exact g1_err; exact rfl; exact rfl; refine wl_bin rfl rfl bin_eql rfl ?_; refine wl_mv rfl rfl ?_; apply wl_skip; exact rfl; exact rfl; exact rfl; refine bFn ?_; omega; exact rfl; apply wl_skip; exact rfl; exact rfl; exact rfl; refine bFn ?_; omega; exact rfl; apply wl_skip; exact rfl; exact rfl; exact rfl; refine bFn ?_; omega; exact rfl; apply wl_skip; exact rfl; exact rfl; exact rfl; refine bFn ?_; omega; exact rfl; apply wl_skip; exact rfl; exact rfl; exact rfl; refine bFn ?_; omega; exact rfl; apply wl_skip; exact rfl; exact rfl; exact rfl; refine bFn ?_; omega; exact rfl; apply wl_val; apply opv_pickF; exact rfl; refine bF ?_; omega; exact rfl; exact rfl; refine wl_ns ?_; apply wc_condFb; exact rfl; exact rfl; refine wc_skip ?_; refine we_seq ?_; refine wc_region ?_; refine wl_mv rfl rfl ?_; refine wl_mv rfl rfl ?_; apply wl_val; apply opv_nilOk; exact rfl; exact rfl; apply wl_val; apply opv_fa; exact fa_Rd1; exact rfl; exact rfl; apply wl_val; apply opv_ldX; exact rfl; exact hs.ar 0 rfl; exact g1_err; exact rfl; exact rfl; apply wl_val; apply opv_nilOk; exact rfl; exact rfl; apply wl_val; apply opv_fa; exact fa_Rd1; exact rfl; exact rfl; apply ws_st hs 2; exact rfl; exact rfl; exact g1_err; exact rfl; exact rfl; exact rfl; clear hs; intro _ hs; dsimp only [setC, List.set] at hs; refine wl_nil ?_
      replace hs := (hs.drop 0 rfl).front 1 rfl
      exact we_end0 rfl ⟨_, rfl, A', c', hr0, .inr ⟨he, H2, K1, hR, hs⟩⟩
  · rw [if_neg he]
    apply wc_decT; exact rfl; omega; refine wc_ret ?_; refine we_seq_ret ?_
    replace hs := (hs.drop 0 rfl).drop 0 rfl
    exact we_ret0 rfl ⟨_, rfl, A', c', hr0, .inl ⟨he, hs⟩⟩
end Go.Proofs.Ytaacnknniaipmaa

/-
  The walk over the function that takes a message.
-/
namespace Go.Proofs.Ytaacnknniaipmaa
open Go.RowKit

theorem parts_sizeX (b : By) : (parts b).1.length + (parts b).1.flatten.length ≤ b.length := partsF_size b.length b 0 [] (by omega) (by simp)
theorem parts_le {b x : By} (h : x ∈ (parts b).1) : x.length ≤ b.length := by
  have h1 := parts_sizeX b
  have h2 := mem_flat h
  omega
theorem words_rest {r : Rd1} {n m : Nat} (hl : ∀ p ∈ r.1, p.length ≤ m) : ∀ p ∈ (wordsR n r).2.1, p.length ≤ m := next_rest hl
theorem ints_rest {r : Rd1} {n m : Nat} (hl : ∀ p ∈ r.1, p.length ≤ m) : ∀ p ∈ (intsR n r).2.1, p.length ≤ m := next_rest hl
theorem truth_rest {r : Rd1} {n : Int} {m : Nat} (hl : ∀ p ∈ r.1, p.length ≤ m) : ∀ p ∈ (truthR n r).2.1, p.length ≤ m := by
  unfold truthR
  split <;> exact hl
theorem next_cnt (r : Rd1) : (nextR r).2.1.length ≤ r.1.length := by
  unfold nextR
  split
  · split
    · simp
    · rename_i p ps heq
      rw [heq, List.length_cons]; simp
  · simp
theorem next_cnt1 {r : Rd1} (h : r.2 = 0 ∧ r.1 ≠ []) : (nextR r).2.1.length + 1 = r.1.length := by
  obtain ⟨l, e⟩ := r
  obtain ⟨rfl, h2⟩ := h
  cases l with
  | nil => exact absurd rfl h2
  | cons p ps => rfl
theorem words_cnt (n : Nat) (r : Rd1) : (wordsR n r).2.1.length ≤ r.1.length := next_cnt r
theorem ints_cnt (n : Nat) (r : Rd1) : (intsR n r).2.1.length ≤ r.1.length := next_cnt r
theorem truth_cnt (n : Int) (r : Rd1) : (truthR n r).2.1.length ≤ r.1.length := by
  unfold truthR
  split <;> exact Nat.le_refl _
theorem get4 {α : Type} {l : List α} {z : α} (h : l.length = 4) : l = [l.getD 0 z, l.getD 1 z, l.getD 2 z, l.getD 3 z] := by
  match l, h with
  | [a, b, c, d], _ => rfl
theorem get1 {α : Type} {l : List α} {z : α} (h : l.length = 1) : l = [l.getD 0 z] := by
  match l, h with
  | [a], _ => rfl
theorem truth_known {K : World → Prop} {base : Nat} {A : Option Addr} {c : Nat} {n : Int} {r : Rd1} (h : RdK K base A c r.1) : RdK K base A c (truthR n r).2.1 := by
  unfold truthR
  split <;> exact h
/-- The entries as groups of cells, with memory of their own. -/
def EntK (K : World → Prop) (base : Nat) (ents : List (Nat × By)) (css : List (List Value)) : Prop :=
  css.length = ents.length ∧ ∀ (i : Nat) (e : Nat × By), ents[i]? = some e → ∃ (D : Option Addr) (d : Nat), css[i]? = some (enV e D d) ∧ ∀ w, K w → OwB w base D d e.2
theorem EntK.nil (K : World → Prop) (base : Nat) : EntK K base [] [] := ⟨rfl, fun i e h => by simp at h⟩
theorem EntK.snoc {K : World → Prop} {base : Nat} {ents : List (Nat × By)} {css : List (List Value)} (h : EntK K base ents css) {e : Nat × By} {D : Option Addr} {d : Nat} (he : ∀ w, K w → OwB w base D d e.2) : EntK K base (ents ++ [e]) (css ++ [enV e D d]) := by
  obtain ⟨hl, h⟩ := h
  refine ⟨by simp [hl], fun i x hi => ?_⟩
  rcases Nat.lt_or_ge i ents.length with hlt | hge
  · rw [List.getElem?_append_left hlt] at hi
    rw [List.getElem?_append_left (by omega)]
    exact h i x hi
  · rw [List.getElem?_append_right hge] at hi
    obtain ⟨h0, h1⟩ := List.getElem?_eq_some_iff.1 hi
    have h0' : i - ents.length = 0 := by simpa using h0
    simp only [h0', List.getElem_cons_zero] at h1
    subst h1
    exact ⟨D, d, by rw [List.getElem?_append_right (by omega), show i - css.length = 0 by omega]; rfl, he⟩
def zMs : List Value := msV zMsg none 0 none 0
theorem zeroMs : (Try.prog.info? 34).map (·.zero) = some (some (.agg zMs.toArray)) := by kernel_rfl
def MsI (S : BS) (w : World) (K : World → Prop) (base g gm : Nat) (m : MsgM) (M : Option Addr) (cm : Nat) (r0 : Rd1) : FL → World → Nat → Prop := fun L wr f =>
  ∃ (r : Rd1) (pre : List (Nat × By)) (css : List (List Value)) (E : Option Addr) (ce : Nat) (A : Option Addr) (c : Nat), L = [(0, .pointer (some ⟨g, 0, none⟩)), (1, .pointer (some ⟨gm, 0, none⟩))] ∧
    entsA r0 = (pre ++ (entsR f r).1, (entsR f r).2) ∧ r.1.length ≤ f ∧ pre.length + f ≤ 1099511627776 ∧ (∀ p ∈ r.1, p.length ≤ 1099511627776) ∧ RdK K base A c r.1 ∧ EntK K base pre css ∧
    St S w wr [rdP g A c r, .blk gm 34 (msV { m with ents := pre } E ce M cm), .rg 2 166 E ce (css.map rawEl)]
set_option maxHeartbeats 4000000 in
set_option maxRecDepth 8000 in
theorem msg1_any {g gm base : Nat} {A : Option Addr} {c : Nat} {r : Rd1} {S : BS} {w : World} {K : World → Prop} (h0 : Sat w [rdP g A c r, .blk gm 34 zMs] S) (hK : ∀ w', Mod S w w' → K w') (hr : RdK K base A c r.1) (hl : ∀ p ∈ r.1, p.length ≤ 1099511627776) (hlr : r.1.length ≤ 1099511627776) :
    CallsV Try.prog 92 #[.pointer (some ⟨g, 0, none⟩), .pointer (some ⟨gm, 0, none⟩)] w fun _ w' => ∃ (A' : Option Addr) (c' : Nat) (E : Option Addr) (ce : Nat) (M : Option Addr) (cm : Nat) (css : List (List Value)),
      St S w w' [rdP g A' c' (msgT r).2, .blk gm 34 (msV (msgT r).1 E ce M cm), .rg 2 166 E ce (css.map rawEl)] ∧ EntK K base (msgT r).1.ents css ∧ ∀ w, K w → OwB w base M cm (msgT r).1.data := by
  have hs := St.start h0
  have hmax : maxLen = 9223372036854775807 := rfl
  unfold msgT
  dsimp only
  refine calls_in (N := _) Try.func92 rfl Try.ntmps92 rfl ?_; show WC _ _ _ _ _ _
  refine wc_sr ?_; refine wl_mv rfl rfl ?_
  obtain ⟨S2, hS2, hB2, hM2, hH2, hB⟩ := St.lend (H1 := [rdP g A c r]) (H2 := [_]) hs
  refine wl_call ok_session_reader_ints (srints_any (n := 4) hS2 (fun w' k => hK w' (hM2 w' k)) hr (by decide) hl) ⟨rfl, rfl, trivial⟩ rfl ?_
  rintro _ _ ⟨O, co, A1, c1, rfl, hr1, hsx⟩
  replace hs := hB _ _ hsx
  clear hsx hB hH2 hM2 hB2 hS2
  dsimp only [List.cons_append, List.nil_append] at hs
  obtain ⟨⟨ns, r1⟩, hx1⟩ : ∃ x, intsR 4 r = x := ⟨_, rfl⟩
  have hn4 : ns.length = 4 := by have := intsR_len 4 r; rw [hx1] at this; exact this
  have hl1 : ∀ p ∈ r1.1, p.length ≤ 1099511627776 := by have := ints_rest (n := 4) hl; rw [hx1] at this; exact this
  have hq1 : r1.1.length ≤ r.1.length := by have := ints_cnt 4 r; rw [hx1] at this; exact this
  rw [hx1] at hs hr1 ⊢
  dsimp only at hs hr1 ⊢
  replace hs := hs.front 1 rfl
  dsimp only [delC] at hs
  refine wl_as rfl rfl ?_; refine wl_ns ?_; refine wc_sr ?_; refine wl_mv rfl rfl ?_
  obtain ⟨S2, hS2, hB2, hM2, hH2, hB⟩ := St.lend (H1 := [rdP g A1 c1 r1]) (H2 := [_, _]) hs
  refine wl_call ok_session_reader_words (swords_any (n := 4) hS2 (fun w' k => hK w' (hM2 w' k)) hr1 (by decide) hl1) ⟨rfl, rfl, trivial⟩ rfl ?_
  rintro _ _ ⟨O2, co2, A2, c2, rfl, hr2, hsx⟩
  replace hs := hB _ _ hsx
  clear hsx hB hH2 hM2 hB2 hS2
  dsimp only [List.cons_append, List.nil_append] at hs
  obtain ⟨⟨ws, r2⟩, hx2⟩ : ∃ x, wordsR 4 r1 = x := ⟨_, rfl⟩
  have hw4 : ws.length = 4 := by have := wordsR_len 4 r1; rw [hx2] at this; exact this
  have hl2 : ∀ p ∈ r2.1, p.length ≤ 1099511627776 := by have := words_rest (n := 4) hl1; rw [hx2] at this; exact this
  have hq2 : r2.1.length ≤ r1.1.length := by have := words_cnt 4 r1; rw [hx2] at this; exact this
  rw [hx2] at hs hr2 ⊢
  dsimp only at hs hr2 ⊢
  replace hs := hs.front 1 rfl
  dsimp only [delC] at hs
  generalize hn0 : ns.getD 0 0 = n0
  generalize hn1 : ns.getD 1 0 = n1
  generalize hn2 : ns.getD 2 0 = n2
  generalize hn3 : ns.getD 3 0 = n3
  generalize hm0 : ws.getD 0 0 = w0
  generalize hm1 : ws.getD 1 0 = w1
  generalize hm2 : ws.getD 2 0 = w2
  generalize hm3 : ws.getD 3 0 = w3
  have hns : ns = [n0, n1, n2, n3] := by rw [← hn0, ← hn1, ← hn2, ← hn3]; exact get4 hn4
  have hws : ws = [w0, w1, w2, w3] := by rw [← hm0, ← hm1, ← hm2, ← hm3]; exact get4 hw4
  clear hn0 hn1 hn2 hn3 hm0 hm1 hm2 hm3
  subst hns hws
  clear hn4 hw4
  have hi0 : (iVs [n0, n1, n2, n3])[0]? = some (.int .i64 n0) := rfl
  have hi1 : (iVs [n0, n1, n2, n3])[1]? = some (.int .i64 n1) := rfl
  have hi2 : (iVs [n0, n1, n2, n3])[2]? = some (.int .i64 n2) := rfl
  have hi3 : (iVs [n0, n1, n2, n3])[3]? = some (.int .i64 n3) := rfl
  have hj0 : (wVs [w0, w1, w2, w3])[0]? = some (.int .u64 (w0 : Int)) := rfl
  have hj1 : (wVs [w0, w1, w2, w3])[1]? = some (.int .u64 (w1 : Int)) := rfl
  have hj2 : (wVs [w0, w1, w2, w3])[2]? = some (.int .u64 (w2 : Int)) := rfl
  have hj3 : (wVs [w0, w1, w2, w3])[3]? = some (.int .u64 (w3 : Int)) := rfl
  refine wl_as rfl rfl ?_; refine wl_ns ?_; refine wc_seq ?_
  refine wc_heldG (fun w' => Rd w' O 4 (iVs [n0, n1, n2, n3]) ∧ Rd w' O2 4 (wVs [w0, w1, w2, w3])) 46 mixed ?_
  replace hs := hs.below (Below.refl _ _).drew
  have hS := And.intro (hs.ow 2 rfl).rd (hs.ow 1 rfl).rd
  apply wm_take 0; exact rfl; intro _ hw_; apply opv_move; exact rfl; exact rfl; kernel_rfl; exact hS; apply wm_take 1; exact rfl; intro _ hw_; apply opv_idxR (T := tyIs) (hr := hw_.1) (hu := hi0); exact rfl; exact rfl; exact rfl; exact rfl; kernel_rfl; exact hS; apply wm_take 2; exact rfl; intro _ hw_; refine opv_loadR tyIs rfl hw_.1 hi0; exact rfl; kernel_rfl; exact hS; apply wm_take 3; exact rfl; intro _ hw_; apply opv_move; exact rfl; exact rfl; kernel_rfl; exact hS; apply wm_take 4; exact rfl; intro _ hw_; apply opv_idxR (T := tyIs) (hr := hw_.1) (hu := hi1); exact rfl; exact rfl; exact rfl; exact rfl; kernel_rfl; exact hS; apply wm_take 5; exact rfl; intro _ hw_; refine opv_loadR tyIs rfl hw_.1 hi1; exact rfl; kernel_rfl; exact hS; apply wm_take 6; exact rfl; intro _ hw_; apply opv_move; exact rfl; exact rfl; kernel_rfl; exact hS; apply wm_take 7; exact rfl; intro _ hw_; apply opv_idxR (T := tyIs) (hr := hw_.1) (hu := hi2); exact rfl; exact rfl; exact rfl; exact rfl; kernel_rfl; exact hS; apply wm_take 8; exact rfl; intro _ hw_; refine opv_loadR tyIs rfl hw_.1 hi2; exact rfl; kernel_rfl; exact hS; apply wm_takeP 9; exact rfl; intro _; apply opv_move; exact rfl; exact rfl; kernel_rfl; exact fun _ => hS; apply wm_take 10; exact rfl; intro _ hw_; apply opv_move; exact rfl; exact rfl; kernel_rfl; exact hS; apply wm_take 11; exact rfl; intro _ hw_; apply opv_idxR (T := tyIs) (hr := hw_.1) (hu := hi3); exact rfl; exact rfl; exact rfl; exact rfl; kernel_rfl; exact hS; apply wm_take 12; exact rfl; intro _ hw_; refine opv_loadR tyIs rfl hw_.1 hi3; exact rfl; kernel_rfl; exact hS; apply wm_take 14; exact rfl; intro _ hw_; apply opv_move; exact rfl; exact rfl; kernel_rfl; exact hS; apply wm_take 15; exact rfl; intro _ hw_; apply opv_idxR (T := tyWs) (hr := hw_.2) (hu := hj0); exact rfl; exact rfl; exact rfl; exact rfl; kernel_rfl; exact hS; apply wm_take 16; exact rfl; intro _ hw_; refine opv_loadR tyWs rfl hw_.2 hj0; exact rfl; kernel_rfl; exact hS; apply wm_take 17; exact rfl; intro _ hw_; apply opv_move; exact rfl; exact rfl; kernel_rfl; exact hS; apply wm_take 18; exact rfl; intro _ hw_; apply opv_idxR (T := tyWs) (hr := hw_.2) (hu := hj1); exact rfl; exact rfl; exact rfl; exact rfl; kernel_rfl; exact hS; apply wm_take 19; exact rfl; intro _ hw_; refine opv_loadR tyWs rfl hw_.2 hj1; exact rfl; kernel_rfl; exact hS; apply wm_take 20; exact rfl; intro _ hw_; apply opv_move; exact rfl; exact rfl; kernel_rfl; exact hS; apply wm_take 21; exact rfl; intro _ hw_; apply opv_idxR (T := tyWs) (hr := hw_.2) (hu := hj2); exact rfl; exact rfl; exact rfl; exact rfl; kernel_rfl; exact hS; apply wm_take 22; exact rfl; intro _ hw_; refine opv_loadR tyWs rfl hw_.2 hj2; exact rfl; kernel_rfl; exact hS; apply wm_take 23; exact rfl; intro _ hw_; apply opv_move; exact rfl; exact rfl; kernel_rfl; exact hS; apply wm_take 24; exact rfl; intro _ hw_; apply opv_idxR (T := tyWs) (hr := hw_.2) (hu := hj3); exact rfl; exact rfl; exact rfl; exact rfl; kernel_rfl; exact hS; apply wm_take 25; exact rfl; intro _ hw_; refine opv_loadR tyWs rfl hw_.2 hj3; exact rfl; kernel_rfl; exact hS; apply wm_takeP 26; exact rfl; intro _; apply opv_move; exact rfl; exact rfl; kernel_rfl; exact fun _ => hS
  clear hS
  refine wm_one 13 (by kernel_rfl) rfl ?_; dsimp only [List.getElem_toArray, List.getElem_cons_succ, List.getElem_cons_zero]
  obtain ⟨S2, hS2, hB2, hM2, hH2, hB⟩ := St.lend (H1 := [rdP g A2 c2 r2]) (H2 := [_, _, _]) hs
  refine wl_call ok_session_reader_truth (sstruth_any (n := n3) hS2) ⟨rfl, rfl, trivial⟩ rfl ?_
  rintro _ _ ⟨rfl, hsx⟩
  replace hs := hB _ _ hsx
  clear hsx hB hH2 hM2 hB2 hS2
  dsimp only [List.cons_append, List.nil_append] at hs
  have hr3 := truth_known (n := n3) hr2
  have hl3 := truth_rest (n := n3) hl2
  have hq3 := truth_cnt n3 r2
  obtain ⟨⟨tb, r3⟩, hx3⟩ : ∃ x, truthR n3 r2 = x := ⟨_, rfl⟩
  rw [hx3] at hs hr3 hl3 hq3 ⊢
  dsimp only at hs hr3 hl3 hq3 ⊢
  refine wl_nil ?_
  refine we_heldM (fun _ => ⟨(hs.ow 2 rfl).rd, (hs.ow 1 rfl).rd⟩) ?_
  refine wm_one 27 (by kernel_rfl) rfl ?_; dsimp only [List.getElem_toArray, List.getElem_cons_succ, List.getElem_cons_zero]
  obtain ⟨S2, hS2, hB2, hM2, hH2, hB⟩ := St.lend (H1 := [rdP g A2 c2 r3]) (H2 := [_, _, _]) hs
  refine wl_call ok_session_reader_next (snext_any hS2 (fun w' k => hK w' (hM2 w' k)) hr3) ⟨rfl, trivial⟩ rfl ?_
  rintro _ _ ⟨M, cm, A4, c4, rfl, hM0, hr4, hsx⟩
  replace hs := hB _ _ hsx
  clear hsx hB hH2 hM2 hB2 hS2
  dsimp only [List.cons_append, List.nil_append] at hs
  have hl4 := next_rest hl3
  have hq4 := next_cnt r3
  obtain ⟨⟨dt, r4⟩, hx4⟩ : ∃ x, nextR r3 = x := ⟨_, rfl⟩
  rw [hx4] at hs hM0 hr4 hl4 hq4 ⊢
  dsimp only at hs hM0 hr4 hl4 hq4 ⊢
  refine wl_nil ?_
  refine we_heldM (fun _ => ⟨(hs.ow 2 rfl).rd, (hs.ow 1 rfl).rd⟩) ?_
  unfold zMs at hs
  refine wm_one 28 (by kernel_rfl) rfl ?_; dsimp only [List.getElem_toArray, List.getElem_cons_succ, List.getElem_cons_zero]
  apply ws_stS hs 3; exact rfl; exact rfl; exact rfl; exact sMs; exact rfl; exact rfl; clear hs; intro _ hs; dsimp only [setC] at hs; refine wl_nil ?_
  refine we_heldM (fun _ => ⟨(hs.ow 2 rfl).rd, (hs.ow 1 rfl).rd⟩) ?_
  have hS := And.intro (hs.ow 2 rfl).rd (hs.ow 1 rfl).rd
  apply wm_takeP 29; exact rfl; intro _; apply opv_fa; exact fa_sMs (by decide); exact rfl; exact rfl; kernel_rfl; exact fun _ => hS
  clear hS
  refine wm_one 30 (by kernel_rfl) rfl ?_; dsimp only [List.getElem_toArray, List.getElem_cons_succ, List.getElem_cons_zero]
  apply ws_st hs 3; exact rfl; exact rfl; exact g1_int; exact rfl; exact rfl; exact rfl; clear hs; intro _ hs; dsimp only [setC, List.set] at hs; refine wl_nil ?_
  refine we_heldM (fun _ => ⟨(hs.ow 2 rfl).rd, (hs.ow 1 rfl).rd⟩) ?_
  have hS := And.intro (hs.ow 2 rfl).rd (hs.ow 1 rfl).rd
  apply wm_takeP 31; exact rfl; intro _; apply opv_fa; exact fa_sMs (by decide); exact rfl; exact rfl; kernel_rfl; exact fun _ => hS
  clear hS
  refine wm_one 32 (by kernel_rfl) rfl ?_; dsimp only [List.getElem_toArray, List.getElem_cons_succ, List.getElem_cons_zero]
  apply ws_st hs 3; exact rfl; exact rfl; exact g1_int; exact rfl; exact rfl; exact rfl; clear hs; intro _ hs; dsimp only [setC, List.set] at hs; refine wl_nil ?_
  refine we_heldM (fun _ => ⟨(hs.ow 2 rfl).rd, (hs.ow 1 rfl).rd⟩) ?_
  have hS := And.intro (hs.ow 2 rfl).rd (hs.ow 1 rfl).rd
  apply wm_takeP 33; exact rfl; intro _; apply opv_fa; exact fa_sMs (by decide); exact rfl; exact rfl; kernel_rfl; exact fun _ => hS
  clear hS
  refine wm_one 34 (by kernel_rfl) rfl ?_; dsimp only [List.getElem_toArray, List.getElem_cons_succ, List.getElem_cons_zero]
  apply ws_st hs 3; exact rfl; exact rfl; exact g1_int; exact rfl; exact rfl; exact rfl; clear hs; intro _ hs; dsimp only [setC, List.set] at hs; refine wl_nil ?_
  refine we_heldM (fun _ => ⟨(hs.ow 2 rfl).rd, (hs.ow 1 rfl).rd⟩) ?_
  have hS := And.intro (hs.ow 2 rfl).rd (hs.ow 1 rfl).rd
  apply wm_takeP 35; exact rfl; intro _; apply opv_fa; exact fa_sMs (by decide); exact rfl; exact rfl; kernel_rfl; exact fun _ => hS
  clear hS
  refine wm_one 36 (by kernel_rfl) rfl ?_; dsimp only [List.getElem_toArray, List.getElem_cons_succ, List.getElem_cons_zero]
  apply ws_st hs 3; exact rfl; exact rfl; exact g1_bool; exact rfl; exact rfl; exact rfl; clear hs; intro _ hs; dsimp only [setC, List.set] at hs; refine wl_nil ?_
  refine we_heldM (fun _ => ⟨(hs.ow 2 rfl).rd, (hs.ow 1 rfl).rd⟩) ?_
  have hS := And.intro (hs.ow 2 rfl).rd (hs.ow 1 rfl).rd
  apply wm_takeP 37; exact rfl; intro _; apply opv_fa; exact fa_sMs (by decide); exact rfl; exact rfl; kernel_rfl; exact fun _ => hS
  clear hS
  refine wm_one 38 (by kernel_rfl) rfl ?_; dsimp only [List.getElem_toArray, List.getElem_cons_succ, List.getElem_cons_zero]
  apply ws_st hs 3; exact rfl; exact rfl; exact g1_u64; exact rfl; exact rfl; exact rfl; clear hs; intro _ hs; dsimp only [setC, List.set] at hs; refine wl_nil ?_
  refine we_heldM (fun _ => ⟨(hs.ow 2 rfl).rd, (hs.ow 1 rfl).rd⟩) ?_
  have hS := And.intro (hs.ow 2 rfl).rd (hs.ow 1 rfl).rd
  apply wm_takeP 39; exact rfl; intro _; apply opv_fa; exact fa_sMs (by decide); exact rfl; exact rfl; kernel_rfl; exact fun _ => hS
  clear hS
  refine wm_one 40 (by kernel_rfl) rfl ?_; dsimp only [List.getElem_toArray, List.getElem_cons_succ, List.getElem_cons_zero]
  apply ws_st hs 3; exact rfl; exact rfl; exact g1_u64; exact rfl; exact rfl; exact rfl; clear hs; intro _ hs; dsimp only [setC, List.set] at hs; refine wl_nil ?_
  refine we_heldM (fun _ => ⟨(hs.ow 2 rfl).rd, (hs.ow 1 rfl).rd⟩) ?_
  have hS := And.intro (hs.ow 2 rfl).rd (hs.ow 1 rfl).rd
  apply wm_takeP 41; exact rfl; intro _; apply opv_fa; exact fa_sMs (by decide); exact rfl; exact rfl; kernel_rfl; exact fun _ => hS
  clear hS
  refine wm_one 42 (by kernel_rfl) rfl ?_; dsimp only [List.getElem_toArray, List.getElem_cons_succ, List.getElem_cons_zero]
  apply ws_st hs 3; exact rfl; exact rfl; exact g1_u64; exact rfl; exact rfl; exact rfl; clear hs; intro _ hs; dsimp only [setC, List.set] at hs; refine wl_nil ?_
  refine we_heldM (fun _ => ⟨(hs.ow 2 rfl).rd, (hs.ow 1 rfl).rd⟩) ?_
  have hS := And.intro (hs.ow 2 rfl).rd (hs.ow 1 rfl).rd
  apply wm_takeP 43; exact rfl; intro _; apply opv_fa; exact fa_sMs (by decide); exact rfl; exact rfl; kernel_rfl; exact fun _ => hS
  clear hS
  refine wm_one 44 (by kernel_rfl) rfl ?_; dsimp only [List.getElem_toArray, List.getElem_cons_succ, List.getElem_cons_zero]
  apply ws_st hs 3; exact rfl; exact rfl; exact g1_u64; exact rfl; exact rfl; exact rfl; clear hs; intro _ hs; dsimp only [setC, List.set] at hs; refine wl_nil ?_
  refine we_heldM (fun _ => ⟨(hs.ow 2 rfl).rd, (hs.ow 1 rfl).rd⟩) ?_
  have hS := And.intro (hs.ow 2 rfl).rd (hs.ow 1 rfl).rd
  apply wm_takeP 45; exact rfl; intro _; apply opv_fa; exact fa_sMs (by decide); exact rfl; exact rfl; kernel_rfl; exact fun _ => hS
  clear hS
  refine wm_one 46 (by kernel_rfl) rfl ?_; dsimp only [List.getElem_toArray, List.getElem_cons_succ, List.getElem_cons_zero]
  apply ws_st hs 3; exact rfl; exact rfl; exact g1_by; exact rfl; exact rfl; exact rfl; clear hs; intro _ hs; dsimp only [setC, List.set] at hs; refine wl_nil ?_
  refine we_heldM (fun h => absurd h (by decide)) ?_
  refine wm_done (by kernel_rfl) ?_
  replace hs := (((hs.drop 1 rfl).drop 1 rfl).nilG 2 166).front 1 rfl
  dsimp only [delC] at hs
  replace hs := hs.front 2 rfl
  dsimp only [delC] at hs
  replace hs := hs.front 1 rfl
  dsimp only [delC] at hs
  refine we_seq ?_; refine wc_block ?_
  refine wc_loop (MsI S w K base g gm ⟨n0, n1, n2, w0, w1, w2, w3, [], tb, dt⟩ M cm r4) [(0, .pointer (some ⟨g, 0, none⟩)), (1, .pointer (some ⟨gm, 0, none⟩))] r4.1.length ⟨r4, [], [], none, 0, A4, c4, rfl, rfl, Nat.le_refl _, by simp; omega, hl4, hr4, EntK.nil _ _, hs⟩ ⟨rfl, rfl, trivial⟩ ?_
  clear hs hr4 hl4
  rintro _ w5 f ⟨r5, pre, css, E, ce, A5, c5, rfl, hent, hf, hpf, hl5, hr5, hEK, hs⟩
  have hkl := hEK.1
  refine wc_seq ?_; refine wc_sr ?_; refine wl_mv rfl rfl ?_
  refine wl_call ok_session_reader_more (smore_any (hs.ar 0 rfl)) ⟨rfl, trivial⟩ rfl ?_
  rintro _ _ ⟨rfl, rfl⟩
  refine wl_ns ?_
  refine wc_cond rfl (fun h1 => ?_) (fun h1 => ?_)
  · have hcn := next_cnt1 h1
    obtain ⟨f, rfl⟩ : ∃ f', f = f' + 1 := ⟨f - 1, by omega⟩
    rw [entsR, if_pos h1] at hent
    refine wc_skip ?_; refine we_seq ?_; refine wc_block ?_; refine wc_sr ?_; refine wl_mv rfl rfl ?_
    obtain ⟨S2, hS2, hB2, hM2, hH2, hB⟩ := St.lend (H1 := [rdP g A5 c5 r5]) (H2 := [_, _]) hs
    refine wl_call ok_session_reader_words (swords_any (n := 1) hS2 (fun w' k => hK w' (hM2 w' k)) hr5 (by decide) hl5) ⟨rfl, rfl, trivial⟩ rfl ?_
    rintro _ _ ⟨O3, co3, A6, c6, rfl, hr6, hsx⟩
    replace hs := hB _ _ hsx
    clear hsx hB hH2 hM2 hB2 hS2
    dsimp only [List.cons_append, List.nil_append] at hs
    obtain ⟨⟨us, r6⟩, hx6⟩ : ∃ x, wordsR 1 r5 = x := ⟨_, rfl⟩
    have hu1 : us.length = 1 := by have := wordsR_len 1 r5; rw [hx6] at this; exact this
    have hl6 : ∀ p ∈ r6.1, p.length ≤ 1099511627776 := by have := words_rest (n := 1) hl5; rw [hx6] at this; exact this
    have hq6 : r6.1.length + 1 = r5.1.length := by have := hcn; have h7 : (wordsR 1 r5).2.1 = (nextR r5).2.1 := rfl; rw [hx6] at h7; dsimp only at h7; rw [h7]; exact this
    rw [hx6] at hs hr6 hent
    dsimp only at hs hr6 hent
    generalize hu0 : us.getD 0 0 = u0 at hent
    obtain rfl : us = [u0] := by rw [← hu0]; exact get1 hu1
    clear hu0 hu1
    refine wl_val (opv_idxR (kk := 0) (u := .int .u64 (u0 : Int)) tyWs rfl rfl (hs.ow 0 rfl).rd rfl rfl) rfl ?_
    refine wl_val (opv_loadR (kk := 0) (u := .int .u64 (u0 : Int)) tyWs rfl (hs.ow 0 rfl).rd rfl) rfl ?_
    skip
    refine wl_val (opv_build (vs := [(0, .int .u64 (u0 : Int))]) (cs := [.int .u64 (u0 : Int), .slice none 0 0]) ⟨rfl, rfl, trivial⟩ (by kernel_rfl)) rfl ?_
    refine ws_var (cs := [.int .u64 (u0 : Int), .slice none 0 0]) hs zeroEn sEn rfl (fun _ => rfl) (by first | rfl | simp [Value.oneCell']) rfl ?_; clear hs; intro g5 _ hs
    replace hs := hs.front 2 rfl
    dsimp only [delC] at hs
    refine wl_ns ?_; refine wc_sr ?_; refine wl_mv rfl rfl ?_
    obtain ⟨S2, hS2, hB2, hM2, hH2, hB⟩ := St.lend (H1 := [rdP g A6 c6 r6]) (H2 := [_, _, _, _]) hs
    refine wl_call ok_session_reader_next (snext_any hS2 (fun w' k => hK w' (hM2 w' k)) hr6) ⟨rfl, trivial⟩ rfl ?_
    rintro _ _ ⟨D, cd, A7, c7, rfl, hD0, hr7, hsx⟩
    replace hs := hB _ _ hsx
    clear hsx hB hH2 hM2 hB2 hS2
    dsimp only [List.cons_append, List.nil_append] at hs
    have hl7 := next_rest hl6
    have hq7 := next_cnt r6
    obtain ⟨⟨dv, r7⟩, hx7⟩ : ∃ x, nextR r6 = x := ⟨_, rfl⟩
    rw [hx7] at hs hD0 hr7 hl7 hq7 hent ⊢
    dsimp only at hs hD0 hr7 hl7 hq7 hent ⊢
    unfold msV at hs
    dsimp only at hs
    apply wl_val; apply opv_fa; exact fa_sEn (by decide); exact rfl; exact rfl; apply ws_st hs 1; exact rfl; exact rfl; exact g1_by; exact rfl; exact rfl; exact rfl; clear hs; intro _ hs; dsimp only [setC, List.set] at hs; refine wl_ns ?_; refine wc_region ?_; apply wl_val; apply opv_fa; exact fa_sMs (by decide); exact rfl; exact rfl; apply wl_val; apply opv_ldX; exact rfl; exact hs.ar 3 rfl; exact g1_ens; exact rfl; exact rfl; apply wl_val; apply opv_loadX; exact rfl; exact hs.ar 1 rfl; exact sEn; exact rfl
    refine ws_pushR (cs := [.int .u64 (u0 : Int), .slice D dv.length cd]) hs 4 (fun _ => rfl) rfl tkEn (by simp [hkl]) ⟨_, rfl, rfl⟩ rfl rfl (by decide) (by omega) (by simp only [maxLen]; omega) rfl rfl ?_
    clear hs; intro _ E2 ce2 _ hs; dsimp only [setC] at hs
    rw [show css.map rawEl ++ [rawEl [.int .u64 (u0 : Int), .slice D dv.length cd]] = (css ++ [enV (u0, dv) D cd]).map rawEl by simp [enV]] at hs
    apply wl_val; apply opv_fa; exact fa_sMs (by decide); exact rfl; exact rfl; apply ws_st hs 3; exact rfl; exact rfl; exact g1_ens; exact rfl; exact rfl; exact rfl; clear hs; intro _ hs; dsimp only [setC, List.set] at hs; refine wl_nil ?_; refine we_block_norm ?_
    replace hs := (hs.drop 1 rfl).drop 1 rfl
    dsimp only [delC] at hs
    refine we_loop _ f ⟨r7, pre ++ [(u0, dv)], css ++ [enV (u0, dv) D cd], E2, ce2, A7, c7, rfl, by rw [hent]; simp, by omega, by simp; omega, hl7, hr7, hEK.snoc hD0, ?_⟩ (by omega) ⟨rfl, rfl, trivial⟩
    rw [show pre.length + 1 = (pre ++ [(u0, dv)]).length by simp] at hs
    exact hs
  · have he5 : entsR f r5 = ([], r5) := by cases f <;> simp [entsR, h1]
    rw [he5, List.append_nil] at hent
    dsimp only at hent
    rw [hent]
    refine wc_exit ?_; refine we_seq_exit ?_; refine we_loop_exit ?_; refine we_block_exit ?_
    exact we_end0 rfl ⟨_, rfl, A5, c5, E, ce, M, cm, css, hs, hEK, hM0⟩
end Go.Proofs.Ytaacnknniaipmaa

/-
  Walks over the functions that take a result; the message and the result of a reader.
-/
namespace Go.Proofs.Ytaacnknniaipmaa
open Go.RowKit

section
variable {w : World}
theorem gr_setCellM {g k : Nat} {u : Value} : Gr w (w.setCell ⟨g, k, none⟩ u) (some ⟨g, 0, none⟩) := ⟨rfl, rfl, rfl, by simp [World.setCell], fun j _ hj => by
  simp only [World.setCell, Array.getElem?_modify]
  rw [if_neg (by simp at hj; exact fun h => hj h.symm)]⟩
end
section
variable {P : Program} {N : Nat} {ops : Array Oper} {Q : Exit → Act → World → Prop} {rest : List Oper} {L : FL} {w0 w : World} {M : BS} {H : List Cd} {t : TypeId} {g : Nat} {cs ds : List Value}
/-- Cells written one behind the other. -/
def putN : List Value → Nat → List Value → List Value
  | cs, _, [] => cs
  | cs, k, u :: ds => putN (cs.set k u) (k + 1) ds
theorem ar_putN {T : TypeId} : ∀ (ds : List Value) (k : Nat) {w : World} {cs : List Value}, Ar w g T cs → Ar (w.setCells g k ds) g T (putN cs k ds) ∧ Gr w (w.setCells g k ds) (some ⟨g, 0, none⟩)
  | [], k, w, cs, h => ⟨h, rfl, rfl, rfl, Nat.le_refl _, fun _ _ _ => rfl⟩
  | u :: ds, k, w, cs, h => by
    obtain ⟨h1, h2⟩ := ar_putN ds (k + 1) (h.setCell k u)
    exact ⟨h1, gr_setCellM.trans h2⟩
/-- A struct is written into the middle of a block. -/
theorem ws_stM {x y : Operand} {ty T : TypeId} {pos : String} {aft : Array Edge} {kk : Nat} (hs : St M w0 w H) (i : Nat) (hx : look L x = some (.pointer (some ⟨g, kk, none⟩))) (hi : nthC H i = some (.blk g T cs)) (hy : look L y = some (.agg ds.toArray)) (S : StT P t ds.length) (hl : kk + ds.length ≤ cs.length) (h1 : ds.all (·.oneCell') = true)
    (h : ∀ w', St M w0 w' (setC H i (.blk g T (putN cs kk ds))) → WL P N ops Q rest L w') :
    WL P N ops Q (⟨none, .store t x y, ty, pos, aft, none⟩ :: rest) L w := by
  have ha := hs.ar i hi
  obtain ⟨h2, h3⟩ := ar_putN ds kk ha
  have hth : w.there g kk ds.toArray.size := fun j hj => by
    have hj' : j < ds.length := by simpa using hj
    have hc := ha.cell (kk + j)
    rw [List.getElem?_eq_getElem (by omega)] at hc
    exact ⟨by rw [hc]; rfl, ha.frozen _⟩
  refine wl_unitN (w' := w.setCells g kk ds) (fun ρ o hρ ho' _ => ?_) (h _ (hs.updA i hi h2 h3))
  have := run_storeVar_mid (P := P) w g kk t ds.toArray hth (by simpa using S.size) (by simpa [Array.all_eq_true_iff_forall_mem] using h1)
  simp [execOp, ho', Instr.storeAt, Instr.sureAddr, hρ x _ hx, hρ y _ hy, this]
end
/-- Things as groups of cells, as far as a class of worlds tells them. -/
def AllK {α : Type} (K : World → Prop) (Q : α → List Value → World → Prop) (xs : List α) (css : List (List Value)) : Prop :=
  css.length = xs.length ∧ ∀ (i : Nat) (x : α), xs[i]? = some x → ∃ cs, css[i]? = some cs ∧ ∀ w, K w → Q x cs w
section
variable {α : Type} {K : World → Prop} {Q : α → List Value → World → Prop} {xs : List α} {css : List (List Value)}
theorem AllK.nil : AllK K Q [] [] := ⟨rfl, fun i e h => by simp at h⟩
theorem AllK.snoc (h : AllK K Q xs css) {x : α} {cs : List Value} (he : ∀ w, K w → Q x cs w) : AllK K Q (xs ++ [x]) (css ++ [cs]) := by
  obtain ⟨hl, h⟩ := h
  refine ⟨by simp [hl], fun i y hi => ?_⟩
  rcases Nat.lt_or_ge i xs.length with hlt | hge
  · rw [List.getElem?_append_left hlt] at hi
    rw [List.getElem?_append_left (by omega)]
    exact h i y hi
  · rw [List.getElem?_append_right hge] at hi
    obtain ⟨h0, h1⟩ := List.getElem?_eq_some_iff.1 hi
    have h0' : i - xs.length = 0 := by simpa using h0
    simp only [h0', List.getElem_cons_zero] at h1
    subst h1
    exact ⟨cs, by rw [List.getElem?_append_right (by omega), show i - css.length = 0 by omega]; rfl, he⟩
/-- A row of such groups, read. -/
theorem AllK.rdr {k : Nat} {el : α → El} {w : World} {S : BS} {A : Option Addr} {e : TypeId} {base c : Nat} (h : AllK K Q xs css) (hk : K w) (hq : ∀ x cs, Q x cs w → (el x).P w All cs ∧ cs.length = k) (hr : OwR k e w base S A c (css.map rawEl)) : RdR k w All A (xs.map el) := by
  obtain ⟨h1, h2⟩ := h
  have hr2 := RdR.raw hr.rd
  refine ⟨css, ⟨by simp [h1], fun i cs hi => ?_⟩, by rw [List.length_map, ← h1]; exact hr2.1, fun _ _ _ => trivial⟩
  have hlt : i < xs.length := by have := (List.getElem?_eq_some_iff.1 hi).1; omega
  obtain ⟨cs2, k1, k2⟩ := h2 i xs[i] (List.getElem?_eq_getElem hlt)
  rw [hi] at k1
  cases k1
  have := hq _ _ (k2 w hk)
  exact ⟨this.2, el xs[i], by rw [List.getElem?_map, List.getElem?_eq_getElem hlt]; rfl, this.1⟩
end
def QPr (base : Nat) (p : PairM) (cs : List Value) (w : World) : Prop := ∃ (A : Option Addr) (a : Nat) (B : Option Addr) (b : Nat), cs = prV p A a B b ∧ OwB w base A a p.1 ∧ OwB w base B b p.2
def QWr (base : Nat) (x : WrM) (cs : List Value) (w : World) : Prop := ∃ (A : Option Addr) (a : Nat) (B : Option Addr) (b : Nat), cs = wrV x A a B b ∧ OwB w base A a x.key ∧ OwB w base B b x.val
def QEn (base : Nat) (e : Nat × By) (cs : List Value) (w : World) : Prop := ∃ (D : Option Addr) (d : Nat), cs = enV e D d ∧ OwB w base D d e.2
def PrsI (S : BS) (w : World) (K : World → Prop) (base g gx : Nat) (v : Nat → Value) (r0 : Rd1) : FL → World → Nat → Prop := fun L wr f =>
  ∃ (r : Rd1) (pre : List PairM) (css : List (List Value)) (E : Option Addr) (ce : Nat) (A : Option Addr) (c : Nat), L = [(0, .pointer (some ⟨g, 0, none⟩)), (1, .pointer (some ⟨gx, 0, none⟩))] ∧
    pairsA r0 = (pre ++ (pairsR f r).1, (pairsR f r).2) ∧ r.1.length ≤ f ∧ pre.length + f ≤ 1099511627776 ∧ (∀ p ∈ r.1, p.length ≤ 1099511627776) ∧ RdK K base A c r.1 ∧ AllK K (QPr base) pre css ∧
    St S w wr [rdP g A c r, .blk gx 40 [v 0, v 1, v 2, .slice E pre.length ce, v 4, v 5, v 6, v 7], .rg 2 130 E ce (css.map rawEl)]
set_option maxHeartbeats 4000000 in
theorem prs1_any {g gx base : Nat} {v : Nat → Value} {A : Option Addr} {c : Nat} {r : Rd1} {S : BS} {w : World} {K : World → Prop} (h0 : Sat w [rdP g A c r, .blk gx 40 [v 0, v 1, v 2, .slice none 0 0, v 4, v 5, v 6, v 7]] S) (hK : ∀ w', Mod S w w' → K w') (hr : RdK K base A c r.1) (hl : ∀ p ∈ r.1, p.length ≤ 1099511627776) (hlr : r.1.length ≤ 1099511627776) :
    CallsV Try.prog 96 #[.pointer (some ⟨g, 0, none⟩), .pointer (some ⟨gx, 0, none⟩)] w fun _ w' => ∃ (A' : Option Addr) (c' : Nat) (E : Option Addr) (ce : Nat) (css : List (List Value)),
      St S w w' [rdP g A' c' (pairsA r).2, .blk gx 40 [v 0, v 1, v 2, .slice E (pairsA r).1.length ce, v 4, v 5, v 6, v 7], .rg 2 130 E ce (css.map rawEl)] ∧ AllK K (QPr base) (pairsA r).1 css := by
  have hs := ((St.start h0).nilG 2 130).front 1 rfl
  dsimp only [delC] at hs
  replace hs := hs.front 2 rfl
  dsimp only [delC] at hs
  replace hs := hs.front 1 rfl
  dsimp only [delC] at hs
  have hmax : maxLen = 9223372036854775807 := rfl
  refine calls_in (N := _) Try.func96 rfl Try.ntmps96 rfl ?_; show WC _ _ _ _ _ _
  refine wc_block ?_
  refine wc_loop (PrsI S w K base g gx v r) [(0, .pointer (some ⟨g, 0, none⟩)), (1, .pointer (some ⟨gx, 0, none⟩))] r.1.length ⟨r, [], [], none, 0, A, c, rfl, rfl, Nat.le_refl _, by simp; omega, hl, hr, AllK.nil, hs⟩ ⟨rfl, rfl, trivial⟩ ?_
  clear hs hr hl
  rintro _ w5 f ⟨r5, pre, css, E, ce, A5, c5, rfl, hent, hf, hpf, hl5, hr5, hEK, hs⟩
  have hkl := hEK.1
  refine wc_seq ?_; refine wc_sr ?_; refine wl_mv rfl rfl ?_
  refine wl_call ok_session_reader_more (smore_any (hs.ar 0 rfl)) ⟨rfl, trivial⟩ rfl ?_
  rintro _ _ ⟨rfl, rfl⟩
  refine wl_ns ?_
  refine wc_cond rfl (fun h1 => ?_) (fun h1 => ?_)
  · have hcn := next_cnt1 h1
    obtain ⟨f, rfl⟩ : ∃ f', f = f' + 1 := ⟨f - 1, by omega⟩
    rw [pairsR, if_pos h1] at hent
    refine wc_skip ?_; refine we_seq ?_; refine wc_block ?_; refine wc_sr ?_; refine wl_mv rfl rfl ?_
    obtain ⟨S2, hS2, hB2, hM2, hH2, hB⟩ := St.lend (H1 := [rdP g A5 c5 r5]) (H2 := [_, _]) hs
    refine wl_call ok_session_reader_next (snext_any hS2 (fun w' k => hK w' (hM2 w' k)) hr5) ⟨rfl, trivial⟩ rfl ?_
    rintro _ _ ⟨D, cd, A6, c6, rfl, hD0, hr6, hsx⟩
    replace hs := hB _ _ hsx
    clear hsx hB hH2 hM2 hB2 hS2
    dsimp only [List.cons_append, List.nil_append] at hs
    have hl6 := next_rest hl5
    obtain ⟨⟨dk, r6⟩, hx6⟩ : ∃ x, nextR r5 = x := ⟨_, rfl⟩
    rw [hx6] at hs hD0 hr6 hl6 hcn hent ⊢
    dsimp only at hs hD0 hr6 hl6 hcn hent ⊢
    skip
    refine wl_val (opv_build (vs := [(0, .slice D dk.length cd)]) (cs := [.slice D dk.length cd, .slice none 0 0]) ⟨rfl, rfl, trivial⟩ (by kernel_rfl)) rfl ?_
    refine ws_var (cs := [.slice D dk.length cd, .slice none 0 0]) hs zeroPr sPr rfl (fun _ => rfl) (by first | rfl | simp [Value.oneCell']) rfl ?_; clear hs; intro g5 _ hs
    replace hs := hs.front 1 rfl
    dsimp only [delC] at hs
    refine wl_ns ?_; refine wc_sr ?_; refine wl_mv rfl rfl ?_
    obtain ⟨S2, hS2, hB2, hM2, hH2, hB⟩ := St.lend (H1 := [rdP g A6 c6 r6]) (H2 := [_, _, _]) hs
    refine wl_call ok_session_reader_next (snext_any hS2 (fun w' k => hK w' (hM2 w' k)) hr6) ⟨rfl, trivial⟩ rfl ?_
    rintro _ _ ⟨D7, cd7, A7, c7, rfl, hD7, hr7, hsx⟩
    replace hs := hB _ _ hsx
    clear hsx hB hH2 hM2 hB2 hS2
    dsimp only [List.cons_append, List.nil_append] at hs
    have hl7 := next_rest hl6
    have hq7 := next_cnt r6
    obtain ⟨⟨dv, r7⟩, hx7⟩ : ∃ x, nextR r6 = x := ⟨_, rfl⟩
    rw [hx7] at hs hD7 hr7 hl7 hq7 hent ⊢
    dsimp only at hs hD7 hr7 hl7 hq7 hent ⊢
    apply wl_val; apply opv_fa; exact fa_sPr (by decide); exact rfl; exact rfl; apply ws_st hs 1; exact rfl; exact rfl; exact g1_by; exact rfl; exact rfl; exact rfl; clear hs; intro _ hs; dsimp only [setC, List.set] at hs; refine wl_ns ?_; refine wc_region ?_; apply wl_val; apply opv_fa; exact fa_sRe (by decide); exact rfl; exact rfl; apply wl_val; apply opv_ldX; exact rfl; exact hs.ar 2 rfl; exact g1_prs; exact rfl; exact rfl; apply wl_val; apply opv_loadX; exact rfl; exact hs.ar 1 rfl; exact sPr; exact rfl
    refine ws_pushR (cs := [.slice D dk.length cd, .slice D7 dv.length cd7]) hs 3 (fun _ => rfl) rfl tkPr (by simp [hkl]) ⟨_, rfl, rfl⟩ rfl rfl (by decide) (by omega) (by simp only [maxLen]; omega) rfl rfl ?_
    clear hs; intro _ E2 ce2 _ hs; dsimp only [setC] at hs
    rw [show css.map rawEl ++ [rawEl [.slice D dk.length cd, .slice D7 dv.length cd7]] = (css ++ [prV (dk, dv) D cd D7 cd7]).map rawEl by simp [prV]] at hs
    apply wl_val; apply opv_fa; exact fa_sRe (by decide); exact rfl; exact rfl; apply ws_st hs 2; exact rfl; exact rfl; exact g1_prs; exact rfl; exact rfl; exact rfl; clear hs; intro _ hs; dsimp only [setC, List.set] at hs; refine wl_nil ?_; refine we_block_norm ?_
    replace hs := hs.drop 1 rfl
    dsimp only [delC] at hs
    refine we_loop _ f ⟨r7, pre ++ [(dk, dv)], css ++ [prV (dk, dv) D cd D7 cd7], E2, ce2, A7, c7, rfl, by rw [hent]; simp, by omega, by simp; omega, hl7, hr7, hEK.snoc fun w' hw' => ⟨D, cd, D7, cd7, rfl, hD0 w' hw', hD7 w' hw'⟩, ?_⟩ (by omega) ⟨rfl, rfl, trivial⟩
    rw [show pre.length + 1 = (pre ++ [(dk, dv)]).length by simp] at hs
    exact hs
  · have he5 : pairsR f r5 = ([], r5) := by cases f <;> simp [pairsR, h1]
    rw [he5, List.append_nil] at hent
    dsimp only at hent
    rw [hent]
    refine wc_exit ?_; refine we_seq_exit ?_; refine we_loop_exit ?_; refine we_block_exit ?_
    exact we_end0 rfl ⟨_, rfl, A5, c5, E, ce, css, hs, hEK⟩
theorem wr1_eq (r : Rd1) {ns : List Int} {r1 r2 r3 r4 : Rd1} {t : Bool} {k v : By} (h1 : intsR 1 r = (ns, r1)) (h2 : truthR (ns.getD 0 0) r1 = (t, r2)) (h3 : nextR r2 = (k, r3)) (h4 : nextR r3 = (v, r4)) : wr1 r = (⟨k, v, t⟩, r4) := by
  unfold wr1
  rw [h1]
  dsimp only
  rw [h2]
  dsimp only
  rw [h3]
  dsimp only
  rw [h4]
def WrsI (S : BS) (w : World) (K : World → Prop) (base g gx : Nat) (v : Nat → Value) (r0 : Rd1) : FL → World → Nat → Prop := fun L wr f =>
  ∃ (r : Rd1) (pre : List WrM) (css : List (List Value)) (E : Option Addr) (ce : Nat) (A : Option Addr) (c : Nat), L = [(0, .pointer (some ⟨g, 0, none⟩)), (1, .pointer (some ⟨gx, 0, none⟩))] ∧
    writesA r0 = (pre ++ (writesR f r).1, (writesR f r).2) ∧ r.1.length ≤ f ∧ pre.length + f ≤ 1099511627776 ∧ (∀ p ∈ r.1, p.length ≤ 1099511627776) ∧ RdK K base A c r.1 ∧ AllK K (QWr base) pre css ∧
    St S w wr [rdP g A c r, .blk gx 40 [v 0, v 1, v 2, v 3, v 4, v 5, .slice E pre.length ce, v 7], .rg 3 163 E ce (css.map rawEl)]
set_option maxHeartbeats 4000000 in
theorem wrs1_any {g gx base : Nat} {v : Nat → Value} {A : Option Addr} {c : Nat} {r : Rd1} {S : BS} {w : World} {K : World → Prop} (h0 : Sat w [rdP g A c r, .blk gx 40 [v 0, v 1, v 2, v 3, v 4, v 5, .slice none 0 0, v 7]] S) (hK : ∀ w', Mod S w w' → K w') (hr : RdK K base A c r.1) (hl : ∀ p ∈ r.1, p.length ≤ 1099511627776) (hlr : r.1.length ≤ 1099511627776) :
    CallsV Try.prog 97 #[.pointer (some ⟨g, 0, none⟩), .pointer (some ⟨gx, 0, none⟩)] w fun _ w' => ∃ (A' : Option Addr) (c' : Nat) (E : Option Addr) (ce : Nat) (css : List (List Value)),
      St S w w' [rdP g A' c' (writesA r).2, .blk gx 40 [v 0, v 1, v 2, v 3, v 4, v 5, .slice E (writesA r).1.length ce, v 7], .rg 3 163 E ce (css.map rawEl)] ∧ AllK K (QWr base) (writesA r).1 css := by
  have hs := ((St.start h0).nilG 3 163).front 1 rfl
  dsimp only [delC] at hs
  replace hs := hs.front 2 rfl
  dsimp only [delC] at hs
  replace hs := hs.front 1 rfl
  dsimp only [delC] at hs
  have hmax : maxLen = 9223372036854775807 := rfl
  refine calls_in (N := _) Try.func97 rfl Try.ntmps97 rfl ?_; show WC _ _ _ _ _ _
  refine wc_block ?_
  refine wc_loop (WrsI S w K base g gx v r) [(0, .pointer (some ⟨g, 0, none⟩)), (1, .pointer (some ⟨gx, 0, none⟩))] r.1.length ⟨r, [], [], none, 0, A, c, rfl, rfl, Nat.le_refl _, by simp; omega, hl, hr, AllK.nil, hs⟩ ⟨rfl, rfl, trivial⟩ ?_
  clear hs hr hl
  rintro _ w5 f ⟨r5, pre, css, E, ce, A5, c5, rfl, hent, hf, hpf, hl5, hr5, hEK, hs⟩
  have hkl := hEK.1
  refine wc_seq ?_; refine wc_sr ?_; refine wl_mv rfl rfl ?_
  refine wl_call ok_session_reader_more (smore_any (hs.ar 0 rfl)) ⟨rfl, trivial⟩ rfl ?_
  rintro _ _ ⟨rfl, rfl⟩
  refine wl_ns ?_
  refine wc_cond rfl (fun h1 => ?_) (fun h1 => ?_)
  · have hcn := next_cnt1 h1
    obtain ⟨f, rfl⟩ : ∃ f', f = f' + 1 := ⟨f - 1, by omega⟩
    rw [writesR, if_pos h1] at hent
    refine wc_skip ?_; refine we_seq ?_; refine wc_block ?_; refine wc_sr ?_; refine wl_mv rfl rfl ?_; refine wl_mv rfl rfl ?_
    obtain ⟨S2, hS2, hB2, hM2, hH2, hB⟩ := St.lend (H1 := [rdP g A5 c5 r5]) (H2 := [_, _]) hs
    refine wl_call ok_session_reader_ints (srints_any (n := 1) hS2 (fun w' k => hK w' (hM2 w' k)) hr5 (by decide) hl5) ⟨rfl, rfl, trivial⟩ rfl ?_
    rintro _ _ ⟨O, co, A6, c6, rfl, hr6, hsx⟩
    replace hs := hB _ _ hsx
    clear hsx hB hH2 hM2 hB2 hS2
    dsimp only [List.cons_append, List.nil_append] at hs
    have hl6 := ints_rest (n := 1) hl5
    have hn1 := intsR_len 1 r5
    have hc6 : (intsR 1 r5).2.1 = (nextR r5).2.1 := rfl
    rw [← hc6] at hcn
    clear hc6
    obtain ⟨⟨ns, r6⟩, hx6⟩ : ∃ x, intsR 1 r5 = x := ⟨_, rfl⟩
    rw [hx6] at hs hr6 hl6 hn1 hcn
    dsimp only at hs hr6 hl6 hn1 hcn
    generalize hn0 : ns.getD 0 0 = n0
    obtain rfl : ns = [n0] := by rw [← hn0]; exact get1 hn1
    clear hn0 hn1
    refine wl_val (opv_idxR (kk := 0) (u := .int .i64 n0) tyIs rfl rfl (hs.ow 0 rfl).rd rfl rfl) rfl ?_
    refine wl_val (opv_loadR (kk := 0) (u := .int .i64 n0) tyIs rfl (hs.ow 0 rfl).rd rfl) rfl ?_
    replace hs := hs.drop 0 rfl
    dsimp only [delC] at hs
    obtain ⟨S2, hS2, hB2, hM2, hH2, hB⟩ := St.lend (H1 := [rdP g A6 c6 r6]) (H2 := [_, _]) hs
    refine wl_call ok_session_reader_truth (sstruth_any (n := n0) hS2) ⟨rfl, rfl, trivial⟩ rfl ?_
    rintro _ _ ⟨rfl, hsx⟩
    replace hs := hB _ _ hsx
    clear hsx hB hH2 hM2 hB2 hS2
    dsimp only [List.cons_append, List.nil_append] at hs
    have hr7 := truth_known (n := n0) hr6
    have hl7 := truth_rest (n := n0) hl6
    have hq7 := truth_cnt n0 r6
    obtain ⟨⟨tb, r7⟩, hx7⟩ : ∃ x, truthR n0 r6 = x := ⟨_, rfl⟩
    rw [hx7] at hs hr7 hl7 hq7 ⊢
    dsimp only at hs hr7 hl7 hq7 ⊢
    refine wl_val (opv_build (vs := [(2, .bool tb)]) (cs := [.slice none 0 0, .slice none 0 0, .bool tb]) ⟨rfl, rfl, trivial⟩ (by kernel_rfl)) rfl ?_
    refine ws_var (cs := [.slice none 0 0, .slice none 0 0, .bool tb]) hs zeroWr sWr rfl (fun _ => rfl) (by first | rfl | simp [Value.oneCell']) rfl ?_; clear hs; intro g5 _ hs
    replace hs := hs.front 1 rfl
    dsimp only [delC] at hs
    refine wl_ns ?_; refine wc_sr ?_; refine wl_mv rfl rfl ?_
    obtain ⟨S2, hS2, hB2, hM2, hH2, hB⟩ := St.lend (H1 := [rdP g A6 c6 r7]) (H2 := [_, _, _]) hs
    refine wl_call ok_session_reader_next (snext_any hS2 (fun w' k => hK w' (hM2 w' k)) hr7) ⟨rfl, trivial⟩ rfl ?_
    rintro _ _ ⟨D, cd, A8, c8, rfl, hD0, hr8, hsx⟩
    replace hs := hB _ _ hsx
    clear hsx hB hH2 hM2 hB2 hS2
    dsimp only [List.cons_append, List.nil_append] at hs
    have hl8 := next_rest hl7
    have hq8 := next_cnt r7
    obtain ⟨⟨dk, r8⟩, hx8⟩ : ∃ x, nextR r7 = x := ⟨_, rfl⟩
    rw [hx8] at hs hD0 hr8 hl8 hq8 ⊢
    dsimp only at hs hD0 hr8 hl8 hq8 ⊢
    refine wl_mv rfl rfl ?_
    obtain ⟨S2, hS2, hB2, hM2, hH2, hB⟩ := St.lend (H1 := [rdP g A8 c8 r8]) (H2 := [_, _, _]) hs
    refine wl_call ok_session_reader_next (snext_any hS2 (fun w' k => hK w' (hM2 w' k)) hr8) ⟨rfl, trivial⟩ rfl ?_
    rintro _ _ ⟨D9, cd9, A9, c9, rfl, hD9, hr9, hsx⟩
    replace hs := hB _ _ hsx
    clear hsx hB hH2 hM2 hB2 hS2
    dsimp only [List.cons_append, List.nil_append] at hs
    have hl9 := next_rest hl8
    have hq9 := next_cnt r8
    obtain ⟨⟨dv, r9⟩, hx9⟩ : ∃ x, nextR r8 = x := ⟨_, rfl⟩
    rw [hx9] at hs hD9 hr9 hl9 hq9 ⊢
    dsimp only at hs hD9 hr9 hl9 hq9 ⊢
    rw [wr1_eq r5 hx6 hx7 hx8 hx9] at hent
    apply wl_val; apply opv_fa; exact fa_sWr (by decide); exact rfl; exact rfl; apply ws_st hs 1; exact rfl; exact rfl; exact g1_by; exact rfl; exact rfl; exact rfl; clear hs; intro _ hs; dsimp only [setC, List.set] at hs; apply wl_val; apply opv_fa; exact fa_sWr (by decide); exact rfl; exact rfl; apply ws_st hs 1; exact rfl; exact rfl; exact g1_by; exact rfl; exact rfl; exact rfl; clear hs; intro _ hs; dsimp only [setC, List.set] at hs; refine wl_ns ?_; refine wc_region ?_; apply wl_val; apply opv_fa; exact fa_sRe (by decide); exact rfl; exact rfl; apply wl_val; apply opv_fa; exact fa_sRc (by decide); exact rfl; exact rfl; apply wl_val; apply opv_ldX; exact rfl; exact hs.ar 2 rfl; exact g1_wrs; exact rfl; exact rfl; apply wl_val; apply opv_loadX; exact rfl; exact hs.ar 1 rfl; exact sWr; exact rfl
    refine ws_pushR (cs := [.slice D dk.length cd, .slice D9 dv.length cd9, .bool tb]) hs 3 (fun _ => rfl) rfl tkWr (by simp [hkl]) ⟨_, rfl, rfl⟩ rfl rfl (by decide) (by omega) (by simp only [maxLen]; omega) rfl rfl ?_
    clear hs; intro _ E2 ce2 _ hs; dsimp only [setC] at hs
    rw [show css.map rawEl ++ [rawEl [.slice D dk.length cd, .slice D9 dv.length cd9, .bool tb]] = (css ++ [wrV ⟨dk, dv, tb⟩ D cd D9 cd9]).map rawEl by simp [wrV]] at hs
    apply wl_val; apply opv_fa; exact fa_sRe (by decide); exact rfl; exact rfl; apply wl_val; apply opv_fa; exact fa_sRc (by decide); exact rfl; exact rfl; apply ws_st hs 2; exact rfl; exact rfl; exact g1_wrs; exact rfl; exact rfl; exact rfl; clear hs; intro _ hs; dsimp only [setC, List.set] at hs; refine wl_nil ?_; refine we_block_norm ?_
    replace hs := hs.drop 1 rfl
    dsimp only [delC] at hs
    refine we_loop _ f ⟨r9, pre ++ [⟨dk, dv, tb⟩], css ++ [wrV ⟨dk, dv, tb⟩ D cd D9 cd9], E2, ce2, A9, c9, rfl, by rw [hent]; simp, by omega, by simp; omega, hl9, hr9, hEK.snoc fun w' hw' => ⟨D, cd, D9, cd9, rfl, hD0 w' hw', hD9 w' hw'⟩, ?_⟩ (by omega) ⟨rfl, rfl, trivial⟩
    rw [show pre.length + 1 = (pre ++ [(⟨dk, dv, tb⟩ : WrM)]).length by simp] at hs
    exact hs
  · have he5 : writesR f r5 = ([], r5) := by cases f <;> simp [writesR, h1]
    rw [he5, List.append_nil] at hent
    dsimp only at hent
    rw [hent]
    refine wc_exit ?_; refine we_seq_exit ?_; refine we_loop_exit ?_; refine we_block_exit ?_
    exact we_end0 rfl ⟨_, rfl, A5, c5, E, ce, css, hs, hEK⟩
end Go.Proofs.Ytaacnknniaipmaa

/-
  Walks over the message and the result of a reader.
-/
namespace Go.Proofs.Ytaacnknniaipmaa
open Go.RowKit

theorem et_of {base : Nat} {e : Nat × By} {cs : List Value} {w : World} (h : QEn base e cs w) : (etEl e).P w All cs ∧ cs.length = 2 := by
  obtain ⟨D, d, rfl, h1⟩ := h
  exact ⟨⟨D, d, rfl, byEl.mk h1.rd h1.cap fun _ _ _ => trivial⟩, rfl⟩
theorem pr_of {base : Nat} {p : PairM} {cs : List Value} {w : World} (h : QPr base p cs w) : (prEl p).P w All cs ∧ cs.length = 2 := by
  obtain ⟨A, a, B, b, rfl, h1, h2⟩ := h
  exact ⟨⟨A, a, B, b, rfl, byEl.mk h1.rd h1.cap fun _ _ _ => trivial, byEl.mk h2.rd h2.cap fun _ _ _ => trivial⟩, rfl⟩
theorem wr_of {base : Nat} {p : WrM} {cs : List Value} {w : World} (h : QWr base p cs w) : (wrEl p).P w All cs ∧ cs.length = 3 := by
  obtain ⟨A, a, B, b, rfl, h1, h2⟩ := h
  exact ⟨⟨A, a, B, b, rfl, byEl.mk h1.rd h1.cap fun _ _ _ => trivial, byEl.mk h2.rd h2.cap fun _ _ _ => trivial⟩, rfl⟩
theorem EntK.all {K : World → Prop} {base : Nat} {ents : List (Nat × By)} {css : List (List Value)} (h : EntK K base ents css) : AllK K (QEn base) ents css := ⟨h.1, fun i e hi => by
  obtain ⟨D, d, h1, h2⟩ := h.2 i e hi
  exact ⟨_, h1, fun w hw => ⟨D, d, rfl, h2 w hw⟩⟩⟩
theorem St.rgP {M : BS} {w0 w : World} {H : List Cd} {k : Nat} {e : TypeId} {A : Option Addr} {c : Nat} {els : List El} {S : BS} (h : Sat w (.rg k e A c els :: H) S) : ∃ S', OwR k e w 0 S' A c els := by
  obtain ⟨T, _, hc, _⟩ := h
  exact ⟨_, hc.2⟩
theorem rdr_nil {k : Nat} {w : World} {α : Type} {el : α → El} : RdR k w All none (([] : List α).map el) := ⟨[], Grp.nil _ _ _, by simpa using Rd.nil w none, fun _ h _ => by cases h⟩
/-- What a message's memory holds. -/
def MsK (base : Nat) (m : MsgM) (E : Option Addr) (M : Option Addr) (cm : Nat) (w : World) : Prop := RdR 2 w All E (m.ents.map etEl) ∧ OwB w base M cm m.data
def MsR (base gm : Nat) (m : MsgM) (K : World → Prop) (H : List Cd) : Prop := ∃ (E : Option Addr) (ce : Nat) (M : Option Addr) (cm : Nat) (css : List (List Value)), H = [.blk gm 34 (msV m E ce M cm), .rg 2 166 E ce (css.map rawEl)] ∧ EntK K base m.ents css ∧ ∀ w, K w → OwB w base M cm m.data
theorem smsg_any {g base : Nat} {A : Option Addr} {c : Nat} {r : Rd1} {S : BS} {w : World} {K : World → Prop} (h0 : Sat w [rdP g A c r] S) (hK : ∀ w', Mod S w w' → K w') (hr : RdK K base A c r.1) (hb : base ≤ w.heap.size) (hl : ∀ p ∈ r.1, p.length ≤ 1099511627776) :
    CallsV Try.prog 77 #[.pointer (some ⟨g, 0, none⟩)] w fun v w' => ∃ (A' : Option Addr) (c' : Nat) (E : Option Addr) (ce : Nat) (M : Option Addr) (cm : Nat), v = .agg (msV (msgR r).1 E ce M cm).toArray ∧ RdK K base A' c' (msgR r).2.1 ∧
      St S w w' [rdP g A' c' (msgR r).2, .ck (kp (MsK base (msgR r).1 E M cm))] := by
  have hs := St.start h0
  have hmax : maxLen = 9223372036854775807 := rfl
  have hpl := next_len hl
  refine calls_in (N := _) Try.func77 rfl Try.ntmps77 rfl ?_; show WC _ _ _ _ _ _
  refine wc_sr ?_
  refine ws_new hs zeroMs rfl ?_; clear hs; intro g1 _ hs
  replace hs := hs.front 1 rfl
  dsimp only [delC] at hs
  refine wl_ns ?_; refine wc_sr ?_; refine wl_mv rfl rfl ?_
  refine wl_val (opv_mkFn (us := [.pointer (some ⟨g1, 0, none⟩)]) ⟨rfl, trivial⟩) rfl ?_
  obtain ⟨S2, hS2, hB2, hM2, hH2, hB⟩ := St.lend (H1 := [rdP g A c r, .blk g1 34 zMs]) (H2 := []) hs
  refine wl_call ok_session_reader_within (swithin_any (take := msgT) (z := zMsg) (H := [.blk g1 34 zMs]) (MsR base g1) hS2 (fun w' k => hK w' (hM2 w' k)) hr (Nat.le_trans hb hs.size) hl ok_session_reader_msg_1 ?_) ⟨rfl, rfl, trivial⟩ rfl ?_
  · intro p g2 A1 c1 K1 S1 w1 hp h01 hK1 hr1 hb1
    have hp2 : p.length ≤ 1099511627776 := by rw [hp]; exact hpl
    refine (msg1_any h01 hK1 hr1 (fun q hq => Nat.le_trans (parts_le hq) hp2) (by have := parts_sizeX p; omega)).mono ?_
    rintro _ w2 ⟨A', c', E, ce, M, cm, css, hsx, h1, h2⟩
    exact ⟨A', c', _, hsx, E, ce, M, cm, css, rfl, h1, h2⟩
  rintro _ _ ⟨A', c', hr', hcase⟩
  rcases hcase with ⟨hn, hsx⟩ | ⟨hn, H2, K1, ⟨E, ce, M, cm, css, rfl, hEK, hM⟩, hsx⟩
  · replace hs := hB _ _ hsx
    clear hsx hB hH2 hM2 hB2 hS2
    have hm : msgR r = (zMsg, (nextR r).2) := by unfold msgR withinR; rw [if_neg hn]
    have hm2 : (withinR zMsg msgT r) = (zMsg, (nextR r).2) := hm
    rw [hm2] at hs hr'
    rw [hm]
    dsimp only [List.cons_append, List.nil_append] at hs hr' ⊢
    unfold zMs msV at hs
    refine wl_ns ?_; refine wc_sr ?_; apply wl_val; apply opv_loadX; exact rfl; exact hs.ar 1 rfl; exact sMs; exact rfl; apply ws_stS hs 1; exact rfl; exact rfl; exact rfl; exact sMs; exact rfl; exact rfl; clear hs; intro _ hs; dsimp only [setC] at hs; refine wl_ns ?_; refine wc_ret ?_
    refine we_retC rfl rfl (hs.ar 1 rfl) sMs ⟨_, rfl, A', c', none, 0, none, 0, rfl, hr', ?_⟩
    have h2 := (hs.drop 1 rfl).kpNil (K := MsK base zMsg none none 0) fun w => ⟨rdr_nil, Ow.nil _ _ _⟩
    exact h2.front 1 rfl
  · replace hs := hB _ _ hsx
    clear hsx hB hH2 hM2 hB2 hS2
    have hm2 : withinR zMsg msgT r = msgR r := rfl
    rw [hm2] at hs hr' hEK hM
    dsimp only [List.cons_append, List.nil_append] at hs
    obtain ⟨m, hm⟩ : ∃ m, (msgR r).1 = m := ⟨_, rfl⟩
    rw [hm] at hs hEK hM ⊢
    unfold msV at hs
    refine wl_ns ?_; refine wc_sr ?_; apply wl_val; apply opv_loadX; exact rfl; exact hs.ar 2 rfl; exact sMs; exact rfl; apply ws_stS hs 2; exact rfl; exact rfl; exact rfl; exact sMs; exact rfl; exact rfl; clear hs; intro _ hs; dsimp only [setC] at hs; refine wl_ns ?_; refine wc_ret ?_
    refine we_retC rfl rfl (hs.ar 2 rfl) sMs ⟨_, rfl, A', c', E, ce, M, cm, rfl, hr', ?_⟩
    have h2 := ((hs.drop 2 rfl).front 1 rfl).front 2 rfl
    dsimp only [delC] at h2
    have h3 := St.kpOf (K := MsK base m E M cm) (H1 := [_, _]) h2 fun w S hS => by
      obtain ⟨S', ho⟩ := St.rgP (M := S) (w0 := w) (w := w) hS
      have hk1 := Sat.kp (i := 1) hS rfl
      exact ⟨hEK.all.rdr hk1 (fun x cs h => et_of h) ho, hM w hk1⟩
    exact h3.front 1 rfl
def prsR (base gx : Nat) (v : Nat → Value) (ps : List PairM) (K : World → Prop) (H : List Cd) : Prop := ∃ (E : Option Addr) (ce : Nat) (css : List (List Value)), H = [.blk gx 40 [v 0, v 1, v 2, .slice E ps.length ce, v 4, v 5, v 6, v 7], .rg 2 130 E ce (css.map rawEl)] ∧ AllK K (QPr base) ps css
theorem prsW_any {g gx base : Nat} {v : Nat → Value} {A : Option Addr} {c : Nat} {r : Rd1} {S : BS} {w : World} {K : World → Prop} (h0 : Sat w [rdP g A c r, .blk gx 40 [v 0, v 1, v 2, .slice none 0 0, v 4, v 5, v 6, v 7]] S) (hK : ∀ w', Mod S w w' → K w') (hr : RdK K base A c r.1) (hb : base ≤ w.heap.size) (hl : ∀ p ∈ r.1, p.length ≤ 1099511627776) :
    CallsV Try.prog 91 #[.pointer (some ⟨g, 0, none⟩), .func (.func 96) #[] #[.pointer (some ⟨gx, 0, none⟩)]] w fun _ w' => ∃ (A' : Option Addr) (c' : Nat) (E : Option Addr) (ce : Nat), RdK K base A' c' (withinR [] pairsA r).2.1 ∧
      St S w w' [rdP g A' c' (withinR [] pairsA r).2, .blk gx 40 [v 0, v 1, v 2, .slice E (withinR [] pairsA r).1.length ce, v 4, v 5, v 6, v 7], .ck (kp fun w => RdR 2 w All E ((withinR [] pairsA r).1.map prEl))] := by
  have hpl := next_len hl
  refine (swithin_any (take := pairsA) (z := []) (us := [.pointer (some ⟨gx, 0, none⟩)]) (H := [.blk gx 40 [v 0, v 1, v 2, .slice none 0 0, v 4, v 5, v 6, v 7]]) (prsR base gx v) h0 hK hr hb hl ok_session_reader_result_1_1 ?_).mono ?_
  · intro p g2 A1 c1 K1 S1 w1 hp h01 hK1 hr1 hb1
    have hp2 : p.length ≤ 1099511627776 := by rw [hp]; exact hpl
    refine (prs1_any (v := v) h01 hK1 hr1 (fun q hq => Nat.le_trans (parts_le hq) hp2) (by have := parts_sizeX p; omega)).mono ?_
    rintro _ w2 ⟨A', c', E, ce, css, hsx, h1⟩
    exact ⟨A', c', _, hsx, E, ce, css, rfl, h1⟩
  rintro _ w' ⟨A', c', hr', hcase⟩
  rcases hcase with ⟨hn, hs⟩ | ⟨hn, H2, K1, ⟨E, ce, css, rfl, hEK⟩, hs⟩
  · have hm : withinR [] pairsA r = ([], (nextR r).2) := by unfold withinR; rw [if_neg hn]
    rw [hm] at hs hr' ⊢
    refine ⟨A', c', none, 0, hr', ?_⟩
    have h2 := hs.kpNil (K := fun w => RdR 2 w All none (([] : List PairM).map prEl)) fun w => rdr_nil
    have h3 := h2.front 1 rfl
    dsimp only [delC] at h3
    have h4 := h3.front 2 rfl
    exact h4.front 1 rfl
  · refine ⟨A', c', E, ce, hr', ?_⟩
    have h2 := ((hs.front 1 rfl).front 3 rfl)
    dsimp only [delC] at h2
    have h3 := St.kpOf (K := fun w => RdR 2 w All E ((withinR [] pairsA r).1.map prEl)) (H1 := [_, _]) h2 fun w S hS => by
      obtain ⟨S', ho⟩ := St.rgP (M := S) (w0 := w) (w := w) hS
      have hk1 := Sat.kp (i := 1) hS rfl
      exact hEK.rdr hk1 (fun x cs h => pr_of h) ho
    have h4 := h3.front 1 rfl
    dsimp only [delC] at h4
    have h5 := h4.front 2 rfl
    exact h5.front 1 rfl
def wrsR (base gx : Nat) (v : Nat → Value) (ps : List WrM) (K : World → Prop) (H : List Cd) : Prop := ∃ (E : Option Addr) (ce : Nat) (css : List (List Value)), H = [.blk gx 40 [v 0, v 1, v 2, v 3, v 4, v 5, .slice E ps.length ce, v 7], .rg 3 163 E ce (css.map rawEl)] ∧ AllK K (QWr base) ps css
theorem wrsW_any {g gx base : Nat} {v : Nat → Value} {A : Option Addr} {c : Nat} {r : Rd1} {S : BS} {w : World} {K : World → Prop} (h0 : Sat w [rdP g A c r, .blk gx 40 [v 0, v 1, v 2, v 3, v 4, v 5, .slice none 0 0, v 7]] S) (hK : ∀ w', Mod S w w' → K w') (hr : RdK K base A c r.1) (hb : base ≤ w.heap.size) (hl : ∀ p ∈ r.1, p.length ≤ 1099511627776) :
    CallsV Try.prog 91 #[.pointer (some ⟨g, 0, none⟩), .func (.func 97) #[] #[.pointer (some ⟨gx, 0, none⟩)]] w fun _ w' => ∃ (A' : Option Addr) (c' : Nat) (E : Option Addr) (ce : Nat), RdK K base A' c' (withinR [] writesA r).2.1 ∧
      St S w w' [rdP g A' c' (withinR [] writesA r).2, .blk gx 40 [v 0, v 1, v 2, v 3, v 4, v 5, .slice E (withinR [] writesA r).1.length ce, v 7], .ck (kp fun w => RdR 3 w All E ((withinR [] writesA r).1.map wrEl))] := by
  have hpl := next_len hl
  refine (swithin_any (take := writesA) (z := []) (us := [.pointer (some ⟨gx, 0, none⟩)]) (H := [.blk gx 40 [v 0, v 1, v 2, v 3, v 4, v 5, .slice none 0 0, v 7]]) (wrsR base gx v) h0 hK hr hb hl ok_session_reader_result_1_2 ?_).mono ?_
  · intro p g2 A1 c1 K1 S1 w1 hp h01 hK1 hr1 hb1
    have hp2 : p.length ≤ 1099511627776 := by rw [hp]; exact hpl
    refine (wrs1_any (v := v) h01 hK1 hr1 (fun q hq => Nat.le_trans (parts_le hq) hp2) (by have := parts_sizeX p; omega)).mono ?_
    rintro _ w2 ⟨A', c', E, ce, css, hsx, h1⟩
    exact ⟨A', c', _, hsx, E, ce, css, rfl, h1⟩
  rintro _ w' ⟨A', c', hr', hcase⟩
  rcases hcase with ⟨hn, hs⟩ | ⟨hn, H2, K1, ⟨E, ce, css, rfl, hEK⟩, hs⟩
  · have hm : withinR [] writesA r = ([], (nextR r).2) := by unfold withinR; rw [if_neg hn]
    rw [hm] at hs hr' ⊢
    refine ⟨A', c', none, 0, hr', ?_⟩
    have h2 := hs.kpNil (K := fun w => RdR 3 w All none (([] : List WrM).map wrEl)) fun w => rdr_nil
    have h3 := h2.front 1 rfl
    dsimp only [delC] at h3
    have h4 := h3.front 2 rfl
    exact h4.front 1 rfl
  · refine ⟨A', c', E, ce, hr', ?_⟩
    have h2 := ((hs.front 1 rfl).front 3 rfl)
    dsimp only [delC] at h2
    have h3 := St.kpOf (K := fun w => RdR 3 w All E ((withinR [] writesA r).1.map wrEl)) (H1 := [_, _]) h2 fun w S hS => by
      obtain ⟨S', ho⟩ := St.rgP (M := S) (w0 := w) (w := w) hS
      have hk1 := Sat.kp (i := 1) hS rfl
      exact hEK.rdr hk1 (fun x cs h => wr_of h) ho
    have h4 := h3.front 1 rfl
    dsimp only [delC] at h4
    have h5 := h4.front 2 rfl
    exact h5.front 1 rfl
theorem get3 {α : Type} {l : List α} {z : α} (h : l.length = 3) : l = [l.getD 0 z, l.getD 1 z, l.getD 2 z] := by
  match l, h with
  | [a, b, c], _ => rfl
theorem get2 {α : Type} {l : List α} {z : α} (h : l.length = 2) : l = [l.getD 0 z, l.getD 1 z] := by
  match l, h with
  | [a, b], _ => rfl
theorem within_rest {α : Type} {z : α} {take : Rd1 → α × Rd1} {r : Rd1} {m : Nat} (hl : ∀ p ∈ r.1, p.length ≤ m) : ∀ p ∈ (withinR z take r).2.1, p.length ≤ m := by
  unfold withinR
  split
  · exact next_rest hl
  · exact next_rest hl
theorem resT_eq (r : Rd1) {ns : List Int} {ws : List Nat} {t : Bool} {ps : List PairM} {qs : List WrM} {d : By} {r1 r2 r3 r4 r5 r6 : Rd1} (h1 : intsR 3 r = (ns, r1)) (h2 : wordsR 2 r1 = (ws, r2)) (h3 : truthR (ns.getD 2 0) r2 = (t, r3)) (h4 : withinR [] pairsA r3 = (ps, r4)) (h5 : withinR [] writesA r4 = (qs, r5)) (h6 : nextR r5 = (d, r6)) :
    resT r = (⟨ns.getD 0 0, ns.getD 1 0, ws.getD 0 0, ps, t, ws.getD 1 0, qs, d⟩, r6) := by
  unfold resT
  rw [h1]
  dsimp only
  rw [h2]
  dsimp only
  rw [h3]
  dsimp only
  rw [h4]
  dsimp only
  rw [h5]
  dsimp only
  rw [h6]
def zRe : List Value := reV zRes none 0 none 0 none 0
theorem zeroRe : (Try.prog.info? 40).map (·.zero) = some (some (.agg zRe.toArray)) := by kernel_rfl
/-- What a result's memory holds. -/
def ReK (base : Nat) (x : ResM) (P W Y : Option Addr) (cy : Nat) (w : World) : Prop := RdR 2 w All P (x.pairs.map prEl) ∧ RdR 3 w All W (x.writes.map wrEl) ∧ OwB w base Y cy x.reply
set_option maxHeartbeats 4000000 in
set_option maxRecDepth 8000 in
theorem result1_any {g gx base : Nat} {A : Option Addr} {c : Nat} {r : Rd1} {S : BS} {w : World} {K : World → Prop} (h0 : Sat w [rdP g A c r, .blk gx 40 zRe] S) (hK : ∀ w', Mod S w w' → K w') (hr : RdK K base A c r.1) (hb : base ≤ w.heap.size) (hl : ∀ p ∈ r.1, p.length ≤ 1099511627776) :
    CallsV Try.prog 95 #[.pointer (some ⟨g, 0, none⟩), .pointer (some ⟨gx, 0, none⟩)] w fun _ w' => ∃ (A' : Option Addr) (c' : Nat) (P : Option Addr) (cp : Nat) (W : Option Addr) (cw : Nat) (Y : Option Addr) (cy : Nat),
      St S w w' [rdP g A' c' (resT r).2, .blk gx 40 (reV (resT r).1 P cp W cw Y cy), .ck (kp fun w => RdR 2 w All P ((resT r).1.pairs.map prEl) ∧ RdR 3 w All W ((resT r).1.writes.map wrEl))] ∧ ∀ w, K w → OwB w base Y cy (resT r).1.reply := by
  have hs := St.start h0
  have hmax : maxLen = 9223372036854775807 := rfl
  refine calls_in (N := _) Try.func95 rfl Try.ntmps95 rfl ?_; show WC _ _ _ _ _ _
  refine wc_sr ?_; refine wl_mv rfl rfl ?_
  obtain ⟨S2, hS2, hB2, hM2, hH2, hB⟩ := St.lend (H1 := [rdP g A c r]) (H2 := [_]) hs
  refine wl_call ok_session_reader_ints (srints_any (n := 3) hS2 (fun w' k => hK w' (hM2 w' k)) hr (by decide) hl) ⟨rfl, rfl, trivial⟩ rfl ?_
  rintro _ _ ⟨O, co, A1, c1, rfl, hr1, hsx⟩
  replace hs := hB _ _ hsx
  clear hsx hB hH2 hM2 hB2 hS2
  dsimp only [List.cons_append, List.nil_append] at hs
  have hn4 := intsR_len 3 r
  have hl1 := ints_rest (n := 3) hl
  obtain ⟨⟨ns, r1⟩, hx1⟩ : ∃ x, intsR 3 r = x := ⟨_, rfl⟩
  rw [hx1] at hs hr1 hn4 hl1
  dsimp only at hs hr1 hn4 hl1
  replace hs := hs.front 1 rfl
  dsimp only [delC] at hs
  refine wl_as rfl rfl ?_; refine wl_ns ?_; refine wc_sr ?_; refine wl_mv rfl rfl ?_
  obtain ⟨S2, hS2, hB2, hM2, hH2, hB⟩ := St.lend (H1 := [rdP g A1 c1 r1]) (H2 := [_, _]) hs
  refine wl_call ok_session_reader_words (swords_any (n := 2) hS2 (fun w' k => hK w' (hM2 w' k)) hr1 (by decide) hl1) ⟨rfl, rfl, trivial⟩ rfl ?_
  rintro _ _ ⟨O2, co2, A2, c2, rfl, hr2, hsx⟩
  replace hs := hB _ _ hsx
  clear hsx hB hH2 hM2 hB2 hS2
  dsimp only [List.cons_append, List.nil_append] at hs
  have hw4 := wordsR_len 2 r1
  have hl2 := words_rest (n := 2) hl1
  obtain ⟨⟨ws, r2⟩, hx2⟩ : ∃ x, wordsR 2 r1 = x := ⟨_, rfl⟩
  rw [hx2] at hs hr2 hw4 hl2
  dsimp only at hs hr2 hw4 hl2
  replace hs := hs.front 1 rfl
  dsimp only [delC] at hs
  generalize hn0 : ns.getD 0 0 = n0
  generalize hn1 : ns.getD 1 0 = n1
  generalize hn2 : ns.getD 2 0 = n2
  generalize hm0 : ws.getD 0 0 = w0
  generalize hm1 : ws.getD 1 0 = w1
  have hns : ns = [n0, n1, n2] := by rw [← hn0, ← hn1, ← hn2]; exact get3 hn4
  have hws : ws = [w0, w1] := by rw [← hm0, ← hm1]; exact get2 hw4
  clear hn0 hn1 hn2 hm0 hm1
  subst hns hws
  clear hn4 hw4
  have hi0 : (iVs [n0, n1, n2])[0]? = some (.int .i64 n0) := rfl
  have hi1 : (iVs [n0, n1, n2])[1]? = some (.int .i64 n1) := rfl
  have hi2 : (iVs [n0, n1, n2])[2]? = some (.int .i64 n2) := rfl
  have hj0 : (wVs [w0, w1])[0]? = some (.int .u64 (w0 : Int)) := rfl
  have hj1 : (wVs [w0, w1])[1]? = some (.int .u64 (w1 : Int)) := rfl
  refine wl_as rfl rfl ?_; refine wl_ns ?_; refine wc_seq ?_
  refine wc_cutE (fun L w' => L = [(0, .pointer (some ⟨g, 0, none⟩)), (1, .pointer (some ⟨gx, 0, none⟩)), (3, .slice O 3 co), (4, .slice O2 2 co2)] ∧ St S w w' [rdP g A2 c2 r2, .ow 22 O2 2 co2 (wVs [w0, w1]), .ow 3 O 3 co (iVs [n0, n1, n2]), .blk gx 40 [.int .i64 n0, .int .i64 n1, .int .u64 (w0 : Int), .slice none 0 0, .bool false, .int .u64 0, .slice none 0 0, .slice none 0 0]]) ?_ ?_
  · refine wc_heldG (fun w' => Rd w' O 3 (iVs [n0, n1, n2]) ∧ Rd w' O2 2 (wVs [w0, w1])) 15 mixed ?_
    replace hs := hs.below (Below.refl _ _).drew
    have hS := And.intro (hs.ow 2 rfl).rd (hs.ow 1 rfl).rd
    apply wm_take 0; exact rfl; intro _ hw_; apply opv_move; exact rfl; exact rfl; kernel_rfl; exact hS; apply wm_take 1; exact rfl; intro _ hw_; apply opv_idxR (T := tyIs) (hr := hw_.1) (hu := hi0); exact rfl; exact rfl; exact rfl; exact rfl; kernel_rfl; exact hS; apply wm_take 2; exact rfl; intro _ hw_; refine opv_loadR tyIs rfl hw_.1 hi0; exact rfl; kernel_rfl; exact hS; apply wm_take 3; exact rfl; intro _ hw_; apply opv_move; exact rfl; exact rfl; kernel_rfl; exact hS; apply wm_take 4; exact rfl; intro _ hw_; apply opv_idxR (T := tyIs) (hr := hw_.1) (hu := hi1); exact rfl; exact rfl; exact rfl; exact rfl; kernel_rfl; exact hS; apply wm_take 5; exact rfl; intro _ hw_; refine opv_loadR tyIs rfl hw_.1 hi1; exact rfl; kernel_rfl; exact hS; apply wm_take 6; exact rfl; intro _ hw_; apply opv_move; exact rfl; exact rfl; kernel_rfl; exact hS; apply wm_take 7; exact rfl; intro _ hw_; apply opv_idxR (T := tyWs) (hr := hw_.2) (hu := hj0); exact rfl; exact rfl; exact rfl; exact rfl; kernel_rfl; exact hS; apply wm_take 8; exact rfl; intro _ hw_; refine opv_loadR tyWs rfl hw_.2 hj0; exact rfl; kernel_rfl; exact hS
    clear hS
    unfold zRe at hs
    refine wm_one 9 (by kernel_rfl) rfl ?_; dsimp only [List.getElem_toArray, List.getElem_cons_succ, List.getElem_cons_zero]
    apply ws_stS hs 3; exact rfl; exact rfl; exact rfl; exact sRe; exact rfl; exact rfl; clear hs; intro _ hs; dsimp only [setC] at hs; refine wl_nil ?_
    refine we_heldM (fun _ => ⟨(hs.ow 2 rfl).rd, (hs.ow 1 rfl).rd⟩) ?_
    have hS := And.intro (hs.ow 2 rfl).rd (hs.ow 1 rfl).rd
    apply wm_takeP 10; exact rfl; intro _; apply opv_fa; exact fa_sRe (by decide); exact rfl; exact rfl; kernel_rfl; exact fun _ => hS
    clear hS
    refine wm_one 11 (by kernel_rfl) rfl ?_; dsimp only [List.getElem_toArray, List.getElem_cons_succ, List.getElem_cons_zero]
    apply ws_st hs 3; exact rfl; exact rfl; exact g1_err; exact rfl; exact rfl; exact rfl; clear hs; intro _ hs; dsimp only [setC, List.set] at hs; refine wl_nil ?_
    refine we_heldM (fun _ => ⟨(hs.ow 2 rfl).rd, (hs.ow 1 rfl).rd⟩) ?_
    have hS := And.intro (hs.ow 2 rfl).rd (hs.ow 1 rfl).rd
    apply wm_takeP 12; exact rfl; intro _; apply opv_fa; exact fa_sRe (by decide); exact rfl; exact rfl; kernel_rfl; exact fun _ => hS
    clear hS
    refine wm_one 13 (by kernel_rfl) rfl ?_; dsimp only [List.getElem_toArray, List.getElem_cons_succ, List.getElem_cons_zero]
    apply ws_st hs 3; exact rfl; exact rfl; exact g1_int; exact rfl; exact rfl; exact rfl; clear hs; intro _ hs; dsimp only [setC, List.set] at hs; refine wl_nil ?_
    refine we_heldM (fun _ => ⟨(hs.ow 2 rfl).rd, (hs.ow 1 rfl).rd⟩) ?_
    have hS := And.intro (hs.ow 2 rfl).rd (hs.ow 1 rfl).rd
    apply wm_takeP 14; exact rfl; intro _; apply opv_fa; exact fa_sRe (by decide); exact rfl; exact rfl; kernel_rfl; exact fun _ => hS
    clear hS
    refine wm_one 15 (by kernel_rfl) rfl ?_; dsimp only [List.getElem_toArray, List.getElem_cons_succ, List.getElem_cons_zero]
    apply ws_st hs 3; exact rfl; exact rfl; exact g1_u64; exact rfl; exact rfl; exact rfl; clear hs; intro _ hs; dsimp only [setC, List.set] at hs; refine wl_nil ?_
    refine we_heldM (fun h => absurd h (by decide)) ?_
    refine wm_done (by kernel_rfl) ?_
    exact we_cut _ ⟨rfl, hs⟩ ⟨rfl, rfl, rfl, rfl, trivial⟩
  rintro _ w5 ⟨rfl, hs⟩
  refine we_seq ?_; refine wc_seq ?_
  refine wc_cutE (fun L w' => L = [(0, .pointer (some ⟨g, 0, none⟩)), (1, .pointer (some ⟨gx, 0, none⟩))] ∧ St S w w' [rdP g A2 c2 (truthR n2 r2).2, .blk gx 40 [.int .i64 n0, .int .i64 n1, .int .u64 (w0 : Int), .slice none 0 0, .bool (truthR n2 r2).1, .int .u64 (w1 : Int), .slice none 0 0, .slice none 0 0]]) ?_ ?_
  · refine wc_heldG (fun w' => Rd w' O 3 (iVs [n0, n1, n2]) ∧ Rd w' O2 2 (wVs [w0, w1])) 10 mixed ?_
    replace hs := hs.below (Below.refl _ _).drew
    have hS := And.intro (hs.ow 2 rfl).rd (hs.ow 1 rfl).rd
    apply wm_takeP 0; exact rfl; intro _; apply opv_move; exact rfl; exact rfl; kernel_rfl; exact fun _ => hS; apply wm_take 1; exact rfl; intro _ hw_; apply opv_move; exact rfl; exact rfl; kernel_rfl; exact hS; apply wm_take 2; exact rfl; intro _ hw_; apply opv_idxR (T := tyIs) (hr := hw_.1) (hu := hi2); exact rfl; exact rfl; exact rfl; exact rfl; kernel_rfl; exact hS; apply wm_take 3; exact rfl; intro _ hw_; refine opv_loadR tyIs rfl hw_.1 hi2; exact rfl; kernel_rfl; exact hS; apply wm_take 5; exact rfl; intro _ hw_; apply opv_move; exact rfl; exact rfl; kernel_rfl; exact hS; apply wm_take 6; exact rfl; intro _ hw_; apply opv_idxR (T := tyWs) (hr := hw_.2) (hu := hj1); exact rfl; exact rfl; exact rfl; exact rfl; kernel_rfl; exact hS; apply wm_take 7; exact rfl; intro _ hw_; refine opv_loadR tyWs rfl hw_.2 hj1; exact rfl; kernel_rfl; exact hS
    clear hS
    refine wm_one 4 (by kernel_rfl) rfl ?_; dsimp only [List.getElem_toArray, List.getElem_cons_succ, List.getElem_cons_zero]
    obtain ⟨S2, hS2, hB2, hM2, hH2, hB⟩ := St.lend (H1 := [rdP g A2 c2 r2]) (H2 := [_, _, _]) hs
    refine wl_call ok_session_reader_truth (sstruth_any (n := n2) hS2) ⟨rfl, rfl, trivial⟩ rfl ?_
    rintro _ _ ⟨rfl, hsx⟩
    replace hs := hB _ _ hsx
    clear hsx hB hH2 hM2 hB2 hS2
    dsimp only [List.cons_append, List.nil_append] at hs
    refine wl_nil ?_
    refine we_heldM (fun _ => ⟨(hs.ow 2 rfl).rd, (hs.ow 1 rfl).rd⟩) ?_
    refine wm_one 8 (by kernel_rfl) rfl ?_; dsimp only [List.getElem_toArray, List.getElem_cons_succ, List.getElem_cons_zero]
    refine wl_val (opv_build (vs := [(0, .bool (truthR n2 r2).1), (1, .int .u64 (w1 : Int))]) (cs := [.bool (truthR n2 r2).1, .int .u64 (w1 : Int), .slice none 0 0, .slice none 0 0]) ⟨rfl, rfl, rfl, rfl, trivial⟩ (by kernel_rfl)) rfl ?_
    refine wl_nil ?_
    refine we_heldM (fun _ => ⟨(hs.ow 2 rfl).rd, (hs.ow 1 rfl).rd⟩) ?_
    have hS := And.intro (hs.ow 2 rfl).rd (hs.ow 1 rfl).rd
    apply wm_takeP 9; exact rfl; intro _; apply opv_fa; exact fa_sRe (by decide); exact rfl; exact rfl; kernel_rfl; exact fun _ => hS
    clear hS
    refine wm_one 10 (by kernel_rfl) rfl ?_; dsimp only [List.getElem_toArray, List.getElem_cons_succ, List.getElem_cons_zero]
    refine ws_stM (ds := [.bool (truthR n2 r2).1, .int .u64 (w1 : Int), .slice none 0 0, .slice none 0 0]) hs 3 rfl rfl rfl sRc (Nat.le_of_ble_eq_true rfl) rfl ?_
    clear hs; intro _ hs; dsimp only [setC, putN, List.set] at hs
    refine wl_nil ?_
    refine we_heldM (fun h => absurd h (by decide)) ?_
    refine wm_done (by kernel_rfl) ?_
    replace hs := (hs.drop 1 rfl).drop 1 rfl
    exact we_cut _ ⟨rfl, hs⟩ ⟨rfl, rfl, trivial⟩
  rintro _ w6 ⟨rfl, hs⟩
  have hr3 := truth_known (n := n2) hr2
  have hl3 := truth_rest (n := n2) hl2
  obtain ⟨⟨tb, r3⟩, hx3⟩ : ∃ x, truthR n2 r2 = x := ⟨_, rfl⟩
  rw [hx3] at hs hr3 hl3
  dsimp only at hs hr3 hl3
  refine we_seq ?_; refine wc_sr ?_; refine wl_mv rfl rfl ?_
  refine wl_val (opv_mkFn (us := [.pointer (some ⟨gx, 0, none⟩)]) ⟨rfl, trivial⟩) rfl ?_
  obtain ⟨S2, hS2, hB2, hM2, hH2, hB⟩ := St.lend (H1 := [rdP g A2 c2 r3, .blk gx _ _]) (H2 := []) hs
  refine wl_call ok_session_reader_within (prsW_any (v := fun i => match i with | 0 => .int .i64 n0 | 1 => .int .i64 n1 | 2 => .int .u64 (w0 : Int) | 4 => .bool tb | 5 => .int .u64 (w1 : Int) | _ => .slice none 0 0) hS2 (fun w' k => hK w' (hM2 w' k)) hr3 (Nat.le_trans hb hs.size) hl3) ⟨rfl, rfl, trivial⟩ rfl ?_
  rintro _ _ ⟨A4, c4, P, cp, hr4, hsx⟩
  replace hs := hB _ _ hsx
  clear hsx hB hH2 hM2 hB2 hS2
  dsimp only [List.cons_append, List.nil_append] at hs
  have hl4 := within_rest (z := []) (take := pairsA) hl3
  obtain ⟨⟨ps, r4⟩, hx4⟩ : ∃ x, withinR [] pairsA r3 = x := ⟨_, rfl⟩
  rw [hx4] at hs hr4 hl4
  dsimp only at hs hr4 hl4
  replace hs := hs.front 1 rfl
  dsimp only [delC] at hs
  replace hs := hs.front 1 rfl
  dsimp only [delC] at hs
  refine wl_ns ?_; refine wc_sr ?_; refine wl_mv rfl rfl ?_
  refine wl_val (opv_mkFn (us := [.pointer (some ⟨gx, 0, none⟩)]) ⟨rfl, trivial⟩) rfl ?_
  obtain ⟨S2, hS2, hB2, hM2, hH2, hB⟩ := St.lend (H1 := [rdP g A4 c4 r4, .blk gx _ _]) (H2 := [_]) hs
  refine wl_call ok_session_reader_within (wrsW_any (v := fun i => match i with | 0 => .int .i64 n0 | 1 => .int .i64 n1 | 2 => .int .u64 (w0 : Int) | 3 => .slice P ps.length cp | 4 => .bool tb | 5 => .int .u64 (w1 : Int) | _ => .slice none 0 0) hS2 (fun w' k => hK w' (hM2 w' k)) hr4 (Nat.le_trans hb hs.size) hl4) ⟨rfl, rfl, trivial⟩ rfl ?_
  rintro _ _ ⟨A5, c5, W, cw, hr5, hsx⟩
  replace hs := hB _ _ hsx
  clear hsx hB hH2 hM2 hB2 hS2
  dsimp only [List.cons_append, List.nil_append] at hs
  have hl5 := within_rest (z := []) (take := writesA) hl4
  obtain ⟨⟨qs, r5⟩, hx5⟩ : ∃ x, withinR [] writesA r4 = x := ⟨_, rfl⟩
  rw [hx5] at hs hr5 hl5
  dsimp only at hs hr5 hl5
  refine wl_ns ?_; refine wc_region ?_; refine wl_mv rfl rfl ?_
  obtain ⟨S2, hS2, hB2, hM2, hH2, hB⟩ := St.lend (H1 := [rdP g A5 c5 r5]) (H2 := [_, _, _]) hs
  refine wl_call ok_session_reader_next (snext_any hS2 (fun w' k => hK w' (hM2 w' k)) hr5) ⟨rfl, trivial⟩ rfl ?_
  rintro _ _ ⟨Y, cy, A6, c6, rfl, hY, hr6, hsx⟩
  replace hs := hB _ _ hsx
  clear hsx hB hH2 hM2 hB2 hS2
  dsimp only [List.cons_append, List.nil_append] at hs
  obtain ⟨⟨dt, r6⟩, hx6⟩ : ∃ x, nextR r5 = x := ⟨_, rfl⟩
  rw [hx6] at hs hY ⊢
  dsimp only at hs hY ⊢
  rw [resT_eq r hx1 hx2 hx3 hx4 hx5 hx6]
  apply wl_val; apply opv_fa; exact fa_sRe (by decide); exact rfl; exact rfl; apply wl_val; apply opv_fa; exact fa_sRc (by decide); exact rfl; exact rfl; apply ws_st hs 1; exact rfl; exact rfl; exact g1_by; exact rfl; exact rfl; exact rfl; clear hs; intro _ hs; dsimp only [setC, List.set] at hs; refine wl_nil ?_
  refine we_end0 rfl ⟨_, rfl, A6, c6, P, cp, W, cw, Y, cy, ?_, hY⟩
  have h2 := (hs.front 2 rfl).front 3 rfl
  dsimp only [delC] at h2
  have h3 := (St.kpAnd h2).front 1 rfl
  dsimp only [delC] at h3
  have h4 := h3.front 2 rfl
  dsimp only [delC] at h4
  exact h4.front 1 rfl
def ReR (base gx : Nat) (x : ResM) (K : World → Prop) (H : List Cd) : Prop := ∃ (P : Option Addr) (cp : Nat) (W : Option Addr) (cw : Nat) (Y : Option Addr) (cy : Nat), H = [.blk gx 40 (reV x P cp W cw Y cy), .ck (kp fun w => RdR 2 w All P (x.pairs.map prEl) ∧ RdR 3 w All W (x.writes.map wrEl))] ∧ ∀ w, K w → OwB w base Y cy x.reply
theorem sresult_any {g base : Nat} {A : Option Addr} {c : Nat} {r : Rd1} {S : BS} {w : World} {K : World → Prop} (h0 : Sat w [rdP g A c r] S) (hK : ∀ w', Mod S w w' → K w') (hr : RdK K base A c r.1) (hb : base ≤ w.heap.size) (hl : ∀ p ∈ r.1, p.length ≤ 1099511627776) :
    CallsV Try.prog 78 #[.pointer (some ⟨g, 0, none⟩)] w fun v w' => ∃ (A' : Option Addr) (c' : Nat) (P : Option Addr) (cp : Nat) (W : Option Addr) (cw : Nat) (Y : Option Addr) (cy : Nat), v = .agg (reV (resR r).1 P cp W cw Y cy).toArray ∧ RdK K base A' c' (resR r).2.1 ∧
      St S w w' [rdP g A' c' (resR r).2, .ck (kp (ReK base (resR r).1 P W Y cy))] := by
  have hs := St.start h0
  have hmax : maxLen = 9223372036854775807 := rfl
  have hpl := next_len hl
  refine calls_in (N := _) Try.func78 rfl Try.ntmps78 rfl ?_; show WC _ _ _ _ _ _
  refine wc_sr ?_
  refine ws_new hs zeroRe rfl ?_; clear hs; intro g1 _ hs
  replace hs := hs.front 1 rfl
  dsimp only [delC] at hs
  refine wl_ns ?_; refine wc_sr ?_; refine wl_mv rfl rfl ?_
  refine wl_val (opv_mkFn (us := [.pointer (some ⟨g1, 0, none⟩)]) ⟨rfl, trivial⟩) rfl ?_
  obtain ⟨S2, hS2, hB2, hM2, hH2, hB⟩ := St.lend (H1 := [rdP g A c r, .blk g1 40 zRe]) (H2 := []) hs
  refine wl_call ok_session_reader_within (swithin_any (take := resT) (z := zRes) (H := [.blk g1 40 zRe]) (ReR base g1) hS2 (fun w' k => hK w' (hM2 w' k)) hr (Nat.le_trans hb hs.size) hl ok_session_reader_result_1 ?_) ⟨rfl, rfl, trivial⟩ rfl ?_
  · intro p g2 A1 c1 K1 S1 w1 hp h01 hK1 hr1 hb1
    have hp2 : p.length ≤ 1099511627776 := by rw [hp]; exact hpl
    refine (result1_any h01 hK1 hr1 hb1 (fun q hq => Nat.le_trans (parts_le hq) hp2)).mono ?_
    rintro _ w2 ⟨A', c', P, cp, W, cw, Y, cy, hsx, h1⟩
    exact ⟨A', c', _, hsx, P, cp, W, cw, Y, cy, rfl, h1⟩
  rintro _ _ ⟨A', c', hr', hcase⟩
  rcases hcase with ⟨hn, hsx⟩ | ⟨hn, H2, K1, ⟨P, cp, W, cw, Y, cy, rfl, hY⟩, hsx⟩
  · replace hs := hB _ _ hsx
    clear hsx hB hH2 hM2 hB2 hS2
    have hm : resR r = (zRes, (nextR r).2) := by unfold resR withinR; rw [if_neg hn]
    have hm2 : (withinR zRes resT r) = (zRes, (nextR r).2) := hm
    rw [hm2] at hs hr'
    rw [hm]
    dsimp only [List.cons_append, List.nil_append] at hs hr' ⊢
    unfold zRe reV at hs
    refine wl_ns ?_; refine wc_sr ?_; apply wl_val; apply opv_loadX; exact rfl; exact hs.ar 1 rfl; exact sRe; exact rfl; apply ws_stS hs 1; exact rfl; exact rfl; exact rfl; exact sRe; exact rfl; exact rfl; clear hs; intro _ hs; dsimp only [setC] at hs; refine wl_ns ?_; refine wc_ret ?_
    refine we_retC rfl rfl (hs.ar 1 rfl) sRe ⟨_, rfl, A', c', none, 0, none, 0, none, 0, rfl, hr', ?_⟩
    have h2 := (hs.drop 1 rfl).kpNil (K := ReK base zRes none none none 0) fun w => ⟨rdr_nil, rdr_nil, Ow.nil _ _ _⟩
    exact h2.front 1 rfl
  · replace hs := hB _ _ hsx
    clear hsx hB hH2 hM2 hB2 hS2
    have hm2 : withinR zRes resT r = resR r := rfl
    rw [hm2] at hs hr' hY
    dsimp only [List.cons_append, List.nil_append] at hs
    obtain ⟨x, hx⟩ : ∃ x, (resR r).1 = x := ⟨_, rfl⟩
    rw [hx] at hs hY ⊢
    unfold reV at hs
    refine wl_ns ?_; refine wc_sr ?_; apply wl_val; apply opv_loadX; exact rfl; exact hs.ar 2 rfl; exact sRe; exact rfl; apply ws_stS hs 2; exact rfl; exact rfl; exact rfl; exact sRe; exact rfl; exact rfl; clear hs; intro _ hs; dsimp only [setC] at hs; refine wl_ns ?_; refine wc_ret ?_
    refine we_retC rfl rfl (hs.ar 2 rfl) sRe ⟨_, rfl, A', c', P, cp, W, cw, Y, cy, rfl, hr', ?_⟩
    have h2 := (hs.drop 2 rfl).front 1 rfl
    dsimp only [delC] at h2
    have h3 := h2.front 2 rfl
    dsimp only [delC] at h3
    have h4 := (St.kpAnd h3).kpMono (K' := ReK base x P W Y cy) fun w ⟨⟨k1, k2⟩, k3⟩ => ⟨k1, k2, hY w k3⟩
    exact h4.front 1 rfl
end Go.Proofs.Ytaacnknniaipmaa
