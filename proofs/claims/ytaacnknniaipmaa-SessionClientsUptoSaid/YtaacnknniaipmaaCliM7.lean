/-
  The texts of this proof, joined: X5, X6, X7, X8, X9, Y0, Y1, Y2, Y3.
-/
import Derived.Test.YtaacnknniaipmaaCliM6

/-
  Requests as bytes: numbers, cells, lists of cells.
-/
namespace Go.Proofs.Ytaacnknniaipmaa
open Go.RowKit

def pnB (n : Int) : By := putU (uI n)
def trB (b : Bool) : By := [if b then 1 else 0]
def cellB (c : LcM) : By := framed [pnB c.kind, trB c.b, pnB c.i, c.text, c.data]
def cellsB (l : List LcM) : By := framed (l.map cellB)
def lcB (c : LcM) : Nat := c.text.length + c.data.length
theorem pnB_le (n : Int) : (pnB n).length ≤ 10 := putU10 (uI n) (uI_lt n)
theorem trB_len (b : Bool) : (trB b).length = 1 := rfl
theorem fr_le {l : List By} {m : Nat} (h : l.flatten.length ≤ m) (hm : m < 18446744073709551616) : (framed l).length ≤ m + 10 * l.length := by
  have := framed_length l (fun r hr => by have := mem_flat hr; omega)
  omega
theorem flat_sum {α : Type} {f : α → By} {b : α → Nat} {K : Nat} : ∀ l : List α, (∀ x ∈ l, (f x).length + 10 ≤ K * (b x + 1)) → (l.map f).flatten.length + 10 * l.length ≤ K * sumB b l
  | [], _ => by simp [sumB]
  | x :: l, h => by
    have h1 := flat_sum l fun y hy => h y (List.mem_cons_of_mem _ hy)
    have h2 := h x List.mem_cons_self
    rw [sumB_cons, Nat.mul_add, List.map_cons, List.flatten_cons, List.length_append, List.length_cons]
    omega
theorem fr_sum {α : Type} {f : α → By} {b : α → Nat} {K : Nat} {l : List α} (h : ∀ x ∈ l, (f x).length + 10 ≤ K * (b x + 1)) (hm : K * sumB b l < 18446744073709551616) : (framed (l.map f)).length ≤ K * sumB b l := by
  have h1 := flat_sum l h
  have := framed_length (l.map f) (fun r hr => by have := mem_flat hr; omega)
  rw [List.length_map] at this
  omega
theorem cellB_le (c : LcM) (h : lcB c ≤ 1048576) : (cellB c).length + 10 ≤ 100 * (lcB c + 1) := by
  have h1 := pnB_le c.kind
  have h2 := trB_len c.b
  have h3 := pnB_le c.i
  unfold lcB at h ⊢
  have := fr_le (l := [pnB c.kind, trB c.b, pnB c.i, c.text, c.data]) (m := 21 + (c.text.length + c.data.length)) (by simp only [List.flatten_cons, List.flatten_nil, List.append_nil, List.length_append]; omega) (by omega)
  unfold cellB
  simp only [List.length_cons, List.length_nil] at this
  omega
theorem sum_le {α : Type} {b : α → Nat} {l : List α} {m : Nat} (h : sumB b l ≤ m) : ∀ x ∈ l, b x ≤ m := fun x hx => by have := sumB_mem (bulk := b) hx; omega
theorem sum_len {α : Type} {b : α → Nat} : ∀ l : List α, l.length ≤ sumB b l
  | [] => Nat.zero_le _
  | x :: l => by have := sum_len (b := b) l; rw [sumB_cons, List.length_cons]; omega
section
variable {P : Program} {N : Nat} {ops : Array Oper} {Q : Exit → Act → World → Prop} {L : FL} {w : World} {rest : List Oper} {e : TypeId}
/-- []byte(s), told by its block. -/
theorem wl_toBytesN {d : Nat} {x : Operand} {src dst ty : TypeId} {pos : String} {aft : Array Edge} {l : List UInt8} (hs : P.underlying src = some .string) (hd' : P.underlying dst = some (.slice e)) (he : P.underlying e = some (.int .u8)) (hx : look L x = some (str l)) (hd : Nat.blt d N = true)
    (h : ∀ A c w', some (⟨w.heap.size, 0, none⟩ : Addr) = A → Rd w' A l.length (bvs l) → l.length ≤ c → Below w.heap.size w w' → WL P N ops Q rest ((d, .slice A l.length c) :: L) w') :
    WL P N ops Q (⟨some d, .convert src dst x, ty, pos, aft, none⟩ :: rest) L w := by
  have hrun := run_bytes_of_string (P := P) w src dst e ⟨l.toArray⟩ hs hd' he
  refine wl_val (w' := w.drew.alloc (.cells (bytesRow ⟨l.toArray⟩ (grownCap w l.length 0 e)) e ((bytesRow ⟨l.toArray⟩ (grownCap w l.length 0 e)).size, (bytesRow ⟨l.toArray⟩ (grownCap w l.length 0 e)).size + 1))) (v := .slice (some ⟨w.heap.size, 0, none⟩) l.length (grownCap w l.length 0 e)) (fun ρ o hρ ho _ => ?_) hd (h _ _ _ rfl ?_ (grownCap_ge w l.length 0 e) ?_)
  · unfold execOp
    simp only [ho, hρ x _ hx, Sem.run_bind]
    rw [hrun]
    simp only [Result.andThen_ok, Sem.run_pure, size_list]
  · refine ⟨bvs_length l, fun hn => ⟨w.heap.size, 0, rfl, by simp, fun j u hu => ?_⟩⟩
    have hj : j < l.length := by have := (List.getElem?_eq_some_iff.1 hu).1; rwa [bvs_length] at this
    have := World.cell?_alloc_mark w.drew (bytesRow ⟨l.toArray⟩ (grownCap w l.length 0 e)) e ((bytesRow ⟨l.toArray⟩ (grownCap w l.length 0 e)).size, (bytesRow ⟨l.toArray⟩ (grownCap w l.length 0 e)).size + 1) j
    rw [Nat.zero_add]
    refine Eq.trans this ?_
    rw [bvs_get _ _ hj] at hu
    rw [← hu]
    unfold bytesRow
    rw [Array.getElem?_append_left (by simp; exact hj)]
    simp [hj, bv]
  · exact ((Below.refl _ _).drew).alloc (by simp) _
end
section
variable {M : BS} {w0 w w' : World} {H : List Cd} {A' : Option Addr} {c' : Nat} {vs : List Value} {rows : List By} {r : By}
theorem St.newTb (hs : St M w0 w H) (hA : some (⟨w.heap.size, 0, none⟩ : Addr) = A') (hb : Below w.heap.size w w') (hr : Rd w' A' r.length (bvs r)) (hc : r.length ≤ c') : St M w0 w' (.ce (byEl r) [.slice A' r.length c'] :: H) :=
  hs.new (T := fun b => w.heap.size ≤ b) (c := .ce (byEl r) [.slice A' r.length c']) hb ⟨_, c', rfl, hc, hr, fun a ha _ => by rw [← hA] at ha; cases ha; exact Nat.le_refl _⟩ fun _ _ h => h
theorem St.bbCe (hs : St M w0 w (.ce (byEl r) [.slice A' r.length c'] :: .ck (elC w0 vs rows) :: H)) : St M w0 w (.ck (elC w0 (vs ++ [.slice A' r.length c']) (rows ++ [r])) :: H) := by
  refine hs.pack (H1 := [_, _]) _ fun w S ⟨T1, hT1, he, T, hT, ⟨hl, h⟩, _⟩ => ⟨by simp [hl], fun i x hi => ?_⟩
  rcases Nat.lt_or_ge i rows.length with hlt | hge
  · rw [List.getElem?_append_left hlt] at hi
    obtain ⟨B, d, h1, h2, h3⟩ := h i x hi
    exact ⟨B, d, by rw [List.getElem?_append_left (by omega)]; exact h1, h2, h3.elim (fun k => .inl ⟨k.1, fun a ha hn => (hT _ (k.2 a ha hn)).1⟩) .inr⟩
  · rw [List.getElem?_append_right hge] at hi
    have hi0 : i - rows.length = 0 := by have := (List.getElem?_eq_some_iff.1 hi).1; simp at this; omega
    rw [hi0] at hi
    obtain rfl : r = x := by simpa using hi
    obtain ⟨B, d, e1, e2, e3, e4⟩ := he
    simp only [List.cons.injEq, Value.slice.injEq, and_true] at e1
    obtain ⟨rfl, _, rfl⟩ := e1
    exact ⟨A', c', by rw [List.getElem?_append_right (by omega), hl, hi0]; rfl, e2, .inl ⟨e3, fun a ha hn => hT1 _ (e4 a ha hn)⟩⟩
end
theorem pnum_any (n : Int) (w : World) : CallsV Try.prog 34 #[.int .i64 n] w (RetW w (pnB n)) := by
  have hs := St.init w
  refine calls_in (N := _) Try.func34 rfl Try.ntmps34 rfl ?_; show WC _ _ _ _ _ _
  refine wc_sr ?_; refine wl_as rfl rfl ?_; refine wl_ns ?_; refine wc_sr ?_; refine wl_mv rfl rfl ?_
  refine wl_val (opv_convR rfl Try.underlying3 Try.underlying22 (wrap_uI n)) rfl ?_
  refine wl_call ok_codec_PutU (putU_any (uI n) (uI_lt n) _) ⟨rfl, trivial⟩ rfl ?_
  rintro _ _ ⟨X, cx, rfl, o_, hbx⟩
  replace hs := hs.newO hbx o_ (Nat.le_refl _)
  refine wl_as rfl rfl ?_; refine wl_ns ?_; refine wc_ret ?_
  exact we_ret1 rfl rfl ⟨_, rfl, X, cx, rfl, hs⟩
theorem ptruth_any (b : Bool) (w : World) : CallsV Try.prog 84 #[.bool b] w (RetW w (trB b)) := by
  have hs := St.init w
  refine calls_in (N := _) Try.func84 rfl Try.ntmps84 rfl ?_; show WC _ _ _ _ _ _
  cases b with
  | true =>
    refine wc_sr ?_; refine wl_as rfl rfl ?_; refine wl_ns ?_; refine wc_seq ?_; refine wc_sr ?_; refine wl_mv rfl rfl ?_; refine wl_ns ?_; apply wc_condTb; exact rfl; exact rfl; refine wc_sr ?_
    refine wl_bs (vs := bvs [1]) tyB ⟨rfl, rfl, rfl, trivial⟩ rfl (by decide) rfl fun X _ o_ hbx _ => ?_
    replace hs := hs.newO hbx o_ (Nat.le_refl _)
    refine wl_as rfl rfl ?_; refine wl_ns ?_; refine wc_ret ?_; refine we_seq_ret ?_
    exact we_ret1 rfl rfl ⟨_, rfl, X, 1, rfl, hs⟩
  | false =>
    refine wc_sr ?_; refine wl_as rfl rfl ?_; refine wl_ns ?_; refine wc_seq ?_; refine wc_sr ?_; refine wl_mv rfl rfl ?_; refine wl_ns ?_; apply wc_condFb; exact rfl; exact rfl; refine wc_skip ?_; refine we_seq ?_; refine wc_sr ?_
    refine wl_bs (vs := bvs [0]) tyB ⟨rfl, rfl, rfl, trivial⟩ rfl (by decide) rfl fun X _ o_ hbx _ => ?_
    replace hs := hs.newO hbx o_ (Nat.le_refl _)
    refine wl_as rfl rfl ?_; refine wl_ns ?_; refine wc_ret ?_
    exact we_ret1 rfl rfl ⟨_, rfl, X, 1, rfl, hs⟩
theorem cellB_fl (c : LcM) (h : lcB c ≤ 1048576) : ([pnB c.kind, trB c.b, pnB c.i, c.text, c.data] : List By).flatten.length + 10 * ([pnB c.kind, trB c.b, pnB c.i, c.text, c.data] : List By).length ≤ 17592186044416 := by
  have h1 := pnB_le c.kind
  have h2 := trB_len c.b
  have h3 := pnB_le c.i
  unfold lcB at h
  simp only [List.flatten_cons, List.flatten_nil, List.append_nil, List.length_append, List.length_cons, List.length_nil]
  omega
set_option maxHeartbeats 4000000 in
theorem pcell_any {c : LcM} {D : Option Addr} {d : Nat} {w : World} (rD : RdB w D c.data) (hD : c.data.length ≤ d) (hl : lcB c ≤ 1048576) :
    CallsV Try.prog 63 #[.agg (lcV c D d).toArray] w (RetW w (cellB c)) := by
  have hs := St.init w
  refine calls_in (N := _) Try.func63 rfl Try.ntmps63 rfl ?_; show WC _ _ _ _ _ _
  refine wc_sr ?_
  refine ws_box (cs := lcV c D d) hs rfl rfl ?_; clear hs; intro g1 _ hs
  unfold lcV at hs
  refine wl_as rfl rfl ?_; refine wl_ns ?_; refine wc_seq ?_
  refine wc_heldG (fun w' => Ar w' g1 112 [.int .i64 c.kind, .bool c.b, .int .i64 c.i, str c.text, .slice D c.data.length d]) 17 mixed ?_
  replace hs := hs.below (Below.refl _ _).drew
  have hS := hs.ar 0 rfl
  apply wm_take 0; exact rfl; intro _ hw_; apply opv_fa; exact fa_Lc0; exact rfl; exact rfl; kernel_rfl; exact hS; apply wm_take 1; exact rfl; intro _ hw_; apply opv_ldX; exact rfl; assumption; exact g1_int; exact rfl; exact rfl; kernel_rfl; exact hS; apply wm_take 3; exact rfl; intro _ hw_; apply opv_fa; exact fa_Lc1; exact rfl; exact rfl; kernel_rfl; exact hS; apply wm_take 4; exact rfl; intro _ hw_; apply opv_ldX; exact rfl; assumption; exact g1_bool; exact rfl; exact rfl; kernel_rfl; exact hS; apply wm_take 6; exact rfl; intro _ hw_; apply opv_fa; exact fa_Lc2; exact rfl; exact rfl; kernel_rfl; exact hS; apply wm_take 7; exact rfl; intro _ hw_; apply opv_ldX; exact rfl; assumption; exact g1_i64; exact rfl; exact rfl; kernel_rfl; exact hS; apply wm_take 10; exact rfl; intro _ hw_; apply opv_fa; exact fa_Lc3; exact rfl; exact rfl; kernel_rfl; exact hS; apply wm_take 11; exact rfl; intro _ hw_; apply opv_ldX; exact rfl; assumption; exact g1_str; exact rfl; exact rfl; kernel_rfl; exact hS; apply wm_take 13; exact rfl; intro _ hw_; apply opv_fa; exact fa_Lc4; exact rfl; exact rfl; kernel_rfl; exact hS; apply wm_take 14; exact rfl; intro _ hw_; apply opv_ldX; exact rfl; assumption; exact g1_by; exact rfl; exact rfl; kernel_rfl; exact hS
  refine wm_take 8 rfl (fun w' hw => opv_convR rfl Try.underlying2 Try.underlying22 (wrap_uI c.i)) rfl (by kernel_rfl) hS ?_
  clear hS
  refine wm_two 2 12 (by kernel_rfl) rfl rfl ?_ ?_ <;> dsimp only [List.getElem_toArray, List.getElem_cons_succ, List.getElem_cons_zero]
  · refine wl_call ok_plan_number (pnum_any c.kind _) ⟨rfl, trivial⟩ rfl ?_
    rintro _ _ ⟨X2, x2, rfl, hsx⟩
    replace hs := hs.call hsx
    clear hsx
    dsimp only [List.cons_append, List.nil_append] at hs
    refine wl_nil ?_
    refine we_heldM (fun _ => hs.ar 1 rfl) ?_
    refine wm_two 5 12 (by kernel_rfl) rfl rfl ?_ ?_ <;> dsimp only [List.getElem_toArray, List.getElem_cons_succ, List.getElem_cons_zero]
    · refine wl_call ok_plan_truth (ptruth_any c.b _) ⟨rfl, trivial⟩ rfl ?_
      rintro _ _ ⟨X5, x5, rfl, hsx⟩
      replace hs := hs.call hsx
      clear hsx
      dsimp only [List.cons_append, List.nil_append] at hs
      refine wl_nil ?_
      refine we_heldM (fun _ => hs.ar 2 rfl) ?_
      refine wm_two 9 12 (by kernel_rfl) rfl rfl ?_ ?_ <;> dsimp only [List.getElem_toArray, List.getElem_cons_succ, List.getElem_cons_zero]
      · refine wl_call ok_codec_PutU (putU_any (uI c.i) (uI_lt c.i) _) ⟨rfl, trivial⟩ rfl ?_
        rintro _ _ ⟨X9, x9, rfl, o_, hbx⟩
        replace hs := hs.newO hbx o_ (Nat.le_refl _)
        clear hbx o_
        refine wl_nil ?_
        refine we_heldM (fun _ => hs.ar 3 rfl) ?_
        refine wm_one 12 (by kernel_rfl) rfl ?_; dsimp only [List.getElem_toArray, List.getElem_cons_succ, List.getElem_cons_zero]
        refine wl_toBytesN Try.underlying9 Try.underlying32 Try.underlying5 rfl rfl fun X12 x12 _ hX hr hcx hbx => ?_
        replace hs := hs.newTb hX hbx hr hcx
        clear hbx hr hcx hX
        refine wl_nil ?_
        refine we_heldM (fun _ => hs.ar 4 rfl) ?_
        refine wm_one 15 (by kernel_rfl) rfl ?_; dsimp only [List.getElem_toArray, List.getElem_cons_succ, List.getElem_cons_zero]
        refine wl_bs (vs := [.slice X2 (pnB c.kind).length x2, .slice X5 (trB c.b).length x5, .slice X9 (pnB c.i).length x9, .slice X12 c.text.length x12, .slice D c.data.length d]) tyBB ⟨rfl, rfl, rfl, rfl, rfl, rfl, rfl, rfl, rfl, rfl, rfl, rfl, rfl, rfl, rfl, trivial⟩ rfl (by decide) rfl fun X15 _ o_ hbx _ => ?_
        replace hs := hs.newO hbx o_ (Nat.le_refl _)
        clear hbx o_
        refine wl_nil ?_
        refine we_heldM (fun _ => hs.ar 5 rfl) ?_
        refine wm_one 16 (by kernel_rfl) rfl ?_; dsimp only [List.getElem_toArray, List.getElem_cons_succ, List.getElem_cons_zero]
        replace hs := hs.elNil
        replace hs := (hs.front 5 rfl).bbOwn
        dsimp only [delC] at hs
        replace hs := (hs.front 4 rfl).bbOwn
        dsimp only [delC] at hs
        replace hs := (hs.front 3 rfl).bbOwn
        dsimp only [delC] at hs
        replace hs := (hs.front 2 rfl).bbCe
        dsimp only [delC] at hs
        replace hs := hs.bbOld rD hD
        dsimp only [List.nil_append, List.cons_append] at hs
        refine wl_call ok_codec_Frame (frame_any (hs.bb 1 0 rfl rfl) rfl (by have := cellB_fl c hl; exact this)) ⟨rfl, trivial⟩ rfl ?_
        rintro _ _ ⟨X16, x16, rfl, o_, hbx⟩
        replace hs := hs.newO hbx o_ (Nat.le_refl _)
        clear hbx o_
        refine wl_nil ?_
        refine we_heldM (fun _ => hs.ar 3 rfl) ?_
        refine wm_one 17 (by kernel_rfl) rfl ?_; dsimp only [List.getElem_toArray, List.getElem_cons_succ, List.getElem_cons_zero]
        refine wl_as rfl rfl ?_; refine wl_nil ?_
        refine we_heldM (fun h => absurd h (by decide)) ?_
        refine wm_done (by kernel_rfl) ?_
        refine we_seq ?_; refine wc_ret ?_
        exact we_ret1 rfl rfl ⟨_, rfl, X16, x16, rfl, ((hs.drop 1 rfl).drop 1 rfl).drop 1 rfl⟩
      · refine wl_toBytesN Try.underlying9 Try.underlying32 Try.underlying5 rfl rfl fun X12 x12 _ hX hr hcx hbx => ?_
        replace hs := hs.newTb hX hbx hr hcx
        clear hbx hr hcx hX
        refine wl_nil ?_
        refine we_heldM (fun _ => hs.ar 3 rfl) ?_
        refine wm_one 9 (by kernel_rfl) rfl ?_; dsimp only [List.getElem_toArray, List.getElem_cons_succ, List.getElem_cons_zero]
        refine wl_call ok_codec_PutU (putU_any (uI c.i) (uI_lt c.i) _) ⟨rfl, trivial⟩ rfl ?_
        rintro _ _ ⟨X9, x9, rfl, o_, hbx⟩
        replace hs := hs.newO hbx o_ (Nat.le_refl _)
        clear hbx o_
        refine wl_nil ?_
        refine we_heldM (fun _ => hs.ar 4 rfl) ?_
        refine wm_one 15 (by kernel_rfl) rfl ?_; dsimp only [List.getElem_toArray, List.getElem_cons_succ, List.getElem_cons_zero]
        refine wl_bs (vs := [.slice X2 (pnB c.kind).length x2, .slice X5 (trB c.b).length x5, .slice X9 (pnB c.i).length x9, .slice X12 c.text.length x12, .slice D c.data.length d]) tyBB ⟨rfl, rfl, rfl, rfl, rfl, rfl, rfl, rfl, rfl, rfl, rfl, rfl, rfl, rfl, rfl, trivial⟩ rfl (by decide) rfl fun X15 _ o_ hbx _ => ?_
        replace hs := hs.newO hbx o_ (Nat.le_refl _)
        clear hbx o_
        refine wl_nil ?_
        refine we_heldM (fun _ => hs.ar 5 rfl) ?_
        refine wm_one 16 (by kernel_rfl) rfl ?_; dsimp only [List.getElem_toArray, List.getElem_cons_succ, List.getElem_cons_zero]
        replace hs := hs.elNil
        replace hs := (hs.front 5 rfl).bbOwn
        dsimp only [delC] at hs
        replace hs := (hs.front 4 rfl).bbOwn
        dsimp only [delC] at hs
        replace hs := (hs.front 2 rfl).bbOwn
        dsimp only [delC] at hs
        replace hs := (hs.front 2 rfl).bbCe
        dsimp only [delC] at hs
        replace hs := hs.bbOld rD hD
        dsimp only [List.nil_append, List.cons_append] at hs
        refine wl_call ok_codec_Frame (frame_any (hs.bb 1 0 rfl rfl) rfl (by have := cellB_fl c hl; exact this)) ⟨rfl, trivial⟩ rfl ?_
        rintro _ _ ⟨X16, x16, rfl, o_, hbx⟩
        replace hs := hs.newO hbx o_ (Nat.le_refl _)
        clear hbx o_
        refine wl_nil ?_
        refine we_heldM (fun _ => hs.ar 3 rfl) ?_
        refine wm_one 17 (by kernel_rfl) rfl ?_; dsimp only [List.getElem_toArray, List.getElem_cons_succ, List.getElem_cons_zero]
        refine wl_as rfl rfl ?_; refine wl_nil ?_
        refine we_heldM (fun h => absurd h (by decide)) ?_
        refine wm_done (by kernel_rfl) ?_
        refine we_seq ?_; refine wc_ret ?_
        exact we_ret1 rfl rfl ⟨_, rfl, X16, x16, rfl, ((hs.drop 1 rfl).drop 1 rfl).drop 1 rfl⟩
    · refine wl_toBytesN Try.underlying9 Try.underlying32 Try.underlying5 rfl rfl fun X12 x12 _ hX hr hcx hbx => ?_
      replace hs := hs.newTb hX hbx hr hcx
      clear hbx hr hcx hX
      refine wl_nil ?_
      refine we_heldM (fun _ => hs.ar 2 rfl) ?_
      refine wm_one 5 (by kernel_rfl) rfl ?_; dsimp only [List.getElem_toArray, List.getElem_cons_succ, List.getElem_cons_zero]
      refine wl_call ok_plan_truth (ptruth_any c.b _) ⟨rfl, trivial⟩ rfl ?_
      rintro _ _ ⟨X5, x5, rfl, hsx⟩
      replace hs := hs.call hsx
      clear hsx
      dsimp only [List.cons_append, List.nil_append] at hs
      refine wl_nil ?_
      refine we_heldM (fun _ => hs.ar 3 rfl) ?_
      refine wm_one 9 (by kernel_rfl) rfl ?_; dsimp only [List.getElem_toArray, List.getElem_cons_succ, List.getElem_cons_zero]
      refine wl_call ok_codec_PutU (putU_any (uI c.i) (uI_lt c.i) _) ⟨rfl, trivial⟩ rfl ?_
      rintro _ _ ⟨X9, x9, rfl, o_, hbx⟩
      replace hs := hs.newO hbx o_ (Nat.le_refl _)
      clear hbx o_
      refine wl_nil ?_
      refine we_heldM (fun _ => hs.ar 4 rfl) ?_
      refine wm_one 15 (by kernel_rfl) rfl ?_; dsimp only [List.getElem_toArray, List.getElem_cons_succ, List.getElem_cons_zero]
      refine wl_bs (vs := [.slice X2 (pnB c.kind).length x2, .slice X5 (trB c.b).length x5, .slice X9 (pnB c.i).length x9, .slice X12 c.text.length x12, .slice D c.data.length d]) tyBB ⟨rfl, rfl, rfl, rfl, rfl, rfl, rfl, rfl, rfl, rfl, rfl, rfl, rfl, rfl, rfl, trivial⟩ rfl (by decide) rfl fun X15 _ o_ hbx _ => ?_
      replace hs := hs.newO hbx o_ (Nat.le_refl _)
      clear hbx o_
      refine wl_nil ?_
      refine we_heldM (fun _ => hs.ar 5 rfl) ?_
      refine wm_one 16 (by kernel_rfl) rfl ?_; dsimp only [List.getElem_toArray, List.getElem_cons_succ, List.getElem_cons_zero]
      replace hs := hs.elNil
      replace hs := (hs.front 5 rfl).bbOwn
      dsimp only [delC] at hs
      replace hs := (hs.front 3 rfl).bbOwn
      dsimp only [delC] at hs
      replace hs := (hs.front 2 rfl).bbOwn
      dsimp only [delC] at hs
      replace hs := (hs.front 2 rfl).bbCe
      dsimp only [delC] at hs
      replace hs := hs.bbOld rD hD
      dsimp only [List.nil_append, List.cons_append] at hs
      refine wl_call ok_codec_Frame (frame_any (hs.bb 1 0 rfl rfl) rfl (by have := cellB_fl c hl; exact this)) ⟨rfl, trivial⟩ rfl ?_
      rintro _ _ ⟨X16, x16, rfl, o_, hbx⟩
      replace hs := hs.newO hbx o_ (Nat.le_refl _)
      clear hbx o_
      refine wl_nil ?_
      refine we_heldM (fun _ => hs.ar 3 rfl) ?_
      refine wm_one 17 (by kernel_rfl) rfl ?_; dsimp only [List.getElem_toArray, List.getElem_cons_succ, List.getElem_cons_zero]
      refine wl_as rfl rfl ?_; refine wl_nil ?_
      refine we_heldM (fun h => absurd h (by decide)) ?_
      refine wm_done (by kernel_rfl) ?_
      refine we_seq ?_; refine wc_ret ?_
      exact we_ret1 rfl rfl ⟨_, rfl, X16, x16, rfl, ((hs.drop 1 rfl).drop 1 rfl).drop 1 rfl⟩
  · refine wl_toBytesN Try.underlying9 Try.underlying32 Try.underlying5 rfl rfl fun X12 x12 _ hX hr hcx hbx => ?_
    replace hs := hs.newTb hX hbx hr hcx
    clear hbx hr hcx hX
    refine wl_nil ?_
    refine we_heldM (fun _ => hs.ar 1 rfl) ?_
    refine wm_one 2 (by kernel_rfl) rfl ?_; dsimp only [List.getElem_toArray, List.getElem_cons_succ, List.getElem_cons_zero]
    refine wl_call ok_plan_number (pnum_any c.kind _) ⟨rfl, trivial⟩ rfl ?_
    rintro _ _ ⟨X2, x2, rfl, hsx⟩
    replace hs := hs.call hsx
    clear hsx
    dsimp only [List.cons_append, List.nil_append] at hs
    refine wl_nil ?_
    refine we_heldM (fun _ => hs.ar 2 rfl) ?_
    refine wm_one 5 (by kernel_rfl) rfl ?_; dsimp only [List.getElem_toArray, List.getElem_cons_succ, List.getElem_cons_zero]
    refine wl_call ok_plan_truth (ptruth_any c.b _) ⟨rfl, trivial⟩ rfl ?_
    rintro _ _ ⟨X5, x5, rfl, hsx⟩
    replace hs := hs.call hsx
    clear hsx
    dsimp only [List.cons_append, List.nil_append] at hs
    refine wl_nil ?_
    refine we_heldM (fun _ => hs.ar 3 rfl) ?_
    refine wm_one 9 (by kernel_rfl) rfl ?_; dsimp only [List.getElem_toArray, List.getElem_cons_succ, List.getElem_cons_zero]
    refine wl_call ok_codec_PutU (putU_any (uI c.i) (uI_lt c.i) _) ⟨rfl, trivial⟩ rfl ?_
    rintro _ _ ⟨X9, x9, rfl, o_, hbx⟩
    replace hs := hs.newO hbx o_ (Nat.le_refl _)
    clear hbx o_
    refine wl_nil ?_
    refine we_heldM (fun _ => hs.ar 4 rfl) ?_
    refine wm_one 15 (by kernel_rfl) rfl ?_; dsimp only [List.getElem_toArray, List.getElem_cons_succ, List.getElem_cons_zero]
    refine wl_bs (vs := [.slice X2 (pnB c.kind).length x2, .slice X5 (trB c.b).length x5, .slice X9 (pnB c.i).length x9, .slice X12 c.text.length x12, .slice D c.data.length d]) tyBB ⟨rfl, rfl, rfl, rfl, rfl, rfl, rfl, rfl, rfl, rfl, rfl, rfl, rfl, rfl, rfl, trivial⟩ rfl (by decide) rfl fun X15 _ o_ hbx _ => ?_
    replace hs := hs.newO hbx o_ (Nat.le_refl _)
    clear hbx o_
    refine wl_nil ?_
    refine we_heldM (fun _ => hs.ar 5 rfl) ?_
    refine wm_one 16 (by kernel_rfl) rfl ?_; dsimp only [List.getElem_toArray, List.getElem_cons_succ, List.getElem_cons_zero]
    replace hs := hs.elNil
    replace hs := (hs.front 4 rfl).bbOwn
    dsimp only [delC] at hs
    replace hs := (hs.front 3 rfl).bbOwn
    dsimp only [delC] at hs
    replace hs := (hs.front 2 rfl).bbOwn
    dsimp only [delC] at hs
    replace hs := (hs.front 2 rfl).bbCe
    dsimp only [delC] at hs
    replace hs := hs.bbOld rD hD
    dsimp only [List.nil_append, List.cons_append] at hs
    refine wl_call ok_codec_Frame (frame_any (hs.bb 1 0 rfl rfl) rfl (by have := cellB_fl c hl; exact this)) ⟨rfl, trivial⟩ rfl ?_
    rintro _ _ ⟨X16, x16, rfl, o_, hbx⟩
    replace hs := hs.newO hbx o_ (Nat.le_refl _)
    clear hbx o_
    refine wl_nil ?_
    refine we_heldM (fun _ => hs.ar 3 rfl) ?_
    refine wm_one 17 (by kernel_rfl) rfl ?_; dsimp only [List.getElem_toArray, List.getElem_cons_succ, List.getElem_cons_zero]
    refine wl_as rfl rfl ?_; refine wl_nil ?_
    refine we_heldM (fun h => absurd h (by decide)) ?_
    refine wm_done (by kernel_rfl) ?_
    refine we_seq ?_; refine wc_ret ?_
    exact we_ret1 rfl rfl ⟨_, rfl, X16, x16, rfl, ((hs.drop 1 rfl).drop 1 rfl).drop 1 rfl⟩
def pcellsI (w : World) (l : List LcM) (A : Option Addr) (ca : Nat) : FL → World → Nat → Prop := fun L wr q =>
  ∃ (k : Nat) (R : Option Addr) (c : Nat) (vs : List Value), L = [(3, .slice R ((l.take k).map cellB).length c), (6, .slice A l.length ca), (7, .int .i64 (l.length : Int)), (8, .int .i64 (k : Int))] ∧ k ≤ l.length ∧
    St NoB w wr [.ow 32 R ((l.take k).map cellB).length c vs, .ck (elC w vs ((l.take k).map cellB))] ∧ q = l.length - k
set_option maxHeartbeats 4000000 in
theorem pcells_any {l : List LcM} {A : Option Addr} {ca : Nat} {w : World} (rL : RdR 5 w All A (l.map lcEl)) (hl : sumB lcB l ≤ 1048576) :
    CallsV Try.prog 35 #[.slice A l.length ca] w (RetW w (framed (l.map cellB))) := by
  have hs := (St.init w).elNil.nilO 32
  have hmax : maxLen = 9223372036854775807 := rfl
  have hn := sum_len (b := lcB) l
  refine calls_in (N := _) Try.func35 rfl Try.ntmps35 rfl ?_; show WC _ _ _ _ _ _
  refine wc_sr ?_; refine wl_as rfl rfl ?_; refine wl_ns ?_; refine wc_sr ?_; refine wl_as rfl rfl ?_; refine wl_ns ?_; refine wc_seq ?_; refine wc_sr ?_; refine wl_mv rfl rfl ?_; apply wl_val; apply opv_len; exact rfl; exact tkLc.sl; exact rfl; refine wl_mv rfl rfl ?_; refine wl_ns ?_; refine wc_block ?_
  refine wc_loop (pcellsI w l A ca) [(3, .slice none 0 0), (6, .slice A l.length ca), (7, .int .i64 (l.length : Int)), (8, .int .i64 (0 : Nat))] l.length ⟨0, none, 0, [], rfl, Nat.zero_le _, hs, rfl⟩ ⟨rfl, rfl, rfl, rfl, trivial⟩ ?_
  clear hs
  rintro _ w3 q ⟨k, R, c, vs, rfl, hk, hs, rfl⟩
  refine wc_sr ?_; refine wl_bin rfl rfl bin_lss rfl ?_; refine wl_ns ?_; refine wc_seq ?_
  refine wc_cond rfl (fun h1 => ?_) (fun h1 => ?_)
  · obtain ⟨p, hp⟩ : ∃ p, l[k]? = some p := ⟨_, List.getElem?_eq_getElem (by omega)⟩
    obtain ⟨b, o, cs, rfl, _, _, ⟨D, d, rfl, hx⟩, hw⟩ := RdR.at (k := 5) (by decide) rL (E := lcEl p) (i := k) (by rw [List.getElem?_map, hp]; rfl)
    have i1 := hw.below hs.bel
    have hpl := sum_le hl p (List.mem_of_getElem? hp)
    have htk := take_getR hp
    have hkk : ((l.take k).map cellB).length ≤ 1048576 := by rw [List.length_map, List.length_take]; omega
    refine wc_skip ?_; refine we_seq ?_; refine wc_seq ?_; refine wc_block ?_; refine wc_sr ?_; apply wl_val; apply opv_idxG tkLc; exact rfl; exact rfl; exact rfl; omega; exact rfl; apply wl_val; apply opv_ldG; exact rfl; assumption; exact sLc; exact rfl
    refine ws_var (cs := lcV p D d) hs zeroLc sLc rfl (fun _ => rfl) (by first | rfl | simp [Value.oneCell']) rfl ?_; clear hs; intro g5 _ hs
    clear i1
    unfold lcV at hs
    have hbe := hs.bel
    refine wl_ns ?_; refine wc_region ?_; refine wl_mv rfl rfl ?_; apply wl_val; apply opv_loadX; exact rfl; exact hs.ar 0 rfl; exact sLc; exact rfl
    refine wl_call ok_plan_putCell (pcell_any ((by_rd hx).1.below hbe) (by_rd hx).2 hpl) ⟨rfl, trivial⟩ rfl ?_
    rintro _ _ ⟨X, x, rfl, hsx⟩
    replace hs := hs.call hsx
    clear hsx hbe
    dsimp only [List.cons_append, List.nil_append] at hs
    skip
    refine ws_push (vs := [.slice X (cellB p).length x]) hs 2 rfl rfl tyBB ⟨rfl, rfl, rfl, trivial⟩ rfl (by decide) rfl (by omega) (by omega) rfl rfl ?_
    clear hs; intro _ R8 c8 _ hs; (try dsimp only [setC] at hs)
    replace hs := ((((hs.front 2 rfl).front 3 rfl).front 2 rfl).drop 3 rfl)
    replace hs := hs.bbOwn
    replace hs := hs.front 1 rfl
    dsimp only [delC] at hs
    have hnx : (l.take (k + 1)).map cellB = (l.take k).map cellB ++ [cellB p] := by rw [htk]; simp
    rw [← hnx] at hs
    rw [show ((l.take k).map cellB).length + 1 = ((l.take (k + 1)).map cellB).length by rw [hnx]; simp] at hs ⊢
    refine wl_as rfl rfl ?_; refine wl_nil ?_; refine we_block_norm ?_; refine we_seq ?_; refine wc_region ?_; apply wl_val; apply opv_bin; exact rfl; exact rfl; exact bin_add64 (by omega); exact rfl; refine wl_mv rfl rfl ?_; refine wl_nil ?_
    exact we_loop _ (l.length - (k + 1)) ⟨k + 1, R8, c8, _, rfl, by omega, hs, rfl⟩ (by omega) ⟨rfl, rfl, rfl, by rw [show ((k + 1 : Nat) : Int) = (k : Int) + 1 by omega]; rfl, trivial⟩
  · obtain rfl : k = l.length := by omega
    rw [List.take_length] at hs ⊢
    refine wc_exit ?_; refine we_seq_exit ?_; refine we_loop_exit ?_; refine we_block_exit ?_; refine we_seq ?_; refine wc_sr ?_; refine wl_mv rfl rfl ?_
    refine wl_call ok_codec_Frame (frame_any (hs.bb 0 1 rfl rfl) rfl (by rw [List.length_map]; have := flat_sum (K := 100) l (fun x hx => cellB_le x (sum_le hl x hx)); omega)) ⟨rfl, trivial⟩ rfl ?_
    rintro _ _ ⟨B, cB, rfl, o_, hbx⟩
    replace hs := hs.newO hbx o_ (Nat.le_refl _)
    refine wl_as rfl rfl ?_; refine wl_ns ?_; refine wc_ret ?_
    exact we_ret1 rfl rfl ⟨_, rfl, B, cB, rfl, (hs.drop 1 rfl).drop 1 rfl⟩
end Go.Proofs.Ytaacnknniaipmaa

/-
  Indexes and tables as bytes.
-/
namespace Go.Proofs.Ytaacnknniaipmaa
open Go.RowKit

structure ColM where
  name : By
  kind : Int
  null : Bool
structure IxM where
  name : By
  cols : List Int
  uniq : Bool
structure TbM where
  id : Int
  name : By
  cols : List ColM
  keys : Int
  ixs : List IxM
structure OpM where
  kind : Int
  table : By
  name : By
  df : TbM
  ix : IxM
  cells : List LcM
  most : Int
theorem g1_is : Cell1 Try.prog 104 := ⟨by kernel_rfl, by rw [Try.underlying104]⟩
theorem g1_cos : Cell1 Try.prog 100 := ⟨by kernel_rfl, by rw [Try.underlying100]⟩
theorem g1_ixs : Cell1 Try.prog 101 := ⟨by kernel_rfl, by rw [Try.underlying101]⟩
theorem sCo : StT Try.prog 177 3 := ⟨by kernel_rfl, by kernel_rfl⟩
theorem sIx : StT Try.prog 106 3 := ⟨by kernel_rfl, by kernel_rfl⟩
theorem sTb : StT Try.prog 103 5 := ⟨by kernel_rfl, by kernel_rfl⟩
theorem sOp : StT Try.prog 110 13 := ⟨by kernel_rfl, by kernel_rfl⟩
theorem fa_Co0 : FieldAt Try.prog 177 0 0 := fieldAt_mk Try.underlying177 rfl rfl (by kernel_rfl)
theorem fa_Co1 : FieldAt Try.prog 177 1 1 := fieldAt_mk Try.underlying177 rfl rfl (by kernel_rfl)
theorem fa_Co2 : FieldAt Try.prog 177 2 2 := fieldAt_mk Try.underlying177 rfl rfl (by kernel_rfl)
theorem fa_Ix0 : FieldAt Try.prog 106 0 0 := fieldAt_mk Try.underlying106 rfl rfl (by kernel_rfl)
theorem fa_Ix1 : FieldAt Try.prog 106 1 1 := fieldAt_mk Try.underlying106 rfl rfl (by kernel_rfl)
theorem fa_Ix2 : FieldAt Try.prog 106 2 2 := fieldAt_mk Try.underlying106 rfl rfl (by kernel_rfl)
theorem fa_Tb0 : FieldAt Try.prog 103 0 0 := fieldAt_mk Try.underlying103 rfl rfl (by kernel_rfl)
theorem fa_Tb1 : FieldAt Try.prog 103 1 1 := fieldAt_mk Try.underlying103 rfl rfl (by kernel_rfl)
theorem fa_Tb2 : FieldAt Try.prog 103 2 2 := fieldAt_mk Try.underlying103 rfl rfl (by kernel_rfl)
theorem fa_Tb3 : FieldAt Try.prog 103 3 3 := fieldAt_mk Try.underlying103 rfl rfl (by kernel_rfl)
theorem fa_Tb4 : FieldAt Try.prog 103 4 4 := fieldAt_mk Try.underlying103 rfl rfl (by kernel_rfl)
theorem fa_Op0 : FieldAt Try.prog 110 0 0 := fieldAt_mk Try.underlying110 rfl rfl (by kernel_rfl)
theorem fa_Op1 : FieldAt Try.prog 110 1 1 := fieldAt_mk Try.underlying110 rfl rfl (by kernel_rfl)
theorem fa_Op2 : FieldAt Try.prog 110 2 2 := fieldAt_mk Try.underlying110 rfl rfl (by kernel_rfl)
theorem fa_Op3 : FieldAt Try.prog 110 3 3 := fieldAt_mk Try.underlying110 rfl rfl (by kernel_rfl)
theorem fa_Op4 : FieldAt Try.prog 110 4 8 := fieldAt_mk Try.underlying110 rfl rfl (by kernel_rfl)
theorem fa_Op5 : FieldAt Try.prog 110 5 11 := fieldAt_mk Try.underlying110 rfl rfl (by kernel_rfl)
theorem fa_Op6 : FieldAt Try.prog 110 6 12 := fieldAt_mk Try.underlying110 rfl rfl (by kernel_rfl)
def coV (c : ColM) : List Value := [str c.name, .int .i64 c.kind, .bool c.null]
def ixV (x : IxM) (I : Option Addr) (i : Nat) : List Value := [str x.name, .slice I x.cols.length i, .bool x.uniq]
def tbV (t : TbM) (C : Option Addr) (c : Nat) (X : Option Addr) (x : Nat) : List Value := [.int .i64 t.id, str t.name, .slice C t.cols.length c, .int .i64 t.keys, .slice X t.ixs.length x]
def opV (o : OpM) (C : Option Addr) (c : Nat) (X : Option Addr) (x : Nat) (I : Option Addr) (i : Nat) (E : Option Addr) (e : Nat) : List Value :=
  [.int .i64 o.kind, str o.table, str o.name, .int .i64 o.df.id, str o.df.name, .slice C o.df.cols.length c, .int .i64 o.df.keys, .slice X o.df.ixs.length x, str o.ix.name, .slice I o.ix.cols.length i, .bool o.ix.uniq, .slice E o.cells.length e, .int .i64 o.most]
def zCo : ColM := ⟨[], 0, false⟩
def zIx : IxM := ⟨[], [], false⟩
def zTb : TbM := ⟨0, [], [], 0, []⟩
def zOp : OpM := ⟨0, [], [], zTb, zIx, [], 0⟩
theorem zeroCo : (Try.prog.info? 177).map (·.zero) = some (some (.agg (coV zCo).toArray)) := by kernel_rfl
theorem zeroIx : (Try.prog.info? 106).map (·.zero) = some (some (.agg (ixV zIx none 0).toArray)) := by kernel_rfl
theorem zeroOp : (Try.prog.info? 110).map (·.zero) = some (some (.agg (opV zOp none 0 none 0 none 0 none 0).toArray)) := by kernel_rfl
theorem tkCo : RowK Try.prog 100 177 3 (.agg (coV zCo).toArray) 32 := ⟨Try.underlying100, by kernel_rfl, by simp [coV, Value.cells], by decide⟩
theorem tkIx : RowK Try.prog 101 106 3 (.agg (ixV zIx none 0).toArray) 48 := ⟨Try.underlying101, by kernel_rfl, by simp [ixV, Value.cells], by decide⟩
theorem tkOp : RowK Try.prog 48 110 13 (.agg (opV zOp none 0 none 0 none 0 none 0).toArray) 200 := ⟨Try.underlying48, by kernel_rfl, by simp [opV, Value.cells], by decide⟩
def iEl (n : Int) : El := vEl (.int .i64 n)
theorem flat_i : ∀ l : List Int, (l.map fun (n : Int) => [Value.int .i64 n]).flatten = iVs l
  | [] => rfl
  | a :: l => by rw [List.map_cons, List.flatten_cons, flat_i l]; rfl
theorem ints_rd {w : World} {S : BS} {A : Option Addr} {l : List Int} (h : RdR 1 w S A (l.map iEl)) : Rd w A l.length (iVs l) := by
  obtain ⟨css, hg, hr, _⟩ := h
  rw [List.length_map, Nat.mul_one] at hr
  have e : css.flatten = iVs l := by
    have h1 := hg.1
    rw [List.length_map] at h1
    have h2 : css = l.map fun (n : Int) => [Value.int .i64 n] := by
      refine List.ext_getElem? fun i => ?_
      rw [List.getElem?_map]
      rcases Nat.lt_or_ge i l.length with hlt | hge
      · rw [List.getElem?_eq_getElem (show i < css.length by omega), List.getElem?_eq_getElem hlt]
        obtain ⟨_, E, h3, h4⟩ := hg.2 i _ (List.getElem?_eq_getElem (show i < css.length by omega))
        rw [List.getElem?_map, List.getElem?_eq_getElem hlt] at h3
        simp only [Option.map_some, Option.some.injEq] at h3
        subst h3
        have h5 : css[i] = [Value.int .i64 l[i]] := h4
        rw [h5]; rfl
      · rw [List.getElem?_eq_none (by omega), List.getElem?_eq_none hge]; rfl
    rw [h2, flat_i]
  rw [← e]; exact hr
def coEl (c : ColM) : El := rawEl (coV c)
def ixEl (x : IxM) : El where
  P w S cs := ∃ (I : Option Addr) (i : Nat), cs = ixV x I i ∧ (rowEl 1 (x.cols.map iEl)).P w S [.slice I x.cols.length i]
  move := by rintro w w' S S' cs ⟨I, i, h, h1⟩ hz hm; exact ⟨I, i, h, El.move _ h1 hz hm⟩
def colB (c : ColM) : By := framed [c.name, pnB c.kind, trB c.null]
def ixB (x : IxM) : By := framed ([x.name, trB x.uniq] ++ x.cols.map pnB)
def tbB (t : TbM) : By := framed [pnB t.id, t.name, pnB t.keys, framed (t.cols.map colB), framed (t.ixs.map ixB)]
def coW (c : ColM) : Nat := c.name.length
def ixW (x : IxM) : Nat := x.name.length + sumB (fun _ => 0) x.cols
def tbW (t : TbM) : Nat := t.name.length + sumB coW t.cols + sumB ixW t.ixs
theorem colB_fl (c : ColM) (h : coW c ≤ 1048576) : ([c.name, pnB c.kind, trB c.null] : List By).flatten.length + 10 * ([c.name, pnB c.kind, trB c.null] : List By).length ≤ 17592186044416 := by
  have h1 := pnB_le c.kind
  have h2 := trB_len c.null
  unfold coW at h
  simp only [List.flatten_cons, List.flatten_nil, List.append_nil, List.length_append, List.length_cons, List.length_nil]
  omega
theorem colB_le (c : ColM) (h : coW c ≤ 1048576) : (colB c).length + 10 ≤ 100 * (coW c + 1) := by
  have h1 := pnB_le c.kind
  have h2 := trB_len c.null
  unfold coW at h ⊢
  have := fr_le (l := [c.name, pnB c.kind, trB c.null]) (m := 11 + c.name.length) (by simp only [List.flatten_cons, List.flatten_nil, List.append_nil, List.length_append]; omega) (by omega)
  unfold colB
  simp only [List.length_cons, List.length_nil] at this
  omega
theorem pns_le : ∀ l : List Int, (l.map pnB).flatten.length ≤ 10 * l.length
  | [] => by simp
  | n :: l => by have := pns_le l; have := pnB_le n; rw [List.map_cons, List.flatten_cons, List.length_append, List.length_cons]; omega
theorem ixB_fl (x : IxM) (k : Nat) (h : ixW x ≤ 1048576) : ([x.name, trB x.uniq] ++ (x.cols.take k).map pnB : List By).flatten.length ≤ x.name.length + 1 + 10 * x.cols.length ∧ x.cols.length ≤ 1048576 ∧ x.name.length ≤ 1048576 := by
  have h1 := pns_le (x.cols.take k)
  have h2 := trB_len x.uniq
  have h3 := sum_len (b := fun _ => 0) x.cols
  have h4 : (x.cols.take k).length ≤ x.cols.length := by rw [List.length_take]; omega
  unfold ixW at h
  refine ⟨?_, by omega, by omega⟩
  rw [List.flatten_append, List.length_append]
  simp only [List.flatten_cons, List.flatten_nil, List.append_nil, List.length_append]
  omega
theorem ixB_le (x : IxM) (h : ixW x ≤ 1048576) : (ixB x).length + 10 ≤ 100 * (ixW x + 1) := by
  have h1 := ixB_fl x x.cols.length h
  rw [List.take_length] at h1
  have h3 := sum_len (b := fun _ => 0) x.cols
  have := fr_le (l := [x.name, trB x.uniq] ++ x.cols.map pnB) h1.1 (by omega)
  simp only [List.length_append, List.length_cons, List.length_nil, List.length_map] at this
  unfold ixB ixW
  omega
theorem tbB_fl (t : TbM) (h : tbW t ≤ 1048576) : ([pnB t.id, t.name, pnB t.keys, framed (t.cols.map colB), framed (t.ixs.map ixB)] : List By).flatten.length ≤ 20 + 100 * tbW t ∧
    (t.cols.map colB).flatten.length + 10 * t.cols.length ≤ 104857600 ∧ (t.ixs.map ixB).flatten.length + 10 * t.ixs.length ≤ 104857600 ∧ t.cols.length ≤ 1048576 ∧ t.ixs.length ≤ 1048576 := by
  have h1 := pnB_le t.id
  have h2 := pnB_le t.keys
  unfold tbW at h ⊢
  have h3 : ∀ c ∈ t.cols, (colB c).length + 10 ≤ 100 * (coW c + 1) := fun c hc => colB_le c (sum_le (m := 1048576) (by omega) c hc)
  have h4 : ∀ c ∈ t.ixs, (ixB c).length + 10 ≤ 100 * (ixW c + 1) := fun c hc => ixB_le c (sum_le (m := 1048576) (by omega) c hc)
  have h5 := fr_sum h3 (by omega)
  have h6 := fr_sum h4 (by omega)
  have h7 := flat_sum _ h3
  have h8 := flat_sum _ h4
  have h9 := sum_len (b := coW) t.cols
  have h10 := sum_len (b := ixW) t.ixs
  refine ⟨?_, by omega, by omega, by omega, by omega⟩
  simp only [List.flatten_cons, List.flatten_nil, List.append_nil, List.length_append]
  omega
theorem tbB_le (t : TbM) (h : tbW t ≤ 1048576) : (tbB t).length + 10 ≤ 100 * (tbW t + 1) := by
  have h1 := tbB_fl t h
  have := fr_le (l := [pnB t.id, t.name, pnB t.keys, framed (t.cols.map colB), framed (t.ixs.map ixB)]) h1.1 (by omega)
  simp only [List.length_cons, List.length_nil] at this
  unfold tbB
  omega
def ixPs (x : IxM) (k : Nat) : List By := [x.name, trB x.uniq] ++ (x.cols.take k).map pnB
theorem ixPs_all (x : IxM) : framed (ixPs x x.cols.length) = ixB x := by unfold ixPs ixB; rw [List.take_length]
def IxI (w : World) (x : IxM) (I : Option Addr) (i : Nat) : FL → World → Nat → Prop := fun L wr q =>
  ∃ (k : Nat) (R : Option Addr) (c : Nat) (vs : List Value), L = [(3, .slice R (ixPs x k).length c), (14, .slice I x.cols.length i), (15, .int .i64 (x.cols.length : Int)), (16, .int .i64 (k : Int))] ∧ k ≤ x.cols.length ∧
    St NoB w wr [.ow 32 R (ixPs x k).length c vs, .ck (elC w vs (ixPs x k))] ∧ q = x.cols.length - k
set_option maxHeartbeats 4000000 in
theorem pix_any {x : IxM} {I : Option Addr} {i : Nat} {w : World} (rI : Rd w I x.cols.length (iVs x.cols)) (hl : ixW x ≤ 1048576) :
    CallsV Try.prog 61 #[.agg (ixV x I i).toArray] w (RetW w (ixB x)) := by
  have hs := St.init w
  have hmax : maxLen = 9223372036854775807 := rfl
  refine calls_in (N := _) Try.func61 rfl Try.ntmps61 rfl ?_; show WC _ _ _ _ _ _
  refine wc_sr ?_
  refine ws_box (cs := ixV x I i) hs rfl rfl ?_; clear hs; intro g1 _ hs
  unfold ixV at hs
  refine wl_as rfl rfl ?_; refine wl_ns ?_; refine wc_seq ?_
  refine wc_cutE (fun L w' => ∃ (R : Option Addr) (c : Nat) (vs : List Value), L = [(1, .pointer (some ⟨g1, 0, none⟩)), (3, .slice R 2 c)] ∧ St NoB w w' [.ow 32 R 2 c vs, .ck (elC w vs [x.name, trB x.uniq]), .blk g1 106 (ixV x I i)]) ?_ ?_
  · refine wc_heldG (fun w' => Ar w' g1 106 [str x.name, .slice I x.cols.length i, .bool x.uniq]) 7 mixed ?_
    replace hs := hs.below (Below.refl _ _).drew
    have hS := hs.ar 0 rfl
    apply wm_take 0; exact rfl; intro _ hw_; apply opv_fa; exact fa_Ix0; exact rfl; exact rfl; kernel_rfl; exact hS; apply wm_take 1; exact rfl; intro _ hw_; apply opv_ldX; exact rfl; assumption; exact g1_str; exact rfl; exact rfl; kernel_rfl; exact hS; apply wm_take 3; exact rfl; intro _ hw_; apply opv_fa; exact fa_Ix2; exact rfl; exact rfl; kernel_rfl; exact hS; apply wm_take 4; exact rfl; intro _ hw_; apply opv_ldX; exact rfl; assumption; exact g1_bool; exact rfl; exact rfl; kernel_rfl; exact hS
    clear hS
    refine wm_two 2 5 (by kernel_rfl) rfl rfl ?_ ?_ <;> dsimp only [List.getElem_toArray, List.getElem_cons_succ, List.getElem_cons_zero]
    · refine wl_toBytesN Try.underlying9 Try.underlying32 Try.underlying5 rfl rfl fun X2 x2 _ hX hr hcx hbx => ?_
      replace hs := hs.newTb hX hbx hr hcx
      clear hbx hr hcx hX
      refine wl_nil ?_
      refine we_heldM (fun _ => hs.ar 1 rfl) ?_
      refine wm_one 5 (by kernel_rfl) rfl ?_; dsimp only [List.getElem_toArray, List.getElem_cons_succ, List.getElem_cons_zero]
      refine wl_call ok_plan_truth (ptruth_any x.uniq _) ⟨rfl, trivial⟩ rfl ?_
      rintro _ _ ⟨X5, x5, rfl, hsx⟩
      replace hs := hs.call hsx
      clear hsx
      dsimp only [List.cons_append, List.nil_append] at hs
      refine wl_nil ?_
      refine we_heldM (fun _ => hs.ar 2 rfl) ?_
      refine wm_one 6 (by kernel_rfl) rfl ?_; dsimp only [List.getElem_toArray, List.getElem_cons_succ, List.getElem_cons_zero]
      refine wl_bs (vs := [.slice X2 x.name.length x2, .slice X5 (trB x.uniq).length x5]) tyBB ⟨rfl, rfl, rfl, rfl, rfl, rfl, trivial⟩ rfl (by decide) rfl fun X6 _ o_ hbx _ => ?_
      replace hs := hs.newO hbx o_ (Nat.le_refl _)
      clear hbx o_
      refine wl_nil ?_
      refine we_heldM (fun _ => hs.ar 3 rfl) ?_
      refine wm_one 7 (by kernel_rfl) rfl ?_; dsimp only [List.getElem_toArray, List.getElem_cons_succ, List.getElem_cons_zero]
      refine wl_as rfl rfl ?_; refine wl_nil ?_
      refine we_heldM (fun h => absurd h (by decide)) ?_
      refine wm_done (by kernel_rfl) ?_
      replace hs := hs.elNil
      replace hs := (hs.front 3 rfl).bbCe
      dsimp only [delC] at hs
      replace hs := (hs.front 2 rfl).bbOwn
      dsimp only [delC] at hs
      dsimp only [List.nil_append, List.cons_append] at hs
      exact we_cut _ ⟨X6, 2, _, rfl, hs.front 1 rfl⟩ ⟨rfl, rfl, trivial⟩
    · refine wl_call ok_plan_truth (ptruth_any x.uniq _) ⟨rfl, trivial⟩ rfl ?_
      rintro _ _ ⟨X5, x5, rfl, hsx⟩
      replace hs := hs.call hsx
      clear hsx
      dsimp only [List.cons_append, List.nil_append] at hs
      refine wl_nil ?_
      refine we_heldM (fun _ => hs.ar 1 rfl) ?_
      refine wm_one 2 (by kernel_rfl) rfl ?_; dsimp only [List.getElem_toArray, List.getElem_cons_succ, List.getElem_cons_zero]
      refine wl_toBytesN Try.underlying9 Try.underlying32 Try.underlying5 rfl rfl fun X2 x2 _ hX hr hcx hbx => ?_
      replace hs := hs.newTb hX hbx hr hcx
      clear hbx hr hcx hX
      refine wl_nil ?_
      refine we_heldM (fun _ => hs.ar 2 rfl) ?_
      refine wm_one 6 (by kernel_rfl) rfl ?_; dsimp only [List.getElem_toArray, List.getElem_cons_succ, List.getElem_cons_zero]
      refine wl_bs (vs := [.slice X2 x.name.length x2, .slice X5 (trB x.uniq).length x5]) tyBB ⟨rfl, rfl, rfl, rfl, rfl, rfl, trivial⟩ rfl (by decide) rfl fun X6 _ o_ hbx _ => ?_
      replace hs := hs.newO hbx o_ (Nat.le_refl _)
      clear hbx o_
      refine wl_nil ?_
      refine we_heldM (fun _ => hs.ar 3 rfl) ?_
      refine wm_one 7 (by kernel_rfl) rfl ?_; dsimp only [List.getElem_toArray, List.getElem_cons_succ, List.getElem_cons_zero]
      refine wl_as rfl rfl ?_; refine wl_nil ?_
      refine we_heldM (fun h => absurd h (by decide)) ?_
      refine wm_done (by kernel_rfl) ?_
      replace hs := hs.elNil
      replace hs := (hs.front 2 rfl).bbCe
      dsimp only [delC] at hs
      replace hs := (hs.front 2 rfl).bbOwn
      dsimp only [delC] at hs
      dsimp only [List.nil_append, List.cons_append] at hs
      exact we_cut _ ⟨X6, 2, _, rfl, hs.front 1 rfl⟩ ⟨rfl, rfl, trivial⟩
  clear hs
  rintro _ w2 ⟨R, c, vs, rfl, hs⟩
  unfold ixV at hs
  refine we_seq ?_; refine wc_seq ?_; refine wc_sr ?_; apply wl_val; apply opv_fa; exact fa_Ix1; exact rfl; exact rfl; apply wl_val; apply opv_ldX; exact rfl; exact hs.ar 2 rfl; exact g1_is; exact rfl; exact rfl; apply wl_val; apply opv_len; exact rfl; exact tyIs.sl; exact rfl; refine wl_mv rfl rfl ?_; refine wl_ns ?_; refine wc_block ?_
  refine wc_loop (IxI w x I i) [(3, .slice R 2 c), (14, .slice I x.cols.length i), (15, .int .i64 (x.cols.length : Int)), (16, .int .i64 (0 : Nat))] x.cols.length ⟨0, R, c, vs, rfl, Nat.zero_le _, (hs.drop 2 rfl), rfl⟩ ⟨rfl, rfl, rfl, rfl, trivial⟩ ?_
  clear hs
  rintro _ w3 q ⟨k, R, c, vs, rfl, hk, hs, rfl⟩
  have hfl : (ixPs x k).flatten.length ≤ _ ∧ _ := ixB_fl x k hl
  have hkk : (ixPs x k).length ≤ 1048578 := by unfold ixPs; simp only [List.length_append, List.length_cons, List.length_nil, List.length_map, List.length_take]; omega
  refine wc_sr ?_; refine wl_bin rfl rfl bin_lss rfl ?_; refine wl_ns ?_; refine wc_seq ?_
  refine wc_cond rfl (fun h1 => ?_) (fun h1 => ?_)
  · obtain ⟨n, hn⟩ : ∃ n, x.cols[k]? = some n := ⟨_, List.getElem?_eq_getElem (by omega)⟩
    have htk := take_getR hn
    have hv : (iVs x.cols)[k]? = some (.int .i64 n) := by simp [iVs, hn]
    refine wc_skip ?_; refine we_seq ?_; refine wc_seq ?_; refine wc_block ?_; refine wc_sr ?_
    refine wl_val (opv_idxR (kk := k) (u := .int .i64 n) tyIs rfl rfl (rI.below hs.bel) rfl hv) rfl ?_
    refine wl_val (opv_loadR (kk := k) (u := .int .i64 n) tyIs rfl (rI.below hs.bel) hv) rfl ?_
    refine wl_as rfl rfl ?_; refine wl_ns ?_; refine wc_region ?_; refine wl_mv rfl rfl ?_; refine wl_mv rfl rfl ?_
    refine wl_call ok_plan_number (pnum_any n _) ⟨rfl, trivial⟩ rfl ?_
    rintro _ _ ⟨X, xc, rfl, hsx⟩
    replace hs := hs.call hsx
    clear hsx
    dsimp only [List.cons_append, List.nil_append] at hs
    skip
    refine ws_push (vs := [.slice X (pnB n).length xc]) hs 1 rfl rfl tyBB ⟨rfl, rfl, rfl, trivial⟩ rfl (by decide) rfl (by omega) (by omega) rfl rfl ?_
    clear hs; intro _ R8 c8 _ hs; (try dsimp only [setC] at hs)
    replace hs := (((hs.front 1 rfl).front 2 rfl).front 2 rfl)
    replace hs := hs.bbOwn
    replace hs := hs.front 1 rfl
    dsimp only [delC] at hs
    have hnx : ixPs x (k + 1) = ixPs x k ++ [pnB n] := by unfold ixPs; rw [htk]; simp
    rw [← hnx] at hs
    rw [show (ixPs x k).length + 1 = (ixPs x (k + 1)).length by rw [hnx]; simp] at hs ⊢
    refine wl_as rfl rfl ?_; refine wl_nil ?_; refine we_block_norm ?_; refine we_seq ?_; refine wc_region ?_; apply wl_val; apply opv_bin; exact rfl; exact rfl; exact bin_add64 (by omega); exact rfl; refine wl_mv rfl rfl ?_; refine wl_nil ?_
    exact we_loop _ (x.cols.length - (k + 1)) ⟨k + 1, R8, c8, _, rfl, by omega, hs, rfl⟩ (by omega) ⟨rfl, rfl, rfl, by rw [show ((k + 1 : Nat) : Int) = (k : Int) + 1 by omega]; rfl, trivial⟩
  · obtain rfl : k = x.cols.length := by omega
    rw [← ixPs_all]
    refine wc_exit ?_; refine we_seq_exit ?_; refine we_loop_exit ?_; refine we_block_exit ?_; refine we_seq ?_; refine wc_sr ?_; refine wl_mv rfl rfl ?_
    refine wl_call ok_codec_Frame (frame_any (hs.bb 0 1 rfl rfl) rfl (by omega)) ⟨rfl, trivial⟩ rfl ?_
    rintro _ _ ⟨B, cB, rfl, o_, hbx⟩
    replace hs := hs.newO hbx o_ (Nat.le_refl _)
    refine wl_as rfl rfl ?_; refine wl_ns ?_; refine wc_ret ?_
    exact we_ret1 rfl rfl ⟨_, rfl, B, cB, rfl, (hs.drop 1 rfl).drop 1 rfl⟩
end Go.Proofs.Ytaacnknniaipmaa

/-
  Tables as bytes.
-/
namespace Go.Proofs.Ytaacnknniaipmaa
open Go.RowKit

def TcI (w : World) (t : TbM) (C : Option Addr) (cc g1 : Nat) (cs : List Value) : FL → World → Nat → Prop := fun L wr q =>
  ∃ (k : Nat) (R : Option Addr) (c : Nat) (vs : List Value), L = [(1, .pointer (some ⟨g1, 0, none⟩)), (3, .slice R ((t.cols.take k).map colB).length c), (4, .slice none 0 0), (10, .slice C t.cols.length cc), (11, .int .i64 (t.cols.length : Int)), (12, .int .i64 (k : Int))] ∧ k ≤ t.cols.length ∧
    St NoB w wr [.ow 32 R ((t.cols.take k).map colB).length c vs, .ck (elC w vs ((t.cols.take k).map colB)), .blk g1 103 cs] ∧ q = t.cols.length - k
def TxI (w : World) (t : TbM) (X : Option Addr) (xc g1 : Nat) (cs : List Value) (R3 : Option Addr) (c3 : Nat) (v3 : List Value) : FL → World → Nat → Prop := fun L wr q =>
  ∃ (k : Nat) (R : Option Addr) (c : Nat) (vs : List Value), L = [(1, .pointer (some ⟨g1, 0, none⟩)), (3, .slice R3 (t.cols.map colB).length c3), (4, .slice R ((t.ixs.take k).map ixB).length c), (32, .slice X t.ixs.length xc), (33, .int .i64 (t.ixs.length : Int)), (34, .int .i64 (k : Int))] ∧ k ≤ t.ixs.length ∧
    St NoB w wr [.ow 32 R ((t.ixs.take k).map ixB).length c vs, .ck (elC w vs ((t.ixs.take k).map ixB)), .ow 32 R3 (t.cols.map colB).length c3 v3, .ck (elC w v3 (t.cols.map colB)), .blk g1 103 cs] ∧ q = t.ixs.length - k
set_option maxHeartbeats 8000000 in
set_option maxRecDepth 8000 in
theorem ptb_any {t : TbM} {C X : Option Addr} {cc xc : Nat} {w : World} (rC : RdR 3 w All C (t.cols.map coEl)) (rX : RdR 3 w All X (t.ixs.map ixEl)) (hl : tbW t ≤ 1048576) :
    CallsV Try.prog 60 #[.agg (tbV t C cc X xc).toArray] w (RetW w (tbB t)) := by
  have hs := St.init w
  have hmax : maxLen = 9223372036854775807 := rfl
  have hfl := tbB_fl t hl
  refine calls_in (N := _) Try.func60 rfl Try.ntmps60 rfl ?_; show WC _ _ _ _ _ _
  refine wc_sr ?_
  refine ws_box (cs := tbV t C cc X xc) hs rfl rfl ?_; clear hs; intro g1 _ hs
  unfold tbV at hs
  replace hs := hs.elNil.nilO 32
  refine wl_as rfl rfl ?_; refine wl_ns ?_; refine wc_sr ?_; refine wl_as rfl rfl ?_; refine wl_as rfl rfl ?_; refine wl_ns ?_; refine wc_seq ?_; refine wc_sr ?_; apply wl_val; apply opv_fa; exact fa_Tb2; exact rfl; exact rfl; apply wl_val; apply opv_ldX; exact rfl; exact hs.ar 2 rfl; exact g1_cos; exact rfl; exact rfl; apply wl_val; apply opv_len; exact rfl; exact tkCo.sl; exact rfl; refine wl_mv rfl rfl ?_; refine wl_ns ?_; refine wc_block ?_
  refine wc_loop (TcI w t C cc g1 _) [(1, .pointer (some ⟨g1, 0, none⟩)), (3, .slice none 0 0), (4, .slice none 0 0), (10, .slice C t.cols.length cc), (11, .int .i64 (t.cols.length : Int)), (12, .int .i64 (0 : Nat))] t.cols.length ⟨0, none, 0, [], rfl, Nat.zero_le _, hs, rfl⟩ ⟨rfl, rfl, rfl, rfl, rfl, rfl, trivial⟩ ?_
  clear hs
  rintro _ w3 q ⟨k, R, c, vs, rfl, hk, hs, rfl⟩
  have hkk : ((t.cols.take k).map colB).length ≤ 1048576 := by rw [List.length_map, List.length_take]; omega
  refine wc_sr ?_; refine wl_bin rfl rfl bin_lss rfl ?_; refine wl_ns ?_; refine wc_seq ?_
  refine wc_cond rfl (fun h1 => ?_) (fun h1 => ?_)
  · obtain ⟨p, hp⟩ : ∃ p, t.cols[k]? = some p := ⟨_, List.getElem?_eq_getElem (by omega)⟩
    obtain ⟨b, o, cs, rfl, _, _, hcs, hw⟩ := RdR.at (k := 3) (by decide) rC (E := coEl p) (i := k) (by rw [List.getElem?_map, hp]; rfl)
    obtain rfl : cs = coV p := hcs
    have i1 := hw.below hs.bel
    have hpl : coW p ≤ 1048576 := sum_le (m := 1048576) (by unfold tbW at hl; omega) p (List.mem_of_getElem? hp)
    have htk := take_getR hp
    refine wc_skip ?_; refine we_seq ?_; refine wc_seq ?_; refine wc_block ?_; refine wc_sr ?_; apply wl_val; apply opv_idxG tkCo; exact rfl; exact rfl; exact rfl; omega; exact rfl; apply wl_val; apply opv_ldG; exact rfl; assumption; exact sCo; exact rfl
    refine ws_var (cs := coV p) hs zeroCo sCo rfl (fun _ => rfl) (by first | rfl | simp [Value.oneCell']) rfl ?_; clear hs; intro g6 _ hs
    clear i1
    unfold coV at hs
    refine wl_ns ?_
    refine wc_heldG (fun w' => Ar w' g6 177 [str p.name, .int .i64 p.kind, .bool p.null]) 14 mixed ?_
    replace hs := hs.below (Below.refl _ _).drew
    have hS := hs.ar 0 rfl
    apply wm_take 0; exact rfl; intro _ hw_; apply opv_move; exact rfl; exact rfl; kernel_rfl; exact hS; apply wm_take 1; exact rfl; intro _ hw_; apply opv_fa; exact fa_Co0; exact rfl; exact rfl; kernel_rfl; exact hS; apply wm_take 2; exact rfl; intro _ hw_; apply opv_ldX; exact rfl; assumption; exact g1_str; exact rfl; exact rfl; kernel_rfl; exact hS; apply wm_take 4; exact rfl; intro _ hw_; apply opv_fa; exact fa_Co1; exact rfl; exact rfl; kernel_rfl; exact hS; apply wm_take 5; exact rfl; intro _ hw_; apply opv_ldX; exact rfl; assumption; exact g1_int; exact rfl; exact rfl; kernel_rfl; exact hS; apply wm_take 7; exact rfl; intro _ hw_; apply opv_fa; exact fa_Co2; exact rfl; exact rfl; kernel_rfl; exact hS; apply wm_take 8; exact rfl; intro _ hw_; apply opv_ldX; exact rfl; assumption; exact g1_bool; exact rfl; exact rfl; kernel_rfl; exact hS
    clear hS
    refine wm_two 3 6 (by kernel_rfl) rfl rfl ?_ ?_ <;> dsimp only [List.getElem_toArray, List.getElem_cons_succ, List.getElem_cons_zero]
    · refine wl_toBytesN Try.underlying9 Try.underlying32 Try.underlying5 rfl rfl fun X3 x3 _ hX hr hcx hbx => ?_
      replace hs := hs.newTb hX hbx hr hcx
      clear hbx hr hcx hX
      refine wl_nil ?_
      refine we_heldM (fun _ => hs.ar 1 rfl) ?_
      refine wm_one 6 (by kernel_rfl) rfl ?_; dsimp only [List.getElem_toArray, List.getElem_cons_succ, List.getElem_cons_zero]
      refine wl_call ok_plan_number (pnum_any p.kind _) ⟨rfl, trivial⟩ rfl ?_
      rintro _ _ ⟨X6, x6, rfl, hsx⟩
      replace hs := hs.call hsx
      clear hsx
      dsimp only [List.cons_append, List.nil_append] at hs
      refine wl_nil ?_
      refine we_heldM (fun _ => hs.ar 2 rfl) ?_
      refine wm_one 9 (by kernel_rfl) rfl ?_; dsimp only [List.getElem_toArray, List.getElem_cons_succ, List.getElem_cons_zero]
      refine wl_call ok_plan_truth (ptruth_any p.null _) ⟨rfl, trivial⟩ rfl ?_
      rintro _ _ ⟨X9, x9, rfl, hsx⟩
      replace hs := hs.call hsx
      clear hsx
      dsimp only [List.cons_append, List.nil_append] at hs
      refine wl_nil ?_
      refine we_heldM (fun _ => hs.ar 3 rfl) ?_
      refine wm_one 10 (by kernel_rfl) rfl ?_; dsimp only [List.getElem_toArray, List.getElem_cons_succ, List.getElem_cons_zero]
      refine wl_bs (vs := [.slice X3 p.name.length x3, .slice X6 (pnB p.kind).length x6, .slice X9 (trB p.null).length x9]) tyBB ⟨rfl, rfl, rfl, rfl, rfl, rfl, rfl, rfl, rfl, trivial⟩ rfl (by decide) rfl fun X10 _ o_ hbx _ => ?_
      replace hs := hs.newO hbx o_ (Nat.le_refl _)
      clear hbx o_
      refine wl_nil ?_
      refine we_heldM (fun _ => hs.ar 4 rfl) ?_
      refine wm_one 11 (by kernel_rfl) rfl ?_; dsimp only [List.getElem_toArray, List.getElem_cons_succ, List.getElem_cons_zero]
      replace hs := hs.elNil
      replace hs := (hs.front 4 rfl).bbCe
      dsimp only [delC] at hs
      replace hs := (hs.front 3 rfl).bbOwn
      dsimp only [delC] at hs
      replace hs := (hs.front 2 rfl).bbOwn
      dsimp only [delC] at hs
      dsimp only [List.nil_append, List.cons_append] at hs
      refine wl_call ok_codec_Frame (frame_any (hs.bb 1 0 rfl rfl) rfl (colB_fl p hpl)) ⟨rfl, trivial⟩ rfl ?_
      rintro _ _ ⟨X11, x11, rfl, o_, hbx⟩
      replace hs := hs.newO hbx o_ (Nat.le_refl _)
      clear hbx o_
      refine wl_nil ?_
      refine we_heldM (fun _ => hs.ar 3 rfl) ?_
      refine wm_one 12 (by kernel_rfl) rfl ?_; dsimp only [List.getElem_toArray, List.getElem_cons_succ, List.getElem_cons_zero]
      refine wl_bs (vs := [.slice X11 (colB p).length x11]) tyBB ⟨rfl, rfl, rfl, trivial⟩ rfl (by decide) rfl fun X12 _ o_ hbx _ => ?_
      replace hs := hs.newO hbx o_ (Nat.le_refl _)
      clear hbx o_
      refine wl_nil ?_
      refine we_heldM (fun _ => hs.ar 4 rfl) ?_
      refine wm_one 13 (by kernel_rfl) rfl ?_; dsimp only [List.getElem_toArray, List.getElem_cons_succ, List.getElem_cons_zero]
      refine ws_app hs 5 rfl rfl tyBB rfl (hs.ow 0 rfl).rd (by simp [Value.oneCell']) (by omega) (by simp only [maxLen]; omega) rfl ?_
      clear hs; intro R8 c8 _ hs; dsimp only [setC] at hs
      refine wl_nil ?_
      refine we_heldM (fun _ => hs.ar 4 rfl) ?_
      refine wm_one 14 (by kernel_rfl) rfl ?_; dsimp only [List.getElem_toArray, List.getElem_cons_succ, List.getElem_cons_zero]
      refine wl_as rfl rfl ?_; refine wl_nil ?_
      refine we_heldM (fun h => absurd h (by decide)) ?_
      refine wm_done (by kernel_rfl) ?_
      replace hs := ((((((((hs.front 7 rfl).front 6 rfl).front 7 rfl).front 4 rfl).drop 4 rfl).drop 4 rfl).drop 4 rfl).drop 4 rfl)
      replace hs := hs.bbOwn.front 1 rfl
      dsimp only [delC] at hs
      have hnx : (t.cols.take (k + 1)).map colB = (t.cols.take k).map colB ++ [colB p] := by rw [htk]; simp
      rw [show framed [p.name, pnB p.kind, trB p.null] = colB p from rfl, ← hnx] at hs
      rw [show ((t.cols.take k).map colB).length + 1 = ((t.cols.take (k + 1)).map colB).length by rw [hnx]; simp] at hs ⊢
      refine we_block_norm ?_; refine we_seq ?_; refine wc_region ?_; apply wl_val; apply opv_bin; exact rfl; exact rfl; exact bin_add64 (by omega); exact rfl; refine wl_mv rfl rfl ?_; refine wl_nil ?_
      exact we_loop _ (t.cols.length - (k + 1)) ⟨k + 1, R8, c8, _, rfl, by omega, hs, rfl⟩ (by omega) ⟨rfl, rfl, rfl, rfl, rfl, by rw [show ((k + 1 : Nat) : Int) = (k : Int) + 1 by omega]; rfl, trivial⟩
    · refine wl_call ok_plan_number (pnum_any p.kind _) ⟨rfl, trivial⟩ rfl ?_
      rintro _ _ ⟨X6, x6, rfl, hsx⟩
      replace hs := hs.call hsx
      clear hsx
      dsimp only [List.cons_append, List.nil_append] at hs
      refine wl_nil ?_
      refine we_heldM (fun _ => hs.ar 1 rfl) ?_
      refine wm_two 3 9 (by kernel_rfl) rfl rfl ?_ ?_ <;> dsimp only [List.getElem_toArray, List.getElem_cons_succ, List.getElem_cons_zero]
      · refine wl_toBytesN Try.underlying9 Try.underlying32 Try.underlying5 rfl rfl fun X3 x3 _ hX hr hcx hbx => ?_
        replace hs := hs.newTb hX hbx hr hcx
        clear hbx hr hcx hX
        refine wl_nil ?_
        refine we_heldM (fun _ => hs.ar 2 rfl) ?_
        refine wm_one 9 (by kernel_rfl) rfl ?_; dsimp only [List.getElem_toArray, List.getElem_cons_succ, List.getElem_cons_zero]
        refine wl_call ok_plan_truth (ptruth_any p.null _) ⟨rfl, trivial⟩ rfl ?_
        rintro _ _ ⟨X9, x9, rfl, hsx⟩
        replace hs := hs.call hsx
        clear hsx
        dsimp only [List.cons_append, List.nil_append] at hs
        refine wl_nil ?_
        refine we_heldM (fun _ => hs.ar 3 rfl) ?_
        refine wm_one 10 (by kernel_rfl) rfl ?_; dsimp only [List.getElem_toArray, List.getElem_cons_succ, List.getElem_cons_zero]
        refine wl_bs (vs := [.slice X3 p.name.length x3, .slice X6 (pnB p.kind).length x6, .slice X9 (trB p.null).length x9]) tyBB ⟨rfl, rfl, rfl, rfl, rfl, rfl, rfl, rfl, rfl, trivial⟩ rfl (by decide) rfl fun X10 _ o_ hbx _ => ?_
        replace hs := hs.newO hbx o_ (Nat.le_refl _)
        clear hbx o_
        refine wl_nil ?_
        refine we_heldM (fun _ => hs.ar 4 rfl) ?_
        refine wm_one 11 (by kernel_rfl) rfl ?_; dsimp only [List.getElem_toArray, List.getElem_cons_succ, List.getElem_cons_zero]
        replace hs := hs.elNil
        replace hs := (hs.front 3 rfl).bbCe
        dsimp only [delC] at hs
        replace hs := (hs.front 3 rfl).bbOwn
        dsimp only [delC] at hs
        replace hs := (hs.front 2 rfl).bbOwn
        dsimp only [delC] at hs
        dsimp only [List.nil_append, List.cons_append] at hs
        refine wl_call ok_codec_Frame (frame_any (hs.bb 1 0 rfl rfl) rfl (colB_fl p hpl)) ⟨rfl, trivial⟩ rfl ?_
        rintro _ _ ⟨X11, x11, rfl, o_, hbx⟩
        replace hs := hs.newO hbx o_ (Nat.le_refl _)
        clear hbx o_
        refine wl_nil ?_
        refine we_heldM (fun _ => hs.ar 3 rfl) ?_
        refine wm_one 12 (by kernel_rfl) rfl ?_; dsimp only [List.getElem_toArray, List.getElem_cons_succ, List.getElem_cons_zero]
        refine wl_bs (vs := [.slice X11 (colB p).length x11]) tyBB ⟨rfl, rfl, rfl, trivial⟩ rfl (by decide) rfl fun X12 _ o_ hbx _ => ?_
        replace hs := hs.newO hbx o_ (Nat.le_refl _)
        clear hbx o_
        refine wl_nil ?_
        refine we_heldM (fun _ => hs.ar 4 rfl) ?_
        refine wm_one 13 (by kernel_rfl) rfl ?_; dsimp only [List.getElem_toArray, List.getElem_cons_succ, List.getElem_cons_zero]
        refine ws_app hs 5 rfl rfl tyBB rfl (hs.ow 0 rfl).rd (by simp [Value.oneCell']) (by omega) (by simp only [maxLen]; omega) rfl ?_
        clear hs; intro R8 c8 _ hs; dsimp only [setC] at hs
        refine wl_nil ?_
        refine we_heldM (fun _ => hs.ar 4 rfl) ?_
        refine wm_one 14 (by kernel_rfl) rfl ?_; dsimp only [List.getElem_toArray, List.getElem_cons_succ, List.getElem_cons_zero]
        refine wl_as rfl rfl ?_; refine wl_nil ?_
        refine we_heldM (fun h => absurd h (by decide)) ?_
        refine wm_done (by kernel_rfl) ?_
        replace hs := ((((((((hs.front 7 rfl).front 6 rfl).front 7 rfl).front 4 rfl).drop 4 rfl).drop 4 rfl).drop 4 rfl).drop 4 rfl)
        replace hs := hs.bbOwn.front 1 rfl
        dsimp only [delC] at hs
        have hnx : (t.cols.take (k + 1)).map colB = (t.cols.take k).map colB ++ [colB p] := by rw [htk]; simp
        rw [show framed [p.name, pnB p.kind, trB p.null] = colB p from rfl, ← hnx] at hs
        rw [show ((t.cols.take k).map colB).length + 1 = ((t.cols.take (k + 1)).map colB).length by rw [hnx]; simp] at hs ⊢
        refine we_block_norm ?_; refine we_seq ?_; refine wc_region ?_; apply wl_val; apply opv_bin; exact rfl; exact rfl; exact bin_add64 (by omega); exact rfl; refine wl_mv rfl rfl ?_; refine wl_nil ?_
        exact we_loop _ (t.cols.length - (k + 1)) ⟨k + 1, R8, c8, _, rfl, by omega, hs, rfl⟩ (by omega) ⟨rfl, rfl, rfl, rfl, rfl, by rw [show ((k + 1 : Nat) : Int) = (k : Int) + 1 by omega]; rfl, trivial⟩
      · refine wl_call ok_plan_truth (ptruth_any p.null _) ⟨rfl, trivial⟩ rfl ?_
        rintro _ _ ⟨X9, x9, rfl, hsx⟩
        replace hs := hs.call hsx
        clear hsx
        dsimp only [List.cons_append, List.nil_append] at hs
        refine wl_nil ?_
        refine we_heldM (fun _ => hs.ar 2 rfl) ?_
        refine wm_one 3 (by kernel_rfl) rfl ?_; dsimp only [List.getElem_toArray, List.getElem_cons_succ, List.getElem_cons_zero]
        refine wl_toBytesN Try.underlying9 Try.underlying32 Try.underlying5 rfl rfl fun X3 x3 _ hX hr hcx hbx => ?_
        replace hs := hs.newTb hX hbx hr hcx
        clear hbx hr hcx hX
        refine wl_nil ?_
        refine we_heldM (fun _ => hs.ar 3 rfl) ?_
        refine wm_one 10 (by kernel_rfl) rfl ?_; dsimp only [List.getElem_toArray, List.getElem_cons_succ, List.getElem_cons_zero]
        refine wl_bs (vs := [.slice X3 p.name.length x3, .slice X6 (pnB p.kind).length x6, .slice X9 (trB p.null).length x9]) tyBB ⟨rfl, rfl, rfl, rfl, rfl, rfl, rfl, rfl, rfl, trivial⟩ rfl (by decide) rfl fun X10 _ o_ hbx _ => ?_
        replace hs := hs.newO hbx o_ (Nat.le_refl _)
        clear hbx o_
        refine wl_nil ?_
        refine we_heldM (fun _ => hs.ar 4 rfl) ?_
        refine wm_one 11 (by kernel_rfl) rfl ?_; dsimp only [List.getElem_toArray, List.getElem_cons_succ, List.getElem_cons_zero]
        replace hs := hs.elNil
        replace hs := (hs.front 2 rfl).bbCe
        dsimp only [delC] at hs
        replace hs := (hs.front 3 rfl).bbOwn
        dsimp only [delC] at hs
        replace hs := (hs.front 2 rfl).bbOwn
        dsimp only [delC] at hs
        dsimp only [List.nil_append, List.cons_append] at hs
        refine wl_call ok_codec_Frame (frame_any (hs.bb 1 0 rfl rfl) rfl (colB_fl p hpl)) ⟨rfl, trivial⟩ rfl ?_
        rintro _ _ ⟨X11, x11, rfl, o_, hbx⟩
        replace hs := hs.newO hbx o_ (Nat.le_refl _)
        clear hbx o_
        refine wl_nil ?_
        refine we_heldM (fun _ => hs.ar 3 rfl) ?_
        refine wm_one 12 (by kernel_rfl) rfl ?_; dsimp only [List.getElem_toArray, List.getElem_cons_succ, List.getElem_cons_zero]
        refine wl_bs (vs := [.slice X11 (colB p).length x11]) tyBB ⟨rfl, rfl, rfl, trivial⟩ rfl (by decide) rfl fun X12 _ o_ hbx _ => ?_
        replace hs := hs.newO hbx o_ (Nat.le_refl _)
        clear hbx o_
        refine wl_nil ?_
        refine we_heldM (fun _ => hs.ar 4 rfl) ?_
        refine wm_one 13 (by kernel_rfl) rfl ?_; dsimp only [List.getElem_toArray, List.getElem_cons_succ, List.getElem_cons_zero]
        refine ws_app hs 5 rfl rfl tyBB rfl (hs.ow 0 rfl).rd (by simp [Value.oneCell']) (by omega) (by simp only [maxLen]; omega) rfl ?_
        clear hs; intro R8 c8 _ hs; dsimp only [setC] at hs
        refine wl_nil ?_
        refine we_heldM (fun _ => hs.ar 4 rfl) ?_
        refine wm_one 14 (by kernel_rfl) rfl ?_; dsimp only [List.getElem_toArray, List.getElem_cons_succ, List.getElem_cons_zero]
        refine wl_as rfl rfl ?_; refine wl_nil ?_
        refine we_heldM (fun h => absurd h (by decide)) ?_
        refine wm_done (by kernel_rfl) ?_
        replace hs := ((((((((hs.front 7 rfl).front 6 rfl).front 7 rfl).front 4 rfl).drop 4 rfl).drop 4 rfl).drop 4 rfl).drop 4 rfl)
        replace hs := hs.bbOwn.front 1 rfl
        dsimp only [delC] at hs
        have hnx : (t.cols.take (k + 1)).map colB = (t.cols.take k).map colB ++ [colB p] := by rw [htk]; simp
        rw [show framed [p.name, pnB p.kind, trB p.null] = colB p from rfl, ← hnx] at hs
        rw [show ((t.cols.take k).map colB).length + 1 = ((t.cols.take (k + 1)).map colB).length by rw [hnx]; simp] at hs ⊢
        refine we_block_norm ?_; refine we_seq ?_; refine wc_region ?_; apply wl_val; apply opv_bin; exact rfl; exact rfl; exact bin_add64 (by omega); exact rfl; refine wl_mv rfl rfl ?_; refine wl_nil ?_
        exact we_loop _ (t.cols.length - (k + 1)) ⟨k + 1, R8, c8, _, rfl, by omega, hs, rfl⟩ (by omega) ⟨rfl, rfl, rfl, rfl, rfl, by rw [show ((k + 1 : Nat) : Int) = (k : Int) + 1 by omega]; rfl, trivial⟩
  · obtain rfl : k = t.cols.length := by omega
    rw [List.take_length] at hs hkk ⊢
    refine wc_exit ?_; refine we_seq_exit ?_; refine we_loop_exit ?_; refine we_block_exit ?_; refine we_seq ?_; refine wc_seq ?_; refine wc_sr ?_; apply wl_val; apply opv_fa; exact fa_Tb4; exact rfl; exact rfl; apply wl_val; apply opv_ldX; exact rfl; exact hs.ar 2 rfl; exact g1_ixs; exact rfl; exact rfl; apply wl_val; apply opv_len; exact rfl; exact tkIx.sl; exact rfl; refine wl_mv rfl rfl ?_; refine wl_ns ?_; refine wc_block ?_
    refine wc_loop (TxI w t X xc g1 _ R c vs) [(1, .pointer (some ⟨g1, 0, none⟩)), (3, .slice R (t.cols.map colB).length c), (4, .slice none 0 0), (32, .slice X t.ixs.length xc), (33, .int .i64 (t.ixs.length : Int)), (34, .int .i64 (0 : Nat))] t.ixs.length ⟨0, none, 0, [], rfl, Nat.zero_le _, hs.elNil.nilO 32, rfl⟩ ⟨rfl, rfl, rfl, rfl, rfl, rfl, trivial⟩ ?_
    clear hs
    rintro _ w4 q ⟨k, R4, c4, v4, rfl, hk, hs, rfl⟩
    have hkk4 : ((t.ixs.take k).map ixB).length ≤ 1048576 := by rw [List.length_map, List.length_take]; omega
    refine wc_sr ?_; refine wl_bin rfl rfl bin_lss rfl ?_; refine wl_ns ?_; refine wc_seq ?_
    refine wc_cond rfl (fun h1 => ?_) (fun h1 => ?_)
    · obtain ⟨p, hp⟩ : ∃ p, t.ixs[k]? = some p := ⟨_, List.getElem?_eq_getElem (by omega)⟩
      obtain ⟨b, o, cs, rfl, _, _, ⟨I, i, rfl, hx⟩, hw⟩ := RdR.at (k := 3) (by decide) rX (E := ixEl p) (i := k) (by rw [List.getElem?_map, hp]; rfl)
      have i1 := hw.below hs.bel
      have hpl : ixW p ≤ 1048576 := sum_le (m := 1048576) (by unfold tbW at hl; omega) p (List.mem_of_getElem? hp)
      have htk := take_getR hp
      refine wc_skip ?_; refine we_seq ?_; refine wc_seq ?_; refine wc_block ?_; refine wc_sr ?_; apply wl_val; apply opv_idxG tkIx; exact rfl; exact rfl; exact rfl; omega; exact rfl; apply wl_val; apply opv_ldG; exact rfl; assumption; exact sIx; exact rfl
      refine ws_var (cs := ixV p I i) hs zeroIx sIx rfl (fun _ => rfl) (by first | rfl | simp [Value.oneCell']) rfl ?_; clear hs; intro g8 _ hs
      clear i1
      unfold ixV at hs
      have hbe := hs.bel
      refine wl_ns ?_; refine wc_region ?_; refine wl_mv rfl rfl ?_; apply wl_val; apply opv_loadX; exact rfl; exact hs.ar 0 rfl; exact sIx; exact rfl
      refine wl_call ok_plan_putIndex (pix_any ((ints_rd (rowEl.rd hx).2.2).below hbe) hpl) ⟨rfl, trivial⟩ rfl ?_
      rintro _ _ ⟨X5, x5, rfl, hsx⟩
      replace hs := hs.call hsx
      clear hsx hbe
      dsimp only [List.cons_append, List.nil_append] at hs
      skip
      refine ws_push (vs := [.slice X5 (ixB p).length x5]) hs 2 rfl rfl tyBB ⟨rfl, rfl, rfl, trivial⟩ rfl (by decide) rfl (by omega) (by omega) rfl rfl ?_
      clear hs; intro _ R8 c8 _ hs; (try dsimp only [setC] at hs)
      replace hs := (((((((hs.front 6 rfl).front 6 rfl).front 6 rfl).front 5 rfl).front 6 rfl).front 5 rfl).drop 6 rfl)
      replace hs := hs.bbOwn
      replace hs := hs.front 1 rfl
      dsimp only [delC] at hs
      have hnx : (t.ixs.take (k + 1)).map ixB = (t.ixs.take k).map ixB ++ [ixB p] := by rw [htk]; simp
      rw [← hnx] at hs
      rw [show ((t.ixs.take k).map ixB).length + 1 = ((t.ixs.take (k + 1)).map ixB).length by rw [hnx]; simp] at hs ⊢
      refine wl_as rfl rfl ?_; refine wl_nil ?_; refine we_block_norm ?_; refine we_seq ?_; refine wc_region ?_; apply wl_val; apply opv_bin; exact rfl; exact rfl; exact bin_add64 (by omega); exact rfl; refine wl_mv rfl rfl ?_; refine wl_nil ?_
      exact we_loop _ (t.ixs.length - (k + 1)) ⟨k + 1, R8, c8, _, rfl, by omega, hs, rfl⟩ (by omega) ⟨rfl, rfl, rfl, rfl, rfl, by rw [show ((k + 1 : Nat) : Int) = (k : Int) + 1 by omega]; rfl, trivial⟩
    · obtain rfl : k = t.ixs.length := by omega
      rw [List.take_length] at hs hkk4 ⊢
      refine wc_exit ?_; refine we_seq_exit ?_; refine we_loop_exit ?_; refine we_block_exit ?_; refine we_seq ?_; refine wc_seq ?_
      refine wc_heldG (fun w' => Ar w' g1 103 [.int .i64 t.id, str t.name, .slice C t.cols.length cc, .int .i64 t.keys, .slice X t.ixs.length xc]) 15 mixed ?_
      replace hs := hs.below (Below.refl _ _).drew
      have hS := hs.ar 4 rfl
      apply wm_take 0; exact rfl; intro _ hw_; apply opv_fa; exact fa_Tb0; exact rfl; exact rfl; kernel_rfl; exact hS; apply wm_take 1; exact rfl; intro _ hw_; apply opv_ldX; exact rfl; assumption; exact g1_int; exact rfl; exact rfl; kernel_rfl; exact hS; apply wm_take 3; exact rfl; intro _ hw_; apply opv_fa; exact fa_Tb1; exact rfl; exact rfl; kernel_rfl; exact hS; apply wm_take 4; exact rfl; intro _ hw_; apply opv_ldX; exact rfl; assumption; exact g1_str; exact rfl; exact rfl; kernel_rfl; exact hS; apply wm_take 6; exact rfl; intro _ hw_; apply opv_fa; exact fa_Tb3; exact rfl; exact rfl; kernel_rfl; exact hS; apply wm_take 7; exact rfl; intro _ hw_; apply opv_ldX; exact rfl; assumption; exact g1_int; exact rfl; exact rfl; kernel_rfl; exact hS; apply wm_take 9; exact rfl; intro _ hw_; apply opv_move; exact rfl; exact rfl; kernel_rfl; exact hS; apply wm_take 11; exact rfl; intro _ hw_; apply opv_move; exact rfl; exact rfl; kernel_rfl; exact hS
      clear hS
      refine wm_two 2 5 (by kernel_rfl) rfl rfl ?_ ?_ <;> dsimp only [List.getElem_toArray, List.getElem_cons_succ, List.getElem_cons_zero]
      · refine wl_call ok_plan_number (pnum_any t.id _) ⟨rfl, trivial⟩ rfl ?_
        rintro _ _ ⟨X2, x2, rfl, hsx⟩
        replace hs := hs.call hsx
        clear hsx
        dsimp only [List.cons_append, List.nil_append] at hs
        refine wl_nil ?_
        refine we_heldM (fun _ => hs.ar 5 rfl) ?_
        refine wm_two 5 8 (by kernel_rfl) rfl rfl ?_ ?_ <;> dsimp only [List.getElem_toArray, List.getElem_cons_succ, List.getElem_cons_zero]
        · refine wl_toBytesN Try.underlying9 Try.underlying32 Try.underlying5 rfl rfl fun X5 x5 _ hX hr hcx hbx => ?_
          replace hs := hs.newTb hX hbx hr hcx
          clear hbx hr hcx hX
          refine wl_nil ?_
          refine we_heldM (fun _ => hs.ar 6 rfl) ?_
          refine wm_one 8 (by kernel_rfl) rfl ?_; dsimp only [List.getElem_toArray, List.getElem_cons_succ, List.getElem_cons_zero]
          refine wl_call ok_plan_number (pnum_any t.keys _) ⟨rfl, trivial⟩ rfl ?_
          rintro _ _ ⟨X8, x8, rfl, hsx⟩
          replace hs := hs.call hsx
          clear hsx
          dsimp only [List.cons_append, List.nil_append] at hs
          refine wl_nil ?_
          refine we_heldM (fun _ => hs.ar 7 rfl) ?_
          refine wm_one 10 (by kernel_rfl) rfl ?_; dsimp only [List.getElem_toArray, List.getElem_cons_succ, List.getElem_cons_zero]
          refine wl_call ok_codec_Frame (frame_any (hs.bb 5 6 rfl rfl) rfl (by rw [List.length_map]; omega)) ⟨rfl, trivial⟩ rfl ?_
          rintro _ _ ⟨X10, x10, rfl, o_, hbx⟩
          replace hs := hs.newO hbx o_ (Nat.le_refl _)
          clear hbx o_
          refine wl_nil ?_
          refine we_heldM (fun _ => hs.ar 8 rfl) ?_
          refine wm_one 12 (by kernel_rfl) rfl ?_; dsimp only [List.getElem_toArray, List.getElem_cons_succ, List.getElem_cons_zero]
          refine wl_call ok_codec_Frame (frame_any (hs.bb 4 5 rfl rfl) rfl (by rw [List.length_map]; omega)) ⟨rfl, trivial⟩ rfl ?_
          rintro _ _ ⟨X12, x12, rfl, o_, hbx⟩
          replace hs := hs.newO hbx o_ (Nat.le_refl _)
          clear hbx o_
          refine wl_nil ?_
          refine we_heldM (fun _ => hs.ar 9 rfl) ?_
          refine wm_one 13 (by kernel_rfl) rfl ?_; dsimp only [List.getElem_toArray, List.getElem_cons_succ, List.getElem_cons_zero]
          refine wl_bs (vs := [.slice X2 (pnB t.id).length x2, .slice X5 t.name.length x5, .slice X8 (pnB t.keys).length x8, .slice X10 (framed (t.cols.map colB)).length x10, .slice X12 (framed (t.ixs.map ixB)).length x12]) tyBB ⟨rfl, rfl, rfl, rfl, rfl, rfl, rfl, rfl, rfl, rfl, rfl, rfl, rfl, rfl, rfl, trivial⟩ rfl (by decide) rfl fun X13 _ o_ hbx _ => ?_
          replace hs := hs.newO hbx o_ (Nat.le_refl _)
          clear hbx o_
          refine wl_nil ?_
          refine we_heldM (fun _ => hs.ar 10 rfl) ?_
          refine wm_one 14 (by kernel_rfl) rfl ?_; dsimp only [List.getElem_toArray, List.getElem_cons_succ, List.getElem_cons_zero]
          replace hs := hs.elNil
          replace hs := (hs.front 6 rfl).bbOwn
          dsimp only [delC] at hs
          replace hs := (hs.front 5 rfl).bbCe
          dsimp only [delC] at hs
          replace hs := (hs.front 4 rfl).bbOwn
          dsimp only [delC] at hs
          replace hs := (hs.front 3 rfl).bbOwn
          dsimp only [delC] at hs
          replace hs := (hs.front 2 rfl).bbOwn
          dsimp only [delC] at hs
          dsimp only [List.nil_append, List.cons_append] at hs
          refine wl_call ok_codec_Frame (frame_any (hs.bb 1 0 rfl rfl) rfl (by have := hfl.1; simp only [List.length_cons, List.length_nil]; omega)) ⟨rfl, trivial⟩ rfl ?_
          rintro _ _ ⟨X14, x14, rfl, o_, hbx⟩
          replace hs := hs.newO hbx o_ (Nat.le_refl _)
          clear hbx o_
          refine wl_nil ?_
          refine we_heldM (fun _ => hs.ar 7 rfl) ?_
          refine wm_one 15 (by kernel_rfl) rfl ?_; dsimp only [List.getElem_toArray, List.getElem_cons_succ, List.getElem_cons_zero]
          refine wl_as rfl rfl ?_; refine wl_nil ?_
          refine we_heldM (fun h => absurd h (by decide)) ?_
          refine wm_done (by kernel_rfl) ?_
          refine we_seq ?_; refine wc_ret ?_
          exact we_ret1 rfl rfl ⟨_, rfl, X14, x14, rfl, (((((((hs.drop 1 rfl).drop 1 rfl).drop 1 rfl).drop 1 rfl).drop 1 rfl).drop 1 rfl).drop 1 rfl)⟩
        · refine wl_call ok_plan_number (pnum_any t.keys _) ⟨rfl, trivial⟩ rfl ?_
          rintro _ _ ⟨X8, x8, rfl, hsx⟩
          replace hs := hs.call hsx
          clear hsx
          dsimp only [List.cons_append, List.nil_append] at hs
          refine wl_nil ?_
          refine we_heldM (fun _ => hs.ar 6 rfl) ?_
          refine wm_two 5 10 (by kernel_rfl) rfl rfl ?_ ?_ <;> dsimp only [List.getElem_toArray, List.getElem_cons_succ, List.getElem_cons_zero]
          · refine wl_toBytesN Try.underlying9 Try.underlying32 Try.underlying5 rfl rfl fun X5 x5 _ hX hr hcx hbx => ?_
            replace hs := hs.newTb hX hbx hr hcx
            clear hbx hr hcx hX
            refine wl_nil ?_
            refine we_heldM (fun _ => hs.ar 7 rfl) ?_
            refine wm_one 10 (by kernel_rfl) rfl ?_; dsimp only [List.getElem_toArray, List.getElem_cons_succ, List.getElem_cons_zero]
            refine wl_call ok_codec_Frame (frame_any (hs.bb 5 6 rfl rfl) rfl (by rw [List.length_map]; omega)) ⟨rfl, trivial⟩ rfl ?_
            rintro _ _ ⟨X10, x10, rfl, o_, hbx⟩
            replace hs := hs.newO hbx o_ (Nat.le_refl _)
            clear hbx o_
            refine wl_nil ?_
            refine we_heldM (fun _ => hs.ar 8 rfl) ?_
            refine wm_one 12 (by kernel_rfl) rfl ?_; dsimp only [List.getElem_toArray, List.getElem_cons_succ, List.getElem_cons_zero]
            refine wl_call ok_codec_Frame (frame_any (hs.bb 4 5 rfl rfl) rfl (by rw [List.length_map]; omega)) ⟨rfl, trivial⟩ rfl ?_
            rintro _ _ ⟨X12, x12, rfl, o_, hbx⟩
            replace hs := hs.newO hbx o_ (Nat.le_refl _)
            clear hbx o_
            refine wl_nil ?_
            refine we_heldM (fun _ => hs.ar 9 rfl) ?_
            refine wm_one 13 (by kernel_rfl) rfl ?_; dsimp only [List.getElem_toArray, List.getElem_cons_succ, List.getElem_cons_zero]
            refine wl_bs (vs := [.slice X2 (pnB t.id).length x2, .slice X5 t.name.length x5, .slice X8 (pnB t.keys).length x8, .slice X10 (framed (t.cols.map colB)).length x10, .slice X12 (framed (t.ixs.map ixB)).length x12]) tyBB ⟨rfl, rfl, rfl, rfl, rfl, rfl, rfl, rfl, rfl, rfl, rfl, rfl, rfl, rfl, rfl, trivial⟩ rfl (by decide) rfl fun X13 _ o_ hbx _ => ?_
            replace hs := hs.newO hbx o_ (Nat.le_refl _)
            clear hbx o_
            refine wl_nil ?_
            refine we_heldM (fun _ => hs.ar 10 rfl) ?_
            refine wm_one 14 (by kernel_rfl) rfl ?_; dsimp only [List.getElem_toArray, List.getElem_cons_succ, List.getElem_cons_zero]
            replace hs := hs.elNil
            replace hs := (hs.front 6 rfl).bbOwn
            dsimp only [delC] at hs
            replace hs := (hs.front 4 rfl).bbCe
            dsimp only [delC] at hs
            replace hs := (hs.front 4 rfl).bbOwn
            dsimp only [delC] at hs
            replace hs := (hs.front 3 rfl).bbOwn
            dsimp only [delC] at hs
            replace hs := (hs.front 2 rfl).bbOwn
            dsimp only [delC] at hs
            dsimp only [List.nil_append, List.cons_append] at hs
            refine wl_call ok_codec_Frame (frame_any (hs.bb 1 0 rfl rfl) rfl (by have := hfl.1; simp only [List.length_cons, List.length_nil]; omega)) ⟨rfl, trivial⟩ rfl ?_
            rintro _ _ ⟨X14, x14, rfl, o_, hbx⟩
            replace hs := hs.newO hbx o_ (Nat.le_refl _)
            clear hbx o_
            refine wl_nil ?_
            refine we_heldM (fun _ => hs.ar 7 rfl) ?_
            refine wm_one 15 (by kernel_rfl) rfl ?_; dsimp only [List.getElem_toArray, List.getElem_cons_succ, List.getElem_cons_zero]
            refine wl_as rfl rfl ?_; refine wl_nil ?_
            refine we_heldM (fun h => absurd h (by decide)) ?_
            refine wm_done (by kernel_rfl) ?_
            refine we_seq ?_; refine wc_ret ?_
            exact we_ret1 rfl rfl ⟨_, rfl, X14, x14, rfl, (((((((hs.drop 1 rfl).drop 1 rfl).drop 1 rfl).drop 1 rfl).drop 1 rfl).drop 1 rfl).drop 1 rfl)⟩
          · refine wl_call ok_codec_Frame (frame_any (hs.bb 4 5 rfl rfl) rfl (by rw [List.length_map]; omega)) ⟨rfl, trivial⟩ rfl ?_
            rintro _ _ ⟨X10, x10, rfl, o_, hbx⟩
            replace hs := hs.newO hbx o_ (Nat.le_refl _)
            clear hbx o_
            refine wl_nil ?_
            refine we_heldM (fun _ => hs.ar 7 rfl) ?_
            refine wm_two 5 12 (by kernel_rfl) rfl rfl ?_ ?_ <;> dsimp only [List.getElem_toArray, List.getElem_cons_succ, List.getElem_cons_zero]
            · refine wl_toBytesN Try.underlying9 Try.underlying32 Try.underlying5 rfl rfl fun X5 x5 _ hX hr hcx hbx => ?_
              replace hs := hs.newTb hX hbx hr hcx
              clear hbx hr hcx hX
              refine wl_nil ?_
              refine we_heldM (fun _ => hs.ar 8 rfl) ?_
              refine wm_one 12 (by kernel_rfl) rfl ?_; dsimp only [List.getElem_toArray, List.getElem_cons_succ, List.getElem_cons_zero]
              refine wl_call ok_codec_Frame (frame_any (hs.bb 4 5 rfl rfl) rfl (by rw [List.length_map]; omega)) ⟨rfl, trivial⟩ rfl ?_
              rintro _ _ ⟨X12, x12, rfl, o_, hbx⟩
              replace hs := hs.newO hbx o_ (Nat.le_refl _)
              clear hbx o_
              refine wl_nil ?_
              refine we_heldM (fun _ => hs.ar 9 rfl) ?_
              refine wm_one 13 (by kernel_rfl) rfl ?_; dsimp only [List.getElem_toArray, List.getElem_cons_succ, List.getElem_cons_zero]
              refine wl_bs (vs := [.slice X2 (pnB t.id).length x2, .slice X5 t.name.length x5, .slice X8 (pnB t.keys).length x8, .slice X10 (framed (t.cols.map colB)).length x10, .slice X12 (framed (t.ixs.map ixB)).length x12]) tyBB ⟨rfl, rfl, rfl, rfl, rfl, rfl, rfl, rfl, rfl, rfl, rfl, rfl, rfl, rfl, rfl, trivial⟩ rfl (by decide) rfl fun X13 _ o_ hbx _ => ?_
              replace hs := hs.newO hbx o_ (Nat.le_refl _)
              clear hbx o_
              refine wl_nil ?_
              refine we_heldM (fun _ => hs.ar 10 rfl) ?_
              refine wm_one 14 (by kernel_rfl) rfl ?_; dsimp only [List.getElem_toArray, List.getElem_cons_succ, List.getElem_cons_zero]
              replace hs := hs.elNil
              replace hs := (hs.front 6 rfl).bbOwn
              dsimp only [delC] at hs
              replace hs := (hs.front 3 rfl).bbCe
              dsimp only [delC] at hs
              replace hs := (hs.front 4 rfl).bbOwn
              dsimp only [delC] at hs
              replace hs := (hs.front 3 rfl).bbOwn
              dsimp only [delC] at hs
              replace hs := (hs.front 2 rfl).bbOwn
              dsimp only [delC] at hs
              dsimp only [List.nil_append, List.cons_append] at hs
              refine wl_call ok_codec_Frame (frame_any (hs.bb 1 0 rfl rfl) rfl (by have := hfl.1; simp only [List.length_cons, List.length_nil]; omega)) ⟨rfl, trivial⟩ rfl ?_
              rintro _ _ ⟨X14, x14, rfl, o_, hbx⟩
              replace hs := hs.newO hbx o_ (Nat.le_refl _)
              clear hbx o_
              refine wl_nil ?_
              refine we_heldM (fun _ => hs.ar 7 rfl) ?_
              refine wm_one 15 (by kernel_rfl) rfl ?_; dsimp only [List.getElem_toArray, List.getElem_cons_succ, List.getElem_cons_zero]
              refine wl_as rfl rfl ?_; refine wl_nil ?_
              refine we_heldM (fun h => absurd h (by decide)) ?_
              refine wm_done (by kernel_rfl) ?_
              refine we_seq ?_; refine wc_ret ?_
              exact we_ret1 rfl rfl ⟨_, rfl, X14, x14, rfl, (((((((hs.drop 1 rfl).drop 1 rfl).drop 1 rfl).drop 1 rfl).drop 1 rfl).drop 1 rfl).drop 1 rfl)⟩
            · refine wl_call ok_codec_Frame (frame_any (hs.bb 3 4 rfl rfl) rfl (by rw [List.length_map]; omega)) ⟨rfl, trivial⟩ rfl ?_
              rintro _ _ ⟨X12, x12, rfl, o_, hbx⟩
              replace hs := hs.newO hbx o_ (Nat.le_refl _)
              clear hbx o_
              refine wl_nil ?_
              refine we_heldM (fun _ => hs.ar 8 rfl) ?_
              refine wm_one 5 (by kernel_rfl) rfl ?_; dsimp only [List.getElem_toArray, List.getElem_cons_succ, List.getElem_cons_zero]
              refine wl_toBytesN Try.underlying9 Try.underlying32 Try.underlying5 rfl rfl fun X5 x5 _ hX hr hcx hbx => ?_
              replace hs := hs.newTb hX hbx hr hcx
              clear hbx hr hcx hX
              refine wl_nil ?_
              refine we_heldM (fun _ => hs.ar 9 rfl) ?_
              refine wm_one 13 (by kernel_rfl) rfl ?_; dsimp only [List.getElem_toArray, List.getElem_cons_succ, List.getElem_cons_zero]
              refine wl_bs (vs := [.slice X2 (pnB t.id).length x2, .slice X5 t.name.length x5, .slice X8 (pnB t.keys).length x8, .slice X10 (framed (t.cols.map colB)).length x10, .slice X12 (framed (t.ixs.map ixB)).length x12]) tyBB ⟨rfl, rfl, rfl, rfl, rfl, rfl, rfl, rfl, rfl, rfl, rfl, rfl, rfl, rfl, rfl, trivial⟩ rfl (by decide) rfl fun X13 _ o_ hbx _ => ?_
              replace hs := hs.newO hbx o_ (Nat.le_refl _)
              clear hbx o_
              refine wl_nil ?_
              refine we_heldM (fun _ => hs.ar 10 rfl) ?_
              refine wm_one 14 (by kernel_rfl) rfl ?_; dsimp only [List.getElem_toArray, List.getElem_cons_succ, List.getElem_cons_zero]
              replace hs := hs.elNil
              replace hs := (hs.front 6 rfl).bbOwn
              dsimp only [delC] at hs
              replace hs := (hs.front 2 rfl).bbCe
              dsimp only [delC] at hs
              replace hs := (hs.front 4 rfl).bbOwn
              dsimp only [delC] at hs
              replace hs := (hs.front 3 rfl).bbOwn
              dsimp only [delC] at hs
              replace hs := (hs.front 2 rfl).bbOwn
              dsimp only [delC] at hs
              dsimp only [List.nil_append, List.cons_append] at hs
              refine wl_call ok_codec_Frame (frame_any (hs.bb 1 0 rfl rfl) rfl (by have := hfl.1; simp only [List.length_cons, List.length_nil]; omega)) ⟨rfl, trivial⟩ rfl ?_
              rintro _ _ ⟨X14, x14, rfl, o_, hbx⟩
              replace hs := hs.newO hbx o_ (Nat.le_refl _)
              clear hbx o_
              refine wl_nil ?_
              refine we_heldM (fun _ => hs.ar 7 rfl) ?_
              refine wm_one 15 (by kernel_rfl) rfl ?_; dsimp only [List.getElem_toArray, List.getElem_cons_succ, List.getElem_cons_zero]
              refine wl_as rfl rfl ?_; refine wl_nil ?_
              refine we_heldM (fun h => absurd h (by decide)) ?_
              refine wm_done (by kernel_rfl) ?_
              refine we_seq ?_; refine wc_ret ?_
              exact we_ret1 rfl rfl ⟨_, rfl, X14, x14, rfl, (((((((hs.drop 1 rfl).drop 1 rfl).drop 1 rfl).drop 1 rfl).drop 1 rfl).drop 1 rfl).drop 1 rfl)⟩
      · refine wl_toBytesN Try.underlying9 Try.underlying32 Try.underlying5 rfl rfl fun X5 x5 _ hX hr hcx hbx => ?_
        replace hs := hs.newTb hX hbx hr hcx
        clear hbx hr hcx hX
        refine wl_nil ?_
        refine we_heldM (fun _ => hs.ar 5 rfl) ?_
        refine wm_one 2 (by kernel_rfl) rfl ?_; dsimp only [List.getElem_toArray, List.getElem_cons_succ, List.getElem_cons_zero]
        refine wl_call ok_plan_number (pnum_any t.id _) ⟨rfl, trivial⟩ rfl ?_
        rintro _ _ ⟨X2, x2, rfl, hsx⟩
        replace hs := hs.call hsx
        clear hsx
        dsimp only [List.cons_append, List.nil_append] at hs
        refine wl_nil ?_
        refine we_heldM (fun _ => hs.ar 6 rfl) ?_
        refine wm_one 8 (by kernel_rfl) rfl ?_; dsimp only [List.getElem_toArray, List.getElem_cons_succ, List.getElem_cons_zero]
        refine wl_call ok_plan_number (pnum_any t.keys _) ⟨rfl, trivial⟩ rfl ?_
        rintro _ _ ⟨X8, x8, rfl, hsx⟩
        replace hs := hs.call hsx
        clear hsx
        dsimp only [List.cons_append, List.nil_append] at hs
        refine wl_nil ?_
        refine we_heldM (fun _ => hs.ar 7 rfl) ?_
        refine wm_one 10 (by kernel_rfl) rfl ?_; dsimp only [List.getElem_toArray, List.getElem_cons_succ, List.getElem_cons_zero]
        refine wl_call ok_codec_Frame (frame_any (hs.bb 5 6 rfl rfl) rfl (by rw [List.length_map]; omega)) ⟨rfl, trivial⟩ rfl ?_
        rintro _ _ ⟨X10, x10, rfl, o_, hbx⟩
        replace hs := hs.newO hbx o_ (Nat.le_refl _)
        clear hbx o_
        refine wl_nil ?_
        refine we_heldM (fun _ => hs.ar 8 rfl) ?_
        refine wm_one 12 (by kernel_rfl) rfl ?_; dsimp only [List.getElem_toArray, List.getElem_cons_succ, List.getElem_cons_zero]
        refine wl_call ok_codec_Frame (frame_any (hs.bb 4 5 rfl rfl) rfl (by rw [List.length_map]; omega)) ⟨rfl, trivial⟩ rfl ?_
        rintro _ _ ⟨X12, x12, rfl, o_, hbx⟩
        replace hs := hs.newO hbx o_ (Nat.le_refl _)
        clear hbx o_
        refine wl_nil ?_
        refine we_heldM (fun _ => hs.ar 9 rfl) ?_
        refine wm_one 13 (by kernel_rfl) rfl ?_; dsimp only [List.getElem_toArray, List.getElem_cons_succ, List.getElem_cons_zero]
        refine wl_bs (vs := [.slice X2 (pnB t.id).length x2, .slice X5 t.name.length x5, .slice X8 (pnB t.keys).length x8, .slice X10 (framed (t.cols.map colB)).length x10, .slice X12 (framed (t.ixs.map ixB)).length x12]) tyBB ⟨rfl, rfl, rfl, rfl, rfl, rfl, rfl, rfl, rfl, rfl, rfl, rfl, rfl, rfl, rfl, trivial⟩ rfl (by decide) rfl fun X13 _ o_ hbx _ => ?_
        replace hs := hs.newO hbx o_ (Nat.le_refl _)
        clear hbx o_
        refine wl_nil ?_
        refine we_heldM (fun _ => hs.ar 10 rfl) ?_
        refine wm_one 14 (by kernel_rfl) rfl ?_; dsimp only [List.getElem_toArray, List.getElem_cons_succ, List.getElem_cons_zero]
        replace hs := hs.elNil
        replace hs := (hs.front 5 rfl).bbOwn
        dsimp only [delC] at hs
        replace hs := (hs.front 5 rfl).bbCe
        dsimp only [delC] at hs
        replace hs := (hs.front 4 rfl).bbOwn
        dsimp only [delC] at hs
        replace hs := (hs.front 3 rfl).bbOwn
        dsimp only [delC] at hs
        replace hs := (hs.front 2 rfl).bbOwn
        dsimp only [delC] at hs
        dsimp only [List.nil_append, List.cons_append] at hs
        refine wl_call ok_codec_Frame (frame_any (hs.bb 1 0 rfl rfl) rfl (by have := hfl.1; simp only [List.length_cons, List.length_nil]; omega)) ⟨rfl, trivial⟩ rfl ?_
        rintro _ _ ⟨X14, x14, rfl, o_, hbx⟩
        replace hs := hs.newO hbx o_ (Nat.le_refl _)
        clear hbx o_
        refine wl_nil ?_
        refine we_heldM (fun _ => hs.ar 7 rfl) ?_
        refine wm_one 15 (by kernel_rfl) rfl ?_; dsimp only [List.getElem_toArray, List.getElem_cons_succ, List.getElem_cons_zero]
        refine wl_as rfl rfl ?_; refine wl_nil ?_
        refine we_heldM (fun h => absurd h (by decide)) ?_
        refine wm_done (by kernel_rfl) ?_
        refine we_seq ?_; refine wc_ret ?_
        exact we_ret1 rfl rfl ⟨_, rfl, X14, x14, rfl, (((((((hs.drop 1 rfl).drop 1 rfl).drop 1 rfl).drop 1 rfl).drop 1 rfl).drop 1 rfl).drop 1 rfl)⟩
end Go.Proofs.Ytaacnknniaipmaa

/-
  Requests as bytes.
-/
namespace Go.Proofs.Ytaacnknniaipmaa
open Go.RowKit

theorem pcellsB_any {l : List LcM} {A : Option Addr} {ca : Nat} {w : World} (rL : RdR 5 w All A (l.map lcEl)) (hl : sumB lcB l ≤ 1048576) :
    CallsV Try.prog 35 #[.slice A l.length ca] w (RetW w (cellsB l)) := pcells_any rL hl
def opPs (o : OpM) : List By :=
  if o.kind = 1 then [pnB o.kind, tbB o.df] else
  if o.kind = 2 ∨ o.kind = 3 ∨ o.kind = 4 ∨ o.kind = 10 then [pnB o.kind, o.table, cellsB o.cells] else
  if o.kind = 5 then [pnB o.kind, o.table, o.name, cellsB o.cells, pnB o.most] else
  if o.kind = 6 ∨ o.kind = 9 then [pnB o.kind, o.table, pnB o.most] else
  if o.kind = 7 then [pnB o.kind, o.table, ixB o.ix] else
  if o.kind = 8 then [pnB o.kind, o.table, o.name] else [pnB o.kind]
def opB (o : OpM) : By := framed (opPs o)
def opW (o : OpM) : Nat := o.table.length + o.name.length + tbW o.df + ixW o.ix + sumB lcB o.cells
theorem opPs_le (o : OpM) (h : opW o ≤ 1048576) : (opPs o).flatten.length ≤ 220 + 200 * opW o ∧ (opPs o).length ≤ 5 := by
  have h1 := pnB_le o.kind
  have h2 := pnB_le o.most
  unfold opW at h ⊢
  have h3 := tbB_le o.df (by omega)
  have h4 := ixB_le o.ix (by omega)
  have h5 : (cellsB o.cells).length ≤ 100 * sumB lcB o.cells := fr_sum (fun x hx => cellB_le x (sum_le (m := 1048576) (by omega) x hx)) (by omega)
  unfold opPs
  split
  · simp only [List.flatten_cons, List.flatten_nil, List.append_nil, List.length_append, List.length_cons, List.length_nil]; omega
  split
  · simp only [List.flatten_cons, List.flatten_nil, List.append_nil, List.length_append, List.length_cons, List.length_nil]; omega
  split
  · simp only [List.flatten_cons, List.flatten_nil, List.append_nil, List.length_append, List.length_cons, List.length_nil]; omega
  split
  · simp only [List.flatten_cons, List.flatten_nil, List.append_nil, List.length_append, List.length_cons, List.length_nil]; omega
  split
  · simp only [List.flatten_cons, List.flatten_nil, List.append_nil, List.length_append, List.length_cons, List.length_nil]; omega
  split
  · simp only [List.flatten_cons, List.flatten_nil, List.append_nil, List.length_append, List.length_cons, List.length_nil]; omega
  · simp only [List.flatten_cons, List.flatten_nil, List.append_nil, List.length_append, List.length_cons, List.length_nil]; omega
theorem opB_le (o : OpM) (h : opW o ≤ 1048576) : (opB o).length + 10 ≤ 400 * (opW o + 1) := by
  have h1 := opPs_le o h
  have := fr_le h1.1 (by omega)
  unfold opB
  omega
def opElO (w0 : World) (o : OpM) : El where
  P w S cs := ∃ (C : Option Addr) (c : Nat) (X : Option Addr) (x : Nat) (I : Option Addr) (i : Nat) (E : Option Addr) (e : Nat), cs = opV o C c X x I i E e ∧ RdR 3 w0 All C (o.df.cols.map coEl) ∧ RdR 3 w0 All X (o.df.ixs.map ixEl) ∧ Rd w0 I o.ix.cols.length (iVs o.ix.cols) ∧ (rowEl 5 (o.cells.map lcEl)).P w S [.slice E o.cells.length e]
  move := by rintro w w' S S' cs ⟨C, c, X, x, I, i, E, e, h, h1, h2, h3, h4⟩ hz hm; exact ⟨C, c, X, x, I, i, E, e, h, h1, h2, h3, El.move _ h4 hz hm⟩
set_option maxHeartbeats 8000000 in
set_option maxRecDepth 8000 in
theorem pop_any {o : OpM} {C X I E : Option Addr} {c x i e : Nat} {w : World} (rC : RdR 3 w All C (o.df.cols.map coEl)) (rX : RdR 3 w All X (o.df.ixs.map ixEl)) (rI : Rd w I o.ix.cols.length (iVs o.ix.cols)) (rE : RdR 5 w All E (o.cells.map lcEl)) (hl : opW o ≤ 1048576) :
    CallsV Try.prog 31 #[.agg (opV o C c X x I i E e).toArray] w (RetW w (opB o)) := by
  have hs := St.init w
  have hmax : maxLen = 9223372036854775807 := rfl
  refine calls_in (N := _) Try.func31 rfl Try.ntmps31 rfl ?_; show WC _ _ _ _ _ _
  refine wc_sr ?_
  refine ws_box (cs := opV o C c X x I i E e) hs rfl rfl ?_; clear hs; intro g1 _ hs
  unfold opV at hs
  refine wl_as rfl rfl ?_; refine wl_ns ?_; refine wc_seq ?_
  refine wc_cutE (fun L w' => ∃ (X2 : Option Addr) (x2 : Nat) (X5 : Option Addr) (x5 : Nat), L = [(1, .pointer (some ⟨g1, 0, none⟩)), (3, .slice X2 (pnB o.kind).length x2), (4, .slice X5 o.table.length x5)] ∧ St NoB w w' [.ow 5 X2 (pnB o.kind).length x2 (bvs (pnB o.kind)), .ce (byEl o.table) [.slice X5 o.table.length x5], .blk g1 110 [.int .i64 o.kind, str o.table, str o.name, .int .i64 o.df.id, str o.df.name, .slice C o.df.cols.length c, .int .i64 o.df.keys, .slice X o.df.ixs.length x, str o.ix.name, .slice I o.ix.cols.length i, .bool o.ix.uniq, .slice E o.cells.length e, .int .i64 o.most]]) ?_ ?_
  · refine wc_heldG (fun w' => Ar w' g1 110 [.int .i64 o.kind, str o.table, str o.name, .int .i64 o.df.id, str o.df.name, .slice C o.df.cols.length c, .int .i64 o.df.keys, .slice X o.df.ixs.length x, str o.ix.name, .slice I o.ix.cols.length i, .bool o.ix.uniq, .slice E o.cells.length e, .int .i64 o.most]) 7 mixed ?_
    replace hs := hs.below (Below.refl _ _).drew
    have hS := hs.ar 0 rfl
    apply wm_take 0; exact rfl; intro _ hw_; apply opv_fa; exact fa_Op0; exact rfl; exact rfl; kernel_rfl; exact hS; apply wm_take 1; exact rfl; intro _ hw_; apply opv_ldX; exact rfl; assumption; exact g1_int; exact rfl; exact rfl; kernel_rfl; exact hS; apply wm_take 3; exact rfl; intro _ hw_; apply opv_fa; exact fa_Op1; exact rfl; exact rfl; kernel_rfl; exact hS; apply wm_take 4; exact rfl; intro _ hw_; apply opv_ldX; exact rfl; assumption; exact g1_str; exact rfl; exact rfl; kernel_rfl; exact hS
    clear hS
    refine wm_two 2 5 (by kernel_rfl) rfl rfl ?_ ?_ <;> dsimp only [List.getElem_toArray, List.getElem_cons_succ, List.getElem_cons_zero]
    · refine wl_call ok_plan_number (pnum_any o.kind _) ⟨rfl, trivial⟩ rfl ?_
      rintro _ _ ⟨X2, x2, rfl, hsx⟩
      replace hs := hs.call hsx
      clear hsx
      dsimp only [List.cons_append, List.nil_append] at hs
      refine wl_nil ?_
      refine we_heldM (fun _ => hs.ar 1 rfl) ?_
      have hS := hs.ar 1 rfl
      apply wm_take 6; exact rfl; intro _ hw_; apply opv_assign; exact rfl; exact rfl; kernel_rfl; exact hS
      clear hS
      refine wm_one 5 (by kernel_rfl) rfl ?_; dsimp only [List.getElem_toArray, List.getElem_cons_succ, List.getElem_cons_zero]
      refine wl_toBytesN Try.underlying9 Try.underlying32 Try.underlying5 rfl rfl fun X5 x5 _ hX hr hcx hbx => ?_
      replace hs := hs.newTb hX hbx hr hcx
      clear hbx hr hcx hX
      refine wl_nil ?_
      refine we_heldM (fun _ => hs.ar 2 rfl) ?_
      refine wm_one 7 (by kernel_rfl) rfl ?_; dsimp only [List.getElem_toArray, List.getElem_cons_succ, List.getElem_cons_zero]
      refine wl_as rfl rfl ?_; refine wl_nil ?_
      refine we_heldM (fun h => absurd h (by decide)) ?_
      refine wm_done (by kernel_rfl) ?_
      exact we_cut _ ⟨X2, x2, X5, x5, rfl, (((hs.front 2 rfl).front 1 rfl).front 2 rfl)⟩ ⟨rfl, rfl, rfl, trivial⟩
    · refine wl_toBytesN Try.underlying9 Try.underlying32 Try.underlying5 rfl rfl fun X5 x5 _ hX hr hcx hbx => ?_
      replace hs := hs.newTb hX hbx hr hcx
      clear hbx hr hcx hX
      refine wl_nil ?_
      refine we_heldM (fun _ => hs.ar 1 rfl) ?_
      refine wm_one 2 (by kernel_rfl) rfl ?_; dsimp only [List.getElem_toArray, List.getElem_cons_succ, List.getElem_cons_zero]
      refine wl_call ok_plan_number (pnum_any o.kind _) ⟨rfl, trivial⟩ rfl ?_
      rintro _ _ ⟨X2, x2, rfl, hsx⟩
      replace hs := hs.call hsx
      clear hsx
      dsimp only [List.cons_append, List.nil_append] at hs
      refine wl_nil ?_
      refine we_heldM (fun _ => hs.ar 2 rfl) ?_
      have hS := hs.ar 2 rfl
      apply wm_take 6; exact rfl; intro _ hw_; apply opv_assign; exact rfl; exact rfl; kernel_rfl; exact hS
      clear hS
      refine wm_one 7 (by kernel_rfl) rfl ?_; dsimp only [List.getElem_toArray, List.getElem_cons_succ, List.getElem_cons_zero]
      refine wl_as rfl rfl ?_; refine wl_nil ?_
      refine we_heldM (fun h => absurd h (by decide)) ?_
      refine wm_done (by kernel_rfl) ?_
      exact we_cut _ ⟨X2, x2, X5, x5, rfl, (((hs.front 2 rfl).front 2 rfl).front 2 rfl)⟩ ⟨rfl, rfl, rfl, trivial⟩
  clear hs
  rintro _ w2 ⟨X2, x2, X5, x5, rfl, hs⟩
  by_cases hk : o.kind = 1
  · have hp : opPs o = [pnB o.kind, tbB o.df] := by unfold opPs; simp [hk]
    unfold opB
    rw [hp]
    have hfl := opPs_le o hl
    rw [hp] at hfl
    refine we_seq ?_; refine wc_seq ?_; refine wc_sr ?_; apply wl_val; apply opv_fa; exact fa_Op0; exact rfl; exact rfl; apply wl_val; apply opv_ldX; exact rfl; exact hs.ar 2 rfl; exact g1_int; exact rfl; exact rfl; refine wl_ns ?_; refine wc_block ?_; refine wc_sr ?_; refine wl_bin rfl rfl bin_eql rfl ?_; refine wl_as rfl rfl ?_; refine wl_ns ?_; apply wc_decT; exact rfl; (with_reducible assumption); refine wc_sr ?_; refine wl_mv rfl rfl ?_; apply wl_val; apply opv_fa; exact fa_Op3; exact rfl; exact rfl
    refine wl_val (opv_ldG (cs := tbV o.df C c X x) rfl (ar_wiP (hs.ar 2 rfl) 3 (tbV o.df C c X x) (fun j u hu => pk_mid (A := [.int .i64 o.kind, str o.table, str o.name]) (C := [str o.ix.name, .slice I o.ix.cols.length i, .bool o.ix.uniq, .slice E o.cells.length e, .int .i64 o.most]) hu)) sTb) rfl ?_
    refine wl_call ok_plan_putTable (ptb_any (rC.below hs.bel) (rX.below hs.bel) (by unfold opW at hl; omega)) ⟨rfl, trivial⟩ rfl ?_
    rintro _ _ ⟨X18, x18, rfl, hsx⟩
    replace hs := hs.call hsx
    clear hsx
    dsimp only [List.cons_append, List.nil_append] at hs
    skip
    refine wl_bs (vs := [.slice X2 (pnB o.kind).length x2, .slice X18 (tbB o.df).length x18]) tyBB ⟨rfl, rfl, rfl, rfl, rfl, rfl, trivial⟩ rfl (by decide) rfl fun X19 _ o_ hbx _ => ?_
    replace hs := hs.newO hbx o_ (Nat.le_refl _)
    clear hbx o_
    skip
    replace hs := hs.elNil
    replace hs := (hs.front 3 rfl).bbOwn
    dsimp only [delC] at hs
    replace hs := (hs.front 2 rfl).bbOwn
    dsimp only [delC] at hs
    dsimp only [List.nil_append, List.cons_append] at hs
    refine wl_call ok_codec_Frame (frame_any (hs.bb 1 0 rfl rfl) rfl (by simp only [List.length_cons, List.length_nil] at hfl ⊢; omega)) ⟨rfl, trivial⟩ rfl ?_
    rintro _ _ ⟨X20, x20, rfl, o_, hbx⟩
    replace hs := hs.newO hbx o_ (Nat.le_refl _)
    clear hbx o_
    refine wl_as rfl rfl ?_; refine wl_ns ?_; refine wc_ret ?_; refine we_block_ret ?_; refine we_seq_ret ?_
    exact we_ret1 rfl rfl ⟨_, rfl, X20, x20, rfl, ((((hs.drop 1 rfl).drop 1 rfl).drop 1 rfl).drop 1 rfl)⟩
  rename ¬ o.kind = 1 => n1
  by_cases hk : o.kind = 2
  · have hp : opPs o = [pnB o.kind, o.table, cellsB o.cells] := by unfold opPs; simp [hk]
    unfold opB
    rw [hp]
    have hfl := opPs_le o hl
    rw [hp] at hfl
    have n1 : ¬ o.kind = 1 := by omega
    refine we_seq ?_; refine wc_seq ?_; refine wc_sr ?_; apply wl_val; apply opv_fa; exact fa_Op0; exact rfl; exact rfl; apply wl_val; apply opv_ldX; exact rfl; exact hs.ar 2 rfl; exact g1_int; exact rfl; exact rfl; refine wl_ns ?_; refine wc_block ?_; refine wc_sr ?_; refine wl_bin rfl rfl bin_eql rfl ?_; refine wl_as rfl rfl ?_; refine wl_ns ?_; apply wc_decF; exact rfl; (with_reducible assumption); refine wc_seq ?_; refine wc_sr ?_; refine wl_bin rfl rfl bin_eql rfl ?_; refine wl_as rfl rfl ?_; refine wl_ns ?_; apply wc_decT; exact rfl; (with_reducible assumption); refine wc_skip ?_; refine we_seq ?_; apply wc_decT; exact rfl; (with_reducible assumption); refine wc_sr ?_; refine wl_mv rfl rfl ?_; refine wl_mv rfl rfl ?_; apply wl_val; apply opv_fa; exact fa_Op5; exact rfl; exact rfl; apply wl_val; apply opv_ldX; exact rfl; exact hs.ar 2 rfl; exact g1_lcs; exact rfl; exact rfl
    refine wl_call ok_plan_putCells (pcellsB_any (rE.below hs.bel) (by unfold opW at hl; omega)) ⟨rfl, trivial⟩ rfl ?_
    rintro _ _ ⟨X30, x30, rfl, hsx⟩
    replace hs := hs.call hsx
    clear hsx
    dsimp only [List.cons_append, List.nil_append] at hs
    skip
    refine wl_bs (vs := [.slice X2 (pnB o.kind).length x2, .slice X5 o.table.length x5, .slice X30 (cellsB o.cells).length x30]) tyBB ⟨rfl, rfl, rfl, rfl, rfl, rfl, rfl, rfl, rfl, trivial⟩ rfl (by decide) rfl fun X31 _ o_ hbx _ => ?_
    replace hs := hs.newO hbx o_ (Nat.le_refl _)
    clear hbx o_
    skip
    replace hs := hs.elNil
    replace hs := (hs.front 3 rfl).bbOwn
    dsimp only [delC] at hs
    replace hs := (hs.front 3 rfl).bbCe
    dsimp only [delC] at hs
    replace hs := (hs.front 2 rfl).bbOwn
    dsimp only [delC] at hs
    dsimp only [List.nil_append, List.cons_append] at hs
    refine wl_call ok_codec_Frame (frame_any (hs.bb 1 0 rfl rfl) rfl (by simp only [List.length_cons, List.length_nil] at hfl ⊢; omega)) ⟨rfl, trivial⟩ rfl ?_
    rintro _ _ ⟨X32, x32, rfl, o_, hbx⟩
    replace hs := hs.newO hbx o_ (Nat.le_refl _)
    clear hbx o_
    refine wl_as rfl rfl ?_; refine wl_ns ?_; refine wc_ret ?_; refine we_block_ret ?_; refine we_seq_ret ?_
    exact we_ret1 rfl rfl ⟨_, rfl, X32, x32, rfl, (((hs.drop 1 rfl).drop 1 rfl).drop 1 rfl)⟩
  rename ¬ o.kind = 2 => n2
  by_cases hk : o.kind = 3
  · have hp : opPs o = [pnB o.kind, o.table, cellsB o.cells] := by unfold opPs; simp [hk]
    unfold opB
    rw [hp]
    have hfl := opPs_le o hl
    rw [hp] at hfl
    have n1 : ¬ o.kind = 1 := by omega
    have n2 : ¬ o.kind = 2 := by omega
    refine we_seq ?_; refine wc_seq ?_; refine wc_sr ?_; apply wl_val; apply opv_fa; exact fa_Op0; exact rfl; exact rfl; apply wl_val; apply opv_ldX; exact rfl; exact hs.ar 2 rfl; exact g1_int; exact rfl; exact rfl; refine wl_ns ?_; refine wc_block ?_; refine wc_sr ?_; refine wl_bin rfl rfl bin_eql rfl ?_; refine wl_as rfl rfl ?_; refine wl_ns ?_; apply wc_decF; exact rfl; (with_reducible assumption); refine wc_seq ?_; refine wc_sr ?_; refine wl_bin rfl rfl bin_eql rfl ?_; refine wl_as rfl rfl ?_; refine wl_ns ?_; apply wc_decF; exact rfl; (with_reducible assumption); refine wc_sr ?_; refine wl_bin rfl rfl bin_eql rfl ?_; refine wl_as rfl rfl ?_; refine wl_ns ?_; apply wc_decT; exact rfl; (with_reducible assumption); refine wc_skip ?_; refine we_seq ?_; apply wc_decT; exact rfl; (with_reducible assumption); refine wc_sr ?_; refine wl_mv rfl rfl ?_; refine wl_mv rfl rfl ?_; apply wl_val; apply opv_fa; exact fa_Op5; exact rfl; exact rfl; apply wl_val; apply opv_ldX; exact rfl; exact hs.ar 2 rfl; exact g1_lcs; exact rfl; exact rfl
    refine wl_call ok_plan_putCells (pcellsB_any (rE.below hs.bel) (by unfold opW at hl; omega)) ⟨rfl, trivial⟩ rfl ?_
    rintro _ _ ⟨X30, x30, rfl, hsx⟩
    replace hs := hs.call hsx
    clear hsx
    dsimp only [List.cons_append, List.nil_append] at hs
    skip
    refine wl_bs (vs := [.slice X2 (pnB o.kind).length x2, .slice X5 o.table.length x5, .slice X30 (cellsB o.cells).length x30]) tyBB ⟨rfl, rfl, rfl, rfl, rfl, rfl, rfl, rfl, rfl, trivial⟩ rfl (by decide) rfl fun X31 _ o_ hbx _ => ?_
    replace hs := hs.newO hbx o_ (Nat.le_refl _)
    clear hbx o_
    skip
    replace hs := hs.elNil
    replace hs := (hs.front 3 rfl).bbOwn
    dsimp only [delC] at hs
    replace hs := (hs.front 3 rfl).bbCe
    dsimp only [delC] at hs
    replace hs := (hs.front 2 rfl).bbOwn
    dsimp only [delC] at hs
    dsimp only [List.nil_append, List.cons_append] at hs
    refine wl_call ok_codec_Frame (frame_any (hs.bb 1 0 rfl rfl) rfl (by simp only [List.length_cons, List.length_nil] at hfl ⊢; omega)) ⟨rfl, trivial⟩ rfl ?_
    rintro _ _ ⟨X32, x32, rfl, o_, hbx⟩
    replace hs := hs.newO hbx o_ (Nat.le_refl _)
    clear hbx o_
    refine wl_as rfl rfl ?_; refine wl_ns ?_; refine wc_ret ?_; refine we_block_ret ?_; refine we_seq_ret ?_
    exact we_ret1 rfl rfl ⟨_, rfl, X32, x32, rfl, (((hs.drop 1 rfl).drop 1 rfl).drop 1 rfl)⟩
  rename ¬ o.kind = 3 => n3
  by_cases hk : o.kind = 4
  · have hp : opPs o = [pnB o.kind, o.table, cellsB o.cells] := by unfold opPs; simp [hk]
    unfold opB
    rw [hp]
    have hfl := opPs_le o hl
    rw [hp] at hfl
    have n1 : ¬ o.kind = 1 := by omega
    have n2 : ¬ o.kind = 2 := by omega
    have n3 : ¬ o.kind = 3 := by omega
    refine we_seq ?_; refine wc_seq ?_; refine wc_sr ?_; apply wl_val; apply opv_fa; exact fa_Op0; exact rfl; exact rfl; apply wl_val; apply opv_ldX; exact rfl; exact hs.ar 2 rfl; exact g1_int; exact rfl; exact rfl; refine wl_ns ?_; refine wc_block ?_; refine wc_sr ?_; refine wl_bin rfl rfl bin_eql rfl ?_; refine wl_as rfl rfl ?_; refine wl_ns ?_; apply wc_decF; exact rfl; (with_reducible assumption); refine wc_seq ?_; refine wc_sr ?_; refine wl_bin rfl rfl bin_eql rfl ?_; refine wl_as rfl rfl ?_; refine wl_ns ?_; apply wc_decF; exact rfl; (with_reducible assumption); refine wc_sr ?_; refine wl_bin rfl rfl bin_eql rfl ?_; refine wl_as rfl rfl ?_; refine wl_ns ?_; apply wc_decF; exact rfl; (with_reducible assumption); refine wc_sr ?_; refine wl_bin rfl rfl bin_eql rfl ?_; refine wl_as rfl rfl ?_; refine wl_ns ?_; apply wc_decT; exact rfl; (with_reducible assumption); refine wc_skip ?_; refine we_seq ?_; apply wc_decT; exact rfl; (with_reducible assumption); refine wc_sr ?_; refine wl_mv rfl rfl ?_; refine wl_mv rfl rfl ?_; apply wl_val; apply opv_fa; exact fa_Op5; exact rfl; exact rfl; apply wl_val; apply opv_ldX; exact rfl; exact hs.ar 2 rfl; exact g1_lcs; exact rfl; exact rfl
    refine wl_call ok_plan_putCells (pcellsB_any (rE.below hs.bel) (by unfold opW at hl; omega)) ⟨rfl, trivial⟩ rfl ?_
    rintro _ _ ⟨X30, x30, rfl, hsx⟩
    replace hs := hs.call hsx
    clear hsx
    dsimp only [List.cons_append, List.nil_append] at hs
    skip
    refine wl_bs (vs := [.slice X2 (pnB o.kind).length x2, .slice X5 o.table.length x5, .slice X30 (cellsB o.cells).length x30]) tyBB ⟨rfl, rfl, rfl, rfl, rfl, rfl, rfl, rfl, rfl, trivial⟩ rfl (by decide) rfl fun X31 _ o_ hbx _ => ?_
    replace hs := hs.newO hbx o_ (Nat.le_refl _)
    clear hbx o_
    skip
    replace hs := hs.elNil
    replace hs := (hs.front 3 rfl).bbOwn
    dsimp only [delC] at hs
    replace hs := (hs.front 3 rfl).bbCe
    dsimp only [delC] at hs
    replace hs := (hs.front 2 rfl).bbOwn
    dsimp only [delC] at hs
    dsimp only [List.nil_append, List.cons_append] at hs
    refine wl_call ok_codec_Frame (frame_any (hs.bb 1 0 rfl rfl) rfl (by simp only [List.length_cons, List.length_nil] at hfl ⊢; omega)) ⟨rfl, trivial⟩ rfl ?_
    rintro _ _ ⟨X32, x32, rfl, o_, hbx⟩
    replace hs := hs.newO hbx o_ (Nat.le_refl _)
    clear hbx o_
    refine wl_as rfl rfl ?_; refine wl_ns ?_; refine wc_ret ?_; refine we_block_ret ?_; refine we_seq_ret ?_
    exact we_ret1 rfl rfl ⟨_, rfl, X32, x32, rfl, (((hs.drop 1 rfl).drop 1 rfl).drop 1 rfl)⟩
  rename ¬ o.kind = 4 => n4
  by_cases hk : o.kind = 10
  · have hp : opPs o = [pnB o.kind, o.table, cellsB o.cells] := by unfold opPs; simp [hk]
    unfold opB
    rw [hp]
    have hfl := opPs_le o hl
    rw [hp] at hfl
    have n1 : ¬ o.kind = 1 := by omega
    have n2 : ¬ o.kind = 2 := by omega
    have n3 : ¬ o.kind = 3 := by omega
    have n4 : ¬ o.kind = 4 := by omega
    refine we_seq ?_; refine wc_seq ?_; refine wc_sr ?_; apply wl_val; apply opv_fa; exact fa_Op0; exact rfl; exact rfl; apply wl_val; apply opv_ldX; exact rfl; exact hs.ar 2 rfl; exact g1_int; exact rfl; exact rfl; refine wl_ns ?_; refine wc_block ?_; refine wc_sr ?_; refine wl_bin rfl rfl bin_eql rfl ?_; refine wl_as rfl rfl ?_; refine wl_ns ?_; apply wc_decF; exact rfl; (with_reducible assumption); refine wc_seq ?_; refine wc_sr ?_; refine wl_bin rfl rfl bin_eql rfl ?_; refine wl_as rfl rfl ?_; refine wl_ns ?_; apply wc_decF; exact rfl; (with_reducible assumption); refine wc_sr ?_; refine wl_bin rfl rfl bin_eql rfl ?_; refine wl_as rfl rfl ?_; refine wl_ns ?_; apply wc_decF; exact rfl; (with_reducible assumption); refine wc_sr ?_; refine wl_bin rfl rfl bin_eql rfl ?_; refine wl_as rfl rfl ?_; refine wl_ns ?_; apply wc_decF; exact rfl; (with_reducible assumption); refine wc_region ?_; refine wl_bin rfl rfl bin_eql rfl ?_; refine wl_as rfl rfl ?_; refine wl_ns ?_; apply wc_decT; exact rfl; (with_reducible assumption); refine wc_sr ?_; refine wl_mv rfl rfl ?_; refine wl_mv rfl rfl ?_; apply wl_val; apply opv_fa; exact fa_Op5; exact rfl; exact rfl; apply wl_val; apply opv_ldX; exact rfl; exact hs.ar 2 rfl; exact g1_lcs; exact rfl; exact rfl
    refine wl_call ok_plan_putCells (pcellsB_any (rE.below hs.bel) (by unfold opW at hl; omega)) ⟨rfl, trivial⟩ rfl ?_
    rintro _ _ ⟨X30, x30, rfl, hsx⟩
    replace hs := hs.call hsx
    clear hsx
    dsimp only [List.cons_append, List.nil_append] at hs
    skip
    refine wl_bs (vs := [.slice X2 (pnB o.kind).length x2, .slice X5 o.table.length x5, .slice X30 (cellsB o.cells).length x30]) tyBB ⟨rfl, rfl, rfl, rfl, rfl, rfl, rfl, rfl, rfl, trivial⟩ rfl (by decide) rfl fun X31 _ o_ hbx _ => ?_
    replace hs := hs.newO hbx o_ (Nat.le_refl _)
    clear hbx o_
    skip
    replace hs := hs.elNil
    replace hs := (hs.front 3 rfl).bbOwn
    dsimp only [delC] at hs
    replace hs := (hs.front 3 rfl).bbCe
    dsimp only [delC] at hs
    replace hs := (hs.front 2 rfl).bbOwn
    dsimp only [delC] at hs
    dsimp only [List.nil_append, List.cons_append] at hs
    refine wl_call ok_codec_Frame (frame_any (hs.bb 1 0 rfl rfl) rfl (by simp only [List.length_cons, List.length_nil] at hfl ⊢; omega)) ⟨rfl, trivial⟩ rfl ?_
    rintro _ _ ⟨X32, x32, rfl, o_, hbx⟩
    replace hs := hs.newO hbx o_ (Nat.le_refl _)
    clear hbx o_
    refine wl_as rfl rfl ?_; refine wl_ns ?_; refine wc_ret ?_; refine we_block_ret ?_; refine we_seq_ret ?_
    exact we_ret1 rfl rfl ⟨_, rfl, X32, x32, rfl, (((hs.drop 1 rfl).drop 1 rfl).drop 1 rfl)⟩
  rename ¬ o.kind = 10 => n10
  by_cases hk : o.kind = 5
  · have hp : opPs o = [pnB o.kind, o.table, o.name, cellsB o.cells, pnB o.most] := by unfold opPs; simp [hk]
    unfold opB
    rw [hp]
    have hfl := opPs_le o hl
    rw [hp] at hfl
    have n1 : ¬ o.kind = 1 := by omega
    have n2 : ¬ o.kind = 2 := by omega
    have n3 : ¬ o.kind = 3 := by omega
    have n4 : ¬ o.kind = 4 := by omega
    have n10 : ¬ o.kind = 10 := by omega
    refine we_seq ?_; refine wc_seq ?_; refine wc_sr ?_; apply wl_val; apply opv_fa; exact fa_Op0; exact rfl; exact rfl; apply wl_val; apply opv_ldX; exact rfl; exact hs.ar 2 rfl; exact g1_int; exact rfl; exact rfl; refine wl_ns ?_; refine wc_block ?_; refine wc_sr ?_; refine wl_bin rfl rfl bin_eql rfl ?_; refine wl_as rfl rfl ?_; refine wl_ns ?_; apply wc_decF; exact rfl; (with_reducible assumption); refine wc_seq ?_; refine wc_sr ?_; refine wl_bin rfl rfl bin_eql rfl ?_; refine wl_as rfl rfl ?_; refine wl_ns ?_; apply wc_decF; exact rfl; (with_reducible assumption); refine wc_sr ?_; refine wl_bin rfl rfl bin_eql rfl ?_; refine wl_as rfl rfl ?_; refine wl_ns ?_; apply wc_decF; exact rfl; (with_reducible assumption); refine wc_sr ?_; refine wl_bin rfl rfl bin_eql rfl ?_; refine wl_as rfl rfl ?_; refine wl_ns ?_; apply wc_decF; exact rfl; (with_reducible assumption); refine wc_region ?_; refine wl_bin rfl rfl bin_eql rfl ?_; refine wl_as rfl rfl ?_; refine wl_ns ?_; apply wc_decF; exact rfl; (with_reducible assumption); refine wc_sr ?_; refine wl_bin rfl rfl bin_eql rfl ?_; refine wl_as rfl rfl ?_; refine wl_ns ?_; apply wc_decT; exact rfl; (with_reducible assumption); refine wc_seq ?_
    refine wc_heldG (fun w' => Ar w' g1 110 [.int .i64 o.kind, str o.table, str o.name, .int .i64 o.df.id, str o.df.name, .slice C o.df.cols.length c, .int .i64 o.df.keys, .slice X o.df.ixs.length x, str o.ix.name, .slice I o.ix.cols.length i, .bool o.ix.uniq, .slice E o.cells.length e, .int .i64 o.most]) 13 mixed ?_
    replace hs := hs.below (Below.refl _ _).drew
    have hS := hs.ar 2 rfl
    apply wm_take 0; exact rfl; intro _ hw_; apply opv_move; exact rfl; exact rfl; kernel_rfl; exact hS; apply wm_take 1; exact rfl; intro _ hw_; apply opv_move; exact rfl; exact rfl; kernel_rfl; exact hS; apply wm_take 2; exact rfl; intro _ hw_; apply opv_fa; exact fa_Op2; exact rfl; exact rfl; kernel_rfl; exact hS; apply wm_take 3; exact rfl; intro _ hw_; apply opv_ldX; exact rfl; assumption; exact g1_str; exact rfl; exact rfl; kernel_rfl; exact hS; apply wm_take 5; exact rfl; intro _ hw_; apply opv_fa; exact fa_Op5; exact rfl; exact rfl; kernel_rfl; exact hS; apply wm_take 6; exact rfl; intro _ hw_; apply opv_ldX; exact rfl; assumption; exact g1_lcs; exact rfl; exact rfl; kernel_rfl; exact hS; apply wm_take 8; exact rfl; intro _ hw_; apply opv_fa; exact fa_Op6; exact rfl; exact rfl; kernel_rfl; exact hS; apply wm_take 9; exact rfl; intro _ hw_; apply opv_ldX; exact rfl; assumption; exact g1_int; exact rfl; exact rfl; kernel_rfl; exact hS
    clear hS
    refine wm_two 4 7 (by kernel_rfl) rfl rfl ?_ ?_ <;> dsimp only [List.getElem_toArray, List.getElem_cons_succ, List.getElem_cons_zero]
    · refine wl_toBytesN Try.underlying9 Try.underlying32 Try.underlying5 rfl rfl fun X4 x4 _ hX hr hcx hbx => ?_
      replace hs := hs.newTb hX hbx hr hcx
      clear hbx hr hcx hX
      refine wl_nil ?_
      refine we_heldM (fun _ => hs.ar 3 rfl) ?_
      refine wm_one 7 (by kernel_rfl) rfl ?_; dsimp only [List.getElem_toArray, List.getElem_cons_succ, List.getElem_cons_zero]
      refine wl_call ok_plan_putCells (pcellsB_any (rE.below hs.bel) (by unfold opW at hl; omega)) ⟨rfl, trivial⟩ rfl ?_
      rintro _ _ ⟨X7, x7, rfl, hsx⟩
      replace hs := hs.call hsx
      clear hsx
      dsimp only [List.cons_append, List.nil_append] at hs
      refine wl_nil ?_
      refine we_heldM (fun _ => hs.ar 4 rfl) ?_
      refine wm_one 10 (by kernel_rfl) rfl ?_; dsimp only [List.getElem_toArray, List.getElem_cons_succ, List.getElem_cons_zero]
      refine wl_call ok_plan_number (pnum_any o.most _) ⟨rfl, trivial⟩ rfl ?_
      rintro _ _ ⟨X10, x10, rfl, hsx⟩
      replace hs := hs.call hsx
      clear hsx
      dsimp only [List.cons_append, List.nil_append] at hs
      refine wl_nil ?_
      refine we_heldM (fun _ => hs.ar 5 rfl) ?_
      refine wm_one 11 (by kernel_rfl) rfl ?_; dsimp only [List.getElem_toArray, List.getElem_cons_succ, List.getElem_cons_zero]
      refine wl_bs (vs := [.slice X2 (pnB o.kind).length x2, .slice X5 o.table.length x5, .slice X4 o.name.length x4, .slice X7 (cellsB o.cells).length x7, .slice X10 (pnB o.most).length x10]) tyBB ⟨rfl, rfl, rfl, rfl, rfl, rfl, rfl, rfl, rfl, rfl, rfl, rfl, rfl, rfl, rfl, trivial⟩ rfl (by decide) rfl fun X11 _ o_ hbx _ => ?_
      replace hs := hs.newO hbx o_ (Nat.le_refl _)
      clear hbx o_
      refine wl_nil ?_
      refine we_heldM (fun _ => hs.ar 6 rfl) ?_
      refine wm_one 12 (by kernel_rfl) rfl ?_; dsimp only [List.getElem_toArray, List.getElem_cons_succ, List.getElem_cons_zero]
      replace hs := hs.elNil
      replace hs := (hs.front 5 rfl).bbOwn
      dsimp only [delC] at hs
      replace hs := (hs.front 5 rfl).bbCe
      dsimp only [delC] at hs
      replace hs := (hs.front 4 rfl).bbCe
      dsimp only [delC] at hs
      replace hs := (hs.front 3 rfl).bbOwn
      dsimp only [delC] at hs
      replace hs := (hs.front 2 rfl).bbOwn
      dsimp only [delC] at hs
      dsimp only [List.nil_append, List.cons_append] at hs
      refine wl_call ok_codec_Frame (frame_any (hs.bb 1 0 rfl rfl) rfl (by simp only [List.length_cons, List.length_nil] at hfl ⊢; omega)) ⟨rfl, trivial⟩ rfl ?_
      rintro _ _ ⟨X12, x12, rfl, o_, hbx⟩
      replace hs := hs.newO hbx o_ (Nat.le_refl _)
      clear hbx o_
      refine wl_nil ?_
      refine we_heldM (fun _ => hs.ar 3 rfl) ?_
      refine wm_one 13 (by kernel_rfl) rfl ?_; dsimp only [List.getElem_toArray, List.getElem_cons_succ, List.getElem_cons_zero]
      refine wl_as rfl rfl ?_; refine wl_nil ?_
      refine we_heldM (fun h => absurd h (by decide)) ?_
      refine wm_done (by kernel_rfl) ?_
      refine we_seq ?_; refine wc_ret ?_; refine we_block_ret ?_; refine we_seq_ret ?_
      exact we_ret1 rfl rfl ⟨_, rfl, X12, x12, rfl, (((hs.drop 1 rfl).drop 1 rfl).drop 1 rfl)⟩
    · refine wl_call ok_plan_putCells (pcellsB_any (rE.below hs.bel) (by unfold opW at hl; omega)) ⟨rfl, trivial⟩ rfl ?_
      rintro _ _ ⟨X7, x7, rfl, hsx⟩
      replace hs := hs.call hsx
      clear hsx
      dsimp only [List.cons_append, List.nil_append] at hs
      refine wl_nil ?_
      refine we_heldM (fun _ => hs.ar 3 rfl) ?_
      refine wm_two 4 10 (by kernel_rfl) rfl rfl ?_ ?_ <;> dsimp only [List.getElem_toArray, List.getElem_cons_succ, List.getElem_cons_zero]
      · refine wl_toBytesN Try.underlying9 Try.underlying32 Try.underlying5 rfl rfl fun X4 x4 _ hX hr hcx hbx => ?_
        replace hs := hs.newTb hX hbx hr hcx
        clear hbx hr hcx hX
        refine wl_nil ?_
        refine we_heldM (fun _ => hs.ar 4 rfl) ?_
        refine wm_one 10 (by kernel_rfl) rfl ?_; dsimp only [List.getElem_toArray, List.getElem_cons_succ, List.getElem_cons_zero]
        refine wl_call ok_plan_number (pnum_any o.most _) ⟨rfl, trivial⟩ rfl ?_
        rintro _ _ ⟨X10, x10, rfl, hsx⟩
        replace hs := hs.call hsx
        clear hsx
        dsimp only [List.cons_append, List.nil_append] at hs
        refine wl_nil ?_
        refine we_heldM (fun _ => hs.ar 5 rfl) ?_
        refine wm_one 11 (by kernel_rfl) rfl ?_; dsimp only [List.getElem_toArray, List.getElem_cons_succ, List.getElem_cons_zero]
        refine wl_bs (vs := [.slice X2 (pnB o.kind).length x2, .slice X5 o.table.length x5, .slice X4 o.name.length x4, .slice X7 (cellsB o.cells).length x7, .slice X10 (pnB o.most).length x10]) tyBB ⟨rfl, rfl, rfl, rfl, rfl, rfl, rfl, rfl, rfl, rfl, rfl, rfl, rfl, rfl, rfl, trivial⟩ rfl (by decide) rfl fun X11 _ o_ hbx _ => ?_
        replace hs := hs.newO hbx o_ (Nat.le_refl _)
        clear hbx o_
        refine wl_nil ?_
        refine we_heldM (fun _ => hs.ar 6 rfl) ?_
        refine wm_one 12 (by kernel_rfl) rfl ?_; dsimp only [List.getElem_toArray, List.getElem_cons_succ, List.getElem_cons_zero]
        replace hs := hs.elNil
        replace hs := (hs.front 5 rfl).bbOwn
        dsimp only [delC] at hs
        replace hs := (hs.front 5 rfl).bbCe
        dsimp only [delC] at hs
        replace hs := (hs.front 3 rfl).bbCe
        dsimp only [delC] at hs
        replace hs := (hs.front 3 rfl).bbOwn
        dsimp only [delC] at hs
        replace hs := (hs.front 2 rfl).bbOwn
        dsimp only [delC] at hs
        dsimp only [List.nil_append, List.cons_append] at hs
        refine wl_call ok_codec_Frame (frame_any (hs.bb 1 0 rfl rfl) rfl (by simp only [List.length_cons, List.length_nil] at hfl ⊢; omega)) ⟨rfl, trivial⟩ rfl ?_
        rintro _ _ ⟨X12, x12, rfl, o_, hbx⟩
        replace hs := hs.newO hbx o_ (Nat.le_refl _)
        clear hbx o_
        refine wl_nil ?_
        refine we_heldM (fun _ => hs.ar 3 rfl) ?_
        refine wm_one 13 (by kernel_rfl) rfl ?_; dsimp only [List.getElem_toArray, List.getElem_cons_succ, List.getElem_cons_zero]
        refine wl_as rfl rfl ?_; refine wl_nil ?_
        refine we_heldM (fun h => absurd h (by decide)) ?_
        refine wm_done (by kernel_rfl) ?_
        refine we_seq ?_; refine wc_ret ?_; refine we_block_ret ?_; refine we_seq_ret ?_
        exact we_ret1 rfl rfl ⟨_, rfl, X12, x12, rfl, (((hs.drop 1 rfl).drop 1 rfl).drop 1 rfl)⟩
      · refine wl_call ok_plan_number (pnum_any o.most _) ⟨rfl, trivial⟩ rfl ?_
        rintro _ _ ⟨X10, x10, rfl, hsx⟩
        replace hs := hs.call hsx
        clear hsx
        dsimp only [List.cons_append, List.nil_append] at hs
        refine wl_nil ?_
        refine we_heldM (fun _ => hs.ar 4 rfl) ?_
        refine wm_one 4 (by kernel_rfl) rfl ?_; dsimp only [List.getElem_toArray, List.getElem_cons_succ, List.getElem_cons_zero]
        refine wl_toBytesN Try.underlying9 Try.underlying32 Try.underlying5 rfl rfl fun X4 x4 _ hX hr hcx hbx => ?_
        replace hs := hs.newTb hX hbx hr hcx
        clear hbx hr hcx hX
        refine wl_nil ?_
        refine we_heldM (fun _ => hs.ar 5 rfl) ?_
        refine wm_one 11 (by kernel_rfl) rfl ?_; dsimp only [List.getElem_toArray, List.getElem_cons_succ, List.getElem_cons_zero]
        refine wl_bs (vs := [.slice X2 (pnB o.kind).length x2, .slice X5 o.table.length x5, .slice X4 o.name.length x4, .slice X7 (cellsB o.cells).length x7, .slice X10 (pnB o.most).length x10]) tyBB ⟨rfl, rfl, rfl, rfl, rfl, rfl, rfl, rfl, rfl, rfl, rfl, rfl, rfl, rfl, rfl, trivial⟩ rfl (by decide) rfl fun X11 _ o_ hbx _ => ?_
        replace hs := hs.newO hbx o_ (Nat.le_refl _)
        clear hbx o_
        refine wl_nil ?_
        refine we_heldM (fun _ => hs.ar 6 rfl) ?_
        refine wm_one 12 (by kernel_rfl) rfl ?_; dsimp only [List.getElem_toArray, List.getElem_cons_succ, List.getElem_cons_zero]
        replace hs := hs.elNil
        replace hs := (hs.front 5 rfl).bbOwn
        dsimp only [delC] at hs
        replace hs := (hs.front 5 rfl).bbCe
        dsimp only [delC] at hs
        replace hs := (hs.front 2 rfl).bbCe
        dsimp only [delC] at hs
        replace hs := (hs.front 3 rfl).bbOwn
        dsimp only [delC] at hs
        replace hs := (hs.front 2 rfl).bbOwn
        dsimp only [delC] at hs
        dsimp only [List.nil_append, List.cons_append] at hs
        refine wl_call ok_codec_Frame (frame_any (hs.bb 1 0 rfl rfl) rfl (by simp only [List.length_cons, List.length_nil] at hfl ⊢; omega)) ⟨rfl, trivial⟩ rfl ?_
        rintro _ _ ⟨X12, x12, rfl, o_, hbx⟩
        replace hs := hs.newO hbx o_ (Nat.le_refl _)
        clear hbx o_
        refine wl_nil ?_
        refine we_heldM (fun _ => hs.ar 3 rfl) ?_
        refine wm_one 13 (by kernel_rfl) rfl ?_; dsimp only [List.getElem_toArray, List.getElem_cons_succ, List.getElem_cons_zero]
        refine wl_as rfl rfl ?_; refine wl_nil ?_
        refine we_heldM (fun h => absurd h (by decide)) ?_
        refine wm_done (by kernel_rfl) ?_
        refine we_seq ?_; refine wc_ret ?_; refine we_block_ret ?_; refine we_seq_ret ?_
        exact we_ret1 rfl rfl ⟨_, rfl, X12, x12, rfl, (((hs.drop 1 rfl).drop 1 rfl).drop 1 rfl)⟩
  rename ¬ o.kind = 5 => n5
  by_cases hk : o.kind = 6
  · have hp : opPs o = [pnB o.kind, o.table, pnB o.most] := by unfold opPs; simp [hk]
    unfold opB
    rw [hp]
    have hfl := opPs_le o hl
    rw [hp] at hfl
    have n1 : ¬ o.kind = 1 := by omega
    have n2 : ¬ o.kind = 2 := by omega
    have n3 : ¬ o.kind = 3 := by omega
    have n4 : ¬ o.kind = 4 := by omega
    have n10 : ¬ o.kind = 10 := by omega
    have n5 : ¬ o.kind = 5 := by omega
    refine we_seq ?_; refine wc_seq ?_; refine wc_sr ?_; apply wl_val; apply opv_fa; exact fa_Op0; exact rfl; exact rfl; apply wl_val; apply opv_ldX; exact rfl; exact hs.ar 2 rfl; exact g1_int; exact rfl; exact rfl; refine wl_ns ?_; refine wc_block ?_; refine wc_sr ?_; refine wl_bin rfl rfl bin_eql rfl ?_; refine wl_as rfl rfl ?_; refine wl_ns ?_; apply wc_decF; exact rfl; (with_reducible assumption); refine wc_seq ?_; refine wc_sr ?_; refine wl_bin rfl rfl bin_eql rfl ?_; refine wl_as rfl rfl ?_; refine wl_ns ?_; apply wc_decF; exact rfl; (with_reducible assumption); refine wc_sr ?_; refine wl_bin rfl rfl bin_eql rfl ?_; refine wl_as rfl rfl ?_; refine wl_ns ?_; apply wc_decF; exact rfl; (with_reducible assumption); refine wc_sr ?_; refine wl_bin rfl rfl bin_eql rfl ?_; refine wl_as rfl rfl ?_; refine wl_ns ?_; apply wc_decF; exact rfl; (with_reducible assumption); refine wc_region ?_; refine wl_bin rfl rfl bin_eql rfl ?_; refine wl_as rfl rfl ?_; refine wl_ns ?_; apply wc_decF; exact rfl; (with_reducible assumption); refine wc_sr ?_; refine wl_bin rfl rfl bin_eql rfl ?_; refine wl_as rfl rfl ?_; refine wl_ns ?_; apply wc_decF; exact rfl; (with_reducible assumption); refine wc_seq ?_; refine wc_sr ?_; refine wl_bin rfl rfl bin_eql rfl ?_; refine wl_as rfl rfl ?_; refine wl_ns ?_; apply wc_decT; exact rfl; (with_reducible assumption); refine wc_skip ?_; refine we_seq ?_; apply wc_decT; exact rfl; (with_reducible assumption); refine wc_sr ?_; refine wl_mv rfl rfl ?_; refine wl_mv rfl rfl ?_; apply wl_val; apply opv_fa; exact fa_Op6; exact rfl; exact rfl; apply wl_val; apply opv_ldX; exact rfl; exact hs.ar 2 rfl; exact g1_int; exact rfl; exact rfl
    refine wl_call ok_plan_number (pnum_any o.most _) ⟨rfl, trivial⟩ rfl ?_
    rintro _ _ ⟨X55, x55, rfl, hsx⟩
    replace hs := hs.call hsx
    clear hsx
    dsimp only [List.cons_append, List.nil_append] at hs
    skip
    refine wl_bs (vs := [.slice X2 (pnB o.kind).length x2, .slice X5 o.table.length x5, .slice X55 (pnB o.most).length x55]) tyBB ⟨rfl, rfl, rfl, rfl, rfl, rfl, rfl, rfl, rfl, trivial⟩ rfl (by decide) rfl fun X56 _ o_ hbx _ => ?_
    replace hs := hs.newO hbx o_ (Nat.le_refl _)
    clear hbx o_
    skip
    replace hs := hs.elNil
    replace hs := (hs.front 3 rfl).bbOwn
    dsimp only [delC] at hs
    replace hs := (hs.front 3 rfl).bbCe
    dsimp only [delC] at hs
    replace hs := (hs.front 2 rfl).bbOwn
    dsimp only [delC] at hs
    dsimp only [List.nil_append, List.cons_append] at hs
    refine wl_call ok_codec_Frame (frame_any (hs.bb 1 0 rfl rfl) rfl (by simp only [List.length_cons, List.length_nil] at hfl ⊢; omega)) ⟨rfl, trivial⟩ rfl ?_
    rintro _ _ ⟨X57, x57, rfl, o_, hbx⟩
    replace hs := hs.newO hbx o_ (Nat.le_refl _)
    clear hbx o_
    refine wl_as rfl rfl ?_; refine wl_ns ?_; refine wc_ret ?_; refine we_block_ret ?_; refine we_seq_ret ?_
    exact we_ret1 rfl rfl ⟨_, rfl, X57, x57, rfl, (((hs.drop 1 rfl).drop 1 rfl).drop 1 rfl)⟩
  rename ¬ o.kind = 6 => n6
  by_cases hk : o.kind = 9
  · have hp : opPs o = [pnB o.kind, o.table, pnB o.most] := by unfold opPs; simp [hk]
    unfold opB
    rw [hp]
    have hfl := opPs_le o hl
    rw [hp] at hfl
    have n1 : ¬ o.kind = 1 := by omega
    have n2 : ¬ o.kind = 2 := by omega
    have n3 : ¬ o.kind = 3 := by omega
    have n4 : ¬ o.kind = 4 := by omega
    have n10 : ¬ o.kind = 10 := by omega
    have n5 : ¬ o.kind = 5 := by omega
    have n6 : ¬ o.kind = 6 := by omega
    refine we_seq ?_; refine wc_seq ?_; refine wc_sr ?_; apply wl_val; apply opv_fa; exact fa_Op0; exact rfl; exact rfl; apply wl_val; apply opv_ldX; exact rfl; exact hs.ar 2 rfl; exact g1_int; exact rfl; exact rfl; refine wl_ns ?_; refine wc_block ?_; refine wc_sr ?_; refine wl_bin rfl rfl bin_eql rfl ?_; refine wl_as rfl rfl ?_; refine wl_ns ?_; apply wc_decF; exact rfl; (with_reducible assumption); refine wc_seq ?_; refine wc_sr ?_; refine wl_bin rfl rfl bin_eql rfl ?_; refine wl_as rfl rfl ?_; refine wl_ns ?_; apply wc_decF; exact rfl; (with_reducible assumption); refine wc_sr ?_; refine wl_bin rfl rfl bin_eql rfl ?_; refine wl_as rfl rfl ?_; refine wl_ns ?_; apply wc_decF; exact rfl; (with_reducible assumption); refine wc_sr ?_; refine wl_bin rfl rfl bin_eql rfl ?_; refine wl_as rfl rfl ?_; refine wl_ns ?_; apply wc_decF; exact rfl; (with_reducible assumption); refine wc_region ?_; refine wl_bin rfl rfl bin_eql rfl ?_; refine wl_as rfl rfl ?_; refine wl_ns ?_; apply wc_decF; exact rfl; (with_reducible assumption); refine wc_sr ?_; refine wl_bin rfl rfl bin_eql rfl ?_; refine wl_as rfl rfl ?_; refine wl_ns ?_; apply wc_decF; exact rfl; (with_reducible assumption); refine wc_seq ?_; refine wc_sr ?_; refine wl_bin rfl rfl bin_eql rfl ?_; refine wl_as rfl rfl ?_; refine wl_ns ?_; apply wc_decF; exact rfl; (with_reducible assumption); refine wc_region ?_; refine wl_bin rfl rfl bin_eql rfl ?_; refine wl_as rfl rfl ?_; refine wl_ns ?_; apply wc_decT; exact rfl; (with_reducible assumption); refine wc_sr ?_; refine wl_mv rfl rfl ?_; refine wl_mv rfl rfl ?_; apply wl_val; apply opv_fa; exact fa_Op6; exact rfl; exact rfl; apply wl_val; apply opv_ldX; exact rfl; exact hs.ar 2 rfl; exact g1_int; exact rfl; exact rfl
    refine wl_call ok_plan_number (pnum_any o.most _) ⟨rfl, trivial⟩ rfl ?_
    rintro _ _ ⟨X55, x55, rfl, hsx⟩
    replace hs := hs.call hsx
    clear hsx
    dsimp only [List.cons_append, List.nil_append] at hs
    skip
    refine wl_bs (vs := [.slice X2 (pnB o.kind).length x2, .slice X5 o.table.length x5, .slice X55 (pnB o.most).length x55]) tyBB ⟨rfl, rfl, rfl, rfl, rfl, rfl, rfl, rfl, rfl, trivial⟩ rfl (by decide) rfl fun X56 _ o_ hbx _ => ?_
    replace hs := hs.newO hbx o_ (Nat.le_refl _)
    clear hbx o_
    skip
    replace hs := hs.elNil
    replace hs := (hs.front 3 rfl).bbOwn
    dsimp only [delC] at hs
    replace hs := (hs.front 3 rfl).bbCe
    dsimp only [delC] at hs
    replace hs := (hs.front 2 rfl).bbOwn
    dsimp only [delC] at hs
    dsimp only [List.nil_append, List.cons_append] at hs
    refine wl_call ok_codec_Frame (frame_any (hs.bb 1 0 rfl rfl) rfl (by simp only [List.length_cons, List.length_nil] at hfl ⊢; omega)) ⟨rfl, trivial⟩ rfl ?_
    rintro _ _ ⟨X57, x57, rfl, o_, hbx⟩
    replace hs := hs.newO hbx o_ (Nat.le_refl _)
    clear hbx o_
    refine wl_as rfl rfl ?_; refine wl_ns ?_; refine wc_ret ?_; refine we_block_ret ?_; refine we_seq_ret ?_
    exact we_ret1 rfl rfl ⟨_, rfl, X57, x57, rfl, (((hs.drop 1 rfl).drop 1 rfl).drop 1 rfl)⟩
  rename ¬ o.kind = 9 => n9
  by_cases hk : o.kind = 7
  · have hp : opPs o = [pnB o.kind, o.table, ixB o.ix] := by unfold opPs; simp [hk]
    unfold opB
    rw [hp]
    have hfl := opPs_le o hl
    rw [hp] at hfl
    have n1 : ¬ o.kind = 1 := by omega
    have n2 : ¬ o.kind = 2 := by omega
    have n3 : ¬ o.kind = 3 := by omega
    have n4 : ¬ o.kind = 4 := by omega
    have n10 : ¬ o.kind = 10 := by omega
    have n5 : ¬ o.kind = 5 := by omega
    have n6 : ¬ o.kind = 6 := by omega
    have n9 : ¬ o.kind = 9 := by omega
    refine we_seq ?_; refine wc_seq ?_; refine wc_sr ?_; apply wl_val; apply opv_fa; exact fa_Op0; exact rfl; exact rfl; apply wl_val; apply opv_ldX; exact rfl; exact hs.ar 2 rfl; exact g1_int; exact rfl; exact rfl; refine wl_ns ?_; refine wc_block ?_; refine wc_sr ?_; refine wl_bin rfl rfl bin_eql rfl ?_; refine wl_as rfl rfl ?_; refine wl_ns ?_; apply wc_decF; exact rfl; (with_reducible assumption); refine wc_seq ?_; refine wc_sr ?_; refine wl_bin rfl rfl bin_eql rfl ?_; refine wl_as rfl rfl ?_; refine wl_ns ?_; apply wc_decF; exact rfl; (with_reducible assumption); refine wc_sr ?_; refine wl_bin rfl rfl bin_eql rfl ?_; refine wl_as rfl rfl ?_; refine wl_ns ?_; apply wc_decF; exact rfl; (with_reducible assumption); refine wc_sr ?_; refine wl_bin rfl rfl bin_eql rfl ?_; refine wl_as rfl rfl ?_; refine wl_ns ?_; apply wc_decF; exact rfl; (with_reducible assumption); refine wc_region ?_; refine wl_bin rfl rfl bin_eql rfl ?_; refine wl_as rfl rfl ?_; refine wl_ns ?_; apply wc_decF; exact rfl; (with_reducible assumption); refine wc_sr ?_; refine wl_bin rfl rfl bin_eql rfl ?_; refine wl_as rfl rfl ?_; refine wl_ns ?_; apply wc_decF; exact rfl; (with_reducible assumption); refine wc_seq ?_; refine wc_sr ?_; refine wl_bin rfl rfl bin_eql rfl ?_; refine wl_as rfl rfl ?_; refine wl_ns ?_; apply wc_decF; exact rfl; (with_reducible assumption); refine wc_region ?_; refine wl_bin rfl rfl bin_eql rfl ?_; refine wl_as rfl rfl ?_; refine wl_ns ?_; apply wc_decF; exact rfl; (with_reducible assumption); refine wc_sr ?_; refine wl_bin rfl rfl bin_eql rfl ?_; refine wl_as rfl rfl ?_; refine wl_ns ?_; apply wc_decT; exact rfl; (with_reducible assumption); refine wc_sr ?_; refine wl_mv rfl rfl ?_; refine wl_mv rfl rfl ?_; apply wl_val; apply opv_fa; exact fa_Op4; exact rfl; exact rfl
    refine wl_val (opv_ldG (cs := ixV o.ix I i) rfl (ar_wiP (hs.ar 2 rfl) 8 (ixV o.ix I i) (fun j u hu => pk_mid (A := [.int .i64 o.kind, str o.table, str o.name, .int .i64 o.df.id, str o.df.name, .slice C o.df.cols.length c, .int .i64 o.df.keys, .slice X o.df.ixs.length x]) (C := [.slice E o.cells.length e, .int .i64 o.most]) hu)) sIx) rfl ?_
    refine wl_call ok_plan_putIndex (pix_any (rI.below hs.bel) (by unfold opW at hl; omega)) ⟨rfl, trivial⟩ rfl ?_
    rintro _ _ ⟨X64, x64, rfl, hsx⟩
    replace hs := hs.call hsx
    clear hsx
    dsimp only [List.cons_append, List.nil_append] at hs
    skip
    refine wl_bs (vs := [.slice X2 (pnB o.kind).length x2, .slice X5 o.table.length x5, .slice X64 (ixB o.ix).length x64]) tyBB ⟨rfl, rfl, rfl, rfl, rfl, rfl, rfl, rfl, rfl, trivial⟩ rfl (by decide) rfl fun X65 _ o_ hbx _ => ?_
    replace hs := hs.newO hbx o_ (Nat.le_refl _)
    clear hbx o_
    skip
    replace hs := hs.elNil
    replace hs := (hs.front 3 rfl).bbOwn
    dsimp only [delC] at hs
    replace hs := (hs.front 3 rfl).bbCe
    dsimp only [delC] at hs
    replace hs := (hs.front 2 rfl).bbOwn
    dsimp only [delC] at hs
    dsimp only [List.nil_append, List.cons_append] at hs
    refine wl_call ok_codec_Frame (frame_any (hs.bb 1 0 rfl rfl) rfl (by simp only [List.length_cons, List.length_nil] at hfl ⊢; omega)) ⟨rfl, trivial⟩ rfl ?_
    rintro _ _ ⟨X66, x66, rfl, o_, hbx⟩
    replace hs := hs.newO hbx o_ (Nat.le_refl _)
    clear hbx o_
    refine wl_as rfl rfl ?_; refine wl_ns ?_; refine wc_ret ?_; refine we_block_ret ?_; refine we_seq_ret ?_
    exact we_ret1 rfl rfl ⟨_, rfl, X66, x66, rfl, (((hs.drop 1 rfl).drop 1 rfl).drop 1 rfl)⟩
  rename ¬ o.kind = 7 => n7
  by_cases hk : o.kind = 8
  · have hp : opPs o = [pnB o.kind, o.table, o.name] := by unfold opPs; simp [hk]
    unfold opB
    rw [hp]
    have hfl := opPs_le o hl
    rw [hp] at hfl
    have n1 : ¬ o.kind = 1 := by omega
    have n2 : ¬ o.kind = 2 := by omega
    have n3 : ¬ o.kind = 3 := by omega
    have n4 : ¬ o.kind = 4 := by omega
    have n10 : ¬ o.kind = 10 := by omega
    have n5 : ¬ o.kind = 5 := by omega
    have n6 : ¬ o.kind = 6 := by omega
    have n9 : ¬ o.kind = 9 := by omega
    have n7 : ¬ o.kind = 7 := by omega
    refine we_seq ?_; refine wc_seq ?_; refine wc_sr ?_; apply wl_val; apply opv_fa; exact fa_Op0; exact rfl; exact rfl; apply wl_val; apply opv_ldX; exact rfl; exact hs.ar 2 rfl; exact g1_int; exact rfl; exact rfl; refine wl_ns ?_; refine wc_block ?_; refine wc_sr ?_; refine wl_bin rfl rfl bin_eql rfl ?_; refine wl_as rfl rfl ?_; refine wl_ns ?_; apply wc_decF; exact rfl; (with_reducible assumption); refine wc_seq ?_; refine wc_sr ?_; refine wl_bin rfl rfl bin_eql rfl ?_; refine wl_as rfl rfl ?_; refine wl_ns ?_; apply wc_decF; exact rfl; (with_reducible assumption); refine wc_sr ?_; refine wl_bin rfl rfl bin_eql rfl ?_; refine wl_as rfl rfl ?_; refine wl_ns ?_; apply wc_decF; exact rfl; (with_reducible assumption); refine wc_sr ?_; refine wl_bin rfl rfl bin_eql rfl ?_; refine wl_as rfl rfl ?_; refine wl_ns ?_; apply wc_decF; exact rfl; (with_reducible assumption); refine wc_region ?_; refine wl_bin rfl rfl bin_eql rfl ?_; refine wl_as rfl rfl ?_; refine wl_ns ?_; apply wc_decF; exact rfl; (with_reducible assumption); refine wc_sr ?_; refine wl_bin rfl rfl bin_eql rfl ?_; refine wl_as rfl rfl ?_; refine wl_ns ?_; apply wc_decF; exact rfl; (with_reducible assumption); refine wc_seq ?_; refine wc_sr ?_; refine wl_bin rfl rfl bin_eql rfl ?_; refine wl_as rfl rfl ?_; refine wl_ns ?_; apply wc_decF; exact rfl; (with_reducible assumption); refine wc_region ?_; refine wl_bin rfl rfl bin_eql rfl ?_; refine wl_as rfl rfl ?_; refine wl_ns ?_; apply wc_decF; exact rfl; (with_reducible assumption); refine wc_sr ?_; refine wl_bin rfl rfl bin_eql rfl ?_; refine wl_as rfl rfl ?_; refine wl_ns ?_; apply wc_decF; exact rfl; (with_reducible assumption); refine wc_sr ?_; refine wl_bin rfl rfl bin_eql rfl ?_; refine wl_as rfl rfl ?_; refine wl_ns ?_; apply wc_decT; exact rfl; (with_reducible assumption); refine wc_sr ?_; refine wl_mv rfl rfl ?_; refine wl_mv rfl rfl ?_; apply wl_val; apply opv_fa; exact fa_Op2; exact rfl; exact rfl; apply wl_val; apply opv_ldX; exact rfl; exact hs.ar 2 rfl; exact g1_str; exact rfl; exact rfl
    refine wl_toBytesN Try.underlying9 Try.underlying32 Try.underlying5 rfl rfl fun X73 x73 _ hX hr hcx hbx => ?_
    replace hs := hs.newTb hX hbx hr hcx
    clear hbx hr hcx hX
    skip
    refine wl_bs (vs := [.slice X2 (pnB o.kind).length x2, .slice X5 o.table.length x5, .slice X73 o.name.length x73]) tyBB ⟨rfl, rfl, rfl, rfl, rfl, rfl, rfl, rfl, rfl, trivial⟩ rfl (by decide) rfl fun X74 _ o_ hbx _ => ?_
    replace hs := hs.newO hbx o_ (Nat.le_refl _)
    clear hbx o_
    skip
    replace hs := hs.elNil
    replace hs := (hs.front 3 rfl).bbOwn
    dsimp only [delC] at hs
    replace hs := (hs.front 3 rfl).bbCe
    dsimp only [delC] at hs
    replace hs := (hs.front 2 rfl).bbCe
    dsimp only [delC] at hs
    dsimp only [List.nil_append, List.cons_append] at hs
    refine wl_call ok_codec_Frame (frame_any (hs.bb 1 0 rfl rfl) rfl (by simp only [List.length_cons, List.length_nil] at hfl ⊢; omega)) ⟨rfl, trivial⟩ rfl ?_
    rintro _ _ ⟨X75, x75, rfl, o_, hbx⟩
    replace hs := hs.newO hbx o_ (Nat.le_refl _)
    clear hbx o_
    refine wl_as rfl rfl ?_; refine wl_ns ?_; refine wc_ret ?_; refine we_block_ret ?_; refine we_seq_ret ?_
    exact we_ret1 rfl rfl ⟨_, rfl, X75, x75, rfl, (((hs.drop 1 rfl).drop 1 rfl).drop 1 rfl)⟩
  rename ¬ o.kind = 8 => n8
  have hp : opPs o = [pnB o.kind] := by unfold opPs; simp [n1, n2, n3, n4, n10, n5, n6, n9, n7, n8]
  unfold opB
  rw [hp]
  have hfl := opPs_le o hl
  rw [hp] at hfl
  refine we_seq ?_; refine wc_seq ?_; refine wc_sr ?_; apply wl_val; apply opv_fa; exact fa_Op0; exact rfl; exact rfl; apply wl_val; apply opv_ldX; exact rfl; exact hs.ar 2 rfl; exact g1_int; exact rfl; exact rfl; refine wl_ns ?_; refine wc_block ?_; refine wc_sr ?_; refine wl_bin rfl rfl bin_eql rfl ?_; refine wl_as rfl rfl ?_; refine wl_ns ?_; apply wc_decF; exact rfl; (with_reducible assumption); refine wc_seq ?_; refine wc_sr ?_; refine wl_bin rfl rfl bin_eql rfl ?_; refine wl_as rfl rfl ?_; refine wl_ns ?_; apply wc_decF; exact rfl; (with_reducible assumption); refine wc_sr ?_; refine wl_bin rfl rfl bin_eql rfl ?_; refine wl_as rfl rfl ?_; refine wl_ns ?_; apply wc_decF; exact rfl; (with_reducible assumption); refine wc_sr ?_; refine wl_bin rfl rfl bin_eql rfl ?_; refine wl_as rfl rfl ?_; refine wl_ns ?_; apply wc_decF; exact rfl; (with_reducible assumption); refine wc_region ?_; refine wl_bin rfl rfl bin_eql rfl ?_; refine wl_as rfl rfl ?_; refine wl_ns ?_; apply wc_decF; exact rfl; (with_reducible assumption); refine wc_sr ?_; refine wl_bin rfl rfl bin_eql rfl ?_; refine wl_as rfl rfl ?_; refine wl_ns ?_; apply wc_decF; exact rfl; (with_reducible assumption); refine wc_seq ?_; refine wc_sr ?_; refine wl_bin rfl rfl bin_eql rfl ?_; refine wl_as rfl rfl ?_; refine wl_ns ?_; apply wc_decF; exact rfl; (with_reducible assumption); refine wc_region ?_; refine wl_bin rfl rfl bin_eql rfl ?_; refine wl_as rfl rfl ?_; refine wl_ns ?_; apply wc_decF; exact rfl; (with_reducible assumption); refine wc_sr ?_; refine wl_bin rfl rfl bin_eql rfl ?_; refine wl_as rfl rfl ?_; refine wl_ns ?_; apply wc_decF; exact rfl; (with_reducible assumption); refine wc_sr ?_; refine wl_bin rfl rfl bin_eql rfl ?_; refine wl_as rfl rfl ?_; refine wl_ns ?_; apply wc_decF; exact rfl; (with_reducible assumption); refine wc_skip ?_; refine we_block_norm ?_; refine we_seq ?_; refine wc_sr ?_; refine wl_mv rfl rfl ?_
  refine wl_bs (vs := [.slice X2 (pnB o.kind).length x2]) tyBB ⟨rfl, rfl, rfl, trivial⟩ rfl (by decide) rfl fun X77 _ o_ hbx _ => ?_
  replace hs := hs.newO hbx o_ (Nat.le_refl _)
  clear hbx o_
  skip
  replace hs := hs.elNil
  replace hs := (hs.front 2 rfl).bbOwn
  dsimp only [delC] at hs
  dsimp only [List.nil_append, List.cons_append] at hs
  refine wl_call ok_codec_Frame (frame_any (hs.bb 1 0 rfl rfl) rfl (by simp only [List.length_cons, List.length_nil] at hfl ⊢; omega)) ⟨rfl, trivial⟩ rfl ?_
  rintro _ _ ⟨X78, x78, rfl, o_, hbx⟩
  replace hs := hs.newO hbx o_ (Nat.le_refl _)
  clear hbx o_
  refine wl_as rfl rfl ?_; refine wl_ns ?_; refine wc_ret ?_
  exact we_ret1 rfl rfl ⟨_, rfl, X78, x78, rfl, ((((hs.drop 1 rfl).drop 1 rfl).drop 1 rfl).drop 1 rfl)⟩
def pencI (w : World) (l : List OpM) (A : Option Addr) (ca : Nat) : FL → World → Nat → Prop := fun L wr q =>
  ∃ (k : Nat) (R : Option Addr) (c : Nat) (vs : List Value), L = [(3, .slice R ((l.take k).map opB).length c), (6, .slice A l.length ca), (7, .int .i64 (l.length : Int)), (8, .int .i64 (k : Int))] ∧ k ≤ l.length ∧
    St NoB w wr [.ow 32 R ((l.take k).map opB).length c vs, .ck (elC w vs ((l.take k).map opB))] ∧ q = l.length - k
set_option maxHeartbeats 4000000 in
theorem penc_any {w0 : World} {l : List OpM} {A : Option Addr} {ca : Nat} {w : World} (hw0 : Below w0.heap.size w0 w) (rL : RdR 13 w All A (l.map (opElO w0))) (hl : sumB opW l ≤ 1048576) :
    CallsV Try.prog 11 #[.slice A l.length ca] w (RetW w (framed (l.map opB))) := by
  have hs := (St.init w).elNil.nilO 32
  have hmax : maxLen = 9223372036854775807 := rfl
  have hn := sum_len (b := opW) l
  refine calls_in (N := _) Try.func11 rfl Try.ntmps11 rfl ?_; show WC _ _ _ _ _ _
  refine wc_sr ?_; refine wl_as rfl rfl ?_; refine wl_ns ?_; refine wc_sr ?_; refine wl_as rfl rfl ?_; refine wl_ns ?_; refine wc_seq ?_; refine wc_sr ?_; refine wl_mv rfl rfl ?_; apply wl_val; apply opv_len; exact rfl; exact tkOp.sl; exact rfl; refine wl_mv rfl rfl ?_; refine wl_ns ?_; refine wc_block ?_
  refine wc_loop (pencI w l A ca) [(3, .slice none 0 0), (6, .slice A l.length ca), (7, .int .i64 (l.length : Int)), (8, .int .i64 (0 : Nat))] l.length ⟨0, none, 0, [], rfl, Nat.zero_le _, hs, rfl⟩ ⟨rfl, rfl, rfl, rfl, trivial⟩ ?_
  clear hs
  rintro _ w3 q ⟨k, R, c, vs, rfl, hk, hs, rfl⟩
  refine wc_sr ?_; refine wl_bin rfl rfl bin_lss rfl ?_; refine wl_ns ?_; refine wc_seq ?_
  refine wc_cond rfl (fun h1 => ?_) (fun h1 => ?_)
  · obtain ⟨p, hp⟩ : ∃ p, l[k]? = some p := ⟨_, List.getElem?_eq_getElem (by omega)⟩
    obtain ⟨b, o, cs, rfl, _, _, ⟨C1, c1, X1, x1, I1, j1, E1, e1, rfl, rC, rX, rI, hx⟩, hw⟩ := RdR.at (k := 13) (by decide) rL (E := (opElO w0) p) (i := k) (by rw [List.getElem?_map, hp]; rfl)
    have i1 := hw.below hs.bel
    have hpl := sum_le hl p (List.mem_of_getElem? hp)
    have htk := take_getR hp
    have hkk : ((l.take k).map opB).length ≤ 1048576 := by rw [List.length_map, List.length_take]; omega
    refine wc_skip ?_; refine we_seq ?_; refine wc_seq ?_; refine wc_block ?_; refine wc_sr ?_; apply wl_val; apply opv_idxG tkOp; exact rfl; exact rfl; exact rfl; omega; exact rfl; apply wl_val; apply opv_ldG; exact rfl; assumption; exact sOp; exact rfl
    refine ws_var (cs := opV p C1 c1 X1 x1 I1 j1 E1 e1) hs zeroOp sOp rfl (fun _ => rfl) (by first | rfl | simp [Value.oneCell']) rfl ?_; clear hs; intro g5 _ hs
    clear i1
    unfold opV at hs
    have hbe := hs.bel
    refine wl_ns ?_; refine wc_region ?_; refine wl_mv rfl rfl ?_; apply wl_val; apply opv_loadX; exact rfl; exact hs.ar 0 rfl; exact sOp; exact rfl
    refine wl_call ok_plan_putOp (pop_any ((rC.below hw0).below hbe) ((rX.below hw0).below hbe) ((rI.below hw0).below hbe) ((rowEl.rd hx).2.2.below hbe) hpl) ⟨rfl, trivial⟩ rfl ?_
    rintro _ _ ⟨X, x, rfl, hsx⟩
    replace hs := hs.call hsx
    clear hsx hbe
    dsimp only [List.cons_append, List.nil_append] at hs
    skip
    refine ws_push (vs := [.slice X (opB p).length x]) hs 2 rfl rfl tyBB ⟨rfl, rfl, rfl, trivial⟩ rfl (by decide) rfl (by omega) (by omega) rfl rfl ?_
    clear hs; intro _ R8 c8 _ hs; (try dsimp only [setC] at hs)
    replace hs := ((((hs.front 2 rfl).front 3 rfl).front 2 rfl).drop 3 rfl)
    replace hs := hs.bbOwn
    replace hs := hs.front 1 rfl
    dsimp only [delC] at hs
    have hnx : (l.take (k + 1)).map opB = (l.take k).map opB ++ [opB p] := by rw [htk]; simp
    rw [← hnx] at hs
    rw [show ((l.take k).map opB).length + 1 = ((l.take (k + 1)).map opB).length by rw [hnx]; simp] at hs ⊢
    refine wl_as rfl rfl ?_; refine wl_nil ?_; refine we_block_norm ?_; refine we_seq ?_; refine wc_region ?_; apply wl_val; apply opv_bin; exact rfl; exact rfl; exact bin_add64 (by omega); exact rfl; refine wl_mv rfl rfl ?_; refine wl_nil ?_
    exact we_loop _ (l.length - (k + 1)) ⟨k + 1, R8, c8, _, rfl, by omega, hs, rfl⟩ (by omega) ⟨rfl, rfl, rfl, by rw [show ((k + 1 : Nat) : Int) = (k : Int) + 1 by omega]; rfl, trivial⟩
  · obtain rfl : k = l.length := by omega
    rw [List.take_length] at hs ⊢
    refine wc_exit ?_; refine we_seq_exit ?_; refine we_loop_exit ?_; refine we_block_exit ?_; refine we_seq ?_; refine wc_sr ?_; refine wl_mv rfl rfl ?_
    refine wl_call ok_codec_Frame (frame_any (hs.bb 0 1 rfl rfl) rfl (by rw [List.length_map]; have := flat_sum (K := 400) l (fun x hx => opB_le x (sum_le hl x hx)); omega)) ⟨rfl, trivial⟩ rfl ?_
    rintro _ _ ⟨B, cB, rfl, o_, hbx⟩
    replace hs := hs.newO hbx o_ (Nat.le_refl _)
    refine wl_as rfl rfl ?_; refine wl_ns ?_; refine wc_ret ?_
    exact we_ret1 rfl rfl ⟨_, rfl, B, cB, rfl, (hs.drop 1 rfl).drop 1 rfl⟩
end Go.Proofs.Ytaacnknniaipmaa

/-
  Requests taken over: the laws' operations as the program's.
-/
namespace Go.Proofs.Ytaacnknniaipmaa
open Go.RowKit

theorem sQp : StT Try.prog 109 13 := ⟨by kernel_rfl, by kernel_rfl⟩
theorem fa_Qp0 : FieldAt Try.prog 109 0 0 := fieldAt_mk Try.underlying109 rfl rfl (by kernel_rfl)
theorem fa_Qp1 : FieldAt Try.prog 109 1 1 := fieldAt_mk Try.underlying109 rfl rfl (by kernel_rfl)
theorem fa_Qp2 : FieldAt Try.prog 109 2 2 := fieldAt_mk Try.underlying109 rfl rfl (by kernel_rfl)
theorem fa_Qp3 : FieldAt Try.prog 109 3 3 := fieldAt_mk Try.underlying109 rfl rfl (by kernel_rfl)
theorem fa_Qp4 : FieldAt Try.prog 109 4 8 := fieldAt_mk Try.underlying109 rfl rfl (by kernel_rfl)
theorem fa_Qp5 : FieldAt Try.prog 109 5 11 := fieldAt_mk Try.underlying109 rfl rfl (by kernel_rfl)
theorem fa_Qp6 : FieldAt Try.prog 109 6 12 := fieldAt_mk Try.underlying109 rfl rfl (by kernel_rfl)
theorem zeroQp : (Try.prog.info? 109).map (·.zero) = some (some (.agg (opV zOp none 0 none 0 none 0 none 0).toArray)) := by kernel_rfl
theorem tkQp : RowK Try.prog 43 109 13 (.agg (opV zOp none 0 none 0 none 0 none 0).toArray) 200 := ⟨Try.underlying43, by kernel_rfl, by simp [opV, Value.cells], by decide⟩
def opEl (o : OpM) : El where
  P w S cs := ∃ (C : Option Addr) (c : Nat) (X : Option Addr) (x : Nat) (I : Option Addr) (i : Nat) (E : Option Addr) (e : Nat), cs = opV o C c X x I i E e ∧ (rowEl 3 (o.df.cols.map coEl)).P w S [.slice C o.df.cols.length c] ∧ (rowEl 3 (o.df.ixs.map ixEl)).P w S [.slice X o.df.ixs.length x] ∧ (rowEl 1 (o.ix.cols.map iEl)).P w S [.slice I o.ix.cols.length i] ∧ (rowEl 5 (o.cells.map lcEl)).P w S [.slice E o.cells.length e]
  move := by rintro w w' S S' cs ⟨C, c, X, x, I, i, E, e, h, h1, h2, h3, h4⟩ hz hm; exact ⟨C, c, X, x, I, i, E, e, h, El.move _ h1 hz hm, El.move _ h2 hz hm, El.move _ h3 hz hm, El.move _ h4 hz hm⟩
def QOp (w0 : World) (o : OpM) (cs : List Value) (w : World) : Prop := ∃ (C : Option Addr) (c : Nat) (X : Option Addr) (x : Nat) (I : Option Addr) (i : Nat) (E : Option Addr) (e : Nat), cs = opV o C c X x I i E e ∧ RdR 3 w0 All C (o.df.cols.map coEl) ∧ RdR 3 w0 All X (o.df.ixs.map ixEl) ∧ Rd w0 I o.ix.cols.length (iVs o.ix.cols) ∧ o.cells.length ≤ e ∧ RdR 5 w All E (o.cells.map lcEl)
theorem op_of {w0 : World} {o : OpM} {cs : List Value} {w : World} (h : QOp w0 o cs w) : (opElO w0 o).P w All cs ∧ cs.length = 13 := by
  obtain ⟨C, c, X, x, I, i, E, e, rfl, h1, h2, h3, h4, h5⟩ := h
  refine ⟨⟨C, c, X, x, I, i, E, e, rfl, h1, h2, h3, ?_⟩, rfl⟩
  have := rowEl.mk (S := All) h5 (c := e) (by simpa using h4) (by decide)
  rw [List.length_map] at this
  exact this
def wCells (o : OpM) (l : List LcM) : OpM := { o with cells := l }
def OpsI (w0 w : World) (O : Option Addr) (oc : Nat) (ops : List OpM) : FL → World → Nat → Prop := fun L wr q =>
  ∃ (k : Nat) (R : Option Addr) (c : Nat) (css : List (List Value)) (K : World → Prop), L = [(3, .slice R k c), (9, .slice O ops.length oc), (10, .int .i64 (ops.length : Int)), (11, .int .i64 (k : Int))] ∧ k ≤ ops.length ∧ AllK K (QOp w0) (ops.take k) css ∧
    St NoB w wr [.rg 13 110 R c (css.map rawEl), .ck (kp K)] ∧ q = ops.length - k
def OpcI (w : World) (O : Option Addr) (oc n k g6 : Nat) (R : Option Addr) (c : Nat) (css : List (List Value)) (K : World → Prop) (p : OpM) (C1 : Option Addr) (c1 : Nat) (X1 : Option Addr) (x1 : Nat) (I1 : Option Addr) (j1 : Nat) (E1 : Option Addr) (e1 : Nat) : FL → World → Nat → Prop := fun L wr q =>
  ∃ (j : Nat) (E2 : Option Addr) (e2 : Nat) (css2 : List (List Value)) (K2 : World → Prop), L = [(3, .slice R k c), (9, .slice O n oc), (10, .int .i64 (n : Int)), (11, .int .i64 (k : Int)), (6, .pointer (some ⟨g6, 0, none⟩)), (29, .slice E1 p.cells.length e1), (30, .int .i64 (p.cells.length : Int)), (31, .int .i64 (j : Int))] ∧ j ≤ p.cells.length ∧ AllK K2 (QLc 0) (p.cells.take j) css2 ∧
    St NoB w wr [.blk g6 110 [.int .i64 p.kind, str p.table, str p.name, .int .i64 p.df.id, str p.df.name, .slice C1 p.df.cols.length c1, .int .i64 p.df.keys, .slice X1 p.df.ixs.length x1, str p.ix.name, .slice I1 p.ix.cols.length j1, .bool p.ix.uniq, .slice E2 j e2, .int .i64 p.most], .rg 5 112 E2 e2 (css2.map rawEl), .ck (kp K2), .rg 13 110 R c (css.map rawEl), .ck (kp K)] ∧ q = p.cells.length - j
set_option maxHeartbeats 8000000 in
set_option maxRecDepth 8000 in
theorem ops_any {w0 : World} {ops : List OpM} {O : Option Addr} {oc : Nat} {w : World} (hw0 : Below w0.heap.size w0 w) (rO : RdR 13 w0 All O (ops.map opEl)) (hl : sumB opW ops ≤ 1048576) :
    CallsV Try.prog 10 #[.slice O ops.length oc] w fun v w' => ∃ (R : Option Addr) (c : Nat), v = .slice R ops.length c ∧ St NoB w w' [.ck (kp fun w => RdR 13 w All R (ops.map (opElO w0)))] := by
  have hs := (((St.init w).kpNil (K := fun _ => True) fun _ => trivial).nilG 13 110)
  have hmax : maxLen = 9223372036854775807 := rfl
  have hn := sum_len (b := opW) ops
  refine calls_in (N := _) Try.func10 rfl Try.ntmps10 rfl ?_; show WC _ _ _ _ _ _
  refine wc_sr ?_; refine wl_as rfl rfl ?_; refine wl_ns ?_; refine wc_sr ?_; refine wl_as rfl rfl ?_; refine wl_ns ?_; refine wc_seq ?_; refine wc_sr ?_; refine wl_mv rfl rfl ?_; apply wl_val; apply opv_len; exact rfl; exact tkQp.sl; exact rfl; refine wl_mv rfl rfl ?_; refine wl_ns ?_; refine wc_block ?_
  refine wc_loop (OpsI w0 w O oc ops) [(3, .slice none 0 0), (9, .slice O ops.length oc), (10, .int .i64 (ops.length : Int)), (11, .int .i64 (0 : Nat))] ops.length ⟨0, none, 0, [], _, rfl, Nat.zero_le _, AllK.nil, hs, rfl⟩ ⟨rfl, rfl, rfl, rfl, trivial⟩ ?_
  clear hs
  rintro _ w3 q ⟨k, R, c, css, K, rfl, hk, hA, hs, rfl⟩
  have hkl : css.length = k := by rw [hA.1, List.length_take]; omega
  refine wc_sr ?_; refine wl_bin rfl rfl bin_lss rfl ?_; refine wl_ns ?_; refine wc_seq ?_
  refine wc_cond rfl (fun h1 => ?_) (fun h1 => ?_)
  · obtain ⟨p, hp⟩ : ∃ x, ops[k]? = some x := ⟨_, List.getElem?_eq_getElem (by omega)⟩
    obtain ⟨b, o, cs, rfl, _, _, ⟨C1, c1, X1, x1, I1, j1, E1, e1, rfl, hC, hX, hI, hE⟩, hw⟩ := RdR.at (k := 13) (by decide) rO (E := opEl p) (i := k) (by rw [List.getElem?_map, hp]; rfl)
    have i1 := (hw.below hw0).below hs.bel
    have rC := (rowEl.rd hC).2.2
    have rX := (rowEl.rd hX).2.2
    have rI := ints_rd (rowEl.rd hI).2.2
    have rE := (rowEl.rd hE).2.2
    have hpl := sum_le hl p (List.mem_of_getElem? hp)
    have hcl : sumB lcB p.cells ≤ 1048576 := by unfold opW at hpl; omega
    have hcn := sum_len (b := lcB) p.cells
    have htk := take_getR hp
    refine wc_skip ?_; refine we_seq ?_; refine wc_seq ?_; refine wc_block ?_; refine wc_sr ?_; apply wl_val; apply opv_idxG tkQp; exact rfl; exact rfl; exact rfl; omega; exact rfl; apply wl_val; apply opv_ldG; exact rfl; assumption; exact sQp; exact rfl
    refine ws_var (cs := opV p C1 c1 X1 x1 I1 j1 E1 e1) hs zeroQp sQp rfl (fun _ => rfl) (by first | rfl | simp [Value.oneCell']) rfl ?_; clear hs; intro g5 _ hs
    clear i1
    unfold opV at hs
    refine wl_ns ?_; refine wc_sr ?_; apply wl_val; apply opv_fa; exact fa_Qp0; exact rfl; exact rfl; apply wl_val; apply opv_ldX; exact rfl; exact hs.ar 0 rfl; exact g1_int; exact rfl; exact rfl; apply wl_val; apply opv_fa; exact fa_Qp1; exact rfl; exact rfl; apply wl_val; apply opv_ldX; exact rfl; exact hs.ar 0 rfl; exact g1_str; exact rfl; exact rfl; apply wl_val; apply opv_fa; exact fa_Qp2; exact rfl; exact rfl; apply wl_val; apply opv_ldX; exact rfl; exact hs.ar 0 rfl; exact g1_str; exact rfl; exact rfl; apply wl_val; apply opv_fa; exact fa_Qp3; exact rfl; exact rfl
    refine wl_val (opv_ldG (cs := tbV p.df C1 c1 X1 x1) rfl (ar_wiP (hs.ar 0 rfl) 3 (tbV p.df C1 c1 X1 x1) (fun j u hu => pk_mid (A := [.int .i64 p.kind, str p.table, str p.name]) (C := [str p.ix.name, .slice I1 p.ix.cols.length j1, .bool p.ix.uniq, .slice E1 p.cells.length e1, .int .i64 p.most]) hu)) sTb) rfl ?_
    apply wl_val; apply opv_fa; exact fa_Qp4; exact rfl; exact rfl
    refine wl_val (opv_ldG (cs := ixV p.ix I1 j1) rfl (ar_wiP (hs.ar 0 rfl) 8 (ixV p.ix I1 j1) (fun j u hu => pk_mid (A := [.int .i64 p.kind, str p.table, str p.name, .int .i64 p.df.id, str p.df.name, .slice C1 p.df.cols.length c1, .int .i64 p.df.keys, .slice X1 p.df.ixs.length x1]) (C := [.slice E1 p.cells.length e1, .int .i64 p.most]) hu)) sIx) rfl ?_
    apply wl_val; apply opv_fa; exact fa_Qp6; exact rfl; exact rfl; apply wl_val; apply opv_ldX; exact rfl; exact hs.ar 0 rfl; exact g1_int; exact rfl; exact rfl
    refine wl_val (opv_build (vs := [(0, .int .i64 p.kind), (1, str p.table), (2, str p.name), (3, .agg (tbV p.df C1 c1 X1 x1).toArray), (4, .agg (ixV p.ix I1 j1).toArray), (6, .int .i64 p.most)]) (cs := opV (wCells p []) C1 c1 X1 x1 I1 j1 none 0) ⟨rfl, rfl, rfl, rfl, rfl, rfl, rfl, rfl, rfl, rfl, rfl, rfl, trivial⟩ (by kernel_rfl)) rfl ?_
    refine ws_var (cs := opV (wCells p []) C1 c1 X1 x1 I1 j1 none 0) hs zeroOp sOp rfl (fun _ => rfl) (by first | rfl | simp [Value.oneCell']) rfl ?_; clear hs; intro g6 _ hs
    unfold opV at hs
    dsimp only [wCells, List.length_nil] at hs
    refine wl_ns ?_; refine wc_seq ?_; refine wc_sr ?_; apply wl_val; apply opv_fa; exact fa_Qp5; exact rfl; exact rfl; apply wl_val; apply opv_ldX; exact rfl; exact hs.ar 1 rfl; exact g1_lcs; exact rfl; exact rfl; apply wl_val; apply opv_len; exact rfl; exact tkLc.sl; exact rfl; refine wl_mv rfl rfl ?_; refine wl_ns ?_; refine wc_block ?_
    replace hs := ((hs.kpNil (K := fun _ => True) fun _ => trivial).nilG 5 112)
    refine wc_loop (OpcI w (some ⟨b, o, none⟩) oc ops.length k g6 R c css K p C1 c1 X1 x1 I1 j1 E1 e1) [(3, .slice R k c), (9, .slice (some ⟨b, o, none⟩) ops.length oc), (10, .int .i64 (ops.length : Int)), (11, .int .i64 (k : Int)), (6, .pointer (some ⟨g6, 0, none⟩)), (29, .slice E1 p.cells.length e1), (30, .int .i64 (p.cells.length : Int)), (31, .int .i64 (0 : Nat))] p.cells.length ⟨0, none, 0, [], _, rfl, Nat.zero_le _, AllK.nil, ((((((hs.front 5 rfl).front 5 rfl).front 3 rfl).front 3 rfl).front 4 rfl).drop 5 rfl), rfl⟩ ⟨rfl, rfl, rfl, rfl, rfl, rfl, rfl, rfl, trivial⟩ ?_
    clear hs
    rintro _ w4 q ⟨j, E2, e2, css2, K2, rfl, hj, hA2, hs, rfl⟩
    have hjl : css2.length = j := by rw [hA2.1, List.length_take]; omega
    refine wc_sr ?_; refine wl_bin rfl rfl bin_lss rfl ?_; refine wl_ns ?_; refine wc_seq ?_
    refine wc_cond rfl (fun h2 => ?_) (fun h2 => ?_)
    · obtain ⟨x, hx0⟩ : ∃ x, p.cells[j]? = some x := ⟨_, List.getElem?_eq_getElem (by omega)⟩
      obtain ⟨b, o, cs, rfl, _, _, ⟨D, d, rfl, hx⟩, hw⟩ := RdR.at (k := 5) (by decide) rE (E := lcEl x) (i := j) (by rw [List.getElem?_map, hx0]; rfl)
      have i1 := (hw.below hw0).below hs.bel
      have rx := by_rd hx
      have hbx0 := sum_le hcl x (List.mem_of_getElem? hx0)
      have htj := take_getR hx0
      refine wc_skip ?_; refine we_seq ?_; refine wc_seq ?_; refine wc_block ?_; refine wc_sr ?_; apply wl_val; apply opv_idxG tkLc; exact rfl; exact rfl; exact rfl; omega; exact rfl; apply wl_val; apply opv_ldG; exact rfl; assumption; exact sLc; exact rfl
      refine ws_var (cs := lcV x D d) hs zeroLc sLc rfl (fun _ => rfl) (by first | rfl | simp [Value.oneCell']) rfl ?_; clear hs; intro g8 _ hs
      clear i1
      unfold lcV at hs
      refine wl_ns ?_; refine wc_sr ?_; apply wl_val; apply opv_fa; exact fa_Lc4; exact rfl; exact rfl; apply wl_val; apply opv_ldX; exact rfl; exact hs.ar 0 rfl; exact g1_by; exact rfl; exact rfl
      refine wl_call ok_caissonref01_Copy (copy_any ((rx.1.below hw0).below hs.bel) rfl (by unfold lcB at hbx0; omega)) ⟨rfl, trivial⟩ rfl ?_
      rintro _ _ ⟨D2, d2, rfl, o_, hbx⟩
      replace hs := hs.newO hbx o_ (Nat.le_refl _)
      clear hbx o_
      apply wl_val; apply opv_fa; exact fa_Lc4; exact rfl; exact rfl; apply ws_st hs 1; exact rfl; exact rfl; exact g1_by; exact rfl; exact rfl; exact rfl; clear hs; intro _ hs; dsimp only [setC, List.set] at hs; refine wl_ns ?_; refine wc_region ?_; apply wl_val; apply opv_fa; exact fa_Op5; exact rfl; exact rfl; apply wl_val; apply opv_ldX; exact rfl; exact hs.ar 2 rfl; exact g1_lcs; exact rfl; exact rfl; apply wl_val; apply opv_loadX; exact rfl; exact hs.ar 1 rfl; exact sLc; exact rfl
      refine ws_bsR (cs := lcV x D2 d2) hs tkLc ⟨_, rfl, rfl⟩ rfl (by decide) rfl ?_
      clear hs; intro B3 _ hs
      skip
      refine ws_appR (css := [lcV x D2 d2]) hs 4 rfl rfl tkLc (by simp [hjl]) rfl (hs.rg 0 rfl).rd rfl (by simp [lcV, Value.oneCell']) (by omega) (by simp only [maxLen]; omega) rfl ?_
      clear hs; intro E3 e3 _ hs; dsimp only [setC] at hs
      apply wl_val; apply opv_fa; exact fa_Op5; exact rfl; exact rfl; apply ws_st hs 3; exact rfl; exact rfl; exact g1_lcs; exact rfl; exact rfl; exact rfl; clear hs; intro _ hs; dsimp only [setC, List.set] at hs; refine wl_nil ?_; refine we_block_norm ?_; refine we_seq ?_; refine wc_region ?_; apply wl_val; apply opv_bin; exact rfl; exact rfl; exact bin_add64 (by omega); exact rfl; refine wl_mv rfl rfl ?_; refine wl_nil ?_
      replace hs := (St.kpOf (K := fun w => OwB w 0 D2 d2 x.data ∧ K2 w) (H1 := [_, _]) ((((((((hs.front 7 rfl).front 7 rfl).front 6 rfl).front 6 rfl).front 7 rfl).front 6 rfl).drop 6 rfl).drop 6 rfl) fun w S hS => ⟨sat_ow hS 0 rfl, Sat.kp (i := 1) hS rfl⟩)
      replace hs := (((((hs.front 4 rfl).front 4 rfl).front 2 rfl).front 4 rfl).front 4 rfl)
      rw [show css2.map rawEl ++ [lcV x D2 d2].map rawEl = (css2 ++ [lcV x D2 d2]).map rawEl by simp] at hs
      refine we_loop _ (p.cells.length - (j + 1)) ⟨j + 1, E3, e3, css2 ++ [lcV x D2 d2], _, rfl, by omega, ?_, hs, rfl⟩ (by omega) ⟨rfl, rfl, rfl, rfl, rfl, rfl, rfl, by rw [show ((j + 1 : Nat) : Int) = (j : Int) + 1 by omega]; rfl, trivial⟩
      rw [htj]
      exact (hA2.weak fun w h => h.2).snoc fun w' h => ⟨D2, d2, rfl, h.1⟩
    · obtain rfl : j = p.cells.length := by omega
      rw [List.take_length] at hA2
      have hcap := OwR.capR (hs.rg 1 rfl)
      rw [List.length_map, hjl] at hcap
      replace hs := (St.kpOf (K := fun w => RdR 5 w All E2 (p.cells.map lcEl)) (H1 := [_, _]) (((((hs.front 4 rfl).front 4 rfl).front 2 rfl).front 4 rfl).front 4 rfl) fun w S hS => by
        obtain ⟨S', ho⟩ := St.rgP (M := S) (w0 := w) (w := w) hS
        exact hA2.rdr (Sat.kp (i := 1) hS rfl) (fun x cs h => lc_of h) ho)
      dsimp only [delC] at hs
      refine wc_exit ?_; refine we_seq_exit ?_; refine we_loop_exit ?_; refine we_block_exit ?_; refine we_seq ?_; refine wc_region ?_; refine wl_mv rfl rfl ?_; apply wl_val; apply opv_loadX; exact rfl; exact hs.ar 1 rfl; exact sOp; exact rfl
      refine ws_bsR (cs := opV p C1 c1 X1 x1 I1 j1 E2 e2) hs tkOp ⟨_, rfl, rfl⟩ rfl (by decide) rfl ?_
      clear hs; intro B3 _ hs
      skip
      refine ws_appR (css := [opV p C1 c1 X1 x1 I1 j1 E2 e2]) hs 3 rfl rfl tkOp (by simp [hkl]) rfl (hs.rg 0 rfl).rd rfl (by simp [opV, Value.oneCell']) (by omega) (by simp only [maxLen]; omega) rfl ?_
      clear hs; intro R3 c3 _ hs; dsimp only [setC] at hs
      replace hs := (St.kpAnd (((((hs.front 3 rfl).front 4 rfl).front 3 rfl).drop 3 rfl).drop 3 rfl)).front 1 rfl
      rw [show css.map rawEl ++ [opV p C1 c1 X1 x1 I1 j1 E2 e2].map rawEl = (css ++ [opV p C1 c1 X1 x1 I1 j1 E2 e2]).map rawEl by simp] at hs
      refine wl_as rfl rfl ?_; refine wl_nil ?_; refine we_block_norm ?_; refine we_seq ?_; refine wc_region ?_; apply wl_val; apply opv_bin; exact rfl; exact rfl; exact bin_add64 (by omega); exact rfl; refine wl_mv rfl rfl ?_; refine wl_nil ?_
      refine we_loop _ (ops.length - (k + 1)) ⟨k + 1, R3, c3, css ++ [opV p C1 c1 X1 x1 I1 j1 E2 e2], _, rfl, by omega, ?_, hs, rfl⟩ (by omega) ⟨rfl, rfl, rfl, by rw [show ((k + 1 : Nat) : Int) = (k : Int) + 1 by omega]; rfl, trivial⟩
      rw [htk]
      exact (hA.weak fun w h => h.2).snoc fun w' h => ⟨C1, c1, X1, x1, I1, j1, E2, e2, rfl, rC, rX, rI, hcap, h.1⟩
  · obtain rfl : k = ops.length := by omega
    rw [List.take_length] at hA
    refine wc_exit ?_; refine we_seq_exit ?_; refine we_loop_exit ?_; refine we_block_exit ?_; refine we_seq ?_; refine wc_sr ?_; refine wl_mv rfl rfl ?_; refine wl_as rfl rfl ?_; refine wl_ns ?_; refine wc_ret ?_
    refine we_ret1 rfl rfl ⟨_, rfl, R, c, rfl, ?_⟩
    exact St.kpOf (H1 := [_, _]) hs fun w S hS => by
      obtain ⟨S', ho⟩ := St.rgP (M := S) (w0 := w) (w := w) hS
      exact hA.rdr (Sat.kp (i := 1) hS rfl) (fun x cs h => op_of h) ho
end Go.Proofs.Ytaacnknniaipmaa

/-
  Walks over the client's Take, Open and Replies, and over a reply's bytes.
-/
namespace Go.Proofs.Ytaacnknniaipmaa
open Go.RowKit

theorem bin_neqTw (x y : Nat × Nat) : BinV Try.prog .neq 29 (.agg (txW x).toArray) (.agg (txW y).toArray) (.bool (decide (¬ x = y))) := .mk fun u v w => by
  have hf : Try.prog.underlying 29 = some (.struct (Try.prog.fieldsOf 29)) := by kernel_rfl
  have hp : Try.prog.stoodInHeld 29 = false := by kernel_rfl
  have hg : Try.prog.eqGuardType Try.prog.depth 29 = false := by kernel_rfl
  have h1 := run_eqGuard_agg (P := Try.prog) w .neq 29 u v (txW x).toArray (txW y).toArray hg
  have h2 := run_equalIn_agg (P := Try.prog) w 9999 29 (txW x).toArray (txW y).toArray hf hp
  have h3 := run_neq_struct (P := Try.prog) w 29 (txW x).toArray (txW y).toArray
  have h4 : (Op.eqFields 9999 (txW x).toArray (txW y).toArray (Try.prog.fieldsOf 29).toList).run Try.prog w = .ok (decide (x = y)) w := by
    have e : (Try.prog.fieldsOf 29).toList.map (fun f => (f.name, f.type, f.offset)) = [("Session", 22, 0), ("Seq", 22, 1)] := by kernel_rfl
    obtain ⟨f1, f2, hfs, e1, e2⟩ : ∃ f1 f2 : Field, (Try.prog.fieldsOf 29).toList = [f1, f2] ∧ (f1.name, f1.type, f1.offset) = ("Session", 22, 0) ∧ (f2.name, f2.type, f2.offset) = ("Seq", 22, 1) := by
      generalize (Try.prog.fieldsOf 29).toList = l at e
      match l, e with
      | [f1, f2], e => simp only [List.map_cons, List.map_nil, List.cons.injEq, and_true] at e; exact ⟨f1, f2, rfl, e.1, e.2⟩
      | [], e => simp at e
      | [_], e => simp at e
      | _ :: _ :: _ :: _, e => simp at e
    simp only [Prod.mk.injEq] at e1 e2
    obtain ⟨n1, t1, o1⟩ := e1
    obtain ⟨n2, t2, o2⟩ := e2
    rw [hfs]
    have hi : ∀ a b : Int, (Op.equalIn 9999 22 (.int .u64 a) (.int .u64 b)).run Try.prog w = .ok (a == b) w := fun a b => run_equalIn_int (P := Try.prog) w 9998 22 .u64 .u64 a b Try.underlying22
    have hpt : ∀ (z : Nat × Nat) , (part 22 (txW z).toArray 0).run Try.prog w = .ok (.int .u64 (z.1 : Int)) w ∧ (part 22 (txW z).toArray 1).run Try.prog w = .ok (.int .u64 (z.2 : Int)) w := fun z => by
      obtain ⟨j, hj, hs⟩ : ∃ j, Try.prog.info? 22 = some j ∧ j.size = 1 := by
        have hq : (Try.prog.info? 22).map (·.size) = some 1 := by kernel_rfl
        cases hk : Try.prog.info? 22 with
        | none => rw [hk] at hq; cases hq
        | some j => rw [hk] at hq; exact ⟨j, rfl, by simpa using hq⟩
      constructor <;> simp [part, isAgg, run_underlying Try.underlying22, sizeOf, typeInfo, hj, hs, txW]
    simp only [Op.eqFields, n1, n2, t1, t2, o1, o2]
    simp only [Sem.run_bind, (hpt x).1, (hpt y).1, (hpt x).2, (hpt y).2, Result.andThen_ok, hi, Sem.run_ite, Sem.run_pure]
    by_cases k1 : x.1 = y.1
    · by_cases k2 : x.2 = y.2
      · have : x = y := Prod.ext k1 k2
        simp [this, hi]
      · have : ¬ x = y := fun h => k2 (by rw [h])
        have k2' : ((x.2 : Int) == (y.2 : Int)) = false := by simp; omega
        simp [k1, this, hi, k2']
    · have : ¬ x = y := fun h => k1 (by rw [h])
      have k1' : ((x.1 : Int) == (y.1 : Int)) = false := by simp; omega
      simp [this, hi, k1']
  rw [Sem.run_bind, h1]
  simp only [Result.andThen_ok, h3, h2, h4, decide_not]
theorem tkRp : RowK Try.prog 67 56 3 (.agg (rpV zRp none 0).toArray) 40 := ⟨Try.underlying67, by kernel_rfl, by simp [rpV, Value.cells], by decide⟩
def QRp (r : RpM) (cs : List Value) (w : World) : Prop := ∃ (E : Option Addr) (e : Nat), cs = rpV r E e ∧ r.rows.length ≤ e ∧ RdR 1 w All E (r.rows.map rsEl')
def rpEl (r : RpM) : El where
  P w S cs := ∃ (E : Option Addr) (e : Nat), cs = rpV r E e ∧ (rowEl 1 (r.rows.map rsEl')).P w S [.slice E r.rows.length e]
  move := by rintro w w' S S' cs ⟨E, e, h, h1⟩ hz hm; exact ⟨E, e, h, El.move _ h1 hz hm⟩
theorem rp_of {r : RpM} {cs : List Value} {w : World} (h : QRp r cs w) : (rpEl r).P w All cs ∧ cs.length = 3 := by
  obtain ⟨E, e, rfl, h1, h2⟩ := h
  have := rowEl.mk (S := All) h2 (c := e) (by simpa using h1) (by decide)
  rw [List.length_map] at this
  exact ⟨⟨E, e, rfl, this⟩, rfl⟩
/-- A packet with a kind, a name, a code and bytes alone. -/
def pkY (kd : Int) (tx : Nat × Nat) (code : Int) (data : By) : PkM := ⟨kd, 0, 0, 0, 0, 0, 0, tx, code, zMsg, zRes, data⟩
def pkYV (kd : Int) (tx : Nat × Nat) (code : Int) (data : By) (D : Option Addr) (cd : Nat) : List Value := pkV (pkY kd tx code data) (msV zMsg none 0 none 0) (reV zRes none 0 none 0 none 0) D cd
section
variable {M : BS} {w0 w1 w : World} {H : List Cd} {vs : List Value} {rows : List By}
theorem St.bbOwnW {A' : Option Addr} {c' : Nat} {r : List UInt8} (hs : St M w0 w (.ow 5 A' r.length c' (bvs r) :: .ck (elC w1 vs rows) :: H)) : St M w0 w (.ck (elC w1 (vs ++ [.slice A' r.length c']) (rows ++ [r])) :: H) := by
  refine hs.pack (H1 := [_, _]) _ fun w S ⟨T1, hT1, ⟨hA, ho⟩, T, hT, ⟨hl, h⟩, _⟩ => ⟨by simp [hl], fun i x hi => ?_⟩
  rcases Nat.lt_or_ge i rows.length with hlt | hge
  · rw [List.getElem?_append_left hlt] at hi
    obtain ⟨B, d, h1, h2, h3⟩ := h i x hi
    exact ⟨B, d, by rw [List.getElem?_append_left (by omega)]; exact h1, h2, h3.elim (fun k => .inl ⟨k.1, fun a ha hn => (hT _ (k.2 a ha hn)).1⟩) .inr⟩
  · rw [List.getElem?_append_right hge] at hi
    obtain ⟨h0, h1⟩ := List.getElem?_eq_some_iff.1 hi
    have h0' : i - rows.length = 0 := by simpa using h0
    simp only [h0', List.getElem_cons_zero] at h1
    subst h1
    exact ⟨A', c', by rw [List.getElem?_append_right (by omega), show i - vs.length = 0 by omega]; rfl, OwB.cap (show OwB w 0 A' c' r from ho), .inl ⟨Ow.rd ho, fun a ha _ => hT1 _ (hA a ha)⟩⟩
end
def rbB (e a : Int) : By := framed [pnB e, pnB a]
theorem rbB_fl (e a : Int) : ([pnB e, pnB a] : List By).flatten.length ≤ 20 := by
  have h1 := pnB_le e
  have h2 := pnB_le a
  simp only [List.flatten_cons, List.flatten_nil, List.append_nil, List.length_append]
  omega
theorem rbB_le (e a : Int) : (rbB e a).length ≤ 40 := fr_le (rbB_fl e a) (by omega)
set_option maxHeartbeats 4000000 in
theorem rbytes_any (e a : Int) (w : World) : CallsV Try.prog 14 #[.agg (rpV ⟨e, a, []⟩ none 0).toArray] w (RetW w (rbB e a)) := by
  have hs := St.init w
  refine calls_in (N := _) Try.func14 rfl Try.ntmps14 rfl ?_; show WC _ _ _ _ _ _
  refine wc_sr ?_
  refine ws_box (cs := rpV ⟨e, a, []⟩ none 0) hs rfl rfl ?_; clear hs; intro g1 _ hs
  unfold rpV at hs
  dsimp only [List.length_nil] at hs
  refine wl_as rfl rfl ?_; refine wl_ns ?_; refine wc_seq ?_
  refine wc_heldG (fun w' => Ar w' g1 56 [.int .i64 e, .int .i64 a, .slice none 0 0]) 7 mixed ?_
  replace hs := hs.below (Below.refl _ _).drew
  have hS := hs.ar 0 rfl
  apply wm_take 0; exact rfl; intro _ hw_; apply opv_fa; exact fa_Rp0; exact rfl; exact rfl; kernel_rfl; exact hS; apply wm_take 1; exact rfl; intro _ hw_; apply opv_ldX; exact rfl; assumption; exact g1_err; exact rfl; exact rfl; kernel_rfl; exact hS; apply wm_take 3; exact rfl; intro _ hw_; apply opv_fa; exact fa_Rp1; exact rfl; exact rfl; kernel_rfl; exact hS; apply wm_take 4; exact rfl; intro _ hw_; apply opv_ldX; exact rfl; assumption; exact g1_int; exact rfl; exact rfl; kernel_rfl; exact hS
  clear hS
  refine wm_one 2 (by kernel_rfl) rfl ?_; dsimp only [List.getElem_toArray, List.getElem_cons_succ, List.getElem_cons_zero]
  refine wl_call ok_plan_number (pnum_any e _) ⟨rfl, trivial⟩ rfl ?_
  rintro _ _ ⟨X2, x2, rfl, hsx⟩
  replace hs := hs.call hsx
  clear hsx
  dsimp only [List.cons_append, List.nil_append] at hs
  refine wl_nil ?_
  refine we_heldM (fun _ => hs.ar 1 rfl) ?_
  refine wm_one 5 (by kernel_rfl) rfl ?_; dsimp only [List.getElem_toArray, List.getElem_cons_succ, List.getElem_cons_zero]
  refine wl_call ok_plan_number (pnum_any a _) ⟨rfl, trivial⟩ rfl ?_
  rintro _ _ ⟨X5, x5, rfl, hsx⟩
  replace hs := hs.call hsx
  clear hsx
  dsimp only [List.cons_append, List.nil_append] at hs
  refine wl_nil ?_
  refine we_heldM (fun _ => hs.ar 2 rfl) ?_
  refine wm_one 6 (by kernel_rfl) rfl ?_; dsimp only [List.getElem_toArray, List.getElem_cons_succ, List.getElem_cons_zero]
  refine wl_bs (vs := [.slice X2 (pnB e).length x2, .slice X5 (pnB a).length x5]) tyBB ⟨rfl, rfl, rfl, rfl, rfl, rfl, trivial⟩ rfl (by decide) rfl fun X6 _ o_ hbx _ => ?_
  replace hs := hs.newO hbx o_ (Nat.le_refl _)
  clear hbx o_
  refine wl_nil ?_
  refine we_heldM (fun _ => hs.ar 3 rfl) ?_
  refine wm_one 7 (by kernel_rfl) rfl ?_; dsimp only [List.getElem_toArray, List.getElem_cons_succ, List.getElem_cons_zero]
  refine wl_as rfl rfl ?_; refine wl_nil ?_
  refine we_heldM (fun h => absurd h (by decide)) ?_
  refine wm_done (by kernel_rfl) ?_
  replace hs := hs.elNil
  replace hs := (hs.front 3 rfl).bbOwn
  dsimp only [delC] at hs
  replace hs := (hs.front 2 rfl).bbOwn
  dsimp only [delC] at hs
  dsimp only [List.nil_append, List.cons_append] at hs
  refine we_seq ?_; refine wc_seq ?_; refine wc_sr ?_; apply wl_val; apply opv_fa; exact fa_Rp2; exact rfl; exact rfl; apply wl_val; apply opv_ldX; exact rfl; exact hs.ar 2 rfl; exact g1_rss; exact rfl; exact rfl; apply wl_val; apply opv_len; exact rfl; exact tkRs.sl; exact rfl; refine wl_mv rfl rfl ?_; refine wl_ns ?_; refine wc_block ?_
  refine wc_loop (fun L wr mm => L = [(3, .slice X6 2 2), (17, .slice none 0 0), (18, .int .i64 ((0 : Nat) : Int)), (19, .int .i64 ((0 : Nat) : Int))] ∧ St NoB w wr [.ck (elC w [.slice X2 (pnB e).length x2, .slice X5 (pnB a).length x5] [pnB e, pnB a]), .ow 32 X6 2 2 [.slice X2 (pnB e).length x2, .slice X5 (pnB a).length x5]] ∧ mm = 0) [(3, .slice X6 2 2), (17, .slice none 0 0), (18, .int .i64 ((0 : Nat) : Int)), (19, .int .i64 ((0 : Nat) : Int))] 0 ⟨rfl, hs.drop 2 rfl, rfl⟩ ⟨rfl, rfl, rfl, rfl, trivial⟩ ?_
  clear hs
  rintro _ w1 _ ⟨rfl, hs, rfl⟩
  refine wc_sr ?_; refine wl_bin rfl rfl bin_lss rfl ?_; refine wl_ns ?_; refine wc_seq ?_; apply wc_condFb; exact rfl; exact rfl; refine wc_exit ?_; refine we_seq_exit ?_; refine we_loop_exit ?_; refine we_block_exit ?_; refine we_seq ?_; refine wc_sr ?_; refine wl_mv rfl rfl ?_
  refine wl_call ok_codec_Frame (frame_any (hs.bb 1 0 rfl rfl) rfl (by have := rbB_fl e a; simp only [List.length_cons, List.length_nil]; omega)) ⟨rfl, trivial⟩ rfl ?_
  rintro _ _ ⟨B, cb, rfl, o_, hbx⟩
  replace hs := hs.newO hbx o_ (Nat.le_refl _)
  refine wl_as rfl rfl ?_; refine wl_ns ?_; refine wc_ret ?_
  exact we_ret1 rfl rfl ⟨_, rfl, B, cb, rfl, (hs.drop 1 rfl).drop 1 rfl⟩
section
variable {g ses seq n c m d : Nat} {A R : Option Addr} {w : World}
theorem copen_any {busy : Bool} (ha : Ar w g 98 (clV ses seq A n c busy R m d)) :
    CallsV Try.prog 18 #[.pointer (some ⟨g, 0, none⟩)] w fun v w' => v = .tuple #[.agg (txW (if busy then (ses, seq) else (0, 0))).toArray, .bool busy] ∧ Below w.heap.size w w' := by
  have hs := St.init w
  unfold clV at ha
  refine calls_in (N := _) Try.func18 rfl Try.ntmps18 rfl ?_; show WC _ _ _ _ _ _
  refine wc_sr ?_
  refine ws_new hs zeroTx rfl ?_; clear hs; intro g2 _ hs
  have ha2 := ha.bel hs.bel
  clear ha
  cases busy with
  | false =>
    refine wl_as rfl rfl ?_; refine wl_ns ?_; refine wc_seq ?_; refine wc_sr ?_; refine wl_mv rfl rfl ?_; apply wl_val; apply opv_nilOk; exact rfl; exact rfl; apply wl_val; apply opv_fa; exact fa_Cl3; exact rfl; exact rfl; apply wl_val; apply opv_ldX; exact rfl; assumption; exact g1_bool; exact rfl; exact rfl; apply wl_val; apply opv_not; exact rfl; exact rfl; refine wl_ns ?_; apply wc_condTb; exact rfl; exact Bool.not_false; refine wc_sr ?_
    refine wl_val (opv_build (vs := []) (cs := txW (0, 0)) trivial (by kernel_rfl)) rfl ?_
    apply ws_stS hs 0; exact rfl; exact rfl; exact rfl; exact sTxn; exact rfl; exact rfl; clear hs; intro _ hs; dsimp only [setC] at hs; refine wl_as rfl rfl ?_; refine wl_ns ?_; refine wc_ret ?_; refine we_seq_ret ?_
    exact we_retC1 rfl rfl rfl (hs.ar 0 rfl) sTxn ⟨_, rfl, rfl, hs.bel⟩
  | true =>
    refine wl_as rfl rfl ?_; refine wl_ns ?_; refine wc_seq ?_; refine wc_sr ?_; refine wl_mv rfl rfl ?_; apply wl_val; apply opv_nilOk; exact rfl; exact rfl; apply wl_val; apply opv_fa; exact fa_Cl3; exact rfl; exact rfl; apply wl_val; apply opv_ldX; exact rfl; assumption; exact g1_bool; exact rfl; exact rfl; apply wl_val; apply opv_not; exact rfl; exact rfl; refine wl_ns ?_; apply wc_condFb; exact rfl; exact Bool.not_true; refine wc_skip ?_; refine we_seq ?_; refine wc_sr ?_; refine wl_mv rfl rfl ?_
    refine wl_call ok_session_Client_txn (ctxn_any (ses := ses) (seq := seq) (A := A) (n := n) (c := c) (R := R) (m := m) (d := d) (busy := true) ha2) ⟨rfl, trivial⟩ rfl ?_
    rintro _ _ ⟨rfl, hbx⟩
    replace hs := hs.below hbx
    clear hbx ha2
    unfold txW at hs
    apply ws_stS hs 0; exact rfl; exact rfl; exact rfl; exact sTxn; exact rfl; exact rfl; clear hs; intro _ hs; dsimp only [setC] at hs; refine wl_as rfl rfl ?_; refine wl_ns ?_; refine wc_ret ?_
    exact we_retC1 rfl rfl rfl (hs.ar 0 rfl) sTxn ⟨_, rfl, rfl, hs.bel⟩
end
end Go.Proofs.Ytaacnknniaipmaa

/-
  Walks over the client's Take and Replies.
-/
namespace Go.Proofs.Ytaacnknniaipmaa
open Go.RowKit

def CtR (S : BS) (w : World) (g ses seq n c d : Nat) (A R : Option Addr) (busy : Bool) (reps : List By) (vs : List Value) (w1 : World) (kd : Int) (tx : Nat × Nat) (code : Int) (data : By) (v : Value) (w' : World) : Prop :=
  if busy = true ∧ kd = 5 ∧ tx = (ses, seq) ∧ code = 0 ∧ (readRp data).2 = 0 then
    ∃ (E : Option Addr) (ce : Nat) (R' : Option Addr) (d' : Nat) (vs' : List Value), v = .tuple #[.agg (rpV (readRp data).1 E ce).toArray, .bool true] ∧ (readRp data).1.rows.length ≤ ce ∧
      St S w w' [.blk g 98 (clV ses seq A n c false R' (reps ++ [data]).length d'), .ow 32 R' (reps ++ [data]).length d' vs', .ck (elC w1 vs' (reps ++ [data])), .ck (kp fun w => RdR 1 w All E ((readRp data).1.rows.map rsEl'))]
  else v = .tuple #[.agg (rpV zRp none 0).toArray, .bool false] ∧ St S w w' [.blk g 98 (clV ses seq A n c busy R reps.length d), .ow 32 R reps.length d vs, .ck (elC w1 vs reps)]
set_option maxHeartbeats 8000000 in
set_option maxRecDepth 8000 in
theorem ctake_any {g ses seq n c d cd : Nat} {A R D : Option Addr} {busy : Bool} {reps : List By} {vs : List Value} {w1 w : World} {S : BS} {kd code : Int} {tx : Nat × Nat} {data : By}
    (h0 : Sat w [.blk g 98 (clV ses seq A n c busy R reps.length d), .ow 32 R reps.length d vs, .ck (elC w1 vs reps)] S) (hP : ∀ w', Mod S w w' → RdB w' D data) (hD : data.length ≤ cd) (hl : data.length ≤ 16777216) (hr : reps.length ≤ 1000) :
    CallsV Try.prog 17 #[.pointer (some ⟨g, 0, none⟩), .agg (pkYV kd tx code data D cd).toArray] w (CtR S w g ses seq n c d A R busy reps vs w1 kd tx code data) := by
  have hs := St.start h0
  have hmax : maxLen = 9223372036854775807 := rfl
  unfold clV at hs
  refine calls_in (N := _) Try.func17 rfl Try.ntmps17 rfl ?_; show WC _ _ _ _ _ _
  refine wc_sr ?_
  refine ws_box (cs := pkYV kd tx code data D cd) hs rfl rfl ?_; clear hs; intro g3 _ hs
  unfold pkYV pkY pkV msV reV zMsg zRes at hs
  dsimp only [List.cons_append, List.nil_append, List.length_nil] at hs
  skip
  refine ws_new hs zeroRp rfl ?_; clear hs; intro g4 _ hs
  refine wl_as rfl rfl ?_; refine wl_ns ?_; refine wc_seq ?_; refine wc_seq ?_
  refine wc_drawB mixed (by kernel_rfl) ?_
  try dsimp only [List.append]
  cases busy with
  | false =>
    apply wq_val; intro _ hw_; apply opv_move; exact rfl; exact rfl; apply wq_val; intro _ hw_; apply opv_nilOk; exact rfl; exact rfl; apply wq_val; intro _ hw_; apply opv_fa; exact fa_Cl3; exact rfl; exact rfl; apply wq_val; intro _ hw_; apply opv_ldX; exact rfl; exact Ar.bel (hs.ar 2 rfl) hw_; exact g1_bool; exact rfl; exact rfl; apply wq_val; intro _ hw_; apply opv_not; exact rfl; exact rfl; apply wq_val; intro _ hw_; apply opv_move; exact rfl; exact rfl; apply wq_skip; exact rfl; exact rfl; exact rfl; exact rfl; exact rfl; apply wq_skip; exact rfl; exact rfl; exact rfl; exact rfl; exact rfl; apply wq_skip; exact rfl; exact rfl; exact rfl; exact rfl; exact rfl; apply wq_val; intro _ hw_; apply opv_pickT; exact rfl; exact Bool.not_false; exact rfl; exact rfl; apply wq_val; intro _ hw_; apply opv_move; exact rfl; exact rfl; apply wq_skip; exact rfl; exact rfl; exact rfl; exact bR1; exact rfl; apply wq_skip; exact rfl; exact rfl; exact rfl; exact bR1; exact rfl; apply wq_skip; exact rfl; exact rfl; exact rfl; exact bR1; exact rfl; apply wq_skip; exact rfl; exact rfl; exact rfl; exact bR1; exact rfl; apply wq_skip; exact rfl; exact rfl; exact rfl; exact bR1; exact rfl; apply wq_val; intro _ hw_; apply opv_pickT; exact rfl; exact rfl; exact rfl; exact rfl; apply wq_val; intro _ hw_; apply opv_move; exact rfl; exact rfl; apply wq_skip; exact rfl; exact rfl; exact rfl; exact bR1; exact rfl; apply wq_skip; exact rfl; exact rfl; exact rfl; exact bR1; exact rfl; apply wq_skip; exact rfl; exact rfl; exact rfl; exact bR1; exact rfl; apply wq_val; intro _ hw_; apply opv_pickT; exact rfl; exact rfl; exact rfl; exact rfl; refine wq_nil fun w1 hw1 => ?_
    replace hs := hs.below hw1
    refine we_seq ?_; apply wc_condTb; exact rfl; exact rfl; refine wc_sr ?_
    refine wl_val (opv_build (vs := []) (cs := rpV zRp none 0) trivial (by kernel_rfl)) rfl ?_
    apply ws_stS hs 0; exact rfl; exact rfl; exact rfl; exact sRp; exact rfl; exact rfl; clear hs; intro _ hs; dsimp only [setC] at hs; refine wl_as rfl rfl ?_; refine wl_ns ?_; refine wc_ret ?_; refine we_seq_ret ?_
    refine we_retC1 rfl rfl rfl (hs.ar 0 rfl) sRp ⟨_, rfl, ?_⟩
    unfold CtR
    rw [if_neg (fun z => absurd z.1 (by decide))]
    exact ⟨rfl, (((((hs.front 4 rfl).front 4 rfl).front 4 rfl).drop 3 rfl).drop 3 rfl)⟩
  | true =>
    by_cases h1 : kd = 5
    · apply wq_val; intro _ hw_; apply opv_move; exact rfl; exact rfl; apply wq_val; intro _ hw_; apply opv_nilOk; exact rfl; exact rfl; apply wq_val; intro _ hw_; apply opv_fa; exact fa_Cl3; exact rfl; exact rfl; apply wq_val; intro _ hw_; apply opv_ldX; exact rfl; exact Ar.bel (hs.ar 2 rfl) hw_; exact g1_bool; exact rfl; exact rfl; apply wq_val; intro _ hw_; apply opv_not; exact rfl; exact rfl; apply wq_val; intro _ hw_; apply opv_move; exact rfl; exact rfl; apply wq_take; exact rfl; exact rfl; exact rfl; exact Bool.not_true; apply wq_val; intro _ hw_; apply opv_fa; exact fa_Pk0; exact rfl; exact rfl; apply wq_take; exact rfl; exact rfl; exact rfl; exact Bool.not_true; apply wq_val; intro _ hw_; apply opv_ldX; exact rfl; exact Ar.bel (hs.ar 1 rfl) hw_; exact g1_int; exact rfl; exact rfl; apply wq_take; exact rfl; exact rfl; exact rfl; exact Bool.not_true; apply wq_val; intro _ hw_; apply opv_bin; exact rfl; exact rfl; exact bin_neq; exact rfl; apply wq_val; intro _ hw_; apply opv_pickF; exact rfl; exact Bool.not_true; exact rfl; exact rfl; apply wq_val; intro _ hw_; apply opv_move; exact rfl; exact rfl; apply wq_take; exact rfl; exact rfl; exact rfl; refine bF ?_; omega; apply wq_val; intro _ hw_; apply opv_fa; exact fa_Pk7; exact rfl; exact rfl; apply wq_take; exact rfl; exact rfl; exact rfl; refine bF ?_; omega
      refine wq_val (fun w' hw => opv_ldG (cs := txW tx) rfl (ar_wiP (Ar.bel (hs.ar 1 rfl) hw) 7 (txW tx) (fun j u hu => by
        match j, hu with
        | 0, hu => exact hu
        | 1, hu => exact hu)) sTxn) rfl ?_
      apply wq_take; exact rfl; exact rfl; exact rfl; refine bF ?_; omega; apply wq_val; intro _ hw_; apply opv_move; exact rfl; exact rfl; apply wq_take; exact rfl; exact rfl; exact rfl; refine bF ?_; omega
      refine wq_call (v := .agg (txW (ses, seq)).toArray) ok_session_Client_txn (fun w' hw => (ctxn_any (ses := ses) (seq := seq) (A := A) (n := n) (c := c) (R := R) (m := reps.length) (d := d) (busy := true) (Ar.bel (hs.ar 2 rfl) hw)).mono fun v w2 ⟨hv, h2⟩ => ⟨hv, hw.trans (h2.mono hw.size)⟩) ⟨rfl, trivial⟩ rfl ?_
      by_cases h2 : tx = (ses, seq)
      · have h2' : ¬ ¬ tx = (ses, seq) := fun z => z h2
        by_cases h3 : code = 0
        · apply wq_take; exact rfl; exact rfl; exact rfl; refine bF ?_; omega; apply wq_val; intro _ hw_; apply opv_bin; exact rfl; exact rfl; exact bin_neqTw _ _; exact rfl; apply wq_val; intro _ hw_; apply opv_pickF; exact rfl; refine bF ?_; omega; exact rfl; exact rfl; apply wq_val; intro _ hw_; apply opv_move; exact rfl; exact rfl; apply wq_take; exact rfl; exact rfl; exact rfl; refine bF ?_; (with_reducible assumption); apply wq_val; intro _ hw_; apply opv_fa; exact fa_Pk8; exact rfl; exact rfl; apply wq_take; exact rfl; exact rfl; exact rfl; refine bF ?_; (with_reducible assumption); apply wq_val; intro _ hw_; apply opv_ldX; exact rfl; exact Ar.bel (hs.ar 1 rfl) hw_; exact g1_err; exact rfl; exact rfl; apply wq_take; exact rfl; exact rfl; exact rfl; refine bF ?_; (with_reducible assumption); apply wq_val; intro _ hw_; apply opv_bin; exact rfl; exact rfl; exact bin_neq; exact rfl; apply wq_val; intro _ hw_; apply opv_pickF; exact rfl; refine bF ?_; (with_reducible assumption); exact rfl; exact rfl; refine wq_nil fun w1 hw1 => ?_
          replace hs := hs.below hw1
          clear hw1
          refine we_seq ?_; apply wc_decF; exact rfl; omega; refine wc_skip ?_; refine we_seq ?_; refine wc_sr ?_; apply wl_val; apply opv_fa; exact fa_Pk11; exact rfl; exact rfl; apply wl_val; apply opv_ldX; exact rfl; exact hs.ar 1 rfl; exact g1_by; exact rfl; exact rfl
          refine wl_call ok_plan_Read (lread_any (hP _ hs.1) rfl hD (by omega)) ⟨rfl, trivial⟩ rfl ?_
          rintro _ _ ⟨E, ce, rfl, hce, hsx⟩
          replace hs := hs.call hsx
          clear hsx
          dsimp only [List.cons_append, List.nil_append] at hs
          obtain ⟨⟨x, e⟩, hx⟩ : ∃ z, readRp data = z := ⟨_, rfl⟩
          rw [hx] at hs hce ⊢
          dsimp only at hs hce ⊢
          refine wl_mv rfl rfl ?_; apply wl_val; apply opv_extract; exact rfl; exact rfl; exact rfl; apply wl_val; apply opv_extract; exact rfl; exact rfl; exact rfl
          refine ws_var (cs := rpV x E ce) hs zeroRp sRp rfl (fun _ => rfl) (by first | rfl | simp [Value.oneCell']) rfl ?_; clear hs; intro g6 _ hs
          unfold rpV at hs
          refine wl_as rfl rfl ?_; refine wl_ns ?_; refine wc_seq ?_; refine wc_sr ?_; refine wl_mv rfl rfl ?_; refine wl_bin rfl rfl bin_neq rfl ?_; refine wl_ns ?_
          by_cases h4 : e = 0
          · subst h4
            apply wc_condFb; exact rfl; exact rfl; refine wc_skip ?_; refine we_seq ?_; refine wc_sr ?_; refine wl_mv rfl rfl ?_; apply wl_val; apply opv_nilOk; exact rfl; exact rfl; apply wl_val; apply opv_fa; exact fa_Cl3; exact rfl; exact rfl; apply ws_st hs 4; exact rfl; exact rfl; exact g1_bool; exact rfl; exact rfl; exact rfl; clear hs; intro _ hs; dsimp only [setC, List.set] at hs; refine wl_ns ?_; refine wc_seq ?_
            refine wc_heldG (fun w' => Ar w' g 98 [.int .u64 (ses : Int), .int .u64 (seq : Int), .slice A n c, .bool false, .slice R reps.length d] ∧ Ar w' g3 42 (pkYV kd tx code data D cd)) 12 mixed ?_
            replace hs := hs.below (Below.refl _ _).drew
            have hS : _ ∧ _ := ⟨hs.ar 4 rfl, hs.ar 3 rfl⟩
            apply wm_take 0; exact rfl; intro _ hw_; apply opv_move; exact rfl; exact rfl; kernel_rfl; exact hS; apply wm_take 1; exact rfl; intro _ hw_; apply opv_move; exact rfl; exact rfl; kernel_rfl; exact hS; apply wm_take 2; exact rfl; intro _ hw_; apply opv_nilOk; exact rfl; exact rfl; kernel_rfl; exact hS; apply wm_take 3; exact rfl; intro _ hw_; apply opv_fa; exact fa_Cl4; exact rfl; exact rfl; kernel_rfl; exact hS
            refine wm_take 4 rfl (fun w' hw => opv_ldX rfl hw.1 g1_bbs rfl) rfl (by kernel_rfl) hS ?_
            apply wm_take 5; exact rfl; intro _ hw_; apply opv_fa; exact fa_Pk11; exact rfl; exact rfl; kernel_rfl; exact hS
            refine wm_take 6 rfl (fun w' hw => opv_ldX rfl hw.2 g1_by rfl) rfl (by kernel_rfl) hS ?_
            clear hS
            refine wm_one 7 (by kernel_rfl) rfl ?_; dsimp only [List.getElem_toArray, List.getElem_cons_succ, List.getElem_cons_zero]
            refine wl_call ok_bytes_Clone (clone_any (hP _ hs.1) rfl (by omega)) ⟨rfl, trivial⟩ rfl ?_
            rintro _ _ ⟨B, cb, rfl, o_, hbx⟩
            replace hs := hs.newO hbx o_ (Nat.le_refl _)
            clear hbx o_
            refine wl_nil ?_
            refine we_heldM (fun _ => ⟨hs.ar 5 rfl, hs.ar 4 rfl⟩) ?_
            refine wm_one 8 (by kernel_rfl) rfl ?_; dsimp only [List.getElem_toArray, List.getElem_cons_succ, List.getElem_cons_zero]
            refine wl_bs (vs := [.slice B data.length cb]) tyBB ⟨rfl, rfl, rfl, trivial⟩ rfl (by decide) rfl fun X8 _ o_ hbx _ => ?_
            replace hs := hs.newO hbx o_ (Nat.le_refl _)
            clear hbx o_
            refine wl_nil ?_
            refine we_heldM (fun _ => ⟨hs.ar 6 rfl, hs.ar 5 rfl⟩) ?_
            refine wm_one 9 (by kernel_rfl) rfl ?_; dsimp only [List.getElem_toArray, List.getElem_cons_succ, List.getElem_cons_zero]
            refine ws_app hs 7 rfl rfl tyBB rfl (hs.ow 0 rfl).rd (by simp [Value.oneCell']) (by omega) (by simp only [maxLen]; omega) rfl ?_
            clear hs; intro R8 c8 _ hs; dsimp only [setC] at hs
            refine wl_nil ?_
            refine we_heldM (fun _ => ⟨hs.ar 6 rfl, hs.ar 5 rfl⟩) ?_
            refine wm_one 10 (by kernel_rfl) rfl ?_; dsimp only [List.getElem_toArray, List.getElem_cons_succ, List.getElem_cons_zero]
            apply wl_val; apply opv_nilOk; exact rfl; exact rfl; refine wl_nil ?_
            refine we_heldM (fun _ => ⟨hs.ar 6 rfl, hs.ar 5 rfl⟩) ?_
            refine wm_one 11 (by kernel_rfl) rfl ?_; dsimp only [List.getElem_toArray, List.getElem_cons_succ, List.getElem_cons_zero]
            apply wl_val; apply opv_fa; exact fa_Cl4; exact rfl; exact rfl; refine wl_nil ?_
            refine we_heldM (fun _ => ⟨hs.ar 6 rfl, hs.ar 5 rfl⟩) ?_
            refine wm_one 12 (by kernel_rfl) rfl ?_; dsimp only [List.getElem_toArray, List.getElem_cons_succ, List.getElem_cons_zero]
            apply ws_st hs 6; exact rfl; exact rfl; exact g1_bbs; exact rfl; exact rfl; exact rfl; clear hs; intro _ hs; dsimp only [setC, List.set] at hs; refine wl_nil ?_
            refine we_heldM (fun h => absurd h (by decide)) ?_
            refine wm_done (by kernel_rfl) ?_
            refine we_seq ?_; refine wc_sr ?_; apply wl_val; apply opv_loadX; exact rfl; exact hs.ar 2 rfl; exact sRp; exact rfl; apply ws_stS hs 4; exact rfl; exact rfl; exact rfl; exact sRp; exact rfl; exact rfl; clear hs; intro _ hs; dsimp only [setC] at hs; refine wl_as rfl rfl ?_; refine wl_ns ?_; refine wc_ret ?_
            refine we_retC1 rfl rfl rfl (hs.ar 4 rfl) sRp ⟨_, rfl, ?_⟩
            unfold CtR
            rw [hx, if_pos ⟨rfl, h1, h2, h3, rfl⟩]
            refine ⟨E, ce, R8, c8, vs ++ [.slice B data.length cb], rfl, hce, ?_⟩
            replace hs := (((((((((hs.front 3 rfl).front 7 rfl).front 7 rfl).front 8 rfl).front 5 rfl).drop 5 rfl).drop 5 rfl).drop 5 rfl).drop 5 rfl)
            replace hs := hs.bbOwnW
            rw [show reps.length + 1 = (reps ++ [data]).length by simp] at hs
            exact ((((hs.front 3 rfl).front 1 rfl).front 3 rfl).front 3 rfl)
          · apply wc_decT; exact rfl; omega; refine wc_sr ?_
            refine wl_val (opv_build (vs := []) (cs := rpV zRp none 0) trivial (by kernel_rfl)) rfl ?_
            apply ws_stS hs 2; exact rfl; exact rfl; exact rfl; exact sRp; exact rfl; exact rfl; clear hs; intro _ hs; dsimp only [setC] at hs; refine wl_as rfl rfl ?_; refine wl_ns ?_; refine wc_ret ?_; refine we_seq_ret ?_
            refine we_retC1 rfl rfl rfl (hs.ar 2 rfl) sRp ⟨_, rfl, ?_⟩
            unfold CtR
            rw [hx, if_neg (fun z => h4 z.2.2.2.2)]
            exact ⟨rfl, (((((((hs.front 6 rfl).front 6 rfl).front 6 rfl).drop 3 rfl).drop 3 rfl).drop 3 rfl).drop 3 rfl)⟩
        · apply wq_take; exact rfl; exact rfl; exact rfl; refine bF ?_; omega; apply wq_val; intro _ hw_; apply opv_bin; exact rfl; exact rfl; exact bin_neqTw _ _; exact rfl; apply wq_val; intro _ hw_; apply opv_pickF; exact rfl; refine bF ?_; omega; exact rfl; exact rfl; apply wq_val; intro _ hw_; apply opv_move; exact rfl; exact rfl; apply wq_take; exact rfl; exact rfl; exact rfl; refine bF ?_; (with_reducible assumption); apply wq_val; intro _ hw_; apply opv_fa; exact fa_Pk8; exact rfl; exact rfl; apply wq_take; exact rfl; exact rfl; exact rfl; refine bF ?_; (with_reducible assumption); apply wq_val; intro _ hw_; apply opv_ldX; exact rfl; exact Ar.bel (hs.ar 1 rfl) hw_; exact g1_err; exact rfl; exact rfl; apply wq_take; exact rfl; exact rfl; exact rfl; refine bF ?_; (with_reducible assumption); apply wq_val; intro _ hw_; apply opv_bin; exact rfl; exact rfl; exact bin_neq; exact rfl; apply wq_val; intro _ hw_; apply opv_pickF; exact rfl; refine bF ?_; (with_reducible assumption); exact rfl; exact rfl; refine wq_nil fun w1 hw1 => ?_
          replace hs := hs.below hw1
          refine we_seq ?_; apply wc_decT; exact rfl; (with_reducible assumption); refine wc_sr ?_
          refine wl_val (opv_build (vs := []) (cs := rpV zRp none 0) trivial (by kernel_rfl)) rfl ?_
          apply ws_stS hs 0; exact rfl; exact rfl; exact rfl; exact sRp; exact rfl; exact rfl; clear hs; intro _ hs; dsimp only [setC] at hs; refine wl_as rfl rfl ?_; refine wl_ns ?_; refine wc_ret ?_; refine we_seq_ret ?_
          refine we_retC1 rfl rfl rfl (hs.ar 0 rfl) sRp ⟨_, rfl, ?_⟩
          unfold CtR
          rw [if_neg (fun z => h3 z.2.2.2.1)]
          exact ⟨rfl, (((((hs.front 4 rfl).front 4 rfl).front 4 rfl).drop 3 rfl).drop 3 rfl)⟩
      · apply wq_take; exact rfl; exact rfl; exact rfl; refine bF ?_; omega; apply wq_val; intro _ hw_; apply opv_bin; exact rfl; exact rfl; exact bin_neqTw _ _; exact rfl; apply wq_val; intro _ hw_; apply opv_pickF; exact rfl; refine bF ?_; omega; exact rfl; exact rfl; apply wq_val; intro _ hw_; apply opv_move; exact rfl; exact rfl; apply wq_skip; exact rfl; exact rfl; exact rfl; refine bTn ?_; (with_reducible assumption); exact rfl; apply wq_skip; exact rfl; exact rfl; exact rfl; refine bTn ?_; (with_reducible assumption); exact rfl; apply wq_skip; exact rfl; exact rfl; exact rfl; refine bTn ?_; (with_reducible assumption); exact rfl; apply wq_val; intro _ hw_; apply opv_pickT; exact rfl; refine bT ?_; (with_reducible assumption); exact rfl; exact rfl; refine wq_nil fun w1 hw1 => ?_
        replace hs := hs.below hw1
        refine we_seq ?_; apply wc_condTb; exact rfl; exact rfl; refine wc_sr ?_
        refine wl_val (opv_build (vs := []) (cs := rpV zRp none 0) trivial (by kernel_rfl)) rfl ?_
        apply ws_stS hs 0; exact rfl; exact rfl; exact rfl; exact sRp; exact rfl; exact rfl; clear hs; intro _ hs; dsimp only [setC] at hs; refine wl_as rfl rfl ?_; refine wl_ns ?_; refine wc_ret ?_; refine we_seq_ret ?_
        refine we_retC1 rfl rfl rfl (hs.ar 0 rfl) sRp ⟨_, rfl, ?_⟩
        unfold CtR
        rw [if_neg (fun z => h2 z.2.2.1)]
        exact ⟨rfl, (((((hs.front 4 rfl).front 4 rfl).front 4 rfl).drop 3 rfl).drop 3 rfl)⟩
    · apply wq_val; intro _ hw_; apply opv_move; exact rfl; exact rfl; apply wq_val; intro _ hw_; apply opv_nilOk; exact rfl; exact rfl; apply wq_val; intro _ hw_; apply opv_fa; exact fa_Cl3; exact rfl; exact rfl; apply wq_val; intro _ hw_; apply opv_ldX; exact rfl; exact Ar.bel (hs.ar 2 rfl) hw_; exact g1_bool; exact rfl; exact rfl; apply wq_val; intro _ hw_; apply opv_not; exact rfl; exact rfl; apply wq_val; intro _ hw_; apply opv_move; exact rfl; exact rfl; apply wq_take; exact rfl; exact rfl; exact rfl; exact Bool.not_true; apply wq_val; intro _ hw_; apply opv_fa; exact fa_Pk0; exact rfl; exact rfl; apply wq_take; exact rfl; exact rfl; exact rfl; exact Bool.not_true; apply wq_val; intro _ hw_; apply opv_ldX; exact rfl; exact Ar.bel (hs.ar 1 rfl) hw_; exact g1_int; exact rfl; exact rfl; apply wq_take; exact rfl; exact rfl; exact rfl; exact Bool.not_true; apply wq_val; intro _ hw_; apply opv_bin; exact rfl; exact rfl; exact bin_neq; exact rfl; apply wq_val; intro _ hw_; apply opv_pickF; exact rfl; exact Bool.not_true; exact rfl; exact rfl; apply wq_val; intro _ hw_; apply opv_move; exact rfl; exact rfl; apply wq_skip; exact rfl; exact rfl; exact rfl; refine bTn ?_; (with_reducible assumption); exact rfl; apply wq_skip; exact rfl; exact rfl; exact rfl; refine bTn ?_; (with_reducible assumption); exact rfl; apply wq_skip; exact rfl; exact rfl; exact rfl; refine bTn ?_; (with_reducible assumption); exact rfl; apply wq_skip; exact rfl; exact rfl; exact rfl; refine bTn ?_; (with_reducible assumption); exact rfl; apply wq_skip; exact rfl; exact rfl; exact rfl; refine bTn ?_; (with_reducible assumption); exact rfl; apply wq_val; intro _ hw_; apply opv_pickT; exact rfl; refine bT ?_; (with_reducible assumption); exact rfl; exact rfl; apply wq_val; intro _ hw_; apply opv_move; exact rfl; exact rfl; apply wq_skip; exact rfl; exact rfl; exact rfl; exact bR1; exact rfl; apply wq_skip; exact rfl; exact rfl; exact rfl; exact bR1; exact rfl; apply wq_skip; exact rfl; exact rfl; exact rfl; exact bR1; exact rfl; apply wq_val; intro _ hw_; apply opv_pickT; exact rfl; exact rfl; exact rfl; exact rfl; refine wq_nil fun w1 hw1 => ?_
      replace hs := hs.below hw1
      refine we_seq ?_; apply wc_condTb; exact rfl; exact rfl; refine wc_sr ?_
      refine wl_val (opv_build (vs := []) (cs := rpV zRp none 0) trivial (by kernel_rfl)) rfl ?_
      apply ws_stS hs 0; exact rfl; exact rfl; exact rfl; exact sRp; exact rfl; exact rfl; clear hs; intro _ hs; dsimp only [setC] at hs; refine wl_as rfl rfl ?_; refine wl_ns ?_; refine wc_ret ?_; refine we_seq_ret ?_
      refine we_retC1 rfl rfl rfl (hs.ar 0 rfl) sRp ⟨_, rfl, ?_⟩
      unfold CtR
      rw [if_neg (fun z => h1 z.2.1)]
      exact ⟨rfl, (((((hs.front 4 rfl).front 4 rfl).front 4 rfl).drop 3 rfl).drop 3 rfl)⟩
def CrI (w : World) (R : Option Addr) (d : Nat) (reps : List By) : FL → World → Nat → Prop := fun L wr q =>
  ∃ (k : Nat) (X : Option Addr) (c : Nat) (css : List (List Value)) (K : World → Prop), L = [(3, .slice X k c), (11, .slice R reps.length d), (12, .int .i64 (reps.length : Int)), (13, .int .i64 (k : Int))] ∧ k ≤ reps.length ∧ AllK K QRp ((reps.take k).map fun b => (readRp b).1) css ∧
    St NoB w wr [.rg 3 56 X c (css.map rawEl), .ck (kp K)] ∧ q = reps.length - k
set_option maxHeartbeats 4000000 in
theorem creps_any {g ses seq n c d : Nat} {A R : Option Addr} {busy : Bool} {reps : List By} {w : World} (ha : Ar w g 98 (clV ses seq A n c busy R reps.length d)) (hR : RdBB w R reps) (hb : ∀ r ∈ reps, r.length ≤ 16777216) (hr : reps.length ≤ 1000) :
    CallsV Try.prog 19 #[.pointer (some ⟨g, 0, none⟩)] w fun v w' => ∃ (X : Option Addr) (xc : Nat), v = .slice X reps.length xc ∧ St NoB w w' [.ck (kp fun w => RdR 3 w All X (reps.map fun b => rpEl (readRp b).1))] := by
  have hs := (((St.init w).kpNil (K := fun _ => True) fun _ => trivial).nilG 3 56)
  have hmax : maxLen = 9223372036854775807 := rfl
  obtain ⟨vs, hrd, hel⟩ := hR
  unfold clV at ha
  have ha2 := ha.bel hs.bel
  clear ha
  refine calls_in (N := _) Try.func19 rfl Try.ntmps19 rfl ?_; show WC _ _ _ _ _ _
  refine wc_sr ?_; refine wl_as rfl rfl ?_; refine wl_ns ?_; refine wc_sr ?_; refine wl_as rfl rfl ?_; refine wl_ns ?_; refine wc_seq ?_; refine wc_sr ?_; refine wl_mv rfl rfl ?_; apply wl_val; apply opv_nilOk; exact rfl; exact rfl; apply wl_val; apply opv_fa; exact fa_Cl4; exact rfl; exact rfl; apply wl_val; apply opv_ldX; exact rfl; assumption; exact g1_bbs; exact rfl; exact rfl; apply wl_val; apply opv_len; exact rfl; exact tyBB.sl; exact rfl; refine wl_mv rfl rfl ?_; refine wl_ns ?_; refine wc_block ?_
  refine wc_loop (CrI w R d reps) [(3, .slice none 0 0), (11, .slice R reps.length d), (12, .int .i64 (reps.length : Int)), (13, .int .i64 (0 : Nat))] reps.length ⟨0, none, 0, [], _, rfl, Nat.zero_le _, AllK.nil, hs, rfl⟩ ⟨rfl, rfl, rfl, rfl, trivial⟩ ?_
  clear hs ha2
  rintro _ w3 q ⟨k, X, xc, css, K, rfl, hk, hA, hs, rfl⟩
  have hkl : css.length = k := by rw [hA.1, List.length_map, List.length_take]; omega
  refine wc_sr ?_; refine wl_bin rfl rfl bin_lss rfl ?_; refine wl_ns ?_; refine wc_seq ?_
  refine wc_cond rfl (fun h1 => ?_) (fun h1 => ?_)
  · obtain ⟨b, hb0⟩ : ∃ x, reps[k]? = some x := ⟨_, List.getElem?_eq_getElem (by omega)⟩
    obtain ⟨B, cb, hv, hbr, hbc⟩ := hel k b hb0
    have hbl := hb b (List.mem_of_getElem? hb0)
    have htk := take_getR hb0
    refine wc_skip ?_; refine we_seq ?_; refine wc_seq ?_; refine wc_block ?_; refine wc_sr ?_
    refine wl_val (opv_idxR (kk := k) (u := .slice B b.length cb) tyBB rfl rfl (hrd.below hs.bel) rfl hv) rfl ?_
    refine wl_val (opv_loadR (kk := k) (u := .slice B b.length cb) tyBB rfl (hrd.below hs.bel) hv) rfl ?_
    refine wl_as rfl rfl ?_; refine wl_ns ?_; refine wc_sr ?_; refine wl_mv rfl rfl ?_
    refine wl_call ok_plan_Read (lread_any (hbr.below hs.bel) rfl hbc (by omega)) ⟨rfl, trivial⟩ rfl ?_
    rintro _ _ ⟨E, ce, rfl, hce, hsx⟩
    replace hs := hs.call hsx
    clear hsx
    dsimp only [List.cons_append, List.nil_append] at hs
    refine wl_mv rfl rfl ?_; apply wl_val; apply opv_extract; exact rfl; exact rfl; exact rfl; apply wl_val; apply opv_extract; exact rfl; exact rfl; exact rfl
    refine ws_var (cs := rpV (readRp b).1 E ce) hs zeroRp sRp rfl (fun _ => rfl) (by first | rfl | simp [Value.oneCell']) rfl ?_; clear hs; intro g6 _ hs
    unfold rpV at hs
    refine wl_as rfl rfl ?_; refine wl_ns ?_; refine wc_region ?_; refine wl_mv rfl rfl ?_; apply wl_val; apply opv_loadX; exact rfl; exact hs.ar 0 rfl; exact sRp; exact rfl
    refine ws_bsR (cs := rpV (readRp b).1 E ce) hs tkRp ⟨_, rfl, rfl⟩ rfl (by decide) rfl ?_
    clear hs; intro B3 _ hs
    skip
    refine ws_appR (css := [rpV (readRp b).1 E ce]) hs 3 rfl rfl tkRp (by simp [hkl]) rfl (hs.rg 0 rfl).rd rfl (by simp [rpV, Value.oneCell']) (by omega) (by simp only [maxLen]; omega) rfl ?_
    clear hs; intro R3 c3 _ hs; dsimp only [setC] at hs
    replace hs := (St.kpAnd (((((hs.front 3 rfl).front 4 rfl).front 4 rfl).drop 3 rfl).drop 3 rfl)).front 1 rfl
    rw [show css.map rawEl ++ [rpV (readRp b).1 E ce].map rawEl = (css ++ [rpV (readRp b).1 E ce]).map rawEl by simp] at hs
    refine wl_as rfl rfl ?_; refine wl_nil ?_; refine we_block_norm ?_; refine we_seq ?_; refine wc_region ?_; apply wl_val; apply opv_bin; exact rfl; exact rfl; exact bin_add64 (by omega); exact rfl; refine wl_mv rfl rfl ?_; refine wl_nil ?_
    refine we_loop _ (reps.length - (k + 1)) ⟨k + 1, R3, c3, css ++ [rpV (readRp b).1 E ce], _, rfl, by omega, ?_, hs, rfl⟩ (by omega) ⟨rfl, rfl, rfl, by rw [show ((k + 1 : Nat) : Int) = (k : Int) + 1 by omega]; rfl, trivial⟩
    rw [htk, List.map_append, List.map_cons, List.map_nil]
    exact (hA.weak fun w h => h.2).snoc fun w' h => ⟨E, ce, rfl, hce, h.1⟩
  · obtain rfl : k = reps.length := by omega
    rw [List.take_length] at hA
    refine wc_exit ?_; refine we_seq_exit ?_; refine we_loop_exit ?_; refine we_block_exit ?_; refine we_seq ?_; refine wc_sr ?_; refine wl_mv rfl rfl ?_; refine wl_as rfl rfl ?_; refine wl_ns ?_; refine wc_ret ?_
    refine we_ret1 rfl rfl ⟨_, rfl, X, xc, rfl, ?_⟩
    exact St.kpOf (H1 := [_, _]) hs fun w S hS => by
      obtain ⟨S', ho⟩ := St.rgP (M := S) (w0 := w) (w := w) hS
      have := hA.rdr (el := rpEl) (Sat.kp (i := 1) hS rfl) (fun x cs h => rp_of h) ho
      rw [List.map_map] at this
      exact this
end Go.Proofs.Ytaacnknniaipmaa

/-
  Walks over the comparison of replies.
-/
namespace Go.Proofs.Ytaacnknniaipmaa
open Go.RowKit

theorem sRq : StT Try.prog 64 3 := ⟨by kernel_rfl, by kernel_rfl⟩
theorem fa_Rq0 : FieldAt Try.prog 64 0 0 := fieldAt_mk Try.underlying64 rfl rfl (by kernel_rfl)
theorem fa_Rq1 : FieldAt Try.prog 64 1 1 := fieldAt_mk Try.underlying64 rfl rfl (by kernel_rfl)
theorem fa_Rq2 : FieldAt Try.prog 64 2 2 := fieldAt_mk Try.underlying64 rfl rfl (by kernel_rfl)
theorem same06_yes {c : LcM} {D D' : Option Addr} {d d' : Nat} {w : World} (r1 : RdB w D c.data) (r2 : RdB w D' c.data) (hl : c.data.length ≤ 1099511627776) :
    CallsV Try.prog 88 #[.agg (lcV c D d).toArray, .agg (lcV c D' d').toArray] w (RetTrue w) := by
  have hs := St.init w
  have hmax : maxLen = 9223372036854775807 := rfl
  refine calls_in (N := _) Try.func88 rfl Try.ntmps88 rfl ?_; show WC _ _ _ _ _ _
  refine wc_sr ?_
  refine ws_box (cs := lcV c D d) hs rfl rfl ?_; clear hs; intro g2 _ hs
  refine ws_box (cs := lcV c D' d') hs rfl rfl ?_; clear hs; intro g3 _ hs
  unfold lcV at hs
  refine wl_as rfl rfl ?_; refine wl_ns ?_; refine wc_sr ?_; apply wl_val; apply opv_fa; exact fa_Lc0; exact rfl; exact rfl; apply wl_val; apply opv_ldX; exact rfl; exact hs.ar 1 rfl; exact g1_int; exact rfl; exact rfl; apply wl_val; apply opv_fa; exact fa_Lc0; exact rfl; exact rfl; apply wl_val; apply opv_ldX; exact rfl; exact hs.ar 0 rfl; exact g1_int; exact rfl; exact rfl; refine wl_bin rfl rfl bin_eql rfl ?_; refine wl_mv rfl rfl ?_; apply wl_take; exact rfl; exact rfl; exact rfl; refine bT ?_; (with_reducible rfl); apply wl_val; apply opv_fa; exact fa_Lc1; exact rfl; exact rfl; apply wl_take; exact rfl; exact rfl; exact rfl; refine bT ?_; (with_reducible rfl); apply wl_val; apply opv_ldX; exact rfl; exact hs.ar 1 rfl; exact g1_bool; exact rfl; exact rfl; apply wl_take; exact rfl; exact rfl; exact rfl; refine bT ?_; (with_reducible rfl); apply wl_val; apply opv_fa; exact fa_Lc1; exact rfl; exact rfl; apply wl_take; exact rfl; exact rfl; exact rfl; refine bT ?_; (with_reducible rfl); apply wl_val; apply opv_ldX; exact rfl; exact hs.ar 0 rfl; exact g1_bool; exact rfl; exact rfl; apply wl_take; exact rfl; exact rfl; exact rfl; refine bT ?_; (with_reducible rfl); apply wl_val; apply opv_bin; exact rfl; exact rfl; exact bin_eqlBb tyBool24; exact rfl; apply wl_val; apply opv_pickT; exact rfl; refine bT ?_; (with_reducible rfl); exact rfl; exact rfl; refine wl_mv rfl rfl ?_; apply wl_take; exact rfl; exact rfl; exact rfl; refine bT ?_; (with_reducible rfl); apply wl_val; apply opv_fa; exact fa_Lc2; exact rfl; exact rfl; apply wl_take; exact rfl; exact rfl; exact rfl; refine bT ?_; (with_reducible rfl); apply wl_val; apply opv_ldX; exact rfl; exact hs.ar 1 rfl; exact g1_i64; exact rfl; exact rfl; apply wl_take; exact rfl; exact rfl; exact rfl; refine bT ?_; (with_reducible rfl); apply wl_val; apply opv_fa; exact fa_Lc2; exact rfl; exact rfl; apply wl_take; exact rfl; exact rfl; exact rfl; refine bT ?_; (with_reducible rfl); apply wl_val; apply opv_ldX; exact rfl; exact hs.ar 0 rfl; exact g1_i64; exact rfl; exact rfl; apply wl_take; exact rfl; exact rfl; exact rfl; refine bT ?_; (with_reducible rfl); refine wl_bin rfl rfl bin_eql rfl ?_; apply wl_val; apply opv_pickT; exact rfl; refine bT ?_; (with_reducible rfl); exact rfl; exact rfl; refine wl_mv rfl rfl ?_; apply wl_take; exact rfl; exact rfl; exact rfl; refine bT ?_; (with_reducible rfl); apply wl_val; apply opv_fa; exact fa_Lc3; exact rfl; exact rfl; apply wl_take; exact rfl; exact rfl; exact rfl; refine bT ?_; (with_reducible rfl); apply wl_val; apply opv_ldX; exact rfl; exact hs.ar 1 rfl; exact g1_str; exact rfl; exact rfl; apply wl_take; exact rfl; exact rfl; exact rfl; refine bT ?_; (with_reducible rfl); apply wl_val; apply opv_fa; exact fa_Lc3; exact rfl; exact rfl; apply wl_take; exact rfl; exact rfl; exact rfl; refine bT ?_; (with_reducible rfl); apply wl_val; apply opv_ldX; exact rfl; exact hs.ar 0 rfl; exact g1_str; exact rfl; exact rfl; apply wl_take; exact rfl; exact rfl; exact rfl; refine bT ?_; (with_reducible rfl); refine wl_bin rfl rfl bin_eqlS rfl ?_; apply wl_val; apply opv_pickT; exact rfl; refine bT ?_; (with_reducible rfl); exact rfl; exact rfl; refine wl_mv rfl rfl ?_; apply wl_take; exact rfl; exact rfl; exact rfl; refine bT ?_; (with_reducible rfl); apply wl_val; apply opv_fa; exact fa_Lc4; exact rfl; exact rfl; apply wl_take; exact rfl; exact rfl; exact rfl; refine bT ?_; (with_reducible rfl); apply wl_val; apply opv_ldX; exact rfl; exact hs.ar 1 rfl; exact g1_by; exact rfl; exact rfl; apply wl_take; exact rfl; exact rfl; exact rfl; refine bT ?_; (with_reducible rfl); apply wl_val; apply opv_fa; exact fa_Lc4; exact rfl; exact rfl; apply wl_take; exact rfl; exact rfl; exact rfl; refine bT ?_; (with_reducible rfl); apply wl_val; apply opv_ldX; exact rfl; exact hs.ar 0 rfl; exact g1_by; exact rfl; exact rfl; apply wl_take; exact rfl; exact rfl; exact rfl; refine bT ?_; (with_reducible rfl)
  refine wl_call ok_caissonref01_Equal (equal_yes rfl (r1.below hs.bel) (r2.below hs.bel) rfl rfl (by omega)) ⟨rfl, rfl, trivial⟩ rfl ?_
  rintro _ _ ⟨rfl, hbx⟩
  replace hs := hs.below hbx
  clear hbx
  apply wl_val; apply opv_pickT; exact rfl; refine bT ?_; (with_reducible rfl); exact rfl; exact rfl; refine wl_as rfl rfl ?_; refine wl_ns ?_; refine wc_ret ?_
  exact we_ret1 rfl rfl ⟨_, rfl, rfl, hs.bel⟩
theorem samelist_yes {A B : Option Addr} {n m c d : Nat} {l : List LcM} {w : World} (hr : RdR 5 w All A (l.map lcEl)) (hs : RdR 5 w All B (l.map lcEl)) (hn : l.length = n) (hm : l.length = m) (hl : l.length ≤ 4294967296) (hb : ∀ x ∈ l, x.data.length ≤ 1099511627776) :
    CallsV Try.prog 69 #[.slice A n c, .slice B m d] w (RetTrue w) := by
  subst hn hm
  have hmax : maxLen = 9223372036854775807 := rfl
  refine calls_in (N := _) Try.func69 rfl Try.ntmps69 rfl ?_; show WC _ _ _ _ _ _
  refine wc_sr ?_; refine wl_as rfl rfl ?_; refine wl_ns ?_; refine wc_seq ?_; refine wc_sr ?_; refine wl_mv rfl rfl ?_; apply wl_val; apply opv_len; exact rfl; exact tkLc.sl; exact rfl; refine wl_mv rfl rfl ?_; apply wl_val; apply opv_len; exact rfl; exact tkLc.sl; exact rfl; refine wl_bin rfl rfl bin_neq rfl ?_; refine wl_ns ?_; apply wc_decF; exact rfl; (with_reducible exact nne); refine wc_skip ?_; refine we_seq ?_; refine wc_seq ?_; refine wc_sr ?_; refine wl_as rfl rfl ?_; refine wl_ns ?_; refine wc_block ?_
  refine wc_loop (fun L wr q => ∃ k : Nat, L = [(0, .slice A l.length c), (1, .slice B l.length d), (5, .int .i64 (k : Int))] ∧ k ≤ l.length ∧ Below w.heap.size w wr ∧ q = l.length - k)
    [(0, .slice A l.length c), (1, .slice B l.length d), (5, .int .i64 (0 : Nat))] l.length ⟨0, rfl, by omega, Below.refl _ _, rfl⟩ ⟨rfl, rfl, rfl, trivial⟩ ?_
  rintro _ w1 q ⟨k, rfl, hk, hbw, rfl⟩
  refine wc_seq ?_; refine wc_sr ?_; refine wl_mv rfl rfl ?_; refine wl_mv rfl rfl ?_; apply wl_val; apply opv_len; exact rfl; exact tkLc.sl; exact rfl; refine wl_bin rfl rfl bin_lss rfl ?_; refine wl_ns ?_
  refine wc_cond rfl (fun h1 => ?_) (fun h1 => ?_)
  · obtain ⟨x, hx⟩ : ∃ x, l[k]? = some x := ⟨_, List.getElem?_eq_getElem (by omega)⟩
    obtain ⟨b1, o1, cs, rfl, _, _, ⟨X, x1, rfl, hx1⟩, i1⟩ := RdR.at (k := 5) (by decide) hr (E := lcEl x) (i := k) (by rw [List.getElem?_map, hx]; rfl)
    obtain ⟨b2, o2, cs, rfl, _, _, ⟨Z, z1, rfl, hz1⟩, i2⟩ := RdR.at (k := 5) (by decide) hs (E := lcEl x) (i := k) (by rw [List.getElem?_map, hx]; rfl)
    have rx := (by_rd hx1).1.below hbw
    have rz := (by_rd hz1).1.below hbw
    have hel := hb x (List.mem_of_getElem? hx)
    replace i1 := i1.below hbw
    replace i2 := i2.below hbw
    have hq : ∀ w', Below w1.heap.size w1 w' → CallsV Try.prog 88 #[.agg (lcV x X x1).toArray, .agg (lcV x Z z1).toArray] w' fun v w2 => v = .bool true ∧ Below w1.heap.size w1 w2 := fun w' hw => (same06_yes (RdB.below rx hw) (RdB.below rz hw) hel).mono fun v w2 ⟨hv, h2⟩ => ⟨hv, hw.trans (h2.mono hw.size)⟩
    refine wc_skip ?_; refine we_seq ?_; refine wc_seq ?_; refine wc_block ?_; refine wc_seq ?_
    refine wc_drawB mixed (by kernel_rfl) ?_
    apply wq_val; intro _ hw_; apply opv_move; exact rfl; exact rfl; apply wq_val; intro _ hw_; apply opv_move; exact rfl; exact rfl; apply wq_val; intro _ hw_; apply opv_idxG tkLc; exact rfl; exact rfl; exact rfl; omega; exact rfl; apply wq_val; intro _ hw_; apply opv_ldG; exact rfl; exact Wi.below (by assumption) hw_; exact sLc; exact rfl; apply wq_val; intro _ hw_; apply opv_move; exact rfl; exact rfl; apply wq_val; intro _ hw_; apply opv_move; exact rfl; exact rfl; apply wq_val; intro _ hw_; apply opv_idxG tkLc; exact rfl; exact rfl; exact rfl; omega; exact rfl; apply wq_val; intro _ hw_; apply opv_ldG; exact rfl; exact Wi.below (by assumption) hw_; exact sLc; exact rfl
    refine wq_call (v := .bool true) ok_caissonref06_Same hq ⟨rfl, rfl, trivial⟩ rfl ?_
    apply wq_val; intro _ hw_; apply opv_not; exact rfl; exact rfl; refine wq_nil fun w1 hw1 => ?_
    refine we_seq ?_; apply wc_condFb; exact rfl; exact Bool.not_true; refine wc_skip ?_; refine we_block_norm ?_; refine we_seq ?_; refine wc_region ?_; refine wl_mv rfl rfl ?_; apply wl_val; apply opv_bin; exact rfl; exact rfl; exact bin_add64 (by omega); exact rfl; refine wl_as rfl rfl ?_; refine wl_nil ?_
    refine we_loop _ (l.length - (k + 1)) ⟨k + 1, rfl, by omega, hbw.trans (hw1.mono hbw.size), rfl⟩ (by omega) ⟨rfl, rfl, by simp [lookT], trivial⟩
  · refine wc_exit ?_; refine we_seq_exit ?_; refine we_loop_exit ?_; refine we_block_exit ?_; refine we_seq ?_; refine wc_sr ?_; refine wl_as rfl rfl ?_; refine wl_ns ?_; refine wc_ret ?_
    exact we_ret1 rfl rfl ⟨_, rfl, rfl, hbw⟩
def RwsB (l : List (List (List LcM))) : Prop := l.length ≤ 4294967296 ∧ ∀ x ∈ l, x.length ≤ 4294967296 ∧ ∀ y ∈ x, y.length ≤ 4294967296 ∧ ∀ c ∈ y, c.data.length ≤ 1099511627776
theorem samerows_yes {A B : Option Addr} {n m c d : Nat} {l : List (List (List LcM))} {w : World} (hr : RdR 1 w All A (l.map rsEl')) (hs : RdR 1 w All B (l.map rsEl')) (hn : l.length = n) (hm : l.length = m) (hb : RwsB l) :
    CallsV Try.prog 42 #[.slice A n c, .slice B m d] w (RetTrue w) := by
  subst hn hm
  have hmax : maxLen = 9223372036854775807 := rfl
  obtain ⟨hl, hb⟩ := hb
  refine calls_in (N := _) Try.func42 rfl Try.ntmps42 rfl ?_; show WC _ _ _ _ _ _
  refine wc_sr ?_; refine wl_as rfl rfl ?_; refine wl_ns ?_; refine wc_seq ?_; refine wc_sr ?_; refine wl_mv rfl rfl ?_; apply wl_val; apply opv_len; exact rfl; exact tkRs.sl; exact rfl; refine wl_mv rfl rfl ?_; apply wl_val; apply opv_len; exact rfl; exact tkRs.sl; exact rfl; refine wl_bin rfl rfl bin_neq rfl ?_; refine wl_ns ?_; apply wc_decF; exact rfl; (with_reducible exact nne); refine wc_skip ?_; refine we_seq ?_; refine wc_seq ?_; refine wc_sr ?_; refine wl_as rfl rfl ?_; refine wl_ns ?_; refine wc_block ?_
  refine wc_loop (fun L wr q => ∃ k : Nat, L = [(0, .slice A l.length c), (1, .slice B l.length d), (5, .int .i64 (k : Int))] ∧ k ≤ l.length ∧ Below w.heap.size w wr ∧ q = l.length - k)
    [(0, .slice A l.length c), (1, .slice B l.length d), (5, .int .i64 (0 : Nat))] l.length ⟨0, rfl, by omega, Below.refl _ _, rfl⟩ ⟨rfl, rfl, rfl, trivial⟩ ?_
  rintro _ w1 q ⟨k, rfl, hk, hbw, rfl⟩
  refine wc_seq ?_; refine wc_sr ?_; refine wl_mv rfl rfl ?_; refine wl_mv rfl rfl ?_; apply wl_val; apply opv_len; exact rfl; exact tkRs.sl; exact rfl; refine wl_bin rfl rfl bin_lss rfl ?_; refine wl_ns ?_
  refine wc_cond rfl (fun h1 => ?_) (fun h1 => ?_)
  · obtain ⟨x, hx⟩ : ∃ x, l[k]? = some x := ⟨_, List.getElem?_eq_getElem (by omega)⟩
    obtain ⟨b1, o1, cs, hA, _, _, ⟨X, x1, rfl, _, hx1, _⟩, i1⟩ := RdR.at (k := 1) (by decide) hr (E := rsEl' x) (i := k) (by rw [List.getElem?_map, hx]; rfl)
    obtain ⟨b2, o2, cs, hB, _, _, ⟨Z, z1, rfl, _, hz1, _⟩, i2⟩ := RdR.at (k := 1) (by decide) hs (E := rsEl' x) (i := k) (by rw [List.getElem?_map, hx]; rfl)
    rw [List.length_map] at i1 i2
    obtain ⟨hxl, hby⟩ := hb x (List.mem_of_getElem? hx)
    subst hA hB
    have j1 := i1
    have j2 := i2
    replace i1 := i1.below hbw
    replace i2 := i2.below hbw
    refine wc_skip ?_; refine we_seq ?_; refine wc_seq ?_; refine wc_block ?_; refine wc_seq ?_; refine wc_seq ?_
    refine wc_drawB mixed (by kernel_rfl) ?_
    apply wq_val; intro _ hw_; apply opv_move; exact rfl; exact rfl; apply wq_val; intro _ hw_; apply opv_move; exact rfl; exact rfl; apply wq_val; intro _ hw_; apply opv_idxG tkRs; exact rfl; exact rfl; exact rfl; omega; exact rfl; apply wq_val; intro _ hw_; apply opv_ldW0; exact rfl; exact Wi.below (by assumption) hw_; exact g1_rws; exact rfl; exact rfl; apply wq_val; intro _ hw_; apply opv_len; exact rfl; exact tkRw.sl; exact rfl; apply wq_val; intro _ hw_; apply opv_move; exact rfl; exact rfl; apply wq_val; intro _ hw_; apply opv_move; exact rfl; exact rfl; apply wq_val; intro _ hw_; apply opv_idxG tkRs; exact rfl; exact rfl; exact rfl; omega; exact rfl; apply wq_val; intro _ hw_; apply opv_ldW0; exact rfl; exact Wi.below (by assumption) hw_; exact g1_rws; exact rfl; exact rfl; apply wq_val; intro _ hw_; apply opv_len; exact rfl; exact tkRw.sl; exact rfl; apply wq_val; intro _ hw_; apply opv_bin; exact rfl; exact rfl; exact bin_neq; exact rfl; refine wq_nil fun w1 hw1 => ?_
    clear i1 i2
    refine we_seq ?_; apply wc_decF; exact rfl; (with_reducible exact nne); refine wc_skip ?_; refine we_seq ?_; refine wc_sr ?_; refine wl_as rfl rfl ?_; refine wl_ns ?_; refine wc_block ?_
    refine wc_loop (fun L wr q => ∃ j : Nat, L = [(0, .slice (some ⟨b1, o1, none⟩) l.length c), (1, .slice (some ⟨b2, o2, none⟩) l.length d), (5, .int .i64 (k : Int)), (6, .int .i64 (j : Int))] ∧ j ≤ x.length ∧ Below w.heap.size w wr ∧ q = x.length - j)
      [(0, .slice (some ⟨b1, o1, none⟩) l.length c), (1, .slice (some ⟨b2, o2, none⟩) l.length d), (5, .int .i64 (k : Int)), (6, .int .i64 (0 : Nat))] x.length ⟨0, rfl, by omega, hbw.trans (hw1.mono hbw.size), rfl⟩ ⟨rfl, rfl, rfl, rfl, trivial⟩ ?_
    clear hw1 hbw
    rintro _ w3 q ⟨j, rfl, hj, hbw, rfl⟩
    have i1 := j1.below hbw
    have i2 := j2.below hbw
    refine wc_seq ?_; refine wc_sr ?_; refine wl_mv rfl rfl ?_; refine wl_mv rfl rfl ?_; refine wl_mv rfl rfl ?_; apply wl_val; apply opv_idxG tkRs; exact rfl; exact rfl; exact rfl; omega; exact rfl; apply wl_val; apply opv_ldW0; exact rfl; assumption; exact g1_rws; exact rfl; exact rfl; apply wl_val; apply opv_len; exact rfl; exact tkRw.sl; exact rfl; refine wl_bin rfl rfl bin_lss rfl ?_; refine wl_ns ?_
    refine wc_cond rfl (fun h2 => ?_) (fun h2 => ?_)
    · obtain ⟨y, hy⟩ : ∃ y, x[j]? = some y := ⟨_, List.getElem?_eq_getElem (by omega)⟩
      obtain ⟨b3, o3, cs, rfl, _, _, ⟨U, u1, rfl, _, hu1, _⟩, i3⟩ := RdR.at (k := 1) (by decide) hx1 (E := rwEl y) (i := j) (by rw [List.getElem?_map, hy]; rfl)
      obtain ⟨b4, o4, cs, rfl, _, _, ⟨V, v1, rfl, _, hv1, _⟩, i4⟩ := RdR.at (k := 1) (by decide) hz1 (E := rwEl y) (i := j) (by rw [List.getElem?_map, hy]; rfl)
      rw [List.length_map] at i3 i4
      obtain ⟨hyl, hbc⟩ := hby y (List.mem_of_getElem? hy)
      replace i3 := i3.below hbw
      replace i4 := i4.below hbw
      have ru := hu1.below hbw
      have rv := hv1.below hbw
      have hq : ∀ w', Below w3.heap.size w3 w' → CallsV Try.prog 69 #[.slice U y.length u1, .slice V y.length v1] w' fun v w2 => v = .bool true ∧ Below w3.heap.size w3 w2 := fun w' hw => (samelist_yes (RdR.below ru hw) (RdR.below rv hw) rfl rfl hyl hbc).mono fun v w2 ⟨hv, h2⟩ => ⟨hv, hw.trans (h2.mono hw.size)⟩
      refine wc_skip ?_; refine we_seq ?_; refine wc_seq ?_; refine wc_block ?_; refine wc_seq ?_
      refine wc_drawB mixed (by kernel_rfl) ?_
      apply wq_val; intro _ hw_; apply opv_move; exact rfl; exact rfl; apply wq_val; intro _ hw_; apply opv_move; exact rfl; exact rfl; apply wq_val; intro _ hw_; apply opv_idxG tkRs; exact rfl; exact rfl; exact rfl; omega; exact rfl; apply wq_val; intro _ hw_; apply opv_ldW0; exact rfl; exact Wi.below (by assumption) hw_; exact g1_rws; exact rfl; exact rfl; apply wq_val; intro _ hw_; apply opv_move; exact rfl; exact rfl; apply wq_val; intro _ hw_; apply opv_idxG tkRw; exact rfl; exact rfl; exact rfl; omega; exact rfl; apply wq_val; intro _ hw_; apply opv_ldW0; exact rfl; exact Wi.below (by assumption) hw_; exact g1_lcs; exact rfl; exact rfl; apply wq_val; intro _ hw_; apply opv_move; exact rfl; exact rfl; apply wq_val; intro _ hw_; apply opv_move; exact rfl; exact rfl; apply wq_val; intro _ hw_; apply opv_idxG tkRs; exact rfl; exact rfl; exact rfl; omega; exact rfl; apply wq_val; intro _ hw_; apply opv_ldW0; exact rfl; exact Wi.below (by assumption) hw_; exact g1_rws; exact rfl; exact rfl; apply wq_val; intro _ hw_; apply opv_move; exact rfl; exact rfl; apply wq_val; intro _ hw_; apply opv_idxG tkRw; exact rfl; exact rfl; exact rfl; omega; exact rfl; apply wq_val; intro _ hw_; apply opv_ldW0; exact rfl; exact Wi.below (by assumption) hw_; exact g1_lcs; exact rfl; exact rfl
      refine wq_call (v := .bool true) ok_caissonref06_SameList hq ⟨rfl, rfl, trivial⟩ rfl ?_
      apply wq_val; intro _ hw_; apply opv_not; exact rfl; exact rfl; refine wq_nil fun w1 hw1 => ?_
      refine we_seq ?_; apply wc_condFb; exact rfl; exact Bool.not_true; refine wc_skip ?_; refine we_block_norm ?_; refine we_seq ?_; refine wc_region ?_; refine wl_mv rfl rfl ?_; apply wl_val; apply opv_bin; exact rfl; exact rfl; exact bin_add64 (by omega); exact rfl; refine wl_as rfl rfl ?_; refine wl_nil ?_
      refine we_loop _ (x.length - (j + 1)) ⟨j + 1, rfl, by omega, hbw.trans (hw1.mono hbw.size), rfl⟩ (by omega) ⟨rfl, rfl, rfl, by simp [lookT], trivial⟩
    · refine wc_exit ?_; refine we_seq_exit ?_; refine we_loop_exit ?_; refine we_block_exit ?_; refine we_block_norm ?_; refine we_seq ?_; refine wc_region ?_; refine wl_mv rfl rfl ?_; apply wl_val; apply opv_bin; exact rfl; exact rfl; exact bin_add64 (by omega); exact rfl; refine wl_as rfl rfl ?_; refine wl_nil ?_
      refine we_loop _ (l.length - (k + 1)) ⟨k + 1, rfl, by omega, hbw, rfl⟩ (by omega) ⟨rfl, rfl, by simp [lookT], trivial⟩
  · refine wc_exit ?_; refine we_seq_exit ?_; refine we_loop_exit ?_; refine we_block_exit ?_; refine we_seq ?_; refine wc_sr ?_; refine wl_as rfl rfl ?_; refine wl_ns ?_; refine wc_ret ?_
    exact we_ret1 rfl rfl ⟨_, rfl, rfl, hbw⟩
theorem replyis_yes {r : RpM} {E E' : Option Addr} {e e' : Nat} {w : World} (h1 : RdR 1 w All E (r.rows.map rsEl')) (h2 : RdR 1 w All E' (r.rows.map rsEl')) (hb : RwsB r.rows) :
    CallsV Try.prog 20 #[.agg (rpV r E e).toArray, .agg (rpV r E' e').toArray] w (RetTrue w) := by
  have hs := St.init w
  refine calls_in (N := _) Try.func20 rfl Try.ntmps20 rfl ?_; show WC _ _ _ _ _ _
  refine wc_sr ?_
  refine ws_box (cs := rpV r E e) hs rfl rfl ?_; clear hs; intro g2 _ hs
  refine ws_box (cs := rpV r E' e') hs rfl rfl ?_; clear hs; intro g3 _ hs
  unfold rpV at hs
  refine wl_as rfl rfl ?_; refine wl_ns ?_; refine wc_sr ?_; apply wl_val; apply opv_fa; exact fa_Rp0; exact rfl; exact rfl; apply wl_val; apply opv_ldX; exact rfl; exact hs.ar 1 rfl; exact g1_err; exact rfl; exact rfl; apply wl_val; apply opv_fa; exact fa_Rq0; exact rfl; exact rfl; apply wl_val; apply opv_ldX; exact rfl; exact hs.ar 0 rfl; exact g1_int; exact rfl; exact rfl; refine wl_bin rfl rfl bin_eql rfl ?_; refine wl_mv rfl rfl ?_; apply wl_take; exact rfl; exact rfl; exact rfl; refine bT ?_; (with_reducible rfl); apply wl_val; apply opv_fa; exact fa_Rp1; exact rfl; exact rfl; apply wl_take; exact rfl; exact rfl; exact rfl; refine bT ?_; (with_reducible rfl); apply wl_val; apply opv_ldX; exact rfl; exact hs.ar 1 rfl; exact g1_int; exact rfl; exact rfl; apply wl_take; exact rfl; exact rfl; exact rfl; refine bT ?_; (with_reducible rfl); apply wl_val; apply opv_fa; exact fa_Rq1; exact rfl; exact rfl; apply wl_take; exact rfl; exact rfl; exact rfl; refine bT ?_; (with_reducible rfl); apply wl_val; apply opv_ldX; exact rfl; exact hs.ar 0 rfl; exact g1_int; exact rfl; exact rfl; apply wl_take; exact rfl; exact rfl; exact rfl; refine bT ?_; (with_reducible rfl); refine wl_bin rfl rfl bin_eql rfl ?_; apply wl_val; apply opv_pickT; exact rfl; refine bT ?_; (with_reducible rfl); exact rfl; exact rfl; refine wl_mv rfl rfl ?_; apply wl_take; exact rfl; exact rfl; exact rfl; refine bT ?_; (with_reducible rfl); apply wl_val; apply opv_fa; exact fa_Rp2; exact rfl; exact rfl; apply wl_take; exact rfl; exact rfl; exact rfl; refine bT ?_; (with_reducible rfl); apply wl_val; apply opv_ldX; exact rfl; exact hs.ar 1 rfl; exact g1_rss; exact rfl; exact rfl; apply wl_take; exact rfl; exact rfl; exact rfl; refine bT ?_; (with_reducible rfl); apply wl_val; apply opv_fa; exact fa_Rq2; exact rfl; exact rfl; apply wl_take; exact rfl; exact rfl; exact rfl; refine bT ?_; (with_reducible rfl); apply wl_val; apply opv_ldX; exact rfl; exact hs.ar 0 rfl; exact g1_rss; exact rfl; exact rfl; apply wl_take; exact rfl; exact rfl; exact rfl; refine bT ?_; (with_reducible rfl)
  refine wl_call ok_caissonref22_SameRows (samerows_yes (h1.below hs.bel) (h2.below hs.bel) rfl rfl hb) ⟨rfl, rfl, trivial⟩ rfl ?_
  rintro _ _ ⟨rfl, hbx⟩
  replace hs := hs.below hbx
  clear hbx
  apply wl_val; apply opv_pickT; exact rfl; refine bT ?_; (with_reducible rfl); exact rfl; exact rfl; refine wl_as rfl rfl ?_; refine wl_ns ?_; refine wc_ret ?_
  exact we_ret1 rfl rfl ⟨_, rfl, rfl, hs.bel⟩
end Go.Proofs.Ytaacnknniaipmaa

/-
  Plain law: how great a reply out of bytes is.
-/
namespace Go.Proofs.Ytaacnknniaipmaa
open Go.RowKit
def RB (m : Nat) (r : Rd1) : Prop := ∀ p ∈ r.1, p.length ≤ m
theorem RB.parts {m : Nat} {b : By} (h : b.length ≤ m) : RB m (parts b) := fun p hp => Nat.le_trans (parts_le hp) h
theorem allF_all {α : Type} {P : α → Prop} {one : Rd1 → α × Rd1} {m : Nat} (h1 : ∀ r, RB m r → P (one r).1) (h2 : ∀ r, RB m r → RB m (one r).2) : ∀ f r, RB m r → ∀ x ∈ (allF one f r).1, P x
  | 0, r, _, x, hx => by simp [allF] at hx
  | f + 1, r, hr, x, hx => by
    unfold allF at hx
    split at hx
    · rcases List.mem_cons.1 hx with rfl | hx
      · exact h1 r hr
      · exact allF_all h1 h2 f _ (h2 r hr) x hx
    · simp at hx
theorem allF_len {α : Type} {one : Rd1 → α × Rd1} : ∀ f r, (allF one f r).1.length ≤ f
  | 0, r => by simp [allF]
  | f + 1, r => by
    unfold allF
    split
    · have := allF_len (one := one) f (one r).2
      simp only [List.length_cons]; omega
    · simp
theorem within_all {α : Type} {P : α → Prop} {z : α} {take : Rd1 → α × Rd1} {m : Nat} (hz : P z) (h : ∀ b : By, b.length ≤ m → P (take (parts b)).1) (r : Rd1) (hr : RB m r) : P (withinR z take r).1 := by
  unfold withinR
  split
  · exact h _ (next_len hr)
  · exact hz
def CeB (m : Nat) (c : LcM) : Prop := c.data.length ≤ m
def RoB (m : Nat) (l : List LcM) : Prop := l.length ≤ m ∧ ∀ c ∈ l, CeB m c
def RsB (m : Nat) (l : List (List LcM)) : Prop := l.length ≤ m ∧ ∀ c ∈ l, RoB m c
theorem parts_len (b : By) : (parts b).1.length ≤ b.length := by have := parts_sizeX b; omega
theorem cellT_B {m : Nat} (r : Rd1) (hr : RB m r) : CeB m (cellT r).1 := by
  unfold cellT CeB
  exact next_len (next_rest (numR_rest (trR_rest (numR_rest hr))))
theorem cellP_B {m : Nat} (r : Rd1) (hr : RB m r) : CeB m (cellP r).1 := within_all (P := CeB m) (z := zLc) (take := cellT) (Nat.zero_le _) (fun b hb => cellT_B _ (RB.parts hb)) r hr
theorem cellsP_B {m : Nat} (r : Rd1) (hr : RB m r) : RoB m (cellsP r).1 :=
  within_all (P := RoB m) (z := []) (take := allT cellP) ⟨Nat.zero_le _, by simp⟩ (fun b hb => ⟨Nat.le_trans (allF_len _ _) (Nat.le_trans (parts_len b) hb), allF_all (P := CeB m) cellP_B (fun r h => within_rest h) _ _ (RB.parts hb)⟩) r hr
theorem rowsP_B {m : Nat} (r : Rd1) (hr : RB m r) : RsB m (rowsP r).1 :=
  within_all (P := RsB m) (z := []) (take := allT cellsP) ⟨Nat.zero_le _, by simp⟩ (fun b hb => ⟨Nat.le_trans (allF_len _ _) (Nat.le_trans (parts_len b) hb), allF_all (P := RoB m) cellsP_B (fun r h => within_rest h) _ _ (RB.parts hb)⟩) r hr
theorem readRp_B {m : Nat} {b : By} (hb : b.length ≤ m) : (readRp b).1.rows.length ≤ m ∧ ∀ x ∈ (readRp b).1.rows, RsB m x := by
  unfold readRp
  split
  · unfold rplT
    refine ⟨?_, allF_all (P := RsB m) rowsP_B (fun r h => within_rest h) _ _ (numR_rest (numR_rest (RB.parts hb)))⟩
    refine Nat.le_trans (allF_len _ _) (Nat.le_trans (Nat.le_trans numR_le numR_le) (Nat.le_trans (parts_len b) hb))
  · exact ⟨Nat.zero_le _, by simp [zRp]⟩
theorem readRp_rws {b : By} (hb : b.length ≤ 16777216) : RwsB (readRp b).1.rows := by
  obtain ⟨h1, h2⟩ := readRp_B hb
  exact ⟨by omega, fun x hx => ⟨by have := (h2 x hx).1; omega, fun y hy => ⟨by have := ((h2 x hx).2 y hy).1; omega, fun c hc => by have : c.data.length ≤ 16777216 := ((h2 x hx).2 y hy).2 c hc; omega⟩⟩⟩
end Go.Proofs.Ytaacnknniaipmaa
