/-
  The texts of this proof, joined: Xh, Xi, Xj, Xk, Xl, Xm, Xn, Xo.
-/
import Derived.Test.YtaacnknniaipmaaCliM3

/-
  The walk over putResult of session.
-/
namespace Go.Proofs.Ytaacnknniaipmaa
open Go.RowKit

theorem g1_err : Cell1 Try.prog 30 := ⟨by kernel_rfl, by rw [Try.underlying30]⟩
def prV (p : PairM) (A : Option Addr) (a : Nat) (B : Option Addr) (b : Nat) : List Value := [.slice A p.1.length a, .slice B p.2.length b]
def prEl (p : PairM) : El where
  P w S cs := ∃ (A : Option Addr) (a : Nat) (B : Option Addr) (b : Nat), cs = prV p A a B b ∧ (byEl p.1).P w S [.slice A p.1.length a] ∧ (byEl p.2).P w S [.slice B p.2.length b]
  move := by rintro w w' S S' cs ⟨A, a, B, b, h, h1, h2⟩ hz hm; exact ⟨A, a, B, b, h, El.move _ h1 hz hm, El.move _ h2 hz hm⟩
def wrV (x : WrM) (A : Option Addr) (a : Nat) (B : Option Addr) (b : Nat) : List Value := [.slice A x.key.length a, .slice B x.val.length b, .bool x.gone]
def wrEl (x : WrM) : El where
  P w S cs := ∃ (A : Option Addr) (a : Nat) (B : Option Addr) (b : Nat), cs = wrV x A a B b ∧ (byEl x.key).P w S [.slice A x.key.length a] ∧ (byEl x.val).P w S [.slice B x.val.length b]
  move := by rintro w w' S S' cs ⟨A, a, B, b, h, h1, h2⟩ hz hm; exact ⟨A, a, B, b, h, El.move _ h1 hz hm, El.move _ h2 hz hm⟩
def reV (r : ResM) (P : Option Addr) (cp : Nat) (W : Option Addr) (cw : Nat) (D : Option Addr) (cd : Nat) : List Value := [.int .i64 r.err, .int .i64 r.status, .int .u64 (r.ts : Int), .slice P r.pairs.length cp, .bool r.commit, .int .u64 (r.rts : Int), .slice W r.writes.length cw, .slice D r.reply.length cd]
theorem by_rd {w : World} {S : BS} {xs : By} {A : Option Addr} {n c : Nat} (h : (byEl xs).P w S [.slice A n c]) : RdB w A xs ∧ xs.length ≤ c := by
  obtain ⟨A', c', h1, h2, h3, _⟩ := h
  simp only [List.cons.injEq, Value.slice.injEq, and_true] at h1
  obtain ⟨rfl, _, rfl⟩ := h1
  exact ⟨h3, h2⟩
end Go.Proofs.Ytaacnknniaipmaa

/-
  The walk over Packet.Bytes.
-/
namespace Go.Proofs.Ytaacnknniaipmaa
open Go.RowKit

theorem sPk : StT Try.prog 42 29 := ⟨by kernel_rfl, by kernel_rfl⟩
theorem fa_Pk0 : FieldAt Try.prog 42 0 0 := fieldAt_mk Try.underlying42 rfl rfl (by kernel_rfl)
theorem fa_Pk2 : FieldAt Try.prog 42 2 2 := fieldAt_mk Try.underlying42 rfl rfl (by kernel_rfl)
theorem fa_Pk7 : FieldAt Try.prog 42 7 7 := fieldAt_mk Try.underlying42 rfl rfl (by kernel_rfl)
theorem fa_Pk8 : FieldAt Try.prog 42 8 9 := fieldAt_mk Try.underlying42 rfl rfl (by kernel_rfl)
theorem fa_Pk11 : FieldAt Try.prog 42 11 28 := fieldAt_mk Try.underlying42 rfl rfl (by kernel_rfl)
theorem fa_Tx0 : FieldAt Try.prog 29 0 0 := fieldAt_mk Try.underlying29 rfl rfl (by kernel_rfl)
theorem fa_Tx1 : FieldAt Try.prog 29 1 1 := fieldAt_mk Try.underlying29 rfl rfl (by kernel_rfl)

/-- A packet as values, its message and its result told apart. -/
def pkV (p : PkM) (mv rv : List Value) (D : Option Addr) (cd : Nat) : List Value := [.int .i64 p.kind, .int .i64 p.fr, .int .i64 p.to, .int .i64 p.shard, .int .i64 p.round, .int .i64 p.cmd, .int .i64 p.lead, .int .u64 (p.tx.1 : Int), .int .u64 (p.tx.2 : Int), .int .i64 p.code] ++ (mv ++ (rv ++ [.slice D p.data.length cd]))
theorem ar_wiP {w : World} {g : Nat} {t : TypeId} {cs : List Value} (h : Ar w g t cs) (o : Nat) (ds : List Value) (hd : ∀ j u, ds[j]? = some u → cs[o + j]? = some u) : Wi w g o ds := ⟨h.lt, fun j u hu => (h.cell (o + j)).trans (hd j u hu)⟩
theorem pk_mid {A B C : List Value} {j : Nat} {u : Value} (h : B[j]? = some u) : (A ++ (B ++ C))[A.length + j]? = some u := by
  rw [List.getElem?_append_right (by omega), Nat.add_sub_cancel_left, List.getElem?_append_left (List.getElem?_eq_some_iff.1 h).1]; exact h
end Go.Proofs.Ytaacnknniaipmaa

/-
  What is known of memory that stays as it is, as a piece; the parts of a frame as a reader holds them; walks over open, next, more and truth of the reader.
-/
namespace Go.Proofs.Ytaacnknniaipmaa
open Go.RowKit

/-- A fact that the piece's own blocks support. -/
def kp (K : World → Prop) : Ck := ⟨fun w S => K w ∧ ∀ w', w.heap.size ≤ w'.heap.size → (∀ b, b < w.heap.size → S b → w'.heap[b]? = w.heap[b]?) → K w',
  fun {w w' S S'} ⟨h1, h2⟩ hz hm => ⟨h2 w' hz fun b hb hs => (hm b hb hs).2, fun w'' hz2 hm2 => h2 w'' (Nat.le_trans hz hz2) fun b hb hs => (hm2 b (Nat.lt_of_lt_of_le hb hz) (hm b hb hs).1).trans (hm b hb hs).2⟩⟩
section
variable {M : BS} {w0 w w' : World} {H H1 : List Cd} {K K' : World → Prop}
theorem Sat.kp {S : BS} {i : Nat} (h : Sat w H S) (hi : nthC H i = some (.ck (kp K))) : K w := by
  obtain ⟨T, _, hc, _⟩ := h.front hi
  exact hc.1
theorem St.kp (h : St M w0 w H) (i : Nat) (hi : nthC H i = some (.ck (kp K))) : K w := Sat.kp h.2 hi
theorem St.kpOf (h : St M w0 w (H1 ++ H)) (hK : ∀ w S, Sat w H1 S → K w) : St M w0 w (.ck (Go.Proofs.Ytaacnknniaipmaa.kp K) :: H) :=
  h.pack (.ck (Go.Proofs.Ytaacnknniaipmaa.kp K)) fun w S hs => ⟨hK w S hs, fun w' hz hm => hK w' S (hs.move hz fun b hb k => ⟨k, hm b hb k⟩)⟩
theorem St.kpMono (h : St M w0 w (.ck (Go.Proofs.Ytaacnknniaipmaa.kp K) :: H)) (hK : ∀ w, K w → K' w) : St M w0 w (.ck (Go.Proofs.Ytaacnknniaipmaa.kp K') :: H) :=
  St.kpOf (H1 := [_]) h fun w S hs => hK w (Sat.kp (i := 0) hs rfl)
theorem St.kpAnd (h : St M w0 w (.ck (Go.Proofs.Ytaacnknniaipmaa.kp K) :: .ck (Go.Proofs.Ytaacnknniaipmaa.kp K') :: H)) : St M w0 w (.ck (Go.Proofs.Ytaacnknniaipmaa.kp fun w => K w ∧ K' w) :: H) :=
  St.kpOf (H1 := [_, _]) h fun w S hs => ⟨Sat.kp (i := 0) hs rfl, Sat.kp (i := 1) hs rfl⟩
theorem St.kpNil (h : St M w0 w H) (hK : ∀ w, K w) : St M w0 w (.ck (Go.Proofs.Ytaacnknniaipmaa.kp K) :: H) := St.kpOf (H1 := []) h fun w _ _ => hK w
theorem St.kpNew (h : St M w0 w H) (hb : Below w.heap.size w w') (h1 : K w') (h2 : ∀ w'', w'.heap.size ≤ w''.heap.size → (∀ b, w.heap.size ≤ b → b < w'.heap.size → w''.heap[b]? = w'.heap[b]?) → K w'') : St M w0 w' (.ck (Go.Proofs.Ytaacnknniaipmaa.kp K) :: H) :=
  h.new (T := fun b => w.heap.size ≤ b) (c := .ck (Go.Proofs.Ytaacnknniaipmaa.kp K)) hb ⟨h1, fun w'' hz hm => h2 w'' hz fun b hl hb => hm b hb hl⟩ fun _ _ k => k
end
/-- The row reads as these byte lists, each of which lies at the head of a block of its own, from block base on. -/
def RdW (w : World) (base : Nat) (A : Option Addr) (vs : List Value) (rows : List By) : Prop :=
  Rd w A rows.length vs ∧ (∀ a, A = some a → 0 < rows.length → base ≤ a.block ∧ a.block < w.heap.size) ∧ ∀ (i : Nat) (r : By), rows[i]? = some r → ∃ (A' : Option Addr) (c' : Nat), vs[i]? = some (Value.slice A' r.length c') ∧ OwB w base A' c' r
section
variable {w w' : World} {base c : Nat} {A : Option Addr} {vs : List Value} {rows : List By} {r : By}
theorem Ow.capL {e : TypeId} {n : Nat} {xs : List Value} (h : Ow w base e A n c xs) : n ≤ c := by
  rcases h.2 with ⟨hv, hn⟩ | ⟨g, cap, cur, hv, _, _, hn, _⟩
  · omega
  · injection hv with _ _ hc
    omega
theorem OwB.keep (h : OwB w base A c r) (hm : ∀ b, base ≤ b → b < w.heap.size → w'.heap[b]? = w.heap[b]?) : OwB w' base A c r := Ow.moveS h fun a ha => hm _ (Ow.lt h a ha).1 (Ow.lt h a ha).2
theorem RdW.keep (h : RdW w base A vs rows) (hz : w.heap.size ≤ w'.heap.size) (hm : ∀ b, base ≤ b → b < w.heap.size → w'.heap[b]? = w.heap[b]?) : RdW w' base A vs rows := by
  obtain ⟨h1, h2, h3⟩ := h
  refine ⟨⟨h1.1, fun hn => ?_⟩, fun a ha hn => ⟨(h2 a ha hn).1, Nat.lt_of_lt_of_le (h2 a ha hn).2 hz⟩, fun i r hi => ?_⟩
  · obtain ⟨b, o, hA, hb, hc⟩ := h1.2 hn
    exact ⟨b, o, hA, by omega, fun j u hu => (World.cell?_of_block (a := ⟨b, o + j, none⟩) (hm b (h2 _ hA hn).1 hb)).trans (hc j u hu)⟩
  · obtain ⟨A', c', k1, k2⟩ := h3 i r hi
    exact ⟨A', c', k1, k2.keep hm⟩
theorem RdW.of (h : OwBB w base A c rows) : ∃ vs, RdW w base A vs rows := by
  obtain ⟨vs, ho, hr, _⟩ := h
  exact ⟨vs, ho.rd, fun a ha _ => Ow.lt ho a ha, fun i r hi => by obtain ⟨A', c', h1, h2, _⟩ := hr i r hi; exact ⟨A', c', h1, h2⟩⟩
theorem RdW.nil (w : World) (base : Nat) (A : Option Addr) : RdW w base A [] [] := ⟨Rd.nil _ _, fun _ _ h => absurd h (by simp), fun i r h => by simp at h⟩
theorem RdW.head (h : RdW w base A vs (r :: rows)) : ∃ (B : Option Addr) (cb : Nat), vs[0]? = some (.slice B r.length cb) := by
  obtain ⟨B, cb, k1, k2⟩ := h.2.2 0 r rfl
  exact ⟨B, cb, k1⟩
theorem RdW.own (h : RdW w base A vs (r :: rows)) {B : Option Addr} {n cb : Nat} (hv : vs[0]? = some (.slice B n cb)) : OwB w base B cb r := by
  obtain ⟨B', cb', k1, k2⟩ := h.2.2 0 r rfl
  rw [hv] at k1
  cases k1
  exact k2
theorem RdW.tail (h : RdW w base A vs (r :: rows)) (hc : rows.length + 1 ≤ c) : RdW w base (cutA A c 1) (vs.drop 1) rows := by
  obtain ⟨h1, h2, h3⟩ := h
  have h4 := Rd.cut (l := 1) (h := rows.length + 1) (c := c) h1 (by omega) (Nat.le_refl _) hc
  rw [List.take_of_length_le (by have := h1.1; simp at this; omega), Nat.add_sub_cancel] at h4
  refine ⟨h4, fun a ha hn => ?_, fun i x hi => ?_⟩
  · obtain ⟨b, o, rfl, _, _⟩ := h1.2 (by simp)
    have hne : ¬ c = 1 := by omega
    simp [cutA, hne] at ha
    have h5 := h2 _ rfl (by simp)
    rw [← ha]
    exact h5
  · obtain ⟨B, cb, k1, k2⟩ := h3 (i + 1) x (by simpa using hi)
    exact ⟨B, cb, by rw [List.getElem?_drop, Nat.add_comm]; exact k1, k2⟩
theorem RdW.low (h : RdW w base A vs rows) {base' : Nat} (hb : base' ≤ base) : RdW w base' A vs rows := ⟨h.1, fun a ha hn => ⟨Nat.le_trans hb (h.2.1 a ha hn).1, (h.2.1 a ha hn).2⟩, fun i r hi => by obtain ⟨B, cb, k1, k2⟩ := h.2.2 i r hi; exact ⟨B, cb, k1, Ow.mono k2 hb⟩⟩
end
/-- What is known of the parts that a reader holds, in all worlds of a class. -/
def RdK (K : World → Prop) (base : Nat) (A : Option Addr) (c : Nat) (rows : List By) : Prop := rows.length ≤ c ∧ ∃ vs, ∀ w, K w → RdW w base A vs rows
theorem g1_bbs : Cell1 Try.prog 95 := ⟨by kernel_rfl, by rw [Try.underlying95]⟩
end Go.Proofs.Ytaacnknniaipmaa

/-
  Walks over words and ints of the reader.
-/
namespace Go.Proofs.Ytaacnknniaipmaa
open Go.RowKit

theorem getU_rngW (p : By) (q : Int) (hl : p.length ≤ 1099511627776) : -9223372036854775808 ≤ (getU p q).2.1 ∧ (getU p q).2.1 ≤ 9223372036854775807 := by
  by_cases h : (getU p q).2.2 = 0
  · obtain ⟨_, k, _, h2, _, h3, _⟩ := getU_inv (l := p) (p := q) (v := (getU p q).1) (x := (getU p q).2.1) (by rw [← h])
    rw [h2]; omega
  · rw [(getU_err h).2]; omega
end Go.Proofs.Ytaacnknniaipmaa

/-
  The walk over within: a frame in a frame, taken by a function that is a value.
-/
namespace Go.Proofs.Ytaacnknniaipmaa
open Go.RowKit

section
variable {P : Program} {N : Nat} {ops : Array Oper} {Q : Exit → Act → World → Prop} {rest : List Oper} {L : FL} {w : World} {t ty : TypeId}
theorem opv_mkFn {f : FuncId} {xs : List Operand} {us : List Value} (hx : Looks L xs us) : OpV P (.makeFunc (.func f) #[] xs.toArray) ty L w (.func (.func f) #[] us.toArray) w := fun ρ o hρ ho _ => by
  have hm := Looks.map hρ hx
  unfold execOp
  simp only [ho, Instr.makeFunc]
  have e : xs.toArray.map ρ = us.toArray := by simp [hm]
  rw [e]
  simp
theorem exec_callFn {ρ : Operand → Value} {o : Oper} {x : Operand} {f : FuncId} {fs us : Array Value} {xs : List Operand} {vs : List Value} {ats : Array TypeId} (ho : o.op = .call { callee := .value x, args := xs.toArray, argTypes := ats })
    (hc : CallOk P f) (hρ : ∀ x u, look L x = some u → ρ x = u) (hf : look L x = some (.func (.func f) fs us)) (hx : Looks L xs vs) : (execOp ρ o).run P w = .ok (.enter f (fs ++ vs.toArray ++ us)) w := by
  have hf := hρ _ _ hf
  have hm := Looks.map hρ hx
  unfold execOp
  simp only [ho, resolve, Deferred.ofValue, hf, Sem.run_bind, Sem.run_pure, Result.andThen_ok, invoke]
  have : Array.map ρ xs.toArray = vs.toArray := by simp [hm]
  rw [this]
  exact hc _ _
/-- A call of a function that is a value. -/
theorem wl_callFn {d : Nat} {x : Operand} {f : FuncId} {fs us : Array Value} {xs : List Operand} {ats : Array TypeId} {ty : TypeId} {pos : String} {aft : Array Edge} {vs : List Value} {R : Value → World → Prop}
    (hc : CallOk P f) (hf : look L x = some (.func (.func f) fs us)) (hr : CallsV P f (fs ++ vs.toArray ++ us) w R) (hx : Looks L xs vs) (hd : Nat.blt d N = true)
    (h : ∀ v w', R v w' → WL P N ops Q rest ((d, v) :: L) w') :
    WL P N ops Q (⟨some d, .call { callee := .value x, args := xs.toArray, argTypes := ats }, ty, pos, aft, none⟩ :: rest) L w := fun a ha =>
  wpList_plain rfl fun K hK => by
    unfold Oper.wp
    rw [exec_callFn rfl hc (fun x u hx => ha.eval hx) hf hx]
    refine Calls.mono hr ?_
    rintro _ w' ⟨v, rfl, hv⟩
    exact hK _ _ (h v w' hv _ (ha.put hd v))
end
theorem RdK.low {K : World → Prop} {base base' c : Nat} {A : Option Addr} {rows : List By} (h : RdK K base A c rows) (hb : base' ≤ base) : RdK K base' A c rows := by
  obtain ⟨h1, vs, h2⟩ := h
  exact ⟨h1, vs, fun w hw => (h2 w hw).low hb⟩
theorem OwB.capW {w : World} {base c : Nat} {A : Option Addr} {r : By} (h : OwB w base A c r) : r.length ≤ c := OwB.cap h
theorem St.tailSwap {M : BS} {w0 w : World} {c : Cd} {H1 H2 : List Cd} (h : St M w0 w (c :: (H1 ++ H2))) : St M w0 w (c :: (H2 ++ H1)) :=
  h.map fun _ ⟨T, h1, h2, h3⟩ => ⟨T, h1, h2, Sat.swap h3⟩
theorem next_len {r : Rd1} {m : Nat} (hl : ∀ p ∈ r.1, p.length ≤ m) : (nextR r).1.length ≤ m := by
  unfold nextR
  split
  · split
    · simp
    · rename_i p ps heq
      exact hl p (by rw [heq]; exact List.mem_cons_self)
  · simp
theorem next_rest {r : Rd1} {m : Nat} (hl : ∀ p ∈ r.1, p.length ≤ m) : ∀ p ∈ (nextR r).2.1, p.length ≤ m := by
  unfold nextR
  split
  · split
    · simp
    · rename_i p ps heq
      intro x hx
      exact hl x (by rw [heq]; exact List.mem_cons_of_mem _ hx)
  · exact hl
end Go.Proofs.Ytaacnknniaipmaa

/-
  The walk over the function that takes a message.
-/
namespace Go.Proofs.Ytaacnknniaipmaa
open Go.RowKit

theorem parts_sizeX (b : By) : (parts b).1.length + (parts b).1.flatten.length ≤ b.length := partsF_size b.length b 0 [] (by omega) (by simp)
theorem parts_le {b x : By} (h : x ∈ (parts b).1) : x.length ≤ b.length := by
  have h1 := parts_sizeX b
  have h2 := mem_flat h
  omega
theorem next_cnt1 {r : Rd1} (h : r.2 = 0 ∧ r.1 ≠ []) : (nextR r).2.1.length + 1 = r.1.length := by
  obtain ⟨l, e⟩ := r
  obtain ⟨rfl, h2⟩ := h
  cases l with
  | nil => exact absurd rfl h2
  | cons p ps => rfl
/-- The entries as groups of cells, with memory of their own. -/
def EntK (K : World → Prop) (base : Nat) (ents : List (Nat × By)) (css : List (List Value)) : Prop :=
  css.length = ents.length ∧ ∀ (i : Nat) (e : Nat × By), ents[i]? = some e → ∃ (D : Option Addr) (d : Nat), css[i]? = some (enV e D d) ∧ ∀ w, K w → OwB w base D d e.2
theorem EntK.nil (K : World → Prop) (base : Nat) : EntK K base [] [] := ⟨rfl, fun i e h => by simp at h⟩
theorem EntK.snoc {K : World → Prop} {base : Nat} {ents : List (Nat × By)} {css : List (List Value)} (h : EntK K base ents css) {e : Nat × By} {D : Option Addr} {d : Nat} (he : ∀ w, K w → OwB w base D d e.2) : EntK K base (ents ++ [e]) (css ++ [enV e D d]) := by
  obtain ⟨hl, h⟩ := h
  refine ⟨by simp [hl], fun i x hi => ?_⟩
  rcases Nat.lt_or_ge i ents.length with hlt | hge
  · rw [List.getElem?_append_left hlt] at hi
    rw [List.getElem?_append_left (by omega)]
    exact h i x hi
  · rw [List.getElem?_append_right hge] at hi
    obtain ⟨h0, h1⟩ := List.getElem?_eq_some_iff.1 hi
    have h0' : i - ents.length = 0 := by simpa using h0
    simp only [h0', List.getElem_cons_zero] at h1
    subst h1
    exact ⟨D, d, by rw [List.getElem?_append_right (by omega), show i - css.length = 0 by omega]; rfl, he⟩
end Go.Proofs.Ytaacnknniaipmaa

/-
  Walks over the functions that take a result; the message and the result of a reader.
-/
namespace Go.Proofs.Ytaacnknniaipmaa
open Go.RowKit

section
variable {w : World}
end
section
variable {P : Program} {N : Nat} {ops : Array Oper} {Q : Exit → Act → World → Prop} {rest : List Oper} {L : FL} {w0 w : World} {M : BS} {H : List Cd} {t : TypeId} {g : Nat} {cs ds : List Value}
end
/-- Things as groups of cells, as far as a class of worlds tells them. -/
def AllK {α : Type} (K : World → Prop) (Q : α → List Value → World → Prop) (xs : List α) (css : List (List Value)) : Prop :=
  css.length = xs.length ∧ ∀ (i : Nat) (x : α), xs[i]? = some x → ∃ cs, css[i]? = some cs ∧ ∀ w, K w → Q x cs w
section
variable {α : Type} {K : World → Prop} {Q : α → List Value → World → Prop} {xs : List α} {css : List (List Value)}
theorem AllK.nil : AllK K Q [] [] := ⟨rfl, fun i e h => by simp at h⟩
theorem AllK.snoc (h : AllK K Q xs css) {x : α} {cs : List Value} (he : ∀ w, K w → Q x cs w) : AllK K Q (xs ++ [x]) (css ++ [cs]) := by
  obtain ⟨hl, h⟩ := h
  refine ⟨by simp [hl], fun i y hi => ?_⟩
  rcases Nat.lt_or_ge i xs.length with hlt | hge
  · rw [List.getElem?_append_left hlt] at hi
    rw [List.getElem?_append_left (by omega)]
    exact h i y hi
  · rw [List.getElem?_append_right hge] at hi
    obtain ⟨h0, h1⟩ := List.getElem?_eq_some_iff.1 hi
    have h0' : i - xs.length = 0 := by simpa using h0
    simp only [h0', List.getElem_cons_zero] at h1
    subst h1
    exact ⟨cs, by rw [List.getElem?_append_right (by omega), show i - css.length = 0 by omega]; rfl, he⟩
/-- A row of such groups, read. -/
theorem AllK.rdr {k : Nat} {el : α → El} {w : World} {S : BS} {A : Option Addr} {e : TypeId} {base c : Nat} (h : AllK K Q xs css) (hk : K w) (hq : ∀ x cs, Q x cs w → (el x).P w All cs ∧ cs.length = k) (hr : OwR k e w base S A c (css.map rawEl)) : RdR k w All A (xs.map el) := by
  obtain ⟨h1, h2⟩ := h
  have hr2 := RdR.raw hr.rd
  refine ⟨css, ⟨by simp [h1], fun i cs hi => ?_⟩, by rw [List.length_map, ← h1]; exact hr2.1, fun _ _ _ => trivial⟩
  have hlt : i < xs.length := by have := (List.getElem?_eq_some_iff.1 hi).1; omega
  obtain ⟨cs2, k1, k2⟩ := h2 i xs[i] (List.getElem?_eq_getElem hlt)
  rw [hi] at k1
  cases k1
  have := hq _ _ (k2 w hk)
  exact ⟨this.2, el xs[i], by rw [List.getElem?_map, List.getElem?_eq_getElem hlt]; rfl, this.1⟩
end
def QEn (base : Nat) (e : Nat × By) (cs : List Value) (w : World) : Prop := ∃ (D : Option Addr) (d : Nat), cs = enV e D d ∧ OwB w base D d e.2
end Go.Proofs.Ytaacnknniaipmaa

/-
  Walks over the message and the result of a reader.
-/
namespace Go.Proofs.Ytaacnknniaipmaa
open Go.RowKit

theorem EntK.all {K : World → Prop} {base : Nat} {ents : List (Nat × By)} {css : List (List Value)} (h : EntK K base ents css) : AllK K (QEn base) ents css := ⟨h.1, fun i e hi => by
  obtain ⟨D, d, h1, h2⟩ := h.2 i e hi
  exact ⟨_, h1, fun w hw => ⟨D, d, rfl, h2 w hw⟩⟩⟩
theorem St.rgP {M : BS} {w0 w : World} {H : List Cd} {k : Nat} {e : TypeId} {A : Option Addr} {c : Nat} {els : List El} {S : BS} (h : Sat w (.rg k e A c els :: H) S) : ∃ S', OwR k e w 0 S' A c els := by
  obtain ⟨T, _, hc, _⟩ := h
  exact ⟨_, hc.2⟩
theorem rdr_nil {k : Nat} {w : World} {α : Type} {el : α → El} : RdR k w All none (([] : List α).map el) := ⟨[], Grp.nil _ _ _, by simpa using Rd.nil w none, fun _ h _ => by cases h⟩
/-- What a message's memory holds. -/
def MsK (base : Nat) (m : MsgM) (E : Option Addr) (M : Option Addr) (cm : Nat) (w : World) : Prop := RdR 2 w All E (m.ents.map etEl) ∧ OwB w base M cm m.data
theorem within_rest {α : Type} {z : α} {take : Rd1 → α × Rd1} {r : Rd1} {m : Nat} (hl : ∀ p ∈ r.1, p.length ≤ m) : ∀ p ∈ (withinR z take r).2.1, p.length ≤ m := by
  unfold withinR
  split
  · exact next_rest hl
  · exact next_rest hl
/-- What a result's memory holds. -/
def ReK (base : Nat) (x : ResM) (P W Y : Option Addr) (cy : Nat) (w : World) : Prop := RdR 2 w All P (x.pairs.map prEl) ∧ RdR 3 w All W (x.writes.map wrEl) ∧ OwB w base Y cy x.reply
end Go.Proofs.Ytaacnknniaipmaa
