
/-
  An engine for walks: the frame of a Go function is told by a short list of slots and values, and each kind of code and of operation has one rule. Nothing here names the program.
-/
import Derived.Test.YtcjiecclmepboaaLib
import Derived.Deep.LoopGhost
import Derived.Deep.QuietTactic
import Derived.BigQuiet
namespace Go.Proofs.Ytcjiecclmepboaa
open Go.RowKit

/-- What is known of the frame's slots; the newest entry of a slot counts. -/
abbrev FL := List (Nat × Value)
def lookT : FL → Nat → Option Value
  | [], _ => none
  | (i, v) :: L, t => cond (Nat.beq i t) (some v) (lookT L t)
def look (L : FL) : Operand → Option Value
  | .tmp t => lookT L t
  | .const v => some v
  | .global g => some (.pointer (some ⟨g, 0, none⟩))
  | .func f => some (.func (.func f) #[] #[])
/-- All slots of the one list are known, with these values, in the other. -/
def Sub : FL → FL → Prop
  | [], _ => True
  | (i, v) :: L, M => lookT M i = some v ∧ Sub L M
def numb : Nat → List Value → FL
  | _, [] => []
  | k, v :: vs => (k, v) :: numb (k + 1) vs

structure Has (N : Nat) (a : Act) (L : FL) : Prop where
  nodefer : a.defers = []
  size : a.tmps.size = N
  get : ∀ t v, lookT L t = some v → a.tmps.getD t undef = v

theorem lookT_cons {i t : Nat} {v u : Value} {L : FL} (h : lookT ((i, v) :: L) t = some u) : (i = t ∧ u = v) ∨ (i ≠ t ∧ lookT L t = some u) := by
  unfold lookT at h
  cases hb : Nat.beq i t with
  | true => rw [hb] at h; exact .inl ⟨Nat.eq_of_beq_eq_true hb, by simpa using h.symm⟩
  | false => rw [hb] at h; exact .inr ⟨Nat.ne_of_beq_eq_false hb, h⟩

theorem lookT_ne {i t : Nat} {v u : Value} {L : FL} (h : lookT ((i, v) :: L) t = some u) (hne : i ≠ t) : lookT L t = some u := by
  rcases lookT_cons h with ⟨e, _⟩ | ⟨_, h⟩
  · exact absurd e hne
  · exact h

section
variable {N : Nat} {a : Act} {L M : FL}
theorem Has.eval (h : Has N a L) {x : Operand} {v : Value} (hx : look L x = some v) : a.eval x = v := by
  cases x with
  | tmp t => exact h.get t v hx
  | const c => simpa [look, Act.eval] using hx
  | global g => simpa [look, Act.eval] using hx
  | func f => simpa [look, Act.eval] using hx
theorem Has.sub (h : Has N a L) (hs : Sub M L) : Has N a M := by
  refine ⟨h.nodefer, h.size, ?_⟩
  intro t v ht
  have : lookT L t = some v := by
    clear h
    induction M with
    | nil => simp [lookT] at ht
    | cons p M ih =>
      obtain ⟨i, u⟩ := p
      rcases lookT_cons ht with ⟨rfl, rfl⟩ | ⟨_, h⟩
      · exact hs.1
      · exact ih hs.2 h
  exact h.get t v this
theorem Has.put (h : Has N a L) {d : Nat} (hd : Nat.blt d N = true) (v : Value) : Has N (a.put (some d) v) ((d, v) :: L) := by
  have hd' : d < a.tmps.size := by rw [h.size]; simpa [Nat.blt_eq] using hd
  refine ⟨h.nodefer, by simpa [Act.put] using h.size, ?_⟩
  intro t u ht
  rcases lookT_cons ht with ⟨rfl, rfl⟩ | ⟨hne, h'⟩
  · simp [Act.put, hd']
  · have := h.get t u h'
    simpa [Act.put, Array.getElem?_setIfInBounds, hne] using this
theorem Has.put_none (h : Has N a L) (v : Value) : Has N (a.put none v) L := h
end

/-- Code, a region's operations, and the end of a piece of code, from a frame that is known so far. -/
def WC (P : Program) (N : Nat) (c : Code) (Q : Exit → Act → World → Prop) (L : FL) (w : World) : Prop := ∀ a, Has N a L → c.wp P Q a w
def WL (P : Program) (N : Nat) (ops : Array Oper) (Q : Exit → Act → World → Prop) (l : List Oper) (L : FL) (w : World) : Prop := ∀ a, Has N a L → wpList P ops Q l a w
def WE (N : Nat) (Q : Exit → Act → World → Prop) (e : Exit) (L : FL) (w : World) : Prop := ∀ a, Has N a L → Q e a w

/-- A call that hands back a value. -/
def CallsV (P : Program) (f : FuncId) (args : Array Value) (w : World) (R : Value → World → Prop) : Prop :=
  Calls P f args w fun e w' => ∃ v, e = .returned v ∧ R v w'
theorem CallsV.mono {P : Program} {f : FuncId} {args : Array Value} {w : World} {R R' : Value → World → Prop} (h : CallsV P f args w R) (hr : ∀ v w', R v w' → R' v w') : CallsV P f args w R' :=
  Calls.mono h fun _ w' ⟨v, he, h⟩ => ⟨v, he, hr v w' h⟩

theorem bT {p : Prop} {_ : Decidable p} (h : p) : decide p = true := decide_eq_true h
theorem bF {p : Prop} {_ : Decidable p} (h : ¬ p) : decide p = false := decide_eq_false h
theorem bTn {p : Prop} {_ : Decidable p} (h : p) : decide p = !false := decide_eq_true h
theorem bFn {p : Prop} {_ : Decidable p} (h : ¬ p) : decide p = !true := decide_eq_false h
theorem nne {α : Sort _} {a : α} : ¬ (a ≠ a) := fun h => h rfl
theorem bR1 : true = !false := rfl
theorem bR2 : false = !true := rfl
theorem bR3 : (!true) = !true := rfl
theorem bR4 : (!false) = !false := rfl
section control
variable {P : Program} {N : Nat} {Q : Exit → Act → World → Prop} {L : FL} {w : World}

theorem wc_sub {c : Code} (M : FL) (hs : Sub M L) (h : WC P N c Q M w) : WC P N c Q L w := fun a ha => h a (ha.sub hs)
theorem wc_skip (h : WE N Q .normal L w) : WC P N .skip Q L w := fun a ha => wp_skip (h a ha)
/-- What must hold at the end of the first of two pieces of code. -/
def SeqQ (P : Program) (y : Code) (Q : Exit → Act → World → Prop) : Exit → Act → World → Prop := Exit.then (y.wp P Q) Q
theorem wc_seq {x y : Code} (h : WC P N x (SeqQ P y Q) L w) : WC P N (.seq x y) Q L w := fun a ha => wp_seq (h a ha)
theorem wc_block {id : Nat} {c : Code} (h : WC P N c (Exit.inBlock id Q) L w) : WC P N (.block id c) Q L w := fun a ha => wp_block (h a ha)
theorem wc_exit {id : Nat} (h : WE N Q (.exit id) L w) : WC P N (.exit id) Q L w := fun a ha => wp_exit (h a ha)
theorem wc_ret (h : WE N Q .ret L w) : WC P N .ret Q L w := fun a ha => wp_ret (h a ha)
theorem wc_cond {c : Operand} {x y : Code} {p : Prop} [Decidable p] (hc : look L c = some (.bool (decide p))) (ht : p → WC P N x Q L w) (hf : ¬ p → WC P N y Q L w) : WC P N (.cond c x y) Q L w :=
  fun a ha => wp_cond_split (ha.eval hc) (fun h => ht (of_decide_eq_true h) a ha) (fun h => hf (of_decide_eq_false h) a ha)
theorem wc_condB {c : Operand} {x y : Code} {t : Bool} (hc : look L c = some (.bool t)) (ht : t = true → WC P N x Q L w) (hf : t = false → WC P N y Q L w) : WC P N (.cond c x y) Q L w :=
  fun a ha => wp_cond_split (ha.eval hc) (fun h => ht h a ha) (fun h => hf h a ha)
theorem wc_condN {c : Operand} {x y : Code} {t : Bool} (hc : look L c = some (.bool (!t))) (ht : t = false → WC P N x Q L w) (hf : t = true → WC P N y Q L w) : WC P N (.cond c x y) Q L w :=
  fun a ha => wp_cond_split (ha.eval hc) (fun h => ht (by simpa using h) a ha) (fun h => hf (by simpa using h) a ha)
theorem wc_condT {c : Operand} {x y : Code} (hc : look L c = some (.bool true)) (ht : WC P N x Q L w) : WC P N (.cond c x y) Q L w :=
  fun a ha => wp_cond_true (ha.eval hc) (ht a ha)
theorem wc_condF {c : Operand} {x y : Code} (hc : look L c = some (.bool false)) (ht : WC P N y Q L w) : WC P N (.cond c x y) Q L w :=
  fun a ha => wp_cond_false (ha.eval hc) (ht a ha)
theorem wc_decT {c : Operand} {x y : Code} {p : Prop} {_ : Decidable p} (hc : look L c = some (.bool (decide p))) (hp : p) (h : WC P N x Q L w) : WC P N (.cond c x y) Q L w :=
  fun a ha => wp_cond_true ((ha.eval hc).trans (by rw [decide_eq_true hp])) (h a ha)
theorem wc_decF {c : Operand} {x y : Code} {p : Prop} {_ : Decidable p} (hc : look L c = some (.bool (decide p))) (hp : ¬ p) (h : WC P N y Q L w) : WC P N (.cond c x y) Q L w :=
  fun a ha => wp_cond_false ((ha.eval hc).trans (by rw [decide_eq_false hp])) (h a ha)
theorem wc_condTb {c : Operand} {x y : Code} {b : Bool} (hc : look L c = some (.bool b)) (hb : b = true) (h : WC P N x Q L w) : WC P N (.cond c x y) Q L w :=
  fun a ha => wp_cond_true ((ha.eval hc).trans (by rw [hb])) (h a ha)
theorem wc_condFb {c : Operand} {x y : Code} {b : Bool} (hc : look L c = some (.bool b)) (hb : b = false) (h : WC P N y Q L w) : WC P N (.cond c x y) Q L w :=
  fun a ha => wp_cond_false ((ha.eval hc).trans (by rw [hb])) (h a ha)
theorem wc_region {id : Nat} {l : List Oper} (h : WL P N l.toArray Q l L w) : WC P N (.region id l.toArray false) Q L w := fun a ha => wp_region_lit (h a ha)

/-- What a loop's round hands on. -/
def LoopK (N : Nat) (I : FL → World → Nat → Prop) (m : Nat) : Act → World → Prop := fun a w => ∃ m', m' < m ∧ ∃ L, I L w m' ∧ Has N a L
def LoopQ (N : Nat) (I : FL → World → Nat → Prop) (m : Nat) (Q : Exit → Act → World → Prop) : Exit → Act → World → Prop := Exit.then (LoopK N I m) Q
theorem wc_loop {c : Code} (I : FL → World → Nat → Prop) (L0 : FL) (m0 : Nat) (h0 : I L0 w m0) (hs : Sub L0 L)
    (round : ∀ L w m, I L w m → WC P N c (LoopQ N I m Q) L w) : WC P N (.loop c) Q L w := fun a ha =>
  wp_loop_ghost (fun m a w => ∃ L, I L w m ∧ Has N a L) m0 ⟨L0, h0, ha.sub hs⟩ fun m a' w' ⟨L', hI, ha'⟩ => round L' w' m hI a' ha'
/-- What is known where ways meet. -/
def CutK (N : Nat) (J : FL → World → Prop) : Act → World → Prop := fun a w => ∃ L, J L w ∧ Has N a L
def CutQ (N : Nat) (J : FL → World → Prop) (Q : Exit → Act → World → Prop) : Exit → Act → World → Prop := Exit.then (CutK N J) Q
theorem wc_cut {x y : Code} (J : FL → World → Prop) (hx : WC P N x (CutQ N J Q) L w) (hy : ∀ L w, J L w → WC P N y Q L w) : WC P N (.seq x y) Q L w := fun a ha =>
  wp_seq (wp_mono (hx a ha) fun e a' w' h => by
    cases e with
    | normal => obtain ⟨L', hJ, ha'⟩ := h; exact hy L' w' hJ a' ha'
    | _ => exact h)
/-- The same ahead of the end of a piece of code. -/
theorem wc_cutE {x : Code} (J : FL → World → Prop) (hx : WC P N x (CutQ N J Q) L w) (hy : ∀ L w, J L w → WE N Q .normal L w) : WC P N x Q L w := fun a ha =>
  wp_mono (hx a ha) fun e a' w' h => by
    cases e with
    | normal => obtain ⟨L', hJ, ha'⟩ := h; exact hy L' w' hJ a' ha'
    | _ => exact h

theorem we_seq {y : Code} (h : WC P N y Q L w) : WE N (SeqQ P y Q) .normal L w := h
theorem we_seq_exit {y : Code} {id : Nat} (h : WE N Q (.exit id) L w) : WE N (SeqQ P y Q) (.exit id) L w := h
theorem we_seq_ret {y : Code} (h : WE N Q .ret L w) : WE N (SeqQ P y Q) .ret L w := h
theorem we_loop_exit {I : FL → World → Nat → Prop} {m id : Nat} (h : WE N Q (.exit id) L w) : WE N (LoopQ N I m Q) (.exit id) L w := h
theorem we_loop_ret {I : FL → World → Nat → Prop} {m : Nat} (h : WE N Q .ret L w) : WE N (LoopQ N I m Q) .ret L w := h
theorem we_cut_exit {J : FL → World → Prop} {id : Nat} (h : WE N Q (.exit id) L w) : WE N (CutQ N J Q) (.exit id) L w := h
theorem we_cut_ret {J : FL → World → Prop} (h : WE N Q .ret L w) : WE N (CutQ N J Q) .ret L w := h
theorem we_loop {I : FL → World → Nat → Prop} {m : Nat} (M : FL) (m' : Nat) (hI : I M w m') (hm : m' < m) (hs : Sub M L) : WE N (LoopQ N I m Q) .normal L w :=
  fun _ ha => ⟨m', hm, M, hI, ha.sub hs⟩
theorem we_cut {J : FL → World → Prop} (M : FL) (hJ : J M w) (hs : Sub M L) : WE N (CutQ N J Q) .normal L w := fun _ ha => ⟨M, hJ, ha.sub hs⟩
theorem we_block_norm {id : Nat} (h : WE N Q .normal L w) : WE N (Exit.inBlock id Q) .normal L w := h
theorem we_block_ret {id : Nat} (h : WE N Q .ret L w) : WE N (Exit.inBlock id Q) .ret L w := h
theorem we_block_exit {id : Nat} (h : WE N Q .normal L w) : WE N (Exit.inBlock id Q) (.exit id) L w := fun a ha => by
  simp only [Exit.inBlock, if_true]; exact h a ha
theorem we_block_pass {id id' : Nat} (hne : Nat.beq id' id = false) (h : WE N Q (.exit id') L w) : WE N (Exit.inBlock id Q) (.exit id') L w := fun a ha => by
  simp only [Exit.inBlock, if_neg (Nat.ne_of_beq_eq_false hne)]; exact h a ha

/-- The end of a function. -/
theorem we_ret0 {fn : Func} {R : Ending → World → Prop} (hr : fn.results = #[]) (h : R (.returned (.tuple #[])) w) : WE N (bodyPost P fn R) .ret L w := fun a ha =>
  ⟨ha.nodefer, _, results_none hr a.tmps P w, h⟩
theorem we_end0 {fn : Func} {R : Ending → World → Prop} (hr : fn.results = #[]) (h : R (.returned (.tuple #[])) w) : WE N (bodyPost P fn R) .normal L w := fun a ha =>
  ⟨ha.nodefer, _, results_none hr a.tmps P w, h⟩
theorem we_ret1 {fn : Func} {R : Ending → World → Prop} {t : Nat} {v : Value} (hr : fn.results = #[.tmp t]) (hx : lookT L t = some v) (h : R (.returned v) w) : WE N (bodyPost P fn R) .ret L w := fun a ha =>
  ⟨ha.nodefer, v, by rw [results_tmp hr a.tmps P w, ha.get t v hx], h⟩
theorem we_ret2 {fn : Func} {R : Ending → World → Prop} {t1 t2 : Nat} {v1 v2 : Value} (hr : fn.results = #[.tmp t1, .tmp t2]) (h1 : lookT L t1 = some v1) (h2 : lookT L t2 = some v2)
    (h : R (.returned (.tuple #[v1, v2])) w) : WE N (bodyPost P fn R) .ret L w := fun a ha =>
  ⟨ha.nodefer, _, by rw [results_tmp2 hr a.tmps P w, ha.get t1 v1 h1, ha.get t2 v2 h2], h⟩
theorem results_tmp3' {fn : Func} {t u s : Tmp} (h : fn.results = #[.tmp t, .tmp u, .tmp s]) (tmps : Array Value) (P : Program) (w : World) :
    (results fn tmps).run P w = .ok (.tuple #[tmps.getD t undef, tmps.getD u undef, tmps.getD s undef]) w := by
  simp [results, h]
theorem we_ret3 {fn : Func} {R : Ending → World → Prop} {t1 t2 t3 : Nat} {v1 v2 v3 : Value} (hr : fn.results = #[.tmp t1, .tmp t2, .tmp t3]) (h1 : lookT L t1 = some v1) (h2 : lookT L t2 = some v2) (h3 : lookT L t3 = some v3)
    (h : R (.returned (.tuple #[v1, v2, v3])) w) : WE N (bodyPost P fn R) .ret L w := fun a ha =>
  ⟨ha.nodefer, _, by rw [results_tmp3' hr a.tmps P w, ha.get t1 v1 h1, ha.get t2 v2 h2, ha.get t3 v3 h3], h⟩

theorem lookT_numb (vs : List Value) : ∀ k t v, lookT (numb k vs) t = some v → k ≤ t ∧ vs[t - k]? = some v := by
  induction vs with
  | nil => intro k t v h; simp [numb, lookT] at h
  | cons x vs ih =>
    intro k t v h
    rcases lookT_cons h with ⟨rfl, rfl⟩ | ⟨_, h⟩
    · simp
    · obtain ⟨h1, h2⟩ := ih _ _ _ h
      refine ⟨by omega, ?_⟩
      have : t - k = (t - (k + 1)) + 1 := by omega
      rw [this]; simpa using h2

/-- A function's body. -/
theorem calls_in {f : FuncId} {fn : Func} {c : Code} {args : List Value} {R : Value → World → Prop} (hf : P.funcs[f]? = some fn) (hb : fn.body = some c) (hN : fn.ntmps = N) (hle : Nat.ble args.length N = true)
    (h : WC P N c (bodyPost P fn fun e w' => ∃ v, e = .returned v ∧ R v w') (numb 0 args) w) : CallsV P f args.toArray w R := by
  refine calls_of_wp hf hb (h _ ⟨rfl, ?_, ?_⟩)
  · have := Nat.le_of_ble_eq_true hle
    simp [hN]; omega
  · intro t v ht
    obtain ⟨_, h2⟩ := lookT_numb args 0 t v ht
    simp only [Nat.sub_zero] at h2
    have hlt : t < args.length := by
      rcases Nat.lt_or_ge t args.length with h | h
      · exact h
      · rw [List.getElem?_eq_none h] at h2; cases h2
    rw [List.getElem?_eq_getElem hlt] at h2
    simp [Array.getElem?_append, hlt]
    simpa using h2
end control

/-! ### Operations -/
theorem upon_mono {P : Program} {o : Oper} {a : Act} {K K' : Act → World → Prop} {Q Q' : Exit → Act → World → Prop} (hK : ∀ a w, K a w → K' a w) (hQ : ∀ e a w, e ≠ .normal → Q e a w → Q' e a w) {r : Result Next}
    (h : o.upon P a K Q r) : o.upon P a K' Q' r := by
  cases r with
  | ok n w =>
    cases n with
    | value v => exact hK _ _ h
    | skip => exact hK _ _ h
    | defer d => exact hK _ _ h
    | enter f args =>
      refine Calls.mono (show Calls P f args w _ from h) fun e w' h => ?_
      cases e with
      | returned v => exact hK _ _ h
      | panicked c => exact hQ _ _ _ (by simp) h
      | outgrown => obtain ⟨a0, w0, h⟩ := h; exact ⟨a0, w0, hQ _ _ _ (by simp) h⟩
    | row r args => exact Rows.mono (show Rows P r args w _ from h) fun v w' h => hK _ _ h
    | _ => exact h
  | halt x w =>
    cases x with
    | panic v => exact hQ _ _ _ (by simp) h
    | _ => exact h
theorem wpList_append {P : Program} {ops : Array Oper} {Q Q' : Exit → Act → World → Prop} {l2 : List Oper} (h2 : ∀ a w, Q .normal a w → wpList P ops Q' l2 a w) (hQ : ∀ e a w, e ≠ .normal → Q e a w → Q' e a w) :
    ∀ (l1 : List Oper) (a : Act) (w : World), wpList P ops Q l1 a w → wpList P ops Q' (l1 ++ l2) a w
  | [], a, w, h => h2 a w h
  | o :: l1, a, w, h => by
    have ih := wpList_append (P := P) (ops := ops) h2 hQ l1
    simp only [List.cons_append]
    unfold wpList at h ⊢
    split at h
    · rename_i hw
      rw [if_pos hw]
      rcases h with h | ⟨ha, a0, w0, h⟩
      · exact .inl (upon_mono ih hQ h)
      · exact .inr ⟨ha, a0, w0, hQ _ _ _ (by simp) h⟩
    · rename_i hw
      rw [if_neg hw]
      exact ih _ _ h

/-- Operation op, its operands read by L, yields the value v and leaves the world w'. -/
def OpV (P : Program) (op : Op) (ty : TypeId) (L : FL) (w : World) (v : Value) (w' : World) : Prop :=
  ∀ (ρ : Operand → Value) (o : Oper), (∀ x u, look L x = some u → ρ x = u) → o.op = op → o.type = ty → (execOp ρ o).run P w = .ok (.value v) w'
def OpU (P : Program) (op : Op) (ty : TypeId) (L : FL) (w : World) (w' : World) : Prop :=
  ∀ (ρ : Operand → Value) (o : Oper), (∀ x u, look L x = some u → ρ x = u) → o.op = op → o.type = ty → (execOp ρ o).run P w = .ok .skip w'
def CallOk (P : Program) (f : FuncId) : Prop := ∀ args w, (callFunc f args).run P w = .ok (.enter f args) w
theorem callOk {P : Program} {f : FuncId} {fn : Func} (hf : P.funcs[f]? = some fn) (hn : (fn.name == "runtime.NumGoroutine") = false) (hb : fn.body.isNone = false) : CallOk P f := by
  intro args w
  have hn' : ¬ fn.name = "runtime.NumGoroutine" := by simpa using hn
  have hb' : ¬ fn.body = none := by intro h; rw [h] at hb; cases hb
  simp [callFunc, program, hf, hn', hb', Sem.run, bind, Sem.bind, pure]

section ops
variable {P : Program} {N : Nat} {ops : Array Oper} {Q : Exit → Act → World → Prop} {rest : List Oper} {L : FL} {w w' : World}

theorem wl_nil (h : WE N Q .normal L w) : WL P N ops Q [] L w := fun a ha => wpList_nil (h a ha)
theorem wl_sub {l : List Oper} (M : FL) (hs : Sub M L) (h : WL P N ops Q l M w) : WL P N ops Q l L w := fun a ha => h a (ha.sub hs)

theorem wl_val {d : Nat} {op : Op} {ty : TypeId} {pos : String} {aft : Array Edge} {v : Value} (hv : OpV P op ty L w v w') (hd : Nat.blt d N = true)
    (h : WL P N ops Q rest ((d, v) :: L) w') : WL P N ops Q (⟨some d, op, ty, pos, aft, none⟩ :: rest) L w := fun a ha =>
  wpList_plain rfl fun K hK => by
    unfold Oper.wp
    rw [hv a.eval _ (fun x u hx => ha.eval hx) rfl rfl]
    exact hK _ _ (h _ (ha.put hd v))
theorem wl_valN {op : Op} {ty : TypeId} {pos : String} {aft : Array Edge} {v : Value} (hv : OpV P op ty L w v w')
    (h : WL P N ops Q rest L w') : WL P N ops Q (⟨none, op, ty, pos, aft, none⟩ :: rest) L w := fun a ha =>
  wpList_plain rfl fun K hK => by
    unfold Oper.wp
    rw [hv a.eval _ (fun x u hx => ha.eval hx) rfl rfl]
    exact hK _ _ (h _ ha)
theorem wl_unitN {op : Op} {ty : TypeId} {pos : String} {aft : Array Edge} (hv : OpU P op ty L w w')
    (h : WL P N ops Q rest L w') : WL P N ops Q (⟨none, op, ty, pos, aft, none⟩ :: rest) L w := fun a ha =>
  wpList_plain rfl fun K hK => by
    unfold Oper.wp
    rw [hv a.eval _ (fun x u hx => ha.eval hx) rfl rfl]
    exact hK _ _ (h _ ha)
theorem wl_unit {d : Nat} {op : Op} {ty : TypeId} {pos : String} {aft : Array Edge} (hv : OpU P op ty L w w') (hd : Nat.blt d N = true)
    (h : WL P N ops Q rest ((d, undef) :: L) w') : WL P N ops Q (⟨some d, op, ty, pos, aft, none⟩ :: rest) L w := fun a ha =>
  wpList_plain rfl fun K hK => by
    unfold Oper.wp
    rw [hv a.eval _ (fun x u hx => ha.eval hx) rfl rfl]
    exact hK _ _ (h _ (ha.put hd undef))

/-- The operands of a call. -/
def Looks (L : FL) : List Operand → List Value → Prop
  | [], [] => True
  | x :: xs, v :: vs => look L x = some v ∧ Looks L xs vs
  | _, _ => False
theorem Looks.map {ρ : Operand → Value} (hρ : ∀ x u, look L x = some u → ρ x = u) : ∀ {xs : List Operand} {vs : List Value}, Looks L xs vs → xs.map ρ = vs
  | [], [], _ => rfl
  | x :: xs, v :: vs, h => by rw [List.map_cons, hρ x v h.1, Looks.map hρ h.2]
  | [], _ :: _, h => h.elim
  | _ :: _, [], h => h.elim

theorem exec_call {ρ : Operand → Value} {o : Oper} {f : FuncId} {xs : List Operand} {vs : List Value} {ats : Array TypeId} (ho : o.op = .call { callee := .value (.func f), args := xs.toArray, argTypes := ats })
    (hc : CallOk P f) (hρ : ∀ x u, look L x = some u → ρ x = u) (hx : Looks L xs vs) : (execOp ρ o).run P w = .ok (.enter f vs.toArray) w := by
  have hf : ρ (.func f) = .func (.func f) #[] #[] := hρ _ _ rfl
  have hm := Looks.map hρ hx
  unfold execOp
  simp only [ho, resolve, Deferred.ofValue, hf, Sem.run_bind, Sem.run_pure, Result.andThen_ok, invoke]
  have : (#[] ++ Array.map ρ xs.toArray ++ #[]) = vs.toArray := by simp [hm]
  rw [this]
  exact hc _ _

theorem wl_call {d : Nat} {f : FuncId} {xs : List Operand} {ats : Array TypeId} {ty : TypeId} {pos : String} {aft : Array Edge} {vs : List Value} {R : Value → World → Prop}
    (hc : CallOk P f) (hr : CallsV P f vs.toArray w R) (hx : Looks L xs vs) (hd : Nat.blt d N = true)
    (h : ∀ v w', R v w' → WL P N ops Q rest ((d, v) :: L) w') :
    WL P N ops Q (⟨some d, .call { callee := .value (.func f), args := xs.toArray, argTypes := ats }, ty, pos, aft, none⟩ :: rest) L w := fun a ha =>
  wpList_plain rfl fun K hK => by
    unfold Oper.wp
    rw [exec_call rfl hc (fun x u hx => ha.eval hx) hx]
    refine Calls.mono hr ?_
    rintro _ w' ⟨v, rfl, hv⟩
    exact hK _ _ (h v w' hv _ (ha.put hd v))
theorem wl_callX {d : Nat} {f : FuncId} {xs : List Operand} {ats : Array TypeId} {ty : TypeId} {pos : String} {aft : Array Edge} {vs : List Value} {R : Value → World → Prop}
    (hc : CallOk P f) (hx : Looks L xs vs) (hd : Nat.blt d N = true) (hr : CallsV P f vs.toArray w R)
    (h : ∀ v w', R v w' → WL P N ops Q rest ((d, v) :: L) w') :
    WL P N ops Q (⟨some d, .call { callee := .value (.func f), args := xs.toArray, argTypes := ats }, ty, pos, aft, none⟩ :: rest) L w := wl_call hc hr hx hd h
theorem wl_callN {f : FuncId} {xs : List Operand} {ats : Array TypeId} {ty : TypeId} {pos : String} {aft : Array Edge} {vs : List Value} {R : Value → World → Prop}
    (hc : CallOk P f) (hr : CallsV P f vs.toArray w R) (hx : Looks L xs vs)
    (h : ∀ v w', R v w' → WL P N ops Q rest L w') :
    WL P N ops Q (⟨none, .call { callee := .value (.func f), args := xs.toArray, argTypes := ats }, ty, pos, aft, none⟩ :: rest) L w := fun a ha =>
  wpList_plain rfl fun K hK => by
    unfold Oper.wp
    rw [exec_call rfl hc (fun x u hx => ha.eval hx) hx]
    refine Calls.mono hr ?_
    rintro _ w' ⟨v, rfl, hv⟩
    exact hK _ _ (h v w' hv _ ha)

/-- A guarded operation: its guard is the Bool that operation j has left in slot g. -/
theorem yielded_of {a : Act} {j g : Nat} {b : Bool} (ha : Has N a L) (hj : (ops[j]?).bind (·.dst) = some g) (hb : lookT L g = some (.bool b)) (hg : Nat.blt g N = true) : yielded ops a.tmps j = some b := by
  have hlt : g < a.tmps.size := by rw [ha.size]; simpa [Nat.blt_eq] using hg
  have h1 := ha.get g _ hb
  unfold yielded
  rw [hj]
  simp only [Option.bind_some]
  have : a.tmps[g]? = some (.bool b) := by
    rw [Array.getD_eq_getD_getElem?] at h1
    rw [Array.getElem?_eq_getElem hlt] at h1 ⊢
    simpa using h1
  rw [this]
theorem yielded_undef {a : Act} {j g : Nat} (ha : Has N a L) (hj : (ops[j]?).bind (·.dst) = some g) (hb : lookT L g = some undef) (hg : Nat.blt g N = true) : yielded ops a.tmps j = none := by
  have hlt : g < a.tmps.size := by rw [ha.size]; simpa [Nat.blt_eq] using hg
  have h1 := ha.get g _ hb
  unfold yielded
  rw [hj]
  simp only [Option.bind_some]
  have : a.tmps[g]? = some undef := by
    rw [Array.getD_eq_getD_getElem?] at h1
    rw [Array.getElem?_eq_getElem hlt] at h1 ⊢
    simpa using h1
  rw [this]; rfl
/-- A guarded operation whose guard was itself passed over. -/
theorem wl_skipU {d j g : Nat} {want : Bool} {op : Op} {ty : TypeId} {pos : String} {aft : Array Edge} (hj : (ops[j]?).bind (·.dst) = some g) (hb : lookT L g = some undef) (hg : Nat.blt g N = true)
    (hd : Nat.blt d N = true) (h : WL P N ops Q rest ((d, undef) :: L) w) : WL P N ops Q (⟨some d, op, ty, pos, aft, some (j, want)⟩ :: rest) L w := fun a ha => by
  have hy := yielded_undef ha hj hb hg
  unfold wpList
  rw [if_neg (by simp [Region.wanted, hy])]
  exact h _ (ha.put hd undef)
theorem wl_skip {d j g : Nat} {b want : Bool} {op : Op} {ty : TypeId} {pos : String} {aft : Array Edge} (hj : (ops[j]?).bind (·.dst) = some g) (hb : lookT L g = some (.bool b)) (hg : Nat.blt g N = true) (hne : b = !want)
    (hd : Nat.blt d N = true) (h : WL P N ops Q rest ((d, undef) :: L) w) : WL P N ops Q (⟨some d, op, ty, pos, aft, some (j, want)⟩ :: rest) L w := fun a ha => by
  have hy := yielded_of ha hj hb hg
  unfold wpList
  rw [if_neg (by simp [Region.wanted, hy, hne])]
  exact h _ (ha.put hd undef)
theorem wl_skipN {j g : Nat} {b want : Bool} {op : Op} {ty : TypeId} {pos : String} {aft : Array Edge} (hj : (ops[j]?).bind (·.dst) = some g) (hb : lookT L g = some (.bool b)) (hg : Nat.blt g N = true) (hne : b = !want)
    (h : WL P N ops Q rest L w) : WL P N ops Q (⟨none, op, ty, pos, aft, some (j, want)⟩ :: rest) L w := fun a ha => by
  have hy := yielded_of ha hj hb hg
  unfold wpList
  rw [if_neg (by simp [Region.wanted, hy, hne])]
  exact h _ ha
/-- A guarded operation that is wanted is as if it had no guard. -/
theorem wl_take {d j g : Nat} {b want : Bool} {op : Op} {ty : TypeId} {pos : String} {aft : Array Edge} (hj : (ops[j]?).bind (·.dst) = some g) (hb : lookT L g = some (.bool b)) (hg : Nat.blt g N = true) (he : b = want)
    (h : WL P N ops Q (⟨some d, op, ty, pos, aft, none⟩ :: rest) L w) : WL P N ops Q (⟨some d, op, ty, pos, aft, some (j, want)⟩ :: rest) L w := fun a ha => by
  have hy := yielded_of ha hj hb hg
  have h' := h a ha
  unfold wpList at h' ⊢
  rw [if_pos (by simp [Region.wanted, hy, he])]
  rw [if_pos (by simp [Region.wanted])] at h'
  exact h'

/-! #### Values -/
theorem opv_move {x : Operand} {ty : TypeId} {v : Value} (hx : look L x = some v) : OpV P (.move x) ty L w v w := fun ρ o hρ ho _ => by
  simp [execOp, ho, hρ x v hx]
theorem opv_assign {x : Operand} {ty : TypeId} {v : Value} (hx : look L x = some v) : OpV P (.assign x) ty L w v w := fun ρ o hρ ho _ => by
  simp [execOp, ho, hρ x v hx]
theorem opv_pick {c x y : Operand} {ty : TypeId} {b : Bool} {v : Value} (hc : look L c = some (.bool b)) (ht : b = true → look L x = some v) (hf : b = false → look L y = some v) : OpV P (.pick c x y) ty L w v w := fun ρ o hρ ho _ => by
  cases b with
  | true => simp [execOp, ho, hρ c _ hc, hρ x _ (ht rfl), asBool]
  | false => simp [execOp, ho, hρ c _ hc, hρ y _ (hf rfl), asBool]
def nthV : List Value → Nat → Option Value
  | [], _ => none
  | v :: _, 0 => some v
  | _ :: r, k + 1 => nthV r k
theorem nthV_eq : ∀ (vs : List Value) (k : Nat), nthV vs k = vs[k]?
  | [], _ => by simp [nthV]
  | v :: _, 0 => by simp [nthV]
  | _ :: r, k + 1 => by simp [nthV, nthV_eq r k]
theorem opv_extract {x : Operand} {k : Nat} {ty : TypeId} {vs : List Value} {v : Value} (hx : look L x = some (.tuple vs.toArray)) (hv : nthV vs k = some v) : OpV P (.extract x k) ty L w v w := fun ρ o hρ ho _ => by
  rw [nthV_eq] at hv
  simp [execOp, ho, hρ x _ hx, Instr.extract, hv]

theorem opv_pickT {c x y : Operand} {ty : TypeId} {b : Bool} {v : Value} (hc : look L c = some (.bool b)) (hb : b = true) (hx : look L x = some v) : OpV P (.pick c x y) ty L w v w := opv_pick hc (fun _ => hx) (fun h => by rw [hb] at h; cases h)
theorem opv_pickF {c x y : Operand} {ty : TypeId} {b : Bool} {v : Value} (hc : look L c = some (.bool b)) (hb : b = false) (hy : look L y = some v) : OpV P (.pick c x y) ty L w v w := opv_pick hc (fun h => by rw [hb] at h; cases h) (fun _ => hy)
theorem opv_not {x : Operand} {t ty : TypeId} {b : Bool} (hx : look L x = some (.bool b)) : OpV P (.unOp .not t x) ty L w (.bool (!b)) w := fun ρ o hρ ho _ => by
  simp [execOp, ho, hρ x _ hx, Op.unary]
theorem opv_notD {x : Operand} {t ty : TypeId} {p : Prop} {_ : Decidable p} (hx : look L x = some (.bool (decide p))) : OpV P (.unOp .not t x) ty L w (.bool (decide (¬ p))) w := fun ρ o hρ ho _ => by
  simp [execOp, ho, hρ x _ hx, Op.unary]

/-- The ways through the first k operations of a list meet: slot d holds v, the world is as it was. -/
theorem wl_cutV (k d : Nat) (v : Value) (hx : WL P N ops (CutQ N (fun L' w' => L' = (d, v) :: L ∧ w' = w) Q) (rest.take k) L w) (hy : WL P N ops Q (rest.drop k) ((d, v) :: L) w) : WL P N ops Q rest L w := by
  intro a ha
  have h := hx a ha
  have hmono : ∀ (l1 l2 : List Oper) (a : Act) (w1 : World), (∀ a' w', CutQ N (fun L' w' => L' = (d, v) :: L ∧ w' = w) Q .normal a' w' → wpList P ops Q l2 a' w') →
      wpList P ops (CutQ N (fun L' w' => L' = (d, v) :: L ∧ w' = w) Q) l1 a w1 → wpList P ops Q (l1 ++ l2) a w1 := by
    intro l1 l2 a w1 hl2 h
    exact wpList_append hl2 (fun e a w he h => by cases e <;> first | exact absurd rfl he | exact h) l1 a w1 h
  have := hmono (rest.take k) (rest.drop k) a w (fun a' w' hc => by
    obtain ⟨L', ⟨h1, h2⟩, ha'⟩ := hc
    subst h1; rw [h2]; exact hy a' ha') h
  rwa [List.take_append_drop] at this

/-- The ways to a region's end meet there. -/
theorem wl_cutE (J : FL → World → Prop) (hx : WL P N ops (CutQ N J Q) rest L w) (hy : ∀ L w, J L w → WE N Q .normal L w) : WL P N ops Q rest L w := fun a ha => by
  have h := wpList_append (P := P) (ops := ops) (Q := CutQ N J Q) (Q' := Q) (l2 := []) (fun a w ⟨L', hJ, ha'⟩ => hy L' w hJ a ha') (fun e a w he h => by cases e <;> first | exact absurd rfl he | exact h) rest a w (hx a ha)
  rwa [List.append_nil] at h

/-- A two-sided operation on two values. -/
structure BinV (P : Program) (op : BinOp) (t : TypeId) (a b r : Value) : Prop where
  run : ∀ (x y : Operand) (w : World), (do eqGuard op t x y a b; binOp op t a b : Sem Value).run P w = .ok r w
theorem opv_bin {op : BinOp} {x y : Operand} {t yt ty : TypeId} {a b r : Value} (hx : look L x = some a) (hy : look L y = some b) (hb : BinV P op t a b r) : OpV P (.binOp op t x y yt) ty L w r w := fun ρ o hρ ho _ => by
  have := hb.run x y w
  unfold execOp
  simp only [ho, hρ x _ hx, hρ y _ hy]
  rw [Sem.run_bind, this]
  simp
/-! #### The commonest steps in one word -/
theorem wl_mv {d : Nat} {x : Operand} {ty : TypeId} {pos : String} {aft : Array Edge} {v : Value} (hx : look L x = some v) (hd : Nat.blt d N = true) (h : WL P N ops Q rest ((d, v) :: L) w) :
    WL P N ops Q (⟨some d, .move x, ty, pos, aft, none⟩ :: rest) L w := wl_val (opv_move hx) hd h
theorem wl_as {d : Nat} {x : Operand} {ty : TypeId} {pos : String} {aft : Array Edge} {v : Value} (hx : look L x = some v) (hd : Nat.blt d N = true) (h : WL P N ops Q rest ((d, v) :: L) w) :
    WL P N ops Q (⟨some d, .assign x, ty, pos, aft, none⟩ :: rest) L w := wl_val (opv_assign hx) hd h
theorem wl_bin {d : Nat} {op : BinOp} {x y : Operand} {t yt ty : TypeId} {pos : String} {aft : Array Edge} {a b r : Value} (hx : look L x = some a) (hy : look L y = some b) (hb : BinV P op t a b r) (hd : Nat.blt d N = true) (h : WL P N ops Q rest ((d, r) :: L) w) :
    WL P N ops Q (⟨some d, .binOp op t x y yt, ty, pos, aft, none⟩ :: rest) L w := wl_val (opv_bin hx hy hb) hd h
theorem wc_sr {id : Nat} {l : List Oper} {y : Code} (h : WL P N l.toArray (SeqQ P y Q) l L w) : WC P N (.seq (.region id l.toArray false) y) Q L w := wc_seq (wc_region h)
theorem wl_ns {y : Code} (h : WC P N y Q L w) : WL P N ops (SeqQ P y Q) [] L w := wl_nil (we_seq h)
end ops

/-! ### A region whose order is drawn and whose operations leave the world alone, up to a class of worlds -/
def WQ (P : Program) (N : Nat) (ops : Array Oper) (C : World → Prop) (Qa : Act → Prop) (l : List Oper) (L : FL) : Prop := ∀ a, Has N a L → wpQuiet P ops C Qa l a
/-- The end of such a region. -/
def QEnd (N : Nat) (C : World → Prop) (Q : Exit → Act → World → Prop) (a : Act) : Prop := ∀ w', C w' → Q .normal a w'
section quiet
variable {P : Program} {N : Nat} {ops : Array Oper} {C : World → Prop} {Qa : Act → Prop} {Q : Exit → Act → World → Prop} {rest : List Oper} {L : FL} {w w' : World}
theorem wc_draw {id : Nat} {l : List Oper} (C : World → Prop) (hm : P.follows .mixedOrders = true) (hB : Region.lexB .any l.toArray = true) (hC : C w.drew)
    (h : WQ P N l.toArray C (QEnd N C Q) l L) : WC P N (.region id l.toArray true) Q L w := fun a ha =>
  wp_region_quiet (C := C) hm hB hC (show wpQuiet P l.toArray C (QEnd N C Q) l.toArray.toList a from by simpa using h a ha)
theorem wq_nil (h : ∀ w', C w' → WE N Q .normal L w') : WQ P N ops C (QEnd N C Q) [] L := fun a ha => wpQuiet_nil fun w' hw => h w' hw a ha
theorem wq_val {d : Nat} {op : Op} {ty : TypeId} {pos : String} {aft : Array Edge} {v : Value} (hv : ∀ w, C w → OpV P op ty L w v w) (hd : Nat.blt d N = true)
    (h : WQ P N ops C Qa rest ((d, v) :: L)) : WQ P N ops C Qa (⟨some d, op, ty, pos, aft, none⟩ :: rest) L := fun a ha =>
  wpQuiet_step fun K hK => by
    rw [if_pos (by simp [Region.wanted])]
    refine ⟨v, fun w hw => ?_, hK _ (h _ (ha.put hd v))⟩
    unfold Oper.quietAt
    rw [hv w hw a.eval _ (fun x u hx => ha.eval hx) rfl rfl]
    exact ⟨rfl, rfl⟩
theorem wq_call {d : Nat} {f : FuncId} {xs : List Operand} {ats : Array TypeId} {ty : TypeId} {pos : String} {aft : Array Edge} {vs : List Value} {v : Value}
    (hc : CallOk P f) (hr : ∀ w, C w → CallsV P f vs.toArray w fun u w' => u = v ∧ C w') (hx : Looks L xs vs) (hd : Nat.blt d N = true)
    (h : WQ P N ops C Qa rest ((d, v) :: L)) :
    WQ P N ops C Qa (⟨some d, .call { callee := .value (.func f), args := xs.toArray, argTypes := ats }, ty, pos, aft, none⟩ :: rest) L := fun a ha =>
  wpQuiet_step fun K hK => by
    rw [if_pos (by simp [Region.wanted])]
    refine ⟨v, fun w hw => ?_, hK _ (h _ (ha.put hd v))⟩
    unfold Oper.quietAt
    rw [exec_call rfl hc (fun x u hx => ha.eval hx) hx]
    refine ⟨rfl, Calls.mono (hr w hw) ?_⟩
    rintro _ w' ⟨u, rfl, rfl, hw'⟩
    exact ⟨rfl, hw'⟩
theorem wq_skip {d j g : Nat} {b want : Bool} {op : Op} {ty : TypeId} {pos : String} {aft : Array Edge} (hj : (ops[j]?).bind (·.dst) = some g) (hb : lookT L g = some (.bool b)) (hg : Nat.blt g N = true) (hne : b = !want)
    (hd : Nat.blt d N = true) (h : WQ P N ops C Qa rest ((d, undef) :: L)) : WQ P N ops C Qa (⟨some d, op, ty, pos, aft, some (j, want)⟩ :: rest) L := fun a ha => by
  have hy := yielded_of ha hj hb hg
  unfold wpQuiet
  rw [if_neg (by simp [Region.wanted, hy, hne])]
  exact h _ (ha.put hd undef)
theorem wq_skipU {d j g : Nat} {want : Bool} {op : Op} {ty : TypeId} {pos : String} {aft : Array Edge} (hj : (ops[j]?).bind (·.dst) = some g) (hb : lookT L g = some undef) (hg : Nat.blt g N = true)
    (hd : Nat.blt d N = true) (h : WQ P N ops C Qa rest ((d, undef) :: L)) : WQ P N ops C Qa (⟨some d, op, ty, pos, aft, some (j, want)⟩ :: rest) L := fun a ha => by
  have hy := yielded_undef ha hj hb hg
  unfold wpQuiet
  rw [if_neg (by simp [Region.wanted, hy])]
  exact h _ (ha.put hd undef)
theorem wq_take {d j g : Nat} {b want : Bool} {op : Op} {ty : TypeId} {pos : String} {aft : Array Edge} (hj : (ops[j]?).bind (·.dst) = some g) (hb : lookT L g = some (.bool b)) (hg : Nat.blt g N = true) (he : b = want)
    (h : WQ P N ops C Qa (⟨some d, op, ty, pos, aft, none⟩ :: rest) L) : WQ P N ops C Qa (⟨some d, op, ty, pos, aft, some (j, want)⟩ :: rest) L := fun a ha => by
  have hy := yielded_of ha hj hb hg
  have h' := h a ha
  unfold wpQuiet at h' ⊢
  rw [if_pos (by simp [Region.wanted, hy, he])]
  rw [if_pos (by simp [Region.wanted])] at h'
  exact h'
end quiet

section bins
variable {P : Program} {t : TypeId} {k : IntKind} {a b : Int}
theorem bin_lss : BinV P .lss t (.int k a) (.int k b) (.bool (decide (a < b))) := .mk fun x y w => by simp [eqGuard, binOp, Op.intCmp]
theorem bin_leq : BinV P .leq t (.int k a) (.int k b) (.bool (decide (a ≤ b))) := .mk fun x y w => by simp [eqGuard, binOp, Op.intCmp]
theorem bin_gtr : BinV P .gtr t (.int k a) (.int k b) (.bool (decide (b < a))) := .mk fun x y w => by simp [eqGuard, binOp, Op.intCmp]
theorem bin_geq : BinV P .geq t (.int k a) (.int k b) (.bool (decide (b ≤ a))) := .mk fun x y w => by simp [eqGuard, binOp, Op.intCmp]
theorem bin_eql : BinV P .eql t (.int k a) (.int k b) (.bool (decide (a = b))) := .mk fun x y w => by
  have e : (a == b) = decide (a = b) := by by_cases h : a = b <;> simp [h]
  simp [eqGuard, binOp, Op.intCmp, e]
theorem bin_neq : BinV P .neq t (.int k a) (.int k b) (.bool (decide (a ≠ b))) := .mk fun x y w => by
  have e : (a == b) = decide (a = b) := by by_cases h : a = b <;> simp [h]
  simp [eqGuard, binOp, Op.intCmp, bne, e]
theorem bin_add : BinV P .add t (.int k a) (.int k b) (.int k (k.wrap (a + b))) := .mk fun x y w => by simp [eqGuard, binOp, Op.intArith]
theorem bin_sub : BinV P .sub t (.int k a) (.int k b) (.int k (k.wrap (a - b))) := .mk fun x y w => by simp [eqGuard, binOp, Op.intArith]
theorem bin_mul : BinV P .mul t (.int k a) (.int k b) (.int k (k.wrap (a * b))) := .mk fun x y w => by simp [eqGuard, binOp, Op.intArith]
theorem BinV.to {op : BinOp} {u v r s : Value} (h : BinV P op t u v r) (e : r = s) : BinV P op t u v s := e ▸ h
theorem bin_add64 (h : -9223372036854775808 ≤ a + b ∧ a + b ≤ 9223372036854775807) : BinV P .add t (.int .i64 a) (.int .i64 b) (.int .i64 (a + b)) := bin_add.to (by rw [IntWalk.i64_in _ h])
theorem bin_sub64 (h : -9223372036854775808 ≤ a - b ∧ a - b ≤ 9223372036854775807) : BinV P .sub t (.int .i64 a) (.int .i64 b) (.int .i64 (a - b)) := bin_sub.to (by rw [IntWalk.i64_in _ h])
theorem bin_mul64 (h : -9223372036854775808 ≤ a * b ∧ a * b ≤ 9223372036854775807) : BinV P .mul t (.int .i64 a) (.int .i64 b) (.int .i64 (a * b)) := bin_mul.to (by rw [IntWalk.i64_in _ h])
end bins
end Go.Proofs.Ytcjiecclmepboaa
