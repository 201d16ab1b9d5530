/-
  The texts of this proof, joined: Lib, Eng, Mem, Num, Ty, Args, Pa, Pb, Pc, Pd, Xa, Pe, Pf, Pg, Xb, Xc, Xd.
-/
import Derived.WalkKit
import Derived.WalkSpells
import Derived.WalkLawsBesides
import Derived.Maps.AppendAt
import Derived.Deep.AppendLies
import Derived.Lib.Hide
import Derived.Deep.LoopGhost
import Derived.Deep.QuietTactic
import Derived.BigQuiet
import Derived.Laws.MakeOwn
import Derived.Laws.OwnMore
import Derived.Test.YtaacnknniaipmaaRows
import Derived.ProofKit
import Derived.OpenShut
import Derived.JoinedCond
import Derived.SizedLaws
import Derived.Deep.Matrix
import Derived.Carry

/-
  The words for memory that all walks of this seat use: a slice that reads as a list of values, a slice that the call owns, and the laws of append and make over them. Nothing here names the program.
-/
namespace Go.Proofs.Ytaacnknniaipmaa
open Go.RowKit

/-- A byte as a value of the model. -/
def bv (x : UInt8) : Value := .int .u8 (x.toNat : Int)
/-- Bytes as the cells of a row. -/
def bvs (xs : List UInt8) : List Value := xs.map bv
theorem bvs_length (xs : List UInt8) : (bvs xs).length = xs.length := by simp [bvs]
theorem bvs_append (xs ys : List UInt8) : bvs (xs ++ ys) = bvs xs ++ bvs ys := by simp [bvs]
theorem bvs_one (xs : List UInt8) : ∀ u ∈ bvs xs, u.oneCell' = true := by
  intro u hu; simp [bvs] at hu; obtain ⟨x, _, rfl⟩ := hu; rfl

/-- The slice at address A reads as the n values xs (nil is let in where there are none). -/
def Rd (w : World) (A : Option Addr) (n : Nat) (xs : List Value) : Prop :=
  xs.length = n ∧ (0 < n → ∃ b o, A = some ⟨b, o, none⟩ ∧ b < w.heap.size ∧ ∀ j u, xs[j]? = some u → w.cell? ⟨b, o + j, none⟩ = some u)

/-- The slice at address A, with capacity c, is a row of the call's own, from block base on, and holds the n values xs. -/
def Ow (w : World) (base : Nat) (e : TypeId) (A : Option Addr) (n c : Nat) (xs : List Value) : Prop :=
  w.ownsRow base e 1 (.slice A n c) n xs

section
variable {w w' : World} {A : Option Addr} {n c base : Nat} {e : TypeId} {xs : List Value}

theorem Rd.nil (w : World) (A : Option Addr) : Rd w A 0 [] := ⟨rfl, fun h => by simp at h⟩

theorem Rd.keep (h : Rd w A n xs) (hs : w.heap.size ≤ w'.heap.size) (hk : ∀ k, k < w.heap.size → w'.heap[k]? = w.heap[k]?) : Rd w' A n xs := ⟨h.1, fun hn => by
  obtain ⟨b, o, hA, hb, hc⟩ := h.2 hn
  exact ⟨b, o, hA, by omega, fun j u hu => (World.cell?_of_block (a := ⟨b, o + j, none⟩) (hk b hb)).trans (hc j u hu)⟩⟩

theorem Rd.below (h : Rd w A n xs) (hb : Below w.heap.size w w') : Rd w' A n xs := h.keep hb.size hb.block
theorem Rd.alloc (h : Rd w A n xs) (o : Obj) : Rd (w.alloc o) A n xs := h.keep (by simp) (fun k hk => Below.heap_alloc _ _ _ hk)
theorem Rd.drew (h : Rd w A n xs) : Rd w.drew A n xs := h

theorem Rd.at (h : Rd w A n xs) {k : Nat} (hk : k < n) : ∃ b o u, A = some ⟨b, o, none⟩ ∧ xs[k]? = some u ∧ w.cell? ⟨b, o + k, none⟩ = some u := by
  obtain ⟨b, o, hA, _, hc⟩ := h.2 (by omega)
  have hl : k < xs.length := by have := h.1; omega
  exact ⟨b, o, xs[k], hA, List.getElem?_eq_getElem hl, hc k _ (List.getElem?_eq_getElem hl)⟩

theorem Rd.new (w : World) (cs : Array Value) (e : TypeId) : Rd (w.alloc (.cells cs e)) (some ⟨w.heap.size, 0, none⟩) cs.size cs.toList :=
  ⟨by simp, fun _ => ⟨w.heap.size, 0, rfl, by simp, fun j u hu => by
    rw [cell_of_row _ _ _ cs e (0, 0) (heap_alloc_new w _)]
    simpa using hu⟩⟩

theorem Ow.len (h : Ow w base e A n c xs) : xs.length = n := by simpa using h.1
theorem Ow.nil (w : World) (base : Nat) (e : TypeId) : Ow w base e none 0 0 [] := World.ownsRow_nil w base e 1
theorem Ow.rd (h : Ow w base e A n c xs) : Rd w A n xs := ⟨h.len, fun hn => by
  obtain ⟨g, cap, hv, _, hlt⟩ := World.ownsRow.form h hn
  injection hv with hA
  subst hA
  have hc := World.ownsRow.cells h (g := g) rfl
  refine ⟨g, 0, rfl, hlt, fun j u hu => ?_⟩
  have := hc j u hu
  simpa [Addr.add_lit] using this⟩
theorem Ow.alloc (h : Ow w base e A n c xs) (o : Obj) : Ow (w.alloc o) base e A n c xs := World.ownsRow.alloc h o
theorem Ow.below {B : Nat} (h : Ow w base e A n c xs) (hb : Below B w w') (hB : w.heap.size ≤ B) : Ow w' base e A n c xs :=
  World.ownsRow.kept (row := none) h ⟨hb.os, hb.tape, hb.output, hb.size, fun k hk _ => hb.block k (by omega)⟩ (by
    cases (Value.slice A n c).ownBlock <;> simp)
theorem Ow.mono {base' : Nat} (h : Ow w base e A n c xs) (hb : base' ≤ base) : Ow w base' e A n c xs := by
  refine ⟨h.1, ?_⟩
  rcases h.2 with hn | ⟨g, cap, cur, hv, hg, rest⟩
  · exact .inl hn
  · exact .inr ⟨g, cap, cur, hv, Nat.le_trans hb hg, rest⟩

/-- append onto a row of the call's own, whatever the source. -/
theorem wpList_app {P : Program} {ops : Array Oper} {rest : List Oper} {o : Oper} {a : Act} {Q : Exit → Act → World → Prop} (hgd : o.guard = none) (s x : Operand) (t : TypeId)
    (ho : o.op = .call { callee := .builtin .append, args := #[s, x], argTypes := #[t, t] }) {z : Value} {bytes : Nat} (ht : P.underlying t = some (.slice e))
    (hi : (P.info? e).map (fun i => (i.zero, i.size, i.bytes)) = some (some z, 1, bytes)) (hzs : z.cells.size = 1)
    (hs : a.eval s = .slice A n c) (hown : Ow w base e A n c xs) {B : Option Addr} {m d : Nat} {ys : List Value} (hx : a.eval x = .slice B m d) (hr : Rd w B m ys) (h1 : ∀ u ∈ ys, u.oneCell' = true)
    (hbytes : (n + m) * bytes ≤ 140737488355328) (hmax : n + m ≤ maxLen) (hbase : base ≤ w.heap.size)
    (h : ∀ A' c' w', Ow w' base e A' (n + m) c' (xs ++ ys) → w.grownBy w' (Value.slice A n c).ownBlock → (A'.map (·.block) = A.map (·.block) ∨ A'.map (·.block) = some w.heap.size) → wpList P ops Q rest (a.put o.dst (.slice A' (n + m) c')) w') : wpList P ops Q (o :: rest) a w := by
  obtain ⟨i, hi0, hz, hs1, hby⟩ := info_parts hi
  have hob : ∀ (A : Option Addr) n c, (Value.slice A n c).ownBlock = A.map (·.block) := fun A _ _ => by cases A <;> rfl
  have hfin : ∀ v' w', w'.ownsRow base e 1 v' (n + m) (xs ++ ys) → w.grownBy w' (Value.slice A n c).ownBlock → (v'.ownBlock = (Value.slice A n c).ownBlock ∨ v'.ownBlock = some w.heap.size) →
      wpList P ops Q rest (a.put o.dst v') w' := by
    intro v' w' h2 h3 h4
    rcases h2.2 with ⟨rfl, h0⟩ | ⟨g, cap, cur, rfl, _⟩
    · have := h none 0 w' (by rw [h0] at h2 ⊢; exact h2) h3 (by simpa only [hob] using h4)
      rw [h0] at this
      exact this
    · exact h _ _ w' h2 h3 (by simpa only [hob] using h4)
  rcases B with _ | ad
  · have hm : m = 0 := by
      rcases Nat.eq_zero_or_pos m with h0 | h0
      · exact h0
      · obtain ⟨_, _, h, _⟩ := hr.2 h0; cases h
    subst hm
    have hn : ys = [] := List.eq_nil_of_length_eq_zero hr.1
    subst hn
    have hrun : (Builtin.append_ #[t, t] o.type #[.slice A n c, .slice none 0 d]).run P w = .ok (.slice A n c) w := by
      rcases hown.2 with ⟨hv, hn0⟩ | ⟨g, cap, cur, hv, _, _, hnc, _⟩
      · injection hv with hA hn hc; subst hA hn0 hc
        simp [Builtin.append_, run_underlying ht, sizeOf, typeInfo, hi0, Builtin.lenOf, Builtin.firstCells]
      · injection hv with hA hn hc; subst hA hc
        simp [Builtin.append_, run_underlying ht, sizeOf, typeInfo, hi0, Builtin.lenOf, Builtin.firstCells, hnc, storeCells]
    refine wpList_plain hgd fun K hK => ?_
    unfold Oper.wp execOp
    simp only [ho, resolve, invoke, builtin, Sem.run_bind, Sem.run_pure, Result.andThen_ok, List.map_toArray, List.map_cons, List.map_nil, hs, hx, hrun]
    refine hK _ _ (hfin _ _ (by rw [List.append_nil]; exact hown) ⟨rfl, rfl, rfl, Nat.le_refl _, fun _ _ _ => rfl⟩ (.inl rfl))
  · by_cases h0 : 0 < m
    · obtain ⟨b, of, hA, _, hc⟩ := hr.2 h0
      injection hA with hA
      subst hA
      exact wpList_append_own_at w hgd s x t ho base e i z 1 bytes ht hi0 hz hs1 hby hzs (by decide) _ n xs hs hown _ m d ys hx (by simpa using hr.1)
        (fun j u hu => by rw [Addr.add_lit]; exact hc j u hu) h1 hmax hbytes hbase fun v' w' h2 h3 _ h4 => hfin v' w' h2 h3 h4
    · have hm : m = 0 := by omega
      subst hm
      have hn : ys = [] := List.eq_nil_of_length_eq_zero hr.1
      subst hn
      exact wpList_append_own_at w hgd s x t ho base e i z 1 bytes ht hi0 hz hs1 hby hzs (by decide) _ n xs hs hown ad 0 d [] hx (by simp)
        (fun j u hu => by simp at hu) h1 hmax hbytes hbase fun v' w' h2 h3 _ h4 => hfin v' w' h2 h3 h4
end
end Go.Proofs.Ytaacnknniaipmaa

/-
  An engine for walks: the frame of a Go function is told by a short list of slots and values, and each kind of code and of operation has one rule. Nothing here names the program.
-/
namespace Go.Proofs.Ytaacnknniaipmaa
open Go.RowKit

/-- What is known of the frame's slots; the newest entry of a slot counts. -/
abbrev FL := List (Nat × Value)
def lookT : FL → Nat → Option Value
  | [], _ => none
  | (i, v) :: L, t => cond (Nat.beq i t) (some v) (lookT L t)
def look (L : FL) : Operand → Option Value
  | .tmp t => lookT L t
  | .const v => some v
  | .global g => some (.pointer (some ⟨g, 0, none⟩))
  | .func f => some (.func (.func f) #[] #[])
/-- All slots of the one list are known, with these values, in the other. -/
def Sub : FL → FL → Prop
  | [], _ => True
  | (i, v) :: L, M => lookT M i = some v ∧ Sub L M
def numb : Nat → List Value → FL
  | _, [] => []
  | k, v :: vs => (k, v) :: numb (k + 1) vs

structure Has (N : Nat) (a : Act) (L : FL) : Prop where
  nodefer : a.defers = []
  size : a.tmps.size = N
  get : ∀ t v, lookT L t = some v → a.tmps.getD t undef = v

theorem lookT_cons {i t : Nat} {v u : Value} {L : FL} (h : lookT ((i, v) :: L) t = some u) : (i = t ∧ u = v) ∨ (i ≠ t ∧ lookT L t = some u) := by
  unfold lookT at h
  cases hb : Nat.beq i t with
  | true => rw [hb] at h; exact .inl ⟨Nat.eq_of_beq_eq_true hb, by simpa using h.symm⟩
  | false => rw [hb] at h; exact .inr ⟨Nat.ne_of_beq_eq_false hb, h⟩

section
variable {N : Nat} {a : Act} {L M : FL}
theorem Has.eval (h : Has N a L) {x : Operand} {v : Value} (hx : look L x = some v) : a.eval x = v := by
  cases x with
  | tmp t => exact h.get t v hx
  | const c => simpa [look, Act.eval] using hx
  | global g => simpa [look, Act.eval] using hx
  | func f => simpa [look, Act.eval] using hx
theorem Has.sub (h : Has N a L) (hs : Sub M L) : Has N a M := by
  refine ⟨h.nodefer, h.size, ?_⟩
  intro t v ht
  have : lookT L t = some v := by
    clear h
    induction M with
    | nil => simp [lookT] at ht
    | cons p M ih =>
      obtain ⟨i, u⟩ := p
      rcases lookT_cons ht with ⟨rfl, rfl⟩ | ⟨_, h⟩
      · exact hs.1
      · exact ih hs.2 h
  exact h.get t v this
theorem Has.put (h : Has N a L) {d : Nat} (hd : Nat.blt d N = true) (v : Value) : Has N (a.put (some d) v) ((d, v) :: L) := by
  have hd' : d < a.tmps.size := by rw [h.size]; simpa [Nat.blt_eq] using hd
  refine ⟨h.nodefer, by simpa [Act.put] using h.size, ?_⟩
  intro t u ht
  rcases lookT_cons ht with ⟨rfl, rfl⟩ | ⟨hne, h'⟩
  · simp [Act.put, hd']
  · have := h.get t u h'
    simpa [Act.put, Array.getElem?_setIfInBounds, hne] using this
end

/-- Code, a region's operations, and the end of a piece of code, from a frame that is known so far. -/
def WC (P : Program) (N : Nat) (c : Code) (Q : Exit → Act → World → Prop) (L : FL) (w : World) : Prop := ∀ a, Has N a L → c.wp P Q a w
def WL (P : Program) (N : Nat) (ops : Array Oper) (Q : Exit → Act → World → Prop) (l : List Oper) (L : FL) (w : World) : Prop := ∀ a, Has N a L → wpList P ops Q l a w
def WE (N : Nat) (Q : Exit → Act → World → Prop) (e : Exit) (L : FL) (w : World) : Prop := ∀ a, Has N a L → Q e a w

/-- A call that hands back a value. -/
def CallsV (P : Program) (f : FuncId) (args : Array Value) (w : World) (R : Value → World → Prop) : Prop :=
  Calls P f args w fun e w' => ∃ v, e = .returned v ∧ R v w'
theorem CallsV.mono {P : Program} {f : FuncId} {args : Array Value} {w : World} {R R' : Value → World → Prop} (h : CallsV P f args w R) (hr : ∀ v w', R v w' → R' v w') : CallsV P f args w R' :=
  Calls.mono h fun _ w' ⟨v, he, h⟩ => ⟨v, he, hr v w' h⟩

theorem bT {p : Prop} {_ : Decidable p} (h : p) : decide p = true := decide_eq_true h
theorem bF {p : Prop} {_ : Decidable p} (h : ¬ p) : decide p = false := decide_eq_false h
theorem bTn {p : Prop} {_ : Decidable p} (h : p) : decide p = !false := decide_eq_true h
theorem bFn {p : Prop} {_ : Decidable p} (h : ¬ p) : decide p = !true := decide_eq_false h
theorem nne {α : Sort _} {a : α} : ¬ (a ≠ a) := fun h => h rfl
theorem bR1 : true = !false := rfl
section control
variable {P : Program} {N : Nat} {Q : Exit → Act → World → Prop} {L : FL} {w : World}

theorem wc_sub {c : Code} (M : FL) (hs : Sub M L) (h : WC P N c Q M w) : WC P N c Q L w := fun a ha => h a (ha.sub hs)
theorem wc_skip (h : WE N Q .normal L w) : WC P N .skip Q L w := fun a ha => wp_skip (h a ha)
/-- What must hold at the end of the first of two pieces of code. -/
def SeqQ (P : Program) (y : Code) (Q : Exit → Act → World → Prop) : Exit → Act → World → Prop := Exit.then (y.wp P Q) Q
theorem wc_seq {x y : Code} (h : WC P N x (SeqQ P y Q) L w) : WC P N (.seq x y) Q L w := fun a ha => wp_seq (h a ha)
theorem wc_block {id : Nat} {c : Code} (h : WC P N c (Exit.inBlock id Q) L w) : WC P N (.block id c) Q L w := fun a ha => wp_block (h a ha)
theorem wc_exit {id : Nat} (h : WE N Q (.exit id) L w) : WC P N (.exit id) Q L w := fun a ha => wp_exit (h a ha)
theorem wc_ret (h : WE N Q .ret L w) : WC P N .ret Q L w := fun a ha => wp_ret (h a ha)
theorem wc_cond {c : Operand} {x y : Code} {p : Prop} [Decidable p] (hc : look L c = some (.bool (decide p))) (ht : p → WC P N x Q L w) (hf : ¬ p → WC P N y Q L w) : WC P N (.cond c x y) Q L w :=
  fun a ha => wp_cond_split (ha.eval hc) (fun h => ht (of_decide_eq_true h) a ha) (fun h => hf (of_decide_eq_false h) a ha)
theorem wc_condB {c : Operand} {x y : Code} {t : Bool} (hc : look L c = some (.bool t)) (ht : t = true → WC P N x Q L w) (hf : t = false → WC P N y Q L w) : WC P N (.cond c x y) Q L w :=
  fun a ha => wp_cond_split (ha.eval hc) (fun h => ht h a ha) (fun h => hf h a ha)
theorem wc_condF {c : Operand} {x y : Code} (hc : look L c = some (.bool false)) (ht : WC P N y Q L w) : WC P N (.cond c x y) Q L w :=
  fun a ha => wp_cond_false (ha.eval hc) (ht a ha)
theorem wc_decT {c : Operand} {x y : Code} {p : Prop} {_ : Decidable p} (hc : look L c = some (.bool (decide p))) (hp : p) (h : WC P N x Q L w) : WC P N (.cond c x y) Q L w :=
  fun a ha => wp_cond_true ((ha.eval hc).trans (by rw [decide_eq_true hp])) (h a ha)
theorem wc_decF {c : Operand} {x y : Code} {p : Prop} {_ : Decidable p} (hc : look L c = some (.bool (decide p))) (hp : ¬ p) (h : WC P N y Q L w) : WC P N (.cond c x y) Q L w :=
  fun a ha => wp_cond_false ((ha.eval hc).trans (by rw [decide_eq_false hp])) (h a ha)
theorem wc_condTb {c : Operand} {x y : Code} {b : Bool} (hc : look L c = some (.bool b)) (hb : b = true) (h : WC P N x Q L w) : WC P N (.cond c x y) Q L w :=
  fun a ha => wp_cond_true ((ha.eval hc).trans (by rw [hb])) (h a ha)
theorem wc_condFb {c : Operand} {x y : Code} {b : Bool} (hc : look L c = some (.bool b)) (hb : b = false) (h : WC P N y Q L w) : WC P N (.cond c x y) Q L w :=
  fun a ha => wp_cond_false ((ha.eval hc).trans (by rw [hb])) (h a ha)
theorem wc_region {id : Nat} {l : List Oper} (h : WL P N l.toArray Q l L w) : WC P N (.region id l.toArray false) Q L w := fun a ha => wp_region_lit (h a ha)

/-- What a loop's round hands on. -/
def LoopK (N : Nat) (I : FL → World → Nat → Prop) (m : Nat) : Act → World → Prop := fun a w => ∃ m', m' < m ∧ ∃ L, I L w m' ∧ Has N a L
def LoopQ (N : Nat) (I : FL → World → Nat → Prop) (m : Nat) (Q : Exit → Act → World → Prop) : Exit → Act → World → Prop := Exit.then (LoopK N I m) Q
theorem wc_loop {c : Code} (I : FL → World → Nat → Prop) (L0 : FL) (m0 : Nat) (h0 : I L0 w m0) (hs : Sub L0 L)
    (round : ∀ L w m, I L w m → WC P N c (LoopQ N I m Q) L w) : WC P N (.loop c) Q L w := fun a ha =>
  wp_loop_ghost (fun m a w => ∃ L, I L w m ∧ Has N a L) m0 ⟨L0, h0, ha.sub hs⟩ fun m a' w' ⟨L', hI, ha'⟩ => round L' w' m hI a' ha'
/-- What is known where ways meet. -/
def CutK (N : Nat) (J : FL → World → Prop) : Act → World → Prop := fun a w => ∃ L, J L w ∧ Has N a L
def CutQ (N : Nat) (J : FL → World → Prop) (Q : Exit → Act → World → Prop) : Exit → Act → World → Prop := Exit.then (CutK N J) Q
theorem wc_cut {x y : Code} (J : FL → World → Prop) (hx : WC P N x (CutQ N J Q) L w) (hy : ∀ L w, J L w → WC P N y Q L w) : WC P N (.seq x y) Q L w := fun a ha =>
  wp_seq (wp_mono (hx a ha) fun e a' w' h => by
    cases e with
    | normal => obtain ⟨L', hJ, ha'⟩ := h; exact hy L' w' hJ a' ha'
    | _ => exact h)
/-- The same ahead of the end of a piece of code. -/
theorem wc_cutE {x : Code} (J : FL → World → Prop) (hx : WC P N x (CutQ N J Q) L w) (hy : ∀ L w, J L w → WE N Q .normal L w) : WC P N x Q L w := fun a ha =>
  wp_mono (hx a ha) fun e a' w' h => by
    cases e with
    | normal => obtain ⟨L', hJ, ha'⟩ := h; exact hy L' w' hJ a' ha'
    | _ => exact h

theorem we_seq {y : Code} (h : WC P N y Q L w) : WE N (SeqQ P y Q) .normal L w := h
theorem we_seq_exit {y : Code} {id : Nat} (h : WE N Q (.exit id) L w) : WE N (SeqQ P y Q) (.exit id) L w := h
theorem we_seq_ret {y : Code} (h : WE N Q .ret L w) : WE N (SeqQ P y Q) .ret L w := h
theorem we_loop_exit {I : FL → World → Nat → Prop} {m id : Nat} (h : WE N Q (.exit id) L w) : WE N (LoopQ N I m Q) (.exit id) L w := h
theorem we_loop_ret {I : FL → World → Nat → Prop} {m : Nat} (h : WE N Q .ret L w) : WE N (LoopQ N I m Q) .ret L w := h
theorem we_cut_ret {J : FL → World → Prop} (h : WE N Q .ret L w) : WE N (CutQ N J Q) .ret L w := h
theorem we_loop {I : FL → World → Nat → Prop} {m : Nat} (M : FL) (m' : Nat) (hI : I M w m') (hm : m' < m) (hs : Sub M L) : WE N (LoopQ N I m Q) .normal L w :=
  fun _ ha => ⟨m', hm, M, hI, ha.sub hs⟩
theorem we_cut {J : FL → World → Prop} (M : FL) (hJ : J M w) (hs : Sub M L) : WE N (CutQ N J Q) .normal L w := fun _ ha => ⟨M, hJ, ha.sub hs⟩
theorem we_block_norm {id : Nat} (h : WE N Q .normal L w) : WE N (Exit.inBlock id Q) .normal L w := h
theorem we_block_ret {id : Nat} (h : WE N Q .ret L w) : WE N (Exit.inBlock id Q) .ret L w := h
theorem we_block_exit {id : Nat} (h : WE N Q .normal L w) : WE N (Exit.inBlock id Q) (.exit id) L w := fun a ha => by
  simp only [Exit.inBlock, if_true]; exact h a ha

/-- The end of a function. -/
theorem we_ret0 {fn : Func} {R : Ending → World → Prop} (hr : fn.results = #[]) (h : R (.returned (.tuple #[])) w) : WE N (bodyPost P fn R) .ret L w := fun a ha =>
  ⟨ha.nodefer, _, results_none hr a.tmps P w, h⟩
theorem we_end0 {fn : Func} {R : Ending → World → Prop} (hr : fn.results = #[]) (h : R (.returned (.tuple #[])) w) : WE N (bodyPost P fn R) .normal L w := fun a ha =>
  ⟨ha.nodefer, _, results_none hr a.tmps P w, h⟩
theorem we_ret1 {fn : Func} {R : Ending → World → Prop} {t : Nat} {v : Value} (hr : fn.results = #[.tmp t]) (hx : lookT L t = some v) (h : R (.returned v) w) : WE N (bodyPost P fn R) .ret L w := fun a ha =>
  ⟨ha.nodefer, v, by rw [results_tmp hr a.tmps P w, ha.get t v hx], h⟩
theorem we_ret2 {fn : Func} {R : Ending → World → Prop} {t1 t2 : Nat} {v1 v2 : Value} (hr : fn.results = #[.tmp t1, .tmp t2]) (h1 : lookT L t1 = some v1) (h2 : lookT L t2 = some v2)
    (h : R (.returned (.tuple #[v1, v2])) w) : WE N (bodyPost P fn R) .ret L w := fun a ha =>
  ⟨ha.nodefer, _, by rw [results_tmp2 hr a.tmps P w, ha.get t1 v1 h1, ha.get t2 v2 h2], h⟩
theorem results_tmp3' {fn : Func} {t u s : Tmp} (h : fn.results = #[.tmp t, .tmp u, .tmp s]) (tmps : Array Value) (P : Program) (w : World) :
    (results fn tmps).run P w = .ok (.tuple #[tmps.getD t undef, tmps.getD u undef, tmps.getD s undef]) w := by
  simp [results, h]
theorem we_ret3 {fn : Func} {R : Ending → World → Prop} {t1 t2 t3 : Nat} {v1 v2 v3 : Value} (hr : fn.results = #[.tmp t1, .tmp t2, .tmp t3]) (h1 : lookT L t1 = some v1) (h2 : lookT L t2 = some v2) (h3 : lookT L t3 = some v3)
    (h : R (.returned (.tuple #[v1, v2, v3])) w) : WE N (bodyPost P fn R) .ret L w := fun a ha =>
  ⟨ha.nodefer, _, by rw [results_tmp3' hr a.tmps P w, ha.get t1 v1 h1, ha.get t2 v2 h2, ha.get t3 v3 h3], h⟩

theorem lookT_numb (vs : List Value) : ∀ k t v, lookT (numb k vs) t = some v → k ≤ t ∧ vs[t - k]? = some v := by
  induction vs with
  | nil => intro k t v h; simp [numb, lookT] at h
  | cons x vs ih =>
    intro k t v h
    rcases lookT_cons h with ⟨rfl, rfl⟩ | ⟨_, h⟩
    · simp
    · obtain ⟨h1, h2⟩ := ih _ _ _ h
      refine ⟨by omega, ?_⟩
      have : t - k = (t - (k + 1)) + 1 := by omega
      rw [this]; simpa using h2

/-- A function's body. -/
theorem calls_in {f : FuncId} {fn : Func} {c : Code} {args : List Value} {R : Value → World → Prop} (hf : P.funcs[f]? = some fn) (hb : fn.body = some c) (hN : fn.ntmps = N) (hle : Nat.ble args.length N = true)
    (h : WC P N c (bodyPost P fn fun e w' => ∃ v, e = .returned v ∧ R v w') (numb 0 args) w) : CallsV P f args.toArray w R := by
  refine calls_of_wp hf hb (h _ ⟨rfl, ?_, ?_⟩)
  · have := Nat.le_of_ble_eq_true hle
    simp [hN]; omega
  · intro t v ht
    obtain ⟨_, h2⟩ := lookT_numb args 0 t v ht
    simp only [Nat.sub_zero] at h2
    have hlt : t < args.length := by
      rcases Nat.lt_or_ge t args.length with h | h
      · exact h
      · rw [List.getElem?_eq_none h] at h2; cases h2
    rw [List.getElem?_eq_getElem hlt] at h2
    simp [Array.getElem?_append, hlt]
    simpa using h2
end control

/-! ### Operations -/
theorem upon_mono {P : Program} {o : Oper} {a : Act} {K K' : Act → World → Prop} {Q Q' : Exit → Act → World → Prop} (hK : ∀ a w, K a w → K' a w) (hQ : ∀ e a w, e ≠ .normal → Q e a w → Q' e a w) {r : Result Next}
    (h : o.upon P a K Q r) : o.upon P a K' Q' r := by
  cases r with
  | ok n w =>
    cases n with
    | value v => exact hK _ _ h
    | skip => exact hK _ _ h
    | defer d => exact hK _ _ h
    | enter f args =>
      refine Calls.mono (show Calls P f args w _ from h) fun e w' h => ?_
      cases e with
      | returned v => exact hK _ _ h
      | panicked c => exact hQ _ _ _ (by simp) h
      | outgrown => obtain ⟨a0, w0, h⟩ := h; exact ⟨a0, w0, hQ _ _ _ (by simp) h⟩
    | row r args => exact Rows.mono (show Rows P r args w _ from h) fun v w' h => hK _ _ h
    | _ => exact h
  | halt x w =>
    cases x with
    | panic v => exact hQ _ _ _ (by simp) h
    | _ => exact h
theorem wpList_append {P : Program} {ops : Array Oper} {Q Q' : Exit → Act → World → Prop} {l2 : List Oper} (h2 : ∀ a w, Q .normal a w → wpList P ops Q' l2 a w) (hQ : ∀ e a w, e ≠ .normal → Q e a w → Q' e a w) :
    ∀ (l1 : List Oper) (a : Act) (w : World), wpList P ops Q l1 a w → wpList P ops Q' (l1 ++ l2) a w
  | [], a, w, h => h2 a w h
  | o :: l1, a, w, h => by
    have ih := wpList_append (P := P) (ops := ops) h2 hQ l1
    simp only [List.cons_append]
    unfold wpList at h ⊢
    split at h
    · rename_i hw
      rw [if_pos hw]
      rcases h with h | ⟨ha, a0, w0, h⟩
      · exact .inl (upon_mono ih hQ h)
      · exact .inr ⟨ha, a0, w0, hQ _ _ _ (by simp) h⟩
    · rename_i hw
      rw [if_neg hw]
      exact ih _ _ h

/-- Operation op, its operands read by L, yields the value v and leaves the world w'. -/
def OpV (P : Program) (op : Op) (ty : TypeId) (L : FL) (w : World) (v : Value) (w' : World) : Prop :=
  ∀ (ρ : Operand → Value) (o : Oper), (∀ x u, look L x = some u → ρ x = u) → o.op = op → o.type = ty → (execOp ρ o).run P w = .ok (.value v) w'
def OpU (P : Program) (op : Op) (ty : TypeId) (L : FL) (w : World) (w' : World) : Prop :=
  ∀ (ρ : Operand → Value) (o : Oper), (∀ x u, look L x = some u → ρ x = u) → o.op = op → o.type = ty → (execOp ρ o).run P w = .ok .skip w'
def CallOk (P : Program) (f : FuncId) : Prop := ∀ args w, (callFunc f args).run P w = .ok (.enter f args) w
theorem callOk {P : Program} {f : FuncId} {fn : Func} (hf : P.funcs[f]? = some fn) (hn : (fn.name == "runtime.NumGoroutine") = false) (hb : fn.body.isNone = false) : CallOk P f := by
  intro args w
  have hn' : ¬ fn.name = "runtime.NumGoroutine" := by simpa using hn
  have hb' : ¬ fn.body = none := by intro h; rw [h] at hb; cases hb
  simp [callFunc, program, hf, hn', hb', Sem.run, bind, Sem.bind, pure]

section ops
variable {P : Program} {N : Nat} {ops : Array Oper} {Q : Exit → Act → World → Prop} {rest : List Oper} {L : FL} {w w' : World}

theorem wl_nil (h : WE N Q .normal L w) : WL P N ops Q [] L w := fun a ha => wpList_nil (h a ha)

theorem wl_val {d : Nat} {op : Op} {ty : TypeId} {pos : String} {aft : Array Edge} {v : Value} (hv : OpV P op ty L w v w') (hd : Nat.blt d N = true)
    (h : WL P N ops Q rest ((d, v) :: L) w') : WL P N ops Q (⟨some d, op, ty, pos, aft, none⟩ :: rest) L w := fun a ha =>
  wpList_plain rfl fun K hK => by
    unfold Oper.wp
    rw [hv a.eval _ (fun x u hx => ha.eval hx) rfl rfl]
    exact hK _ _ (h _ (ha.put hd v))
theorem wl_unitN {op : Op} {ty : TypeId} {pos : String} {aft : Array Edge} (hv : OpU P op ty L w w')
    (h : WL P N ops Q rest L w') : WL P N ops Q (⟨none, op, ty, pos, aft, none⟩ :: rest) L w := fun a ha =>
  wpList_plain rfl fun K hK => by
    unfold Oper.wp
    rw [hv a.eval _ (fun x u hx => ha.eval hx) rfl rfl]
    exact hK _ _ (h _ ha)

/-- The operands of a call. -/
def Looks (L : FL) : List Operand → List Value → Prop
  | [], [] => True
  | x :: xs, v :: vs => look L x = some v ∧ Looks L xs vs
  | _, _ => False
theorem Looks.map {ρ : Operand → Value} (hρ : ∀ x u, look L x = some u → ρ x = u) : ∀ {xs : List Operand} {vs : List Value}, Looks L xs vs → xs.map ρ = vs
  | [], [], _ => rfl
  | x :: xs, v :: vs, h => by rw [List.map_cons, hρ x v h.1, Looks.map hρ h.2]
  | [], _ :: _, h => h.elim
  | _ :: _, [], h => h.elim

theorem exec_call {ρ : Operand → Value} {o : Oper} {f : FuncId} {xs : List Operand} {vs : List Value} {ats : Array TypeId} (ho : o.op = .call { callee := .value (.func f), args := xs.toArray, argTypes := ats })
    (hc : CallOk P f) (hρ : ∀ x u, look L x = some u → ρ x = u) (hx : Looks L xs vs) : (execOp ρ o).run P w = .ok (.enter f vs.toArray) w := by
  have hf : ρ (.func f) = .func (.func f) #[] #[] := hρ _ _ rfl
  have hm := Looks.map hρ hx
  unfold execOp
  simp only [ho, resolve, Deferred.ofValue, hf, Sem.run_bind, Sem.run_pure, Result.andThen_ok, invoke]
  have : (#[] ++ Array.map ρ xs.toArray ++ #[]) = vs.toArray := by simp [hm]
  rw [this]
  exact hc _ _

theorem wl_call {d : Nat} {f : FuncId} {xs : List Operand} {ats : Array TypeId} {ty : TypeId} {pos : String} {aft : Array Edge} {vs : List Value} {R : Value → World → Prop}
    (hc : CallOk P f) (hr : CallsV P f vs.toArray w R) (hx : Looks L xs vs) (hd : Nat.blt d N = true)
    (h : ∀ v w', R v w' → WL P N ops Q rest ((d, v) :: L) w') :
    WL P N ops Q (⟨some d, .call { callee := .value (.func f), args := xs.toArray, argTypes := ats }, ty, pos, aft, none⟩ :: rest) L w := fun a ha =>
  wpList_plain rfl fun K hK => by
    unfold Oper.wp
    rw [exec_call rfl hc (fun x u hx => ha.eval hx) hx]
    refine Calls.mono hr ?_
    rintro _ w' ⟨v, rfl, hv⟩
    exact hK _ _ (h v w' hv _ (ha.put hd v))

/-- A guarded operation: its guard is the Bool that operation j has left in slot g. -/
theorem yielded_of {a : Act} {j g : Nat} {b : Bool} (ha : Has N a L) (hj : (ops[j]?).bind (·.dst) = some g) (hb : lookT L g = some (.bool b)) (hg : Nat.blt g N = true) : yielded ops a.tmps j = some b := by
  have hlt : g < a.tmps.size := by rw [ha.size]; simpa [Nat.blt_eq] using hg
  have h1 := ha.get g _ hb
  unfold yielded
  rw [hj]
  simp only [Option.bind_some]
  have : a.tmps[g]? = some (.bool b) := by
    rw [Array.getD_eq_getD_getElem?] at h1
    rw [Array.getElem?_eq_getElem hlt] at h1 ⊢
    simpa using h1
  rw [this]
theorem yielded_undef {a : Act} {j g : Nat} (ha : Has N a L) (hj : (ops[j]?).bind (·.dst) = some g) (hb : lookT L g = some undef) (hg : Nat.blt g N = true) : yielded ops a.tmps j = none := by
  have hlt : g < a.tmps.size := by rw [ha.size]; simpa [Nat.blt_eq] using hg
  have h1 := ha.get g _ hb
  unfold yielded
  rw [hj]
  simp only [Option.bind_some]
  have : a.tmps[g]? = some undef := by
    rw [Array.getD_eq_getD_getElem?] at h1
    rw [Array.getElem?_eq_getElem hlt] at h1 ⊢
    simpa using h1
  rw [this]; rfl
/-- A guarded operation whose guard was itself passed over. -/
theorem wl_skipU {d j g : Nat} {want : Bool} {op : Op} {ty : TypeId} {pos : String} {aft : Array Edge} (hj : (ops[j]?).bind (·.dst) = some g) (hb : lookT L g = some undef) (hg : Nat.blt g N = true)
    (hd : Nat.blt d N = true) (h : WL P N ops Q rest ((d, undef) :: L) w) : WL P N ops Q (⟨some d, op, ty, pos, aft, some (j, want)⟩ :: rest) L w := fun a ha => by
  have hy := yielded_undef ha hj hb hg
  unfold wpList
  rw [if_neg (by simp [Region.wanted, hy])]
  exact h _ (ha.put hd undef)
theorem wl_skip {d j g : Nat} {b want : Bool} {op : Op} {ty : TypeId} {pos : String} {aft : Array Edge} (hj : (ops[j]?).bind (·.dst) = some g) (hb : lookT L g = some (.bool b)) (hg : Nat.blt g N = true) (hne : b = !want)
    (hd : Nat.blt d N = true) (h : WL P N ops Q rest ((d, undef) :: L) w) : WL P N ops Q (⟨some d, op, ty, pos, aft, some (j, want)⟩ :: rest) L w := fun a ha => by
  have hy := yielded_of ha hj hb hg
  unfold wpList
  rw [if_neg (by simp [Region.wanted, hy, hne])]
  exact h _ (ha.put hd undef)
/-- A guarded operation that is wanted is as if it had no guard. -/
theorem wl_take {d j g : Nat} {b want : Bool} {op : Op} {ty : TypeId} {pos : String} {aft : Array Edge} (hj : (ops[j]?).bind (·.dst) = some g) (hb : lookT L g = some (.bool b)) (hg : Nat.blt g N = true) (he : b = want)
    (h : WL P N ops Q (⟨some d, op, ty, pos, aft, none⟩ :: rest) L w) : WL P N ops Q (⟨some d, op, ty, pos, aft, some (j, want)⟩ :: rest) L w := fun a ha => by
  have hy := yielded_of ha hj hb hg
  have h' := h a ha
  unfold wpList at h' ⊢
  rw [if_pos (by simp [Region.wanted, hy, he])]
  rw [if_pos (by simp [Region.wanted])] at h'
  exact h'

/-! #### Values -/
theorem opv_move {x : Operand} {ty : TypeId} {v : Value} (hx : look L x = some v) : OpV P (.move x) ty L w v w := fun ρ o hρ ho _ => by
  simp [execOp, ho, hρ x v hx]
theorem opv_assign {x : Operand} {ty : TypeId} {v : Value} (hx : look L x = some v) : OpV P (.assign x) ty L w v w := fun ρ o hρ ho _ => by
  simp [execOp, ho, hρ x v hx]
theorem opv_pick {c x y : Operand} {ty : TypeId} {b : Bool} {v : Value} (hc : look L c = some (.bool b)) (ht : b = true → look L x = some v) (hf : b = false → look L y = some v) : OpV P (.pick c x y) ty L w v w := fun ρ o hρ ho _ => by
  cases b with
  | true => simp [execOp, ho, hρ c _ hc, hρ x _ (ht rfl), asBool]
  | false => simp [execOp, ho, hρ c _ hc, hρ y _ (hf rfl), asBool]
def nthV : List Value → Nat → Option Value
  | [], _ => none
  | v :: _, 0 => some v
  | _ :: r, k + 1 => nthV r k
theorem nthV_eq : ∀ (vs : List Value) (k : Nat), nthV vs k = vs[k]?
  | [], _ => by simp [nthV]
  | v :: _, 0 => by simp [nthV]
  | _ :: r, k + 1 => by simp [nthV, nthV_eq r k]
theorem opv_extract {x : Operand} {k : Nat} {ty : TypeId} {vs : List Value} {v : Value} (hx : look L x = some (.tuple vs.toArray)) (hv : nthV vs k = some v) : OpV P (.extract x k) ty L w v w := fun ρ o hρ ho _ => by
  rw [nthV_eq] at hv
  simp [execOp, ho, hρ x _ hx, Instr.extract, hv]

theorem opv_pickT {c x y : Operand} {ty : TypeId} {b : Bool} {v : Value} (hc : look L c = some (.bool b)) (hb : b = true) (hx : look L x = some v) : OpV P (.pick c x y) ty L w v w := opv_pick hc (fun _ => hx) (fun h => by rw [hb] at h; cases h)
theorem opv_pickF {c x y : Operand} {ty : TypeId} {b : Bool} {v : Value} (hc : look L c = some (.bool b)) (hb : b = false) (hy : look L y = some v) : OpV P (.pick c x y) ty L w v w := opv_pick hc (fun h => by rw [hb] at h; cases h) (fun _ => hy)
theorem opv_not {x : Operand} {t ty : TypeId} {b : Bool} (hx : look L x = some (.bool b)) : OpV P (.unOp .not t x) ty L w (.bool (!b)) w := fun ρ o hρ ho _ => by
  simp [execOp, ho, hρ x _ hx, Op.unary]
theorem opv_notD {x : Operand} {t ty : TypeId} {p : Prop} {_ : Decidable p} (hx : look L x = some (.bool (decide p))) : OpV P (.unOp .not t x) ty L w (.bool (decide (¬ p))) w := fun ρ o hρ ho _ => by
  simp [execOp, ho, hρ x _ hx, Op.unary]

/-- The ways through the first k operations of a list meet: slot d holds v, the world is as it was. -/
theorem wl_cutV (k d : Nat) (v : Value) (hx : WL P N ops (CutQ N (fun L' w' => L' = (d, v) :: L ∧ w' = w) Q) (rest.take k) L w) (hy : WL P N ops Q (rest.drop k) ((d, v) :: L) w) : WL P N ops Q rest L w := by
  intro a ha
  have h := hx a ha
  have hmono : ∀ (l1 l2 : List Oper) (a : Act) (w1 : World), (∀ a' w', CutQ N (fun L' w' => L' = (d, v) :: L ∧ w' = w) Q .normal a' w' → wpList P ops Q l2 a' w') →
      wpList P ops (CutQ N (fun L' w' => L' = (d, v) :: L ∧ w' = w) Q) l1 a w1 → wpList P ops Q (l1 ++ l2) a w1 := by
    intro l1 l2 a w1 hl2 h
    exact wpList_append hl2 (fun e a w he h => by cases e <;> first | exact absurd rfl he | exact h) l1 a w1 h
  have := hmono (rest.take k) (rest.drop k) a w (fun a' w' hc => by
    obtain ⟨L', ⟨h1, h2⟩, ha'⟩ := hc
    subst h1; rw [h2]; exact hy a' ha') h
  rwa [List.take_append_drop] at this

/-- A two-sided operation on two values. -/
structure BinV (P : Program) (op : BinOp) (t : TypeId) (a b r : Value) : Prop where
  run : ∀ (x y : Operand) (w : World), (do eqGuard op t x y a b; binOp op t a b : Sem Value).run P w = .ok r w
theorem opv_bin {op : BinOp} {x y : Operand} {t yt ty : TypeId} {a b r : Value} (hx : look L x = some a) (hy : look L y = some b) (hb : BinV P op t a b r) : OpV P (.binOp op t x y yt) ty L w r w := fun ρ o hρ ho _ => by
  have := hb.run x y w
  unfold execOp
  simp only [ho, hρ x _ hx, hρ y _ hy]
  rw [Sem.run_bind, this]
  simp
/-! #### The commonest steps in one word -/
theorem wl_mv {d : Nat} {x : Operand} {ty : TypeId} {pos : String} {aft : Array Edge} {v : Value} (hx : look L x = some v) (hd : Nat.blt d N = true) (h : WL P N ops Q rest ((d, v) :: L) w) :
    WL P N ops Q (⟨some d, .move x, ty, pos, aft, none⟩ :: rest) L w := wl_val (opv_move hx) hd h
theorem wl_as {d : Nat} {x : Operand} {ty : TypeId} {pos : String} {aft : Array Edge} {v : Value} (hx : look L x = some v) (hd : Nat.blt d N = true) (h : WL P N ops Q rest ((d, v) :: L) w) :
    WL P N ops Q (⟨some d, .assign x, ty, pos, aft, none⟩ :: rest) L w := wl_val (opv_assign hx) hd h
theorem wl_bin {d : Nat} {op : BinOp} {x y : Operand} {t yt ty : TypeId} {pos : String} {aft : Array Edge} {a b r : Value} (hx : look L x = some a) (hy : look L y = some b) (hb : BinV P op t a b r) (hd : Nat.blt d N = true) (h : WL P N ops Q rest ((d, r) :: L) w) :
    WL P N ops Q (⟨some d, .binOp op t x y yt, ty, pos, aft, none⟩ :: rest) L w := wl_val (opv_bin hx hy hb) hd h
theorem wc_sr {id : Nat} {l : List Oper} {y : Code} (h : WL P N l.toArray (SeqQ P y Q) l L w) : WC P N (.seq (.region id l.toArray false) y) Q L w := wc_seq (wc_region h)
theorem wl_ns {y : Code} (h : WC P N y Q L w) : WL P N ops (SeqQ P y Q) [] L w := wl_nil (we_seq h)
end ops

/-! ### A region whose order is drawn and whose operations leave the world alone, up to a class of worlds -/
def WQ (P : Program) (N : Nat) (ops : Array Oper) (C : World → Prop) (Qa : Act → Prop) (l : List Oper) (L : FL) : Prop := ∀ a, Has N a L → wpQuiet P ops C Qa l a
/-- The end of such a region. -/
def QEnd (N : Nat) (C : World → Prop) (Q : Exit → Act → World → Prop) (a : Act) : Prop := ∀ w', C w' → Q .normal a w'
section quiet
variable {P : Program} {N : Nat} {ops : Array Oper} {C : World → Prop} {Qa : Act → Prop} {Q : Exit → Act → World → Prop} {rest : List Oper} {L : FL} {w w' : World}
theorem wc_draw {id : Nat} {l : List Oper} (C : World → Prop) (hm : P.follows .mixedOrders = true) (hB : Region.lexB .any l.toArray = true) (hC : C w.drew)
    (h : WQ P N l.toArray C (QEnd N C Q) l L) : WC P N (.region id l.toArray true) Q L w := fun a ha =>
  wp_region_quiet (C := C) hm hB hC (show wpQuiet P l.toArray C (QEnd N C Q) l.toArray.toList a from by simpa using h a ha)
theorem wq_nil (h : ∀ w', C w' → WE N Q .normal L w') : WQ P N ops C (QEnd N C Q) [] L := fun a ha => wpQuiet_nil fun w' hw => h w' hw a ha
theorem wq_val {d : Nat} {op : Op} {ty : TypeId} {pos : String} {aft : Array Edge} {v : Value} (hv : ∀ w, C w → OpV P op ty L w v w) (hd : Nat.blt d N = true)
    (h : WQ P N ops C Qa rest ((d, v) :: L)) : WQ P N ops C Qa (⟨some d, op, ty, pos, aft, none⟩ :: rest) L := fun a ha =>
  wpQuiet_step fun K hK => by
    rw [if_pos (by simp [Region.wanted])]
    refine ⟨v, fun w hw => ?_, hK _ (h _ (ha.put hd v))⟩
    unfold Oper.quietAt
    rw [hv w hw a.eval _ (fun x u hx => ha.eval hx) rfl rfl]
    exact ⟨rfl, rfl⟩
theorem wq_call {d : Nat} {f : FuncId} {xs : List Operand} {ats : Array TypeId} {ty : TypeId} {pos : String} {aft : Array Edge} {vs : List Value} {v : Value}
    (hc : CallOk P f) (hr : ∀ w, C w → CallsV P f vs.toArray w fun u w' => u = v ∧ C w') (hx : Looks L xs vs) (hd : Nat.blt d N = true)
    (h : WQ P N ops C Qa rest ((d, v) :: L)) :
    WQ P N ops C Qa (⟨some d, .call { callee := .value (.func f), args := xs.toArray, argTypes := ats }, ty, pos, aft, none⟩ :: rest) L := fun a ha =>
  wpQuiet_step fun K hK => by
    rw [if_pos (by simp [Region.wanted])]
    refine ⟨v, fun w hw => ?_, hK _ (h _ (ha.put hd v))⟩
    unfold Oper.quietAt
    rw [exec_call rfl hc (fun x u hx => ha.eval hx) hx]
    refine ⟨rfl, Calls.mono (hr w hw) ?_⟩
    rintro _ w' ⟨u, rfl, rfl, hw'⟩
    exact ⟨rfl, hw'⟩
theorem wq_take {d j g : Nat} {b want : Bool} {op : Op} {ty : TypeId} {pos : String} {aft : Array Edge} (hj : (ops[j]?).bind (·.dst) = some g) (hb : lookT L g = some (.bool b)) (hg : Nat.blt g N = true) (he : b = want)
    (h : WQ P N ops C Qa (⟨some d, op, ty, pos, aft, none⟩ :: rest) L) : WQ P N ops C Qa (⟨some d, op, ty, pos, aft, some (j, want)⟩ :: rest) L := fun a ha => by
  have hy := yielded_of ha hj hb hg
  have h' := h a ha
  unfold wpQuiet at h' ⊢
  rw [if_pos (by simp [Region.wanted, hy, he])]
  rw [if_pos (by simp [Region.wanted])] at h'
  exact h'
end quiet

section bins
variable {P : Program} {t : TypeId} {k : IntKind} {a b : Int}
theorem bin_lss : BinV P .lss t (.int k a) (.int k b) (.bool (decide (a < b))) := .mk fun x y w => by simp [eqGuard, binOp, Op.intCmp]
theorem bin_leq : BinV P .leq t (.int k a) (.int k b) (.bool (decide (a ≤ b))) := .mk fun x y w => by simp [eqGuard, binOp, Op.intCmp]
theorem bin_gtr : BinV P .gtr t (.int k a) (.int k b) (.bool (decide (b < a))) := .mk fun x y w => by simp [eqGuard, binOp, Op.intCmp]
theorem bin_geq : BinV P .geq t (.int k a) (.int k b) (.bool (decide (b ≤ a))) := .mk fun x y w => by simp [eqGuard, binOp, Op.intCmp]
theorem bin_eql : BinV P .eql t (.int k a) (.int k b) (.bool (decide (a = b))) := .mk fun x y w => by
  have e : (a == b) = decide (a = b) := by by_cases h : a = b <;> simp [h]
  simp [eqGuard, binOp, Op.intCmp, e]
theorem bin_neq : BinV P .neq t (.int k a) (.int k b) (.bool (decide (a ≠ b))) := .mk fun x y w => by
  have e : (a == b) = decide (a = b) := by by_cases h : a = b <;> simp [h]
  simp [eqGuard, binOp, Op.intCmp, bne, e]
theorem bin_add : BinV P .add t (.int k a) (.int k b) (.int k (k.wrap (a + b))) := .mk fun x y w => by simp [eqGuard, binOp, Op.intArith]
theorem bin_sub : BinV P .sub t (.int k a) (.int k b) (.int k (k.wrap (a - b))) := .mk fun x y w => by simp [eqGuard, binOp, Op.intArith]
theorem bin_mul : BinV P .mul t (.int k a) (.int k b) (.int k (k.wrap (a * b))) := .mk fun x y w => by simp [eqGuard, binOp, Op.intArith]
theorem BinV.to {op : BinOp} {u v r s : Value} (h : BinV P op t u v r) (e : r = s) : BinV P op t u v s := e ▸ h
theorem bin_add64 (h : -9223372036854775808 ≤ a + b ∧ a + b ≤ 9223372036854775807) : BinV P .add t (.int .i64 a) (.int .i64 b) (.int .i64 (a + b)) := bin_add.to (by rw [IntWalk.i64_in _ h])
theorem bin_sub64 (h : -9223372036854775808 ≤ a - b ∧ a - b ≤ 9223372036854775807) : BinV P .sub t (.int .i64 a) (.int .i64 b) (.int .i64 (a - b)) := bin_sub.to (by rw [IntWalk.i64_in _ h])
theorem bin_mul64 (h : -9223372036854775808 ≤ a * b ∧ a * b ≤ 9223372036854775807) : BinV P .mul t (.int .i64 a) (.int .i64 b) (.int .i64 (a * b)) := bin_mul.to (by rw [IntWalk.i64_in _ h])
end bins
end Go.Proofs.Ytaacnknniaipmaa

/-
  The engine's rules for memory: reading an element of a slice, append, make, a slice expression, a store into a row of the call's own. Nothing here names the program.
-/
namespace Go.Proofs.Ytaacnknniaipmaa
open Go.RowKit

theorem cells_one {v : Value} (h : v.oneCell' = true) : v.cells = #[v] := by cases v <;> first | rfl | (simp [Value.oneCell'] at h)

/-- Slice type t has elements of type e, of one cell each. -/
structure Row1 (P : Program) (t e : TypeId) (z : Value) (bytes : Nat) : Prop where
  sl : P.underlying t = some (.slice e)
  info : (P.info? e).map (fun i => (i.zero, i.size, i.bytes)) = some (some z, 1, bytes)
  one : z.oneCell' = true
  flat : (match P.underlying e with | some (.struct _) => true | some (.array _ _) => true | some _ => false | none => true) = false

theorem Row1.agg {P : Program} {t e : TypeId} {z : Value} {bytes : Nat} (T : Row1 P t e z bytes) (w : World) : (isAgg e).run P w = .ok false w := by
  have h := T.flat
  unfold isAgg
  cases hu : P.underlying e with
  | none => rw [hu] at h; simp at h
  | some d =>
    rw [hu] at h
    rw [Sem.run_bind, run_underlying hu]
    cases d <;> first | (simp at h; done) | simp
theorem Row1.size {P : Program} {t e : TypeId} {z : Value} {bytes : Nat} (T : Row1 P t e z bytes) (w : World) : (sizeOf e).run P w = .ok 1 w := by
  obtain ⟨i, hi, _, hs, _⟩ := info_parts T.info
  simp [sizeOf, typeInfo, hi, hs]
theorem Row1.zero {P : Program} {t e : TypeId} {z : Value} {bytes : Nat} (T : Row1 P t e z bytes) (w : World) : (zeroValue e).run P w = .ok z w := by
  obtain ⟨i, hi, hz, _, _⟩ := info_parts T.info
  simp [zeroValue, typeInfo, hi, hz]

/-- Row A alone, beside new blocks, has been written. -/
def Gr (w w' : World) (A : Option Addr) : Prop := w.grownBy w' (A.map (·.block))
theorem ownBlock_slice (A : Option Addr) (n c : Nat) : (Value.slice A n c).ownBlock = A.map (·.block) := by cases A <;> rfl
theorem Gr.refl (w : World) (A : Option Addr) : Gr w w A := ⟨rfl, rfl, rfl, Nat.le_refl _, fun _ _ _ => rfl⟩
theorem Gr.size {w w' : World} {A : Option Addr} (g : Gr w w' A) : w.heap.size ≤ w'.heap.size := World.grownBy.size g
theorem Gr.of_below {w w' : World} {B : Nat} (A : Option Addr) (h : Below B w w') (hB : w.heap.size ≤ B) : Gr w w' A := ⟨h.os, h.tape, h.output, h.size, fun k hk _ => h.block k (by omega)⟩
theorem Gr.trans {w w1 w2 : World} {A : Option Addr} (g : Gr w w1 A) (h : Gr w1 w2 A) : Gr w w2 A := World.grownBy.trans g h
/-- What lies below the row's first block is as it was. -/
theorem Gr.below {w0 w w' : World} {B base : Nat} {e : TypeId} {A : Option Addr} {n c : Nat} {xs : List Value} (g : Gr w w' A) (h : Below B w0 w) (ho : Ow w base e A n c xs) (hb : B ≤ base) (hB : B ≤ w.heap.size) : Below B w0 w' :=
  h.grown g hB fun k hk => Nat.le_trans hb (World.ownsRow.lt ho k (by rw [ownBlock_slice]; exact hk)).1
/-- A row of the call's own in another block stays. -/
theorem Ow.gr {w w' : World} {base base' : Nat} {e e' : TypeId} {A B : Option Addr} {n c : Nat} {xs : List Value} (h : Ow w base e A n c xs) (g : Gr w w' B)
    (hne : ∀ a b, A = some a → B = some b → a.block ≠ b.block) : Ow w' base e A n c xs := by
  refine World.ownsRow.kept h g ?_
  cases A with
  | none => exact .inl rfl
  | some a => refine .inr ?_; cases B with
    | none => simp [Value.ownBlock]
    | some b => simpa [Value.ownBlock] using hne a b rfl rfl
theorem Rd.gr {w w' : World} {A B : Option Addr} {n : Nat} {xs : List Value} (h : Rd w A n xs) (g : Gr w w' B)
    (hne : ∀ a b, A = some a → B = some b → a.block ≠ b.block) : Rd w' A n xs := ⟨h.1, fun hn => by
  obtain ⟨b, o, hA, hb, hc⟩ := h.2 hn
  refine ⟨b, o, hA, Nat.lt_of_lt_of_le hb g.size, fun j u hu => ?_⟩
  rw [World.cell?_of_block (w := w) (a := ⟨b, o + j, none⟩) (World.grownBy.block g b hb ?_)]
  · exact hc j u hu
  · cases B with
    | none => simp
    | some q => have := hne _ q hA rfl; simpa using this⟩
/-- Where a row of the call's own lies. -/
theorem Ow.lt {w : World} {base : Nat} {e : TypeId} {A : Option Addr} {n c : Nat} {xs : List Value} (h : Ow w base e A n c xs) : ∀ a, A = some a → base ≤ a.block ∧ a.block < w.heap.size := fun a ha =>
  World.ownsRow.lt h a.block (by rw [ha]; rfl)
theorem Rd.lt {w : World} {A : Option Addr} {n : Nat} {xs : List Value} (h : Rd w A n xs) (hn : 0 < n) : ∀ a, A = some a → a.block < w.heap.size := fun a ha => by
  obtain ⟨b, o, hA, hb, _⟩ := h.2 hn
  rw [hA] at ha; cases ha; exact hb

theorem getElem?_bvs {l : List UInt8} {k : Nat} {u : Value} (h : (bvs l)[k]? = some u) : ∃ b, l[k]? = some b ∧ u = bv b := by
  unfold bvs at h
  rw [List.getElem?_map] at h
  cases hl : l[k]? with
  | none => rw [hl] at h; cases h
  | some b => rw [hl] at h; exact ⟨b, rfl, by simpa using h.symm⟩

section
variable {P : Program} {N : Nat} {ops : Array Oper} {Q : Exit → Act → World → Prop} {rest : List Oper} {L : FL} {w : World} {t e : TypeId} {z : Value} {bytes : Nat}

theorem opv_len {x : Operand} {ty : TypeId} {A : Option Addr} {n c : Nat} (hx : look L x = some (.slice A n c)) (ht : P.underlying t = some (.slice e)) :
    OpV P (.call { callee := .builtin .len, args := #[x], argTypes := #[t] }) ty L w (.int .i64 (n : Int)) w := fun ρ o hρ ho _ => by
  simp [execOp, ho, resolve, invoke, builtin, Builtin.len_, hρ x _ hx, run_underlying ht, goInt]
theorem opv_lenS {x : Operand} {ty : TypeId} {s : ByteArray} (hx : look L x = some (.string s)) (ht : P.underlying t = some .string) :
    OpV P (.call { callee := .builtin .len, args := #[x], argTypes := #[t] }) ty L w (.int .i64 (s.size : Int)) w := fun ρ o hρ ho _ => by
  simp [execOp, ho, resolve, invoke, builtin, Builtin.len_, hρ x _ hx, run_underlying ht, goInt]

/-- The address of an element. -/
theorem opv_idx {x i : Operand} {ty : TypeId} {b o : Nat} {n c kk : Nat} {ik : IntKind} {q : Int} (T : Row1 P t e z bytes) (hx : look L x = some (.slice (some ⟨b, o, none⟩) n c)) (hi : look L i = some (.int ik q)) (hq : q = (kk : Int)) (hk : kk < n) :
    OpV P (.indexAddr t x i) ty L w (.pointer (some ⟨b, o + kk, none⟩)) w := fun ρ op hρ ho _ => by
  subst hq
  simp [execOp, ho, Instr.indexAt, asIntOf, hρ x _ hx, hρ i _ hi, run_underlying T.sl, hk, T.size, Addr.add_lit]
theorem opv_load {x : Operand} {ty : TypeId} {a : Addr} {u : Value} (T : Row1 P t e z bytes) (hx : look L x = some (.pointer (some a))) (hc : w.cell? a = some u) : OpV P (.load e x) ty L w u w := fun ρ op hρ ho _ => by
  simp [execOp, ho, Instr.loadAt, Instr.sureAddr, loadVar, hρ x _ hx, T.agg, hc]

/-- The address of an element that is known, and its load, in two steps. -/
def adR (A : Option Addr) (k : Nat) : Value := .pointer (A.map fun a => a.add k)
theorem opv_idxR {x i : Operand} {ty : TypeId} {A : Option Addr} {n c kk : Nat} {ik : IntKind} {q : Int} {xs : List Value} {u : Value} {w0 : World} (T : Row1 P t e z bytes) (hx : look L x = some (.slice A n c)) (hi : look L i = some (.int ik q)) (hr : Rd w0 A n xs) (hq : q = (kk : Int)) (hu : xs[kk]? = some u) :
    OpV P (.indexAddr t x i) ty L w (adR A kk) w := by
  have hk : kk < n := by have := (List.getElem?_eq_some_iff.1 hu).1; have := hr.1; omega
  obtain ⟨b, o, rfl, _, _⟩ := hr.2 (by omega)
  have := opv_idx (P := P) (L := L) (w := w) (ty := ty) T hx hi hq hk
  simpa [adR, Addr.add_lit] using this
theorem opv_loadR {x : Operand} {ty : TypeId} {A : Option Addr} {n kk : Nat} {xs : List Value} {u : Value} (T : Row1 P t e z bytes) (hx : look L x = some (adR A kk)) (hr : Rd w A n xs) (hu : xs[kk]? = some u) : OpV P (.load e x) ty L w u w := by
  have hk : kk < n := by have := (List.getElem?_eq_some_iff.1 hu).1; have := hr.1; omega
  obtain ⟨b, o, rfl, _, hc⟩ := hr.2 (by omega)
  exact opv_load T (by simpa [adR, Addr.add_lit] using hx) (hc kk u hu)
/-- An element of a slice: its address and its value. -/
theorem wl_el {d1 d2 : Nat} {x i : Operand} {ty1 ty2 : TypeId} {p1 p2 : String} {f1 f2 : Array Edge} {A : Option Addr} {n c kk : Nat} {ik : IntKind} {q : Int} {xs : List Value} (T : Row1 P t e z bytes)
    (hx : look L x = some (.slice A n c)) (hi : look L i = some (.int ik q)) (hr : Rd w A n xs) (hq : q = (kk : Int)) (hk : kk < n) (hd1 : Nat.blt d1 N = true) (hd2 : Nat.blt d2 N = true)
    (h : ∀ p u, xs[kk]? = some u → WL P N ops Q rest ((d2, u) :: (d1, p) :: L) w) :
    WL P N ops Q (⟨some d1, .indexAddr t x i, ty1, p1, f1, none⟩ :: ⟨some d2, .load e (.tmp d1), ty2, p2, f2, none⟩ :: rest) L w := by
  obtain ⟨b, o, u, rfl, hu, hc⟩ := hr.at hk
  refine wl_val (opv_idx T hx hi hq hk) hd1 (wl_val (opv_load T ?_ hc) hd2 (h _ u hu))
  simp [look, lookT]
theorem wl_by {d1 d2 : Nat} {x i : Operand} {ty1 ty2 : TypeId} {p1 p2 : String} {f1 f2 : Array Edge} {A : Option Addr} {n c kk : Nat} {ik : IntKind} {q : Int} {l : List UInt8} (T : Row1 P t e z bytes)
    (hx : look L x = some (.slice A n c)) (hi : look L i = some (.int ik q)) (hr : Rd w A n (bvs l)) (hq : q = (kk : Int)) (hk : kk < n) (hd1 : Nat.blt d1 N = true) (hd2 : Nat.blt d2 N = true)
    (h : ∀ p b, l[kk]? = some b → WL P N ops Q rest ((d2, .int .u8 (b.toNat : Int)) :: (d1, p) :: L) w) :
    WL P N ops Q (⟨some d1, .indexAddr t x i, ty1, p1, f1, none⟩ :: ⟨some d2, .load e (.tmp d1), ty2, p2, f2, none⟩ :: rest) L w :=
  wl_el T hx hi hr hq hk hd1 hd2 fun p u hu => by
    obtain ⟨b, hb, rfl⟩ := getElem?_bvs hu
    exact h p b hb

/-- append. -/
theorem wl_app {d : Nat} {s x : Operand} {ty : TypeId} {pos : String} {aft : Array Edge} {base : Nat} {A : Option Addr} {n c : Nat} {xs : List Value} {B : Option Addr} {m c' : Nat} {ys : List Value} (T : Row1 P t e z bytes)
    (hs : look L s = some (.slice A n c)) (hown : Ow w base e A n c xs) (hx : look L x = some (.slice B m c')) (hr : Rd w B m ys) (h1 : ∀ u ∈ ys, u.oneCell' = true)
    (hbytes : (n + m) * bytes ≤ 140737488355328) (hmax : n + m ≤ maxLen) (hbase : base ≤ w.heap.size) (hd : Nat.blt d N = true)
    (h : ∀ A' c' w', Ow w' base e A' (n + m) c' (xs ++ ys) → Gr w w' A → (A'.map (·.block) = A.map (·.block) ∨ A'.map (·.block) = some w.heap.size) → WL P N ops Q rest ((d, .slice A' (n + m) c') :: L) w') :
    WL P N ops Q (⟨some d, .call { callee := .builtin .append, args := #[s, x], argTypes := #[t, t] }, ty, pos, aft, none⟩ :: rest) L w := fun a ha => by
  refine wpList_app rfl s x t rfl T.sl T.info (by rw [cells_one T.one]; rfl) (ha.eval hs) hown (ha.eval hx) hr h1 hbytes hmax hbase fun A' c' w' ho hg hat => ?_
  rw [ownBlock_slice] at hg
  exact h A' c' w' ho hg hat _ (ha.put hd _)

/-- The parts of a slice that a statement writes out. -/
def PLooks (L : FL) : Nat → List (Nat × Operand) → List Value → Prop
  | _, [], [] => True
  | k, (i, x) :: ps, v :: vs => i = k ∧ look L x = some v ∧ v.oneCell' = true ∧ PLooks L (k + 1) ps vs
  | _, _, _ => False
theorem PLooks.one : ∀ {ps : List (Nat × Operand)} {vs : List Value} {k : Nat}, PLooks L k ps vs → ∀ u ∈ vs, u.oneCell' = true
  | [], [], _, _ => by simp
  | (i, x) :: ps, v :: vs, k, h => by
    intro u hu
    rcases List.mem_cons.1 hu with rfl | hu
    · exact h.2.2.1
    · exact PLooks.one h.2.2.2 u hu
  | [], _ :: _, _, h => h.elim
  | _ :: _, [], _, h => h.elim
theorem PLooks.fill {ρ : Operand → Value} (hρ : ∀ x u, look L x = some u → ρ x = u) : ∀ {ps : List (Nat × Operand)} {vs : List Value} {k : Nat} (cur : Array Value), PLooks L k ps vs → k + vs.length = cur.size →
    Instr.fill (fun i => some (i * 1, 1)) cur (ps.map fun p => (p.1, ρ p.2)) = some (cur.toList.take k ++ vs).toArray
  | [], [], k, cur, _, hk => by
    simp only [List.map_nil, Instr.fill, List.append_nil]
    rw [List.take_of_length_le (by simp at hk ⊢; omega)]
  | (i, x) :: ps, v :: vs, k, cur, h, hk => by
    obtain ⟨rfl, hx, h1, h2⟩ := h
    simp only [List.length_cons] at hk
    have hc := cells_one h1
    simp only [List.map_cons, Instr.fill, hρ x v hx, hc]
    have hcond : ((#[v] : Array Value).size ≠ 1 || decide (i * 1 + (#[v] : Array Value).size > cur.size)) = false := by simp; omega
    have hcs : (Array.foldl (fun cs (x : Value × Nat) => cs.setIfInBounds (i * 1 + x.2) x.1) cur (#[v] : Array Value).zipIdx) = cur.setIfInBounds i v := by simp [Array.zipIdx]
    rw [if_neg (by simpa using hcond)]
    rw [hcs, PLooks.fill hρ (cur.setIfInBounds i v) h2 (by simp; omega)]
    congr 1
    rw [Array.toList_setIfInBounds]
    apply congrArg List.toArray
    apply List.ext_getElem?
    intro j
    have hlt : i < cur.toList.length := by simp; omega
    simp only [List.getElem?_append, List.length_take, List.length_set, List.getElem?_take, List.getElem?_set, List.length_cons, Array.length_toList]
    have m1 : min (i + 1) cur.size = i + 1 := by omega
    have m2 : min i cur.size = i := by omega
    rw [m1, m2]
    rcases Nat.lt_trichotomy j i with h | h | h
    · have e1 : j < i + 1 := by omega
      have e2 : j < cur.size := by omega
      have e3 : i ≠ j := by omega
      simp [h, e1, e2, e3]
    · subst h
      have e2 : j < cur.size := by simpa using hlt
      simp [e2]
    · have e1 : ¬ j < i + 1 := by omega
      have e2 : ¬ j < i := by omega
      have e5 : j - i = (j - (i + 1)) + 1 := by omega
      simp only [e1, e2, if_false]
      rw [e5]; simp
  | [], _ :: _, _, _, h, _ => h.elim
  | _ :: _, [], _, _, h, _ => h.elim

theorem opv_bs {len : Nat} {ps : List (Nat × Operand)} {vs : List Value} {ty : TypeId} (T : Row1 P t e z bytes) (hp : PLooks L 0 ps vs) (hl : vs.length = len) (hle : len ≤ 16777216) :
    OpV P (.buildSlice t len ps.toArray) ty L w (.slice (some ⟨w.heap.size, 0, none⟩) len len) (w.alloc (.cells vs.toArray e)) := fun ρ o hρ ho _ => by
  have hz := T.one
  have hf := PLooks.fill hρ ((Array.range (len * 1)).map fun i => (if len * 1 = 0 then (#[] : Array Value) else z.cells)[i % (if len * 1 = 0 then (#[] : Array Value) else z.cells).size]!) hp (by simp [hl])
  simp only [List.take_zero, List.nil_append] at hf
  have hmap : (Array.map (fun (x : Nat × Operand) => (x.1, ρ x.2)) ps.toArray).toList = ps.map fun p => (p.1, ρ p.2) := by simp
  unfold execOp
  simp only [ho, Instr.buildSlice, Sem.run_bind, run_underlying T.sl, Result.andThen_ok, T.size]
  have h24 : ¬ (len * 1 > 2 ^ 24) := by omega
  rw [if_neg h24]
  by_cases h0 : len * 1 = 0
  · simp only [h0, if_true, Sem.run_bind, Sem.run_pure, Result.andThen_ok] at hf ⊢
    rw [hmap, hf]
    simp [newRow]
  · simp only [h0, if_false, Sem.run_bind, Sem.run_pure, Result.andThen_ok, T.zero] at hf ⊢
    rw [hmap, hf]
    simp [newRow]

theorem Ow.lit (w : World) (e : TypeId) (vs : List Value) (n : Nat) (hn : vs.length = n) (hm : n ≤ maxLen) : Ow (w.alloc (.cells vs.toArray e)) w.heap.size e (some ⟨w.heap.size, 0, none⟩) n n vs := by
  have := World.ownsRow_lit (e := e) (size := 1) (base := w.heap.size) w vs.toArray n (Nat.le_refl _) hm (by simpa using hn)
  simpa [Ow] using this

/-- A slice that a statement writes out. -/
theorem wl_bs {d len : Nat} {ps : List (Nat × Operand)} {vs : List Value} {ty : TypeId} {pos : String} {aft : Array Edge} (T : Row1 P t e z bytes) (hp : PLooks L 0 ps vs) (hl : vs.length = len) (hle : len ≤ 16777216) (hd : Nat.blt d N = true)
    (h : ∀ A w', Ow w' w.heap.size e A len len vs → Below w.heap.size w w' → w'.heap.size = w.heap.size + 1 → WL P N ops Q rest ((d, .slice A len len) :: L) w') :
    WL P N ops Q (⟨some d, .buildSlice t len ps.toArray, ty, pos, aft, none⟩ :: rest) L w :=
  wl_val (opv_bs T hp hl hle) hd (h _ _ (Ow.lit w e vs len hl (by simp only [maxLen]; omega)) ((Below.refl _ _).alloc (Nat.le_refl _) _) (by simp))

/-- append(s, x, y ..): the elements written out. -/
theorem wl_push {d1 d2 len : Nat} {ps : List (Nat × Operand)} {vs : List Value} {s : Operand} {ty1 ty2 : TypeId} {p1 p2 : String} {f1 f2 : Array Edge} {base : Nat} {A : Option Addr} {n c : Nat} {xs : List Value} (T : Row1 P t e z bytes)
    (hs : look L s = some (.slice A n c)) (hown : Ow w base e A n c xs) (hp : PLooks L 0 ps vs) (hl : vs.length = len) (hle : len ≤ 16777216) (hs1 : look ((d1, .slice (some ⟨w.heap.size, 0, none⟩) len len) :: L) s = some (.slice A n c))
    (hbytes : (n + len) * bytes ≤ 140737488355328) (hmax : n + len ≤ maxLen) (hbase : base ≤ w.heap.size) (hd1 : Nat.blt d1 N = true) (hd2 : Nat.blt d2 N = true)
    (h : ∀ p A' c' w', Ow w' base e A' (n + len) c' (xs ++ vs) → Gr w w' A → (A'.map (·.block) = A.map (·.block) ∨ ∀ a', A' = some a' → w.heap.size ≤ a'.block) → WL P N ops Q rest ((d2, .slice A' (n + len) c') :: (d1, p) :: L) w') :
    WL P N ops Q (⟨some d1, .buildSlice t len ps.toArray, ty1, p1, f1, none⟩ :: ⟨some d2, .call { callee := .builtin .append, args := #[s, .tmp d1], argTypes := #[t, t] }, ty2, p2, f2, none⟩ :: rest) L w := by
  refine wl_val (opv_bs T hp hl hle) hd1 ?_
  have ho1 : Ow (w.alloc (.cells vs.toArray e)) base e A n c xs := hown.alloc _
  refine wl_app (B := some ⟨w.heap.size, 0, none⟩) (m := len) (c' := len) T hs1 ho1 (by simp [look, lookT]) (Ow.lit w e vs len hl (by simp only [maxLen]; omega)).rd (PLooks.one hp) hbytes hmax (by simp; omega) hd2 fun A' c' w' ho hg hat => ?_
  refine h _ A' c' w' ho ((Gr.of_below A ((Below.refl w.heap.size w).alloc (Nat.le_refl _) _) (Nat.le_refl _)).trans hg) ?_
  rcases hat with e | e
  · exact .inl e
  · refine .inr fun a' ha' => ?_
    rw [ha'] at e
    simp at e
    omega

/-- make. -/
theorem wl_mk {d : Nat} {x y : Operand} {ty : TypeId} {pos : String} {aft : Array Edge} {n c : Nat} {p q : Int} {k1 k2 : IntKind} (T : Row1 P t e z bytes) (hx : look L x = some (.int k1 p)) (hy : look L y = some (.int k2 q)) (hp : p = (n : Int)) (hq : q = (c : Int)) (hnc : n ≤ c)
    (hb : bytes * c ≤ 281474976710656) (hm : c ≤ maxLen) (hd : Nat.blt d N = true)
    (h : ∀ A w', Ow w' w.heap.size e A n c (List.replicate n z) → Below w.heap.size w w' → w'.heap.size = w.heap.size + 1 → WL P N ops Q rest ((d, .slice A n c) :: L) w') :
    WL P N ops Q (⟨some d, .makeSlice t x y, ty, pos, aft, none⟩ :: rest) L w := by
  subst hp hq
  obtain ⟨i, hi, hz, hs, hby⟩ := info_parts T.info
  have hzc : z.cells = #[z] := cells_one T.one
  have hb' : (i.bytes : Int) * (c : Int) ≤ 281474976710656 := by
    rw [hby]
    have : ((bytes * c : Nat) : Int) ≤ 281474976710656 := by omega
    rwa [Int.natCast_mul] at this
  have hm' : (c : Int) ≤ 9223372036854775807 := by simp only [maxLen] at hm; omega
  have hrun := run_make (P := P) w t e i z T.sl hi hz k1 k2 (n : Int) (c : Int) (by omega) (by omega) hb' hm'
  simp only [Int.toNat_natCast, hs, Nat.mul_one, hzc] at hrun
  have hv : OpV P (.makeSlice t x y) ty L w (.slice (some ⟨w.heap.size, 0, none⟩) n c) (w.alloc (.cells (madeCells #[z] c) e)) := fun ρ o hρ ho _ => by
    unfold execOp
    simp only [ho, hρ x _ hx, hρ y _ hy, Sem.run_bind, hrun]
    simp
  refine wl_val hv hd (h _ _ ?_ ((Below.refl _ _).alloc (Nat.le_refl _) _) (by simp))
  refine ⟨by simp, .inr ⟨w.heap.size, c, madeCells #[z] c, rfl, Nat.le_refl _, heap_alloc_new w _, hnc, hm, by simp [size_madeCells], ?_⟩⟩
  rw [toList_madeCells_one]
  simp [List.take_replicate, Nat.min_eq_left hnc]

/-- A region that only reads: what stands behind it is asked in every world that extends the one ahead. -/
theorem wc_drawB {id : Nat} {l : List Oper} (hm : P.follows .mixedOrders = true) (hB : Region.lexB .any l.toArray = true)
    (h : WQ P N l.toArray (Below w.heap.size w) (QEnd N (Below w.heap.size w) Q) l L) : WC P N (.region id l.toArray true) Q L w :=
  wc_draw (Below w.heap.size w) hm hB ((Below.refl _ _).drew) h
theorem wq_el {w0 : World} {Qa : Act → Prop} {d1 d2 : Nat} {x i : Operand} {ty1 ty2 : TypeId} {p1 p2 : String} {f1 f2 : Array Edge} {A : Option Addr} {n c kk : Nat} {ik : IntKind} {q : Int} {xs : List Value} (T : Row1 P t e z bytes)
    (hx : look L x = some (.slice A n c)) (hi : look L i = some (.int ik q)) (hr : Rd w0 A n xs) (hq : q = (kk : Int)) (hk : kk < n) (hd1 : Nat.blt d1 N = true) (hd2 : Nat.blt d2 N = true)
    (h : ∀ p u, xs[kk]? = some u → WQ P N ops (Below w0.heap.size w0) Qa rest ((d2, u) :: (d1, p) :: L)) :
    WQ P N ops (Below w0.heap.size w0) Qa (⟨some d1, .indexAddr t x i, ty1, p1, f1, none⟩ :: ⟨some d2, .load e (.tmp d1), ty2, p2, f2, none⟩ :: rest) L := by
  have hn : 0 < n := by omega
  obtain ⟨b, o, rfl, hb, hc⟩ := hr.2 hn
  have hl : kk < xs.length := by have := hr.1; omega
  refine wq_val (fun w hw => opv_idx T hx hi hq hk) hd1 (wq_val (v := xs[kk]) (fun w hw => opv_load T (by simp [look, lookT]; rfl) ?_) hd2 (h _ _ (List.getElem?_eq_getElem hl)))
  rw [hw.cell (p := ⟨b, o + kk, none⟩) hb]
  exact hc kk _ (List.getElem?_eq_getElem hl)
theorem wq_by {w0 : World} {Qa : Act → Prop} {d1 d2 : Nat} {x i : Operand} {ty1 ty2 : TypeId} {p1 p2 : String} {f1 f2 : Array Edge} {A : Option Addr} {n c kk : Nat} {ik : IntKind} {q : Int} {l : List UInt8} (T : Row1 P t e z bytes)
    (hx : look L x = some (.slice A n c)) (hi : look L i = some (.int ik q)) (hr : Rd w0 A n (bvs l)) (hq : q = (kk : Int)) (hk : kk < n) (hd1 : Nat.blt d1 N = true) (hd2 : Nat.blt d2 N = true)
    (h : ∀ p b, l[kk]? = some b → WQ P N ops (Below w0.heap.size w0) Qa rest ((d2, .int .u8 (b.toNat : Int)) :: (d1, p) :: L)) :
    WQ P N ops (Below w0.heap.size w0) Qa (⟨some d1, .indexAddr t x i, ty1, p1, f1, none⟩ :: ⟨some d2, .load e (.tmp d1), ty2, p2, f2, none⟩ :: rest) L :=
  wq_el T hx hi hr hq hk hd1 hd2 fun p u hu => by
    obtain ⟨b, hb, rfl⟩ := getElem?_bvs hu
    exact h p b hb

/-- The same where the byte is known ahead. -/
theorem wl_byK {d1 d2 : Nat} {x i : Operand} {ty1 ty2 : TypeId} {p1 p2 : String} {f1 f2 : Array Edge} {A : Option Addr} {n c kk : Nat} {ik : IntKind} {q : Int} {l : List UInt8} {b : UInt8} (T : Row1 P t e z bytes)
    (hx : look L x = some (.slice A n c)) (hi : look L i = some (.int ik q)) (hr : Rd w A n (bvs l)) (hq : q = (kk : Int)) (hb : l[kk]? = some b) (hd1 : Nat.blt d1 N = true) (hd2 : Nat.blt d2 N = true)
    (h : ∀ p, WL P N ops Q rest ((d2, .int .u8 (b.toNat : Int)) :: (d1, p) :: L) w) :
    WL P N ops Q (⟨some d1, .indexAddr t x i, ty1, p1, f1, none⟩ :: ⟨some d2, .load e (.tmp d1), ty2, p2, f2, none⟩ :: rest) L w :=
  wl_by T hx hi hr hq (by have := hr.1; rw [bvs_length] at this; rw [← this]; exact (List.getElem?_eq_some_iff.1 hb).1) hd1 hd2 fun p b' hb' => by rw [hb] at hb'; cases hb'; exact h p
theorem wq_byK {w0 : World} {Qa : Act → Prop} {d1 d2 : Nat} {x i : Operand} {ty1 ty2 : TypeId} {p1 p2 : String} {f1 f2 : Array Edge} {A : Option Addr} {n c kk : Nat} {ik : IntKind} {q : Int} {l : List UInt8} {b : UInt8} (T : Row1 P t e z bytes)
    (hx : look L x = some (.slice A n c)) (hi : look L i = some (.int ik q)) (hr : Rd w0 A n (bvs l)) (hq : q = (kk : Int)) (hb : l[kk]? = some b) (hd1 : Nat.blt d1 N = true) (hd2 : Nat.blt d2 N = true)
    (h : ∀ p, WQ P N ops (Below w0.heap.size w0) Qa rest ((d2, .int .u8 (b.toNat : Int)) :: (d1, p) :: L)) :
    WQ P N ops (Below w0.heap.size w0) Qa (⟨some d1, .indexAddr t x i, ty1, p1, f1, none⟩ :: ⟨some d2, .load e (.tmp d1), ty2, p2, f2, none⟩ :: rest) L :=
  wq_by T hx hi hr hq (by have := hr.1; rw [bvs_length] at this; rw [← this]; exact (List.getElem?_eq_some_iff.1 hb).1) hd1 hd2 fun p b' hb' => by rw [hb] at hb'; cases hb'; exact h p

/-- A slice expression. -/
def cutA (A : Option Addr) (c l : Nat) : Option Addr := if c = l then A else A.map (·.add l)
def SLo (L : FL) : Option Operand → Nat → Prop
  | none, l => l = 0
  | some x, l => ∃ k, look L x = some (.int k (l : Int))
def SHi (L : FL) (n : Nat) : Option Operand → Nat → Prop
  | none, h => h = n
  | some x, h => ∃ k, look L x = some (.int k (h : Int))
theorem opv_slice {x : Operand} {lo hi : Option Operand} {ty : TypeId} {A : Option Addr} {n c l h : Nat} (T : Row1 P t e z bytes) (hx : look L x = some (.slice A n c)) (hl : SLo L lo l) (hh : SHi L n hi h) (h1 : l ≤ h) (h2 : h ≤ c) :
    OpV P (.slice t x lo hi none) ty L w (.slice (cutA A c l) (h - l) (c - l)) w := fun ρ o hρ ho _ => by
  have e1 : (Instr.sliceBounds true n c (lo.map ρ) (hi.map ρ) none).run P w = .ok (l, h, c) w := by
    cases lo with
    | none =>
      cases hi with
      | none => have a := hl; have b := hh; simp only [SLo, SHi] at a b; subst a b; simp [Instr.sliceBounds]
      | some y =>
        have a := hl; obtain ⟨k, b⟩ := hh; simp only [SLo] at a; subst a
        simp [Instr.sliceBounds, Instr.sliceBound, hρ y _ b, asIntOf, h2]
    | some u =>
      obtain ⟨k, a⟩ := hl
      cases hi with
      | none => have b := hh; simp only [SHi] at b; subst b; simp [Instr.sliceBounds, Instr.sliceBound, hρ u _ a, asIntOf, h1]
      | some y =>
        obtain ⟨k', b⟩ := hh
        simp [Instr.sliceBounds, Instr.sliceBound, hρ u _ a, hρ y _ b, asIntOf, h1, h2]
  unfold execOp
  simp only [ho, Instr.sliceAt, Instr.slice, Sem.run_bind, run_underlying T.sl, Result.andThen_ok, hρ x _ hx, Option.map_none, e1, T.size]
  simp [cutA]
theorem Rd.cut {A : Option Addr} {n c l h : Nat} {xs : List Value} (hr : Rd w A n xs) (h1 : l ≤ h) (h2 : h ≤ n) (hc : n ≤ c) : Rd w (cutA A c l) (h - l) ((xs.take h).drop l) := by
  refine ⟨by have := hr.1; simp; omega, fun hn => ?_⟩
  obtain ⟨b, o, rfl, hb, hcell⟩ := hr.2 (by omega)
  have hne : ¬ c = l := by omega
  refine ⟨b, o + l, by simp [cutA, hne, Addr.add_lit], hb, fun j u hu => ?_⟩
  rw [List.getElem?_drop, List.getElem?_take] at hu
  split at hu
  · rw [Nat.add_assoc]; exact hcell _ u hu
  · cases hu
theorem bvs_cut (xs : List UInt8) (l h : Nat) : ((bvs xs).take h).drop l = bvs ((xs.take h).drop l) := by simp [bvs, List.map_take, List.map_drop]
theorem wl_sl {d : Nat} {x : Operand} {lo hi : Option Operand} {ty : TypeId} {pos : String} {aft : Array Edge} {A : Option Addr} {n c l h : Nat} (T : Row1 P t e z bytes) (hx : look L x = some (.slice A n c)) (hl : SLo L lo l) (hh : SHi L n hi h) (h1 : l ≤ h) (h2 : h ≤ c)
    (hd : Nat.blt d N = true) (hK : WL P N ops Q rest ((d, .slice (cutA A c l) (h - l) (c - l)) :: L) w) :
    WL P N ops Q (⟨some d, .slice t x lo hi none, ty, pos, aft, none⟩ :: rest) L w :=
  wl_val (opv_slice T hx hl hh h1 h2) hd hK
/-- A beginning of a row of the call's own. -/
theorem Ow.pre {base : Nat} {A : Option Addr} {n c h : Nat} {xs : List Value} (ho : Ow w base e A n c xs) (hh : h ≤ n) : Ow w base e A h c (xs.take h) := by
  refine ⟨by have := ho.len; simp; omega, ?_⟩
  rcases ho.2 with ⟨hv, hn⟩ | ⟨g, cap, cur, hv, hb, hg, hnc, hm, hs, ht⟩
  · injection hv with hA hn' hc
    subst hA hc
    have : h = 0 := by omega
    subst this
    exact .inl ⟨rfl, rfl⟩
  · injection hv with hA hn' hc
    subst hA hc
    refine .inr ⟨g, c, cur, rfl, hb, hg, by omega, hm, hs, ?_⟩
    rw [← ht, List.take_take]; congr 1; omega

/-- A store into a row of the call's own. -/
theorem opu_store {x y : Operand} {ty : TypeId} {a : Addr} {u v : Value} (T : Row1 P t e z bytes) (hx : look L x = some (.pointer (some a))) (hy : look L y = some u) (h1 : u.oneCell' = true) (hc : w.cell? a = some v) (hf : w.frozen? a = false) :
    OpU P (.store e x y) ty L w (w.setCell a u) := fun ρ o hρ ho _ => by
  have hs : u.cells = #[u] := cells_one h1
  have hst : (store a u).run P w = .ok () (w.setCell a u) := by
    cases u <;> first | (simp [Value.oneCell'] at h1; done) | simp [store, Sem.run, hc, hf]
  unfold execOp
  simp only [ho, Instr.storeAt, Instr.sureAddr, hρ x _ hx, hρ y _ hy, storeVar, Sem.run_bind, Sem.run_pure, Result.andThen_ok, T.size, hs]
  have h0 : a.add 0 = a := by simp [Addr.add]
  simp [storeCells, h0, hst]
theorem wl_set {d1 : Nat} {x i y : Operand} {ty1 ty2 : TypeId} {p1 p2 : String} {f1 f2 : Array Edge} {base : Nat} {A : Option Addr} {n c kk : Nat} {ik : IntKind} {q : Int} {u : Value} {xs : List Value} (T : Row1 P t e z bytes)
    (hx : look L x = some (.slice A n c)) (hi : look L i = some (.int ik q)) (ho : Ow w base e A n c xs) (hq : q = (kk : Int)) (hk : kk < n)
    (hy : ∀ p, look ((d1, p) :: L) y = some u) (h1 : u.oneCell' = true) (hd1 : Nat.blt d1 N = true)
    (h : ∀ p w', Ow w' base e A n c (xs.set kk u) → Gr w w' A → w'.heap.size = w.heap.size → WL P N ops Q rest ((d1, p) :: L) w') :
    WL P N ops Q (⟨some d1, .indexAddr t x i, ty1, p1, f1, none⟩ :: ⟨none, .store e (.tmp d1) y, ty2, p2, f2, none⟩ :: rest) L w := by
  obtain ⟨g, cap, hv, _, hlt⟩ := World.ownsRow.form ho (by omega)
  injection hv with hA hn hc; subst hA hc
  refine wl_val (opv_idx T hx hi hq hk) hd1 ?_
  have hl : kk < xs.length := by have := ho.len; omega
  have hcell := World.ownsRow.cellAt ho kk (by omega)
  have hfr := World.ownsRow.frozenAt ho kk
  rw [List.getElem?_eq_getElem hl] at hcell
  have hst := World.ownsRow.stored ho kk u
  refine wl_unitN (opu_store T (by simp [look, lookT]; rfl) (hy _) h1 (v := xs[kk]) (by simpa using hcell) (by simpa using hfr)) ?_
  simp only [Nat.zero_add]
  exact h _ _ hst.1 hst.2 (by simp [World.setCell])
end
end Go.Proofs.Ytaacnknniaipmaa

/-
  The engine's rules for numbers: conversions, quotients, bits, shifts; natural numbers as the values of unsigned kinds. Nothing here names the program.
-/
namespace Go.Proofs.Ytaacnknniaipmaa
open Go.RowKit

theorem wrap_uns {k : IntKind} (hk : k.signed = false) (q : Int) : k.wrap q = q % (2 ^ k.bits : Int) := by
  simp [IntKind.wrap, hk]
theorem wrap_nat {k : IntKind} (hk : k.signed = false) (n : Nat) : k.wrap (n : Int) = ((n % 2 ^ k.bits : Nat) : Int) := by
  rw [wrap_uns hk]; simp
theorem wrap_small {k : IntKind} (hk : k.signed = false) {n : Nat} (h : n < 2 ^ k.bits) : k.wrap (n : Int) = (n : Int) := by
  rw [wrap_nat hk, Nat.mod_eq_of_lt h]
theorem ofInt_nat (b n : Nat) : BitVec.ofInt b (n : Int) = BitVec.ofNat b n := by simp

section
variable {P : Program} {L : FL} {w : World} {t ty : TypeId} {k : IntKind}

theorem OpV.to {op : Op} {w' : World} {v u : Value} (h : OpV P op ty L w v w') (e : v = u) : OpV P op ty L w u w' := e ▸ h
theorem opv_conv {src dst : TypeId} {x : Operand} {k0 : IntKind} {q : Int} {ds : TypeDesc} (hx : look L x = some (.int k0 q)) (hs : P.underlying src = some ds) (hd : P.underlying dst = some (.int k)) :
    OpV P (.convert src dst x) ty L w (.int k (k.wrap q)) w := fun ρ o hρ ho _ => by
  unfold execOp
  simp only [ho, hρ x _ hx, convert, Sem.run_bind, run_underlying hs, run_underlying hd, Result.andThen_ok, Conv.intToInt]
  simp
theorem opv_convR {src dst : TypeId} {x : Operand} {k0 : IntKind} {q r : Int} {ds : TypeDesc} (hx : look L x = some (.int k0 q)) (hs : P.underlying src = some ds) (hd : P.underlying dst = some (.int k)) (hr : k.wrap q = r) :
    OpV P (.convert src dst x) ty L w (.int k r) w := hr ▸ opv_conv hx hs hd
end

section
variable {P : Program} {t : TypeId} {k : IntKind}
theorem bin_bits (op : BinOp) (hop : op = .and ∨ op = .or ∨ op = .xor ∨ op = .andNot) {x y : Int} {r : Value} (h : ∀ w, (Op.intBits op k x y).run P w = .ok r w) : BinV P op t (.int k x) (.int k y) r := .mk fun u v w => by
  rcases hop with rfl | rfl | rfl | rfl <;> simpa [eqGuard, binOp] using h w
theorem bin_and {a b : Nat} (hk : k.signed = false) (ha : a < 2 ^ k.bits) (hb : b < 2 ^ k.bits) : BinV P .and t (.int k (a : Int)) (.int k (b : Int)) (.int k ((a &&& b : Nat) : Int)) :=
  bin_bits .and (.inl rfl) fun w => by
    have h : a &&& b < 2 ^ k.bits := Nat.lt_of_le_of_lt Nat.and_le_left ha
    simp only [Op.intBits, ofInt_nat, BitVec.toNat_and, BitVec.toNat_ofNat, Nat.mod_eq_of_lt ha, Nat.mod_eq_of_lt hb, wrap_small hk h]; rfl
theorem bin_or {a b : Nat} (hk : k.signed = false) (ha : a < 2 ^ k.bits) (hb : b < 2 ^ k.bits) : BinV P .or t (.int k (a : Int)) (.int k (b : Int)) (.int k ((a ||| b : Nat) : Int)) :=
  bin_bits .or (.inr (.inl rfl)) fun w => by
    have h : a ||| b < 2 ^ k.bits := Nat.or_lt_two_pow ha hb
    simp only [Op.intBits, ofInt_nat, BitVec.toNat_or, BitVec.toNat_ofNat, Nat.mod_eq_of_lt ha, Nat.mod_eq_of_lt hb, wrap_small hk h]; rfl
theorem bin_xor {a b : Nat} (hk : k.signed = false) (ha : a < 2 ^ k.bits) (hb : b < 2 ^ k.bits) : BinV P .xor t (.int k (a : Int)) (.int k (b : Int)) (.int k ((a ^^^ b : Nat) : Int)) :=
  bin_bits .xor (.inr (.inr (.inl rfl))) fun w => by
    have h : a ^^^ b < 2 ^ k.bits := Nat.xor_lt_two_pow ha hb
    simp only [Op.intBits, ofInt_nat, BitVec.toNat_xor, BitVec.toNat_ofNat, Nat.mod_eq_of_lt ha, Nat.mod_eq_of_lt hb, wrap_small hk h]; rfl
theorem bin_andNot {a b : Nat} (hk : k.signed = false) (ha : a < 2 ^ k.bits) (hb : b < 2 ^ k.bits) : BinV P .andNot t (.int k (a : Int)) (.int k (b : Int)) (.int k ((a &&& (2 ^ k.bits - 1 - b) : Nat) : Int)) :=
  bin_bits .andNot (.inr (.inr (.inr rfl))) fun w => by
    have h : a &&& (2 ^ k.bits - 1 - b) < 2 ^ k.bits := Nat.lt_of_le_of_lt Nat.and_le_left ha
    simp only [Op.intBits, ofInt_nat, BitVec.toNat_and, BitVec.toNat_not, BitVec.toNat_ofNat, Nat.mod_eq_of_lt ha, Nat.mod_eq_of_lt hb, wrap_small hk h]; rfl
theorem bin_shr {x y : Nat} {yk : IntKind} (hx : x < 2 ^ k.bits) : BinV P .shr t (.int k (x : Int)) (.int yk (y : Int)) (.int k ((x / 2 ^ y : Nat) : Int)) := .mk fun u v w => by
  have h : ((x : Int).fdiv (2 ^ min y k.bits)) = ((x / 2 ^ y : Nat) : Int) := by
    rw [Int.fdiv_eq_ediv_of_nonneg _ (Int.le_of_lt (Int.pow_pos (by decide)))]
    rcases Nat.le_total y k.bits with h | h
    · rw [Nat.min_eq_left h]; simp
    · rw [Nat.min_eq_right h]
      have h1 : x / 2 ^ k.bits = 0 := Nat.div_eq_of_lt hx
      have h2 : x / 2 ^ y = 0 := Nat.div_eq_of_lt (Nat.lt_of_lt_of_le hx (Nat.pow_le_pow_right (by decide) h))
      rw [h2]
      have : ((x : Int) / 2 ^ k.bits) = ((x / 2 ^ k.bits : Nat) : Int) := by simp
      rw [this, h1]
  have h0 : ¬ (y : Int) < 0 := by omega
  simp only [eqGuard, binOp, Op.shift, h0, if_false, Int.toNat_natCast, h]
  simp
theorem bin_shl {x y : Nat} {yk : IntKind} (hk : k.signed = false) : BinV P .shl t (.int k (x : Int)) (.int yk (y : Int)) (.int k ((x * 2 ^ y % 2 ^ k.bits : Nat) : Int)) := .mk fun u v w => by
  have h : k.wrap ((x : Int) * 2 ^ min y k.bits) = ((x * 2 ^ y % 2 ^ k.bits : Nat) : Int) := by
    have : ((x : Int) * 2 ^ min y k.bits) = ((x * 2 ^ min y k.bits : Nat) : Int) := by simp
    rw [this, wrap_nat hk]
    rcases Nat.le_total y k.bits with h | h
    · rw [Nat.min_eq_left h]
    · rw [Nat.min_eq_right h, Nat.mul_mod_left]
      obtain ⟨d, rfl⟩ := Nat.exists_eq_add_of_le h
      rw [Nat.pow_add, ← Nat.mul_assoc, Nat.mul_right_comm, Nat.mul_mod_left]
  have h0 : ¬ (y : Int) < 0 := by omega
  simp only [eqGuard, binOp, Op.shift, h0, if_false, Int.toNat_natCast, h]
  simp
theorem bin_quo {a b : Nat} (hb : 0 < b) (hr : k.wrap ((a / b : Nat) : Int) = ((a / b : Nat) : Int)) : BinV P .quo t (.int k (a : Int)) (.int k (b : Int)) (.int k ((a / b : Nat) : Int)) := .mk fun u v w => by
  have h0 : ¬ (b : Int) = 0 := by omega
  have h0' : ¬ b = 0 := by omega
  have h1 : (a : Int).tdiv b = ((a / b : Nat) : Int) := by rw [Int.tdiv_eq_ediv_of_nonneg (by omega)]; simp
  simp [eqGuard, binOp, Op.intDiv, h0', h1, -Int.natCast_ediv, hr]
theorem bin_rem {a b : Nat} (hb : 0 < b) : BinV P .rem t (.int k (a : Int)) (.int k (b : Int)) (.int k ((a % b : Nat) : Int)) := .mk fun u v w => by
  have h0' : ¬ b = 0 := by omega
  have h1 : (a : Int).tmod b = ((a % b : Nat) : Int) := by rw [Int.tmod_eq_emod_of_nonneg (by omega)]; simp
  simp [eqGuard, binOp, Op.intDiv, h0', h1, -Int.natCast_emod]
theorem bin_mulN {a b : Nat} (h : a * b ≤ 9223372036854775807) : BinV P .mul t (.int .i64 (a : Int)) (.int .i64 (b : Int)) (.int .i64 ((a * b : Nat) : Int)) := (bin_mul64 (by
  have : (a : Int) * b = ((a * b : Nat) : Int) := by simp
  omega)).to (by simp)
theorem bin_subU' {a b : Nat} (hk : k.signed = false) (hb : b ≤ a) (h : a < 2 ^ k.bits) : BinV P .sub t (.int k (a : Int)) (.int k (b : Int)) (.int k ((a - b : Nat) : Int)) := (bin_sub.to (by
  have : (a : Int) - b = ((a - b : Nat) : Int) := by omega
  rw [this, wrap_small hk (by omega)]))
theorem run_equalIn_slice (w : World) (d : Nat) {e : TypeId} (A : Option Addr) (n c : Nat) (ht : P.underlying t = some (.slice e)) : (Op.equalIn (d + 1) t (.slice A n c) (.slice none 0 0)).run P w = .ok A.isNone w := by
  cases A <;> simp [Op.equalIn, run_underlying ht]
theorem bin_eqlSliceNil {e : TypeId} {A : Option Addr} {n c : Nat} (ht : P.underlying t = some (.slice e)) : BinV P .eql t (.slice A n c) (.slice none 0 0) (.bool A.isNone) := .mk fun x y w => by
  simp only [eqGuard, binOp]
  simp [Op.equal, Op.maxDepth, run_equalIn_slice w 9999 A n c ht]
end
end Go.Proofs.Ytaacnknniaipmaa

/-
  The program's facts that the walks use: its slice types, and that each function has a body.
-/
namespace Go.Proofs.Ytaacnknniaipmaa
open Go.RowKit
theorem tyB : Row1 Try.prog 32 5 (.int .u8 0) 1 := ⟨Try.underlying32, by kernel_rfl, rfl, by rw [Try.underlying5]⟩
theorem tyBB : Row1 Try.prog 95 32 (.slice none 0 0) 24 := ⟨Try.underlying95, by kernel_rfl, rfl, by rw [Try.underlying32]⟩
theorem mixed : Try.prog.follows .mixedOrders = true := by kernel_rfl

/-- Bytes in a row of the call's own. -/
abbrev OwB (w : World) (base : Nat) (A : Option Addr) (c : Nat) (xs : List UInt8) : Prop := Ow w base 5 A xs.length c (bvs xs)
/-- Bytes that can be read. -/
abbrev RdB (w : World) (A : Option Addr) (xs : List UInt8) : Prop := Rd w A xs.length (bvs xs)
theorem OwB.rd {w : World} {base c : Nat} {A : Option Addr} {xs : List UInt8} (h : OwB w base A c xs) : RdB w A xs := Ow.rd h
theorem RdB.below {w w' : World} {A : Option Addr} {xs : List UInt8} (h : RdB w A xs) (hb : Below w.heap.size w w') : RdB w' A xs := Rd.below h hb
theorem OwB.below {w w' : World} {base c : Nat} {A : Option Addr} {xs : List UInt8} (h : OwB w base A c xs) (hb : Below w.heap.size w w') : OwB w' base A c xs := Ow.below h hb (Nat.le_refl _)
theorem OwB.snoc {w : World} {base c : Nat} {A : Option Addr} {pre : List UInt8} {x : UInt8} {v : Value} (h : Ow w base 5 A (pre.length + 1) c (bvs pre ++ [v])) (hv : bv x = v) : OwB w base A c (pre ++ [x]) := by
  subst hv; simpa [OwB, bvs] using h
theorem OwB.app {w : World} {base c : Nat} {A : Option Addr} {xs ys : List UInt8} (h : Ow w base 5 A (xs.length + ys.length) c (bvs xs ++ bvs ys)) : OwB w base A c (xs ++ ys) := by
  simpa [OwB, bvs] using h
theorem bvs_set (xs : List UInt8) (k : Nat) (y : UInt8) : (bvs xs).set k (bv y) = bvs (xs.set k y) := by simp [bvs, List.map_set]
theorem OwB.cap {w : World} {base c : Nat} {A : Option Addr} {xs : List UInt8} (h : OwB w base A c xs) : xs.length ≤ c := by
  rcases h.2 with ⟨hv, hn⟩ | ⟨g, cap, cur, hv, _, _, hnc, _⟩
  · omega
  · injection hv with _ _ hc; omega
/-- New bytes are handed back. -/
def RetB (w : World) (xs : List UInt8) (v : Value) (w' : World) : Prop :=
  ∃ A c, v = .slice A xs.length c ∧ OwB w' w.heap.size A c xs ∧ Below w.heap.size w w'
theorem bv_of {n : Nat} (h : n < 256) : bv (UInt8.ofNat n) = .int .u8 (n : Int) := by
  simp [bv, Nat.mod_eq_of_lt h]

theorem ok_caissonlaw24_awake : CallOk Try.prog 7 := callOk Try.func7 (by kernel_rfl) rfl
theorem ok_session_New : CallOk Try.prog 8 := callOk Try.func8 (by kernel_rfl) rfl
theorem ok_session_Client_Ask : CallOk Try.prog 9 := callOk Try.func9 (by kernel_rfl) rfl
theorem ok_plan_Encode : CallOk Try.prog 11 := callOk Try.func11 (by kernel_rfl) rfl
theorem ok_session_Client_Call : CallOk Try.prog 12 := callOk Try.func12 (by kernel_rfl) rfl
theorem ok_caissonref01_Equal : CallOk Try.prog 13 := callOk Try.func13 (by kernel_rfl) rfl
theorem ok_caissonref01_Copy : CallOk Try.prog 15 := callOk Try.func15 (by kernel_rfl) rfl
theorem ok_caissonlaw24_packet : CallOk Try.prog 21 := callOk Try.func21 (by kernel_rfl) rfl
theorem ok_session_Packet_Bytes : CallOk Try.prog 22 := callOk Try.func22 (by kernel_rfl) rfl
theorem ok_caissonref24_Uses : CallOk Try.prog 23 := callOk Try.func23 (by kernel_rfl) rfl
theorem ok_session_Read : CallOk Try.prog 24 := callOk Try.func24 (by kernel_rfl) rfl
theorem ok_caissonlaw24_same : CallOk Try.prog 25 := callOk Try.func25 (by kernel_rfl) rfl
theorem ok_caissonref03_Open : CallOk Try.prog 26 := callOk Try.func26 (by kernel_rfl) rfl
theorem ok_session_Client_txn : CallOk Try.prog 30 := callOk Try.func30 (by kernel_rfl) rfl
theorem ok_codec_Frame : CallOk Try.prog 32 := callOk Try.func32 (by kernel_rfl) rfl
theorem ok_bytes_Clone : CallOk Try.prog 33 := callOk Try.func33 (by kernel_rfl) rfl
theorem ok_caissonlaw17_Message : CallOk Try.prog 43 := callOk Try.func43 (by kernel_rfl) rfl
theorem ok_caissonref13_Twins : CallOk Try.prog 44 := callOk Try.func44 (by kernel_rfl) rfl
theorem ok_session_ints : CallOk Try.prog 45 := callOk Try.func45 (by kernel_rfl) rfl
theorem ok_session_words : CallOk Try.prog 46 := callOk Try.func46 (by kernel_rfl) rfl
theorem ok_session_putMsg : CallOk Try.prog 47 := callOk Try.func47 (by kernel_rfl) rfl
theorem ok_session_putResult : CallOk Try.prog 48 := callOk Try.func48 (by kernel_rfl) rfl
theorem ok_crc_Seal : CallOk Try.prog 49 := callOk Try.func49 (by kernel_rfl) rfl
theorem ok_crc_Open : CallOk Try.prog 50 := callOk Try.func50 (by kernel_rfl) rfl
theorem ok_session_open : CallOk Try.prog 51 := callOk Try.func51 (by kernel_rfl) rfl
theorem ok_session_reader_ints : CallOk Try.prog 52 := callOk Try.func52 (by kernel_rfl) rfl
theorem ok_session_reader_fields : CallOk Try.prog 53 := callOk Try.func53 (by kernel_rfl) rfl
theorem ok_caissonref24_Has : CallOk Try.prog 54 := callOk Try.func54 (by kernel_rfl) rfl
theorem ok_caissonlaw24_uses : CallOk Try.prog 55 := callOk Try.func55 (by kernel_rfl) rfl
theorem ok_caissonlaw24_sameMsg : CallOk Try.prog 56 := callOk Try.func56 (by kernel_rfl) rfl
theorem ok_caissonlaw24_sameRes : CallOk Try.prog 57 := callOk Try.func57 (by kernel_rfl) rfl
theorem ok_caissonref03_Seal : CallOk Try.prog 58 := callOk Try.func58 (by kernel_rfl) rfl
theorem ok_codec_PutU : CallOk Try.prog 62 := callOk Try.func62 (by kernel_rfl) rfl
theorem ok_codec_Parts : CallOk Try.prog 64 := callOk Try.func64 (by kernel_rfl) rfl
theorem ok_codec_GetU : CallOk Try.prog 66 := callOk Try.func66 (by kernel_rfl) rfl
theorem ok_caissonlaw17_msg : CallOk Try.prog 70 := callOk Try.func70 (by kernel_rfl) rfl
theorem ok_session_truth : CallOk Try.prog 71 := callOk Try.func71 (by kernel_rfl) rfl
theorem ok_bytes_Join : CallOk Try.prog 72 := callOk Try.func72 (by kernel_rfl) rfl
theorem ok_crc_put : CallOk Try.prog 73 := callOk Try.func73 (by kernel_rfl) rfl
theorem ok_crc_Sum : CallOk Try.prog 74 := callOk Try.func74 (by kernel_rfl) rfl
theorem ok_crc_get : CallOk Try.prog 75 := callOk Try.func75 (by kernel_rfl) rfl
theorem ok_session_reader_words : CallOk Try.prog 76 := callOk Try.func76 (by kernel_rfl) rfl
theorem ok_session_reader_msg : CallOk Try.prog 77 := callOk Try.func77 (by kernel_rfl) rfl
theorem ok_session_reader_result : CallOk Try.prog 78 := callOk Try.func78 (by kernel_rfl) rfl
theorem ok_session_reader_next : CallOk Try.prog 79 := callOk Try.func79 (by kernel_rfl) rfl
theorem ok_caissonref13_Same : CallOk Try.prog 80 := callOk Try.func80 (by kernel_rfl) rfl
theorem ok_caissonref14_SameWrites : CallOk Try.prog 81 := callOk Try.func81 (by kernel_rfl) rfl
theorem ok_caissonref03_four : CallOk Try.prog 82 := callOk Try.func82 (by kernel_rfl) rfl
theorem ok_caissonref03_Sum : CallOk Try.prog 83 := callOk Try.func83 (by kernel_rfl) rfl
theorem ok_codec_inside : CallOk Try.prog 85 := callOk Try.func85 (by kernel_rfl) rfl
theorem ok_crc_Table : CallOk Try.prog 90 := callOk Try.func90 (by kernel_rfl) rfl
theorem ok_session_reader_within : CallOk Try.prog 91 := callOk Try.func91 (by kernel_rfl) rfl
theorem ok_session_reader_msg_1 : CallOk Try.prog 92 := callOk Try.func92 (by kernel_rfl) rfl
theorem ok_session_reader_truth : CallOk Try.prog 93 := callOk Try.func93 (by kernel_rfl) rfl
theorem ok_session_reader_more : CallOk Try.prog 94 := callOk Try.func94 (by kernel_rfl) rfl
theorem ok_session_reader_result_1 : CallOk Try.prog 95 := callOk Try.func95 (by kernel_rfl) rfl
theorem ok_session_reader_result_1_1 : CallOk Try.prog 96 := callOk Try.func96 (by kernel_rfl) rfl
theorem ok_session_reader_result_1_2 : CallOk Try.prog 97 := callOk Try.func97 (by kernel_rfl) rfl
theorem ok_caissonref01_OrdU : CallOk Try.prog 98 := callOk Try.func98 (by kernel_rfl) rfl
theorem ok_crc_eight : CallOk Try.prog 99 := callOk Try.func99 (by kernel_rfl) rfl
theorem ok_crc_step : CallOk Try.prog 100 := callOk Try.func100 (by kernel_rfl) rfl
end Go.Proofs.Ytaacnknniaipmaa

/-
  How the arguments of a law are read: bytes, and lists of bytes; what a bound on all that is read gives.
-/
namespace Go.Proofs.Ytaacnknniaipmaa
open Go.RowKit Go.ChangeShapes Go.WideShapes Go.ChangeAt

theorem own : ownKnob Try.prog.godebug = none := by kernel_rfl
theorem laidOut : laidOutB Try.prog = true := by kernel_rfl

theorem bulk_one {H : Type} (d : DataW H) : 1 ≤ Rows.uptoBulk d := by
  cases d with
  | lit l => cases l <;> simp [Rows.uptoBulk]
  | nil => simp [Rows.uptoBulk]
  | ptr d => simp [Rows.uptoBulk]
  | slice elems spare => simp [Rows.uptoBulk]
  | agg parts => simp [Rows.uptoBulk]
  | iface t d => simp [Rows.uptoBulk]
  | map entries => simp [Rows.uptoBulk]
  | held h => simp [Rows.uptoBulk]
theorem bulk_len {H : Type} (l : List (DataW H)) : l.length ≤ Rows.uptoBulkAll l := by
  induction l with
  | nil => simp [Rows.uptoBulkAll]
  | cons x r ih => have := bulk_one x; simp only [Rows.uptoBulkAll, List.length_cons]; omega

section
variable {H : Type} {enc : TypeId × Value → H} {W : World} {a0 : Option Addr} {len0 cap0 : Nat} {d0 : DataW H} {p0 : List MemPlace}

theorem bytes_of {w : World} {x : Addr} {zs : List Int} {n : Nat} (hn : n ≤ zs.length) (hcell : ∀ i, i < zs.length → w.cell? (x.add i) = some (.int .u8 (zs.getD i 0))) (hw : ∀ z ∈ zs, (Lit.int .u8 z).wf = true) :
    ∃ xs : List UInt8, xs.length = n ∧ RdB w (some x) xs := by
  refine ⟨(zs.take n).map fun z => UInt8.ofNat z.toNat, by simp; omega, by simp [bvs], fun h0 => ?_⟩
  have hpos : 0 < zs.length := by simp at h0; omega
  obtain ⟨b, o, spot⟩ := x
  have hc := hcell 0 hpos
  have hspot : spot = none := by simpa [Addr.add] using World.cell?_spot hc
  subst hspot
  refine ⟨b, o, rfl, World.block_lt_of_cell? w _ (by simpa [Addr.add] using hc), fun j u hu => ?_⟩
  simp only [bvs, List.map_map, List.getElem?_map, List.getElem?_take] at hu
  by_cases hj : j < n
  · rw [if_pos hj] at hu
    have hjz : j < zs.length := by omega
    rw [List.getElem?_eq_getElem hjz] at hu
    simp only [Option.map_some, Option.some.injEq, Function.comp_apply] at hu
    have h1 := hcell j hjz
    rw [Addr.add_lit] at h1
    rw [h1, ← hu]
    have hz := hw zs[j] (List.getElem_mem hjz)
    have hb : 0 ≤ zs[j] ∧ zs[j] ≤ 255 := by simpa [Lit.wf, IntKind.min, IntKind.max, IntKind.signed, IntKind.bits] using hz
    have e : zs.getD j 0 = zs[j] := by simp [List.getD, List.getElem?_eq_getElem hjz]
    have e2 : zs[j].toNat % 256 = zs[j].toNat := Nat.mod_eq_of_lt (by omega)
    rw [e]
    simp [bv, e2]
    omega
  · rw [if_neg hj] at hu; cases hu

theorem arg_bytes (h0 : DataW.Trod enc Try.prog W 0 (fun _ => true) true 32 (.slice a0 len0 cap0) d0 p0) :
    ∃ xs : List UInt8, xs.length = len0 ∧ RdB W a0 xs ∧ len0 ≤ cap0 ∧ cap0 ≤ maxLen ∧ len0 + 1 ≤ Rows.uptoBulk d0 ∧ ((d0 = .nil ∧ cap0 = 0) ∨ ∃ e s, d0 = .slice e s ∧ e.length + s.length = cap0) := by
  obtain ⟨fuel, hf⟩ := h0
  rcases open_ints Try.underlying32 Try.underlying5 (by kernel_rfl) hf with ⟨hcs, hx⟩ | ⟨x, l, c, zs, hcs, _, hl, hm, hz, hx, hcell, hwz⟩
  · simp [Value.cells] at hcs
    obtain ⟨rfl, rfl, rfl⟩ := hcs
    injection hx with hd _
    subst hd
    exact ⟨[], rfl, Rd.nil _ _, by omega, by simp [maxLen], by simp [Rows.uptoBulk], .inl ⟨rfl, rfl⟩⟩
  · simp [Value.cells] at hcs
    obtain ⟨rfl, rfl, rfl⟩ := hcs
    injection hx with hd _
    have hz' : zs.length = cap0 := by simpa using hz
    obtain ⟨xs, h1, h2⟩ := bytes_of (n := len0) (by omega) hcell hwz
    have h3 := bulk_len (H := H) (lits .u8 (zs.take len0))
    refine ⟨xs, h1, h2, hl, hm, ?_, .inr ⟨_, _, hd, by simp [lits]; omega⟩⟩
    rw [hd]
    simp only [Rows.uptoBulk]
    simp [lits] at h3 ⊢
    omega
end
end Go.Proofs.Ytaacnknniaipmaa

/-
  Plain functions on lists of bytes, for layer 1 (codec), and what is true of them. Nothing here names the program or the model.
-/
namespace Go.Proofs.Ytaacnknniaipmaa

/-- A number in groups of seven bits. -/
def putU (n : Nat) : List UInt8 := if n < 128 then [UInt8.ofNat n] else UInt8.ofNat (n % 128 + 128) :: putU (n / 128)

/-- The number at the head of a list: n is what has been read, i how many bytes; value, count, error. -/
def getAux : Nat → Nat → List UInt8 → Nat × Nat × Nat
  | _, _, [] => (0, 0, 5)
  | i, n, x :: r =>
    if (i = 9 ∧ 1 < x.toNat) ∨ (x.toNat = 0 ∧ 0 < i) then (0, 0, 3)
    else if x.toNat < 128 then (n + x.toNat * 128 ^ i, i + 1, 0)
    else getAux (i + 1) (n + (x.toNat - 128) * 128 ^ i) r

/-- The number at a place: value, place behind it, error. -/
def getU (b : List UInt8) (p : Int) : Nat × Int × Nat :=
  if p < 0 ∨ (b.length : Int) < p then (0, 0, 1) else
  match getAux 0 0 (b.drop p.toNat) with
  | (n, k, 0) => (n, p + k, 0)
  | (_, _, e) => (0, 0, e)

theorem or128 (m : Nat) : (m % 256 ||| 128) = m % 128 + 128 := by
  have h : m % 256 < 256 := Nat.mod_lt _ (by decide)
  have e : m % 128 = (m % 256) % 128 := by omega
  rw [e]
  generalize m % 256 = x at h
  revert x
  decide +kernel
theorem andNot128 (x : UInt8) : (x.toNat &&& (18446744073709551615 - 128)) = x.toNat % 128 := by
  have h : x.toNat < 256 := x.toNat_lt
  generalize x.toNat = y at h
  revert y
  decide +kernel
theorem or_shift {n y i : Nat} (h : n < 128 ^ i) : n ||| y * 2 ^ (7 * i) = n + y * 128 ^ i := by
  have e : (128 : Nat) ^ i = 2 ^ (7 * i) := by rw [Nat.pow_mul]
  rw [e] at h ⊢
  rw [Nat.or_comm, ← Nat.shiftLeft_eq, ← Nat.shiftLeft_add_eq_or_of_lt h, Nat.shiftLeft_eq, Nat.add_comm]

theorem drop_get {l : List UInt8} {k : Nat} {b : UInt8} (h : l[k]? = some b) : l.drop k = b :: l.drop (k + 1) := by
  have hk : k < l.length := by
    rcases Nat.lt_or_ge k l.length with h' | h'
    · exact h'
    · rw [List.getElem?_eq_none h'] at h; cases h
  rw [List.getElem?_eq_getElem hk] at h
  cases h
  exact List.drop_eq_getElem_cons hk
theorem take_get {l : List UInt8} {k : Nat} {b : UInt8} (h : l[k]? = some b) : l.take (k + 1) = l.take k ++ [b] := by
  rw [List.take_add_one, h]; rfl

theorem getAux_step {i n : Nat} {x : UInt8} {r : List UInt8} (h1 : ¬ ((i = 9 ∧ 1 < x.toNat) ∨ (x.toNat = 0 ∧ 0 < i))) (h2 : ¬ x.toNat < 128) : getAux i n (x :: r) = getAux (i + 1) (n + x.toNat % 128 * 128 ^ i) r := by
  rw [getAux, if_neg h1, if_neg h2]
  have h3 := x.toNat_lt
  have h4 : x.toNat - 128 = x.toNat % 128 := by omega
  rw [h4]
theorem getAux_form {i n : Nat} {x : UInt8} {r : List UInt8} (h1 : (i = 9 ∧ 1 < x.toNat) ∨ (x.toNat = 0 ∧ 0 < i)) : getAux i n (x :: r) = (0, 0, 3) := by
  rw [getAux, if_pos h1]
theorem getAux_last {i n : Nat} {x : UInt8} {r : List UInt8} (h1 : ¬ ((i = 9 ∧ 1 < x.toNat) ∨ (x.toNat = 0 ∧ 0 < i))) (h2 : x.toNat < 128) : getAux i n (x :: r) = (n + x.toNat % 128 * 128 ^ i, i + 1, 0) := by
  rw [getAux, if_neg h1, if_pos h2, Nat.mod_eq_of_lt h2]
theorem getU_arg {b : List UInt8} {p : Int} (h : ¬ (0 ≤ p ∧ p ≤ b.length)) : getU b p = (0, 0, 1) := by
  rw [getU, if_pos (by omega)]
theorem getU_ok {b : List UInt8} {q n k : Nat} (hq : q ≤ b.length) (h : getAux 0 0 (b.drop q) = (n, k, 0)) : getU b q = (n, (q : Int) + k, 0) := by
  rw [getU, if_neg (by omega)]
  simp [h]
theorem getU_bad {b : List UInt8} {q e : Nat} (hq : q ≤ b.length) (h : getAux 0 0 (b.drop q) = (0, 0, e + 1)) : getU b q = (0, 0, e + 1) := by
  rw [getU, if_neg (by omega)]
  simp [h]
/-- A number of ten groups at most, and what a further group adds. -/
theorem group_lt {i n y : Nat} (hn : n < 128 ^ i) (hy : y < 128) : n + y * 128 ^ i < 128 ^ (i + 1) := by
  have h1 : y * 128 ^ i ≤ 127 * 128 ^ i := Nat.mul_le_mul_right _ (by omega)
  rw [Nat.pow_succ]
  omega
theorem pow128_9 : (128 : Nat) ^ 9 = 9223372036854775808 := by decide

theorem sum_lt {i n x : Nat} (hn : n < 128 ^ i) (hi : i ≤ 9) (hx1 : i = 9 → x ≤ 1) : n + x % 128 * 128 ^ i < 18446744073709551616 := by
  rcases Nat.lt_or_ge i 9 with h9 | h9
  · have h8 := group_lt hn (Nat.mod_lt x (show 0 < 128 by decide))
    have : (128 : Nat) ^ (i + 1) ≤ 128 ^ 9 := Nat.pow_le_pow_right (by decide) (by omega)
    rw [pow128_9] at this; omega
  · obtain rfl : i = 9 := by omega
    have h10 := hx1 rfl
    have : x % 128 ≤ 1 := by omega
    have : x % 128 * 128 ^ 9 ≤ 1 * 128 ^ 9 := Nat.mul_le_mul_right _ this
    rw [pow128_9] at *; omega

/-- What is written is read back. -/
theorem getAux_putU (r : List UInt8) : ∀ (m i n : Nat), n < 128 ^ i → m < 2 ^ (64 - 7 * i) → i ≤ 9 → (i = 0 ∨ 0 < m) → getAux i n (putU m ++ r) = (n + m * 128 ^ i, i + (putU m).length, 0) := by
  intro m
  induction m using Nat.strongRecOn with
  | _ m ih =>
    intro i n hn hm hi h0
    have h9 : i = 9 → m < 2 := by rintro rfl; simpa using hm
    rw [putU]
    by_cases hs : m < 128
    · rw [if_pos hs]
      have e : (UInt8.ofNat m).toNat = m := by simp; omega
      simp only [List.cons_append, List.nil_append]
      rw [getAux_last (by rw [e]; omega) (by rw [e]; exact hs), e, Nat.mod_eq_of_lt hs]; rfl
    · rw [if_neg hs]
      have e : (UInt8.ofNat (m % 128 + 128)).toNat = m % 128 + 128 := by rw [UInt8.toNat_ofNat']; omega
      simp only [List.cons_append]
      have e2 : (m % 128 + 128) % 128 = m % 128 := by omega
      rw [getAux_step (by rw [e]; omega) (by rw [e]; omega), e, e2]
      have hi8 : i ≤ 8 := by omega
      rw [ih (m / 128) (by omega) (i + 1) _ (group_lt hn (Nat.mod_lt _ (by decide))) ?_ (by omega) (by omega)]
      · refine Prod.ext ?_ (Prod.ext ?_ rfl)
        · show n + m % 128 * 128 ^ i + m / 128 * 128 ^ (i + 1) = n + m * 128 ^ i
          have : m * 128 ^ i = (m % 128 + 128 * (m / 128)) * 128 ^ i := by rw [Nat.mod_add_div]
          rw [this, Nat.add_mul, Nat.pow_succ]
          have : m / 128 * (128 ^ i * 128) = 128 * (m / 128) * 128 ^ i := by rw [Nat.mul_comm (128 ^ i) 128, ← Nat.mul_assoc, Nat.mul_comm (m / 128) 128]
          omega
        · simp; omega
      · refine Nat.div_lt_of_lt_mul ?_
        rw [show 128 = 2 ^ 7 from rfl, ← Nat.pow_add, show 7 + (64 - 7 * (i + 1)) = 64 - 7 * i by omega]
        exact hm
/-- What is read is what is written. -/
theorem getAux_inv : ∀ (l : List UInt8) (i n v k : Nat), n < 128 ^ i → i ≤ 9 → getAux i n l = (v, k, 0) →
    ∃ m j, k = i + j ∧ j ≤ l.length ∧ v = n + m * 128 ^ i ∧ putU m = l.take j ∧ (i = 0 ∨ 0 < m) ∧ v < 18446744073709551616
  | [], i, n, v, k, _, _, h => by simp [getAux] at h
  | x :: r, i, n, v, k, hn, hi, h => by
    have hx := x.toNat_lt
    by_cases h1 : (i = 9 ∧ 1 < x.toNat) ∨ (x.toNat = 0 ∧ 0 < i)
    · rw [getAux_form h1] at h; simp at h
    · by_cases h2 : x.toNat < 128
      · rw [getAux_last h1 h2] at h
        have hs := sum_lt hn hi (x := x.toNat) (by omega)
        injection h with ha hb; injection hb with hb _
        subst ha hb
        rw [Nat.mod_eq_of_lt h2] at hs ⊢
        refine ⟨x.toNat, 1, rfl, by simp, rfl, ?_, by omega, hs⟩
        rw [putU, if_pos h2]; simp
      · rw [getAux_step h1 h2] at h
        have hi8 : i ≤ 8 := by omega
        obtain ⟨m, j, rfl, hj, rfl, hp, h0, hlt⟩ := getAux_inv r (i + 1) _ v k (group_lt hn (Nat.mod_lt _ (by decide))) (by omega) h
        refine ⟨x.toNat % 128 + 128 * m, j + 1, by omega, by simp; omega, ?_, ?_, by omega, hlt⟩
        · rw [Nat.add_mul, Nat.pow_succ]
          have : m * (128 ^ i * 128) = 128 * m * 128 ^ i := by rw [Nat.mul_comm (128 ^ i) 128, ← Nat.mul_assoc, Nat.mul_comm m 128]
          omega
        · rw [putU, if_neg (by omega)]
          have e1 : (x.toNat % 128 + 128 * m) % 128 + 128 = x.toNat := by omega
          have e2 : (x.toNat % 128 + 128 * m) / 128 = m := by omega
          rw [e1, e2, hp]; simp
theorem getU_inv {l : List UInt8} {p : Int} {v : Nat} {x : Int} (h : getU l p = (v, x, 0)) :
    ∃ q k : Nat, p = q ∧ x = k ∧ q ≤ k ∧ k ≤ l.length ∧ putU v = (l.take k).drop q ∧ v < 18446744073709551616 := by
  rw [getU] at h
  split at h
  · simp at h
  · rename_i hp
    obtain ⟨q, rfl⟩ := Int.eq_ofNat_of_zero_le (by omega : 0 ≤ p)
    simp only [Int.toNat_natCast] at h
    cases hg : getAux 0 0 (l.drop q) with
    | mk n ke =>
      obtain ⟨k, e⟩ := ke
      rw [hg] at h
      cases e with
      | succ e => simp at h
      | zero =>
        simp only [Prod.mk.injEq, and_true] at h
        obtain ⟨rfl, rfl⟩ := h
        obtain ⟨m, j, rfl, hj, rfl, hp2, _, hlt⟩ := getAux_inv _ 0 0 n k (by decide) (by omega) hg
        rw [List.length_drop] at hj
        refine ⟨q, q + j, rfl, by omega, by omega, by omega, ?_, hlt⟩
        simp only [Nat.pow_zero, Nat.mul_one, Nat.zero_add]
        rw [hp2, List.drop_take]; congr 1; omega
theorem getU_err {l : List UInt8} {p : Int} (h : (getU l p).2.2 ≠ 0) : (getU l p).1 = 0 ∧ (getU l p).2.1 = 0 := by
  unfold getU at h ⊢
  split
  · simp
  · rename_i hp
    rw [if_neg hp] at h
    split at h
    · simp at h
    · simp
theorem getU_fits (l : List UInt8) (p : Int) : (getU l p).1 < 18446744073709551616 := by
  by_cases h : (getU l p).2.2 = 0
  · obtain ⟨_, _, _, _, _, _, _, h⟩ := getU_inv (l := l) (p := p) (v := (getU l p).1) (x := (getU l p).2.1) (by rw [← h])
    exact h
  · rw [(getU_err h).1]; decide

theorem putU_length : ∀ (f n : Nat), n < 128 ^ (f + 1) → (putU n).length ≤ f + 1
  | 0, n, h => by rw [putU, if_pos (by omega)]; simp
  | f + 1, n, h => by
    rw [putU]
    split
    · simp
    · have := putU_length f (n / 128) (Nat.div_lt_of_lt_mul (by rw [Nat.mul_comm, ← Nat.pow_succ]; exact h))
      simp; omega
theorem putU_le {n : Nat} (h : n < 2 ^ 64) : (putU n).length ≤ 10 := putU_length 9 n (Nat.lt_of_lt_of_le h (by decide))

end Go.Proofs.Ytaacnknniaipmaa

/-
  Plain functions on lists of bytes, for layer 1 (codec): bytes with an end are read back; numbers of eight bytes; frames; what stands next. Nothing here names the program or the model.
-/
namespace Go.Proofs.Ytaacnknniaipmaa

/-! ### What stands next -/
end Go.Proofs.Ytaacnknniaipmaa

/-
  Plain laws of lists: tuples of written lists, frames, numbers of eight bytes. No program in sight.
-/
namespace Go.Proofs.Ytaacnknniaipmaa

/-! ### Tuples -/

theorem take_getR {α : Type} {l : List α} {k : Nat} {b : α} (h : l[k]? = some b) : l.take (k + 1) = l.take k ++ [b] := by
  rw [List.take_add_one, h]; rfl
theorem flat_mem : ∀ {l : List (List UInt8)} {k : Nat} {x : List UInt8}, l[k]? = some x → x.length ≤ l.flatten.length
  | [], _, _, h => by simp at h
  | y :: l, 0, x, h => by
    simp only [List.getElem?_cons_zero, Option.some.injEq] at h
    subst h
    rw [List.flatten_cons, List.length_append]; omega
  | y :: l, k + 1, x, h => by
    simp only [List.getElem?_cons_succ] at h
    have := flat_mem h
    rw [List.flatten_cons, List.length_append]; omega
end Go.Proofs.Ytaacnknniaipmaa

/-
  Plain laws of frames. No program in sight.
-/
namespace Go.Proofs.Ytaacnknniaipmaa

def framed (l : List (List UInt8)) : List UInt8 := l.flatMap fun r => putU r.length ++ r
/-- The parts behind place q; out: those ahead of it. -/
def partsF : Nat → List UInt8 → Nat → List (List UInt8) → List (List UInt8) × Nat
  | 0, _, _, out => (out, 0)
  | f + 1, b, q, out =>
    if b.length ≤ q then (out, 0)
    else if (getU b q).2.2 = 0 then
      if b.length < (getU b q).2.1.toNat + (getU b q).1 then ([], 5)
      else partsF f b ((getU b q).2.1.toNat + (getU b q).1) (out ++ [(b.take ((getU b q).2.1.toNat + (getU b q).1)).drop (getU b q).2.1.toNat])
    else ([], (getU b q).2.2)
def parts (b : List UInt8) : List (List UInt8) × Nat := partsF b.length b 0 []

theorem putU_pos (n : Nat) : 0 < (putU n).length := by
  rw [putU]; split <;> simp
theorem getU_next {b : List UInt8} {q n : Nat} {x : Int} (h : getU b q = (n, x, 0)) : ∃ k : Nat, x = k ∧ q < k ∧ k ≤ b.length := by
  obtain ⟨q', k, hq, rfl, h1, h2, h3, _⟩ := getU_inv h
  obtain rfl : q = q' := by omega
  have := congrArg List.length h3
  have hp := putU_pos n
  refine ⟨k, rfl, ?_, h2⟩
  simp at this; omega
theorem partsF_end {f : Nat} {b : List UInt8} {q : Nat} {out : List (List UInt8)} (h : b.length ≤ q) : partsF f b q out = (out, 0) := by
  cases f with
  | zero => rfl
  | succ f => rw [partsF, if_pos h]
theorem partsF_err {f : Nat} {b : List UInt8} {q n e : Nat} {x : Int} {out : List (List UInt8)} (h : ¬ b.length ≤ q) (hu : getU b q = (n, x, e)) (he : ¬ e = 0) : partsF (f + 1) b q out = ([], e) := by
  rw [partsF, if_neg h, hu, if_neg he]
theorem partsF_short {f : Nat} {b : List UInt8} {q n k : Nat} {out : List (List UInt8)} (h : ¬ b.length ≤ q) (hu : getU b q = (n, (k : Int), 0)) (hs : b.length < k + n) : partsF (f + 1) b q out = ([], 5) := by
  rw [partsF, if_neg h, hu, if_pos rfl]
  simp only [Int.toNat_natCast]
  rw [if_pos hs]
theorem partsF_step {f : Nat} {b : List UInt8} {q n k : Nat} {out : List (List UInt8)} (h : ¬ b.length ≤ q) (hu : getU b q = (n, (k : Int), 0)) (hs : ¬ b.length < k + n) : partsF (f + 1) b q out = partsF f b (k + n) (out ++ [(b.take (k + n)).drop k]) := by
  rw [partsF, if_neg h, hu, if_pos rfl]
  simp only [Int.toNat_natCast]
  rw [if_neg hs]
/-- How much a list's parts hold, and what error there is. -/
theorem partsF_size : ∀ (f : Nat) (b : List UInt8) (q : Nat) (out : List (List UInt8)), q ≤ b.length → out.length + out.flatten.length ≤ q → (partsF f b q out).1.length + (partsF f b q out).1.flatten.length ≤ b.length
  | 0, b, q, out, hq, h => by simp only [partsF]; omega
  | f + 1, b, q, out, hq, h => by
    by_cases h1 : b.length ≤ q
    · rw [partsF_end h1]; exact Nat.le_trans h hq
    · obtain ⟨n, x, e, hu⟩ : ∃ n x e, getU b q = (n, x, e) := ⟨_, _, _, rfl⟩
      by_cases he : e = 0
      · subst he
        obtain ⟨k, rfl, h2, h3⟩ := getU_next hu
        by_cases hs : b.length < k + n
        · rw [partsF_short h1 hu hs]; simp
        · rw [partsF_step h1 hu hs]
          refine partsF_size f b _ _ (by omega) ?_
          simp only [List.flatten_append, List.flatten_cons, List.flatten_nil, List.length_append, List.length_cons, List.length_nil, List.length_drop, List.length_take]
          omega
      · rw [partsF_err h1 hu he]; simp
theorem getU_mid {pre rest : List UInt8} {n : Nat} (hn : n < 2 ^ 64) : getU (pre ++ (putU n ++ rest)) pre.length = (n, ((pre.length + (putU n).length : Nat) : Int), 0) := by
  have h := getAux_putU rest n 0 0 (by decide) hn (by omega) (.inl rfl)
  have := getU_ok (b := pre ++ (putU n ++ rest)) (q := pre.length) (n := n) (k := (putU n).length) (by simp) (by rw [List.drop_left, h]; simp)
  rw [this]; simp
theorem partsF_framed : ∀ (l : List (List UInt8)) (f : Nat) (pre : List UInt8) (out : List (List UInt8)), (∀ r ∈ l, r.length < 2 ^ 64) → (framed l).length ≤ f → partsF f (pre ++ framed l) pre.length out = (out ++ l, 0)
  | [], f, pre, out, _, _ => by rw [partsF_end (by simp [framed])]; simp
  | r :: l, f, pre, out, hr, hf => by
    have e : framed (r :: l) = putU r.length ++ (r ++ framed l) := by simp [framed]
    rw [e] at hf ⊢
    have hp := putU_pos r.length
    simp only [List.length_append] at hf
    obtain ⟨f, rfl⟩ : ∃ g, f = g + 1 := ⟨f - 1, by omega⟩
    have hg := getU_mid (pre := pre) (rest := r ++ framed l) (hr r (by simp))
    rw [partsF_step (by simp; omega) hg (by simp only [List.length_append]; omega)]
    have hb : pre ++ (putU r.length ++ (r ++ framed l)) = (pre ++ putU r.length ++ r) ++ framed l := by simp
    have hlen : (pre ++ putU r.length ++ r).length = pre.length + (putU r.length).length + r.length := by simp only [List.length_append]
    have hcut : ((pre ++ (putU r.length ++ (r ++ framed l))).take (pre.length + (putU r.length).length + r.length)).drop (pre.length + (putU r.length).length) = r := by
      rw [hb, ← hlen, List.take_left, show pre.length + (putU r.length).length = (pre ++ putU r.length).length by simp, List.drop_left]
    rw [hcut, hb, ← hlen, partsF_framed l f _ _ (fun x hx => hr x (by simp [hx])) (by omega)]
    simp
theorem parts_framed {l : List (List UInt8)} (h : ∀ r ∈ l, r.length < 2 ^ 64) : parts (framed l) = (l, 0) := by
  have := partsF_framed l (framed l).length [] [] h (Nat.le_refl _)
  simpa [parts] using this
theorem framed_take {l : List (List UInt8)} {k : Nat} {x : List UInt8} (h : l[k]? = some x) : framed (l.take (k + 1)) = framed (l.take k) ++ putU x.length ++ x := by
  rw [take_getR h]; simp [framed]
theorem framed_length : ∀ (l : List (List UInt8)), (∀ r ∈ l, r.length < 2 ^ 64) → (framed l).length ≤ l.flatten.length + 10 * l.length
  | [], _ => by simp [framed]
  | x :: l, h => by
    have h1 := framed_length l (fun r hr => h r (by simp [hr]))
    have h2 := putU_le (h x (by simp))
    simp only [framed, List.flatMap_cons, List.length_append, List.flatten_cons, List.length_cons] at h1 ⊢
    omega
theorem framed_take_le (l : List (List UInt8)) (k : Nat) : (framed (l.take k)).length ≤ (framed l).length := by
  have : framed l = framed (l.take k) ++ framed (l.drop k) := by
    rw [framed, framed, framed, ← List.flatMap_append, List.take_append_drop]
  rw [this, List.length_append]; omega
theorem mem_flat {l : List (List UInt8)} {x : List UInt8} (h : x ∈ l) : x.length ≤ l.flatten.length := by
  obtain ⟨k, hk, rfl⟩ := List.getElem_of_mem h
  exact flat_mem (List.getElem?_eq_getElem hk)
end Go.Proofs.Ytaacnknniaipmaa

/-
  Numbers and parts as plain data, read out of frames one after the other. No program in sight.
-/
namespace Go.Proofs.Ytaacnknniaipmaa

abbrev By := List UInt8
/-- An int as 64 bits, and back. -/
def uI (n : Int) : Nat := (n % 18446744073709551616).toNat
def iU (w : Nat) : Int := if (w : Int) < 9223372036854775808 then w else (w : Int) - 18446744073709551616
def I64 (n : Int) : Prop := -9223372036854775808 ≤ n ∧ n ≤ 9223372036854775807
theorem uI_lt (n : Int) : uI n < 2 ^ 64 := by unfold uI; omega
theorem iU_uI {n : Int} (h : I64 n) : iU (uI n) = n := by unfold iU uI; obtain ⟨h1, h2⟩ := h; split <;> omega
theorem uI_iU {w : Nat} (h : w < 2 ^ 64) : uI (iU w) = w := by unfold iU uI; split <;> omega
theorem iU_I64 {w : Nat} (h : w < 2 ^ 64) : I64 (iU w) := by unfold iU I64; split <;> omega
def wordsB (l : List Nat) : By := l.flatMap putU
def intsB (l : List Int) : By := wordsB (l.map uI)
def tI (b : Bool) : Int := if b then 1 else 0
theorem tI_I64 (b : Bool) : I64 (tI b) := by cases b <;> simp [tI, I64]
/-- Just so many numbers out of bytes, from a place on; behind an error: zeros. -/
def numsF : Nat → By → Int → Nat → List Nat × Int × Nat
  | 0, _, q, e => ([], q, e)
  | n + 1, p, q, e => if e = 0 then ((getU p q).1 :: (numsF n p (getU p q).2.1 (getU p q).2.2).1, (numsF n p (getU p q).2.1 (getU p q).2.2).2) else (0 :: (numsF n p q e).1, (numsF n p q e).2)
theorem numsF_len : ∀ (n : Nat) (p : By) (q : Int) (e : Nat), (numsF n p q e).1.length = n
  | 0, _, _, _ => rfl
  | n + 1, p, q, e => by
    unfold numsF
    split <;> simp [numsF_len n]
theorem numsF_err : ∀ (n : Nat) (p : By) (q : Int) {e : Nat}, e ≠ 0 → numsF n p q e = (List.replicate n 0, q, e)
  | 0, _, _, _, _ => rfl
  | n + 1, p, q, e, h => by
    unfold numsF
    rw [if_neg h, numsF_err n p q h]
    rfl
theorem numsF_words : ∀ (l : List Nat) (pre : By), (∀ w ∈ l, w < 2 ^ 64) → numsF l.length (pre ++ wordsB l) pre.length 0 = (l, ((pre ++ wordsB l).length : Int), 0)
  | [], pre, _ => by simp [numsF, wordsB]
  | w :: l, pre, h => by
    have hw := h w List.mem_cons_self
    have ih := numsF_words l (pre ++ putU w) fun v hv => h v (List.mem_cons_of_mem _ hv)
    have e : wordsB (w :: l) = putU w ++ wordsB l := by simp [wordsB]
    have hg := getU_mid (pre := pre) (rest := wordsB l) hw
    rw [List.length_cons, numsF, if_pos rfl, e, hg]
    rw [List.append_assoc, List.length_append] at ih
    rw [ih]
theorem numsF_inv : ∀ {n : Nat} {p : By} {k : Nat} {e : Nat} {l : List Nat} {q' : Int}, k ≤ p.length → numsF n p k e = (l, q', 0) → e = 0 ∧ l.length = n ∧ (∀ w ∈ l, w < 2 ^ 64) ∧ ∃ k' : Nat, q' = k' ∧ k ≤ k' ∧ k' ≤ p.length ∧ wordsB l = (p.take k').drop k
  | 0, p, k, e, l, q', hk, h => by
    unfold numsF at h
    simp only [Prod.mk.injEq] at h
    obtain ⟨rfl, rfl, rfl⟩ := h
    refine ⟨rfl, rfl, by simp, k, rfl, Nat.le_refl _, hk, ?_⟩
    simp [wordsB]
  | n + 1, p, k, e, l, q', hk, h => by
    by_cases he : e = 0
    · subst he
      rw [numsF, if_pos rfl] at h
      obtain ⟨v, x, e1⟩ : ∃ v x, getU p k = (v, x) := ⟨_, _, rfl⟩
      obtain ⟨x, e2⟩ := x
      rw [e1] at h
      dsimp only at h
      by_cases h2 : e2 = 0
      · subst h2
        obtain ⟨q0, k1, hq, rfl, h3, h4, h5, h6⟩ := getU_inv e1
        obtain rfl : k = q0 := by omega
        obtain ⟨l1, r1, e3⟩ : ∃ a b, numsF n p (k1 : Int) 0 = (a, b) := ⟨_, _, rfl⟩
        obtain ⟨r1, r2⟩ := r1
        rw [e3] at h
        simp only [Prod.mk.injEq] at h
        obtain ⟨rfl, rfl, rfl⟩ := h
        obtain ⟨_, i1, i2, k', rfl, i3, i4, i5⟩ := numsF_inv h4 e3
        refine ⟨rfl, by simp [i1], fun w hw => ?_, k', rfl, by omega, i4, ?_⟩
        · rcases List.mem_cons.1 hw with rfl | hw
          · exact h6
          · exact i2 w hw
        · have e : wordsB (v :: l1) = putU v ++ wordsB l1 := by simp [wordsB]
          rw [e, h5, i5]
          have h7 : p.take k1 = (p.take k').take k1 := by rw [List.take_take, Nat.min_eq_left i3]
          rw [h7]
          have h8 : (p.take k').drop k = ((p.take k').take k1).drop k ++ (p.take k').drop k1 := by
            conv => lhs; rw [← List.take_append_drop k1 (p.take k')]
            rw [List.drop_append_of_le_length (by rw [List.length_take, List.length_take]; omega)]
          rw [h8]
      · rw [numsF_err n p x h2] at h
        simp only [Prod.mk.injEq] at h
        exact absurd h.2.2 h2
    · rw [numsF_err _ _ _ he] at h
      simp only [Prod.mk.injEq] at h
      exact absurd h.2.2 he
/-- The parts of a frame that are left, and the first error. -/
abbrev Rd1 := List By × Nat
def nextR (r : Rd1) : By × Rd1 := if r.2 = 0 then (match r.1 with
  | [] => ([], ([], 3))
  | p :: ps => (p, (ps, 0))) else ([], r)
def wordsR (n : Nat) (r : Rd1) : List Nat × Rd1 :=
  ((numsF n (nextR r).1 0 (nextR r).2.2).1, ((nextR r).2.1, if (numsF n (nextR r).1 0 (nextR r).2.2).2.2 = 0 ∧ (numsF n (nextR r).1 0 (nextR r).2.2).2.1 < ((nextR r).1.length : Int) then 3 else (numsF n (nextR r).1 0 (nextR r).2.2).2.2))
def intsR (n : Nat) (r : Rd1) : List Int × Rd1 := ((wordsR n r).1.map iU, (wordsR n r).2)
def truthR (n : Int) (r : Rd1) : Bool × Rd1 := (decide (n = 1), if n < 0 ∨ 1 < n then (r.1, 3) else r)
/-- A frame within. -/
def inR (s : Rd1) (y : Rd1) : Rd1 := (s.1, if y.2 = 0 ∧ y.1 ≠ [] then 3 else y.2)
def withinR {α : Type} (z : α) (take : Rd1 → α × Rd1) (r : Rd1) : α × Rd1 :=
  if (nextR r).2.2 = 0 then ((take (parts (nextR r).1)).1, inR (nextR r).2 (take (parts (nextR r).1)).2) else (z, (nextR r).2)
theorem nextR_cons (p : By) (ps : List By) : nextR (p :: ps, 0) = (p, (ps, 0)) := rfl
theorem nextR_inv {r : Rd1} {p : By} {ps : List By} (h : nextR r = (p, (ps, 0))) : r = (p :: ps, 0) := by
  obtain ⟨l, e⟩ := r
  unfold nextR at h
  split at h
  · rename_i he
    dsimp only at he
    subst he
    cases l with
    | nil => simp at h
    | cons a l => simp at h; obtain ⟨rfl, rfl⟩ := h; rfl
  · rename_i he
    simp only [Prod.mk.injEq] at h
    exact absurd h.2.2 he
theorem map_back {α β : Type} {f : β → α} {g : α → β} : ∀ {l : List α}, (∀ n ∈ l, f (g n) = n) → (l.map g).map f = l
  | [], _ => rfl
  | a :: l, h => by rw [List.map_cons, List.map_cons, h a List.mem_cons_self, map_back fun n hn => h n (List.mem_cons_of_mem _ hn)]
theorem wordsR_len (n : Nat) (r : Rd1) : (wordsR n r).1.length = n := numsF_len _ _ _ _
theorem intsR_len (n : Nat) (r : Rd1) : (intsR n r).1.length = n := by rw [intsR, List.length_map, wordsR_len]
theorem wordsR_of {l : List Nat} (h : ∀ w ∈ l, w < 2 ^ 64) (ps : List By) : wordsR l.length (wordsB l :: ps, 0) = (l, (ps, 0)) := by
  have e := numsF_words l [] h
  simp only [List.nil_append, List.length_nil, Int.ofNat_zero] at e
  have e2 : ((0 : Nat) : Int) = 0 := rfl
  rw [wordsR, nextR_cons]
  dsimp only
  rw [e]
  simp
theorem intsR_of {l : List Int} (h : ∀ n ∈ l, I64 n) (ps : List By) : intsR l.length (intsB l :: ps, 0) = (l, (ps, 0)) := by
  have e := wordsR_of (l := l.map uI) (fun w hw => by obtain ⟨n, _, rfl⟩ := List.mem_map.1 hw; exact uI_lt n) ps
  rw [List.length_map] at e
  rw [intsR, intsB, e]
  dsimp only
  rw [map_back fun n hn => iU_uI (h n hn)]
theorem wordsR_inv {n : Nat} {r : Rd1} {l : List Nat} {ps : List By} (h : wordsR n r = (l, (ps, 0))) : r = (wordsB l :: ps, 0) ∧ l.length = n ∧ ∀ w ∈ l, w < 2 ^ 64 := by
  obtain ⟨⟨p, r1⟩, hx⟩ : ∃ x, nextR r = x := ⟨_, rfl⟩
  obtain ⟨r1, e1⟩ := r1
  unfold wordsR at h
  rw [hx] at h
  dsimp only at h
  obtain ⟨⟨l1, q1, e2⟩, hk⟩ : ∃ x, numsF n p 0 e1 = x := ⟨_, rfl⟩
  rw [hk] at h
  simp only [Prod.mk.injEq] at h
  obtain ⟨rfl, rfl, h3⟩ := h
  by_cases he : e2 = 0
  · subst he
    obtain ⟨rfl, i1, i2, k', rfl, _, i4, i5⟩ := numsF_inv (k := 0) (Nat.zero_le _) hk
    have hk2 : k' = p.length := by
      by_cases hlt : (k' : Int) < (p.length : Int)
      · rw [if_pos ⟨rfl, hlt⟩] at h3; cases h3
      · omega
    subst hk2
    rw [List.take_length, List.drop_zero] at i5
    exact ⟨by rw [i5]; exact nextR_inv hx, i1, i2⟩
  · rw [if_neg (fun k => he k.1)] at h3
    exact absurd h3 he
theorem intsR_inv {n : Nat} {r : Rd1} {l : List Int} {ps : List By} (h : intsR n r = (l, (ps, 0))) : r = (intsB l :: ps, 0) ∧ l.length = n ∧ ∀ n ∈ l, I64 n := by
  unfold intsR at h
  obtain ⟨⟨l1, r1⟩, hx⟩ : ∃ x, wordsR n r = x := ⟨_, rfl⟩
  rw [hx] at h
  simp only [Prod.mk.injEq] at h
  obtain ⟨rfl, rfl⟩ := h
  obtain ⟨h1, h2, h3⟩ := wordsR_inv hx
  refine ⟨?_, by simp [h2], fun n hn => ?_⟩
  · rw [intsB, map_back fun w hw => uI_iU (h3 w hw)]; exact h1
  · obtain ⟨w, hw, rfl⟩ := List.mem_map.1 hn
    exact iU_I64 (h3 w hw)
theorem truthR_of (b : Bool) (r : Rd1) : truthR (tI b) r = (b, r) := by cases b <;> simp [truthR, tI]
theorem truthR_inv {n : Int} {r : Rd1} {b : Bool} {ps : List By} (h : truthR n r = (b, (ps, 0))) : r = (ps, 0) ∧ n = tI b := by
  unfold truthR at h
  simp only [Prod.mk.injEq] at h
  obtain ⟨rfl, h2⟩ := h
  by_cases hn : n < 0 ∨ 1 < n
  · rw [if_pos hn] at h2; simp at h2
  · rw [if_neg hn] at h2
    refine ⟨h2, ?_⟩
    by_cases h1 : n = 1
    · simp [h1, tI]
    · simp [h1, tI]; omega
theorem partsF_inv : ∀ {f : Nat} {b : By} {q : Nat} {out l : List By}, q ≤ b.length → b.length ≤ q + f → partsF f b q out = (l, 0) → ∃ l2, l = out ++ l2 ∧ b.drop q = framed l2 ∧ ∀ r ∈ l2, r.length < 2 ^ 64
  | 0, b, q, out, l, hq, hf, h => by
    simp only [partsF, Prod.mk.injEq, and_true] at h
    subst h
    exact ⟨[], by simp, by rw [List.drop_of_length_le (by omega)]; rfl, by simp⟩
  | f + 1, b, q, out, l, hq, hf, h => by
    by_cases hle : b.length ≤ q
    · rw [partsF_end hle] at h
      simp only [Prod.mk.injEq, and_true] at h
      subst h
      exact ⟨[], by simp, by rw [List.drop_of_length_le hle]; rfl, by simp⟩
    · obtain ⟨⟨n, x, e⟩, hg⟩ : ∃ x, getU b q = x := ⟨_, rfl⟩
      by_cases he : e = 0
      · subst he
        obtain ⟨q0, k, hq0, rfl, h3, h4, h5, h6⟩ := getU_inv hg
        obtain rfl : q = q0 := by omega
        have hlt := getU_next hg
        obtain ⟨k2, hk2, hlt, _⟩ := hlt
        obtain rfl : k = k2 := by omega
        by_cases hs : b.length < k + n
        · rw [partsF_short hle hg hs] at h
          simp at h
        · rw [partsF_step hle hg hs] at h
          obtain ⟨l2, rfl, h7, h8⟩ := partsF_inv (by omega) (by omega) h
          refine ⟨(b.take (k + n)).drop k :: l2, by simp, ?_, fun r hr => ?_⟩
          · have hl : ((b.take (k + n)).drop k).length = n := by simp; omega
            have hfr : framed ((b.take (k + n)).drop k :: l2) = putU n ++ ((b.take (k + n)).drop k ++ framed l2) := by
              simp [framed, hl]
            rw [hfr, h5, ← h7]
            have e1 : b.drop q = (b.take k).drop q ++ b.drop k := by
              conv => lhs; rw [← List.take_append_drop k b]
              rw [List.drop_append_of_le_length (by rw [List.length_take]; omega)]
            have e2 : b.drop k = (b.take (k + n)).drop k ++ b.drop (k + n) := by
              conv => lhs; rw [← List.take_append_drop (k + n) b]
              rw [List.drop_append_of_le_length (by rw [List.length_take]; omega)]
            rw [e1, ← e2]
          · rcases List.mem_cons.1 hr with rfl | hr
            · have : ((b.take (k + n)).drop k).length = n := by simp; omega
              omega
            · exact h8 r hr
      · rw [partsF_err hle hg he] at h
        simp only [Prod.mk.injEq] at h
        exact absurd h.2 he
theorem parts_inv {b : By} {l : List By} (h : parts b = (l, 0)) : b = framed l ∧ ∀ r ∈ l, r.length < 2 ^ 64 := by
  obtain ⟨l2, h1, h2, h3⟩ := partsF_inv (Nat.zero_le _) (by omega) h
  rw [List.nil_append] at h1
  subst h1
  exact ⟨by simpa using h2, h3⟩
theorem withinR_of {α : Type} {z x : α} {take : Rd1 → α × Rd1} {l ps : List By} (hl : ∀ r ∈ l, r.length < 2 ^ 64) (h : take (l, 0) = (x, ([], 0))) : withinR z take (framed l :: ps, 0) = (x, (ps, 0)) := by
  rw [withinR, nextR_cons]
  dsimp only
  rw [if_pos rfl, parts_framed hl, h]
  simp [inR]
theorem withinR_inv {α : Type} {z x : α} {take : Rd1 → α × Rd1} {r : Rd1} {ps : List By} (h : withinR z take r = (x, (ps, 0))) : ∃ p, r = (p :: ps, 0) ∧ take (parts p) = (x, ([], 0)) := by
  unfold withinR at h
  obtain ⟨⟨p, r1, e1⟩, hx⟩ : ∃ y, nextR r = y := ⟨_, rfl⟩
  rw [hx] at h
  dsimp only at h
  by_cases he : e1 = 0
  · subst he
    rw [if_pos rfl] at h
    obtain ⟨⟨y, s, e2⟩, hy⟩ : ∃ y, take (parts p) = y := ⟨_, rfl⟩
    rw [hy] at h
    simp only [inR, Prod.mk.injEq] at h
    obtain ⟨rfl, rfl, h3⟩ := h
    refine ⟨p, nextR_inv hx, ?_⟩
    by_cases h4 : e2 = 0 ∧ s ≠ []
    · rw [if_pos h4] at h3; cases h3
    · rw [if_neg h4] at h3
      subst h3
      have : s = [] := Decidable.not_not.1 fun k => h4 ⟨rfl, k⟩
      subst this
      exact hy
  · rw [if_neg he] at h
    simp only [Prod.mk.injEq] at h
    exact absurd h.2.2 he
end Go.Proofs.Ytaacnknniaipmaa

/-
  Plain laws of numbers written in eight bytes, the greatest first. No program in sight.
-/
namespace Go.Proofs.Ytaacnknniaipmaa

/-- The lowest k bytes of a number, the greatest first. -/
def ordK : Nat → Nat → List UInt8
  | 0, _ => []
  | k + 1, n => ordK k (n / 256) ++ [UInt8.ofNat n]
def ordU (n : Nat) : List UInt8 := ordK 8 n
def numB (l : List UInt8) : Nat := l.foldl (fun n x => n * 256 + x.toNat) 0

theorem ordK_length : ∀ (k n : Nat), (ordK k n).length = k
  | 0, _ => rfl
  | k + 1, n => by simp [ordK, ordK_length k]
theorem ordU_length (n : Nat) : (ordU n).length = 8 := ordK_length 8 n
theorem numB_snoc (l : List UInt8) (x : UInt8) : numB (l ++ [x]) = numB l * 256 + x.toNat := by simp [numB]
theorem numB_ordK : ∀ (k n : Nat), numB (ordK k n) = n % 256 ^ k
  | 0, n => by simp [ordK, numB, Nat.mod_one]
  | k + 1, n => by
    rw [ordK, numB_snoc, numB_ordK k]
    rw [Nat.pow_succ, Nat.mul_comm (256 ^ k) 256, Nat.mod_mul]
    simp
    omega
theorem ordK_numB : ∀ (k : Nat) (l : List UInt8), l.length = k → ordK k (numB l) = l
  | 0, l, h => by simp [ordK, List.length_eq_zero_iff.1 h]
  | k + 1, l, h => by
    have hne : l ≠ [] := by rintro rfl; simp at h
    have e := List.dropLast_concat_getLast hne
    rw [← e, numB_snoc, ordK]
    have hx := (l.getLast hne).toNat_lt
    have e1 : (numB l.dropLast * 256 + (l.getLast hne).toNat) / 256 = numB l.dropLast := by omega
    rw [e1, ordK_numB k _ (by simp [h])]
    congr 2
    apply UInt8.toNat_inj.1
    simp
theorem numB_lt (l : List UInt8) : numB l < 256 ^ l.length := by
  have h := numB_ordK l.length (numB l)
  rw [ordK_numB _ l rfl] at h
  rw [h]; exact Nat.mod_lt _ (Nat.pow_pos (by decide))
theorem ordK_get : ∀ (k n i : Nat), i < k → (ordK k n)[i]? = some (UInt8.ofNat (n / 256 ^ (k - 1 - i)))
  | 0, _, _, h => by omega
  | k + 1, n, i, h => by
    rw [ordK]
    by_cases hi : i < k
    · rw [List.getElem?_append_left (by rw [ordK_length]; exact hi), ordK_get k _ i hi, Nat.div_div_eq_div_mul]
      have e : 256 * 256 ^ (k - 1 - i) = 256 ^ (k + 1 - 1 - i) := by
        rw [show k + 1 - 1 - i = (k - 1 - i) + 1 by omega, Nat.pow_succ, Nat.mul_comm]
      rw [e]
    · have : i = k := by omega
      subst this
      rw [List.getElem?_append_right (by rw [ordK_length]; omega), ordK_length]
      simp
theorem numB_step {l : List UInt8} {k : Nat} {x : UInt8} (h : l[k]? = some x) : numB (l.take (k + 1)) = numB (l.take k) * 256 + x.toNat := by
  rw [take_getR h, numB_snoc]
end Go.Proofs.Ytaacnknniaipmaa

/-
  Plain laws of the sum: what a step of the division does, that it keeps differences, and that no change within 32 bits of one another goes unseen. No program in sight.
-/
namespace Go.Proofs.Ytaacnknniaipmaa

def stepC (x : Nat) : Nat := if x % 2 = 1 then (x / 2) ^^^ 3988292384 else x / 2
def stepsC : Nat → Nat → Nat
  | 0, x => x
  | k + 1, x => stepsC k (stepC x)
def eightC (x : Nat) : Nat := stepsC 8 x
def crcRaw (x : Nat) (l : List UInt8) : Nat := l.foldl (fun x b => eightC (x ^^^ b.toNat)) x
def crcOf (l : List UInt8) : Nat := 4294967295 - crcRaw 4294967295 l

theorem stepC_odd {x : Nat} (h : x % 2 = 1) : stepC x = (x / 2) ^^^ 3988292384 := by rw [stepC, if_pos h]
theorem stepC_even {x : Nat} (h : ¬ x % 2 = 1) : stepC x = x / 2 := by rw [stepC, if_neg h]
theorem xor_div2 (a b : Nat) : (a ^^^ b) / 2 = a / 2 ^^^ b / 2 := by
  have := Nat.shiftRight_xor_distrib (a := a) (b := b) (i := 1)
  simpa [Nat.shiftRight_succ] using this
theorem xor_mod2 (a b : Nat) : (a ^^^ b) % 2 = (a + b) % 2 := by
  have h := Nat.testBit_xor a b 0
  simp only [Nat.testBit_zero] at h
  rcases Nat.mod_two_eq_zero_or_one a with ha | ha <;> rcases Nat.mod_two_eq_zero_or_one b with hb | hb <;> rcases Nat.mod_two_eq_zero_or_one (a ^^^ b) with hc | hc <;> simp [ha, hb, hc] at h <;> omega
theorem step_xor (a b : Nat) : stepC (a ^^^ b) = stepC a ^^^ stepC b := by
  have hm := xor_mod2 a b
  have hd := xor_div2 a b
  by_cases ha : a % 2 = 1
  · by_cases hb : b % 2 = 1
    · rw [stepC_even (by omega), stepC_odd ha, stepC_odd hb, hd]
      rw [Nat.xor_assoc, Nat.xor_comm 3988292384 (b / 2 ^^^ 3988292384), Nat.xor_assoc, Nat.xor_self, Nat.xor_zero]
    · rw [stepC_odd (by omega), stepC_odd ha, stepC_even hb, hd]
      rw [Nat.xor_assoc, Nat.xor_assoc, Nat.xor_comm (b / 2)]
  · by_cases hb : b % 2 = 1
    · rw [stepC_odd (by omega), stepC_even ha, stepC_odd hb, hd, Nat.xor_assoc]
    · rw [stepC_even (by omega), stepC_even ha, stepC_even hb, hd]
theorem steps_xor : ∀ (k a b : Nat), stepsC k (a ^^^ b) = stepsC k a ^^^ stepsC k b
  | 0, _, _ => rfl
  | k + 1, a, b => by simp only [stepsC]; rw [step_xor, steps_xor k]
theorem step_lt {x : Nat} (h : x < 4294967296) : stepC x < 4294967296 := by
  unfold stepC
  split
  · exact Nat.xor_lt_two_pow (n := 32) (by omega) (by decide)
  · omega
theorem steps_lt : ∀ (k : Nat) {x : Nat}, x < 4294967296 → stepsC k x < 4294967296
  | 0, _, h => h
  | k + 1, _, h => steps_lt k (step_lt h)
theorem steps_shift : ∀ (k m : Nat), stepsC k (m * 2 ^ k) = m
  | 0, m => by simp [stepsC]
  | k + 1, m => by
    have e : m * 2 ^ (k + 1) = 2 * (m * 2 ^ k) := by rw [Nat.pow_succ, ← Nat.mul_assoc, Nat.mul_comm]
    simp only [stepsC]
    rw [e, stepC_even (by omega), Nat.mul_div_cancel_left _ (by decide), steps_shift k]
theorem xor_low (q r : Nat) (hr : r < 256) : q * 256 ^^^ r = q * 256 + r := by
  have h1 : (q * 256 ^^^ r) / 256 = q := by
    have := Nat.shiftRight_xor_distrib (a := q * 256) (b := r) (i := 8)
    simp only [Nat.shiftRight_eq_div_pow] at this
    rw [show (2 : Nat) ^ 8 = 256 from rfl, Nat.mul_div_cancel _ (by decide), Nat.div_eq_of_lt hr, Nat.xor_zero] at this
    exact this
  have h2 : (q * 256 ^^^ r) % 256 = r := by
    have := Nat.xor_mod_two_pow (a := q * 256) (b := r) (n := 8)
    rw [show (2 : Nat) ^ 8 = 256 from rfl, Nat.mul_mod_left, Nat.zero_xor, Nat.mod_eq_of_lt hr] at this
    exact this
  omega
theorem eight_high (q : Nat) : eightC (q * 256) = q := steps_shift 8 q
/-- A byte's entry does for it. -/
theorem eight_split (x : Nat) (b : UInt8) : eightC (x ^^^ b.toNat) = x / 256 ^^^ eightC (x % 256 ^^^ b.toNat) := by
  have e : x = x / 256 * 256 ^^^ x % 256 := by rw [xor_low _ _ (Nat.mod_lt _ (by decide))]; omega
  have e2 : eightC (x ^^^ b.toNat) = eightC (x / 256 * 256 ^^^ (x % 256 ^^^ b.toNat)) := by
    rw [← Nat.xor_assoc, ← e]
  rw [e2]
  unfold eightC
  rw [steps_xor]
  congr 1
  exact eight_high (x / 256)
theorem eight_lt {x : Nat} (h : x < 4294967296) : eightC x < 4294967296 := steps_lt 8 h
theorem xorb_lt {x : Nat} (h : x < 4294967296) (b : UInt8) : x ^^^ b.toNat < 4294967296 :=
  Nat.xor_lt_two_pow (n := 32) h (Nat.lt_trans b.toNat_lt (by decide))
theorem raw_snoc (x : Nat) (b : UInt8) (l : List UInt8) : crcRaw x (l ++ [b]) = eightC (crcRaw x l ^^^ b.toNat) := by simp [crcRaw]
theorem raw_lt : ∀ (l : List UInt8) {x : Nat}, x < 4294967296 → crcRaw x l < 4294967296
  | [], _, h => h
  | b :: l, _, h => raw_lt l (eight_lt (xorb_lt h b))
theorem crcOf_lt (l : List UInt8) : crcOf l < 4294967296 := by unfold crcOf; omega

/-- Bytes as one number, the lowest first. -/
def low : List UInt8 → Nat
  | [] => 0
  | b :: l => low l * 256 + b.toNat
end Go.Proofs.Ytaacnknniaipmaa

/-
  Plain laws of sealed records. No program in sight.
-/
namespace Go.Proofs.Ytaacnknniaipmaa

/-- Four bytes, the greatest first. -/
def four (n : Nat) : List UInt8 := ordK 4 n
theorem four_length (n : Nat) : (four n).length = 4 := ordK_length 4 n
theorem ordU_four (n : Nat) : (ordU n).drop 4 = four n := by
  have e : ordU n = ordK 4 (n / 256 / 256 / 256 / 256) ++ four n := by
    show ordK 8 n = _
    simp [ordK, four]
  rw [e, List.drop_append_of_le_length (by rw [ordK_length]; omega), List.drop_of_length_le (by rw [ordK_length]; omega)]
  rfl
theorem four_list (n : Nat) : four n = [UInt8.ofNat (n / 16777216), UInt8.ofNat (n / 65536), UInt8.ofNat (n / 256), UInt8.ofNat n] := by
  simp [four, ordK, Nat.div_div_eq_div_mul]
theorem numB_four {n : Nat} (h : n < 4294967296) : numB (four n) = n := by
  rw [four, numB_ordK]; exact Nat.mod_eq_of_lt h
theorem four_numB {l : List UInt8} (h : l.length = 4) : four (numB l) = l := ordK_numB 4 l h
theorem numB_lt4 {l : List UInt8} (h : l.length = 4) : numB l < 4294967296 := by
  have := numB_lt l; rw [h] at this; exact this

def crcRec (b : List UInt8) : List UInt8 := four b.length ++ (four (crcOf (four b.length ++ b)) ++ b)
theorem crcRec_length (b : List UInt8) : (crcRec b).length = 8 + b.length := by simp [crcRec, four_length]; omega
def sealB (b : List UInt8) : List UInt8 × Nat := if 1048576 < b.length then ([], 2) else (crcRec b, 0)
/-- What is sealed at the head of a list: the body, and the error. -/
def openH (y : List UInt8) : List UInt8 × Nat :=
  if y.length < 8 then ([], 5)
  else if 1048576 < numB (y.take 4) then ([], 2)
  else if y.length < 8 + numB (y.take 4) then ([], 5)
  else if crcOf (y.take 4 ++ (y.take (8 + numB (y.take 4))).drop 8) = numB ((y.drop 4).take 4) then ((y.take (8 + numB (y.take 4))).drop 8, 0) else ([], 4)
/-- At a place: the body, what stands behind it, and the error. -/
def openB (xs : List UInt8) (p : Int) : List UInt8 × Nat × Nat :=
  if p < 0 ∨ (xs.length : Int) < p then ([], 0, 1)
  else if (openH (xs.drop p.toNat)).2 = 0 then ((openH (xs.drop p.toNat)).1, p.toNat + 8 + (openH (xs.drop p.toNat)).1.length, 0)
  else ([], 0, (openH (xs.drop p.toNat)).2)
theorem openH_short {y : List UInt8} (h : y.length < 8) : openH y = ([], 5) := by rw [openH, if_pos h]
theorem openH_size {y : List UInt8} (h : ¬ y.length < 8) (h2 : 1048576 < numB (y.take 4)) : openH y = ([], 2) := by rw [openH, if_neg h, if_pos h2]
theorem openH_end {y : List UInt8} (h : ¬ y.length < 8) (h2 : ¬ 1048576 < numB (y.take 4)) (h3 : y.length < 8 + numB (y.take 4)) : openH y = ([], 5) := by rw [openH, if_neg h, if_neg h2, if_pos h3]
theorem openH_sum {y : List UInt8} (h : ¬ y.length < 8) (h2 : ¬ 1048576 < numB (y.take 4)) (h3 : ¬ y.length < 8 + numB (y.take 4)) (h4 : ¬ crcOf (y.take 4 ++ (y.take (8 + numB (y.take 4))).drop 8) = numB ((y.drop 4).take 4)) : openH y = ([], 4) := by
  rw [openH, if_neg h, if_neg h2, if_neg h3, if_neg h4]
theorem openH_ok {y : List UInt8} (h : ¬ y.length < 8) (h2 : ¬ 1048576 < numB (y.take 4)) (h3 : ¬ y.length < 8 + numB (y.take 4)) (h4 : crcOf (y.take 4 ++ (y.take (8 + numB (y.take 4))).drop 8) = numB ((y.drop 4).take 4)) : openH y = ((y.take (8 + numB (y.take 4))).drop 8, 0) := by
  rw [openH, if_neg h, if_neg h2, if_neg h3, if_pos h4]
theorem openB_arg {xs : List UInt8} {p : Int} (h : ¬ (0 ≤ p ∧ p ≤ xs.length)) : openB xs p = ([], 0, 1) := by rw [openB, if_pos (by omega)]
theorem openB_at {xs : List UInt8} {q : Nat} (h : q ≤ xs.length) {r : List UInt8} {e : Nat} (ho : openH (xs.drop q) = (r, e)) : openB xs q = if e = 0 then (r, q + 8 + r.length, 0) else ([], 0, e) := by
  rw [openB, if_neg (by omega), Int.toNat_natCast, ho]
theorem openB_ok {xs : List UInt8} {q : Nat} (h : q ≤ xs.length) {r : List UInt8} (ho : openH (xs.drop q) = (r, 0)) : openB xs q = (r, q + 8 + r.length, 0) := by rw [openB_at h ho, if_pos rfl]
theorem openB_err {xs : List UInt8} {q : Nat} (h : q ≤ xs.length) {r : List UInt8} {e : Nat} (ho : openH (xs.drop q) = (r, e)) (he : ¬ e = 0) : openB xs q = ([], 0, e) := by rw [openB_at h ho, if_neg he]
theorem openH_len {y r : List UInt8} (h : openH y = (r, 0)) : 8 + r.length ≤ y.length ∧ r.length ≤ 1048576 := by
  unfold openH at h
  split at h
  · simp at h
  · split at h
    · simp at h
    · split at h
      · simp at h
      · split at h
        · simp only [Prod.mk.injEq, and_true] at h
          subst h
          simp; omega
        · simp at h
theorem openB_inv {xs r : List UInt8} {q x : Nat} (hq : q ≤ xs.length) (h : openB xs q = (r, x, 0)) : x = q + 8 + r.length ∧ x ≤ xs.length ∧ r.length ≤ 1048576 := by
  obtain ⟨s, e, ho⟩ : ∃ s e, openH (xs.drop q) = (s, e) := ⟨_, _, rfl⟩
  rw [openB_at hq ho] at h
  split at h
  · rename_i he
    subst he
    simp only [Prod.mk.injEq, and_true] at h
    obtain ⟨rfl, rfl⟩ := h
    have := openH_len ho
    rw [List.length_drop] at this
    omega
  · simp only [Prod.mk.injEq] at h
    omega
theorem openB_err' {xs r : List UInt8} {p : Int} {x e : Nat} (h : openB xs p = (r, x, e)) (he : ¬ e = 0) : r = [] ∧ x = 0 := by
  unfold openB at h
  split at h
  · simp only [Prod.mk.injEq] at h; exact ⟨h.1.symm, h.2.1.symm⟩
  · split at h
    · simp only [Prod.mk.injEq] at h; omega
    · simp only [Prod.mk.injEq] at h; exact ⟨h.1.symm, h.2.1.symm⟩
/-- What is sealed opens to what it was. -/
theorem openH_rec {b : List UInt8} (h : b.length ≤ 1048576) (rest : List UInt8) : openH (crcRec b ++ rest) = (b, 0) := by
  have e1 : (crcRec b ++ rest).take 4 = four b.length := by
    unfold crcRec; rw [List.append_assoc, List.take_append_of_le_length (by rw [four_length]; omega), List.take_of_length_le (by rw [four_length]; omega)]
  have e2 : numB ((crcRec b ++ rest).take 4) = b.length := by rw [e1, numB_four (by omega)]
  have e3 : ((crcRec b ++ rest).drop 4).take 4 = four (crcOf (four b.length ++ b)) := by
    unfold crcRec
    rw [List.append_assoc, List.drop_append_of_le_length (by rw [four_length]; omega), List.drop_of_length_le (by rw [four_length]; omega), List.nil_append, List.append_assoc,
      List.take_append_of_le_length (by rw [four_length]; omega), List.take_of_length_le (by rw [four_length]; omega)]
  have e4 : ((crcRec b ++ rest).take (8 + b.length)).drop 8 = b := by
    rw [List.take_append_of_le_length (by rw [crcRec_length]; omega), List.take_of_length_le (by rw [crcRec_length]; omega)]
    unfold crcRec
    rw [← List.append_assoc, List.drop_append_of_le_length (by simp [four_length]), List.drop_of_length_le (by simp [four_length]), List.nil_append]
  have hl : (crcRec b ++ rest).length = 8 + b.length + rest.length := by rw [List.length_append, crcRec_length]
  rw [openH_ok (by omega) (by omega) (by omega) (by rw [e2, e3, e4, e1, numB_four (crcOf_lt _)]), e2, e4]
theorem openB_rec {b : List UInt8} (h : b.length ≤ 1048576) : openB (crcRec b) 0 = (b, (crcRec b).length, 0) := by
  have := openH_rec h []
  rw [List.append_nil] at this
  have := openB_ok (q := 0) (xs := crcRec b) (by omega) this
  rw [crcRec_length]
  simpa using this
/-- The reference's test: a record is what would be sealed of its body. -/
theorem rec_iff {y : List UInt8} (h : ¬ y.length < 8) (h3 : ¬ y.length < 8 + numB (y.take 4)) :
    (crcRec ((y.take (8 + numB (y.take 4))).drop 8) = y.take (8 + numB (y.take 4))) = (crcOf (y.take 4 ++ (y.take (8 + numB (y.take 4))).drop 8) = numB ((y.drop 4).take 4)) := by
  obtain ⟨n, hn⟩ : ∃ n, numB (y.take 4) = n := ⟨_, rfl⟩
  rw [hn] at h3 ⊢
  have hl : ((y.take (8 + n)).drop 8).length = n := by simp; omega
  have h4 : (y.take 4).length = 4 := by simp; omega
  have e4 : four n = y.take 4 := by rw [← hn, four_numB h4]
  have es : y.take (8 + n) = y.take 4 ++ ((y.drop 4).take 4 ++ (y.take (8 + n)).drop 8) := by
    have a1 : y.take (8 + n) = (y.take (8 + n)).take 4 ++ ((y.take (8 + n)).drop 4) := (List.take_append_drop 4 _).symm
    have a2 : (y.take (8 + n)).drop 4 = ((y.take (8 + n)).drop 4).take 4 ++ ((y.take (8 + n)).drop 4).drop 4 := (List.take_append_drop 4 _).symm
    rw [List.drop_drop] at a2
    rw [a2] at a1
    rw [List.take_take, Nat.min_eq_left (by omega)] at a1
    rw [show ((y.take (8 + n)).drop 4).take 4 = (y.drop 4).take 4 by rw [List.drop_take, List.take_take, Nat.min_eq_left (by omega)]] at a1
    exact a1
  unfold crcRec
  rw [hl, e4]
  apply propext
  constructor
  · intro h
    rw [es] at h
    have h1 := (List.append_inj h rfl).2
    have h2 := (List.append_inj h1 (by simp [four_length]; omega)).1
    have := congrArg numB h2
    rw [← es] at this
    rw [numB_four (crcOf_lt _)] at this
    exact this
  · intro h
    rw [h, four_numB (by simp; omega)]
    exact es.symm

end Go.Proofs.Ytaacnknniaipmaa

/-
  Packets as plain data: how they are written and read. No program in sight.
-/
namespace Go.Proofs.Ytaacnknniaipmaa

structure MsgM where
  kind : Int
  fr : Int
  to : Int
  term : Nat
  ix : Nat
  lt : Nat
  cm : Nat
  ents : List (Nat × By)
  ok : Bool
  data : By
abbrev PairM := By × By
structure WrM where
  key : By
  val : By
  gone : Bool
structure ResM where
  err : Int
  status : Int
  ts : Nat
  pairs : List PairM
  commit : Bool
  rts : Nat
  writes : List WrM
  reply : By
structure PkM where
  kind : Int
  fr : Int
  to : Int
  shard : Int
  round : Int
  cmd : Int
  lead : Int
  tx : Nat × Nat
  code : Int
  msg : MsgM
  res : ResM
  data : By
def zMsg : MsgM := ⟨0, 0, 0, 0, 0, 0, 0, [], false, []⟩
def zRes : ResM := ⟨0, 0, 0, [], false, 0, [], []⟩
def zPk : PkM := ⟨0, 0, 0, 0, 0, 0, 0, (0, 0), 0, zMsg, zRes, []⟩

def entB (e : Nat × By) : List By := [wordsB [e.1], e.2]
def pairB (p : PairM) : List By := [p.1, p.2]
def wrB (w : WrM) : List By := [intsB [tI w.gone], w.key, w.val]
def msgL (m : MsgM) : List By := [intsB [m.kind, m.fr, m.to, tI m.ok], wordsB [m.term, m.ix, m.lt, m.cm], m.data] ++ m.ents.flatMap entB
def putMsg (m : MsgM) : By := framed (msgL m)
def resL (r : ResM) : List By := [intsB [r.err, r.status, tI r.commit], wordsB [r.ts, r.rts], framed (r.pairs.flatMap pairB), framed (r.writes.flatMap wrB), r.reply]
def putRes (r : ResM) : By := framed (resL r)
def txB (x : Nat × Nat) : By := wordsB [x.1, x.2]
/-- A packet's parts, if it is of a kind. -/
def pkL (p : PkM) : Option (List By) :=
  if p.kind = 1 then some [intsB [p.kind], intsB [p.fr, p.to, p.shard], putMsg p.msg]
  else if p.kind = 2 then some [intsB [p.kind], intsB [p.fr, p.to, p.shard, p.round], txB p.tx, p.data]
  else if p.kind = 3 then some [intsB [p.kind], intsB [p.fr, p.to, p.shard, p.round, p.cmd, p.code, p.lead], txB p.tx, putRes p.res]
  else if p.kind = 4 then some [intsB [p.kind], intsB [p.to], txB p.tx, p.data]
  else if p.kind = 5 then some [intsB [p.kind], intsB [p.fr, p.code], txB p.tx, p.data]
  else none
def pkB (p : PkM) : By × Nat := match pkL p with
  | some l => sealB (framed l)
  | none => ([], 3)
/-- What its kind uses of a packet. -/
def trimP (p : PkM) : PkM :=
  if p.kind = 1 then { zPk with kind := p.kind, fr := p.fr, to := p.to, shard := p.shard, msg := p.msg }
  else if p.kind = 2 then { zPk with kind := p.kind, fr := p.fr, to := p.to, shard := p.shard, round := p.round, tx := p.tx, data := p.data }
  else if p.kind = 3 then { zPk with kind := p.kind, fr := p.fr, to := p.to, shard := p.shard, round := p.round, cmd := p.cmd, code := p.code, lead := p.lead, tx := p.tx, res := p.res }
  else if p.kind = 4 then { zPk with kind := p.kind, to := p.to, tx := p.tx, data := p.data }
  else if p.kind = 5 then { zPk with kind := p.kind, fr := p.fr, code := p.code, tx := p.tx, data := p.data }
  else { zPk with kind := p.kind }

/-! #### Reading -/
def entsR : Nat → Rd1 → List (Nat × By) × Rd1
  | 0, r => ([], r)
  | f + 1, r => if r.2 = 0 ∧ r.1 ≠ [] then ((((wordsR 1 r).1.getD 0 0, (nextR (wordsR 1 r).2).1)) :: (entsR f (nextR (wordsR 1 r).2).2).1, (entsR f (nextR (wordsR 1 r).2).2).2) else ([], r)
def pairsR : Nat → Rd1 → List PairM × Rd1
  | 0, r => ([], r)
  | f + 1, r => if r.2 = 0 ∧ r.1 ≠ [] then (((nextR r).1, (nextR (nextR r).2).1) :: (pairsR f (nextR (nextR r).2).2).1, (pairsR f (nextR (nextR r).2).2).2) else ([], r)
/-- One write, and the rest. -/
def wr1 (r : Rd1) : WrM × Rd1 :=
  let g := intsR 1 r
  let t := truthR (g.1.getD 0 0) g.2
  let k := nextR t.2
  let v := nextR k.2
  (⟨k.1, v.1, t.1⟩, v.2)
def writesR : Nat → Rd1 → List WrM × Rd1
  | 0, r => ([], r)
  | f + 1, r => if r.2 = 0 ∧ r.1 ≠ [] then ((wr1 r).1 :: (writesR f (wr1 r).2).1, (writesR f (wr1 r).2).2) else ([], r)
def entsA (r : Rd1) : List (Nat × By) × Rd1 := entsR r.1.length r
def pairsA (r : Rd1) : List PairM × Rd1 := pairsR r.1.length r
def writesA (r : Rd1) : List WrM × Rd1 := writesR r.1.length r
def msgT (r : Rd1) : MsgM × Rd1 :=
  let n := intsR 4 r
  let w := wordsR 4 n.2
  let t := truthR (n.1.getD 3 0) w.2
  let d := nextR t.2
  let k := entsA d.2
  (⟨n.1.getD 0 0, n.1.getD 1 0, n.1.getD 2 0, w.1.getD 0 0, w.1.getD 1 0, w.1.getD 2 0, w.1.getD 3 0, k.1, t.1, d.1⟩, k.2)
def msgR (r : Rd1) : MsgM × Rd1 := withinR zMsg msgT r
def resT (r : Rd1) : ResM × Rd1 :=
  let n := intsR 3 r
  let w := wordsR 2 n.2
  let t := truthR (n.1.getD 2 0) w.2
  let p := withinR [] pairsA t.2
  let q := withinR [] writesA p.2
  let d := nextR q.2
  (⟨n.1.getD 0 0, n.1.getD 1 0, w.1.getD 0 0, p.1, t.1, w.1.getD 1 0, q.1, d.1⟩, d.2)
def resR (r : Rd1) : ResM × Rd1 := withinR zRes resT r
/-- The fields of a kind. -/
def fieldsR (kind : Int) (r : Rd1) : PkM × Rd1 :=
  if kind = 1 then
    let n := intsR 3 r
    let m := msgR n.2
    ({ zPk with kind := kind, fr := n.1.getD 0 0, to := n.1.getD 1 0, shard := n.1.getD 2 0, msg := m.1 }, m.2)
  else if kind = 2 then
    let n := intsR 4 r
    let w := wordsR 2 n.2
    let d := nextR w.2
    ({ zPk with kind := kind, fr := n.1.getD 0 0, to := n.1.getD 1 0, shard := n.1.getD 2 0, round := n.1.getD 3 0, tx := (w.1.getD 0 0, w.1.getD 1 0), data := d.1 }, d.2)
  else if kind = 3 then
    let n := intsR 7 r
    let w := wordsR 2 n.2
    let d := resR w.2
    ({ zPk with kind := kind, fr := n.1.getD 0 0, to := n.1.getD 1 0, shard := n.1.getD 2 0, round := n.1.getD 3 0, cmd := n.1.getD 4 0, code := n.1.getD 5 0, lead := n.1.getD 6 0, tx := (w.1.getD 0 0, w.1.getD 1 0), res := d.1 }, d.2)
  else if kind = 4 then
    let n := intsR 1 r
    let w := wordsR 2 n.2
    let d := nextR w.2
    ({ zPk with kind := kind, to := n.1.getD 0 0, tx := (w.1.getD 0 0, w.1.getD 1 0), data := d.1 }, d.2)
  else if kind = 5 then
    let n := intsR 2 r
    let w := wordsR 2 n.2
    let d := nextR w.2
    ({ zPk with kind := kind, fr := n.1.getD 0 0, code := n.1.getD 1 0, tx := (w.1.getD 0 0, w.1.getD 1 0), data := d.1 }, d.2)
  else ({ zPk with kind := kind }, (r.1, 3))
/-- What stands behind the kind. -/
def bodyR (r : Rd1) : PkM × Rd1 :=
  let n := intsR 1 r
  if n.2.2 = 0 then fieldsR (n.1.getD 0 0) n.2 else ({ zPk with kind := n.1.getD 0 0 }, n.2)
def endE (r : Rd1) : Nat := if r.2 = 0 ∧ r.1 ≠ [] then 3 else r.2
def readP (b : By) : PkM × Nat :=
  if (openB b 0).2.2 = 0 then
    if (openB b 0).2.1 < b.length then (zPk, 3)
    else if endE (bodyR (parts (openB b 0).1)).2 = 0 then ((bodyR (parts (openB b 0).1)).1, 0)
    else (zPk, endE (bodyR (parts (openB b 0).1)).2)
  else (zPk, (openB b 0).2.2)

/-! #### What is written is read back -/
def W64 (n : Nat) : Prop := n < 2 ^ 64
structure MsgOk (m : MsgM) : Prop where
  kind : I64 m.kind
  fr : I64 m.fr
  to : I64 m.to
  term : W64 m.term
  ix : W64 m.ix
  lt : W64 m.lt
  cm : W64 m.cm
  ents : ∀ e ∈ m.ents, W64 e.1
structure ResOk (r : ResM) : Prop where
  err : I64 r.err
  status : I64 r.status
  ts : W64 r.ts
  rts : W64 r.rts
structure PkOk (p : PkM) : Prop where
  kind : I64 p.kind
  fr : I64 p.fr
  to : I64 p.to
  shard : I64 p.shard
  round : I64 p.round
  cmd : I64 p.cmd
  lead : I64 p.lead
  s : W64 p.tx.1
  q : W64 p.tx.2
  code : I64 p.code
  msg : MsgOk p.msg
  res : ResOk p.res
theorem all4 {a b c d : Nat} (h1 : W64 a) (h2 : W64 b) (h3 : W64 c) (h4 : W64 d) : ∀ w ∈ [a, b, c, d], w < 2 ^ 64 := by
  intro w hw
  simp only [List.mem_cons, List.not_mem_nil, or_false] at hw
  rcases hw with rfl | rfl | rfl | rfl <;> assumption
theorem all2 {a b : Nat} (h1 : W64 a) (h2 : W64 b) : ∀ w ∈ [a, b], w < 2 ^ 64 := by
  intro w hw
  simp only [List.mem_cons, List.not_mem_nil, or_false] at hw
  rcases hw with rfl | rfl <;> assumption
theorem entsR_of : ∀ (l : List (Nat × By)) (f : Nat), (∀ e ∈ l, W64 e.1) → (l.flatMap entB).length ≤ f → entsR f (l.flatMap entB, 0) = (l, ([], 0))
  | [], f, _, _ => by cases f <;> simp [entsR]
  | e :: l, f, h, hf => by
    have h1 := h e List.mem_cons_self
    have e0 : (e :: l).flatMap entB = wordsB [e.1] :: e.2 :: l.flatMap entB := by simp [entB]
    rw [e0] at hf ⊢
    obtain ⟨f, rfl⟩ : ∃ g, f = g + 1 := ⟨f - 1, by simp only [List.length_cons] at hf; omega⟩
    have hw := wordsR_of (l := [e.1]) (by intro w hw; rw [List.mem_singleton] at hw; subst hw; exact h1) (e.2 :: l.flatMap entB)
    have ih := entsR_of l f (fun x hx => h x (List.mem_cons_of_mem _ hx)) (by simp only [List.length_cons] at hf; omega)
    rw [List.length_singleton] at hw
    rw [entsR, if_pos ⟨rfl, by simp⟩, hw]
    dsimp only
    rw [nextR_cons]
    dsimp only
    rw [ih]
    rfl
theorem pairsR_of : ∀ (l : List PairM) (f : Nat), (l.flatMap pairB).length ≤ f → pairsR f (l.flatMap pairB, 0) = (l, ([], 0))
  | [], f, _ => by cases f <;> simp [pairsR]
  | e :: l, f, hf => by
    have e0 : (e :: l).flatMap pairB = e.1 :: e.2 :: l.flatMap pairB := by simp [pairB]
    rw [e0] at hf ⊢
    obtain ⟨f, rfl⟩ : ∃ g, f = g + 1 := ⟨f - 1, by simp only [List.length_cons] at hf; omega⟩
    have ih := pairsR_of l f (by simp only [List.length_cons] at hf; omega)
    rw [pairsR, if_pos ⟨rfl, by simp⟩, nextR_cons]
    dsimp only
    rw [nextR_cons]
    dsimp only
    rw [ih]
theorem wr1_of (w : WrM) (ps : List By) : wr1 (intsB [tI w.gone] :: w.key :: w.val :: ps, 0) = (w, (ps, 0)) := by
  have hi := intsR_of (l := [tI w.gone]) (by simpa using tI_I64 w.gone) (w.key :: w.val :: ps)
  rw [List.length_singleton] at hi
  unfold wr1
  rw [hi]
  simp only [List.getD_cons_zero]
  rw [truthR_of]
  rfl
theorem writesR_of : ∀ (l : List WrM) (f : Nat), (l.flatMap wrB).length ≤ f → writesR f (l.flatMap wrB, 0) = (l, ([], 0))
  | [], f, _ => by cases f <;> simp [writesR]
  | e :: l, f, hf => by
    have e0 : (e :: l).flatMap wrB = intsB [tI e.gone] :: e.key :: e.val :: l.flatMap wrB := by simp [wrB]
    rw [e0] at hf ⊢
    obtain ⟨f, rfl⟩ : ∃ g, f = g + 1 := ⟨f - 1, by simp only [List.length_cons] at hf; omega⟩
    have ih := writesR_of l f (by simp only [List.length_cons] at hf; omega)
    rw [writesR, if_pos ⟨rfl, by simp⟩, wr1_of, ih]
theorem msgT_of {m : MsgM} (h : MsgOk m) : msgT (msgL m, 0) = (m, ([], 0)) := by
  have hi := intsR_of (l := [m.kind, m.fr, m.to, tI m.ok]) (by simpa using ⟨h.kind, h.fr, h.to, tI_I64 m.ok⟩) (wordsB [m.term, m.ix, m.lt, m.cm] :: m.data :: m.ents.flatMap entB)
  have hw := wordsR_of (l := [m.term, m.ix, m.lt, m.cm]) (all4 h.term h.ix h.lt h.cm) (m.data :: m.ents.flatMap entB)
  rw [show [m.kind, m.fr, m.to, tI m.ok].length = 4 from rfl] at hi
  rw [show [m.term, m.ix, m.lt, m.cm].length = 4 from rfl] at hw
  unfold msgT
  rw [show msgL m = intsB [m.kind, m.fr, m.to, tI m.ok] :: wordsB [m.term, m.ix, m.lt, m.cm] :: m.data :: m.ents.flatMap entB from rfl, hi]
  simp only [List.getD_cons_zero, List.getD_cons_succ]
  rw [hw]
  simp only [List.getD_cons_zero, List.getD_cons_succ]
  rw [truthR_of]
  dsimp only
  rw [nextR_cons]
  dsimp only [entsA]
  rw [entsR_of _ _ h.ents (Nat.le_refl _)]
theorem msgR_of {m : MsgM} (h : MsgOk m) (hl : ∀ r ∈ msgL m, r.length < 2 ^ 64) (ps : List By) : msgR (putMsg m :: ps, 0) = (m, (ps, 0)) := withinR_of hl (msgT_of h)
theorem resT_of {r : ResM} (h : ResOk r) (h1 : ∀ p ∈ r.pairs.flatMap pairB, p.length < 2 ^ 64) (h2 : ∀ p ∈ r.writes.flatMap wrB, p.length < 2 ^ 64) : resT (resL r, 0) = (r, ([], 0)) := by
  have hi := intsR_of (l := [r.err, r.status, tI r.commit]) (by simpa using ⟨h.err, h.status, tI_I64 r.commit⟩) (wordsB [r.ts, r.rts] :: framed (r.pairs.flatMap pairB) :: framed (r.writes.flatMap wrB) :: [r.reply])
  have hw := wordsR_of (l := [r.ts, r.rts]) (all2 h.ts h.rts) (framed (r.pairs.flatMap pairB) :: framed (r.writes.flatMap wrB) :: [r.reply])
  rw [show [r.err, r.status, tI r.commit].length = 3 from rfl] at hi
  rw [show [r.ts, r.rts].length = 2 from rfl] at hw
  unfold resT
  rw [show resL r = intsB [r.err, r.status, tI r.commit] :: wordsB [r.ts, r.rts] :: framed (r.pairs.flatMap pairB) :: framed (r.writes.flatMap wrB) :: [r.reply] from rfl, hi]
  simp only [List.getD_cons_zero, List.getD_cons_succ]
  rw [hw]
  simp only [List.getD_cons_zero, List.getD_cons_succ]
  rw [truthR_of]
  dsimp only
  rw [withinR_of h1 (x := r.pairs) (by unfold pairsA; exact pairsR_of _ _ (Nat.le_refl _))]
  dsimp only
  rw [withinR_of h2 (x := r.writes) (by unfold writesA; exact writesR_of _ _ (Nat.le_refl _))]
  rfl
theorem resR_of {r : ResM} (h : ResOk r) (h0 : ∀ p ∈ resL r, p.length < 2 ^ 64) (h1 : ∀ p ∈ r.pairs.flatMap pairB, p.length < 2 ^ 64) (h2 : ∀ p ∈ r.writes.flatMap wrB, p.length < 2 ^ 64) (ps : List By) : resR (putRes r :: ps, 0) = (r, (ps, 0)) := withinR_of h0 (resT_of h h1 h2)
end Go.Proofs.Ytaacnknniaipmaa

/-
  What is read is what was written: packets as plain data. No program in sight.
-/
namespace Go.Proofs.Ytaacnknniaipmaa

theorem lenX1 {α : Type} {l : List α} (h : l.length = 1) : ∃ a, l = [a] := by
  match l, h with
  | [a], _ => exact ⟨a, rfl⟩
theorem len2x {α : Type} {l : List α} (h : l.length = 2) : ∃ a b, l = [a, b] := by
  match l, h with
  | [a, b], _ => exact ⟨a, b, rfl⟩
theorem len3x {α : Type} {l : List α} (h : l.length = 3) : ∃ a b c, l = [a, b, c] := by
  match l, h with
  | [a, b, c], _ => exact ⟨a, b, c, rfl⟩
theorem len4x {α : Type} {l : List α} (h : l.length = 4) : ∃ a b c d, l = [a, b, c, d] := by
  match l, h with
  | [a, b, c, d], _ => exact ⟨a, b, c, d, rfl⟩
theorem len7x {α : Type} {l : List α} (h : l.length = 7) : ∃ a b c d e f g, l = [a, b, c, d, e, f, g] := by
  match l, h with
  | [a, b, c, d, e, f, g], _ => exact ⟨a, b, c, d, e, f, g, rfl⟩
theorem more_no {r : Rd1} {ps : List By} (h : r = (ps, 0)) (hm : ¬ (r.2 = 0 ∧ r.1 ≠ [])) : ps = [] := by
  subst h
  exact Decidable.not_not.1 fun k => hm ⟨rfl, k⟩
theorem entsR_inv : ∀ {f : Nat} {r : Rd1} {l : List (Nat × By)} {ps : List By}, r.1.length ≤ f → entsR f r = (l, (ps, 0)) → r = (l.flatMap entB, 0) ∧ ps = [] ∧ ∀ e ∈ l, W64 e.1
  | 0, r, l, ps, hf, h => by
    simp only [entsR, Prod.mk.injEq] at h
    obtain ⟨rfl, rfl⟩ := h
    have : ps = [] := List.eq_nil_of_length_eq_zero (by dsimp only at hf; omega)
    subst this
    exact ⟨rfl, rfl, by simp⟩
  | f + 1, r, l, ps, hf, h => by
    rw [entsR] at h
    by_cases hm : r.2 = 0 ∧ r.1 ≠ []
    · rw [if_pos hm] at h
      obtain ⟨⟨w, r1⟩, hw⟩ : ∃ x, wordsR 1 r = x := ⟨_, rfl⟩
      rw [hw] at h
      obtain ⟨⟨d, r2⟩, hd⟩ : ∃ x, nextR r1 = x := ⟨_, rfl⟩
      dsimp only at h
      rw [hd] at h
      dsimp only at h
      obtain ⟨⟨k, r3⟩, hk⟩ : ∃ x, entsR f r2 = x := ⟨_, rfl⟩
      rw [hk] at h
      simp only [Prod.mk.injEq] at h
      obtain ⟨rfl, rfl⟩ := h
      have hlen : r2.1.length ≤ f := by
        have a1 : r1.1.length ≤ r.1.length - 1 := by
          have e1 : r1.1 = (nextR r).2.1 := by rw [← congrArg (fun x => x.2.1) hw]; rfl
          rw [e1]
          obtain ⟨q, e⟩ := r
          obtain ⟨h1, h2⟩ := hm
          dsimp only at h1 h2
          subst h1
          cases q with
          | nil => exact absurd rfl h2
          | cons => simp [nextR]
        have a2 : r2.1.length ≤ r1.1.length := by
          have e2 : r2 = (nextR r1).2 := by rw [hd]
          rw [e2]
          unfold nextR
          split
          · cases hq : r1.1 <;> simp
          · exact Nat.le_refl _
        omega
      obtain ⟨h1, h2, h3⟩ := entsR_inv hlen hk
      subst h1
      have h4 := nextR_inv hd
      subst h4
      obtain ⟨h5, h6, h7⟩ := wordsR_inv hw
      obtain ⟨a, rfl⟩ := lenX1 h6
      refine ⟨by rw [h5]; simp [entB], h2, fun e he => ?_⟩
      rcases List.mem_cons.1 he with rfl | he
      · exact h7 a (by simp)
      · exact h3 e he
    · rw [if_neg hm] at h
      simp only [Prod.mk.injEq] at h
      obtain ⟨rfl, h2⟩ := h
      have hps := more_no h2 hm
      subst hps
      exact ⟨h2, rfl, by simp⟩
theorem next_le (r : Rd1) : (nextR r).2.1.length ≤ r.1.length := by
  unfold nextR
  split
  · cases hq : r.1 <;> simp
  · exact Nat.le_refl _
theorem next_lt {r : Rd1} (h : r.2 = 0 ∧ r.1 ≠ []) : (nextR r).2.1.length + 1 ≤ r.1.length := by
  obtain ⟨q, e⟩ := r
  obtain ⟨h1, h2⟩ := h
  dsimp only at h1 h2
  subst h1
  cases q with
  | nil => exact absurd rfl h2
  | cons => simp [nextR]
theorem pairsR_inv : ∀ {f : Nat} {r : Rd1} {l : List PairM} {ps : List By}, r.1.length ≤ f → pairsR f r = (l, (ps, 0)) → r = (l.flatMap pairB, 0) ∧ ps = []
  | 0, r, l, ps, hf, h => by
    simp only [pairsR, Prod.mk.injEq] at h
    obtain ⟨rfl, rfl⟩ := h
    have : ps = [] := List.eq_nil_of_length_eq_zero (by dsimp only at hf; omega)
    subst this
    exact ⟨rfl, rfl⟩
  | f + 1, r, l, ps, hf, h => by
    rw [pairsR] at h
    by_cases hm : r.2 = 0 ∧ r.1 ≠ []
    · rw [if_pos hm] at h
      have a1 := next_lt hm
      have a2 := next_le (nextR r).2
      obtain ⟨⟨k, r1⟩, hk⟩ : ∃ x, nextR r = x := ⟨_, rfl⟩
      rw [hk] at h a1 a2
      obtain ⟨⟨d, r2⟩, hd⟩ : ∃ x, nextR r1 = x := ⟨_, rfl⟩
      dsimp only at h a1 a2
      rw [hd] at h a2
      dsimp only at h a2
      obtain ⟨⟨t, r3⟩, ht⟩ : ∃ x, pairsR f r2 = x := ⟨_, rfl⟩
      rw [ht] at h
      simp only [Prod.mk.injEq] at h
      obtain ⟨rfl, rfl⟩ := h
      obtain ⟨h1, h2⟩ := pairsR_inv (by omega) ht
      subst h1
      have h4 := nextR_inv hd
      subst h4
      have h5 := nextR_inv hk
      exact ⟨by rw [h5]; simp [pairB], h2⟩
    · rw [if_neg hm] at h
      simp only [Prod.mk.injEq] at h
      obtain ⟨rfl, h2⟩ := h
      have hps := more_no h2 hm
      subst hps
      exact ⟨h2, rfl⟩
theorem wr1_inv {r : Rd1} {w : WrM} {ps : List By} (h : wr1 r = (w, (ps, 0))) : r = (intsB [tI w.gone] :: w.key :: w.val :: ps, 0) := by
  unfold wr1 at h
  obtain ⟨⟨g, r1⟩, hg⟩ : ∃ x, intsR 1 r = x := ⟨_, rfl⟩
  rw [hg] at h
  dsimp only at h
  obtain ⟨⟨t, r2⟩, ht⟩ : ∃ x, truthR (g.getD 0 0) r1 = x := ⟨_, rfl⟩
  rw [ht] at h
  dsimp only at h
  obtain ⟨⟨k, r3⟩, hk⟩ : ∃ x, nextR r2 = x := ⟨_, rfl⟩
  rw [hk] at h
  dsimp only at h
  obtain ⟨⟨v, r4⟩, hv⟩ : ∃ x, nextR r3 = x := ⟨_, rfl⟩
  rw [hv] at h
  simp only [Prod.mk.injEq] at h
  obtain ⟨rfl, rfl⟩ := h
  have h1 := nextR_inv hv
  subst h1
  have h2 := nextR_inv hk
  subst h2
  obtain ⟨h3, h4⟩ := truthR_inv ht
  subst h3
  obtain ⟨h5, h6, _⟩ := intsR_inv hg
  obtain ⟨a, rfl⟩ := lenX1 h6
  rw [List.getD_cons_zero] at h4
  subst h4
  exact h5
theorem wr1_len (r : Rd1) (h : r.2 = 0 ∧ r.1 ≠ []) : (wr1 r).2.1.length + 1 ≤ r.1.length := by
  have h1 : ((intsR 1 r).2.1).length + 1 ≤ r.1.length := next_lt h
  have h2 : (truthR ((intsR 1 r).1.getD 0 0) (intsR 1 r).2).2.1 = (intsR 1 r).2.1 := by unfold truthR; dsimp only; split <;> rfl
  have h3 := next_le (truthR ((intsR 1 r).1.getD 0 0) (intsR 1 r).2).2
  have h4 := next_le (nextR (truthR ((intsR 1 r).1.getD 0 0) (intsR 1 r).2).2).2
  rw [h2] at h3
  show (nextR (nextR (truthR ((intsR 1 r).1.getD 0 0) (intsR 1 r).2).2).2).2.1.length + 1 ≤ _
  omega
theorem writesR_inv : ∀ {f : Nat} {r : Rd1} {l : List WrM} {ps : List By}, r.1.length ≤ f → writesR f r = (l, (ps, 0)) → r = (l.flatMap wrB, 0) ∧ ps = []
  | 0, r, l, ps, hf, h => by
    simp only [writesR, Prod.mk.injEq] at h
    obtain ⟨rfl, rfl⟩ := h
    have : ps = [] := List.eq_nil_of_length_eq_zero (by dsimp only at hf; omega)
    subst this
    exact ⟨rfl, rfl⟩
  | f + 1, r, l, ps, hf, h => by
    rw [writesR] at h
    by_cases hm : r.2 = 0 ∧ r.1 ≠ []
    · rw [if_pos hm] at h
      have a1 := wr1_len r hm
      obtain ⟨⟨w, r1⟩, hw⟩ : ∃ x, wr1 r = x := ⟨_, rfl⟩
      rw [hw] at h a1
      dsimp only at h a1
      obtain ⟨⟨t, r3⟩, ht⟩ : ∃ x, writesR f r1 = x := ⟨_, rfl⟩
      rw [ht] at h
      simp only [Prod.mk.injEq] at h
      obtain ⟨rfl, rfl⟩ := h
      obtain ⟨h1, h2⟩ := writesR_inv (by omega) ht
      subst h1
      have h5 := wr1_inv hw
      exact ⟨by rw [h5]; simp [wrB], h2⟩
    · rw [if_neg hm] at h
      simp only [Prod.mk.injEq] at h
      obtain ⟨rfl, h2⟩ := h
      have hps := more_no h2 hm
      subst hps
      exact ⟨h2, rfl⟩
theorem msgT_inv {r : Rd1} {m : MsgM} (h : msgT r = (m, ([], 0))) : r = (msgL m, 0) ∧ MsgOk m := by
  unfold msgT at h
  obtain ⟨⟨n, r1⟩, hn⟩ : ∃ x, intsR 4 r = x := ⟨_, rfl⟩
  rw [hn] at h; dsimp only at h
  obtain ⟨⟨w, r2⟩, hw⟩ : ∃ x, wordsR 4 r1 = x := ⟨_, rfl⟩
  rw [hw] at h; dsimp only at h
  obtain ⟨⟨t, r3⟩, ht⟩ : ∃ x, truthR (n.getD 3 0) r2 = x := ⟨_, rfl⟩
  rw [ht] at h; dsimp only at h
  obtain ⟨⟨d, r4⟩, hd⟩ : ∃ x, nextR r3 = x := ⟨_, rfl⟩
  rw [hd] at h; dsimp only at h
  obtain ⟨⟨k, r5⟩, hk⟩ : ∃ x, entsA r4 = x := ⟨_, rfl⟩
  rw [hk] at h
  simp only [Prod.mk.injEq] at h
  obtain ⟨rfl, rfl⟩ := h
  obtain ⟨h1, _, h1'⟩ := entsR_inv (Nat.le_refl _) hk
  subst h1
  have h2 := nextR_inv hd
  subst h2
  obtain ⟨h3, h4⟩ := truthR_inv ht
  subst h3
  obtain ⟨h5, h6, h7⟩ := wordsR_inv hw
  subst h5
  obtain ⟨h8, h9, h10⟩ := intsR_inv hn
  obtain ⟨a, b, c, e, rfl⟩ := len4x h9
  obtain ⟨a', b', c', e', rfl⟩ := len4x h6
  simp only [List.getD_cons_zero, List.getD_cons_succ] at h4 ⊢
  subst h4
  refine ⟨h8, ⟨h10 a (by simp), h10 b (by simp), h10 c (by simp), h7 a' (by simp), h7 b' (by simp), h7 c' (by simp), h7 e' (by simp), h1'⟩⟩
theorem msgR_inv {r : Rd1} {m : MsgM} {ps : List By} (h : msgR r = (m, (ps, 0))) : r = (putMsg m :: ps, 0) ∧ MsgOk m := by
  obtain ⟨p, h1, h2⟩ := withinR_inv h
  obtain ⟨h3, h4⟩ := msgT_inv h2
  obtain ⟨h5, _⟩ := parts_inv h3
  exact ⟨by rw [h1, h5]; rfl, h4⟩
theorem resT_inv {r : Rd1} {m : ResM} (h : resT r = (m, ([], 0))) : r = (resL m, 0) ∧ ResOk m := by
  unfold resT at h
  obtain ⟨⟨n, r1⟩, hn⟩ : ∃ x, intsR 3 r = x := ⟨_, rfl⟩
  rw [hn] at h; dsimp only at h
  obtain ⟨⟨w, r2⟩, hw⟩ : ∃ x, wordsR 2 r1 = x := ⟨_, rfl⟩
  rw [hw] at h; dsimp only at h
  obtain ⟨⟨t, r3⟩, ht⟩ : ∃ x, truthR (n.getD 2 0) r2 = x := ⟨_, rfl⟩
  rw [ht] at h; dsimp only at h
  obtain ⟨⟨p, r4⟩, hp⟩ : ∃ x, withinR [] pairsA r3 = x := ⟨_, rfl⟩
  rw [hp] at h; dsimp only at h
  obtain ⟨⟨q, r5⟩, hq⟩ : ∃ x, withinR [] writesA r4 = x := ⟨_, rfl⟩
  rw [hq] at h; dsimp only at h
  obtain ⟨⟨d, r6⟩, hd⟩ : ∃ x, nextR r5 = x := ⟨_, rfl⟩
  rw [hd] at h
  simp only [Prod.mk.injEq] at h
  obtain ⟨rfl, rfl⟩ := h
  have h1 := nextR_inv hd
  subst h1
  obtain ⟨b2, h2, h2'⟩ := withinR_inv hq
  subst h2
  obtain ⟨h3, _⟩ := writesR_inv (Nat.le_refl _) h2'
  obtain ⟨h3, _⟩ := parts_inv h3
  obtain ⟨b3, h4, h4'⟩ := withinR_inv hp
  subst h4
  obtain ⟨h5, _⟩ := pairsR_inv (Nat.le_refl _) h4'
  obtain ⟨h5, _⟩ := parts_inv h5
  obtain ⟨h6, h7⟩ := truthR_inv ht
  subst h6
  obtain ⟨h8, h9, h10⟩ := wordsR_inv hw
  subst h8
  obtain ⟨h11, h12, h13⟩ := intsR_inv hn
  obtain ⟨a, b, c, rfl⟩ := len3x h12
  obtain ⟨a', b', rfl⟩ := len2x h9
  simp only [List.getD_cons_zero, List.getD_cons_succ] at h7 ⊢
  subst h7 h3 h5
  exact ⟨h11, ⟨h13 a (by simp), h13 b (by simp), h10 a' (by simp), h10 b' (by simp)⟩⟩
theorem resR_inv {r : Rd1} {m : ResM} {ps : List By} (h : resR r = (m, (ps, 0))) : r = (putRes m :: ps, 0) ∧ ResOk m := by
  obtain ⟨p, h1, h2⟩ := withinR_inv h
  obtain ⟨h3, h4⟩ := resT_inv h2
  obtain ⟨h5, _⟩ := parts_inv h3
  exact ⟨by rw [h1, h5]; rfl, h4⟩
theorem zMsg_ok : MsgOk zMsg := ⟨by simp [I64, zMsg], by simp [I64, zMsg], by simp [I64, zMsg], by simp [W64, zMsg], by simp [W64, zMsg], by simp [W64, zMsg], by simp [W64, zMsg], by simp [zMsg]⟩
theorem zRes_ok : ResOk zRes := ⟨by simp [I64, zRes], by simp [I64, zRes], by simp [W64, zRes], by simp [W64, zRes]⟩
theorem i0 : I64 0 := by simp [I64]
theorem w0' : W64 0 := by simp [W64]
theorem fieldsR_inv {kind : Int} {r : Rd1} {y : PkM} (hk : I64 kind) (h : fieldsR kind r = (y, ([], 0))) : ∃ l, r = (l, 0) ∧ pkL y = some (intsB [kind] :: l) ∧ PkOk y ∧ trimP y = y := by
  unfold fieldsR at h
  by_cases k1 : kind = 1
  · rw [if_pos k1] at h
    obtain ⟨⟨n, r1⟩, hn⟩ : ∃ x, intsR 3 r = x := ⟨_, rfl⟩
    rw [hn] at h; dsimp only at h
    obtain ⟨⟨m, r2⟩, hm⟩ : ∃ x, msgR r1 = x := ⟨_, rfl⟩
    rw [hm] at h
    simp only [Prod.mk.injEq] at h
    obtain ⟨rfl, rfl⟩ := h
    obtain ⟨h1, h2⟩ := msgR_inv hm
    subst h1
    obtain ⟨h3, h4, h5⟩ := intsR_inv hn
    obtain ⟨a, b, c, rfl⟩ := len3x h4
    subst k1
    simp only [List.getD_cons_zero, List.getD_cons_succ]
    exact ⟨_, h3, rfl, ⟨hk, h5 a (by simp), h5 b (by simp), h5 c (by simp), i0, i0, i0, w0', w0', i0, h2, zRes_ok⟩, rfl⟩
  rw [if_neg k1] at h
  by_cases k2 : kind = 2
  · rw [if_pos k2] at h
    obtain ⟨⟨n, r1⟩, hn⟩ : ∃ x, intsR 4 r = x := ⟨_, rfl⟩
    rw [hn] at h; dsimp only at h
    obtain ⟨⟨w, r2⟩, hw⟩ : ∃ x, wordsR 2 r1 = x := ⟨_, rfl⟩
    rw [hw] at h; dsimp only at h
    obtain ⟨⟨d, r3⟩, hd⟩ : ∃ x, nextR r2 = x := ⟨_, rfl⟩
    rw [hd] at h
    simp only [Prod.mk.injEq] at h
    obtain ⟨rfl, rfl⟩ := h
    have h1 := nextR_inv hd
    subst h1
    obtain ⟨h2, h3, h4⟩ := wordsR_inv hw
    subst h2
    obtain ⟨h5, h6, h7⟩ := intsR_inv hn
    obtain ⟨a, b, c, e, rfl⟩ := len4x h6
    obtain ⟨a', b', rfl⟩ := len2x h3
    subst k2
    simp only [List.getD_cons_zero, List.getD_cons_succ]
    exact ⟨_, h5, rfl, ⟨hk, h7 a (by simp), h7 b (by simp), h7 c (by simp), h7 e (by simp), i0, i0, h4 a' (by simp), h4 b' (by simp), i0, zMsg_ok, zRes_ok⟩, rfl⟩
  rw [if_neg k2] at h
  by_cases k3 : kind = 3
  · rw [if_pos k3] at h
    obtain ⟨⟨n, r1⟩, hn⟩ : ∃ x, intsR 7 r = x := ⟨_, rfl⟩
    rw [hn] at h; dsimp only at h
    obtain ⟨⟨w, r2⟩, hw⟩ : ∃ x, wordsR 2 r1 = x := ⟨_, rfl⟩
    rw [hw] at h; dsimp only at h
    obtain ⟨⟨d, r3⟩, hd⟩ : ∃ x, resR r2 = x := ⟨_, rfl⟩
    rw [hd] at h
    simp only [Prod.mk.injEq] at h
    obtain ⟨rfl, rfl⟩ := h
    obtain ⟨h1, h1'⟩ := resR_inv hd
    subst h1
    obtain ⟨h2, h3, h4⟩ := wordsR_inv hw
    subst h2
    obtain ⟨h5, h6, h7⟩ := intsR_inv hn
    obtain ⟨a, b, c, e, f, g, i, rfl⟩ := len7x h6
    obtain ⟨a', b', rfl⟩ := len2x h3
    subst k3
    simp only [List.getD_cons_zero, List.getD_cons_succ]
    exact ⟨_, h5, rfl, ⟨hk, h7 a (by simp), h7 b (by simp), h7 c (by simp), h7 e (by simp), h7 f (by simp), h7 i (by simp), h4 a' (by simp), h4 b' (by simp), h7 g (by simp), zMsg_ok, h1'⟩, rfl⟩
  rw [if_neg k3] at h
  by_cases k4 : kind = 4
  · rw [if_pos k4] at h
    obtain ⟨⟨n, r1⟩, hn⟩ : ∃ x, intsR 1 r = x := ⟨_, rfl⟩
    rw [hn] at h; dsimp only at h
    obtain ⟨⟨w, r2⟩, hw⟩ : ∃ x, wordsR 2 r1 = x := ⟨_, rfl⟩
    rw [hw] at h; dsimp only at h
    obtain ⟨⟨d, r3⟩, hd⟩ : ∃ x, nextR r2 = x := ⟨_, rfl⟩
    rw [hd] at h
    simp only [Prod.mk.injEq] at h
    obtain ⟨rfl, rfl⟩ := h
    have h1 := nextR_inv hd
    subst h1
    obtain ⟨h2, h3, h4⟩ := wordsR_inv hw
    subst h2
    obtain ⟨h5, h6, h7⟩ := intsR_inv hn
    obtain ⟨a, rfl⟩ := lenX1 h6
    obtain ⟨a', b', rfl⟩ := len2x h3
    subst k4
    simp only [List.getD_cons_zero, List.getD_cons_succ]
    exact ⟨_, h5, rfl, ⟨hk, i0, h7 a (by simp), i0, i0, i0, i0, h4 a' (by simp), h4 b' (by simp), i0, zMsg_ok, zRes_ok⟩, rfl⟩
  rw [if_neg k4] at h
  by_cases k5 : kind = 5
  · rw [if_pos k5] at h
    obtain ⟨⟨n, r1⟩, hn⟩ : ∃ x, intsR 2 r = x := ⟨_, rfl⟩
    rw [hn] at h; dsimp only at h
    obtain ⟨⟨w, r2⟩, hw⟩ : ∃ x, wordsR 2 r1 = x := ⟨_, rfl⟩
    rw [hw] at h; dsimp only at h
    obtain ⟨⟨d, r3⟩, hd⟩ : ∃ x, nextR r2 = x := ⟨_, rfl⟩
    rw [hd] at h
    simp only [Prod.mk.injEq] at h
    obtain ⟨rfl, rfl⟩ := h
    have h1 := nextR_inv hd
    subst h1
    obtain ⟨h2, h3, h4⟩ := wordsR_inv hw
    subst h2
    obtain ⟨h5, h6, h7⟩ := intsR_inv hn
    obtain ⟨a, b, rfl⟩ := len2x h6
    obtain ⟨a', b', rfl⟩ := len2x h3
    subst k5
    simp only [List.getD_cons_zero, List.getD_cons_succ]
    exact ⟨_, h5, rfl, ⟨hk, h7 a (by simp), i0, i0, i0, i0, i0, h4 a' (by simp), h4 b' (by simp), h7 b (by simp), zMsg_ok, zRes_ok⟩, rfl⟩
  · rw [if_neg k5] at h
    simp at h
theorem bodyR_inv {r : Rd1} {y : PkM} (h : bodyR r = (y, ([], 0))) : ∃ l, r = (l, 0) ∧ pkL y = some l ∧ PkOk y ∧ trimP y = y := by
  unfold bodyR at h
  obtain ⟨⟨n, r1, e1⟩, hn⟩ : ∃ x, intsR 1 r = x := ⟨_, rfl⟩
  rw [hn] at h; dsimp only at h
  by_cases he : e1 = 0
  · subst he
    rw [if_pos rfl] at h
    obtain ⟨h5, h6, h7⟩ := intsR_inv hn
    obtain ⟨a, rfl⟩ := lenX1 h6
    obtain ⟨l, h1, h2, h3, h4⟩ := fieldsR_inv (h7 a (by simp)) h
    simp only [Prod.mk.injEq, and_true] at h1
    subst h1
    exact ⟨_, h5, h2, h3, h4⟩
  · rw [if_neg he] at h
    simp only [Prod.mk.injEq] at h
    exact absurd h.2.2 he
end Go.Proofs.Ytaacnknniaipmaa

/-
  Reading packets: behind writing, and of any bytes. No program in sight.
-/
namespace Go.Proofs.Ytaacnknniaipmaa

theorem framed_mem : ∀ {l : List By} {r : By}, r ∈ l → r.length ≤ (framed l).length
  | a :: l, r, h => by
    have e : framed (a :: l) = putU a.length ++ a ++ framed l := by simp [framed]
    rw [e, List.length_append, List.length_append]
    rcases List.mem_cons.1 h with rfl | h
    · omega
    · have := framed_mem h; omega
theorem body_of {p : PkM} {l : List By} (h : PkOk p) (hl : pkL p = some l) (hs : (framed l).length ≤ 1048576) : bodyR (l, 0) = (trimP p, ([], 0)) := by
  have kind : ∀ ps : List By, intsR 1 (intsB [p.kind] :: ps, 0) = ([p.kind], (ps, 0)) := fun ps => intsR_of (l := [p.kind]) (by simpa using h.kind) ps
  have tx : ∀ ps : List By, wordsR 2 (txB p.tx :: ps, 0) = ([p.tx.1, p.tx.2], (ps, 0)) := fun ps => wordsR_of (l := [p.tx.1, p.tx.2]) (all2 h.s h.q) ps
  unfold pkL at hl
  by_cases k1 : p.kind = 1
  · rw [if_pos k1] at hl
    injection hl with hl
    have hm : (putMsg p.msg).length ≤ 1048576 := Nat.le_trans (framed_mem (l := l) (by rw [← hl]; simp)) hs
    have hn := intsR_of (l := [p.fr, p.to, p.shard]) (by simpa using ⟨h.fr, h.to, h.shard⟩) [putMsg p.msg]
    rw [show [p.fr, p.to, p.shard].length = 3 from rfl] at hn
    rw [← hl, bodyR, kind]
    simp only [List.getD_cons_zero]
    rw [if_pos trivial, fieldsR, if_pos k1, hn]
    simp only [List.getD_cons_zero, List.getD_cons_succ]
    rw [msgR_of h.msg (fun r hr => Nat.lt_of_le_of_lt (Nat.le_trans (framed_mem hr) hm) (by decide)), trimP, if_pos k1]
  rw [if_neg k1] at hl
  by_cases k2 : p.kind = 2
  · rw [if_pos k2] at hl
    injection hl with hl
    have hn := intsR_of (l := [p.fr, p.to, p.shard, p.round]) (by simpa using ⟨h.fr, h.to, h.shard, h.round⟩) [txB p.tx, p.data]
    rw [show [p.fr, p.to, p.shard, p.round].length = 4 from rfl] at hn
    rw [← hl, bodyR, kind]
    simp only [List.getD_cons_zero]
    rw [if_pos trivial, fieldsR, if_neg k1, if_pos k2, hn]
    simp only [List.getD_cons_zero, List.getD_cons_succ]
    rw [tx]
    simp only [List.getD_cons_zero, List.getD_cons_succ]
    rw [nextR_cons, trimP, if_neg k1, if_pos k2]
  rw [if_neg k2] at hl
  by_cases k3 : p.kind = 3
  · rw [if_pos k3] at hl
    injection hl with hl
    have hm : (putRes p.res).length ≤ 1048576 := Nat.le_trans (framed_mem (l := l) (by rw [← hl]; simp)) hs
    have h1 : (framed (p.res.pairs.flatMap pairB)).length ≤ 1048576 := Nat.le_trans (framed_mem (l := resL p.res) (by simp [resL])) hm
    have h2 : (framed (p.res.writes.flatMap wrB)).length ≤ 1048576 := Nat.le_trans (framed_mem (l := resL p.res) (by simp [resL])) hm
    have hn := intsR_of (l := [p.fr, p.to, p.shard, p.round, p.cmd, p.code, p.lead]) (by simpa using ⟨h.fr, h.to, h.shard, h.round, h.cmd, h.code, h.lead⟩) [txB p.tx, putRes p.res]
    rw [show [p.fr, p.to, p.shard, p.round, p.cmd, p.code, p.lead].length = 7 from rfl] at hn
    rw [← hl, bodyR, kind]
    simp only [List.getD_cons_zero]
    rw [if_pos trivial, fieldsR, if_neg k1, if_neg k2, if_pos k3, hn]
    simp only [List.getD_cons_zero, List.getD_cons_succ]
    rw [tx]
    simp only [List.getD_cons_zero, List.getD_cons_succ]
    rw [resR_of h.res (fun r hr => Nat.lt_of_le_of_lt (Nat.le_trans (framed_mem hr) hm) (by decide)) (fun r hr => Nat.lt_of_le_of_lt (Nat.le_trans (framed_mem hr) h1) (by decide)) (fun r hr => Nat.lt_of_le_of_lt (Nat.le_trans (framed_mem hr) h2) (by decide)), trimP, if_neg k1, if_neg k2, if_pos k3]
  rw [if_neg k3] at hl
  by_cases k4 : p.kind = 4
  · rw [if_pos k4] at hl
    injection hl with hl
    have hn := intsR_of (l := [p.to]) (by simpa using h.to) [txB p.tx, p.data]
    rw [show [p.to].length = 1 from rfl] at hn
    rw [← hl, bodyR, kind]
    simp only [List.getD_cons_zero]
    rw [if_pos trivial, fieldsR, if_neg k1, if_neg k2, if_neg k3, if_pos k4, hn]
    simp only [List.getD_cons_zero, List.getD_cons_succ]
    rw [tx]
    simp only [List.getD_cons_zero, List.getD_cons_succ]
    rw [nextR_cons, trimP, if_neg k1, if_neg k2, if_neg k3, if_pos k4]
  rw [if_neg k4] at hl
  by_cases k5 : p.kind = 5
  · rw [if_pos k5] at hl
    injection hl with hl
    have hn := intsR_of (l := [p.fr, p.code]) (by simpa using ⟨h.fr, h.code⟩) [txB p.tx, p.data]
    rw [show [p.fr, p.code].length = 2 from rfl] at hn
    rw [← hl, bodyR, kind]
    simp only [List.getD_cons_zero]
    rw [if_pos trivial, fieldsR, if_neg k1, if_neg k2, if_neg k3, if_neg k4, if_pos k5, hn]
    simp only [List.getD_cons_zero, List.getD_cons_succ]
    rw [tx]
    simp only [List.getD_cons_zero, List.getD_cons_succ]
    rw [nextR_cons, trimP, if_neg k1, if_neg k2, if_neg k3, if_neg k4, if_pos k5]
  · rw [if_neg k5] at hl; cases hl
theorem read_seal {p : PkM} {l : List By} (h : PkOk p) (hl : pkL p = some l) (hs : (framed l).length ≤ 1048576) : readP (crcRec (framed l)) = (trimP p, 0) := by
  have hp : parts (framed l) = (l, 0) := parts_framed fun r hr => Nat.lt_of_le_of_lt (Nat.le_trans (framed_mem hr) hs) (by decide)
  unfold readP
  rw [openB_rec hs]
  dsimp only
  rw [if_pos rfl, if_neg (Nat.lt_irrefl _), hp, body_of h hl hs]
  rfl
theorem read_pk {p : PkM} {b : By} (h : PkOk p) (hb : pkB p = (b, 0)) : readP b = (trimP p, 0) := by
  unfold pkB at hb
  cases hl : pkL p with
  | none => rw [hl] at hb; simp at hb
  | some l =>
    rw [hl] at hb
    dsimp only at hb
    unfold sealB at hb
    by_cases hs : 1048576 < (framed l).length
    · rw [if_pos hs] at hb; simp at hb
    · rw [if_neg hs] at hb
      simp only [Prod.mk.injEq, and_true] at hb
      rw [← hb]
      exact read_seal h hl (by omega)
theorem read_inv {b : By} {y : PkM} (h : readP b = (y, 0)) : PkOk y ∧ trimP y = y ∧ ∃ l, pkL y = some l ∧ (framed l).length ≤ 1048576 := by
  unfold readP at h
  obtain ⟨⟨body, x, e⟩, ho⟩ : ∃ z, openB b 0 = z := ⟨_, rfl⟩
  rw [ho] at h
  dsimp only at h
  by_cases he : e = 0
  · subst he
    rw [if_pos rfl] at h
    obtain ⟨h1, h2, h3⟩ := openB_inv (Nat.zero_le _) ho
    by_cases hx : x < b.length
    · rw [if_pos hx] at h; simp at h
    · rw [if_neg hx] at h
      obtain ⟨⟨z, r, e2⟩, hb⟩ : ∃ z, bodyR (parts body) = z := ⟨_, rfl⟩
      rw [hb] at h
      unfold endE at h
      dsimp only at h
      by_cases h4 : e2 = 0 ∧ r ≠ []
      · rw [if_pos h4] at h; simp at h
      · rw [if_neg h4] at h
        by_cases h5 : e2 = 0
        · subst h5
          have hr : r = [] := Decidable.not_not.1 fun k => h4 ⟨rfl, k⟩
          subst hr
          rw [if_pos rfl] at h
          simp only [Prod.mk.injEq, and_true] at h
          subst h
          obtain ⟨l, h6, h7, h8, h9⟩ := bodyR_inv hb
          obtain ⟨h10, _⟩ := parts_inv h6
          exact ⟨h8, h9, l, h7, by rw [← h10]; exact h3⟩
        · rw [if_neg h5] at h
          simp only [Prod.mk.injEq] at h
          exact absurd h.2 h5
  · rw [if_neg he] at h
    simp only [Prod.mk.injEq] at h
    exact absurd h.2 he
theorem read_err {b : By} {y : PkM} {e : Nat} (h : readP b = (y, e)) (he : e ≠ 0) : y = zPk := by
  unfold readP at h
  split at h
  · split at h
    · simp only [Prod.mk.injEq] at h; exact h.1.symm
    · split at h
      · simp only [Prod.mk.injEq] at h; exact absurd h.2.symm he
      · simp only [Prod.mk.injEq] at h; exact h.1.symm
  · simp only [Prod.mk.injEq] at h; exact h.1.symm
/-! #### The errors -/
def E035 (e : Nat) : Prop := e = 0 ∨ e = 3 ∨ e = 5
theorem getAux_e : ∀ (l : By) (i n : Nat), E035 (getAux i n l).2.2
  | [], _, _ => .inr (.inr rfl)
  | x :: l, i, n => by
    unfold getAux
    split
    · exact .inr (.inl rfl)
    · split
      · exact .inl rfl
      · exact getAux_e l _ _
theorem getU_e {b : By} {q : Nat} (hq : q ≤ b.length) : E035 (getU b q).2.2 := by
  have h := getAux_e (b.drop q) 0 0
  unfold getU
  rw [if_neg (by omega)]
  have e1 : (q : Int).toNat = q := by omega
  rw [e1]
  revert h
  generalize getAux 0 0 (b.drop q) = g
  intro h
  obtain ⟨n, k, e⟩ := g
  match e, h with
  | 0, _ => exact .inl rfl
  | e + 1, h => exact h
theorem numsF_e : ∀ (n : Nat) (p : By) (k e : Nat), k ≤ p.length → E035 e → E035 (numsF n p k e).2.2
  | 0, _, _, _, _, h => h
  | n + 1, p, k, e, hk, h => by
    unfold numsF
    split
    · have h1 := getU_e hk
      obtain ⟨⟨v, x, e2⟩, hg⟩ : ∃ z, getU p k = z := ⟨_, rfl⟩
      rw [hg] at h1 ⊢
      dsimp only at h1 ⊢
      by_cases he2 : e2 = 0
      · subst he2
        obtain ⟨k', rfl, _, h3⟩ := getU_next hg
        exact numsF_e n p k' 0 h3 h1
      · rw [numsF_err n p x he2]; exact h1
    · rename_i he
      rw [numsF_err n p k he]; exact h
theorem partsF_e : ∀ (f : Nat) (b : By) (q : Nat) (out : List By), q ≤ b.length → E035 (partsF f b q out).2
  | 0, _, _, _, _ => .inl rfl
  | f + 1, b, q, out, hq => by
    by_cases hle : b.length ≤ q
    · rw [partsF_end hle]; exact .inl rfl
    · have h1 := getU_e hq
      obtain ⟨⟨n, x, e⟩, hg⟩ : ∃ z, getU b q = z := ⟨_, rfl⟩
      rw [hg] at h1
      by_cases he : e = 0
      · subst he
        obtain ⟨k, rfl, _, h3⟩ := getU_next hg
        by_cases hs : b.length < k + n
        · rw [partsF_short hle hg hs]; exact .inr (.inr rfl)
        · rw [partsF_step hle hg hs]; exact partsF_e f b _ _ (by omega)
      · rw [partsF_err hle hg he]; exact h1
theorem parts_e (b : By) : E035 (parts b).2 := partsF_e _ _ _ _ (Nat.zero_le _)
theorem nextR_e {r : Rd1} (h : E035 r.2) : E035 (nextR r).2.2 := by
  unfold nextR
  split
  · cases r.1 with
    | nil => exact .inr (.inl rfl)
    | cons => exact .inl rfl
  · exact h
theorem wordsR_e {n : Nat} {r : Rd1} (h : E035 r.2) : E035 (wordsR n r).2.2 := by
  unfold wordsR
  dsimp only
  split
  · exact .inr (.inl rfl)
  · exact numsF_e n _ 0 _ (Nat.zero_le _) (nextR_e h)
theorem intsR_e {n : Nat} {r : Rd1} (h : E035 r.2) : E035 (intsR n r).2.2 := wordsR_e h
theorem truthR_e {n : Int} {r : Rd1} (h : E035 r.2) : E035 (truthR n r).2.2 := by
  unfold truthR
  dsimp only
  split
  · exact .inr (.inl rfl)
  · exact h
theorem withinR_e {α : Type} {z : α} {take : Rd1 → α × Rd1} {r : Rd1} (ht : ∀ s, E035 s.2 → E035 (take s).2.2) (h : E035 r.2) : E035 (withinR z take r).2.2 := by
  unfold withinR
  split
  · have h1 := ht (parts (nextR r).1) (parts_e _)
    show E035 (inR _ _).2
    unfold inR
    dsimp only
    split
    · exact .inr (.inl rfl)
    · exact h1
  · exact nextR_e h
theorem entsR_e : ∀ (f : Nat) {r : Rd1}, E035 r.2 → E035 (entsR f r).2.2
  | 0, _, h => h
  | f + 1, r, h => by
    unfold entsR
    split
    · exact entsR_e f (nextR_e (wordsR_e h))
    · exact h
theorem pairsR_e : ∀ (f : Nat) {r : Rd1}, E035 r.2 → E035 (pairsR f r).2.2
  | 0, _, h => h
  | f + 1, r, h => by
    unfold pairsR
    split
    · exact pairsR_e f (nextR_e (nextR_e h))
    · exact h
theorem wr1_e {r : Rd1} (h : E035 r.2) : E035 (wr1 r).2.2 := nextR_e (nextR_e (truthR_e (intsR_e h)))
theorem writesR_e : ∀ (f : Nat) {r : Rd1}, E035 r.2 → E035 (writesR f r).2.2
  | 0, _, h => h
  | f + 1, r, h => by
    unfold writesR
    split
    · exact writesR_e f (wr1_e h)
    · exact h
theorem msgR_e {r : Rd1} (h : E035 r.2) : E035 (msgR r).2.2 := withinR_e (fun s hs => entsR_e _ (nextR_e (truthR_e (wordsR_e (intsR_e hs))))) h
theorem resT_e {s : Rd1} (hs : E035 s.2) : E035 (resT s).2.2 := by
  unfold resT
  dsimp only
  refine nextR_e ?_
  refine withinR_e (fun t ht => writesR_e _ ht) ?_
  refine withinR_e (fun t ht => pairsR_e _ ht) ?_
  exact truthR_e (wordsR_e (intsR_e hs))
theorem resR_e {r : Rd1} (h : E035 r.2) : E035 (resR r).2.2 := withinR_e (fun s hs => resT_e hs) h
theorem fieldsR_e {kind : Int} {r : Rd1} (h : E035 r.2) : E035 (fieldsR kind r).2.2 := by
  have key : ∀ n : Nat, E035 (nextR (wordsR 2 (intsR n r).2).2).2.2 := fun n => nextR_e (wordsR_e (intsR_e h))
  have k1 : E035 (msgR (intsR 3 r).2).2.2 := msgR_e (intsR_e h)
  have k3 : E035 (resR (wordsR 2 (intsR 7 r).2).2).2.2 := resR_e (wordsR_e (intsR_e h))
  unfold fieldsR
  split
  · dsimp only; exact k1
  · split
    · dsimp only; exact key 4
    · split
      · dsimp only; exact k3
      · split
        · dsimp only; exact key 1
        · split
          · dsimp only; exact key 2
          · exact .inr (.inl rfl)
theorem bodyR_e {r : Rd1} (h : E035 r.2) : E035 (bodyR r).2.2 := by
  unfold bodyR
  dsimp only
  split
  · exact fieldsR_e (intsR_e h)
  · exact intsR_e h
theorem read_e {b : By} {body : By} (ho : openB b 0 = (body, b.length, 0)) : E035 (readP b).2 := by
  unfold readP
  rw [ho]
  dsimp only
  rw [if_pos rfl, if_neg (Nat.lt_irrefl _)]
  have h := bodyR_e (r := parts body) (parts_e body)
  split
  · exact .inl rfl
  · show E035 (endE _)
    unfold endE
    split
    · exact .inr (.inl rfl)
    · exact h
end Go.Proofs.Ytaacnknniaipmaa
