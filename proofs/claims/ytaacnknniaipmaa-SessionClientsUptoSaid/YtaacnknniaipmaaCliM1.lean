/-
  The texts of this proof, joined: Lib, Eng, Mem, Num, Ty, Args, Pa, Pb, Pc, Pd, Xa, Pe, Pf, Pg, Xb, Xc, Xd.
-/
import Derived.WalkKit
import Derived.WalkSpells
import Derived.WalkLawsBesides
import Derived.Maps.AppendAt
import Derived.Deep.AppendLies
import Derived.Lib.Hide
import Derived.Deep.LoopGhost
import Derived.Deep.QuietTactic
import Derived.BigQuiet
import Derived.Laws.MakeOwn
import Derived.Laws.OwnMore
import Derived.Test.YtaacnknniaipmaaRows
import Derived.ProofKit
import Derived.OpenShut
import Derived.JoinedCond
import Derived.SizedLaws
import Derived.Deep.Matrix
import Derived.Carry

/-
  The words for memory that all walks of this seat use: a slice that reads as a list of values, a slice that the call owns, and the laws of append and make over them. Nothing here names the program.
-/
namespace Go.Proofs.Ytaacnknniaipmaa
open Go.RowKit

/-- A byte as a value of the model. -/
def bv (x : UInt8) : Value := .int .u8 (x.toNat : Int)
/-- Bytes as the cells of a row. -/
def bvs (xs : List UInt8) : List Value := xs.map bv
theorem bvs_length (xs : List UInt8) : (bvs xs).length = xs.length := by simp [bvs]
theorem bvs_append (xs ys : List UInt8) : bvs (xs ++ ys) = bvs xs ++ bvs ys := by simp [bvs]
theorem bvs_get (xs : List UInt8) (k : Nat) (h : k < xs.length) : (bvs xs)[k]? = some (bv xs[k]) := by simp [bvs, h]
theorem bvs_one (xs : List UInt8) : ∀ u ∈ bvs xs, u.oneCell' = true := by
  intro u hu; simp [bvs] at hu; obtain ⟨x, _, rfl⟩ := hu; rfl

/-- The slice at address A reads as the n values xs (nil is let in where there are none). -/
def Rd (w : World) (A : Option Addr) (n : Nat) (xs : List Value) : Prop :=
  xs.length = n ∧ (0 < n → ∃ b o, A = some ⟨b, o, none⟩ ∧ b < w.heap.size ∧ ∀ j u, xs[j]? = some u → w.cell? ⟨b, o + j, none⟩ = some u)

/-- The slice at address A, with capacity c, is a row of the call's own, from block base on, and holds the n values xs. -/
def Ow (w : World) (base : Nat) (e : TypeId) (A : Option Addr) (n c : Nat) (xs : List Value) : Prop :=
  w.ownsRow base e 1 (.slice A n c) n xs

section
variable {w w' : World} {A : Option Addr} {n c base : Nat} {e : TypeId} {xs : List Value}

theorem Rd.nil (w : World) (A : Option Addr) : Rd w A 0 [] := ⟨rfl, fun h => by simp at h⟩

theorem Rd.keep (h : Rd w A n xs) (hs : w.heap.size ≤ w'.heap.size) (hk : ∀ k, k < w.heap.size → w'.heap[k]? = w.heap[k]?) : Rd w' A n xs := ⟨h.1, fun hn => by
  obtain ⟨b, o, hA, hb, hc⟩ := h.2 hn
  exact ⟨b, o, hA, by omega, fun j u hu => (World.cell?_of_block (a := ⟨b, o + j, none⟩) (hk b hb)).trans (hc j u hu)⟩⟩

theorem Rd.below (h : Rd w A n xs) (hb : Below w.heap.size w w') : Rd w' A n xs := h.keep hb.size hb.block
theorem Rd.alloc (h : Rd w A n xs) (o : Obj) : Rd (w.alloc o) A n xs := h.keep (by simp) (fun k hk => Below.heap_alloc _ _ _ hk)
theorem Rd.drew (h : Rd w A n xs) : Rd w.drew A n xs := h

theorem Rd.at (h : Rd w A n xs) {k : Nat} (hk : k < n) : ∃ b o u, A = some ⟨b, o, none⟩ ∧ xs[k]? = some u ∧ w.cell? ⟨b, o + k, none⟩ = some u := by
  obtain ⟨b, o, hA, _, hc⟩ := h.2 (by omega)
  have hl : k < xs.length := by have := h.1; omega
  exact ⟨b, o, xs[k], hA, List.getElem?_eq_getElem hl, hc k _ (List.getElem?_eq_getElem hl)⟩

theorem Rd.new (w : World) (cs : Array Value) (e : TypeId) : Rd (w.alloc (.cells cs e)) (some ⟨w.heap.size, 0, none⟩) cs.size cs.toList :=
  ⟨by simp, fun _ => ⟨w.heap.size, 0, rfl, by simp, fun j u hu => by
    rw [cell_of_row _ _ _ cs e (0, 0) (heap_alloc_new w _)]
    simpa using hu⟩⟩

theorem Ow.len (h : Ow w base e A n c xs) : xs.length = n := by simpa using h.1
theorem Ow.nil (w : World) (base : Nat) (e : TypeId) : Ow w base e none 0 0 [] := World.ownsRow_nil w base e 1
theorem Ow.rd (h : Ow w base e A n c xs) : Rd w A n xs := ⟨h.len, fun hn => by
  obtain ⟨g, cap, hv, _, hlt⟩ := World.ownsRow.form h hn
  injection hv with hA
  subst hA
  have hc := World.ownsRow.cells h (g := g) rfl
  refine ⟨g, 0, rfl, hlt, fun j u hu => ?_⟩
  have := hc j u hu
  simpa [Addr.add_lit] using this⟩
theorem Ow.alloc (h : Ow w base e A n c xs) (o : Obj) : Ow (w.alloc o) base e A n c xs := World.ownsRow.alloc h o
theorem Ow.below {B : Nat} (h : Ow w base e A n c xs) (hb : Below B w w') (hB : w.heap.size ≤ B) : Ow w' base e A n c xs :=
  World.ownsRow.kept (row := none) h ⟨hb.os, hb.tape, hb.output, hb.size, fun k hk _ => hb.block k (by omega)⟩ (by
    cases (Value.slice A n c).ownBlock <;> simp)
theorem Ow.mono {base' : Nat} (h : Ow w base e A n c xs) (hb : base' ≤ base) : Ow w base' e A n c xs := by
  refine ⟨h.1, ?_⟩
  rcases h.2 with hn | ⟨g, cap, cur, hv, hg, rest⟩
  · exact .inl hn
  · exact .inr ⟨g, cap, cur, hv, Nat.le_trans hb hg, rest⟩

/-- append onto a row of the call's own, whatever the source. -/
theorem wpList_app {P : Program} {ops : Array Oper} {rest : List Oper} {o : Oper} {a : Act} {Q : Exit → Act → World → Prop} (hgd : o.guard = none) (s x : Operand) (t : TypeId)
    (ho : o.op = .call { callee := .builtin .append, args := #[s, x], argTypes := #[t, t] }) {z : Value} {bytes : Nat} (ht : P.underlying t = some (.slice e))
    (hi : (P.info? e).map (fun i => (i.zero, i.size, i.bytes)) = some (some z, 1, bytes)) (hzs : z.cells.size = 1)
    (hs : a.eval s = .slice A n c) (hown : Ow w base e A n c xs) {B : Option Addr} {m d : Nat} {ys : List Value} (hx : a.eval x = .slice B m d) (hr : Rd w B m ys) (h1 : ∀ u ∈ ys, u.oneCell' = true)
    (hbytes : (n + m) * bytes ≤ 140737488355328) (hmax : n + m ≤ maxLen) (hbase : base ≤ w.heap.size)
    (h : ∀ A' c' w', Ow w' base e A' (n + m) c' (xs ++ ys) → w.grownBy w' (Value.slice A n c).ownBlock → (A'.map (·.block) = A.map (·.block) ∨ A'.map (·.block) = some w.heap.size) → wpList P ops Q rest (a.put o.dst (.slice A' (n + m) c')) w') : wpList P ops Q (o :: rest) a w := by
  obtain ⟨i, hi0, hz, hs1, hby⟩ := info_parts hi
  have hob : ∀ (A : Option Addr) n c, (Value.slice A n c).ownBlock = A.map (·.block) := fun A _ _ => by cases A <;> rfl
  have hfin : ∀ v' w', w'.ownsRow base e 1 v' (n + m) (xs ++ ys) → w.grownBy w' (Value.slice A n c).ownBlock → (v'.ownBlock = (Value.slice A n c).ownBlock ∨ v'.ownBlock = some w.heap.size) →
      wpList P ops Q rest (a.put o.dst v') w' := by
    intro v' w' h2 h3 h4
    rcases h2.2 with ⟨rfl, h0⟩ | ⟨g, cap, cur, rfl, _⟩
    · have := h none 0 w' (by rw [h0] at h2 ⊢; exact h2) h3 (by simpa only [hob] using h4)
      rw [h0] at this
      exact this
    · exact h _ _ w' h2 h3 (by simpa only [hob] using h4)
  rcases B with _ | ad
  · have hm : m = 0 := by
      rcases Nat.eq_zero_or_pos m with h0 | h0
      · exact h0
      · obtain ⟨_, _, h, _⟩ := hr.2 h0; cases h
    subst hm
    have hn : ys = [] := List.eq_nil_of_length_eq_zero hr.1
    subst hn
    have hrun : (Builtin.append_ #[t, t] o.type #[.slice A n c, .slice none 0 d]).run P w = .ok (.slice A n c) w := by
      rcases hown.2 with ⟨hv, hn0⟩ | ⟨g, cap, cur, hv, _, _, hnc, _⟩
      · injection hv with hA hn hc; subst hA hn0 hc
        simp [Builtin.append_, run_underlying ht, sizeOf, typeInfo, hi0, Builtin.lenOf, Builtin.firstCells]
      · injection hv with hA hn hc; subst hA hc
        simp [Builtin.append_, run_underlying ht, sizeOf, typeInfo, hi0, Builtin.lenOf, Builtin.firstCells, hnc, storeCells]
    refine wpList_plain hgd fun K hK => ?_
    unfold Oper.wp execOp
    simp only [ho, resolve, invoke, builtin, Sem.run_bind, Sem.run_pure, Result.andThen_ok, List.map_toArray, List.map_cons, List.map_nil, hs, hx, hrun]
    refine hK _ _ (hfin _ _ (by rw [List.append_nil]; exact hown) ⟨rfl, rfl, rfl, Nat.le_refl _, fun _ _ _ => rfl⟩ (.inl rfl))
  · by_cases h0 : 0 < m
    · obtain ⟨b, of, hA, _, hc⟩ := hr.2 h0
      injection hA with hA
      subst hA
      exact wpList_append_own_at w hgd s x t ho base e i z 1 bytes ht hi0 hz hs1 hby hzs (by decide) _ n xs hs hown _ m d ys hx (by simpa using hr.1)
        (fun j u hu => by rw [Addr.add_lit]; exact hc j u hu) h1 hmax hbytes hbase fun v' w' h2 h3 _ h4 => hfin v' w' h2 h3 h4
    · have hm : m = 0 := by omega
      subst hm
      have hn : ys = [] := List.eq_nil_of_length_eq_zero hr.1
      subst hn
      exact wpList_append_own_at w hgd s x t ho base e i z 1 bytes ht hi0 hz hs1 hby hzs (by decide) _ n xs hs hown ad 0 d [] hx (by simp)
        (fun j u hu => by simp at hu) h1 hmax hbytes hbase fun v' w' h2 h3 _ h4 => hfin v' w' h2 h3 h4
end
end Go.Proofs.Ytaacnknniaipmaa

/-
  An engine for walks: the frame of a Go function is told by a short list of slots and values, and each kind of code and of operation has one rule. Nothing here names the program.
-/
namespace Go.Proofs.Ytaacnknniaipmaa
open Go.RowKit

/-- What is known of the frame's slots; the newest entry of a slot counts. -/
abbrev FL := List (Nat × Value)
def lookT : FL → Nat → Option Value
  | [], _ => none
  | (i, v) :: L, t => cond (Nat.beq i t) (some v) (lookT L t)
def look (L : FL) : Operand → Option Value
  | .tmp t => lookT L t
  | .const v => some v
  | .global g => some (.pointer (some ⟨g, 0, none⟩))
  | .func f => some (.func (.func f) #[] #[])
/-- All slots of the one list are known, with these values, in the other. -/
def Sub : FL → FL → Prop
  | [], _ => True
  | (i, v) :: L, M => lookT M i = some v ∧ Sub L M
def numb : Nat → List Value → FL
  | _, [] => []
  | k, v :: vs => (k, v) :: numb (k + 1) vs

structure Has (N : Nat) (a : Act) (L : FL) : Prop where
  nodefer : a.defers = []
  size : a.tmps.size = N
  get : ∀ t v, lookT L t = some v → a.tmps.getD t undef = v

theorem lookT_cons {i t : Nat} {v u : Value} {L : FL} (h : lookT ((i, v) :: L) t = some u) : (i = t ∧ u = v) ∨ (i ≠ t ∧ lookT L t = some u) := by
  unfold lookT at h
  cases hb : Nat.beq i t with
  | true => rw [hb] at h; exact .inl ⟨Nat.eq_of_beq_eq_true hb, by simpa using h.symm⟩
  | false => rw [hb] at h; exact .inr ⟨Nat.ne_of_beq_eq_false hb, h⟩

section
variable {N : Nat} {a : Act} {L M : FL}
theorem Has.eval (h : Has N a L) {x : Operand} {v : Value} (hx : look L x = some v) : a.eval x = v := by
  cases x with
  | tmp t => exact h.get t v hx
  | const c => simpa [look, Act.eval] using hx
  | global g => simpa [look, Act.eval] using hx
  | func f => simpa [look, Act.eval] using hx
theorem Has.sub (h : Has N a L) (hs : Sub M L) : Has N a M := by
  refine ⟨h.nodefer, h.size, ?_⟩
  intro t v ht
  have : lookT L t = some v := by
    clear h
    induction M with
    | nil => simp [lookT] at ht
    | cons p M ih =>
      obtain ⟨i, u⟩ := p
      rcases lookT_cons ht with ⟨rfl, rfl⟩ | ⟨_, h⟩
      · exact hs.1
      · exact ih hs.2 h
  exact h.get t v this
theorem Has.put (h : Has N a L) {d : Nat} (hd : Nat.blt d N = true) (v : Value) : Has N (a.put (some d) v) ((d, v) :: L) := by
  have hd' : d < a.tmps.size := by rw [h.size]; simpa [Nat.blt_eq] using hd
  refine ⟨h.nodefer, by simpa [Act.put] using h.size, ?_⟩
  intro t u ht
  rcases lookT_cons ht with ⟨rfl, rfl⟩ | ⟨hne, h'⟩
  · simp [Act.put, hd']
  · have := h.get t u h'
    simpa [Act.put, Array.getElem?_setIfInBounds, hne] using this
end

/-- Code, a region's operations, and the end of a piece of code, from a frame that is known so far. -/
def WC (P : Program) (N : Nat) (c : Code) (Q : Exit → Act → World → Prop) (L : FL) (w : World) : Prop := ∀ a, Has N a L → c.wp P Q a w
def WL (P : Program) (N : Nat) (ops : Array Oper) (Q : Exit → Act → World → Prop) (l : List Oper) (L : FL) (w : World) : Prop := ∀ a, Has N a L → wpList P ops Q l a w
def WE (N : Nat) (Q : Exit → Act → World → Prop) (e : Exit) (L : FL) (w : World) : Prop := ∀ a, Has N a L → Q e a w

/-- A call that hands back a value. -/
def CallsV (P : Program) (f : FuncId) (args : Array Value) (w : World) (R : Value → World → Prop) : Prop :=
  Calls P f args w fun e w' => ∃ v, e = .returned v ∧ R v w'
theorem CallsV.mono {P : Program} {f : FuncId} {args : Array Value} {w : World} {R R' : Value → World → Prop} (h : CallsV P f args w R) (hr : ∀ v w', R v w' → R' v w') : CallsV P f args w R' :=
  Calls.mono h fun _ w' ⟨v, he, h⟩ => ⟨v, he, hr v w' h⟩

theorem bT {p : Prop} {_ : Decidable p} (h : p) : decide p = true := decide_eq_true h
theorem bF {p : Prop} {_ : Decidable p} (h : ¬ p) : decide p = false := decide_eq_false h
theorem bTn {p : Prop} {_ : Decidable p} (h : p) : decide p = !false := decide_eq_true h
theorem bFn {p : Prop} {_ : Decidable p} (h : ¬ p) : decide p = !true := decide_eq_false h
theorem nne {α : Sort _} {a : α} : ¬ (a ≠ a) := fun h => h rfl
theorem bR1 : true = !false := rfl
theorem bR2 : false = !true := rfl
section control
variable {P : Program} {N : Nat} {Q : Exit → Act → World → Prop} {L : FL} {w : World}

theorem wc_skip (h : WE N Q .normal L w) : WC P N .skip Q L w := fun a ha => wp_skip (h a ha)
/-- What must hold at the end of the first of two pieces of code. -/
def SeqQ (P : Program) (y : Code) (Q : Exit → Act → World → Prop) : Exit → Act → World → Prop := Exit.then (y.wp P Q) Q
theorem wc_seq {x y : Code} (h : WC P N x (SeqQ P y Q) L w) : WC P N (.seq x y) Q L w := fun a ha => wp_seq (h a ha)
theorem wc_block {id : Nat} {c : Code} (h : WC P N c (Exit.inBlock id Q) L w) : WC P N (.block id c) Q L w := fun a ha => wp_block (h a ha)
theorem wc_exit {id : Nat} (h : WE N Q (.exit id) L w) : WC P N (.exit id) Q L w := fun a ha => wp_exit (h a ha)
theorem wc_ret (h : WE N Q .ret L w) : WC P N .ret Q L w := fun a ha => wp_ret (h a ha)
theorem wc_cond {c : Operand} {x y : Code} {p : Prop} [Decidable p] (hc : look L c = some (.bool (decide p))) (ht : p → WC P N x Q L w) (hf : ¬ p → WC P N y Q L w) : WC P N (.cond c x y) Q L w :=
  fun a ha => wp_cond_split (ha.eval hc) (fun h => ht (of_decide_eq_true h) a ha) (fun h => hf (of_decide_eq_false h) a ha)
theorem wc_condB {c : Operand} {x y : Code} {t : Bool} (hc : look L c = some (.bool t)) (ht : t = true → WC P N x Q L w) (hf : t = false → WC P N y Q L w) : WC P N (.cond c x y) Q L w :=
  fun a ha => wp_cond_split (ha.eval hc) (fun h => ht h a ha) (fun h => hf h a ha)
theorem wc_decT {c : Operand} {x y : Code} {p : Prop} {_ : Decidable p} (hc : look L c = some (.bool (decide p))) (hp : p) (h : WC P N x Q L w) : WC P N (.cond c x y) Q L w :=
  fun a ha => wp_cond_true ((ha.eval hc).trans (by rw [decide_eq_true hp])) (h a ha)
theorem wc_decF {c : Operand} {x y : Code} {p : Prop} {_ : Decidable p} (hc : look L c = some (.bool (decide p))) (hp : ¬ p) (h : WC P N y Q L w) : WC P N (.cond c x y) Q L w :=
  fun a ha => wp_cond_false ((ha.eval hc).trans (by rw [decide_eq_false hp])) (h a ha)
theorem wc_condTb {c : Operand} {x y : Code} {b : Bool} (hc : look L c = some (.bool b)) (hb : b = true) (h : WC P N x Q L w) : WC P N (.cond c x y) Q L w :=
  fun a ha => wp_cond_true ((ha.eval hc).trans (by rw [hb])) (h a ha)
theorem wc_condFb {c : Operand} {x y : Code} {b : Bool} (hc : look L c = some (.bool b)) (hb : b = false) (h : WC P N y Q L w) : WC P N (.cond c x y) Q L w :=
  fun a ha => wp_cond_false ((ha.eval hc).trans (by rw [hb])) (h a ha)
theorem wc_region {id : Nat} {l : List Oper} (h : WL P N l.toArray Q l L w) : WC P N (.region id l.toArray false) Q L w := fun a ha => wp_region_lit (h a ha)

/-- What a loop's round hands on. -/
def LoopK (N : Nat) (I : FL → World → Nat → Prop) (m : Nat) : Act → World → Prop := fun a w => ∃ m', m' < m ∧ ∃ L, I L w m' ∧ Has N a L
def LoopQ (N : Nat) (I : FL → World → Nat → Prop) (m : Nat) (Q : Exit → Act → World → Prop) : Exit → Act → World → Prop := Exit.then (LoopK N I m) Q
theorem wc_loop {c : Code} (I : FL → World → Nat → Prop) (L0 : FL) (m0 : Nat) (h0 : I L0 w m0) (hs : Sub L0 L)
    (round : ∀ L w m, I L w m → WC P N c (LoopQ N I m Q) L w) : WC P N (.loop c) Q L w := fun a ha =>
  wp_loop_ghost (fun m a w => ∃ L, I L w m ∧ Has N a L) m0 ⟨L0, h0, ha.sub hs⟩ fun m a' w' ⟨L', hI, ha'⟩ => round L' w' m hI a' ha'
/-- What is known where ways meet. -/
def CutK (N : Nat) (J : FL → World → Prop) : Act → World → Prop := fun a w => ∃ L, J L w ∧ Has N a L
def CutQ (N : Nat) (J : FL → World → Prop) (Q : Exit → Act → World → Prop) : Exit → Act → World → Prop := Exit.then (CutK N J) Q
theorem wc_cut {x y : Code} (J : FL → World → Prop) (hx : WC P N x (CutQ N J Q) L w) (hy : ∀ L w, J L w → WC P N y Q L w) : WC P N (.seq x y) Q L w := fun a ha =>
  wp_seq (wp_mono (hx a ha) fun e a' w' h => by
    cases e with
    | normal => obtain ⟨L', hJ, ha'⟩ := h; exact hy L' w' hJ a' ha'
    | _ => exact h)
/-- The same ahead of the end of a piece of code. -/
theorem wc_cutE {x : Code} (J : FL → World → Prop) (hx : WC P N x (CutQ N J Q) L w) (hy : ∀ L w, J L w → WE N Q .normal L w) : WC P N x Q L w := fun a ha =>
  wp_mono (hx a ha) fun e a' w' h => by
    cases e with
    | normal => obtain ⟨L', hJ, ha'⟩ := h; exact hy L' w' hJ a' ha'
    | _ => exact h

theorem we_seq {y : Code} (h : WC P N y Q L w) : WE N (SeqQ P y Q) .normal L w := h
theorem we_seq_exit {y : Code} {id : Nat} (h : WE N Q (.exit id) L w) : WE N (SeqQ P y Q) (.exit id) L w := h
theorem we_seq_ret {y : Code} (h : WE N Q .ret L w) : WE N (SeqQ P y Q) .ret L w := h
theorem we_loop_exit {I : FL → World → Nat → Prop} {m id : Nat} (h : WE N Q (.exit id) L w) : WE N (LoopQ N I m Q) (.exit id) L w := h
theorem we_loop_ret {I : FL → World → Nat → Prop} {m : Nat} (h : WE N Q .ret L w) : WE N (LoopQ N I m Q) .ret L w := h
theorem we_loop {I : FL → World → Nat → Prop} {m : Nat} (M : FL) (m' : Nat) (hI : I M w m') (hm : m' < m) (hs : Sub M L) : WE N (LoopQ N I m Q) .normal L w :=
  fun _ ha => ⟨m', hm, M, hI, ha.sub hs⟩
theorem we_cut {J : FL → World → Prop} (M : FL) (hJ : J M w) (hs : Sub M L) : WE N (CutQ N J Q) .normal L w := fun _ ha => ⟨M, hJ, ha.sub hs⟩
theorem we_block_norm {id : Nat} (h : WE N Q .normal L w) : WE N (Exit.inBlock id Q) .normal L w := h
theorem we_block_ret {id : Nat} (h : WE N Q .ret L w) : WE N (Exit.inBlock id Q) .ret L w := h
theorem we_block_exit {id : Nat} (h : WE N Q .normal L w) : WE N (Exit.inBlock id Q) (.exit id) L w := fun a ha => by
  simp only [Exit.inBlock, if_true]; exact h a ha

/-- The end of a function. -/
theorem we_ret0 {fn : Func} {R : Ending → World → Prop} (hr : fn.results = #[]) (h : R (.returned (.tuple #[])) w) : WE N (bodyPost P fn R) .ret L w := fun a ha =>
  ⟨ha.nodefer, _, results_none hr a.tmps P w, h⟩
theorem we_end0 {fn : Func} {R : Ending → World → Prop} (hr : fn.results = #[]) (h : R (.returned (.tuple #[])) w) : WE N (bodyPost P fn R) .normal L w := fun a ha =>
  ⟨ha.nodefer, _, results_none hr a.tmps P w, h⟩
theorem we_ret1 {fn : Func} {R : Ending → World → Prop} {t : Nat} {v : Value} (hr : fn.results = #[.tmp t]) (hx : lookT L t = some v) (h : R (.returned v) w) : WE N (bodyPost P fn R) .ret L w := fun a ha =>
  ⟨ha.nodefer, v, by rw [results_tmp hr a.tmps P w, ha.get t v hx], h⟩
theorem we_ret2 {fn : Func} {R : Ending → World → Prop} {t1 t2 : Nat} {v1 v2 : Value} (hr : fn.results = #[.tmp t1, .tmp t2]) (h1 : lookT L t1 = some v1) (h2 : lookT L t2 = some v2)
    (h : R (.returned (.tuple #[v1, v2])) w) : WE N (bodyPost P fn R) .ret L w := fun a ha =>
  ⟨ha.nodefer, _, by rw [results_tmp2 hr a.tmps P w, ha.get t1 v1 h1, ha.get t2 v2 h2], h⟩
theorem results_tmp3' {fn : Func} {t u s : Tmp} (h : fn.results = #[.tmp t, .tmp u, .tmp s]) (tmps : Array Value) (P : Program) (w : World) :
    (results fn tmps).run P w = .ok (.tuple #[tmps.getD t undef, tmps.getD u undef, tmps.getD s undef]) w := by
  simp [results, h]
theorem we_ret3 {fn : Func} {R : Ending → World → Prop} {t1 t2 t3 : Nat} {v1 v2 v3 : Value} (hr : fn.results = #[.tmp t1, .tmp t2, .tmp t3]) (h1 : lookT L t1 = some v1) (h2 : lookT L t2 = some v2) (h3 : lookT L t3 = some v3)
    (h : R (.returned (.tuple #[v1, v2, v3])) w) : WE N (bodyPost P fn R) .ret L w := fun a ha =>
  ⟨ha.nodefer, _, by rw [results_tmp3' hr a.tmps P w, ha.get t1 v1 h1, ha.get t2 v2 h2, ha.get t3 v3 h3], h⟩

theorem lookT_numb (vs : List Value) : ∀ k t v, lookT (numb k vs) t = some v → k ≤ t ∧ vs[t - k]? = some v := by
  induction vs with
  | nil => intro k t v h; simp [numb, lookT] at h
  | cons x vs ih =>
    intro k t v h
    rcases lookT_cons h with ⟨rfl, rfl⟩ | ⟨_, h⟩
    · simp
    · obtain ⟨h1, h2⟩ := ih _ _ _ h
      refine ⟨by omega, ?_⟩
      have : t - k = (t - (k + 1)) + 1 := by omega
      rw [this]; simpa using h2

/-- A function's body. -/
theorem calls_in {f : FuncId} {fn : Func} {c : Code} {args : List Value} {R : Value → World → Prop} (hf : P.funcs[f]? = some fn) (hb : fn.body = some c) (hN : fn.ntmps = N) (hle : Nat.ble args.length N = true)
    (h : WC P N c (bodyPost P fn fun e w' => ∃ v, e = .returned v ∧ R v w') (numb 0 args) w) : CallsV P f args.toArray w R := by
  refine calls_of_wp hf hb (h _ ⟨rfl, ?_, ?_⟩)
  · have := Nat.le_of_ble_eq_true hle
    simp [hN]; omega
  · intro t v ht
    obtain ⟨_, h2⟩ := lookT_numb args 0 t v ht
    simp only [Nat.sub_zero] at h2
    have hlt : t < args.length := by
      rcases Nat.lt_or_ge t args.length with h | h
      · exact h
      · rw [List.getElem?_eq_none h] at h2; cases h2
    rw [List.getElem?_eq_getElem hlt] at h2
    simp [Array.getElem?_append, hlt]
    simpa using h2
end control

/-! ### Operations -/
theorem upon_mono {P : Program} {o : Oper} {a : Act} {K K' : Act → World → Prop} {Q Q' : Exit → Act → World → Prop} (hK : ∀ a w, K a w → K' a w) (hQ : ∀ e a w, e ≠ .normal → Q e a w → Q' e a w) {r : Result Next}
    (h : o.upon P a K Q r) : o.upon P a K' Q' r := by
  cases r with
  | ok n w =>
    cases n with
    | value v => exact hK _ _ h
    | skip => exact hK _ _ h
    | defer d => exact hK _ _ h
    | enter f args =>
      refine Calls.mono (show Calls P f args w _ from h) fun e w' h => ?_
      cases e with
      | returned v => exact hK _ _ h
      | panicked c => exact hQ _ _ _ (by simp) h
      | outgrown => obtain ⟨a0, w0, h⟩ := h; exact ⟨a0, w0, hQ _ _ _ (by simp) h⟩
    | row r args => exact Rows.mono (show Rows P r args w _ from h) fun v w' h => hK _ _ h
    | _ => exact h
  | halt x w =>
    cases x with
    | panic v => exact hQ _ _ _ (by simp) h
    | _ => exact h
theorem wpList_append {P : Program} {ops : Array Oper} {Q Q' : Exit → Act → World → Prop} {l2 : List Oper} (h2 : ∀ a w, Q .normal a w → wpList P ops Q' l2 a w) (hQ : ∀ e a w, e ≠ .normal → Q e a w → Q' e a w) :
    ∀ (l1 : List Oper) (a : Act) (w : World), wpList P ops Q l1 a w → wpList P ops Q' (l1 ++ l2) a w
  | [], a, w, h => h2 a w h
  | o :: l1, a, w, h => by
    have ih := wpList_append (P := P) (ops := ops) h2 hQ l1
    simp only [List.cons_append]
    unfold wpList at h ⊢
    split at h
    · rename_i hw
      rw [if_pos hw]
      rcases h with h | ⟨ha, a0, w0, h⟩
      · exact .inl (upon_mono ih hQ h)
      · exact .inr ⟨ha, a0, w0, hQ _ _ _ (by simp) h⟩
    · rename_i hw
      rw [if_neg hw]
      exact ih _ _ h

/-- Operation op, its operands read by L, yields the value v and leaves the world w'. -/
def OpV (P : Program) (op : Op) (ty : TypeId) (L : FL) (w : World) (v : Value) (w' : World) : Prop :=
  ∀ (ρ : Operand → Value) (o : Oper), (∀ x u, look L x = some u → ρ x = u) → o.op = op → o.type = ty → (execOp ρ o).run P w = .ok (.value v) w'
def OpU (P : Program) (op : Op) (ty : TypeId) (L : FL) (w : World) (w' : World) : Prop :=
  ∀ (ρ : Operand → Value) (o : Oper), (∀ x u, look L x = some u → ρ x = u) → o.op = op → o.type = ty → (execOp ρ o).run P w = .ok .skip w'
def CallOk (P : Program) (f : FuncId) : Prop := ∀ args w, (callFunc f args).run P w = .ok (.enter f args) w
theorem callOk {P : Program} {f : FuncId} {fn : Func} (hf : P.funcs[f]? = some fn) (hn : (fn.name == "runtime.NumGoroutine") = false) (hb : fn.body.isNone = false) : CallOk P f := by
  intro args w
  have hn' : ¬ fn.name = "runtime.NumGoroutine" := by simpa using hn
  have hb' : ¬ fn.body = none := by intro h; rw [h] at hb; cases hb
  simp [callFunc, program, hf, hn', hb', Sem.run, bind, Sem.bind, pure]

section ops
variable {P : Program} {N : Nat} {ops : Array Oper} {Q : Exit → Act → World → Prop} {rest : List Oper} {L : FL} {w w' : World}

theorem wl_nil (h : WE N Q .normal L w) : WL P N ops Q [] L w := fun a ha => wpList_nil (h a ha)

theorem wl_val {d : Nat} {op : Op} {ty : TypeId} {pos : String} {aft : Array Edge} {v : Value} (hv : OpV P op ty L w v w') (hd : Nat.blt d N = true)
    (h : WL P N ops Q rest ((d, v) :: L) w') : WL P N ops Q (⟨some d, op, ty, pos, aft, none⟩ :: rest) L w := fun a ha =>
  wpList_plain rfl fun K hK => by
    unfold Oper.wp
    rw [hv a.eval _ (fun x u hx => ha.eval hx) rfl rfl]
    exact hK _ _ (h _ (ha.put hd v))
theorem wl_unitN {op : Op} {ty : TypeId} {pos : String} {aft : Array Edge} (hv : OpU P op ty L w w')
    (h : WL P N ops Q rest L w') : WL P N ops Q (⟨none, op, ty, pos, aft, none⟩ :: rest) L w := fun a ha =>
  wpList_plain rfl fun K hK => by
    unfold Oper.wp
    rw [hv a.eval _ (fun x u hx => ha.eval hx) rfl rfl]
    exact hK _ _ (h _ ha)

/-- The operands of a call. -/
def Looks (L : FL) : List Operand → List Value → Prop
  | [], [] => True
  | x :: xs, v :: vs => look L x = some v ∧ Looks L xs vs
  | _, _ => False
theorem Looks.map {ρ : Operand → Value} (hρ : ∀ x u, look L x = some u → ρ x = u) : ∀ {xs : List Operand} {vs : List Value}, Looks L xs vs → xs.map ρ = vs
  | [], [], _ => rfl
  | x :: xs, v :: vs, h => by rw [List.map_cons, hρ x v h.1, Looks.map hρ h.2]
  | [], _ :: _, h => h.elim
  | _ :: _, [], h => h.elim

theorem exec_call {ρ : Operand → Value} {o : Oper} {f : FuncId} {xs : List Operand} {vs : List Value} {ats : Array TypeId} (ho : o.op = .call { callee := .value (.func f), args := xs.toArray, argTypes := ats })
    (hc : CallOk P f) (hρ : ∀ x u, look L x = some u → ρ x = u) (hx : Looks L xs vs) : (execOp ρ o).run P w = .ok (.enter f vs.toArray) w := by
  have hf : ρ (.func f) = .func (.func f) #[] #[] := hρ _ _ rfl
  have hm := Looks.map hρ hx
  unfold execOp
  simp only [ho, resolve, Deferred.ofValue, hf, Sem.run_bind, Sem.run_pure, Result.andThen_ok, invoke]
  have : (#[] ++ Array.map ρ xs.toArray ++ #[]) = vs.toArray := by simp [hm]
  rw [this]
  exact hc _ _

theorem wl_call {d : Nat} {f : FuncId} {xs : List Operand} {ats : Array TypeId} {ty : TypeId} {pos : String} {aft : Array Edge} {vs : List Value} {R : Value → World → Prop}
    (hc : CallOk P f) (hr : CallsV P f vs.toArray w R) (hx : Looks L xs vs) (hd : Nat.blt d N = true)
    (h : ∀ v w', R v w' → WL P N ops Q rest ((d, v) :: L) w') :
    WL P N ops Q (⟨some d, .call { callee := .value (.func f), args := xs.toArray, argTypes := ats }, ty, pos, aft, none⟩ :: rest) L w := fun a ha =>
  wpList_plain rfl fun K hK => by
    unfold Oper.wp
    rw [exec_call rfl hc (fun x u hx => ha.eval hx) hx]
    refine Calls.mono hr ?_
    rintro _ w' ⟨v, rfl, hv⟩
    exact hK _ _ (h v w' hv _ (ha.put hd v))

/-- A guarded operation: its guard is the Bool that operation j has left in slot g. -/
theorem yielded_of {a : Act} {j g : Nat} {b : Bool} (ha : Has N a L) (hj : (ops[j]?).bind (·.dst) = some g) (hb : lookT L g = some (.bool b)) (hg : Nat.blt g N = true) : yielded ops a.tmps j = some b := by
  have hlt : g < a.tmps.size := by rw [ha.size]; simpa [Nat.blt_eq] using hg
  have h1 := ha.get g _ hb
  unfold yielded
  rw [hj]
  simp only [Option.bind_some]
  have : a.tmps[g]? = some (.bool b) := by
    rw [Array.getD_eq_getD_getElem?] at h1
    rw [Array.getElem?_eq_getElem hlt] at h1 ⊢
    simpa using h1
  rw [this]
theorem yielded_undef {a : Act} {j g : Nat} (ha : Has N a L) (hj : (ops[j]?).bind (·.dst) = some g) (hb : lookT L g = some undef) (hg : Nat.blt g N = true) : yielded ops a.tmps j = none := by
  have hlt : g < a.tmps.size := by rw [ha.size]; simpa [Nat.blt_eq] using hg
  have h1 := ha.get g _ hb
  unfold yielded
  rw [hj]
  simp only [Option.bind_some]
  have : a.tmps[g]? = some undef := by
    rw [Array.getD_eq_getD_getElem?] at h1
    rw [Array.getElem?_eq_getElem hlt] at h1 ⊢
    simpa using h1
  rw [this]; rfl
/-- A guarded operation whose guard was itself passed over. -/
theorem wl_skipU {d j g : Nat} {want : Bool} {op : Op} {ty : TypeId} {pos : String} {aft : Array Edge} (hj : (ops[j]?).bind (·.dst) = some g) (hb : lookT L g = some undef) (hg : Nat.blt g N = true)
    (hd : Nat.blt d N = true) (h : WL P N ops Q rest ((d, undef) :: L) w) : WL P N ops Q (⟨some d, op, ty, pos, aft, some (j, want)⟩ :: rest) L w := fun a ha => by
  have hy := yielded_undef ha hj hb hg
  unfold wpList
  rw [if_neg (by simp [Region.wanted, hy])]
  exact h _ (ha.put hd undef)
theorem wl_skip {d j g : Nat} {b want : Bool} {op : Op} {ty : TypeId} {pos : String} {aft : Array Edge} (hj : (ops[j]?).bind (·.dst) = some g) (hb : lookT L g = some (.bool b)) (hg : Nat.blt g N = true) (hne : b = !want)
    (hd : Nat.blt d N = true) (h : WL P N ops Q rest ((d, undef) :: L) w) : WL P N ops Q (⟨some d, op, ty, pos, aft, some (j, want)⟩ :: rest) L w := fun a ha => by
  have hy := yielded_of ha hj hb hg
  unfold wpList
  rw [if_neg (by simp [Region.wanted, hy, hne])]
  exact h _ (ha.put hd undef)
/-- A guarded operation that is wanted is as if it had no guard. -/
theorem wl_take {d j g : Nat} {b want : Bool} {op : Op} {ty : TypeId} {pos : String} {aft : Array Edge} (hj : (ops[j]?).bind (·.dst) = some g) (hb : lookT L g = some (.bool b)) (hg : Nat.blt g N = true) (he : b = want)
    (h : WL P N ops Q (⟨some d, op, ty, pos, aft, none⟩ :: rest) L w) : WL P N ops Q (⟨some d, op, ty, pos, aft, some (j, want)⟩ :: rest) L w := fun a ha => by
  have hy := yielded_of ha hj hb hg
  have h' := h a ha
  unfold wpList at h' ⊢
  rw [if_pos (by simp [Region.wanted, hy, he])]
  rw [if_pos (by simp [Region.wanted])] at h'
  exact h'

/-! #### Values -/
theorem opv_move {x : Operand} {ty : TypeId} {v : Value} (hx : look L x = some v) : OpV P (.move x) ty L w v w := fun ρ o hρ ho _ => by
  simp [execOp, ho, hρ x v hx]
theorem opv_assign {x : Operand} {ty : TypeId} {v : Value} (hx : look L x = some v) : OpV P (.assign x) ty L w v w := fun ρ o hρ ho _ => by
  simp [execOp, ho, hρ x v hx]
theorem opv_pick {c x y : Operand} {ty : TypeId} {b : Bool} {v : Value} (hc : look L c = some (.bool b)) (ht : b = true → look L x = some v) (hf : b = false → look L y = some v) : OpV P (.pick c x y) ty L w v w := fun ρ o hρ ho _ => by
  cases b with
  | true => simp [execOp, ho, hρ c _ hc, hρ x _ (ht rfl), asBool]
  | false => simp [execOp, ho, hρ c _ hc, hρ y _ (hf rfl), asBool]
def nthV : List Value → Nat → Option Value
  | [], _ => none
  | v :: _, 0 => some v
  | _ :: r, k + 1 => nthV r k
theorem nthV_eq : ∀ (vs : List Value) (k : Nat), nthV vs k = vs[k]?
  | [], _ => by simp [nthV]
  | v :: _, 0 => by simp [nthV]
  | _ :: r, k + 1 => by simp [nthV, nthV_eq r k]
theorem opv_extract {x : Operand} {k : Nat} {ty : TypeId} {vs : List Value} {v : Value} (hx : look L x = some (.tuple vs.toArray)) (hv : nthV vs k = some v) : OpV P (.extract x k) ty L w v w := fun ρ o hρ ho _ => by
  rw [nthV_eq] at hv
  simp [execOp, ho, hρ x _ hx, Instr.extract, hv]

theorem opv_pickT {c x y : Operand} {ty : TypeId} {b : Bool} {v : Value} (hc : look L c = some (.bool b)) (hb : b = true) (hx : look L x = some v) : OpV P (.pick c x y) ty L w v w := opv_pick hc (fun _ => hx) (fun h => by rw [hb] at h; cases h)
theorem opv_pickF {c x y : Operand} {ty : TypeId} {b : Bool} {v : Value} (hc : look L c = some (.bool b)) (hb : b = false) (hy : look L y = some v) : OpV P (.pick c x y) ty L w v w := opv_pick hc (fun h => by rw [hb] at h; cases h) (fun _ => hy)
theorem opv_not {x : Operand} {t ty : TypeId} {b : Bool} (hx : look L x = some (.bool b)) : OpV P (.unOp .not t x) ty L w (.bool (!b)) w := fun ρ o hρ ho _ => by
  simp [execOp, ho, hρ x _ hx, Op.unary]
theorem opv_notD {x : Operand} {t ty : TypeId} {p : Prop} {_ : Decidable p} (hx : look L x = some (.bool (decide p))) : OpV P (.unOp .not t x) ty L w (.bool (decide (¬ p))) w := fun ρ o hρ ho _ => by
  simp [execOp, ho, hρ x _ hx, Op.unary]

/-- The ways through the first k operations of a list meet: slot d holds v, the world is as it was. -/
theorem wl_cutV (k d : Nat) (v : Value) (hx : WL P N ops (CutQ N (fun L' w' => L' = (d, v) :: L ∧ w' = w) Q) (rest.take k) L w) (hy : WL P N ops Q (rest.drop k) ((d, v) :: L) w) : WL P N ops Q rest L w := by
  intro a ha
  have h := hx a ha
  have hmono : ∀ (l1 l2 : List Oper) (a : Act) (w1 : World), (∀ a' w', CutQ N (fun L' w' => L' = (d, v) :: L ∧ w' = w) Q .normal a' w' → wpList P ops Q l2 a' w') →
      wpList P ops (CutQ N (fun L' w' => L' = (d, v) :: L ∧ w' = w) Q) l1 a w1 → wpList P ops Q (l1 ++ l2) a w1 := by
    intro l1 l2 a w1 hl2 h
    exact wpList_append hl2 (fun e a w he h => by cases e <;> first | exact absurd rfl he | exact h) l1 a w1 h
  have := hmono (rest.take k) (rest.drop k) a w (fun a' w' hc => by
    obtain ⟨L', ⟨h1, h2⟩, ha'⟩ := hc
    subst h1; rw [h2]; exact hy a' ha') h
  rwa [List.take_append_drop] at this

/-- A two-sided operation on two values. -/
structure BinV (P : Program) (op : BinOp) (t : TypeId) (a b r : Value) : Prop where
  run : ∀ (x y : Operand) (w : World), (do eqGuard op t x y a b; binOp op t a b : Sem Value).run P w = .ok r w
theorem opv_bin {op : BinOp} {x y : Operand} {t yt ty : TypeId} {a b r : Value} (hx : look L x = some a) (hy : look L y = some b) (hb : BinV P op t a b r) : OpV P (.binOp op t x y yt) ty L w r w := fun ρ o hρ ho _ => by
  have := hb.run x y w
  unfold execOp
  simp only [ho, hρ x _ hx, hρ y _ hy]
  rw [Sem.run_bind, this]
  simp
/-! #### The commonest steps in one word -/
theorem wl_mv {d : Nat} {x : Operand} {ty : TypeId} {pos : String} {aft : Array Edge} {v : Value} (hx : look L x = some v) (hd : Nat.blt d N = true) (h : WL P N ops Q rest ((d, v) :: L) w) :
    WL P N ops Q (⟨some d, .move x, ty, pos, aft, none⟩ :: rest) L w := wl_val (opv_move hx) hd h
theorem wl_as {d : Nat} {x : Operand} {ty : TypeId} {pos : String} {aft : Array Edge} {v : Value} (hx : look L x = some v) (hd : Nat.blt d N = true) (h : WL P N ops Q rest ((d, v) :: L) w) :
    WL P N ops Q (⟨some d, .assign x, ty, pos, aft, none⟩ :: rest) L w := wl_val (opv_assign hx) hd h
theorem wl_bin {d : Nat} {op : BinOp} {x y : Operand} {t yt ty : TypeId} {pos : String} {aft : Array Edge} {a b r : Value} (hx : look L x = some a) (hy : look L y = some b) (hb : BinV P op t a b r) (hd : Nat.blt d N = true) (h : WL P N ops Q rest ((d, r) :: L) w) :
    WL P N ops Q (⟨some d, .binOp op t x y yt, ty, pos, aft, none⟩ :: rest) L w := wl_val (opv_bin hx hy hb) hd h
theorem wc_sr {id : Nat} {l : List Oper} {y : Code} (h : WL P N l.toArray (SeqQ P y Q) l L w) : WC P N (.seq (.region id l.toArray false) y) Q L w := wc_seq (wc_region h)
theorem wl_ns {y : Code} (h : WC P N y Q L w) : WL P N ops (SeqQ P y Q) [] L w := wl_nil (we_seq h)
end ops

/-! ### A region whose order is drawn and whose operations leave the world alone, up to a class of worlds -/
def WQ (P : Program) (N : Nat) (ops : Array Oper) (C : World → Prop) (Qa : Act → Prop) (l : List Oper) (L : FL) : Prop := ∀ a, Has N a L → wpQuiet P ops C Qa l a
/-- The end of such a region. -/
def QEnd (N : Nat) (C : World → Prop) (Q : Exit → Act → World → Prop) (a : Act) : Prop := ∀ w', C w' → Q .normal a w'
section quiet
variable {P : Program} {N : Nat} {ops : Array Oper} {C : World → Prop} {Qa : Act → Prop} {Q : Exit → Act → World → Prop} {rest : List Oper} {L : FL} {w w' : World}
theorem wc_draw {id : Nat} {l : List Oper} (C : World → Prop) (hm : P.follows .mixedOrders = true) (hB : Region.lexB .any l.toArray = true) (hC : C w.drew)
    (h : WQ P N l.toArray C (QEnd N C Q) l L) : WC P N (.region id l.toArray true) Q L w := fun a ha =>
  wp_region_quiet (C := C) hm hB hC (show wpQuiet P l.toArray C (QEnd N C Q) l.toArray.toList a from by simpa using h a ha)
theorem wq_nil (h : ∀ w', C w' → WE N Q .normal L w') : WQ P N ops C (QEnd N C Q) [] L := fun a ha => wpQuiet_nil fun w' hw => h w' hw a ha
theorem wq_val {d : Nat} {op : Op} {ty : TypeId} {pos : String} {aft : Array Edge} {v : Value} (hv : ∀ w, C w → OpV P op ty L w v w) (hd : Nat.blt d N = true)
    (h : WQ P N ops C Qa rest ((d, v) :: L)) : WQ P N ops C Qa (⟨some d, op, ty, pos, aft, none⟩ :: rest) L := fun a ha =>
  wpQuiet_step fun K hK => by
    rw [if_pos (by simp [Region.wanted])]
    refine ⟨v, fun w hw => ?_, hK _ (h _ (ha.put hd v))⟩
    unfold Oper.quietAt
    rw [hv w hw a.eval _ (fun x u hx => ha.eval hx) rfl rfl]
    exact ⟨rfl, rfl⟩
theorem wq_call {d : Nat} {f : FuncId} {xs : List Operand} {ats : Array TypeId} {ty : TypeId} {pos : String} {aft : Array Edge} {vs : List Value} {v : Value}
    (hc : CallOk P f) (hr : ∀ w, C w → CallsV P f vs.toArray w fun u w' => u = v ∧ C w') (hx : Looks L xs vs) (hd : Nat.blt d N = true)
    (h : WQ P N ops C Qa rest ((d, v) :: L)) :
    WQ P N ops C Qa (⟨some d, .call { callee := .value (.func f), args := xs.toArray, argTypes := ats }, ty, pos, aft, none⟩ :: rest) L := fun a ha =>
  wpQuiet_step fun K hK => by
    rw [if_pos (by simp [Region.wanted])]
    refine ⟨v, fun w hw => ?_, hK _ (h _ (ha.put hd v))⟩
    unfold Oper.quietAt
    rw [exec_call rfl hc (fun x u hx => ha.eval hx) hx]
    refine ⟨rfl, Calls.mono (hr w hw) ?_⟩
    rintro _ w' ⟨u, rfl, rfl, hw'⟩
    exact ⟨rfl, hw'⟩
theorem wq_skip {d j g : Nat} {b want : Bool} {op : Op} {ty : TypeId} {pos : String} {aft : Array Edge} (hj : (ops[j]?).bind (·.dst) = some g) (hb : lookT L g = some (.bool b)) (hg : Nat.blt g N = true) (hne : b = !want)
    (hd : Nat.blt d N = true) (h : WQ P N ops C Qa rest ((d, undef) :: L)) : WQ P N ops C Qa (⟨some d, op, ty, pos, aft, some (j, want)⟩ :: rest) L := fun a ha => by
  have hy := yielded_of ha hj hb hg
  unfold wpQuiet
  rw [if_neg (by simp [Region.wanted, hy, hne])]
  exact h _ (ha.put hd undef)
theorem wq_take {d j g : Nat} {b want : Bool} {op : Op} {ty : TypeId} {pos : String} {aft : Array Edge} (hj : (ops[j]?).bind (·.dst) = some g) (hb : lookT L g = some (.bool b)) (hg : Nat.blt g N = true) (he : b = want)
    (h : WQ P N ops C Qa (⟨some d, op, ty, pos, aft, none⟩ :: rest) L) : WQ P N ops C Qa (⟨some d, op, ty, pos, aft, some (j, want)⟩ :: rest) L := fun a ha => by
  have hy := yielded_of ha hj hb hg
  have h' := h a ha
  unfold wpQuiet at h' ⊢
  rw [if_pos (by simp [Region.wanted, hy, he])]
  rw [if_pos (by simp [Region.wanted])] at h'
  exact h'
end quiet

section bins
variable {P : Program} {t : TypeId} {k : IntKind} {a b : Int}
theorem bin_lss : BinV P .lss t (.int k a) (.int k b) (.bool (decide (a < b))) := .mk fun x y w => by simp [eqGuard, binOp, Op.intCmp]
theorem bin_leq : BinV P .leq t (.int k a) (.int k b) (.bool (decide (a ≤ b))) := .mk fun x y w => by simp [eqGuard, binOp, Op.intCmp]
theorem bin_gtr : BinV P .gtr t (.int k a) (.int k b) (.bool (decide (b < a))) := .mk fun x y w => by simp [eqGuard, binOp, Op.intCmp]
theorem bin_geq : BinV P .geq t (.int k a) (.int k b) (.bool (decide (b ≤ a))) := .mk fun x y w => by simp [eqGuard, binOp, Op.intCmp]
theorem bin_eql : BinV P .eql t (.int k a) (.int k b) (.bool (decide (a = b))) := .mk fun x y w => by
  have e : (a == b) = decide (a = b) := by by_cases h : a = b <;> simp [h]
  simp [eqGuard, binOp, Op.intCmp, e]
theorem bin_neq : BinV P .neq t (.int k a) (.int k b) (.bool (decide (a ≠ b))) := .mk fun x y w => by
  have e : (a == b) = decide (a = b) := by by_cases h : a = b <;> simp [h]
  simp [eqGuard, binOp, Op.intCmp, bne, e]
theorem bin_add : BinV P .add t (.int k a) (.int k b) (.int k (k.wrap (a + b))) := .mk fun x y w => by simp [eqGuard, binOp, Op.intArith]
theorem bin_sub : BinV P .sub t (.int k a) (.int k b) (.int k (k.wrap (a - b))) := .mk fun x y w => by simp [eqGuard, binOp, Op.intArith]
theorem bin_mul : BinV P .mul t (.int k a) (.int k b) (.int k (k.wrap (a * b))) := .mk fun x y w => by simp [eqGuard, binOp, Op.intArith]
theorem BinV.to {op : BinOp} {u v r s : Value} (h : BinV P op t u v r) (e : r = s) : BinV P op t u v s := e ▸ h
theorem bin_add64 (h : -9223372036854775808 ≤ a + b ∧ a + b ≤ 9223372036854775807) : BinV P .add t (.int .i64 a) (.int .i64 b) (.int .i64 (a + b)) := bin_add.to (by rw [IntWalk.i64_in _ h])
theorem bin_sub64 (h : -9223372036854775808 ≤ a - b ∧ a - b ≤ 9223372036854775807) : BinV P .sub t (.int .i64 a) (.int .i64 b) (.int .i64 (a - b)) := bin_sub.to (by rw [IntWalk.i64_in _ h])
theorem bin_mul64 (h : -9223372036854775808 ≤ a * b ∧ a * b ≤ 9223372036854775807) : BinV P .mul t (.int .i64 a) (.int .i64 b) (.int .i64 (a * b)) := bin_mul.to (by rw [IntWalk.i64_in _ h])
end bins
end Go.Proofs.Ytaacnknniaipmaa

/-
  The engine's rules for memory: reading an element of a slice, append, make, a slice expression, a store into a row of the call's own. Nothing here names the program.
-/
namespace Go.Proofs.Ytaacnknniaipmaa
open Go.RowKit

theorem cells_one {v : Value} (h : v.oneCell' = true) : v.cells = #[v] := by cases v <;> first | rfl | (simp [Value.oneCell'] at h)

/-- Slice type t has elements of type e, of one cell each. -/
structure Row1 (P : Program) (t e : TypeId) (z : Value) (bytes : Nat) : Prop where
  sl : P.underlying t = some (.slice e)
  info : (P.info? e).map (fun i => (i.zero, i.size, i.bytes)) = some (some z, 1, bytes)
  one : z.oneCell' = true
  flat : (match P.underlying e with | some (.struct _) => true | some (.array _ _) => true | some _ => false | none => true) = false

theorem Row1.agg {P : Program} {t e : TypeId} {z : Value} {bytes : Nat} (T : Row1 P t e z bytes) (w : World) : (isAgg e).run P w = .ok false w := by
  have h := T.flat
  unfold isAgg
  cases hu : P.underlying e with
  | none => rw [hu] at h; simp at h
  | some d =>
    rw [hu] at h
    rw [Sem.run_bind, run_underlying hu]
    cases d <;> first | (simp at h; done) | simp
theorem Row1.size {P : Program} {t e : TypeId} {z : Value} {bytes : Nat} (T : Row1 P t e z bytes) (w : World) : (sizeOf e).run P w = .ok 1 w := by
  obtain ⟨i, hi, _, hs, _⟩ := info_parts T.info
  simp [sizeOf, typeInfo, hi, hs]
theorem Row1.zero {P : Program} {t e : TypeId} {z : Value} {bytes : Nat} (T : Row1 P t e z bytes) (w : World) : (zeroValue e).run P w = .ok z w := by
  obtain ⟨i, hi, hz, _, _⟩ := info_parts T.info
  simp [zeroValue, typeInfo, hi, hz]

/-- Row A alone, beside new blocks, has been written. -/
def Gr (w w' : World) (A : Option Addr) : Prop := w.grownBy w' (A.map (·.block))
theorem ownBlock_slice (A : Option Addr) (n c : Nat) : (Value.slice A n c).ownBlock = A.map (·.block) := by cases A <;> rfl
theorem Gr.refl (w : World) (A : Option Addr) : Gr w w A := ⟨rfl, rfl, rfl, Nat.le_refl _, fun _ _ _ => rfl⟩
theorem Gr.size {w w' : World} {A : Option Addr} (g : Gr w w' A) : w.heap.size ≤ w'.heap.size := World.grownBy.size g
theorem Gr.of_below {w w' : World} {B : Nat} (A : Option Addr) (h : Below B w w') (hB : w.heap.size ≤ B) : Gr w w' A := ⟨h.os, h.tape, h.output, h.size, fun k hk _ => h.block k (by omega)⟩
theorem Gr.trans {w w1 w2 : World} {A : Option Addr} (g : Gr w w1 A) (h : Gr w1 w2 A) : Gr w w2 A := World.grownBy.trans g h
/-- What lies below the row's first block is as it was. -/
theorem Gr.below {w0 w w' : World} {B base : Nat} {e : TypeId} {A : Option Addr} {n c : Nat} {xs : List Value} (g : Gr w w' A) (h : Below B w0 w) (ho : Ow w base e A n c xs) (hb : B ≤ base) (hB : B ≤ w.heap.size) : Below B w0 w' :=
  h.grown g hB fun k hk => Nat.le_trans hb (World.ownsRow.lt ho k (by rw [ownBlock_slice]; exact hk)).1
/-- A row of the call's own in another block stays. -/
theorem Ow.gr {w w' : World} {base base' : Nat} {e e' : TypeId} {A B : Option Addr} {n c : Nat} {xs : List Value} (h : Ow w base e A n c xs) (g : Gr w w' B)
    (hne : ∀ a b, A = some a → B = some b → a.block ≠ b.block) : Ow w' base e A n c xs := by
  refine World.ownsRow.kept h g ?_
  cases A with
  | none => exact .inl rfl
  | some a => refine .inr ?_; cases B with
    | none => simp [Value.ownBlock]
    | some b => simpa [Value.ownBlock] using hne a b rfl rfl
theorem Rd.gr {w w' : World} {A B : Option Addr} {n : Nat} {xs : List Value} (h : Rd w A n xs) (g : Gr w w' B)
    (hne : ∀ a b, A = some a → B = some b → a.block ≠ b.block) : Rd w' A n xs := ⟨h.1, fun hn => by
  obtain ⟨b, o, hA, hb, hc⟩ := h.2 hn
  refine ⟨b, o, hA, Nat.lt_of_lt_of_le hb g.size, fun j u hu => ?_⟩
  rw [World.cell?_of_block (w := w) (a := ⟨b, o + j, none⟩) (World.grownBy.block g b hb ?_)]
  · exact hc j u hu
  · cases B with
    | none => simp
    | some q => have := hne _ q hA rfl; simpa using this⟩
/-- Where a row of the call's own lies. -/
theorem Ow.lt {w : World} {base : Nat} {e : TypeId} {A : Option Addr} {n c : Nat} {xs : List Value} (h : Ow w base e A n c xs) : ∀ a, A = some a → base ≤ a.block ∧ a.block < w.heap.size := fun a ha =>
  World.ownsRow.lt h a.block (by rw [ha]; rfl)
theorem Rd.lt {w : World} {A : Option Addr} {n : Nat} {xs : List Value} (h : Rd w A n xs) (hn : 0 < n) : ∀ a, A = some a → a.block < w.heap.size := fun a ha => by
  obtain ⟨b, o, hA, hb, _⟩ := h.2 hn
  rw [hA] at ha; cases ha; exact hb

theorem getElem?_bvs {l : List UInt8} {k : Nat} {u : Value} (h : (bvs l)[k]? = some u) : ∃ b, l[k]? = some b ∧ u = bv b := by
  unfold bvs at h
  rw [List.getElem?_map] at h
  cases hl : l[k]? with
  | none => rw [hl] at h; cases h
  | some b => rw [hl] at h; exact ⟨b, rfl, by simpa using h.symm⟩

section
variable {P : Program} {N : Nat} {ops : Array Oper} {Q : Exit → Act → World → Prop} {rest : List Oper} {L : FL} {w : World} {t e : TypeId} {z : Value} {bytes : Nat}

theorem opv_len {x : Operand} {ty : TypeId} {A : Option Addr} {n c : Nat} (hx : look L x = some (.slice A n c)) (ht : P.underlying t = some (.slice e)) :
    OpV P (.call { callee := .builtin .len, args := #[x], argTypes := #[t] }) ty L w (.int .i64 (n : Int)) w := fun ρ o hρ ho _ => by
  simp [execOp, ho, resolve, invoke, builtin, Builtin.len_, hρ x _ hx, run_underlying ht, goInt]

/-- The address of an element. -/
theorem opv_idx {x i : Operand} {ty : TypeId} {b o : Nat} {n c kk : Nat} {ik : IntKind} {q : Int} (T : Row1 P t e z bytes) (hx : look L x = some (.slice (some ⟨b, o, none⟩) n c)) (hi : look L i = some (.int ik q)) (hq : q = (kk : Int)) (hk : kk < n) :
    OpV P (.indexAddr t x i) ty L w (.pointer (some ⟨b, o + kk, none⟩)) w := fun ρ op hρ ho _ => by
  subst hq
  simp [execOp, ho, Instr.indexAt, asIntOf, hρ x _ hx, hρ i _ hi, run_underlying T.sl, hk, T.size, Addr.add_lit]
theorem opv_load {x : Operand} {ty : TypeId} {a : Addr} {u : Value} (T : Row1 P t e z bytes) (hx : look L x = some (.pointer (some a))) (hc : w.cell? a = some u) : OpV P (.load e x) ty L w u w := fun ρ op hρ ho _ => by
  simp [execOp, ho, Instr.loadAt, Instr.sureAddr, loadVar, hρ x _ hx, T.agg, hc]

/-- The address of an element that is known, and its load, in two steps. -/
def adR (A : Option Addr) (k : Nat) : Value := .pointer (A.map fun a => a.add k)
theorem opv_idxR {x i : Operand} {ty : TypeId} {A : Option Addr} {n c kk : Nat} {ik : IntKind} {q : Int} {xs : List Value} {u : Value} {w0 : World} (T : Row1 P t e z bytes) (hx : look L x = some (.slice A n c)) (hi : look L i = some (.int ik q)) (hr : Rd w0 A n xs) (hq : q = (kk : Int)) (hu : xs[kk]? = some u) :
    OpV P (.indexAddr t x i) ty L w (adR A kk) w := by
  have hk : kk < n := by have := (List.getElem?_eq_some_iff.1 hu).1; have := hr.1; omega
  obtain ⟨b, o, rfl, _, _⟩ := hr.2 (by omega)
  have := opv_idx (P := P) (L := L) (w := w) (ty := ty) T hx hi hq hk
  simpa [adR, Addr.add_lit] using this
theorem opv_loadR {x : Operand} {ty : TypeId} {A : Option Addr} {n kk : Nat} {xs : List Value} {u : Value} (T : Row1 P t e z bytes) (hx : look L x = some (adR A kk)) (hr : Rd w A n xs) (hu : xs[kk]? = some u) : OpV P (.load e x) ty L w u w := by
  have hk : kk < n := by have := (List.getElem?_eq_some_iff.1 hu).1; have := hr.1; omega
  obtain ⟨b, o, rfl, _, hc⟩ := hr.2 (by omega)
  exact opv_load T (by simpa [adR, Addr.add_lit] using hx) (hc kk u hu)
/-- An element of a slice: its address and its value. -/
theorem wl_el {d1 d2 : Nat} {x i : Operand} {ty1 ty2 : TypeId} {p1 p2 : String} {f1 f2 : Array Edge} {A : Option Addr} {n c kk : Nat} {ik : IntKind} {q : Int} {xs : List Value} (T : Row1 P t e z bytes)
    (hx : look L x = some (.slice A n c)) (hi : look L i = some (.int ik q)) (hr : Rd w A n xs) (hq : q = (kk : Int)) (hk : kk < n) (hd1 : Nat.blt d1 N = true) (hd2 : Nat.blt d2 N = true)
    (h : ∀ p u, xs[kk]? = some u → WL P N ops Q rest ((d2, u) :: (d1, p) :: L) w) :
    WL P N ops Q (⟨some d1, .indexAddr t x i, ty1, p1, f1, none⟩ :: ⟨some d2, .load e (.tmp d1), ty2, p2, f2, none⟩ :: rest) L w := by
  obtain ⟨b, o, u, rfl, hu, hc⟩ := hr.at hk
  refine wl_val (opv_idx T hx hi hq hk) hd1 (wl_val (opv_load T ?_ hc) hd2 (h _ u hu))
  simp [look, lookT]
theorem wl_by {d1 d2 : Nat} {x i : Operand} {ty1 ty2 : TypeId} {p1 p2 : String} {f1 f2 : Array Edge} {A : Option Addr} {n c kk : Nat} {ik : IntKind} {q : Int} {l : List UInt8} (T : Row1 P t e z bytes)
    (hx : look L x = some (.slice A n c)) (hi : look L i = some (.int ik q)) (hr : Rd w A n (bvs l)) (hq : q = (kk : Int)) (hk : kk < n) (hd1 : Nat.blt d1 N = true) (hd2 : Nat.blt d2 N = true)
    (h : ∀ p b, l[kk]? = some b → WL P N ops Q rest ((d2, .int .u8 (b.toNat : Int)) :: (d1, p) :: L) w) :
    WL P N ops Q (⟨some d1, .indexAddr t x i, ty1, p1, f1, none⟩ :: ⟨some d2, .load e (.tmp d1), ty2, p2, f2, none⟩ :: rest) L w :=
  wl_el T hx hi hr hq hk hd1 hd2 fun p u hu => by
    obtain ⟨b, hb, rfl⟩ := getElem?_bvs hu
    exact h p b hb

/-- append. -/
theorem wl_app {d : Nat} {s x : Operand} {ty : TypeId} {pos : String} {aft : Array Edge} {base : Nat} {A : Option Addr} {n c : Nat} {xs : List Value} {B : Option Addr} {m c' : Nat} {ys : List Value} (T : Row1 P t e z bytes)
    (hs : look L s = some (.slice A n c)) (hown : Ow w base e A n c xs) (hx : look L x = some (.slice B m c')) (hr : Rd w B m ys) (h1 : ∀ u ∈ ys, u.oneCell' = true)
    (hbytes : (n + m) * bytes ≤ 140737488355328) (hmax : n + m ≤ maxLen) (hbase : base ≤ w.heap.size) (hd : Nat.blt d N = true)
    (h : ∀ A' c' w', Ow w' base e A' (n + m) c' (xs ++ ys) → Gr w w' A → (A'.map (·.block) = A.map (·.block) ∨ A'.map (·.block) = some w.heap.size) → WL P N ops Q rest ((d, .slice A' (n + m) c') :: L) w') :
    WL P N ops Q (⟨some d, .call { callee := .builtin .append, args := #[s, x], argTypes := #[t, t] }, ty, pos, aft, none⟩ :: rest) L w := fun a ha => by
  refine wpList_app rfl s x t rfl T.sl T.info (by rw [cells_one T.one]; rfl) (ha.eval hs) hown (ha.eval hx) hr h1 hbytes hmax hbase fun A' c' w' ho hg hat => ?_
  rw [ownBlock_slice] at hg
  exact h A' c' w' ho hg hat _ (ha.put hd _)

/-- The parts of a slice that a statement writes out. -/
def PLooks (L : FL) : Nat → List (Nat × Operand) → List Value → Prop
  | _, [], [] => True
  | k, (i, x) :: ps, v :: vs => i = k ∧ look L x = some v ∧ v.oneCell' = true ∧ PLooks L (k + 1) ps vs
  | _, _, _ => False
theorem PLooks.one : ∀ {ps : List (Nat × Operand)} {vs : List Value} {k : Nat}, PLooks L k ps vs → ∀ u ∈ vs, u.oneCell' = true
  | [], [], _, _ => by simp
  | (i, x) :: ps, v :: vs, k, h => by
    intro u hu
    rcases List.mem_cons.1 hu with rfl | hu
    · exact h.2.2.1
    · exact PLooks.one h.2.2.2 u hu
  | [], _ :: _, _, h => h.elim
  | _ :: _, [], _, h => h.elim
theorem PLooks.fill {ρ : Operand → Value} (hρ : ∀ x u, look L x = some u → ρ x = u) : ∀ {ps : List (Nat × Operand)} {vs : List Value} {k : Nat} (cur : Array Value), PLooks L k ps vs → k + vs.length = cur.size →
    Instr.fill (fun i => some (i * 1, 1)) cur (ps.map fun p => (p.1, ρ p.2)) = some (cur.toList.take k ++ vs).toArray
  | [], [], k, cur, _, hk => by
    simp only [List.map_nil, Instr.fill, List.append_nil]
    rw [List.take_of_length_le (by simp at hk ⊢; omega)]
  | (i, x) :: ps, v :: vs, k, cur, h, hk => by
    obtain ⟨rfl, hx, h1, h2⟩ := h
    simp only [List.length_cons] at hk
    have hc := cells_one h1
    simp only [List.map_cons, Instr.fill, hρ x v hx, hc]
    have hcond : ((#[v] : Array Value).size ≠ 1 || decide (i * 1 + (#[v] : Array Value).size > cur.size)) = false := by simp; omega
    have hcs : (Array.foldl (fun cs (x : Value × Nat) => cs.setIfInBounds (i * 1 + x.2) x.1) cur (#[v] : Array Value).zipIdx) = cur.setIfInBounds i v := by simp [Array.zipIdx]
    rw [if_neg (by simpa using hcond)]
    rw [hcs, PLooks.fill hρ (cur.setIfInBounds i v) h2 (by simp; omega)]
    congr 1
    rw [Array.toList_setIfInBounds]
    apply congrArg List.toArray
    apply List.ext_getElem?
    intro j
    have hlt : i < cur.toList.length := by simp; omega
    simp only [List.getElem?_append, List.length_take, List.length_set, List.getElem?_take, List.getElem?_set, List.length_cons, Array.length_toList]
    have m1 : min (i + 1) cur.size = i + 1 := by omega
    have m2 : min i cur.size = i := by omega
    rw [m1, m2]
    rcases Nat.lt_trichotomy j i with h | h | h
    · have e1 : j < i + 1 := by omega
      have e2 : j < cur.size := by omega
      have e3 : i ≠ j := by omega
      simp [h, e1, e2, e3]
    · subst h
      have e2 : j < cur.size := by simpa using hlt
      simp [e2]
    · have e1 : ¬ j < i + 1 := by omega
      have e2 : ¬ j < i := by omega
      have e5 : j - i = (j - (i + 1)) + 1 := by omega
      simp only [e1, e2, if_false]
      rw [e5]; simp
  | [], _ :: _, _, _, h, _ => h.elim
  | _ :: _, [], _, _, h, _ => h.elim

theorem opv_bs {len : Nat} {ps : List (Nat × Operand)} {vs : List Value} {ty : TypeId} (T : Row1 P t e z bytes) (hp : PLooks L 0 ps vs) (hl : vs.length = len) (hle : len ≤ 16777216) :
    OpV P (.buildSlice t len ps.toArray) ty L w (.slice (some ⟨w.heap.size, 0, none⟩) len len) (w.alloc (.cells vs.toArray e)) := fun ρ o hρ ho _ => by
  have hz := T.one
  have hf := PLooks.fill hρ ((Array.range (len * 1)).map fun i => (if len * 1 = 0 then (#[] : Array Value) else z.cells)[i % (if len * 1 = 0 then (#[] : Array Value) else z.cells).size]!) hp (by simp [hl])
  simp only [List.take_zero, List.nil_append] at hf
  have hmap : (Array.map (fun (x : Nat × Operand) => (x.1, ρ x.2)) ps.toArray).toList = ps.map fun p => (p.1, ρ p.2) := by simp
  unfold execOp
  simp only [ho, Instr.buildSlice, Sem.run_bind, run_underlying T.sl, Result.andThen_ok, T.size]
  have h24 : ¬ (len * 1 > 2 ^ 24) := by omega
  rw [if_neg h24]
  by_cases h0 : len * 1 = 0
  · simp only [h0, if_true, Sem.run_bind, Sem.run_pure, Result.andThen_ok] at hf ⊢
    rw [hmap, hf]
    simp [newRow]
  · simp only [h0, if_false, Sem.run_bind, Sem.run_pure, Result.andThen_ok, T.zero] at hf ⊢
    rw [hmap, hf]
    simp [newRow]

theorem Ow.lit (w : World) (e : TypeId) (vs : List Value) (n : Nat) (hn : vs.length = n) (hm : n ≤ maxLen) : Ow (w.alloc (.cells vs.toArray e)) w.heap.size e (some ⟨w.heap.size, 0, none⟩) n n vs := by
  have := World.ownsRow_lit (e := e) (size := 1) (base := w.heap.size) w vs.toArray n (Nat.le_refl _) hm (by simpa using hn)
  simpa [Ow] using this

/-- A slice that a statement writes out. -/
theorem wl_bs {d len : Nat} {ps : List (Nat × Operand)} {vs : List Value} {ty : TypeId} {pos : String} {aft : Array Edge} (T : Row1 P t e z bytes) (hp : PLooks L 0 ps vs) (hl : vs.length = len) (hle : len ≤ 16777216) (hd : Nat.blt d N = true)
    (h : ∀ A w', Ow w' w.heap.size e A len len vs → Below w.heap.size w w' → w'.heap.size = w.heap.size + 1 → WL P N ops Q rest ((d, .slice A len len) :: L) w') :
    WL P N ops Q (⟨some d, .buildSlice t len ps.toArray, ty, pos, aft, none⟩ :: rest) L w :=
  wl_val (opv_bs T hp hl hle) hd (h _ _ (Ow.lit w e vs len hl (by simp only [maxLen]; omega)) ((Below.refl _ _).alloc (Nat.le_refl _) _) (by simp))

/-- append(s, x, y ..): the elements written out. -/
theorem wl_push {d1 d2 len : Nat} {ps : List (Nat × Operand)} {vs : List Value} {s : Operand} {ty1 ty2 : TypeId} {p1 p2 : String} {f1 f2 : Array Edge} {base : Nat} {A : Option Addr} {n c : Nat} {xs : List Value} (T : Row1 P t e z bytes)
    (hs : look L s = some (.slice A n c)) (hown : Ow w base e A n c xs) (hp : PLooks L 0 ps vs) (hl : vs.length = len) (hle : len ≤ 16777216) (hs1 : look ((d1, .slice (some ⟨w.heap.size, 0, none⟩) len len) :: L) s = some (.slice A n c))
    (hbytes : (n + len) * bytes ≤ 140737488355328) (hmax : n + len ≤ maxLen) (hbase : base ≤ w.heap.size) (hd1 : Nat.blt d1 N = true) (hd2 : Nat.blt d2 N = true)
    (h : ∀ p A' c' w', Ow w' base e A' (n + len) c' (xs ++ vs) → Gr w w' A → (A'.map (·.block) = A.map (·.block) ∨ ∀ a', A' = some a' → w.heap.size ≤ a'.block) → WL P N ops Q rest ((d2, .slice A' (n + len) c') :: (d1, p) :: L) w') :
    WL P N ops Q (⟨some d1, .buildSlice t len ps.toArray, ty1, p1, f1, none⟩ :: ⟨some d2, .call { callee := .builtin .append, args := #[s, .tmp d1], argTypes := #[t, t] }, ty2, p2, f2, none⟩ :: rest) L w := by
  refine wl_val (opv_bs T hp hl hle) hd1 ?_
  have ho1 : Ow (w.alloc (.cells vs.toArray e)) base e A n c xs := hown.alloc _
  refine wl_app (B := some ⟨w.heap.size, 0, none⟩) (m := len) (c' := len) T hs1 ho1 (by simp [look, lookT]) (Ow.lit w e vs len hl (by simp only [maxLen]; omega)).rd (PLooks.one hp) hbytes hmax (by simp; omega) hd2 fun A' c' w' ho hg hat => ?_
  refine h _ A' c' w' ho ((Gr.of_below A ((Below.refl w.heap.size w).alloc (Nat.le_refl _) _) (Nat.le_refl _)).trans hg) ?_
  rcases hat with e | e
  · exact .inl e
  · refine .inr fun a' ha' => ?_
    rw [ha'] at e
    simp at e
    omega

/-- A region that only reads: what stands behind it is asked in every world that extends the one ahead. -/
theorem wc_drawB {id : Nat} {l : List Oper} (hm : P.follows .mixedOrders = true) (hB : Region.lexB .any l.toArray = true)
    (h : WQ P N l.toArray (Below w.heap.size w) (QEnd N (Below w.heap.size w) Q) l L) : WC P N (.region id l.toArray true) Q L w :=
  wc_draw (Below w.heap.size w) hm hB ((Below.refl _ _).drew) h
theorem wq_el {w0 : World} {Qa : Act → Prop} {d1 d2 : Nat} {x i : Operand} {ty1 ty2 : TypeId} {p1 p2 : String} {f1 f2 : Array Edge} {A : Option Addr} {n c kk : Nat} {ik : IntKind} {q : Int} {xs : List Value} (T : Row1 P t e z bytes)
    (hx : look L x = some (.slice A n c)) (hi : look L i = some (.int ik q)) (hr : Rd w0 A n xs) (hq : q = (kk : Int)) (hk : kk < n) (hd1 : Nat.blt d1 N = true) (hd2 : Nat.blt d2 N = true)
    (h : ∀ p u, xs[kk]? = some u → WQ P N ops (Below w0.heap.size w0) Qa rest ((d2, u) :: (d1, p) :: L)) :
    WQ P N ops (Below w0.heap.size w0) Qa (⟨some d1, .indexAddr t x i, ty1, p1, f1, none⟩ :: ⟨some d2, .load e (.tmp d1), ty2, p2, f2, none⟩ :: rest) L := by
  have hn : 0 < n := by omega
  obtain ⟨b, o, rfl, hb, hc⟩ := hr.2 hn
  have hl : kk < xs.length := by have := hr.1; omega
  refine wq_val (fun w hw => opv_idx T hx hi hq hk) hd1 (wq_val (v := xs[kk]) (fun w hw => opv_load T (by simp [look, lookT]; rfl) ?_) hd2 (h _ _ (List.getElem?_eq_getElem hl)))
  rw [hw.cell (p := ⟨b, o + kk, none⟩) hb]
  exact hc kk _ (List.getElem?_eq_getElem hl)
theorem wq_by {w0 : World} {Qa : Act → Prop} {d1 d2 : Nat} {x i : Operand} {ty1 ty2 : TypeId} {p1 p2 : String} {f1 f2 : Array Edge} {A : Option Addr} {n c kk : Nat} {ik : IntKind} {q : Int} {l : List UInt8} (T : Row1 P t e z bytes)
    (hx : look L x = some (.slice A n c)) (hi : look L i = some (.int ik q)) (hr : Rd w0 A n (bvs l)) (hq : q = (kk : Int)) (hk : kk < n) (hd1 : Nat.blt d1 N = true) (hd2 : Nat.blt d2 N = true)
    (h : ∀ p b, l[kk]? = some b → WQ P N ops (Below w0.heap.size w0) Qa rest ((d2, .int .u8 (b.toNat : Int)) :: (d1, p) :: L)) :
    WQ P N ops (Below w0.heap.size w0) Qa (⟨some d1, .indexAddr t x i, ty1, p1, f1, none⟩ :: ⟨some d2, .load e (.tmp d1), ty2, p2, f2, none⟩ :: rest) L :=
  wq_el T hx hi hr hq hk hd1 hd2 fun p u hu => by
    obtain ⟨b, hb, rfl⟩ := getElem?_bvs hu
    exact h p b hb

/-- A slice expression. -/
def cutA (A : Option Addr) (c l : Nat) : Option Addr := if c = l then A else A.map (·.add l)
def SLo (L : FL) : Option Operand → Nat → Prop
  | none, l => l = 0
  | some x, l => ∃ k, look L x = some (.int k (l : Int))
def SHi (L : FL) (n : Nat) : Option Operand → Nat → Prop
  | none, h => h = n
  | some x, h => ∃ k, look L x = some (.int k (h : Int))
theorem opv_slice {x : Operand} {lo hi : Option Operand} {ty : TypeId} {A : Option Addr} {n c l h : Nat} (T : Row1 P t e z bytes) (hx : look L x = some (.slice A n c)) (hl : SLo L lo l) (hh : SHi L n hi h) (h1 : l ≤ h) (h2 : h ≤ c) :
    OpV P (.slice t x lo hi none) ty L w (.slice (cutA A c l) (h - l) (c - l)) w := fun ρ o hρ ho _ => by
  have e1 : (Instr.sliceBounds true n c (lo.map ρ) (hi.map ρ) none).run P w = .ok (l, h, c) w := by
    cases lo with
    | none =>
      cases hi with
      | none => have a := hl; have b := hh; simp only [SLo, SHi] at a b; subst a b; simp [Instr.sliceBounds]
      | some y =>
        have a := hl; obtain ⟨k, b⟩ := hh; simp only [SLo] at a; subst a
        simp [Instr.sliceBounds, Instr.sliceBound, hρ y _ b, asIntOf, h2]
    | some u =>
      obtain ⟨k, a⟩ := hl
      cases hi with
      | none => have b := hh; simp only [SHi] at b; subst b; simp [Instr.sliceBounds, Instr.sliceBound, hρ u _ a, asIntOf, h1]
      | some y =>
        obtain ⟨k', b⟩ := hh
        simp [Instr.sliceBounds, Instr.sliceBound, hρ u _ a, hρ y _ b, asIntOf, h1, h2]
  unfold execOp
  simp only [ho, Instr.sliceAt, Instr.slice, Sem.run_bind, run_underlying T.sl, Result.andThen_ok, hρ x _ hx, Option.map_none, e1, T.size]
  simp [cutA]
theorem Rd.cut {A : Option Addr} {n c l h : Nat} {xs : List Value} (hr : Rd w A n xs) (h1 : l ≤ h) (h2 : h ≤ n) (hc : n ≤ c) : Rd w (cutA A c l) (h - l) ((xs.take h).drop l) := by
  refine ⟨by have := hr.1; simp; omega, fun hn => ?_⟩
  obtain ⟨b, o, rfl, hb, hcell⟩ := hr.2 (by omega)
  have hne : ¬ c = l := by omega
  refine ⟨b, o + l, by simp [cutA, hne, Addr.add_lit], hb, fun j u hu => ?_⟩
  rw [List.getElem?_drop, List.getElem?_take] at hu
  split at hu
  · rw [Nat.add_assoc]; exact hcell _ u hu
  · cases hu
theorem bvs_cut (xs : List UInt8) (l h : Nat) : ((bvs xs).take h).drop l = bvs ((xs.take h).drop l) := by simp [bvs, List.map_take, List.map_drop]
theorem wl_sl {d : Nat} {x : Operand} {lo hi : Option Operand} {ty : TypeId} {pos : String} {aft : Array Edge} {A : Option Addr} {n c l h : Nat} (T : Row1 P t e z bytes) (hx : look L x = some (.slice A n c)) (hl : SLo L lo l) (hh : SHi L n hi h) (h1 : l ≤ h) (h2 : h ≤ c)
    (hd : Nat.blt d N = true) (hK : WL P N ops Q rest ((d, .slice (cutA A c l) (h - l) (c - l)) :: L) w) :
    WL P N ops Q (⟨some d, .slice t x lo hi none, ty, pos, aft, none⟩ :: rest) L w :=
  wl_val (opv_slice T hx hl hh h1 h2) hd hK
/-- A beginning of a row of the call's own. -/
theorem Ow.pre {base : Nat} {A : Option Addr} {n c h : Nat} {xs : List Value} (ho : Ow w base e A n c xs) (hh : h ≤ n) : Ow w base e A h c (xs.take h) := by
  refine ⟨by have := ho.len; simp; omega, ?_⟩
  rcases ho.2 with ⟨hv, hn⟩ | ⟨g, cap, cur, hv, hb, hg, hnc, hm, hs, ht⟩
  · injection hv with hA hn' hc
    subst hA hc
    have : h = 0 := by omega
    subst this
    exact .inl ⟨rfl, rfl⟩
  · injection hv with hA hn' hc
    subst hA hc
    refine .inr ⟨g, c, cur, rfl, hb, hg, by omega, hm, hs, ?_⟩
    rw [← ht, List.take_take]; congr 1; omega

end
end Go.Proofs.Ytaacnknniaipmaa

/-
  The engine's rules for numbers: conversions, quotients, bits, shifts; natural numbers as the values of unsigned kinds. Nothing here names the program.
-/
namespace Go.Proofs.Ytaacnknniaipmaa
open Go.RowKit

theorem wrap_uns {k : IntKind} (hk : k.signed = false) (q : Int) : k.wrap q = q % (2 ^ k.bits : Int) := by
  simp [IntKind.wrap, hk]
theorem wrap_nat {k : IntKind} (hk : k.signed = false) (n : Nat) : k.wrap (n : Int) = ((n % 2 ^ k.bits : Nat) : Int) := by
  rw [wrap_uns hk]; simp
theorem wrap_small {k : IntKind} (hk : k.signed = false) {n : Nat} (h : n < 2 ^ k.bits) : k.wrap (n : Int) = (n : Int) := by
  rw [wrap_nat hk, Nat.mod_eq_of_lt h]
theorem ofInt_nat (b n : Nat) : BitVec.ofInt b (n : Int) = BitVec.ofNat b n := by simp

section
variable {P : Program} {L : FL} {w : World} {t ty : TypeId} {k : IntKind}

theorem OpV.to {op : Op} {w' : World} {v u : Value} (h : OpV P op ty L w v w') (e : v = u) : OpV P op ty L w u w' := e ▸ h
theorem opv_conv {src dst : TypeId} {x : Operand} {k0 : IntKind} {q : Int} {ds : TypeDesc} (hx : look L x = some (.int k0 q)) (hs : P.underlying src = some ds) (hd : P.underlying dst = some (.int k)) :
    OpV P (.convert src dst x) ty L w (.int k (k.wrap q)) w := fun ρ o hρ ho _ => by
  unfold execOp
  simp only [ho, hρ x _ hx, convert, Sem.run_bind, run_underlying hs, run_underlying hd, Result.andThen_ok, Conv.intToInt]
  simp
theorem opv_convR {src dst : TypeId} {x : Operand} {k0 : IntKind} {q r : Int} {ds : TypeDesc} (hx : look L x = some (.int k0 q)) (hs : P.underlying src = some ds) (hd : P.underlying dst = some (.int k)) (hr : k.wrap q = r) :
    OpV P (.convert src dst x) ty L w (.int k r) w := hr ▸ opv_conv hx hs hd
end

section
variable {P : Program} {t : TypeId} {k : IntKind}
theorem bin_bits (op : BinOp) (hop : op = .and ∨ op = .or ∨ op = .xor ∨ op = .andNot) {x y : Int} {r : Value} (h : ∀ w, (Op.intBits op k x y).run P w = .ok r w) : BinV P op t (.int k x) (.int k y) r := .mk fun u v w => by
  rcases hop with rfl | rfl | rfl | rfl <;> simpa [eqGuard, binOp] using h w
theorem bin_or {a b : Nat} (hk : k.signed = false) (ha : a < 2 ^ k.bits) (hb : b < 2 ^ k.bits) : BinV P .or t (.int k (a : Int)) (.int k (b : Int)) (.int k ((a ||| b : Nat) : Int)) :=
  bin_bits .or (.inr (.inl rfl)) fun w => by
    have h : a ||| b < 2 ^ k.bits := Nat.or_lt_two_pow ha hb
    simp only [Op.intBits, ofInt_nat, BitVec.toNat_or, BitVec.toNat_ofNat, Nat.mod_eq_of_lt ha, Nat.mod_eq_of_lt hb, wrap_small hk h]; rfl
theorem bin_andNot {a b : Nat} (hk : k.signed = false) (ha : a < 2 ^ k.bits) (hb : b < 2 ^ k.bits) : BinV P .andNot t (.int k (a : Int)) (.int k (b : Int)) (.int k ((a &&& (2 ^ k.bits - 1 - b) : Nat) : Int)) :=
  bin_bits .andNot (.inr (.inr (.inr rfl))) fun w => by
    have h : a &&& (2 ^ k.bits - 1 - b) < 2 ^ k.bits := Nat.lt_of_le_of_lt Nat.and_le_left ha
    simp only [Op.intBits, ofInt_nat, BitVec.toNat_and, BitVec.toNat_not, BitVec.toNat_ofNat, Nat.mod_eq_of_lt ha, Nat.mod_eq_of_lt hb, wrap_small hk h]; rfl
theorem bin_shr {x y : Nat} {yk : IntKind} (hx : x < 2 ^ k.bits) : BinV P .shr t (.int k (x : Int)) (.int yk (y : Int)) (.int k ((x / 2 ^ y : Nat) : Int)) := .mk fun u v w => by
  have h : ((x : Int).fdiv (2 ^ min y k.bits)) = ((x / 2 ^ y : Nat) : Int) := by
    rw [Int.fdiv_eq_ediv_of_nonneg _ (Int.le_of_lt (Int.pow_pos (by decide)))]
    rcases Nat.le_total y k.bits with h | h
    · rw [Nat.min_eq_left h]; simp
    · rw [Nat.min_eq_right h]
      have h1 : x / 2 ^ k.bits = 0 := Nat.div_eq_of_lt hx
      have h2 : x / 2 ^ y = 0 := Nat.div_eq_of_lt (Nat.lt_of_lt_of_le hx (Nat.pow_le_pow_right (by decide) h))
      rw [h2]
      have : ((x : Int) / 2 ^ k.bits) = ((x / 2 ^ k.bits : Nat) : Int) := by simp
      rw [this, h1]
  have h0 : ¬ (y : Int) < 0 := by omega
  simp only [eqGuard, binOp, Op.shift, h0, if_false, Int.toNat_natCast, h]
  simp
theorem bin_shl {x y : Nat} {yk : IntKind} (hk : k.signed = false) : BinV P .shl t (.int k (x : Int)) (.int yk (y : Int)) (.int k ((x * 2 ^ y % 2 ^ k.bits : Nat) : Int)) := .mk fun u v w => by
  have h : k.wrap ((x : Int) * 2 ^ min y k.bits) = ((x * 2 ^ y % 2 ^ k.bits : Nat) : Int) := by
    have : ((x : Int) * 2 ^ min y k.bits) = ((x * 2 ^ min y k.bits : Nat) : Int) := by simp
    rw [this, wrap_nat hk]
    rcases Nat.le_total y k.bits with h | h
    · rw [Nat.min_eq_left h]
    · rw [Nat.min_eq_right h, Nat.mul_mod_left]
      obtain ⟨d, rfl⟩ := Nat.exists_eq_add_of_le h
      rw [Nat.pow_add, ← Nat.mul_assoc, Nat.mul_right_comm, Nat.mul_mod_left]
  have h0 : ¬ (y : Int) < 0 := by omega
  simp only [eqGuard, binOp, Op.shift, h0, if_false, Int.toNat_natCast, h]
  simp
theorem bin_mulN {a b : Nat} (h : a * b ≤ 9223372036854775807) : BinV P .mul t (.int .i64 (a : Int)) (.int .i64 (b : Int)) (.int .i64 ((a * b : Nat) : Int)) := (bin_mul64 (by
  have : (a : Int) * b = ((a * b : Nat) : Int) := by simp
  omega)).to (by simp)
theorem run_equalIn_slice (w : World) (d : Nat) {e : TypeId} (A : Option Addr) (n c : Nat) (ht : P.underlying t = some (.slice e)) : (Op.equalIn (d + 1) t (.slice A n c) (.slice none 0 0)).run P w = .ok A.isNone w := by
  cases A <;> simp [Op.equalIn, run_underlying ht]
theorem bin_eqlSliceNil {e : TypeId} {A : Option Addr} {n c : Nat} (ht : P.underlying t = some (.slice e)) : BinV P .eql t (.slice A n c) (.slice none 0 0) (.bool A.isNone) := .mk fun x y w => by
  simp only [eqGuard, binOp]
  simp [Op.equal, Op.maxDepth, run_equalIn_slice w 9999 A n c ht]
end
end Go.Proofs.Ytaacnknniaipmaa

/-
  The program's facts that the walks use: its slice types, and that each function has a body.
-/
namespace Go.Proofs.Ytaacnknniaipmaa
open Go.RowKit
theorem tyB : Row1 Try.prog 32 5 (.int .u8 0) 1 := ⟨Try.underlying32, by kernel_rfl, rfl, by rw [Try.underlying5]⟩
theorem tyBB : Row1 Try.prog 95 32 (.slice none 0 0) 24 := ⟨Try.underlying95, by kernel_rfl, rfl, by rw [Try.underlying32]⟩
theorem mixed : Try.prog.follows .mixedOrders = true := by kernel_rfl

/-- Bytes in a row of the call's own. -/
abbrev OwB (w : World) (base : Nat) (A : Option Addr) (c : Nat) (xs : List UInt8) : Prop := Ow w base 5 A xs.length c (bvs xs)
/-- Bytes that can be read. -/
abbrev RdB (w : World) (A : Option Addr) (xs : List UInt8) : Prop := Rd w A xs.length (bvs xs)
theorem OwB.rd {w : World} {base c : Nat} {A : Option Addr} {xs : List UInt8} (h : OwB w base A c xs) : RdB w A xs := Ow.rd h
theorem RdB.below {w w' : World} {A : Option Addr} {xs : List UInt8} (h : RdB w A xs) (hb : Below w.heap.size w w') : RdB w' A xs := Rd.below h hb
theorem OwB.below {w w' : World} {base c : Nat} {A : Option Addr} {xs : List UInt8} (h : OwB w base A c xs) (hb : Below w.heap.size w w') : OwB w' base A c xs := Ow.below h hb (Nat.le_refl _)
theorem OwB.snoc {w : World} {base c : Nat} {A : Option Addr} {pre : List UInt8} {x : UInt8} {v : Value} (h : Ow w base 5 A (pre.length + 1) c (bvs pre ++ [v])) (hv : bv x = v) : OwB w base A c (pre ++ [x]) := by
  subst hv; simpa [OwB, bvs] using h
theorem OwB.app {w : World} {base c : Nat} {A : Option Addr} {xs ys : List UInt8} (h : Ow w base 5 A (xs.length + ys.length) c (bvs xs ++ bvs ys)) : OwB w base A c (xs ++ ys) := by
  simpa [OwB, bvs] using h
theorem OwB.cap {w : World} {base c : Nat} {A : Option Addr} {xs : List UInt8} (h : OwB w base A c xs) : xs.length ≤ c := by
  rcases h.2 with ⟨hv, hn⟩ | ⟨g, cap, cur, hv, _, _, hnc, _⟩
  · omega
  · injection hv with _ _ hc; omega
/-- New bytes are handed back. -/
def RetB (w : World) (xs : List UInt8) (v : Value) (w' : World) : Prop :=
  ∃ A c, v = .slice A xs.length c ∧ OwB w' w.heap.size A c xs ∧ Below w.heap.size w w'
theorem bv_of {n : Nat} (h : n < 256) : bv (UInt8.ofNat n) = .int .u8 (n : Int) := by
  simp [bv, Nat.mod_eq_of_lt h]

theorem ok_caissonlaw24_awake : CallOk Try.prog 7 := callOk Try.func7 (by kernel_rfl) rfl
theorem ok_session_New : CallOk Try.prog 8 := callOk Try.func8 (by kernel_rfl) rfl
theorem ok_session_Client_Ask : CallOk Try.prog 9 := callOk Try.func9 (by kernel_rfl) rfl
theorem ok_caissonlaw22_Ops : CallOk Try.prog 10 := callOk Try.func10 (by kernel_rfl) rfl
theorem ok_plan_Encode : CallOk Try.prog 11 := callOk Try.func11 (by kernel_rfl) rfl
theorem ok_session_Client_Call : CallOk Try.prog 12 := callOk Try.func12 (by kernel_rfl) rfl
theorem ok_caissonref01_Equal : CallOk Try.prog 13 := callOk Try.func13 (by kernel_rfl) rfl
theorem ok_plan_Reply_Bytes : CallOk Try.prog 14 := callOk Try.func14 (by kernel_rfl) rfl
theorem ok_caissonref01_Copy : CallOk Try.prog 15 := callOk Try.func15 (by kernel_rfl) rfl
theorem ok_plan_Read : CallOk Try.prog 16 := callOk Try.func16 (by kernel_rfl) rfl
theorem ok_session_Client_Take : CallOk Try.prog 17 := callOk Try.func17 (by kernel_rfl) rfl
theorem ok_session_Client_Open : CallOk Try.prog 18 := callOk Try.func18 (by kernel_rfl) rfl
theorem ok_session_Client_Replies : CallOk Try.prog 19 := callOk Try.func19 (by kernel_rfl) rfl
theorem ok_caissonlaw22_ReplyIs : CallOk Try.prog 20 := callOk Try.func20 (by kernel_rfl) rfl
theorem ok_session_Client_txn : CallOk Try.prog 30 := callOk Try.func30 (by kernel_rfl) rfl
theorem ok_plan_putOp : CallOk Try.prog 31 := callOk Try.func31 (by kernel_rfl) rfl
theorem ok_codec_Frame : CallOk Try.prog 32 := callOk Try.func32 (by kernel_rfl) rfl
theorem ok_bytes_Clone : CallOk Try.prog 33 := callOk Try.func33 (by kernel_rfl) rfl
theorem ok_plan_number : CallOk Try.prog 34 := callOk Try.func34 (by kernel_rfl) rfl
theorem ok_plan_putCells : CallOk Try.prog 35 := callOk Try.func35 (by kernel_rfl) rfl
theorem ok_plan_open : CallOk Try.prog 36 := callOk Try.func36 (by kernel_rfl) rfl
theorem ok_plan_reader_number : CallOk Try.prog 37 := callOk Try.func37 (by kernel_rfl) rfl
theorem ok_plan_reader_more : CallOk Try.prog 38 := callOk Try.func38 (by kernel_rfl) rfl
theorem ok_plan_reader_in : CallOk Try.prog 39 := callOk Try.func39 (by kernel_rfl) rfl
theorem ok_plan_Read_1 : CallOk Try.prog 40 := callOk Try.func40 (by kernel_rfl) rfl
theorem ok_plan_reader_cells : CallOk Try.prog 41 := callOk Try.func41 (by kernel_rfl) rfl
theorem ok_caissonref22_SameRows : CallOk Try.prog 42 := callOk Try.func42 (by kernel_rfl) rfl
theorem ok_plan_putTable : CallOk Try.prog 60 := callOk Try.func60 (by kernel_rfl) rfl
theorem ok_plan_putIndex : CallOk Try.prog 61 := callOk Try.func61 (by kernel_rfl) rfl
theorem ok_codec_PutU : CallOk Try.prog 62 := callOk Try.func62 (by kernel_rfl) rfl
theorem ok_plan_putCell : CallOk Try.prog 63 := callOk Try.func63 (by kernel_rfl) rfl
theorem ok_codec_Parts : CallOk Try.prog 64 := callOk Try.func64 (by kernel_rfl) rfl
theorem ok_plan_reader_next : CallOk Try.prog 65 := callOk Try.func65 (by kernel_rfl) rfl
theorem ok_codec_GetU : CallOk Try.prog 66 := callOk Try.func66 (by kernel_rfl) rfl
theorem ok_plan_reader_cells_1 : CallOk Try.prog 67 := callOk Try.func67 (by kernel_rfl) rfl
theorem ok_plan_reader_cell : CallOk Try.prog 68 := callOk Try.func68 (by kernel_rfl) rfl
theorem ok_caissonref06_SameList : CallOk Try.prog 69 := callOk Try.func69 (by kernel_rfl) rfl
theorem ok_plan_truth : CallOk Try.prog 84 := callOk Try.func84 (by kernel_rfl) rfl
theorem ok_codec_inside : CallOk Try.prog 85 := callOk Try.func85 (by kernel_rfl) rfl
theorem ok_plan_reader_cell_1 : CallOk Try.prog 86 := callOk Try.func86 (by kernel_rfl) rfl
theorem ok_plan_reader_truth : CallOk Try.prog 87 := callOk Try.func87 (by kernel_rfl) rfl
theorem ok_caissonref06_Same : CallOk Try.prog 88 := callOk Try.func88 (by kernel_rfl) rfl
end Go.Proofs.Ytaacnknniaipmaa

/-
  How the arguments of a law are read: bytes, and lists of bytes; what a bound on all that is read gives.
-/
namespace Go.Proofs.Ytaacnknniaipmaa
open Go.RowKit Go.ChangeShapes Go.WideShapes Go.ChangeAt

theorem own : ownKnob Try.prog.godebug = none := by kernel_rfl
theorem laidOut : laidOutB Try.prog = true := by kernel_rfl

theorem bulk_one {H : Type} (d : DataW H) : 1 ≤ Rows.uptoBulk d := by
  cases d with
  | lit l => cases l <;> simp [Rows.uptoBulk]
  | nil => simp [Rows.uptoBulk]
  | ptr d => simp [Rows.uptoBulk]
  | slice elems spare => simp [Rows.uptoBulk]
  | agg parts => simp [Rows.uptoBulk]
  | iface t d => simp [Rows.uptoBulk]
  | map entries => simp [Rows.uptoBulk]
  | held h => simp [Rows.uptoBulk]
theorem bulk_len {H : Type} (l : List (DataW H)) : l.length ≤ Rows.uptoBulkAll l := by
  induction l with
  | nil => simp [Rows.uptoBulkAll]
  | cons x r ih => have := bulk_one x; simp only [Rows.uptoBulkAll, List.length_cons]; omega

section
variable {H : Type} {enc : TypeId × Value → H} {W : World} {a0 : Option Addr} {len0 cap0 : Nat} {d0 : DataW H} {p0 : List MemPlace}

theorem bytes_of {w : World} {x : Addr} {zs : List Int} {n : Nat} (hn : n ≤ zs.length) (hcell : ∀ i, i < zs.length → w.cell? (x.add i) = some (.int .u8 (zs.getD i 0))) (hw : ∀ z ∈ zs, (Lit.int .u8 z).wf = true) :
    ∃ xs : List UInt8, xs.length = n ∧ RdB w (some x) xs := by
  refine ⟨(zs.take n).map fun z => UInt8.ofNat z.toNat, by simp; omega, by simp [bvs], fun h0 => ?_⟩
  have hpos : 0 < zs.length := by simp at h0; omega
  obtain ⟨b, o, spot⟩ := x
  have hc := hcell 0 hpos
  have hspot : spot = none := by simpa [Addr.add] using World.cell?_spot hc
  subst hspot
  refine ⟨b, o, rfl, World.block_lt_of_cell? w _ (by simpa [Addr.add] using hc), fun j u hu => ?_⟩
  simp only [bvs, List.map_map, List.getElem?_map, List.getElem?_take] at hu
  by_cases hj : j < n
  · rw [if_pos hj] at hu
    have hjz : j < zs.length := by omega
    rw [List.getElem?_eq_getElem hjz] at hu
    simp only [Option.map_some, Option.some.injEq, Function.comp_apply] at hu
    have h1 := hcell j hjz
    rw [Addr.add_lit] at h1
    rw [h1, ← hu]
    have hz := hw zs[j] (List.getElem_mem hjz)
    have hb : 0 ≤ zs[j] ∧ zs[j] ≤ 255 := by simpa [Lit.wf, IntKind.min, IntKind.max, IntKind.signed, IntKind.bits] using hz
    have e : zs.getD j 0 = zs[j] := by simp [List.getD, List.getElem?_eq_getElem hjz]
    have e2 : zs[j].toNat % 256 = zs[j].toNat := Nat.mod_eq_of_lt (by omega)
    rw [e]
    simp [bv, e2]
    omega
  · rw [if_neg hj] at hu; cases hu

theorem arg_bytes (h0 : DataW.Trod enc Try.prog W 0 (fun _ => true) true 32 (.slice a0 len0 cap0) d0 p0) :
    ∃ xs : List UInt8, xs.length = len0 ∧ RdB W a0 xs ∧ len0 ≤ cap0 ∧ cap0 ≤ maxLen ∧ len0 + 1 ≤ Rows.uptoBulk d0 ∧ ((d0 = .nil ∧ cap0 = 0) ∨ ∃ e s, d0 = .slice e s ∧ e.length + s.length = cap0) := by
  obtain ⟨fuel, hf⟩ := h0
  rcases open_ints Try.underlying32 Try.underlying5 (by kernel_rfl) hf with ⟨hcs, hx⟩ | ⟨x, l, c, zs, hcs, _, hl, hm, hz, hx, hcell, hwz⟩
  · simp [Value.cells] at hcs
    obtain ⟨rfl, rfl, rfl⟩ := hcs
    injection hx with hd _
    subst hd
    exact ⟨[], rfl, Rd.nil _ _, by omega, by simp [maxLen], by simp [Rows.uptoBulk], .inl ⟨rfl, rfl⟩⟩
  · simp [Value.cells] at hcs
    obtain ⟨rfl, rfl, rfl⟩ := hcs
    injection hx with hd _
    have hz' : zs.length = cap0 := by simpa using hz
    obtain ⟨xs, h1, h2⟩ := bytes_of (n := len0) (by omega) hcell hwz
    have h3 := bulk_len (H := H) (lits .u8 (zs.take len0))
    refine ⟨xs, h1, h2, hl, hm, ?_, .inr ⟨_, _, hd, by simp [lits]; omega⟩⟩
    rw [hd]
    simp only [Rows.uptoBulk]
    simp [lits] at h3 ⊢
    omega
end
end Go.Proofs.Ytaacnknniaipmaa

/-
  Plain functions on lists of bytes, for layer 1 (codec), and what is true of them. Nothing here names the program or the model.
-/
namespace Go.Proofs.Ytaacnknniaipmaa

/-- A number in groups of seven bits. -/
def putU (n : Nat) : List UInt8 := if n < 128 then [UInt8.ofNat n] else UInt8.ofNat (n % 128 + 128) :: putU (n / 128)

/-- The number at the head of a list: n is what has been read, i how many bytes; value, count, error. -/
def getAux : Nat → Nat → List UInt8 → Nat × Nat × Nat
  | _, _, [] => (0, 0, 5)
  | i, n, x :: r =>
    if (i = 9 ∧ 1 < x.toNat) ∨ (x.toNat = 0 ∧ 0 < i) then (0, 0, 3)
    else if x.toNat < 128 then (n + x.toNat * 128 ^ i, i + 1, 0)
    else getAux (i + 1) (n + (x.toNat - 128) * 128 ^ i) r

/-- The number at a place: value, place behind it, error. -/
def getU (b : List UInt8) (p : Int) : Nat × Int × Nat :=
  if p < 0 ∨ (b.length : Int) < p then (0, 0, 1) else
  match getAux 0 0 (b.drop p.toNat) with
  | (n, k, 0) => (n, p + k, 0)
  | (_, _, e) => (0, 0, e)

theorem or128 (m : Nat) : (m % 256 ||| 128) = m % 128 + 128 := by
  have h : m % 256 < 256 := Nat.mod_lt _ (by decide)
  have e : m % 128 = (m % 256) % 128 := by omega
  rw [e]
  generalize m % 256 = x at h
  revert x
  decide +kernel
theorem andNot128 (x : UInt8) : (x.toNat &&& (18446744073709551615 - 128)) = x.toNat % 128 := by
  have h : x.toNat < 256 := x.toNat_lt
  generalize x.toNat = y at h
  revert y
  decide +kernel
theorem or_shift {n y i : Nat} (h : n < 128 ^ i) : n ||| y * 2 ^ (7 * i) = n + y * 128 ^ i := by
  have e : (128 : Nat) ^ i = 2 ^ (7 * i) := by rw [Nat.pow_mul]
  rw [e] at h ⊢
  rw [Nat.or_comm, ← Nat.shiftLeft_eq, ← Nat.shiftLeft_add_eq_or_of_lt h, Nat.shiftLeft_eq, Nat.add_comm]

theorem drop_get {l : List UInt8} {k : Nat} {b : UInt8} (h : l[k]? = some b) : l.drop k = b :: l.drop (k + 1) := by
  have hk : k < l.length := by
    rcases Nat.lt_or_ge k l.length with h' | h'
    · exact h'
    · rw [List.getElem?_eq_none h'] at h; cases h
  rw [List.getElem?_eq_getElem hk] at h
  cases h
  exact List.drop_eq_getElem_cons hk
theorem take_get {l : List UInt8} {k : Nat} {b : UInt8} (h : l[k]? = some b) : l.take (k + 1) = l.take k ++ [b] := by
  rw [List.take_add_one, h]; rfl

theorem getAux_step {i n : Nat} {x : UInt8} {r : List UInt8} (h1 : ¬ ((i = 9 ∧ 1 < x.toNat) ∨ (x.toNat = 0 ∧ 0 < i))) (h2 : ¬ x.toNat < 128) : getAux i n (x :: r) = getAux (i + 1) (n + x.toNat % 128 * 128 ^ i) r := by
  rw [getAux, if_neg h1, if_neg h2]
  have h3 := x.toNat_lt
  have h4 : x.toNat - 128 = x.toNat % 128 := by omega
  rw [h4]
theorem getAux_form {i n : Nat} {x : UInt8} {r : List UInt8} (h1 : (i = 9 ∧ 1 < x.toNat) ∨ (x.toNat = 0 ∧ 0 < i)) : getAux i n (x :: r) = (0, 0, 3) := by
  rw [getAux, if_pos h1]
theorem getAux_last {i n : Nat} {x : UInt8} {r : List UInt8} (h1 : ¬ ((i = 9 ∧ 1 < x.toNat) ∨ (x.toNat = 0 ∧ 0 < i))) (h2 : x.toNat < 128) : getAux i n (x :: r) = (n + x.toNat % 128 * 128 ^ i, i + 1, 0) := by
  rw [getAux, if_neg h1, if_pos h2, Nat.mod_eq_of_lt h2]
theorem getU_arg {b : List UInt8} {p : Int} (h : ¬ (0 ≤ p ∧ p ≤ b.length)) : getU b p = (0, 0, 1) := by
  rw [getU, if_pos (by omega)]
theorem getU_ok {b : List UInt8} {q n k : Nat} (hq : q ≤ b.length) (h : getAux 0 0 (b.drop q) = (n, k, 0)) : getU b q = (n, (q : Int) + k, 0) := by
  rw [getU, if_neg (by omega)]
  simp [h]
theorem getU_bad {b : List UInt8} {q e : Nat} (hq : q ≤ b.length) (h : getAux 0 0 (b.drop q) = (0, 0, e + 1)) : getU b q = (0, 0, e + 1) := by
  rw [getU, if_neg (by omega)]
  simp [h]
/-- A number of ten groups at most, and what a further group adds. -/
theorem group_lt {i n y : Nat} (hn : n < 128 ^ i) (hy : y < 128) : n + y * 128 ^ i < 128 ^ (i + 1) := by
  have h1 : y * 128 ^ i ≤ 127 * 128 ^ i := Nat.mul_le_mul_right _ (by omega)
  rw [Nat.pow_succ]
  omega
theorem pow128_9 : (128 : Nat) ^ 9 = 9223372036854775808 := by decide

theorem sum_lt {i n x : Nat} (hn : n < 128 ^ i) (hi : i ≤ 9) (hx1 : i = 9 → x ≤ 1) : n + x % 128 * 128 ^ i < 18446744073709551616 := by
  rcases Nat.lt_or_ge i 9 with h9 | h9
  · have h8 := group_lt hn (Nat.mod_lt x (show 0 < 128 by decide))
    have : (128 : Nat) ^ (i + 1) ≤ 128 ^ 9 := Nat.pow_le_pow_right (by decide) (by omega)
    rw [pow128_9] at this; omega
  · obtain rfl : i = 9 := by omega
    have h10 := hx1 rfl
    have : x % 128 ≤ 1 := by omega
    have : x % 128 * 128 ^ 9 ≤ 1 * 128 ^ 9 := Nat.mul_le_mul_right _ this
    rw [pow128_9] at *; omega

/-- What is read is what is written. -/
theorem getAux_inv : ∀ (l : List UInt8) (i n v k : Nat), n < 128 ^ i → i ≤ 9 → getAux i n l = (v, k, 0) →
    ∃ m j, k = i + j ∧ j ≤ l.length ∧ v = n + m * 128 ^ i ∧ putU m = l.take j ∧ (i = 0 ∨ 0 < m) ∧ v < 18446744073709551616
  | [], i, n, v, k, _, _, h => by simp [getAux] at h
  | x :: r, i, n, v, k, hn, hi, h => by
    have hx := x.toNat_lt
    by_cases h1 : (i = 9 ∧ 1 < x.toNat) ∨ (x.toNat = 0 ∧ 0 < i)
    · rw [getAux_form h1] at h; simp at h
    · by_cases h2 : x.toNat < 128
      · rw [getAux_last h1 h2] at h
        have hs := sum_lt hn hi (x := x.toNat) (by omega)
        injection h with ha hb; injection hb with hb _
        subst ha hb
        rw [Nat.mod_eq_of_lt h2] at hs ⊢
        refine ⟨x.toNat, 1, rfl, by simp, rfl, ?_, by omega, hs⟩
        rw [putU, if_pos h2]; simp
      · rw [getAux_step h1 h2] at h
        have hi8 : i ≤ 8 := by omega
        obtain ⟨m, j, rfl, hj, rfl, hp, h0, hlt⟩ := getAux_inv r (i + 1) _ v k (group_lt hn (Nat.mod_lt _ (by decide))) (by omega) h
        refine ⟨x.toNat % 128 + 128 * m, j + 1, by omega, by simp; omega, ?_, ?_, by omega, hlt⟩
        · rw [Nat.add_mul, Nat.pow_succ]
          have : m * (128 ^ i * 128) = 128 * m * 128 ^ i := by rw [Nat.mul_comm (128 ^ i) 128, ← Nat.mul_assoc, Nat.mul_comm m 128]
          omega
        · rw [putU, if_neg (by omega)]
          have e1 : (x.toNat % 128 + 128 * m) % 128 + 128 = x.toNat := by omega
          have e2 : (x.toNat % 128 + 128 * m) / 128 = m := by omega
          rw [e1, e2, hp]; simp
theorem getU_inv {l : List UInt8} {p : Int} {v : Nat} {x : Int} (h : getU l p = (v, x, 0)) :
    ∃ q k : Nat, p = q ∧ x = k ∧ q ≤ k ∧ k ≤ l.length ∧ putU v = (l.take k).drop q ∧ v < 18446744073709551616 := by
  rw [getU] at h
  split at h
  · simp at h
  · rename_i hp
    obtain ⟨q, rfl⟩ := Int.eq_ofNat_of_zero_le (by omega : 0 ≤ p)
    simp only [Int.toNat_natCast] at h
    cases hg : getAux 0 0 (l.drop q) with
    | mk n ke =>
      obtain ⟨k, e⟩ := ke
      rw [hg] at h
      cases e with
      | succ e => simp at h
      | zero =>
        simp only [Prod.mk.injEq, and_true] at h
        obtain ⟨rfl, rfl⟩ := h
        obtain ⟨m, j, rfl, hj, rfl, hp2, _, hlt⟩ := getAux_inv _ 0 0 n k (by decide) (by omega) hg
        rw [List.length_drop] at hj
        refine ⟨q, q + j, rfl, by omega, by omega, by omega, ?_, hlt⟩
        simp only [Nat.pow_zero, Nat.mul_one, Nat.zero_add]
        rw [hp2, List.drop_take]; congr 1; omega
theorem getU_err {l : List UInt8} {p : Int} (h : (getU l p).2.2 ≠ 0) : (getU l p).1 = 0 ∧ (getU l p).2.1 = 0 := by
  unfold getU at h ⊢
  split
  · simp
  · rename_i hp
    rw [if_neg hp] at h
    split at h
    · simp at h
    · simp
theorem getU_fits (l : List UInt8) (p : Int) : (getU l p).1 < 18446744073709551616 := by
  by_cases h : (getU l p).2.2 = 0
  · obtain ⟨_, _, _, _, _, _, _, h⟩ := getU_inv (l := l) (p := p) (v := (getU l p).1) (x := (getU l p).2.1) (by rw [← h])
    exact h
  · rw [(getU_err h).1]; decide

theorem putU_length : ∀ (f n : Nat), n < 128 ^ (f + 1) → (putU n).length ≤ f + 1
  | 0, n, h => by rw [putU, if_pos (by omega)]; simp
  | f + 1, n, h => by
    rw [putU]
    split
    · simp
    · have := putU_length f (n / 128) (Nat.div_lt_of_lt_mul (by rw [Nat.mul_comm, ← Nat.pow_succ]; exact h))
      simp; omega
theorem putU_le {n : Nat} (h : n < 2 ^ 64) : (putU n).length ≤ 10 := putU_length 9 n (Nat.lt_of_lt_of_le h (by decide))

end Go.Proofs.Ytaacnknniaipmaa

/-
  Plain functions on lists of bytes, for layer 1 (codec): bytes with an end are read back; numbers of eight bytes; frames; what stands next. Nothing here names the program or the model.
-/
namespace Go.Proofs.Ytaacnknniaipmaa

/-! ### What stands next -/
end Go.Proofs.Ytaacnknniaipmaa

/-
  Plain laws of lists: tuples of written lists, frames, numbers of eight bytes. No program in sight.
-/
namespace Go.Proofs.Ytaacnknniaipmaa

/-! ### Tuples -/

theorem take_getR {α : Type} {l : List α} {k : Nat} {b : α} (h : l[k]? = some b) : l.take (k + 1) = l.take k ++ [b] := by
  rw [List.take_add_one, h]; rfl
theorem flat_mem : ∀ {l : List (List UInt8)} {k : Nat} {x : List UInt8}, l[k]? = some x → x.length ≤ l.flatten.length
  | [], _, _, h => by simp at h
  | y :: l, 0, x, h => by
    simp only [List.getElem?_cons_zero, Option.some.injEq] at h
    subst h
    rw [List.flatten_cons, List.length_append]; omega
  | y :: l, k + 1, x, h => by
    simp only [List.getElem?_cons_succ] at h
    have := flat_mem h
    rw [List.flatten_cons, List.length_append]; omega
end Go.Proofs.Ytaacnknniaipmaa

/-
  Plain laws of frames. No program in sight.
-/
namespace Go.Proofs.Ytaacnknniaipmaa

def framed (l : List (List UInt8)) : List UInt8 := l.flatMap fun r => putU r.length ++ r
/-- The parts behind place q; out: those ahead of it. -/
def partsF : Nat → List UInt8 → Nat → List (List UInt8) → List (List UInt8) × Nat
  | 0, _, _, out => (out, 0)
  | f + 1, b, q, out =>
    if b.length ≤ q then (out, 0)
    else if (getU b q).2.2 = 0 then
      if b.length < (getU b q).2.1.toNat + (getU b q).1 then ([], 5)
      else partsF f b ((getU b q).2.1.toNat + (getU b q).1) (out ++ [(b.take ((getU b q).2.1.toNat + (getU b q).1)).drop (getU b q).2.1.toNat])
    else ([], (getU b q).2.2)
def parts (b : List UInt8) : List (List UInt8) × Nat := partsF b.length b 0 []

theorem putU_pos (n : Nat) : 0 < (putU n).length := by
  rw [putU]; split <;> simp
theorem getU_next {b : List UInt8} {q n : Nat} {x : Int} (h : getU b q = (n, x, 0)) : ∃ k : Nat, x = k ∧ q < k ∧ k ≤ b.length := by
  obtain ⟨q', k, hq, rfl, h1, h2, h3, _⟩ := getU_inv h
  obtain rfl : q = q' := by omega
  have := congrArg List.length h3
  have hp := putU_pos n
  refine ⟨k, rfl, ?_, h2⟩
  simp at this; omega
theorem partsF_end {f : Nat} {b : List UInt8} {q : Nat} {out : List (List UInt8)} (h : b.length ≤ q) : partsF f b q out = (out, 0) := by
  cases f with
  | zero => rfl
  | succ f => rw [partsF, if_pos h]
theorem partsF_err {f : Nat} {b : List UInt8} {q n e : Nat} {x : Int} {out : List (List UInt8)} (h : ¬ b.length ≤ q) (hu : getU b q = (n, x, e)) (he : ¬ e = 0) : partsF (f + 1) b q out = ([], e) := by
  rw [partsF, if_neg h, hu, if_neg he]
theorem partsF_short {f : Nat} {b : List UInt8} {q n k : Nat} {out : List (List UInt8)} (h : ¬ b.length ≤ q) (hu : getU b q = (n, (k : Int), 0)) (hs : b.length < k + n) : partsF (f + 1) b q out = ([], 5) := by
  rw [partsF, if_neg h, hu, if_pos rfl]
  simp only [Int.toNat_natCast]
  rw [if_pos hs]
theorem partsF_step {f : Nat} {b : List UInt8} {q n k : Nat} {out : List (List UInt8)} (h : ¬ b.length ≤ q) (hu : getU b q = (n, (k : Int), 0)) (hs : ¬ b.length < k + n) : partsF (f + 1) b q out = partsF f b (k + n) (out ++ [(b.take (k + n)).drop k]) := by
  rw [partsF, if_neg h, hu, if_pos rfl]
  simp only [Int.toNat_natCast]
  rw [if_neg hs]
/-- How much a list's parts hold, and what error there is. -/
theorem partsF_size : ∀ (f : Nat) (b : List UInt8) (q : Nat) (out : List (List UInt8)), q ≤ b.length → out.length + out.flatten.length ≤ q → (partsF f b q out).1.length + (partsF f b q out).1.flatten.length ≤ b.length
  | 0, b, q, out, hq, h => by simp only [partsF]; omega
  | f + 1, b, q, out, hq, h => by
    by_cases h1 : b.length ≤ q
    · rw [partsF_end h1]; exact Nat.le_trans h hq
    · obtain ⟨n, x, e, hu⟩ : ∃ n x e, getU b q = (n, x, e) := ⟨_, _, _, rfl⟩
      by_cases he : e = 0
      · subst he
        obtain ⟨k, rfl, h2, h3⟩ := getU_next hu
        by_cases hs : b.length < k + n
        · rw [partsF_short h1 hu hs]; simp
        · rw [partsF_step h1 hu hs]
          refine partsF_size f b _ _ (by omega) ?_
          simp only [List.flatten_append, List.flatten_cons, List.flatten_nil, List.length_append, List.length_cons, List.length_nil, List.length_drop, List.length_take]
          omega
      · rw [partsF_err h1 hu he]; simp
theorem framed_take {l : List (List UInt8)} {k : Nat} {x : List UInt8} (h : l[k]? = some x) : framed (l.take (k + 1)) = framed (l.take k) ++ putU x.length ++ x := by
  rw [take_getR h]; simp [framed]
theorem framed_length : ∀ (l : List (List UInt8)), (∀ r ∈ l, r.length < 2 ^ 64) → (framed l).length ≤ l.flatten.length + 10 * l.length
  | [], _ => by simp [framed]
  | x :: l, h => by
    have h1 := framed_length l (fun r hr => h r (by simp [hr]))
    have h2 := putU_le (h x (by simp))
    simp only [framed, List.flatMap_cons, List.length_append, List.flatten_cons, List.length_cons] at h1 ⊢
    omega
theorem framed_take_le (l : List (List UInt8)) (k : Nat) : (framed (l.take k)).length ≤ (framed l).length := by
  have : framed l = framed (l.take k) ++ framed (l.drop k) := by
    rw [framed, framed, framed, ← List.flatMap_append, List.take_append_drop]
  rw [this, List.length_append]; omega
theorem mem_flat {l : List (List UInt8)} {x : List UInt8} (h : x ∈ l) : x.length ≤ l.flatten.length := by
  obtain ⟨k, hk, rfl⟩ := List.getElem_of_mem h
  exact flat_mem (List.getElem?_eq_getElem hk)
end Go.Proofs.Ytaacnknniaipmaa

/-
  Numbers and parts as plain data, read out of frames one after the other. No program in sight.
-/
namespace Go.Proofs.Ytaacnknniaipmaa

abbrev By := List UInt8
/-- An int as 64 bits, and back. -/
def uI (n : Int) : Nat := (n % 18446744073709551616).toNat
def iU (w : Nat) : Int := if (w : Int) < 9223372036854775808 then w else (w : Int) - 18446744073709551616
theorem uI_lt (n : Int) : uI n < 2 ^ 64 := by unfold uI; omega
def wordsB (l : List Nat) : By := l.flatMap putU
def intsB (l : List Int) : By := wordsB (l.map uI)
def tI (b : Bool) : Int := if b then 1 else 0
/-- The parts of a frame that are left, and the first error. -/
abbrev Rd1 := List By × Nat
def nextR (r : Rd1) : By × Rd1 := if r.2 = 0 then (match r.1 with
  | [] => ([], ([], 3))
  | p :: ps => (p, (ps, 0))) else ([], r)
/-- A frame within. -/
def inR (s : Rd1) (y : Rd1) : Rd1 := (s.1, if y.2 = 0 ∧ y.1 ≠ [] then 3 else y.2)
def withinR {α : Type} (z : α) (take : Rd1 → α × Rd1) (r : Rd1) : α × Rd1 :=
  if (nextR r).2.2 = 0 then ((take (parts (nextR r).1)).1, inR (nextR r).2 (take (parts (nextR r).1)).2) else (z, (nextR r).2)
end Go.Proofs.Ytaacnknniaipmaa

/-
  Plain laws of numbers written in eight bytes, the greatest first. No program in sight.
-/
namespace Go.Proofs.Ytaacnknniaipmaa

end Go.Proofs.Ytaacnknniaipmaa

/-
  Plain laws of the sum: what a step of the division does, that it keeps differences, and that no change within 32 bits of one another goes unseen. No program in sight.
-/
namespace Go.Proofs.Ytaacnknniaipmaa

/-- Bytes as one number, the lowest first. -/
def low : List UInt8 → Nat
  | [] => 0
  | b :: l => low l * 256 + b.toNat
end Go.Proofs.Ytaacnknniaipmaa

/-
  Plain laws of sealed records. No program in sight.
-/
namespace Go.Proofs.Ytaacnknniaipmaa

end Go.Proofs.Ytaacnknniaipmaa

/-
  Packets as plain data: how they are written and read. No program in sight.
-/
namespace Go.Proofs.Ytaacnknniaipmaa

structure MsgM where
  kind : Int
  fr : Int
  to : Int
  term : Nat
  ix : Nat
  lt : Nat
  cm : Nat
  ents : List (Nat × By)
  ok : Bool
  data : By
abbrev PairM := By × By
structure WrM where
  key : By
  val : By
  gone : Bool
structure ResM where
  err : Int
  status : Int
  ts : Nat
  pairs : List PairM
  commit : Bool
  rts : Nat
  writes : List WrM
  reply : By
structure PkM where
  kind : Int
  fr : Int
  to : Int
  shard : Int
  round : Int
  cmd : Int
  lead : Int
  tx : Nat × Nat
  code : Int
  msg : MsgM
  res : ResM
  data : By
def zMsg : MsgM := ⟨0, 0, 0, 0, 0, 0, 0, [], false, []⟩
def zRes : ResM := ⟨0, 0, 0, [], false, 0, [], []⟩
def zPk : PkM := ⟨0, 0, 0, 0, 0, 0, 0, (0, 0), 0, zMsg, zRes, []⟩

def pairB (p : PairM) : List By := [p.1, p.2]
def wrB (w : WrM) : List By := [intsB [tI w.gone], w.key, w.val]

/-! #### Reading -/

/-! #### What is written is read back -/
end Go.Proofs.Ytaacnknniaipmaa

/-
  What is read is what was written: packets as plain data. No program in sight.
-/
namespace Go.Proofs.Ytaacnknniaipmaa

theorem next_le (r : Rd1) : (nextR r).2.1.length ≤ r.1.length := by
  unfold nextR
  split
  · cases hq : r.1 <;> simp
  · exact Nat.le_refl _
end Go.Proofs.Ytaacnknniaipmaa

/-
  Reading packets: behind writing, and of any bytes. No program in sight.
-/
namespace Go.Proofs.Ytaacnknniaipmaa

/-! #### The errors -/
end Go.Proofs.Ytaacnknniaipmaa
