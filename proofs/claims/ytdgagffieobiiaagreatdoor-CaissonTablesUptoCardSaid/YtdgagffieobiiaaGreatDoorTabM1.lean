/-
  The texts of this proof, joined: Lib, Eng, Mem, Arr, St, Sr, Ge, Ta, Str, Gf, Num, Ty, Args, Op, Pa.
-/
import Derived.WalkKit
import Derived.WalkSpells
import Derived.WalkLawsBesides
import Derived.Maps.AppendAt
import Derived.Deep.AppendLies
import Derived.Lib.Hide
import Derived.Deep.LoopGhost
import Derived.Deep.QuietTactic
import Derived.BigQuiet
import Derived.Laws.MakeOwn
import Derived.Laws.OwnMore
import Derived.Laws.Rows
import Derived.Laws.Tables
import Derived.Lib.Builder
import Derived.Laws.Build
import Derived.Stop.IfaceNil
import Derived.Deep.MidRow
import Derived.Lib.DecodeN
import Derived.Lib.RuneBytes
import Derived.Laws.IdiomStrings
import Derived.Laws.Cover4
import Derived.Lib.OthersKept
import Derived.Lib.AppendStr
import Derived.Test.YtdgagffieobiiaaGreatDoorRows
import Derived.ProofKit
import Derived.OpenShut
import Derived.JoinedCond
import Derived.SizedLaws
import Derived.Deep.Matrix
import Derived.Carry
import Derived.Deep.Slices
import Derived.ChangeMaps5

/-
  The words for memory that all walks of this seat use: a slice that reads as a list of values, a slice that the call owns, and the laws of append and make over them. Nothing here names the program.
-/
namespace Go.Proofs.YtdgagffieobiiaaGreatDoor
open Go.RowKit

/-- A byte as a value of the model. -/
def bv (x : UInt8) : Value := .int .u8 (x.toNat : Int)
/-- Bytes as the cells of a row. -/
def bvs (xs : List UInt8) : List Value := xs.map bv
theorem bvs_length (xs : List UInt8) : (bvs xs).length = xs.length := by simp [bvs]
theorem bvs_append (xs ys : List UInt8) : bvs (xs ++ ys) = bvs xs ++ bvs ys := by simp [bvs]
theorem bvs_get (xs : List UInt8) (k : Nat) (h : k < xs.length) : (bvs xs)[k]? = some (bv xs[k]) := by simp [bvs, h]
theorem bvs_one (xs : List UInt8) : ∀ u ∈ bvs xs, u.oneCell' = true := by
  intro u hu; simp [bvs] at hu; obtain ⟨x, _, rfl⟩ := hu; rfl

/-- The slice at address A reads as the n values xs (nil is let in where there are none). -/
def Rd (w : World) (A : Option Addr) (n : Nat) (xs : List Value) : Prop :=
  xs.length = n ∧ (0 < n → ∃ b o, A = some ⟨b, o, none⟩ ∧ b < w.heap.size ∧ ∀ j u, xs[j]? = some u → w.cell? ⟨b, o + j, none⟩ = some u)

/-- The slice at address A, with capacity c, is a row of the call's own, from block base on, and holds the n values xs. -/
def Ow (w : World) (base : Nat) (e : TypeId) (A : Option Addr) (n c : Nat) (xs : List Value) : Prop :=
  w.ownsRow base e 1 (.slice A n c) n xs

section
variable {w w' : World} {A : Option Addr} {n c base : Nat} {e : TypeId} {xs : List Value}

theorem Rd.nil (w : World) (A : Option Addr) : Rd w A 0 [] := ⟨rfl, fun h => by simp at h⟩

theorem Rd.keep (h : Rd w A n xs) (hs : w.heap.size ≤ w'.heap.size) (hk : ∀ k, k < w.heap.size → w'.heap[k]? = w.heap[k]?) : Rd w' A n xs := ⟨h.1, fun hn => by
  obtain ⟨b, o, hA, hb, hc⟩ := h.2 hn
  exact ⟨b, o, hA, by omega, fun j u hu => (World.cell?_of_block (a := ⟨b, o + j, none⟩) (hk b hb)).trans (hc j u hu)⟩⟩

theorem Rd.below (h : Rd w A n xs) (hb : Below w.heap.size w w') : Rd w' A n xs := h.keep hb.size hb.block
theorem Rd.alloc (h : Rd w A n xs) (o : Obj) : Rd (w.alloc o) A n xs := h.keep (by simp) (fun k hk => Below.heap_alloc _ _ _ hk)
theorem Rd.drew (h : Rd w A n xs) : Rd w.drew A n xs := h

theorem Rd.at (h : Rd w A n xs) {k : Nat} (hk : k < n) : ∃ b o u, A = some ⟨b, o, none⟩ ∧ xs[k]? = some u ∧ w.cell? ⟨b, o + k, none⟩ = some u := by
  obtain ⟨b, o, hA, _, hc⟩ := h.2 (by omega)
  have hl : k < xs.length := by have := h.1; omega
  exact ⟨b, o, xs[k], hA, List.getElem?_eq_getElem hl, hc k _ (List.getElem?_eq_getElem hl)⟩

theorem Rd.new (w : World) (cs : Array Value) (e : TypeId) : Rd (w.alloc (.cells cs e)) (some ⟨w.heap.size, 0, none⟩) cs.size cs.toList :=
  ⟨by simp, fun _ => ⟨w.heap.size, 0, rfl, by simp, fun j u hu => by
    rw [cell_of_row _ _ _ cs e (0, 0) (heap_alloc_new w _)]
    simpa using hu⟩⟩

theorem Ow.len (h : Ow w base e A n c xs) : xs.length = n := by simpa using h.1
theorem Ow.nil (w : World) (base : Nat) (e : TypeId) : Ow w base e none 0 0 [] := World.ownsRow_nil w base e 1
theorem Ow.rd (h : Ow w base e A n c xs) : Rd w A n xs := ⟨h.len, fun hn => by
  obtain ⟨g, cap, hv, _, hlt⟩ := World.ownsRow.form h hn
  injection hv with hA
  subst hA
  have hc := World.ownsRow.cells h (g := g) rfl
  refine ⟨g, 0, rfl, hlt, fun j u hu => ?_⟩
  have := hc j u hu
  simpa [Addr.add_lit] using this⟩
theorem Ow.alloc (h : Ow w base e A n c xs) (o : Obj) : Ow (w.alloc o) base e A n c xs := World.ownsRow.alloc h o
theorem Ow.below {B : Nat} (h : Ow w base e A n c xs) (hb : Below B w w') (hB : w.heap.size ≤ B) : Ow w' base e A n c xs :=
  World.ownsRow.kept (row := none) h ⟨hb.os, hb.tape, hb.output, hb.size, fun k hk _ => hb.block k (by omega)⟩ (by
    cases (Value.slice A n c).ownBlock <;> simp)
theorem Ow.mono {base' : Nat} (h : Ow w base e A n c xs) (hb : base' ≤ base) : Ow w base' e A n c xs := by
  refine ⟨h.1, ?_⟩
  rcases h.2 with hn | ⟨g, cap, cur, hv, hg, rest⟩
  · exact .inl hn
  · exact .inr ⟨g, cap, cur, hv, Nat.le_trans hb hg, rest⟩

/-- append onto a row of the call's own, whatever the source. -/
theorem wpList_app {P : Program} {ops : Array Oper} {rest : List Oper} {o : Oper} {a : Act} {Q : Exit → Act → World → Prop} (hgd : o.guard = none) (s x : Operand) (t : TypeId)
    (ho : o.op = .call { callee := .builtin .append, args := #[s, x], argTypes := #[t, t] }) {z : Value} {bytes : Nat} (ht : P.underlying t = some (.slice e))
    (hi : (P.info? e).map (fun i => (i.zero, i.size, i.bytes)) = some (some z, 1, bytes)) (hzs : z.cells.size = 1)
    (hs : a.eval s = .slice A n c) (hown : Ow w base e A n c xs) {B : Option Addr} {m d : Nat} {ys : List Value} (hx : a.eval x = .slice B m d) (hr : Rd w B m ys) (h1 : ∀ u ∈ ys, u.oneCell' = true)
    (hbytes : (n + m) * bytes ≤ 140737488355328) (hmax : n + m ≤ maxLen) (hbase : base ≤ w.heap.size)
    (h : ∀ A' c' w', Ow w' base e A' (n + m) c' (xs ++ ys) → w.grownBy w' (Value.slice A n c).ownBlock → (A'.map (·.block) = A.map (·.block) ∨ A'.map (·.block) = some w.heap.size) → wpList P ops Q rest (a.put o.dst (.slice A' (n + m) c')) w') : wpList P ops Q (o :: rest) a w := by
  obtain ⟨i, hi0, hz, hs1, hby⟩ := info_parts hi
  have hob : ∀ (A : Option Addr) n c, (Value.slice A n c).ownBlock = A.map (·.block) := fun A _ _ => by cases A <;> rfl
  have hfin : ∀ v' w', w'.ownsRow base e 1 v' (n + m) (xs ++ ys) → w.grownBy w' (Value.slice A n c).ownBlock → (v'.ownBlock = (Value.slice A n c).ownBlock ∨ v'.ownBlock = some w.heap.size) →
      wpList P ops Q rest (a.put o.dst v') w' := by
    intro v' w' h2 h3 h4
    rcases h2.2 with ⟨rfl, h0⟩ | ⟨g, cap, cur, rfl, _⟩
    · have := h none 0 w' (by rw [h0] at h2 ⊢; exact h2) h3 (by simpa only [hob] using h4)
      rw [h0] at this
      exact this
    · exact h _ _ w' h2 h3 (by simpa only [hob] using h4)
  rcases B with _ | ad
  · have hm : m = 0 := by
      rcases Nat.eq_zero_or_pos m with h0 | h0
      · exact h0
      · obtain ⟨_, _, h, _⟩ := hr.2 h0; cases h
    subst hm
    have hn : ys = [] := List.eq_nil_of_length_eq_zero hr.1
    subst hn
    have hrun : (Builtin.append_ #[t, t] o.type #[.slice A n c, .slice none 0 d]).run P w = .ok (.slice A n c) w := by
      rcases hown.2 with ⟨hv, hn0⟩ | ⟨g, cap, cur, hv, _, _, hnc, _⟩
      · injection hv with hA hn hc; subst hA hn0 hc
        simp [Builtin.append_, run_underlying ht, sizeOf, typeInfo, hi0, Builtin.lenOf, Builtin.firstCells]
      · injection hv with hA hn hc; subst hA hc
        simp [Builtin.append_, run_underlying ht, sizeOf, typeInfo, hi0, Builtin.lenOf, Builtin.firstCells, hnc, storeCells]
    refine wpList_plain hgd fun K hK => ?_
    unfold Oper.wp execOp
    simp only [ho, resolve, invoke, builtin, Sem.run_bind, Sem.run_pure, Result.andThen_ok, List.map_toArray, List.map_cons, List.map_nil, hs, hx, hrun]
    refine hK _ _ (hfin _ _ (by rw [List.append_nil]; exact hown) ⟨rfl, rfl, rfl, Nat.le_refl _, fun _ _ _ => rfl⟩ (.inl rfl))
  · by_cases h0 : 0 < m
    · obtain ⟨b, of, hA, _, hc⟩ := hr.2 h0
      injection hA with hA
      subst hA
      exact wpList_append_own_at w hgd s x t ho base e i z 1 bytes ht hi0 hz hs1 hby hzs (by decide) _ n xs hs hown _ m d ys hx (by simpa using hr.1)
        (fun j u hu => by rw [Addr.add_lit]; exact hc j u hu) h1 hmax hbytes hbase fun v' w' h2 h3 _ h4 => hfin v' w' h2 h3 h4
    · have hm : m = 0 := by omega
      subst hm
      have hn : ys = [] := List.eq_nil_of_length_eq_zero hr.1
      subst hn
      exact wpList_append_own_at w hgd s x t ho base e i z 1 bytes ht hi0 hz hs1 hby hzs (by decide) _ n xs hs hown ad 0 d [] hx (by simp)
        (fun j u hu => by simp at hu) h1 hmax hbytes hbase fun v' w' h2 h3 _ h4 => hfin v' w' h2 h3 h4
end
end Go.Proofs.YtdgagffieobiiaaGreatDoor

/-
  An engine for walks: the frame of a Go function is told by a short list of slots and values, and each kind of code and of operation has one rule. Nothing here names the program.
-/
namespace Go.Proofs.YtdgagffieobiiaaGreatDoor
open Go.RowKit

/-- What is known of the frame's slots; the newest entry of a slot counts. -/
abbrev FL := List (Nat × Value)
def lookT : FL → Nat → Option Value
  | [], _ => none
  | (i, v) :: L, t => cond (Nat.beq i t) (some v) (lookT L t)
def look (L : FL) : Operand → Option Value
  | .tmp t => lookT L t
  | .const v => some v
  | .global g => some (.pointer (some ⟨g, 0, none⟩))
  | .func f => some (.func (.func f) #[] #[])
/-- All slots of the one list are known, with these values, in the other. -/
def Sub : FL → FL → Prop
  | [], _ => True
  | (i, v) :: L, M => lookT M i = some v ∧ Sub L M
def numb : Nat → List Value → FL
  | _, [] => []
  | k, v :: vs => (k, v) :: numb (k + 1) vs

structure Has (N : Nat) (a : Act) (L : FL) : Prop where
  nodefer : a.defers = []
  size : a.tmps.size = N
  get : ∀ t v, lookT L t = some v → a.tmps.getD t undef = v

theorem lookT_cons {i t : Nat} {v u : Value} {L : FL} (h : lookT ((i, v) :: L) t = some u) : (i = t ∧ u = v) ∨ (i ≠ t ∧ lookT L t = some u) := by
  unfold lookT at h
  cases hb : Nat.beq i t with
  | true => rw [hb] at h; exact .inl ⟨Nat.eq_of_beq_eq_true hb, by simpa using h.symm⟩
  | false => rw [hb] at h; exact .inr ⟨Nat.ne_of_beq_eq_false hb, h⟩

section
variable {N : Nat} {a : Act} {L M : FL}
theorem Has.eval (h : Has N a L) {x : Operand} {v : Value} (hx : look L x = some v) : a.eval x = v := by
  cases x with
  | tmp t => exact h.get t v hx
  | const c => simpa [look, Act.eval] using hx
  | global g => simpa [look, Act.eval] using hx
  | func f => simpa [look, Act.eval] using hx
theorem Has.sub (h : Has N a L) (hs : Sub M L) : Has N a M := by
  refine ⟨h.nodefer, h.size, ?_⟩
  intro t v ht
  have : lookT L t = some v := by
    clear h
    induction M with
    | nil => simp [lookT] at ht
    | cons p M ih =>
      obtain ⟨i, u⟩ := p
      rcases lookT_cons ht with ⟨rfl, rfl⟩ | ⟨_, h⟩
      · exact hs.1
      · exact ih hs.2 h
  exact h.get t v this
theorem Has.put (h : Has N a L) {d : Nat} (hd : Nat.blt d N = true) (v : Value) : Has N (a.put (some d) v) ((d, v) :: L) := by
  have hd' : d < a.tmps.size := by rw [h.size]; simpa [Nat.blt_eq] using hd
  refine ⟨h.nodefer, by simpa [Act.put] using h.size, ?_⟩
  intro t u ht
  rcases lookT_cons ht with ⟨rfl, rfl⟩ | ⟨hne, h'⟩
  · simp [Act.put, hd']
  · have := h.get t u h'
    simpa [Act.put, Array.getElem?_setIfInBounds, hne] using this
end

/-- Code, a region's operations, and the end of a piece of code, from a frame that is known so far. -/
def WC (P : Program) (N : Nat) (c : Code) (Q : Exit → Act → World → Prop) (L : FL) (w : World) : Prop := ∀ a, Has N a L → c.wp P Q a w
def WL (P : Program) (N : Nat) (ops : Array Oper) (Q : Exit → Act → World → Prop) (l : List Oper) (L : FL) (w : World) : Prop := ∀ a, Has N a L → wpList P ops Q l a w
def WE (N : Nat) (Q : Exit → Act → World → Prop) (e : Exit) (L : FL) (w : World) : Prop := ∀ a, Has N a L → Q e a w

/-- A call that hands back a value. -/
def CallsV (P : Program) (f : FuncId) (args : Array Value) (w : World) (R : Value → World → Prop) : Prop :=
  Calls P f args w fun e w' => ∃ v, e = .returned v ∧ R v w'
theorem CallsV.mono {P : Program} {f : FuncId} {args : Array Value} {w : World} {R R' : Value → World → Prop} (h : CallsV P f args w R) (hr : ∀ v w', R v w' → R' v w') : CallsV P f args w R' :=
  Calls.mono h fun _ w' ⟨v, he, h⟩ => ⟨v, he, hr v w' h⟩

theorem bT {p : Prop} {_ : Decidable p} (h : p) : decide p = true := decide_eq_true h
theorem bF {p : Prop} {_ : Decidable p} (h : ¬ p) : decide p = false := decide_eq_false h
theorem bTn {p : Prop} {_ : Decidable p} (h : p) : decide p = !false := decide_eq_true h
theorem bFn {p : Prop} {_ : Decidable p} (h : ¬ p) : decide p = !true := decide_eq_false h
theorem nne {α : Sort _} {a : α} : ¬ (a ≠ a) := fun h => h rfl
theorem bR1 : true = !false := rfl
theorem bR2 : false = !true := rfl
section control
variable {P : Program} {N : Nat} {Q : Exit → Act → World → Prop} {L : FL} {w : World}

theorem wc_skip (h : WE N Q .normal L w) : WC P N .skip Q L w := fun a ha => wp_skip (h a ha)
/-- What must hold at the end of the first of two pieces of code. -/
def SeqQ (P : Program) (y : Code) (Q : Exit → Act → World → Prop) : Exit → Act → World → Prop := Exit.then (y.wp P Q) Q
theorem wc_seq {x y : Code} (h : WC P N x (SeqQ P y Q) L w) : WC P N (.seq x y) Q L w := fun a ha => wp_seq (h a ha)
theorem wc_block {id : Nat} {c : Code} (h : WC P N c (Exit.inBlock id Q) L w) : WC P N (.block id c) Q L w := fun a ha => wp_block (h a ha)
theorem wc_exit {id : Nat} (h : WE N Q (.exit id) L w) : WC P N (.exit id) Q L w := fun a ha => wp_exit (h a ha)
theorem wc_ret (h : WE N Q .ret L w) : WC P N .ret Q L w := fun a ha => wp_ret (h a ha)
theorem wc_cond {c : Operand} {x y : Code} {p : Prop} [Decidable p] (hc : look L c = some (.bool (decide p))) (ht : p → WC P N x Q L w) (hf : ¬ p → WC P N y Q L w) : WC P N (.cond c x y) Q L w :=
  fun a ha => wp_cond_split (ha.eval hc) (fun h => ht (of_decide_eq_true h) a ha) (fun h => hf (of_decide_eq_false h) a ha)
theorem wc_condB {c : Operand} {x y : Code} {t : Bool} (hc : look L c = some (.bool t)) (ht : t = true → WC P N x Q L w) (hf : t = false → WC P N y Q L w) : WC P N (.cond c x y) Q L w :=
  fun a ha => wp_cond_split (ha.eval hc) (fun h => ht h a ha) (fun h => hf h a ha)
theorem wc_condF {c : Operand} {x y : Code} (hc : look L c = some (.bool false)) (ht : WC P N y Q L w) : WC P N (.cond c x y) Q L w :=
  fun a ha => wp_cond_false (ha.eval hc) (ht a ha)
theorem wc_decT {c : Operand} {x y : Code} {p : Prop} {_ : Decidable p} (hc : look L c = some (.bool (decide p))) (hp : p) (h : WC P N x Q L w) : WC P N (.cond c x y) Q L w :=
  fun a ha => wp_cond_true ((ha.eval hc).trans (by rw [decide_eq_true hp])) (h a ha)
theorem wc_decF {c : Operand} {x y : Code} {p : Prop} {_ : Decidable p} (hc : look L c = some (.bool (decide p))) (hp : ¬ p) (h : WC P N y Q L w) : WC P N (.cond c x y) Q L w :=
  fun a ha => wp_cond_false ((ha.eval hc).trans (by rw [decide_eq_false hp])) (h a ha)
theorem wc_condTb {c : Operand} {x y : Code} {b : Bool} (hc : look L c = some (.bool b)) (hb : b = true) (h : WC P N x Q L w) : WC P N (.cond c x y) Q L w :=
  fun a ha => wp_cond_true ((ha.eval hc).trans (by rw [hb])) (h a ha)
theorem wc_condFb {c : Operand} {x y : Code} {b : Bool} (hc : look L c = some (.bool b)) (hb : b = false) (h : WC P N y Q L w) : WC P N (.cond c x y) Q L w :=
  fun a ha => wp_cond_false ((ha.eval hc).trans (by rw [hb])) (h a ha)
theorem wc_region {id : Nat} {l : List Oper} (h : WL P N l.toArray Q l L w) : WC P N (.region id l.toArray false) Q L w := fun a ha => wp_region_lit (h a ha)

/-- What a loop's round hands on. -/
def LoopK (N : Nat) (I : FL → World → Nat → Prop) (m : Nat) : Act → World → Prop := fun a w => ∃ m', m' < m ∧ ∃ L, I L w m' ∧ Has N a L
def LoopQ (N : Nat) (I : FL → World → Nat → Prop) (m : Nat) (Q : Exit → Act → World → Prop) : Exit → Act → World → Prop := Exit.then (LoopK N I m) Q
theorem wc_loop {c : Code} (I : FL → World → Nat → Prop) (L0 : FL) (m0 : Nat) (h0 : I L0 w m0) (hs : Sub L0 L)
    (round : ∀ L w m, I L w m → WC P N c (LoopQ N I m Q) L w) : WC P N (.loop c) Q L w := fun a ha =>
  wp_loop_ghost (fun m a w => ∃ L, I L w m ∧ Has N a L) m0 ⟨L0, h0, ha.sub hs⟩ fun m a' w' ⟨L', hI, ha'⟩ => round L' w' m hI a' ha'
/-- What is known where ways meet. -/
def CutK (N : Nat) (J : FL → World → Prop) : Act → World → Prop := fun a w => ∃ L, J L w ∧ Has N a L
def CutQ (N : Nat) (J : FL → World → Prop) (Q : Exit → Act → World → Prop) : Exit → Act → World → Prop := Exit.then (CutK N J) Q
/-- The same ahead of the end of a piece of code. -/
theorem wc_cutE {x : Code} (J : FL → World → Prop) (hx : WC P N x (CutQ N J Q) L w) (hy : ∀ L w, J L w → WE N Q .normal L w) : WC P N x Q L w := fun a ha =>
  wp_mono (hx a ha) fun e a' w' h => by
    cases e with
    | normal => obtain ⟨L', hJ, ha'⟩ := h; exact hy L' w' hJ a' ha'
    | _ => exact h

theorem we_seq {y : Code} (h : WC P N y Q L w) : WE N (SeqQ P y Q) .normal L w := h
theorem we_seq_exit {y : Code} {id : Nat} (h : WE N Q (.exit id) L w) : WE N (SeqQ P y Q) (.exit id) L w := h
theorem we_seq_ret {y : Code} (h : WE N Q .ret L w) : WE N (SeqQ P y Q) .ret L w := h
theorem we_loop_exit {I : FL → World → Nat → Prop} {m id : Nat} (h : WE N Q (.exit id) L w) : WE N (LoopQ N I m Q) (.exit id) L w := h
theorem we_loop_ret {I : FL → World → Nat → Prop} {m : Nat} (h : WE N Q .ret L w) : WE N (LoopQ N I m Q) .ret L w := h
theorem we_loop {I : FL → World → Nat → Prop} {m : Nat} (M : FL) (m' : Nat) (hI : I M w m') (hm : m' < m) (hs : Sub M L) : WE N (LoopQ N I m Q) .normal L w :=
  fun _ ha => ⟨m', hm, M, hI, ha.sub hs⟩
theorem we_cut {J : FL → World → Prop} (M : FL) (hJ : J M w) (hs : Sub M L) : WE N (CutQ N J Q) .normal L w := fun _ ha => ⟨M, hJ, ha.sub hs⟩
theorem we_block_norm {id : Nat} (h : WE N Q .normal L w) : WE N (Exit.inBlock id Q) .normal L w := h
theorem we_block_ret {id : Nat} (h : WE N Q .ret L w) : WE N (Exit.inBlock id Q) .ret L w := h
theorem we_block_exit {id : Nat} (h : WE N Q .normal L w) : WE N (Exit.inBlock id Q) (.exit id) L w := fun a ha => by
  simp only [Exit.inBlock, if_true]; exact h a ha

theorem we_end0 {fn : Func} {R : Ending → World → Prop} (hr : fn.results = #[]) (h : R (.returned (.tuple #[])) w) : WE N (bodyPost P fn R) .normal L w := fun a ha =>
  ⟨ha.nodefer, _, results_none hr a.tmps P w, h⟩
theorem we_ret1 {fn : Func} {R : Ending → World → Prop} {t : Nat} {v : Value} (hr : fn.results = #[.tmp t]) (hx : lookT L t = some v) (h : R (.returned v) w) : WE N (bodyPost P fn R) .ret L w := fun a ha =>
  ⟨ha.nodefer, v, by rw [results_tmp hr a.tmps P w, ha.get t v hx], h⟩
theorem we_ret2 {fn : Func} {R : Ending → World → Prop} {t1 t2 : Nat} {v1 v2 : Value} (hr : fn.results = #[.tmp t1, .tmp t2]) (h1 : lookT L t1 = some v1) (h2 : lookT L t2 = some v2)
    (h : R (.returned (.tuple #[v1, v2])) w) : WE N (bodyPost P fn R) .ret L w := fun a ha =>
  ⟨ha.nodefer, _, by rw [results_tmp2 hr a.tmps P w, ha.get t1 v1 h1, ha.get t2 v2 h2], h⟩
theorem results_tmp3' {fn : Func} {t u s : Tmp} (h : fn.results = #[.tmp t, .tmp u, .tmp s]) (tmps : Array Value) (P : Program) (w : World) :
    (results fn tmps).run P w = .ok (.tuple #[tmps.getD t undef, tmps.getD u undef, tmps.getD s undef]) w := by
  simp [results, h]
theorem we_ret3 {fn : Func} {R : Ending → World → Prop} {t1 t2 t3 : Nat} {v1 v2 v3 : Value} (hr : fn.results = #[.tmp t1, .tmp t2, .tmp t3]) (h1 : lookT L t1 = some v1) (h2 : lookT L t2 = some v2) (h3 : lookT L t3 = some v3)
    (h : R (.returned (.tuple #[v1, v2, v3])) w) : WE N (bodyPost P fn R) .ret L w := fun a ha =>
  ⟨ha.nodefer, _, by rw [results_tmp3' hr a.tmps P w, ha.get t1 v1 h1, ha.get t2 v2 h2, ha.get t3 v3 h3], h⟩

theorem lookT_numb (vs : List Value) : ∀ k t v, lookT (numb k vs) t = some v → k ≤ t ∧ vs[t - k]? = some v := by
  induction vs with
  | nil => intro k t v h; simp [numb, lookT] at h
  | cons x vs ih =>
    intro k t v h
    rcases lookT_cons h with ⟨rfl, rfl⟩ | ⟨_, h⟩
    · simp
    · obtain ⟨h1, h2⟩ := ih _ _ _ h
      refine ⟨by omega, ?_⟩
      have : t - k = (t - (k + 1)) + 1 := by omega
      rw [this]; simpa using h2

/-- A function's body. -/
theorem calls_in {f : FuncId} {fn : Func} {c : Code} {args : List Value} {R : Value → World → Prop} (hf : P.funcs[f]? = some fn) (hb : fn.body = some c) (hN : fn.ntmps = N) (hle : Nat.ble args.length N = true)
    (h : WC P N c (bodyPost P fn fun e w' => ∃ v, e = .returned v ∧ R v w') (numb 0 args) w) : CallsV P f args.toArray w R := by
  refine calls_of_wp hf hb (h _ ⟨rfl, ?_, ?_⟩)
  · have := Nat.le_of_ble_eq_true hle
    simp [hN]; omega
  · intro t v ht
    obtain ⟨_, h2⟩ := lookT_numb args 0 t v ht
    simp only [Nat.sub_zero] at h2
    have hlt : t < args.length := by
      rcases Nat.lt_or_ge t args.length with h | h
      · exact h
      · rw [List.getElem?_eq_none h] at h2; cases h2
    rw [List.getElem?_eq_getElem hlt] at h2
    simp [Array.getElem?_append, hlt]
    simpa using h2
end control

/-! ### Operations -/
theorem upon_mono {P : Program} {o : Oper} {a : Act} {K K' : Act → World → Prop} {Q Q' : Exit → Act → World → Prop} (hK : ∀ a w, K a w → K' a w) (hQ : ∀ e a w, e ≠ .normal → Q e a w → Q' e a w) {r : Result Next}
    (h : o.upon P a K Q r) : o.upon P a K' Q' r := by
  cases r with
  | ok n w =>
    cases n with
    | value v => exact hK _ _ h
    | skip => exact hK _ _ h
    | defer d => exact hK _ _ h
    | enter f args =>
      refine Calls.mono (show Calls P f args w _ from h) fun e w' h => ?_
      cases e with
      | returned v => exact hK _ _ h
      | panicked c => exact hQ _ _ _ (by simp) h
      | outgrown => obtain ⟨a0, w0, h⟩ := h; exact ⟨a0, w0, hQ _ _ _ (by simp) h⟩
    | row r args => exact Rows.mono (show Rows P r args w _ from h) fun v w' h => hK _ _ h
    | _ => exact h
  | halt x w =>
    cases x with
    | panic v => exact hQ _ _ _ (by simp) h
    | _ => exact h
theorem wpList_append {P : Program} {ops : Array Oper} {Q Q' : Exit → Act → World → Prop} {l2 : List Oper} (h2 : ∀ a w, Q .normal a w → wpList P ops Q' l2 a w) (hQ : ∀ e a w, e ≠ .normal → Q e a w → Q' e a w) :
    ∀ (l1 : List Oper) (a : Act) (w : World), wpList P ops Q l1 a w → wpList P ops Q' (l1 ++ l2) a w
  | [], a, w, h => h2 a w h
  | o :: l1, a, w, h => by
    have ih := wpList_append (P := P) (ops := ops) h2 hQ l1
    simp only [List.cons_append]
    unfold wpList at h ⊢
    split at h
    · rename_i hw
      rw [if_pos hw]
      rcases h with h | ⟨ha, a0, w0, h⟩
      · exact .inl (upon_mono ih hQ h)
      · exact .inr ⟨ha, a0, w0, hQ _ _ _ (by simp) h⟩
    · rename_i hw
      rw [if_neg hw]
      exact ih _ _ h

/-- Operation op, its operands read by L, yields the value v and leaves the world w'. -/
def OpV (P : Program) (op : Op) (ty : TypeId) (L : FL) (w : World) (v : Value) (w' : World) : Prop :=
  ∀ (ρ : Operand → Value) (o : Oper), (∀ x u, look L x = some u → ρ x = u) → o.op = op → o.type = ty → (execOp ρ o).run P w = .ok (.value v) w'
def OpU (P : Program) (op : Op) (ty : TypeId) (L : FL) (w : World) (w' : World) : Prop :=
  ∀ (ρ : Operand → Value) (o : Oper), (∀ x u, look L x = some u → ρ x = u) → o.op = op → o.type = ty → (execOp ρ o).run P w = .ok .skip w'
def CallOk (P : Program) (f : FuncId) : Prop := ∀ args w, (callFunc f args).run P w = .ok (.enter f args) w
theorem callOk {P : Program} {f : FuncId} {fn : Func} (hf : P.funcs[f]? = some fn) (hn : (fn.name == "runtime.NumGoroutine") = false) (hb : fn.body.isNone = false) : CallOk P f := by
  intro args w
  have hn' : ¬ fn.name = "runtime.NumGoroutine" := by simpa using hn
  have hb' : ¬ fn.body = none := by intro h; rw [h] at hb; cases hb
  simp [callFunc, program, hf, hn', hb', Sem.run, bind, Sem.bind, pure]

section ops
variable {P : Program} {N : Nat} {ops : Array Oper} {Q : Exit → Act → World → Prop} {rest : List Oper} {L : FL} {w w' : World}

theorem wl_nil (h : WE N Q .normal L w) : WL P N ops Q [] L w := fun a ha => wpList_nil (h a ha)

theorem wl_val {d : Nat} {op : Op} {ty : TypeId} {pos : String} {aft : Array Edge} {v : Value} (hv : OpV P op ty L w v w') (hd : Nat.blt d N = true)
    (h : WL P N ops Q rest ((d, v) :: L) w') : WL P N ops Q (⟨some d, op, ty, pos, aft, none⟩ :: rest) L w := fun a ha =>
  wpList_plain rfl fun K hK => by
    unfold Oper.wp
    rw [hv a.eval _ (fun x u hx => ha.eval hx) rfl rfl]
    exact hK _ _ (h _ (ha.put hd v))
theorem wl_valN {op : Op} {ty : TypeId} {pos : String} {aft : Array Edge} {v : Value} (hv : OpV P op ty L w v w')
    (h : WL P N ops Q rest L w') : WL P N ops Q (⟨none, op, ty, pos, aft, none⟩ :: rest) L w := fun a ha =>
  wpList_plain rfl fun K hK => by
    unfold Oper.wp
    rw [hv a.eval _ (fun x u hx => ha.eval hx) rfl rfl]
    exact hK _ _ (h _ ha)
theorem wl_unitN {op : Op} {ty : TypeId} {pos : String} {aft : Array Edge} (hv : OpU P op ty L w w')
    (h : WL P N ops Q rest L w') : WL P N ops Q (⟨none, op, ty, pos, aft, none⟩ :: rest) L w := fun a ha =>
  wpList_plain rfl fun K hK => by
    unfold Oper.wp
    rw [hv a.eval _ (fun x u hx => ha.eval hx) rfl rfl]
    exact hK _ _ (h _ ha)

/-- The operands of a call. -/
def Looks (L : FL) : List Operand → List Value → Prop
  | [], [] => True
  | x :: xs, v :: vs => look L x = some v ∧ Looks L xs vs
  | _, _ => False
theorem Looks.map {ρ : Operand → Value} (hρ : ∀ x u, look L x = some u → ρ x = u) : ∀ {xs : List Operand} {vs : List Value}, Looks L xs vs → xs.map ρ = vs
  | [], [], _ => rfl
  | x :: xs, v :: vs, h => by rw [List.map_cons, hρ x v h.1, Looks.map hρ h.2]
  | [], _ :: _, h => h.elim
  | _ :: _, [], h => h.elim

theorem exec_call {ρ : Operand → Value} {o : Oper} {f : FuncId} {xs : List Operand} {vs : List Value} {ats : Array TypeId} (ho : o.op = .call { callee := .value (.func f), args := xs.toArray, argTypes := ats })
    (hc : CallOk P f) (hρ : ∀ x u, look L x = some u → ρ x = u) (hx : Looks L xs vs) : (execOp ρ o).run P w = .ok (.enter f vs.toArray) w := by
  have hf : ρ (.func f) = .func (.func f) #[] #[] := hρ _ _ rfl
  have hm := Looks.map hρ hx
  unfold execOp
  simp only [ho, resolve, Deferred.ofValue, hf, Sem.run_bind, Sem.run_pure, Result.andThen_ok, invoke]
  have : (#[] ++ Array.map ρ xs.toArray ++ #[]) = vs.toArray := by simp [hm]
  rw [this]
  exact hc _ _

theorem wl_call {d : Nat} {f : FuncId} {xs : List Operand} {ats : Array TypeId} {ty : TypeId} {pos : String} {aft : Array Edge} {vs : List Value} {R : Value → World → Prop}
    (hc : CallOk P f) (hr : CallsV P f vs.toArray w R) (hx : Looks L xs vs) (hd : Nat.blt d N = true)
    (h : ∀ v w', R v w' → WL P N ops Q rest ((d, v) :: L) w') :
    WL P N ops Q (⟨some d, .call { callee := .value (.func f), args := xs.toArray, argTypes := ats }, ty, pos, aft, none⟩ :: rest) L w := fun a ha =>
  wpList_plain rfl fun K hK => by
    unfold Oper.wp
    rw [exec_call rfl hc (fun x u hx => ha.eval hx) hx]
    refine Calls.mono hr ?_
    rintro _ w' ⟨v, rfl, hv⟩
    exact hK _ _ (h v w' hv _ (ha.put hd v))
theorem wl_callX {d : Nat} {f : FuncId} {xs : List Operand} {ats : Array TypeId} {ty : TypeId} {pos : String} {aft : Array Edge} {vs : List Value} {R : Value → World → Prop}
    (hc : CallOk P f) (hx : Looks L xs vs) (hd : Nat.blt d N = true) (hr : CallsV P f vs.toArray w R)
    (h : ∀ v w', R v w' → WL P N ops Q rest ((d, v) :: L) w') :
    WL P N ops Q (⟨some d, .call { callee := .value (.func f), args := xs.toArray, argTypes := ats }, ty, pos, aft, none⟩ :: rest) L w := wl_call hc hr hx hd h

/-- A guarded operation: its guard is the Bool that operation j has left in slot g. -/
theorem yielded_of {a : Act} {j g : Nat} {b : Bool} (ha : Has N a L) (hj : (ops[j]?).bind (·.dst) = some g) (hb : lookT L g = some (.bool b)) (hg : Nat.blt g N = true) : yielded ops a.tmps j = some b := by
  have hlt : g < a.tmps.size := by rw [ha.size]; simpa [Nat.blt_eq] using hg
  have h1 := ha.get g _ hb
  unfold yielded
  rw [hj]
  simp only [Option.bind_some]
  have : a.tmps[g]? = some (.bool b) := by
    rw [Array.getD_eq_getD_getElem?] at h1
    rw [Array.getElem?_eq_getElem hlt] at h1 ⊢
    simpa using h1
  rw [this]
theorem yielded_undef {a : Act} {j g : Nat} (ha : Has N a L) (hj : (ops[j]?).bind (·.dst) = some g) (hb : lookT L g = some undef) (hg : Nat.blt g N = true) : yielded ops a.tmps j = none := by
  have hlt : g < a.tmps.size := by rw [ha.size]; simpa [Nat.blt_eq] using hg
  have h1 := ha.get g _ hb
  unfold yielded
  rw [hj]
  simp only [Option.bind_some]
  have : a.tmps[g]? = some undef := by
    rw [Array.getD_eq_getD_getElem?] at h1
    rw [Array.getElem?_eq_getElem hlt] at h1 ⊢
    simpa using h1
  rw [this]; rfl
/-- A guarded operation whose guard was itself passed over. -/
theorem wl_skipU {d j g : Nat} {want : Bool} {op : Op} {ty : TypeId} {pos : String} {aft : Array Edge} (hj : (ops[j]?).bind (·.dst) = some g) (hb : lookT L g = some undef) (hg : Nat.blt g N = true)
    (hd : Nat.blt d N = true) (h : WL P N ops Q rest ((d, undef) :: L) w) : WL P N ops Q (⟨some d, op, ty, pos, aft, some (j, want)⟩ :: rest) L w := fun a ha => by
  have hy := yielded_undef ha hj hb hg
  unfold wpList
  rw [if_neg (by simp [Region.wanted, hy])]
  exact h _ (ha.put hd undef)
theorem wl_skip {d j g : Nat} {b want : Bool} {op : Op} {ty : TypeId} {pos : String} {aft : Array Edge} (hj : (ops[j]?).bind (·.dst) = some g) (hb : lookT L g = some (.bool b)) (hg : Nat.blt g N = true) (hne : b = !want)
    (hd : Nat.blt d N = true) (h : WL P N ops Q rest ((d, undef) :: L) w) : WL P N ops Q (⟨some d, op, ty, pos, aft, some (j, want)⟩ :: rest) L w := fun a ha => by
  have hy := yielded_of ha hj hb hg
  unfold wpList
  rw [if_neg (by simp [Region.wanted, hy, hne])]
  exact h _ (ha.put hd undef)
/-- A guarded operation that is wanted is as if it had no guard. -/
theorem wl_take {d j g : Nat} {b want : Bool} {op : Op} {ty : TypeId} {pos : String} {aft : Array Edge} (hj : (ops[j]?).bind (·.dst) = some g) (hb : lookT L g = some (.bool b)) (hg : Nat.blt g N = true) (he : b = want)
    (h : WL P N ops Q (⟨some d, op, ty, pos, aft, none⟩ :: rest) L w) : WL P N ops Q (⟨some d, op, ty, pos, aft, some (j, want)⟩ :: rest) L w := fun a ha => by
  have hy := yielded_of ha hj hb hg
  have h' := h a ha
  unfold wpList at h' ⊢
  rw [if_pos (by simp [Region.wanted, hy, he])]
  rw [if_pos (by simp [Region.wanted])] at h'
  exact h'

/-! #### Values -/
theorem opv_move {x : Operand} {ty : TypeId} {v : Value} (hx : look L x = some v) : OpV P (.move x) ty L w v w := fun ρ o hρ ho _ => by
  simp [execOp, ho, hρ x v hx]
theorem opv_assign {x : Operand} {ty : TypeId} {v : Value} (hx : look L x = some v) : OpV P (.assign x) ty L w v w := fun ρ o hρ ho _ => by
  simp [execOp, ho, hρ x v hx]
theorem opv_pick {c x y : Operand} {ty : TypeId} {b : Bool} {v : Value} (hc : look L c = some (.bool b)) (ht : b = true → look L x = some v) (hf : b = false → look L y = some v) : OpV P (.pick c x y) ty L w v w := fun ρ o hρ ho _ => by
  cases b with
  | true => simp [execOp, ho, hρ c _ hc, hρ x _ (ht rfl), asBool]
  | false => simp [execOp, ho, hρ c _ hc, hρ y _ (hf rfl), asBool]
def nthV : List Value → Nat → Option Value
  | [], _ => none
  | v :: _, 0 => some v
  | _ :: r, k + 1 => nthV r k
theorem nthV_eq : ∀ (vs : List Value) (k : Nat), nthV vs k = vs[k]?
  | [], _ => by simp [nthV]
  | v :: _, 0 => by simp [nthV]
  | _ :: r, k + 1 => by simp [nthV, nthV_eq r k]
theorem opv_extract {x : Operand} {k : Nat} {ty : TypeId} {vs : List Value} {v : Value} (hx : look L x = some (.tuple vs.toArray)) (hv : nthV vs k = some v) : OpV P (.extract x k) ty L w v w := fun ρ o hρ ho _ => by
  rw [nthV_eq] at hv
  simp [execOp, ho, hρ x _ hx, Instr.extract, hv]

theorem opv_pickT {c x y : Operand} {ty : TypeId} {b : Bool} {v : Value} (hc : look L c = some (.bool b)) (hb : b = true) (hx : look L x = some v) : OpV P (.pick c x y) ty L w v w := opv_pick hc (fun _ => hx) (fun h => by rw [hb] at h; cases h)
theorem opv_pickF {c x y : Operand} {ty : TypeId} {b : Bool} {v : Value} (hc : look L c = some (.bool b)) (hb : b = false) (hy : look L y = some v) : OpV P (.pick c x y) ty L w v w := opv_pick hc (fun h => by rw [hb] at h; cases h) (fun _ => hy)
theorem opv_not {x : Operand} {t ty : TypeId} {b : Bool} (hx : look L x = some (.bool b)) : OpV P (.unOp .not t x) ty L w (.bool (!b)) w := fun ρ o hρ ho _ => by
  simp [execOp, ho, hρ x _ hx, Op.unary]
theorem opv_notD {x : Operand} {t ty : TypeId} {p : Prop} {_ : Decidable p} (hx : look L x = some (.bool (decide p))) : OpV P (.unOp .not t x) ty L w (.bool (decide (¬ p))) w := fun ρ o hρ ho _ => by
  simp [execOp, ho, hρ x _ hx, Op.unary]

/-- The ways through the first k operations of a list meet: slot d holds v, the world is as it was. -/
theorem wl_cutV (k d : Nat) (v : Value) (hx : WL P N ops (CutQ N (fun L' w' => L' = (d, v) :: L ∧ w' = w) Q) (rest.take k) L w) (hy : WL P N ops Q (rest.drop k) ((d, v) :: L) w) : WL P N ops Q rest L w := by
  intro a ha
  have h := hx a ha
  have hmono : ∀ (l1 l2 : List Oper) (a : Act) (w1 : World), (∀ a' w', CutQ N (fun L' w' => L' = (d, v) :: L ∧ w' = w) Q .normal a' w' → wpList P ops Q l2 a' w') →
      wpList P ops (CutQ N (fun L' w' => L' = (d, v) :: L ∧ w' = w) Q) l1 a w1 → wpList P ops Q (l1 ++ l2) a w1 := by
    intro l1 l2 a w1 hl2 h
    exact wpList_append hl2 (fun e a w he h => by cases e <;> first | exact absurd rfl he | exact h) l1 a w1 h
  have := hmono (rest.take k) (rest.drop k) a w (fun a' w' hc => by
    obtain ⟨L', ⟨h1, h2⟩, ha'⟩ := hc
    subst h1; rw [h2]; exact hy a' ha') h
  rwa [List.take_append_drop] at this

/-- The ways to a region's end meet there. -/
theorem wl_cutE (J : FL → World → Prop) (hx : WL P N ops (CutQ N J Q) rest L w) (hy : ∀ L w, J L w → WE N Q .normal L w) : WL P N ops Q rest L w := fun a ha => by
  have h := wpList_append (P := P) (ops := ops) (Q := CutQ N J Q) (Q' := Q) (l2 := []) (fun a w ⟨L', hJ, ha'⟩ => hy L' w hJ a ha') (fun e a w he h => by cases e <;> first | exact absurd rfl he | exact h) rest a w (hx a ha)
  rwa [List.append_nil] at h

/-- A two-sided operation on two values. -/
structure BinV (P : Program) (op : BinOp) (t : TypeId) (a b r : Value) : Prop where
  run : ∀ (x y : Operand) (w : World), (do eqGuard op t x y a b; binOp op t a b : Sem Value).run P w = .ok r w
theorem opv_bin {op : BinOp} {x y : Operand} {t yt ty : TypeId} {a b r : Value} (hx : look L x = some a) (hy : look L y = some b) (hb : BinV P op t a b r) : OpV P (.binOp op t x y yt) ty L w r w := fun ρ o hρ ho _ => by
  have := hb.run x y w
  unfold execOp
  simp only [ho, hρ x _ hx, hρ y _ hy]
  rw [Sem.run_bind, this]
  simp
/-! #### The commonest steps in one word -/
theorem wl_mv {d : Nat} {x : Operand} {ty : TypeId} {pos : String} {aft : Array Edge} {v : Value} (hx : look L x = some v) (hd : Nat.blt d N = true) (h : WL P N ops Q rest ((d, v) :: L) w) :
    WL P N ops Q (⟨some d, .move x, ty, pos, aft, none⟩ :: rest) L w := wl_val (opv_move hx) hd h
theorem wl_as {d : Nat} {x : Operand} {ty : TypeId} {pos : String} {aft : Array Edge} {v : Value} (hx : look L x = some v) (hd : Nat.blt d N = true) (h : WL P N ops Q rest ((d, v) :: L) w) :
    WL P N ops Q (⟨some d, .assign x, ty, pos, aft, none⟩ :: rest) L w := wl_val (opv_assign hx) hd h
theorem wl_bin {d : Nat} {op : BinOp} {x y : Operand} {t yt ty : TypeId} {pos : String} {aft : Array Edge} {a b r : Value} (hx : look L x = some a) (hy : look L y = some b) (hb : BinV P op t a b r) (hd : Nat.blt d N = true) (h : WL P N ops Q rest ((d, r) :: L) w) :
    WL P N ops Q (⟨some d, .binOp op t x y yt, ty, pos, aft, none⟩ :: rest) L w := wl_val (opv_bin hx hy hb) hd h
theorem wc_sr {id : Nat} {l : List Oper} {y : Code} (h : WL P N l.toArray (SeqQ P y Q) l L w) : WC P N (.seq (.region id l.toArray false) y) Q L w := wc_seq (wc_region h)
theorem wl_ns {y : Code} (h : WC P N y Q L w) : WL P N ops (SeqQ P y Q) [] L w := wl_nil (we_seq h)
end ops

/-! ### A region whose order is drawn and whose operations leave the world alone, up to a class of worlds -/
def WQ (P : Program) (N : Nat) (ops : Array Oper) (C : World → Prop) (Qa : Act → Prop) (l : List Oper) (L : FL) : Prop := ∀ a, Has N a L → wpQuiet P ops C Qa l a
/-- The end of such a region. -/
def QEnd (N : Nat) (C : World → Prop) (Q : Exit → Act → World → Prop) (a : Act) : Prop := ∀ w', C w' → Q .normal a w'
section quiet
variable {P : Program} {N : Nat} {ops : Array Oper} {C : World → Prop} {Qa : Act → Prop} {Q : Exit → Act → World → Prop} {rest : List Oper} {L : FL} {w w' : World}
theorem wc_draw {id : Nat} {l : List Oper} (C : World → Prop) (hm : P.follows .mixedOrders = true) (hB : Region.lexB .any l.toArray = true) (hC : C w.drew)
    (h : WQ P N l.toArray C (QEnd N C Q) l L) : WC P N (.region id l.toArray true) Q L w := fun a ha =>
  wp_region_quiet (C := C) hm hB hC (show wpQuiet P l.toArray C (QEnd N C Q) l.toArray.toList a from by simpa using h a ha)
theorem wq_nil (h : ∀ w', C w' → WE N Q .normal L w') : WQ P N ops C (QEnd N C Q) [] L := fun a ha => wpQuiet_nil fun w' hw => h w' hw a ha
theorem wq_val {d : Nat} {op : Op} {ty : TypeId} {pos : String} {aft : Array Edge} {v : Value} (hv : ∀ w, C w → OpV P op ty L w v w) (hd : Nat.blt d N = true)
    (h : WQ P N ops C Qa rest ((d, v) :: L)) : WQ P N ops C Qa (⟨some d, op, ty, pos, aft, none⟩ :: rest) L := fun a ha =>
  wpQuiet_step fun K hK => by
    rw [if_pos (by simp [Region.wanted])]
    refine ⟨v, fun w hw => ?_, hK _ (h _ (ha.put hd v))⟩
    unfold Oper.quietAt
    rw [hv w hw a.eval _ (fun x u hx => ha.eval hx) rfl rfl]
    exact ⟨rfl, rfl⟩
theorem wq_call {d : Nat} {f : FuncId} {xs : List Operand} {ats : Array TypeId} {ty : TypeId} {pos : String} {aft : Array Edge} {vs : List Value} {v : Value}
    (hc : CallOk P f) (hr : ∀ w, C w → CallsV P f vs.toArray w fun u w' => u = v ∧ C w') (hx : Looks L xs vs) (hd : Nat.blt d N = true)
    (h : WQ P N ops C Qa rest ((d, v) :: L)) :
    WQ P N ops C Qa (⟨some d, .call { callee := .value (.func f), args := xs.toArray, argTypes := ats }, ty, pos, aft, none⟩ :: rest) L := fun a ha =>
  wpQuiet_step fun K hK => by
    rw [if_pos (by simp [Region.wanted])]
    refine ⟨v, fun w hw => ?_, hK _ (h _ (ha.put hd v))⟩
    unfold Oper.quietAt
    rw [exec_call rfl hc (fun x u hx => ha.eval hx) hx]
    refine ⟨rfl, Calls.mono (hr w hw) ?_⟩
    rintro _ w' ⟨u, rfl, rfl, hw'⟩
    exact ⟨rfl, hw'⟩
theorem wq_skip {d j g : Nat} {b want : Bool} {op : Op} {ty : TypeId} {pos : String} {aft : Array Edge} (hj : (ops[j]?).bind (·.dst) = some g) (hb : lookT L g = some (.bool b)) (hg : Nat.blt g N = true) (hne : b = !want)
    (hd : Nat.blt d N = true) (h : WQ P N ops C Qa rest ((d, undef) :: L)) : WQ P N ops C Qa (⟨some d, op, ty, pos, aft, some (j, want)⟩ :: rest) L := fun a ha => by
  have hy := yielded_of ha hj hb hg
  unfold wpQuiet
  rw [if_neg (by simp [Region.wanted, hy, hne])]
  exact h _ (ha.put hd undef)
theorem wq_skipU {d j g : Nat} {want : Bool} {op : Op} {ty : TypeId} {pos : String} {aft : Array Edge} (hj : (ops[j]?).bind (·.dst) = some g) (hb : lookT L g = some undef) (hg : Nat.blt g N = true)
    (hd : Nat.blt d N = true) (h : WQ P N ops C Qa rest ((d, undef) :: L)) : WQ P N ops C Qa (⟨some d, op, ty, pos, aft, some (j, want)⟩ :: rest) L := fun a ha => by
  have hy := yielded_undef ha hj hb hg
  unfold wpQuiet
  rw [if_neg (by simp [Region.wanted, hy])]
  exact h _ (ha.put hd undef)
theorem wq_take {d j g : Nat} {b want : Bool} {op : Op} {ty : TypeId} {pos : String} {aft : Array Edge} (hj : (ops[j]?).bind (·.dst) = some g) (hb : lookT L g = some (.bool b)) (hg : Nat.blt g N = true) (he : b = want)
    (h : WQ P N ops C Qa (⟨some d, op, ty, pos, aft, none⟩ :: rest) L) : WQ P N ops C Qa (⟨some d, op, ty, pos, aft, some (j, want)⟩ :: rest) L := fun a ha => by
  have hy := yielded_of ha hj hb hg
  have h' := h a ha
  unfold wpQuiet at h' ⊢
  rw [if_pos (by simp [Region.wanted, hy, he])]
  rw [if_pos (by simp [Region.wanted])] at h'
  exact h'
end quiet

section bins
variable {P : Program} {t : TypeId} {k : IntKind} {a b : Int}
theorem bin_lss : BinV P .lss t (.int k a) (.int k b) (.bool (decide (a < b))) := .mk fun x y w => by simp [eqGuard, binOp, Op.intCmp]
theorem bin_leq : BinV P .leq t (.int k a) (.int k b) (.bool (decide (a ≤ b))) := .mk fun x y w => by simp [eqGuard, binOp, Op.intCmp]
theorem bin_gtr : BinV P .gtr t (.int k a) (.int k b) (.bool (decide (b < a))) := .mk fun x y w => by simp [eqGuard, binOp, Op.intCmp]
theorem bin_geq : BinV P .geq t (.int k a) (.int k b) (.bool (decide (b ≤ a))) := .mk fun x y w => by simp [eqGuard, binOp, Op.intCmp]
theorem bin_eql : BinV P .eql t (.int k a) (.int k b) (.bool (decide (a = b))) := .mk fun x y w => by
  have e : (a == b) = decide (a = b) := by by_cases h : a = b <;> simp [h]
  simp [eqGuard, binOp, Op.intCmp, e]
theorem bin_neq : BinV P .neq t (.int k a) (.int k b) (.bool (decide (a ≠ b))) := .mk fun x y w => by
  have e : (a == b) = decide (a = b) := by by_cases h : a = b <;> simp [h]
  simp [eqGuard, binOp, Op.intCmp, bne, e]
theorem bin_add : BinV P .add t (.int k a) (.int k b) (.int k (k.wrap (a + b))) := .mk fun x y w => by simp [eqGuard, binOp, Op.intArith]
theorem bin_sub : BinV P .sub t (.int k a) (.int k b) (.int k (k.wrap (a - b))) := .mk fun x y w => by simp [eqGuard, binOp, Op.intArith]
theorem bin_mul : BinV P .mul t (.int k a) (.int k b) (.int k (k.wrap (a * b))) := .mk fun x y w => by simp [eqGuard, binOp, Op.intArith]
theorem BinV.to {op : BinOp} {u v r s : Value} (h : BinV P op t u v r) (e : r = s) : BinV P op t u v s := e ▸ h
theorem bin_add64 (h : -9223372036854775808 ≤ a + b ∧ a + b ≤ 9223372036854775807) : BinV P .add t (.int .i64 a) (.int .i64 b) (.int .i64 (a + b)) := bin_add.to (by rw [IntWalk.i64_in _ h])
theorem bin_sub64 (h : -9223372036854775808 ≤ a - b ∧ a - b ≤ 9223372036854775807) : BinV P .sub t (.int .i64 a) (.int .i64 b) (.int .i64 (a - b)) := bin_sub.to (by rw [IntWalk.i64_in _ h])
theorem bin_mul64 (h : -9223372036854775808 ≤ a * b ∧ a * b ≤ 9223372036854775807) : BinV P .mul t (.int .i64 a) (.int .i64 b) (.int .i64 (a * b)) := bin_mul.to (by rw [IntWalk.i64_in _ h])
end bins
end Go.Proofs.YtdgagffieobiiaaGreatDoor

/-
  The engine's rules for memory: reading an element of a slice, append, make, a slice expression, a store into a row of the call's own. Nothing here names the program.
-/
namespace Go.Proofs.YtdgagffieobiiaaGreatDoor
open Go.RowKit

theorem cells_one {v : Value} (h : v.oneCell' = true) : v.cells = #[v] := by cases v <;> first | rfl | (simp [Value.oneCell'] at h)

/-- Slice type t has elements of type e, of one cell each. -/
structure Row1 (P : Program) (t e : TypeId) (z : Value) (bytes : Nat) : Prop where
  sl : P.underlying t = some (.slice e)
  info : (P.info? e).map (fun i => (i.zero, i.size, i.bytes)) = some (some z, 1, bytes)
  one : z.oneCell' = true
  flat : (match P.underlying e with | some (.struct _) => true | some (.array _ _) => true | some _ => false | none => true) = false

theorem Row1.agg {P : Program} {t e : TypeId} {z : Value} {bytes : Nat} (T : Row1 P t e z bytes) (w : World) : (isAgg e).run P w = .ok false w := by
  have h := T.flat
  unfold isAgg
  cases hu : P.underlying e with
  | none => rw [hu] at h; simp at h
  | some d =>
    rw [hu] at h
    rw [Sem.run_bind, run_underlying hu]
    cases d <;> first | (simp at h; done) | simp
theorem Row1.size {P : Program} {t e : TypeId} {z : Value} {bytes : Nat} (T : Row1 P t e z bytes) (w : World) : (sizeOf e).run P w = .ok 1 w := by
  obtain ⟨i, hi, _, hs, _⟩ := info_parts T.info
  simp [sizeOf, typeInfo, hi, hs]
theorem Row1.zero {P : Program} {t e : TypeId} {z : Value} {bytes : Nat} (T : Row1 P t e z bytes) (w : World) : (zeroValue e).run P w = .ok z w := by
  obtain ⟨i, hi, hz, _, _⟩ := info_parts T.info
  simp [zeroValue, typeInfo, hi, hz]

/-- Row A alone, beside new blocks, has been written. -/
def Gr (w w' : World) (A : Option Addr) : Prop := w.grownBy w' (A.map (·.block))
theorem ownBlock_slice (A : Option Addr) (n c : Nat) : (Value.slice A n c).ownBlock = A.map (·.block) := by cases A <;> rfl
theorem Gr.refl (w : World) (A : Option Addr) : Gr w w A := ⟨rfl, rfl, rfl, Nat.le_refl _, fun _ _ _ => rfl⟩
theorem Gr.size {w w' : World} {A : Option Addr} (g : Gr w w' A) : w.heap.size ≤ w'.heap.size := World.grownBy.size g
theorem Gr.of_below {w w' : World} {B : Nat} (A : Option Addr) (h : Below B w w') (hB : w.heap.size ≤ B) : Gr w w' A := ⟨h.os, h.tape, h.output, h.size, fun k hk _ => h.block k (by omega)⟩
theorem Gr.trans {w w1 w2 : World} {A : Option Addr} (g : Gr w w1 A) (h : Gr w1 w2 A) : Gr w w2 A := World.grownBy.trans g h
/-- What lies below the row's first block is as it was. -/
theorem Gr.below {w0 w w' : World} {B base : Nat} {e : TypeId} {A : Option Addr} {n c : Nat} {xs : List Value} (g : Gr w w' A) (h : Below B w0 w) (ho : Ow w base e A n c xs) (hb : B ≤ base) (hB : B ≤ w.heap.size) : Below B w0 w' :=
  h.grown g hB fun k hk => Nat.le_trans hb (World.ownsRow.lt ho k (by rw [ownBlock_slice]; exact hk)).1
/-- A row of the call's own in another block stays. -/
theorem Ow.gr {w w' : World} {base base' : Nat} {e e' : TypeId} {A B : Option Addr} {n c : Nat} {xs : List Value} (h : Ow w base e A n c xs) (g : Gr w w' B)
    (hne : ∀ a b, A = some a → B = some b → a.block ≠ b.block) : Ow w' base e A n c xs := by
  refine World.ownsRow.kept h g ?_
  cases A with
  | none => exact .inl rfl
  | some a => refine .inr ?_; cases B with
    | none => simp [Value.ownBlock]
    | some b => simpa [Value.ownBlock] using hne a b rfl rfl
theorem Rd.gr {w w' : World} {A B : Option Addr} {n : Nat} {xs : List Value} (h : Rd w A n xs) (g : Gr w w' B)
    (hne : ∀ a b, A = some a → B = some b → a.block ≠ b.block) : Rd w' A n xs := ⟨h.1, fun hn => by
  obtain ⟨b, o, hA, hb, hc⟩ := h.2 hn
  refine ⟨b, o, hA, Nat.lt_of_lt_of_le hb g.size, fun j u hu => ?_⟩
  rw [World.cell?_of_block (w := w) (a := ⟨b, o + j, none⟩) (World.grownBy.block g b hb ?_)]
  · exact hc j u hu
  · cases B with
    | none => simp
    | some q => have := hne _ q hA rfl; simpa using this⟩
/-- Where a row of the call's own lies. -/
theorem Ow.lt {w : World} {base : Nat} {e : TypeId} {A : Option Addr} {n c : Nat} {xs : List Value} (h : Ow w base e A n c xs) : ∀ a, A = some a → base ≤ a.block ∧ a.block < w.heap.size := fun a ha =>
  World.ownsRow.lt h a.block (by rw [ha]; rfl)
theorem Rd.lt {w : World} {A : Option Addr} {n : Nat} {xs : List Value} (h : Rd w A n xs) (hn : 0 < n) : ∀ a, A = some a → a.block < w.heap.size := fun a ha => by
  obtain ⟨b, o, hA, hb, _⟩ := h.2 hn
  rw [hA] at ha; cases ha; exact hb

theorem getElem?_bvs {l : List UInt8} {k : Nat} {u : Value} (h : (bvs l)[k]? = some u) : ∃ b, l[k]? = some b ∧ u = bv b := by
  unfold bvs at h
  rw [List.getElem?_map] at h
  cases hl : l[k]? with
  | none => rw [hl] at h; cases h
  | some b => rw [hl] at h; exact ⟨b, rfl, by simpa using h.symm⟩

section
variable {P : Program} {N : Nat} {ops : Array Oper} {Q : Exit → Act → World → Prop} {rest : List Oper} {L : FL} {w : World} {t e : TypeId} {z : Value} {bytes : Nat}

theorem opv_len {x : Operand} {ty : TypeId} {A : Option Addr} {n c : Nat} (hx : look L x = some (.slice A n c)) (ht : P.underlying t = some (.slice e)) :
    OpV P (.call { callee := .builtin .len, args := #[x], argTypes := #[t] }) ty L w (.int .i64 (n : Int)) w := fun ρ o hρ ho _ => by
  simp [execOp, ho, resolve, invoke, builtin, Builtin.len_, hρ x _ hx, run_underlying ht, goInt]
theorem opv_lenS {x : Operand} {ty : TypeId} {s : ByteArray} (hx : look L x = some (.string s)) (ht : P.underlying t = some .string) :
    OpV P (.call { callee := .builtin .len, args := #[x], argTypes := #[t] }) ty L w (.int .i64 (s.size : Int)) w := fun ρ o hρ ho _ => by
  simp [execOp, ho, resolve, invoke, builtin, Builtin.len_, hρ x _ hx, run_underlying ht, goInt]

/-- The address of an element. -/
theorem opv_idx {x i : Operand} {ty : TypeId} {b o : Nat} {n c kk : Nat} {ik : IntKind} {q : Int} (T : Row1 P t e z bytes) (hx : look L x = some (.slice (some ⟨b, o, none⟩) n c)) (hi : look L i = some (.int ik q)) (hq : q = (kk : Int)) (hk : kk < n) :
    OpV P (.indexAddr t x i) ty L w (.pointer (some ⟨b, o + kk, none⟩)) w := fun ρ op hρ ho _ => by
  subst hq
  simp [execOp, ho, Instr.indexAt, asIntOf, hρ x _ hx, hρ i _ hi, run_underlying T.sl, hk, T.size, Addr.add_lit]
theorem opv_load {x : Operand} {ty : TypeId} {a : Addr} {u : Value} (T : Row1 P t e z bytes) (hx : look L x = some (.pointer (some a))) (hc : w.cell? a = some u) : OpV P (.load e x) ty L w u w := fun ρ op hρ ho _ => by
  simp [execOp, ho, Instr.loadAt, Instr.sureAddr, loadVar, hρ x _ hx, T.agg, hc]

/-- The address of an element that is known, and its load, in two steps. -/
def adR (A : Option Addr) (k : Nat) : Value := .pointer (A.map fun a => a.add k)
theorem opv_idxR {x i : Operand} {ty : TypeId} {A : Option Addr} {n c kk : Nat} {ik : IntKind} {q : Int} {xs : List Value} {u : Value} {w0 : World} (T : Row1 P t e z bytes) (hx : look L x = some (.slice A n c)) (hi : look L i = some (.int ik q)) (hr : Rd w0 A n xs) (hq : q = (kk : Int)) (hu : xs[kk]? = some u) :
    OpV P (.indexAddr t x i) ty L w (adR A kk) w := by
  have hk : kk < n := by have := (List.getElem?_eq_some_iff.1 hu).1; have := hr.1; omega
  obtain ⟨b, o, rfl, _, _⟩ := hr.2 (by omega)
  have := opv_idx (P := P) (L := L) (w := w) (ty := ty) T hx hi hq hk
  simpa [adR, Addr.add_lit] using this
theorem opv_loadR {x : Operand} {ty : TypeId} {A : Option Addr} {n kk : Nat} {xs : List Value} {u : Value} (T : Row1 P t e z bytes) (hx : look L x = some (adR A kk)) (hr : Rd w A n xs) (hu : xs[kk]? = some u) : OpV P (.load e x) ty L w u w := by
  have hk : kk < n := by have := (List.getElem?_eq_some_iff.1 hu).1; have := hr.1; omega
  obtain ⟨b, o, rfl, _, hc⟩ := hr.2 (by omega)
  exact opv_load T (by simpa [adR, Addr.add_lit] using hx) (hc kk u hu)
/-- An element of a slice: its address and its value. -/
theorem wl_el {d1 d2 : Nat} {x i : Operand} {ty1 ty2 : TypeId} {p1 p2 : String} {f1 f2 : Array Edge} {A : Option Addr} {n c kk : Nat} {ik : IntKind} {q : Int} {xs : List Value} (T : Row1 P t e z bytes)
    (hx : look L x = some (.slice A n c)) (hi : look L i = some (.int ik q)) (hr : Rd w A n xs) (hq : q = (kk : Int)) (hk : kk < n) (hd1 : Nat.blt d1 N = true) (hd2 : Nat.blt d2 N = true)
    (h : ∀ p u, xs[kk]? = some u → WL P N ops Q rest ((d2, u) :: (d1, p) :: L) w) :
    WL P N ops Q (⟨some d1, .indexAddr t x i, ty1, p1, f1, none⟩ :: ⟨some d2, .load e (.tmp d1), ty2, p2, f2, none⟩ :: rest) L w := by
  obtain ⟨b, o, u, rfl, hu, hc⟩ := hr.at hk
  refine wl_val (opv_idx T hx hi hq hk) hd1 (wl_val (opv_load T ?_ hc) hd2 (h _ u hu))
  simp [look, lookT]
theorem wl_by {d1 d2 : Nat} {x i : Operand} {ty1 ty2 : TypeId} {p1 p2 : String} {f1 f2 : Array Edge} {A : Option Addr} {n c kk : Nat} {ik : IntKind} {q : Int} {l : List UInt8} (T : Row1 P t e z bytes)
    (hx : look L x = some (.slice A n c)) (hi : look L i = some (.int ik q)) (hr : Rd w A n (bvs l)) (hq : q = (kk : Int)) (hk : kk < n) (hd1 : Nat.blt d1 N = true) (hd2 : Nat.blt d2 N = true)
    (h : ∀ p b, l[kk]? = some b → WL P N ops Q rest ((d2, .int .u8 (b.toNat : Int)) :: (d1, p) :: L) w) :
    WL P N ops Q (⟨some d1, .indexAddr t x i, ty1, p1, f1, none⟩ :: ⟨some d2, .load e (.tmp d1), ty2, p2, f2, none⟩ :: rest) L w :=
  wl_el T hx hi hr hq hk hd1 hd2 fun p u hu => by
    obtain ⟨b, hb, rfl⟩ := getElem?_bvs hu
    exact h p b hb

/-- append. -/
theorem wl_app {d : Nat} {s x : Operand} {ty : TypeId} {pos : String} {aft : Array Edge} {base : Nat} {A : Option Addr} {n c : Nat} {xs : List Value} {B : Option Addr} {m c' : Nat} {ys : List Value} (T : Row1 P t e z bytes)
    (hs : look L s = some (.slice A n c)) (hown : Ow w base e A n c xs) (hx : look L x = some (.slice B m c')) (hr : Rd w B m ys) (h1 : ∀ u ∈ ys, u.oneCell' = true)
    (hbytes : (n + m) * bytes ≤ 140737488355328) (hmax : n + m ≤ maxLen) (hbase : base ≤ w.heap.size) (hd : Nat.blt d N = true)
    (h : ∀ A' c' w', Ow w' base e A' (n + m) c' (xs ++ ys) → Gr w w' A → (A'.map (·.block) = A.map (·.block) ∨ A'.map (·.block) = some w.heap.size) → WL P N ops Q rest ((d, .slice A' (n + m) c') :: L) w') :
    WL P N ops Q (⟨some d, .call { callee := .builtin .append, args := #[s, x], argTypes := #[t, t] }, ty, pos, aft, none⟩ :: rest) L w := fun a ha => by
  refine wpList_app rfl s x t rfl T.sl T.info (by rw [cells_one T.one]; rfl) (ha.eval hs) hown (ha.eval hx) hr h1 hbytes hmax hbase fun A' c' w' ho hg hat => ?_
  rw [ownBlock_slice] at hg
  exact h A' c' w' ho hg hat _ (ha.put hd _)

/-- The parts of a slice that a statement writes out. -/
def PLooks (L : FL) : Nat → List (Nat × Operand) → List Value → Prop
  | _, [], [] => True
  | k, (i, x) :: ps, v :: vs => i = k ∧ look L x = some v ∧ v.oneCell' = true ∧ PLooks L (k + 1) ps vs
  | _, _, _ => False
theorem PLooks.one : ∀ {ps : List (Nat × Operand)} {vs : List Value} {k : Nat}, PLooks L k ps vs → ∀ u ∈ vs, u.oneCell' = true
  | [], [], _, _ => by simp
  | (i, x) :: ps, v :: vs, k, h => by
    intro u hu
    rcases List.mem_cons.1 hu with rfl | hu
    · exact h.2.2.1
    · exact PLooks.one h.2.2.2 u hu
  | [], _ :: _, _, h => h.elim
  | _ :: _, [], _, h => h.elim
theorem PLooks.fill {ρ : Operand → Value} (hρ : ∀ x u, look L x = some u → ρ x = u) : ∀ {ps : List (Nat × Operand)} {vs : List Value} {k : Nat} (cur : Array Value), PLooks L k ps vs → k + vs.length = cur.size →
    Instr.fill (fun i => some (i * 1, 1)) cur (ps.map fun p => (p.1, ρ p.2)) = some (cur.toList.take k ++ vs).toArray
  | [], [], k, cur, _, hk => by
    simp only [List.map_nil, Instr.fill, List.append_nil]
    rw [List.take_of_length_le (by simp at hk ⊢; omega)]
  | (i, x) :: ps, v :: vs, k, cur, h, hk => by
    obtain ⟨rfl, hx, h1, h2⟩ := h
    simp only [List.length_cons] at hk
    have hc := cells_one h1
    simp only [List.map_cons, Instr.fill, hρ x v hx, hc]
    have hcond : ((#[v] : Array Value).size ≠ 1 || decide (i * 1 + (#[v] : Array Value).size > cur.size)) = false := by simp; omega
    have hcs : (Array.foldl (fun cs (x : Value × Nat) => cs.setIfInBounds (i * 1 + x.2) x.1) cur (#[v] : Array Value).zipIdx) = cur.setIfInBounds i v := by simp [Array.zipIdx]
    rw [if_neg (by simpa using hcond)]
    rw [hcs, PLooks.fill hρ (cur.setIfInBounds i v) h2 (by simp; omega)]
    congr 1
    rw [Array.toList_setIfInBounds]
    apply congrArg List.toArray
    apply List.ext_getElem?
    intro j
    have hlt : i < cur.toList.length := by simp; omega
    simp only [List.getElem?_append, List.length_take, List.length_set, List.getElem?_take, List.getElem?_set, List.length_cons, Array.length_toList]
    have m1 : min (i + 1) cur.size = i + 1 := by omega
    have m2 : min i cur.size = i := by omega
    rw [m1, m2]
    rcases Nat.lt_trichotomy j i with h | h | h
    · have e1 : j < i + 1 := by omega
      have e2 : j < cur.size := by omega
      have e3 : i ≠ j := by omega
      simp [h, e1, e2, e3]
    · subst h
      have e2 : j < cur.size := by simpa using hlt
      simp [e2]
    · have e1 : ¬ j < i + 1 := by omega
      have e2 : ¬ j < i := by omega
      have e5 : j - i = (j - (i + 1)) + 1 := by omega
      simp only [e1, e2, if_false]
      rw [e5]; simp
  | [], _ :: _, _, _, h, _ => h.elim
  | _ :: _, [], _, _, h, _ => h.elim

theorem opv_bs {len : Nat} {ps : List (Nat × Operand)} {vs : List Value} {ty : TypeId} (T : Row1 P t e z bytes) (hp : PLooks L 0 ps vs) (hl : vs.length = len) (hle : len ≤ 16777216) :
    OpV P (.buildSlice t len ps.toArray) ty L w (.slice (some ⟨w.heap.size, 0, none⟩) len len) (w.alloc (.cells vs.toArray e)) := fun ρ o hρ ho _ => by
  have hz := T.one
  have hf := PLooks.fill hρ ((Array.range (len * 1)).map fun i => (if len * 1 = 0 then (#[] : Array Value) else z.cells)[i % (if len * 1 = 0 then (#[] : Array Value) else z.cells).size]!) hp (by simp [hl])
  simp only [List.take_zero, List.nil_append] at hf
  have hmap : (Array.map (fun (x : Nat × Operand) => (x.1, ρ x.2)) ps.toArray).toList = ps.map fun p => (p.1, ρ p.2) := by simp
  unfold execOp
  simp only [ho, Instr.buildSlice, Sem.run_bind, run_underlying T.sl, Result.andThen_ok, T.size]
  have h24 : ¬ (len * 1 > 2 ^ 24) := by omega
  rw [if_neg h24]
  by_cases h0 : len * 1 = 0
  · simp only [h0, if_true, Sem.run_bind, Sem.run_pure, Result.andThen_ok] at hf ⊢
    rw [hmap, hf]
    simp [newRow]
  · simp only [h0, if_false, Sem.run_bind, Sem.run_pure, Result.andThen_ok, T.zero] at hf ⊢
    rw [hmap, hf]
    simp [newRow]

theorem Ow.lit (w : World) (e : TypeId) (vs : List Value) (n : Nat) (hn : vs.length = n) (hm : n ≤ maxLen) : Ow (w.alloc (.cells vs.toArray e)) w.heap.size e (some ⟨w.heap.size, 0, none⟩) n n vs := by
  have := World.ownsRow_lit (e := e) (size := 1) (base := w.heap.size) w vs.toArray n (Nat.le_refl _) hm (by simpa using hn)
  simpa [Ow] using this

/-- A slice that a statement writes out. -/
theorem wl_bs {d len : Nat} {ps : List (Nat × Operand)} {vs : List Value} {ty : TypeId} {pos : String} {aft : Array Edge} (T : Row1 P t e z bytes) (hp : PLooks L 0 ps vs) (hl : vs.length = len) (hle : len ≤ 16777216) (hd : Nat.blt d N = true)
    (h : ∀ A w', Ow w' w.heap.size e A len len vs → Below w.heap.size w w' → w'.heap.size = w.heap.size + 1 → WL P N ops Q rest ((d, .slice A len len) :: L) w') :
    WL P N ops Q (⟨some d, .buildSlice t len ps.toArray, ty, pos, aft, none⟩ :: rest) L w :=
  wl_val (opv_bs T hp hl hle) hd (h _ _ (Ow.lit w e vs len hl (by simp only [maxLen]; omega)) ((Below.refl _ _).alloc (Nat.le_refl _) _) (by simp))

/-- append(s, x, y ..): the elements written out. -/
theorem wl_push {d1 d2 len : Nat} {ps : List (Nat × Operand)} {vs : List Value} {s : Operand} {ty1 ty2 : TypeId} {p1 p2 : String} {f1 f2 : Array Edge} {base : Nat} {A : Option Addr} {n c : Nat} {xs : List Value} (T : Row1 P t e z bytes)
    (hs : look L s = some (.slice A n c)) (hown : Ow w base e A n c xs) (hp : PLooks L 0 ps vs) (hl : vs.length = len) (hle : len ≤ 16777216) (hs1 : look ((d1, .slice (some ⟨w.heap.size, 0, none⟩) len len) :: L) s = some (.slice A n c))
    (hbytes : (n + len) * bytes ≤ 140737488355328) (hmax : n + len ≤ maxLen) (hbase : base ≤ w.heap.size) (hd1 : Nat.blt d1 N = true) (hd2 : Nat.blt d2 N = true)
    (h : ∀ p A' c' w', Ow w' base e A' (n + len) c' (xs ++ vs) → Gr w w' A → (A'.map (·.block) = A.map (·.block) ∨ ∀ a', A' = some a' → w.heap.size ≤ a'.block) → WL P N ops Q rest ((d2, .slice A' (n + len) c') :: (d1, p) :: L) w') :
    WL P N ops Q (⟨some d1, .buildSlice t len ps.toArray, ty1, p1, f1, none⟩ :: ⟨some d2, .call { callee := .builtin .append, args := #[s, .tmp d1], argTypes := #[t, t] }, ty2, p2, f2, none⟩ :: rest) L w := by
  refine wl_val (opv_bs T hp hl hle) hd1 ?_
  have ho1 : Ow (w.alloc (.cells vs.toArray e)) base e A n c xs := hown.alloc _
  refine wl_app (B := some ⟨w.heap.size, 0, none⟩) (m := len) (c' := len) T hs1 ho1 (by simp [look, lookT]) (Ow.lit w e vs len hl (by simp only [maxLen]; omega)).rd (PLooks.one hp) hbytes hmax (by simp; omega) hd2 fun A' c' w' ho hg hat => ?_
  refine h _ A' c' w' ho ((Gr.of_below A ((Below.refl w.heap.size w).alloc (Nat.le_refl _) _) (Nat.le_refl _)).trans hg) ?_
  rcases hat with e | e
  · exact .inl e
  · refine .inr fun a' ha' => ?_
    rw [ha'] at e
    simp at e
    omega

/-- make. -/
theorem wl_mk {d : Nat} {x y : Operand} {ty : TypeId} {pos : String} {aft : Array Edge} {n c : Nat} {p q : Int} {k1 k2 : IntKind} (T : Row1 P t e z bytes) (hx : look L x = some (.int k1 p)) (hy : look L y = some (.int k2 q)) (hp : p = (n : Int)) (hq : q = (c : Int)) (hnc : n ≤ c)
    (hb : bytes * c ≤ 281474976710656) (hm : c ≤ maxLen) (hd : Nat.blt d N = true)
    (h : ∀ A w', Ow w' w.heap.size e A n c (List.replicate n z) → Below w.heap.size w w' → w'.heap.size = w.heap.size + 1 → WL P N ops Q rest ((d, .slice A n c) :: L) w') :
    WL P N ops Q (⟨some d, .makeSlice t x y, ty, pos, aft, none⟩ :: rest) L w := by
  subst hp hq
  obtain ⟨i, hi, hz, hs, hby⟩ := info_parts T.info
  have hzc : z.cells = #[z] := cells_one T.one
  have hb' : (i.bytes : Int) * (c : Int) ≤ 281474976710656 := by
    rw [hby]
    have : ((bytes * c : Nat) : Int) ≤ 281474976710656 := by omega
    rwa [Int.natCast_mul] at this
  have hm' : (c : Int) ≤ 9223372036854775807 := by simp only [maxLen] at hm; omega
  have hrun := run_make (P := P) w t e i z T.sl hi hz k1 k2 (n : Int) (c : Int) (by omega) (by omega) hb' hm'
  simp only [Int.toNat_natCast, hs, Nat.mul_one, hzc] at hrun
  have hv : OpV P (.makeSlice t x y) ty L w (.slice (some ⟨w.heap.size, 0, none⟩) n c) (w.alloc (.cells (madeCells #[z] c) e)) := fun ρ o hρ ho _ => by
    unfold execOp
    simp only [ho, hρ x _ hx, hρ y _ hy, Sem.run_bind, hrun]
    simp
  refine wl_val hv hd (h _ _ ?_ ((Below.refl _ _).alloc (Nat.le_refl _) _) (by simp))
  refine ⟨by simp, .inr ⟨w.heap.size, c, madeCells #[z] c, rfl, Nat.le_refl _, heap_alloc_new w _, hnc, hm, by simp [size_madeCells], ?_⟩⟩
  rw [toList_madeCells_one]
  simp [List.take_replicate, Nat.min_eq_left hnc]

/-- An element of a slice, read under a guard that holds. -/
theorem wl_elT {d1 d2 j1 g1 j2 g2 : Nat} {b1 w1 b2 w2 : Bool} {x i : Operand} {ty1 ty2 : TypeId} {p1 p2 : String} {f1 f2 : Array Edge} {A : Option Addr} {n c kk : Nat} {ik : IntKind} {q : Int} {xs : List Value} (T : Row1 P t e z bytes)
    (hj1 : (ops[j1]?).bind (·.dst) = some g1) (hb1 : lookT L g1 = some (.bool b1)) (hg1 : Nat.blt g1 N = true) (he1 : b1 = w1)
    (hj2 : (ops[j2]?).bind (·.dst) = some g2) (hb2 : lookT L g2 = some (.bool b2)) (hg2 : Nat.blt g2 N = true) (hne : Nat.beq d1 g2 = false) (he2 : b2 = w2)
    (hx : look L x = some (.slice A n c)) (hi : look L i = some (.int ik q)) (hr : Rd w A n xs) (hq : q = (kk : Int)) (hk : kk < n) (hd1 : Nat.blt d1 N = true) (hd2 : Nat.blt d2 N = true)
    (h : ∀ p u, xs[kk]? = some u → WL P N ops Q rest ((d2, u) :: (d1, p) :: L) w) :
    WL P N ops Q (⟨some d1, .indexAddr t x i, ty1, p1, f1, some (j1, w1)⟩ :: ⟨some d2, .load e (.tmp d1), ty2, p2, f2, some (j2, w2)⟩ :: rest) L w := by
  obtain ⟨b, o, u, rfl, hu, hc⟩ := hr.at hk
  refine wl_take hj1 hb1 hg1 he1 (wl_val (opv_idx T hx hi hq hk) hd1 ?_)
  refine wl_take hj2 (b := b2) ?_ hg2 he2 (wl_val (opv_load T ?_ hc) hd2 (h _ u hu))
  · simpa [lookT, hne] using hb2
  · simp [look, lookT]

/-- A region that only reads: what stands behind it is asked in every world that extends the one ahead. -/
theorem wc_drawB {id : Nat} {l : List Oper} (hm : P.follows .mixedOrders = true) (hB : Region.lexB .any l.toArray = true)
    (h : WQ P N l.toArray (Below w.heap.size w) (QEnd N (Below w.heap.size w) Q) l L) : WC P N (.region id l.toArray true) Q L w :=
  wc_draw (Below w.heap.size w) hm hB ((Below.refl _ _).drew) h
theorem wq_el {w0 : World} {Qa : Act → Prop} {d1 d2 : Nat} {x i : Operand} {ty1 ty2 : TypeId} {p1 p2 : String} {f1 f2 : Array Edge} {A : Option Addr} {n c kk : Nat} {ik : IntKind} {q : Int} {xs : List Value} (T : Row1 P t e z bytes)
    (hx : look L x = some (.slice A n c)) (hi : look L i = some (.int ik q)) (hr : Rd w0 A n xs) (hq : q = (kk : Int)) (hk : kk < n) (hd1 : Nat.blt d1 N = true) (hd2 : Nat.blt d2 N = true)
    (h : ∀ p u, xs[kk]? = some u → WQ P N ops (Below w0.heap.size w0) Qa rest ((d2, u) :: (d1, p) :: L)) :
    WQ P N ops (Below w0.heap.size w0) Qa (⟨some d1, .indexAddr t x i, ty1, p1, f1, none⟩ :: ⟨some d2, .load e (.tmp d1), ty2, p2, f2, none⟩ :: rest) L := by
  have hn : 0 < n := by omega
  obtain ⟨b, o, rfl, hb, hc⟩ := hr.2 hn
  have hl : kk < xs.length := by have := hr.1; omega
  refine wq_val (fun w hw => opv_idx T hx hi hq hk) hd1 (wq_val (v := xs[kk]) (fun w hw => opv_load T (by simp [look, lookT]; rfl) ?_) hd2 (h _ _ (List.getElem?_eq_getElem hl)))
  rw [hw.cell (p := ⟨b, o + kk, none⟩) hb]
  exact hc kk _ (List.getElem?_eq_getElem hl)
theorem wq_by {w0 : World} {Qa : Act → Prop} {d1 d2 : Nat} {x i : Operand} {ty1 ty2 : TypeId} {p1 p2 : String} {f1 f2 : Array Edge} {A : Option Addr} {n c kk : Nat} {ik : IntKind} {q : Int} {l : List UInt8} (T : Row1 P t e z bytes)
    (hx : look L x = some (.slice A n c)) (hi : look L i = some (.int ik q)) (hr : Rd w0 A n (bvs l)) (hq : q = (kk : Int)) (hk : kk < n) (hd1 : Nat.blt d1 N = true) (hd2 : Nat.blt d2 N = true)
    (h : ∀ p b, l[kk]? = some b → WQ P N ops (Below w0.heap.size w0) Qa rest ((d2, .int .u8 (b.toNat : Int)) :: (d1, p) :: L)) :
    WQ P N ops (Below w0.heap.size w0) Qa (⟨some d1, .indexAddr t x i, ty1, p1, f1, none⟩ :: ⟨some d2, .load e (.tmp d1), ty2, p2, f2, none⟩ :: rest) L :=
  wq_el T hx hi hr hq hk hd1 hd2 fun p u hu => by
    obtain ⟨b, hb, rfl⟩ := getElem?_bvs hu
    exact h p b hb

/-- The same where the byte is known ahead. -/
theorem wl_byK {d1 d2 : Nat} {x i : Operand} {ty1 ty2 : TypeId} {p1 p2 : String} {f1 f2 : Array Edge} {A : Option Addr} {n c kk : Nat} {ik : IntKind} {q : Int} {l : List UInt8} {b : UInt8} (T : Row1 P t e z bytes)
    (hx : look L x = some (.slice A n c)) (hi : look L i = some (.int ik q)) (hr : Rd w A n (bvs l)) (hq : q = (kk : Int)) (hb : l[kk]? = some b) (hd1 : Nat.blt d1 N = true) (hd2 : Nat.blt d2 N = true)
    (h : ∀ p, WL P N ops Q rest ((d2, .int .u8 (b.toNat : Int)) :: (d1, p) :: L) w) :
    WL P N ops Q (⟨some d1, .indexAddr t x i, ty1, p1, f1, none⟩ :: ⟨some d2, .load e (.tmp d1), ty2, p2, f2, none⟩ :: rest) L w :=
  wl_by T hx hi hr hq (by have := hr.1; rw [bvs_length] at this; rw [← this]; exact (List.getElem?_eq_some_iff.1 hb).1) hd1 hd2 fun p b' hb' => by rw [hb] at hb'; cases hb'; exact h p
theorem wq_byK {w0 : World} {Qa : Act → Prop} {d1 d2 : Nat} {x i : Operand} {ty1 ty2 : TypeId} {p1 p2 : String} {f1 f2 : Array Edge} {A : Option Addr} {n c kk : Nat} {ik : IntKind} {q : Int} {l : List UInt8} {b : UInt8} (T : Row1 P t e z bytes)
    (hx : look L x = some (.slice A n c)) (hi : look L i = some (.int ik q)) (hr : Rd w0 A n (bvs l)) (hq : q = (kk : Int)) (hb : l[kk]? = some b) (hd1 : Nat.blt d1 N = true) (hd2 : Nat.blt d2 N = true)
    (h : ∀ p, WQ P N ops (Below w0.heap.size w0) Qa rest ((d2, .int .u8 (b.toNat : Int)) :: (d1, p) :: L)) :
    WQ P N ops (Below w0.heap.size w0) Qa (⟨some d1, .indexAddr t x i, ty1, p1, f1, none⟩ :: ⟨some d2, .load e (.tmp d1), ty2, p2, f2, none⟩ :: rest) L :=
  wq_by T hx hi hr hq (by have := hr.1; rw [bvs_length] at this; rw [← this]; exact (List.getElem?_eq_some_iff.1 hb).1) hd1 hd2 fun p b' hb' => by rw [hb] at hb'; cases hb'; exact h p
theorem wq_byTK {w0 : World} {Qa : Act → Prop} {d1 d2 j1 g1 j2 g2 : Nat} {b1 w1 b2 w2 : Bool} {x i : Operand} {ty1 ty2 : TypeId} {p1 p2 : String} {f1 f2 : Array Edge} {A : Option Addr} {n c kk : Nat} {ik : IntKind} {q : Int} {l : List UInt8} {b : UInt8} (T : Row1 P t e z bytes)
    (hj1 : (ops[j1]?).bind (·.dst) = some g1) (hb1 : lookT L g1 = some (.bool b1)) (hg1 : Nat.blt g1 N = true) (he1 : b1 = w1)
    (hj2 : (ops[j2]?).bind (·.dst) = some g2) (hb2 : lookT L g2 = some (.bool b2)) (hg2 : Nat.blt g2 N = true) (hne : Nat.beq d1 g2 = false) (he2 : b2 = w2)
    (hx : look L x = some (.slice A n c)) (hi : look L i = some (.int ik q)) (hr : Rd w0 A n (bvs l)) (hq : q = (kk : Int)) (hb : l[kk]? = some b) (hd1 : Nat.blt d1 N = true) (hd2 : Nat.blt d2 N = true)
    (h : ∀ p, WQ P N ops (Below w0.heap.size w0) Qa rest ((d2, .int .u8 (b.toNat : Int)) :: (d1, p) :: L)) :
    WQ P N ops (Below w0.heap.size w0) Qa (⟨some d1, .indexAddr t x i, ty1, p1, f1, some (j1, w1)⟩ :: ⟨some d2, .load e (.tmp d1), ty2, p2, f2, some (j2, w2)⟩ :: rest) L := by
  have hk : kk < n := by have := hr.1; rw [bvs_length] at this; rw [← this]; exact (List.getElem?_eq_some_iff.1 hb).1
  have hn : 0 < n := by omega
  obtain ⟨bb, o, rfl, hlt, hc⟩ := hr.2 hn
  refine wq_take hj1 hb1 hg1 he1 (wq_val (fun w hw => opv_idx T hx hi hq hk) hd1 ?_)
  refine wq_take hj2 (b := b2) ?_ hg2 he2 (wq_val (v := .int .u8 (b.toNat : Int)) (fun w hw => opv_load T (by simp [look, lookT]; rfl) ?_) hd2 (h _))
  · simpa [lookT, hne] using hb2
  · rw [hw.cell (p := ⟨bb, o + kk, none⟩) hlt]
    refine hc kk _ ?_
    simp only [bvs, List.getElem?_map, hb]; rfl

/-- A slice expression. -/
def cutA (A : Option Addr) (c l : Nat) : Option Addr := if c = l then A else A.map (·.add l)
def SLo (L : FL) : Option Operand → Nat → Prop
  | none, l => l = 0
  | some x, l => ∃ k, look L x = some (.int k (l : Int))
def SHi (L : FL) (n : Nat) : Option Operand → Nat → Prop
  | none, h => h = n
  | some x, h => ∃ k, look L x = some (.int k (h : Int))
theorem opv_slice {x : Operand} {lo hi : Option Operand} {ty : TypeId} {A : Option Addr} {n c l h : Nat} (T : Row1 P t e z bytes) (hx : look L x = some (.slice A n c)) (hl : SLo L lo l) (hh : SHi L n hi h) (h1 : l ≤ h) (h2 : h ≤ c) :
    OpV P (.slice t x lo hi none) ty L w (.slice (cutA A c l) (h - l) (c - l)) w := fun ρ o hρ ho _ => by
  have e1 : (Instr.sliceBounds true n c (lo.map ρ) (hi.map ρ) none).run P w = .ok (l, h, c) w := by
    cases lo with
    | none =>
      cases hi with
      | none => have a := hl; have b := hh; simp only [SLo, SHi] at a b; subst a b; simp [Instr.sliceBounds]
      | some y =>
        have a := hl; obtain ⟨k, b⟩ := hh; simp only [SLo] at a; subst a
        simp [Instr.sliceBounds, Instr.sliceBound, hρ y _ b, asIntOf, h2]
    | some u =>
      obtain ⟨k, a⟩ := hl
      cases hi with
      | none => have b := hh; simp only [SHi] at b; subst b; simp [Instr.sliceBounds, Instr.sliceBound, hρ u _ a, asIntOf, h1]
      | some y =>
        obtain ⟨k', b⟩ := hh
        simp [Instr.sliceBounds, Instr.sliceBound, hρ u _ a, hρ y _ b, asIntOf, h1, h2]
  unfold execOp
  simp only [ho, Instr.sliceAt, Instr.slice, Sem.run_bind, run_underlying T.sl, Result.andThen_ok, hρ x _ hx, Option.map_none, e1, T.size]
  simp [cutA]
theorem Rd.cut {A : Option Addr} {n c l h : Nat} {xs : List Value} (hr : Rd w A n xs) (h1 : l ≤ h) (h2 : h ≤ n) (hc : n ≤ c) : Rd w (cutA A c l) (h - l) ((xs.take h).drop l) := by
  refine ⟨by have := hr.1; simp; omega, fun hn => ?_⟩
  obtain ⟨b, o, rfl, hb, hcell⟩ := hr.2 (by omega)
  have hne : ¬ c = l := by omega
  refine ⟨b, o + l, by simp [cutA, hne, Addr.add_lit], hb, fun j u hu => ?_⟩
  rw [List.getElem?_drop, List.getElem?_take] at hu
  split at hu
  · rw [Nat.add_assoc]; exact hcell _ u hu
  · cases hu
theorem bvs_cut (xs : List UInt8) (l h : Nat) : ((bvs xs).take h).drop l = bvs ((xs.take h).drop l) := by simp [bvs, List.map_take, List.map_drop]
theorem wl_sl {d : Nat} {x : Operand} {lo hi : Option Operand} {ty : TypeId} {pos : String} {aft : Array Edge} {A : Option Addr} {n c l h : Nat} (T : Row1 P t e z bytes) (hx : look L x = some (.slice A n c)) (hl : SLo L lo l) (hh : SHi L n hi h) (h1 : l ≤ h) (h2 : h ≤ c)
    (hd : Nat.blt d N = true) (hK : WL P N ops Q rest ((d, .slice (cutA A c l) (h - l) (c - l)) :: L) w) :
    WL P N ops Q (⟨some d, .slice t x lo hi none, ty, pos, aft, none⟩ :: rest) L w :=
  wl_val (opv_slice T hx hl hh h1 h2) hd hK
/-- A beginning of a row of the call's own. -/
theorem Ow.pre {base : Nat} {A : Option Addr} {n c h : Nat} {xs : List Value} (ho : Ow w base e A n c xs) (hh : h ≤ n) : Ow w base e A h c (xs.take h) := by
  refine ⟨by have := ho.len; simp; omega, ?_⟩
  rcases ho.2 with ⟨hv, hn⟩ | ⟨g, cap, cur, hv, hb, hg, hnc, hm, hs, ht⟩
  · injection hv with hA hn' hc
    subst hA hc
    have : h = 0 := by omega
    subst this
    exact .inl ⟨rfl, rfl⟩
  · injection hv with hA hn' hc
    subst hA hc
    refine .inr ⟨g, c, cur, rfl, hb, hg, by omega, hm, hs, ?_⟩
    rw [← ht, List.take_take]; congr 1; omega
theorem cutA_zero (A : Option Addr) (c : Nat) : cutA A c 0 = A := by
  cases A with
  | none => simp [cutA]
  | some a => simp [cutA, Addr.add]

/-- A store into a row of the call's own. -/
theorem opu_store {x y : Operand} {ty : TypeId} {a : Addr} {u v : Value} (T : Row1 P t e z bytes) (hx : look L x = some (.pointer (some a))) (hy : look L y = some u) (h1 : u.oneCell' = true) (hc : w.cell? a = some v) (hf : w.frozen? a = false) :
    OpU P (.store e x y) ty L w (w.setCell a u) := fun ρ o hρ ho _ => by
  have hs : u.cells = #[u] := cells_one h1
  have hst : (store a u).run P w = .ok () (w.setCell a u) := by
    cases u <;> first | (simp [Value.oneCell'] at h1; done) | simp [store, Sem.run, hc, hf]
  unfold execOp
  simp only [ho, Instr.storeAt, Instr.sureAddr, hρ x _ hx, hρ y _ hy, storeVar, Sem.run_bind, Sem.run_pure, Result.andThen_ok, T.size, hs]
  have h0 : a.add 0 = a := by simp [Addr.add]
  simp [storeCells, h0, hst]
theorem wl_set {d1 : Nat} {x i y : Operand} {ty1 ty2 : TypeId} {p1 p2 : String} {f1 f2 : Array Edge} {base : Nat} {A : Option Addr} {n c kk : Nat} {ik : IntKind} {q : Int} {u : Value} {xs : List Value} (T : Row1 P t e z bytes)
    (hx : look L x = some (.slice A n c)) (hi : look L i = some (.int ik q)) (ho : Ow w base e A n c xs) (hq : q = (kk : Int)) (hk : kk < n)
    (hy : ∀ p, look ((d1, p) :: L) y = some u) (h1 : u.oneCell' = true) (hd1 : Nat.blt d1 N = true)
    (h : ∀ p w', Ow w' base e A n c (xs.set kk u) → Gr w w' A → w'.heap.size = w.heap.size → WL P N ops Q rest ((d1, p) :: L) w') :
    WL P N ops Q (⟨some d1, .indexAddr t x i, ty1, p1, f1, none⟩ :: ⟨none, .store e (.tmp d1) y, ty2, p2, f2, none⟩ :: rest) L w := by
  obtain ⟨g, cap, hv, _, hlt⟩ := World.ownsRow.form ho (by omega)
  injection hv with hA hn hc; subst hA hc
  refine wl_val (opv_idx T hx hi hq hk) hd1 ?_
  have hl : kk < xs.length := by have := ho.len; omega
  have hcell := World.ownsRow.cellAt ho kk (by omega)
  have hfr := World.ownsRow.frozenAt ho kk
  rw [List.getElem?_eq_getElem hl] at hcell
  have hst := World.ownsRow.stored ho kk u
  refine wl_unitN (opu_store T (by simp [look, lookT]; rfl) (hy _) h1 (v := xs[kk]) (by simpa using hcell) (by simpa using hfr)) ?_
  simp only [Nat.zero_add]
  exact h _ _ hst.1 hst.2 (by simp [World.setCell])
end
end Go.Proofs.YtdgagffieobiiaaGreatDoor

/-
  The engine's rules for arrays and for variables that have a block of their own: made, read, written, cell by cell and whole; an array that is handed back by value. Nothing here names the program.
-/
namespace Go.Proofs.YtdgagffieobiiaaGreatDoor
open Go.RowKit

/-- Block g holds these cells, and may be written. -/
def Ar (w : World) (g : Nat) (t : TypeId) (cs : List Value) : Prop := w.heap[g]? = some (.cells cs.toArray t)
/-- A type of one cell that is no array and no struct. -/
structure Cell1 (P : Program) (e : TypeId) : Prop where
  size : (P.info? e).map (·.size) = some 1
  flat : (match P.underlying e with | some (.struct _) => true | some (.array _ _) => true | some _ => false | none => true) = false
theorem Cell1.agg {P : Program} {e : TypeId} (T : Cell1 P e) (w : World) : (isAgg e).run P w = .ok false w := by
  have h := T.flat
  unfold isAgg
  cases hu : P.underlying e with
  | none => rw [hu] at h; simp at h
  | some d =>
    rw [hu] at h
    rw [Sem.run_bind, run_underlying hu]
    cases d <;> first | (simp at h; done) | simp
theorem Cell1.sizeOf {P : Program} {e : TypeId} (T : Cell1 P e) (w : World) : (sizeOf e).run P w = .ok 1 w := by
  have h := T.size
  cases hq : P.info? e with
  | none => simp [hq] at h
  | some i =>
    have : i.size = 1 := by simpa [hq] using h
    simp [Go.sizeOf, typeInfo, hq, this]

section
variable {P : Program} {N : Nat} {ops : Array Oper} {Q : Exit → Act → World → Prop} {rest : List Oper} {L : FL} {w w' : World} {t e : TypeId} {g : Nat} {cs : List Value}
theorem Ar.lt (h : Ar w g t cs) : g < w.heap.size := by
  rcases Nat.lt_or_ge g w.heap.size with h1 | h1
  · exact h1
  · unfold Ar at h; rw [Array.getElem?_eq_none h1] at h; cases h
theorem Ar.below {B : Nat} (h : Ar w g t cs) (hb : Below B w w') (hg : w.heap.size ≤ B) : Ar w' g t cs := by
  unfold Ar; rw [hb.block g (by have := h.lt; omega)]; exact h
theorem Ar.bel (h : Ar w g t cs) (hb : Below w.heap.size w w') : Ar w' g t cs := h.below hb (Nat.le_refl _)
theorem Ar.new (w : World) (t : TypeId) (cs : List Value) : Ar (w.alloc (.cells cs.toArray t)) w.heap.size t cs := heap_alloc_new w _
theorem Ar.cell (h : Ar w g t cs) (k : Nat) : w.cell? ⟨g, k, none⟩ = cs[k]? := by
  rw [cell_of_row w g k cs.toArray t (0, 0) h]; simp
theorem Ar.frozen (h : Ar w g t cs) (k : Nat) : w.frozen? ⟨g, k, none⟩ = false := by
  unfold World.frozen?; rw [show w.heap[(⟨g, k, none⟩ : Addr).block]? = some (.cells cs.toArray t) from h]; simp
theorem Ar.setCell (h : Ar w g t cs) (k : Nat) (v : Value) : Ar (w.setCell ⟨g, k, none⟩ v) g t (cs.set k v) := by
  unfold Ar World.setCell
  simp only [Array.getElem?_modify, if_true]
  rw [show w.heap[g]? = some (.cells cs.toArray t) from h]
  simp
theorem Ar.ne {g' : Nat} {t' : TypeId} {cs' : List Value} (h : Ar w g' t' cs') (k : Nat) (v : Value) (hne : g ≠ g') : Ar (w.setCell ⟨g, k, none⟩ v) g' t' cs' := by
  unfold Ar World.setCell
  simp only [Array.getElem?_modify, if_neg hne]
  exact h
theorem below_setCell {B k : Nat} {v : Value} {w0 : World} (h : Below B w0 w) (hg : B ≤ g) : Below B w0 (w.setCell ⟨g, k, none⟩ v) :=
  h.trans ⟨rfl, rfl, rfl, by simp [World.setCell], fun j hj => by
    simp only [World.setCell, Array.getElem?_modify]
    rw [if_neg (by omega)]⟩
theorem Ar.setRow {cs' : List Value} (h : Ar w g t cs) : Ar (w.setRow g cs'.toArray) g t cs' := setRow_heap w g _ _ _ _ h
theorem below_setRow {B : Nat} {cs' : Array Value} {w0 : World} (h : Below B w0 w) (hg : B ≤ g) : Below B w0 (w.setRow g cs') :=
  h.trans ⟨rfl, rfl, rfl, by simp [World.setRow], fun j hj => by
    simp only [World.setRow, Array.getElem?_modify]
    rw [if_neg (by omega)]⟩

/-- A variable with a block of its own. -/
theorem opv_alloc {ty : TypeId} {z : Value} (hz : (P.info? t).map (·.zero) = some (some z)) : OpV P (.alloc t) ty L w (.pointer (some ⟨w.heap.size, 0, none⟩)) (w.alloc (.cells z.cells t)) := fun ρ o hρ ho _ => by
  cases hq : P.info? t with
  | none => simp [hq] at hz
  | some i =>
    have : i.zero = some z := by simpa [hq] using hz
    simp [execOp, ho, Instr.alloc, zeroValue, typeInfo, hq, this, newVar, newRow]
theorem wl_alloc {d : Nat} {ty : TypeId} {pos : String} {aft : Array Edge} {z : Value} (hz : (P.info? t).map (·.zero) = some (some z)) (hd : Nat.blt d N = true)
    (h : ∀ w', Ar w' w.heap.size t z.cells.toList → Below w.heap.size w w' → w'.heap.size = w.heap.size + 1 → WL P N ops Q rest ((d, .pointer (some ⟨w.heap.size, 0, none⟩)) :: L) w') :
    WL P N ops Q (⟨some d, .alloc t, ty, pos, aft, none⟩ :: rest) L w :=
  wl_val (opv_alloc hz) hd (h _ (by simpa using Ar.new w t z.cells.toList) ((Below.refl _ _).alloc (Nat.le_refl _) _) (by simp))
theorem opv_idxA {x i : Operand} {ty : TypeId} {n kk : Nat} {ik : IntKind} {q : Int} (ht : P.underlying t = some (.array n e)) (T : Cell1 P e) (hx : look L x = some (.pointer (some ⟨g, 0, none⟩))) (hi : look L i = some (.int ik q)) (hq : q = (kk : Int)) (hk : kk < n) :
    OpV P (.indexAddr t x i) ty L w (.pointer (some ⟨g, kk, none⟩)) w := fun ρ op hρ ho _ => by
  subst hq
  simp [execOp, ho, Instr.indexAt, asIntOf, hρ x _ hx, hρ i _ hi, run_underlying ht, hk, T.sizeOf, Addr.add_lit, Instr.sureAddr]
theorem opv_loadC {x : Operand} {ty : TypeId} {a : Addr} {u : Value} (T : Cell1 P e) (hx : look L x = some (.pointer (some a))) (hc : w.cell? a = some u) : OpV P (.load e x) ty L w u w := fun ρ op hρ ho _ => by
  simp [execOp, ho, Instr.loadAt, Instr.sureAddr, loadVar, hρ x _ hx, T.agg, hc]
theorem opu_storeC {x y : Operand} {ty : TypeId} {a : Addr} {u v : Value} (T : Cell1 P e) (hx : look L x = some (.pointer (some a))) (hy : look L y = some u) (h1 : u.oneCell' = true) (hc : w.cell? a = some v) (hf : w.frozen? a = false) :
    OpU P (.store e x y) ty L w (w.setCell a u) := fun ρ o hρ ho _ => by
  have hs : u.cells = #[u] := cells_one h1
  have hst : (store a u).run P w = .ok () (w.setCell a u) := by
    cases u <;> first | (simp [Value.oneCell'] at h1; done) | simp [store, Sem.run, hc, hf]
  unfold execOp
  simp only [ho, Instr.storeAt, Instr.sureAddr, hρ x _ hx, hρ y _ hy, storeVar, Sem.run_bind, Sem.run_pure, Result.andThen_ok, T.sizeOf, hs]
  have h0 : a.add 0 = a := by simp [Addr.add]
  simp [storeCells, h0, hst]
/-- a[i] = v -/
theorem wl_setA {d1 : Nat} {x i y : Operand} {ty1 ty2 : TypeId} {p1 p2 : String} {f1 f2 : Array Edge} {n kk : Nat} {ik : IntKind} {q : Int} {u : Value} (ht : P.underlying t = some (.array n e)) (T : Cell1 P e)
    (hx : look L x = some (.pointer (some ⟨g, 0, none⟩))) (hi : look L i = some (.int ik q)) (ha : Ar w g t cs) (hl : cs.length = n) (hq : q = (kk : Int)) (hk : kk < n)
    (hy : ∀ p, look ((d1, p) :: L) y = some u) (h1 : u.oneCell' = true) (hd1 : Nat.blt d1 N = true)
    (h : ∀ p, WL P N ops Q rest ((d1, p) :: L) (w.setCell ⟨g, kk, none⟩ u)) :
    WL P N ops Q (⟨some d1, .indexAddr t x i, ty1, p1, f1, none⟩ :: ⟨none, .store e (.tmp d1) y, ty2, p2, f2, none⟩ :: rest) L w := by
  refine wl_val (opv_idxA ht T hx hi hq hk) hd1 ?_
  refine wl_unitN (opu_storeC T (by simp [look, lookT]) (hy _) h1 (v := cs[kk]'(by omega)) ?_ (ha.frozen _)) (h _)
  exact (ha.cell _).trans (List.getElem?_eq_getElem _)
/-- a[i] -/
theorem wl_elA {d1 d2 : Nat} {x i : Operand} {ty1 ty2 : TypeId} {p1 p2 : String} {f1 f2 : Array Edge} {n kk : Nat} {ik : IntKind} {q : Int} {u : Value} (ht : P.underlying t = some (.array n e)) (T : Cell1 P e)
    (hx : look L x = some (.pointer (some ⟨g, 0, none⟩))) (hi : look L i = some (.int ik q)) (ha : Ar w g t cs) (hl : cs.length = n) (hq : q = (kk : Int)) (hu : cs[kk]? = some u) (hd1 : Nat.blt d1 N = true) (hd2 : Nat.blt d2 N = true)
    (h : ∀ p, WL P N ops Q rest ((d2, u) :: (d1, p) :: L) w) :
    WL P N ops Q (⟨some d1, .indexAddr t x i, ty1, p1, f1, none⟩ :: ⟨some d2, .load e (.tmp d1), ty2, p2, f2, none⟩ :: rest) L w := by
  have hk : kk < n := by have := (List.getElem?_eq_some_iff.1 hu).1; omega
  refine wl_val (opv_idxA ht T hx hi hq hk) hd1 (wl_val (opv_loadC T (by simp [look, lookT]; rfl) ?_) hd2 (h _))
  rw [ha.cell]; exact hu
/-- The whole array as a value. -/
theorem opv_loadW {x : Operand} {ty : TypeId} {n : Nat} (ht : P.underlying t = some (.array n e)) (hi : (P.info? t).map (·.size) = some cs.length) (hx : look L x = some (.pointer (some ⟨g, 0, none⟩))) (ha : Ar w g t cs) : OpV P (.load t x) ty L w (.agg cs.toArray) w := fun ρ op hρ ho _ => by
  have := run_loadVar_row (P := P) w g t t cs.toArray (0, 0) _ ha ht rfl (by simpa using hi)
  simp [execOp, ho, Instr.loadAt, Instr.sureAddr, hρ x _ hx, this]
theorem opu_storeW {x y : Operand} {ty : TypeId} {cs' : List Value} (hi : (P.info? t).map (·.size) = some cs.length) (hl : cs'.length = cs.length) (hx : look L x = some (.pointer (some ⟨g, 0, none⟩))) (hy : look L y = some (.agg cs'.toArray)) (ha : Ar w g t cs) (h1 : ∀ v ∈ cs', v.oneCell' = true) :
    OpU P (.store t x y) ty L w (w.setRow g cs'.toArray) := fun ρ o hρ ho _ => by
  have := run_storeVar_row (P := P) w g t t cs.toArray cs'.toArray ha (by simp [hl, hi]) (by simp [hl]) (by simpa [Array.all_eq_true_iff_forall_mem] using h1)
  simp [execOp, ho, Instr.storeAt, Instr.sureAddr, hρ x _ hx, hρ y _ hy, this]
/-- An array is handed back by value. -/
theorem we_retA {fn : Func} {R : Ending → World → Prop} {p n : Nat} (hr : fn.results = #[.cell p t]) (hx : lookT L p = some (.pointer (some ⟨g, 0, none⟩))) (ht : P.underlying t = some (.array n e)) (hi : (P.info? t).map (·.size) = some cs.length) (ha : Ar w g t cs)
    (h : R (.returned (.agg cs.toArray)) w) : WE N (bodyPost P fn R) .ret L w := fun a hA =>
  ⟨hA.nodefer, _, by
    have := run_loadVar_row (P := P) w g t t cs.toArray (0, 0) _ ha ht rfl (by simpa using hi)
    have e := hA.get p _ hx
    rw [Array.getD_eq_getD_getElem?] at e
    simp [results, hr, e, asAddr, this], h⟩
end
end Go.Proofs.YtdgagffieobiiaaGreatDoor

/-
  The engine's rules for structs in memory and pointers: the address of a field, the test for nil, pointers held against one another. Nothing here names the program.
-/
namespace Go.Proofs.YtdgagffieobiiaaGreatDoor
open Go.RowKit

section
variable {P : Program} {N : Nat} {ops : Array Oper} {Q : Exit → Act → World → Prop} {rest : List Oper} {L : FL} {w w' : World} {t e : TypeId}
theorem opv_nilOk {x : Operand} {ty : TypeId} {a : Addr} (hx : look L x = some (.pointer (some a))) : OpV P (.nilCheck x) ty L w (.pointer (some a)) w := fun ρ o hρ ho _ => by
  simp [execOp, ho, hρ x _ hx]
/-- Field k of struct type t lies off cells behind its beginning. -/
def FieldAt (P : Program) (t : TypeId) (k off : Nat) : Prop := ∀ (a : Addr) (w : World), (Instr.fieldAt t (.pointer (some a)) k).run P w = .ok (.pointer (some (a.add off))) w
theorem fieldAt_mk {fs : Array Field} {f : Field} {k off : Nat} (hu : P.underlying t = some (.struct fs)) (hf : fs[k]? = some f) (ho : f.offset = off) (hs : ((P.info? f.type).map fun i => decide (i.size = 0)) = some false) : FieldAt P t k off := fun a w => by
  cases hq : P.info? f.type with
  | none => simp [hq] at hs
  | some i =>
    have h0 : ¬ i.size = 0 := by simpa [hq] using hs
    subst ho
    simp [Instr.fieldAt, run_underlying hu, hf, Instr.sureAddr, fieldPlace, sizeOf, typeInfo, hq, h0]
theorem opv_fa {x : Operand} {ty : TypeId} {k off b o : Nat} (F : FieldAt P t k off) (hx : look L x = some (.pointer (some ⟨b, o, none⟩))) : OpV P (.fieldAddr t x k) ty L w (.pointer (some ⟨b, o + off, none⟩)) w := fun ρ op hρ ho _ => by
  have := F ⟨b, o, none⟩ w
  rw [Addr.add_lit] at this
  unfold execOp
  simp only [ho, hρ x _ hx, Sem.run_bind, this]
  simp
theorem bin_eqlPtrNil {te : TypeId} {a : Addr} (ht : P.underlying t = some (.pointer te)) : BinV P .eql t (.pointer (some a)) (.pointer none) (.bool false) := .mk fun x y w => by
  have h : ∀ d : Nat, (Op.equalIn (d + 1) t (.pointer (some a)) (.pointer none)).run P w = .ok false w := fun d => by simp [Op.equalIn, run_underlying ht]
  simp [eqGuard, binOp, Op.equal, Op.maxDepth, h 9999]
theorem bin_eqlNilNil {te : TypeId} (ht : P.underlying t = some (.pointer te)) : BinV P .eql t (.pointer none) (.pointer none) (.bool true) := .mk fun x y w => by
  have h : ∀ d : Nat, (Op.equalIn (d + 1) t (.pointer none) (.pointer none)).run P w = .ok true w := fun d => by simp [Op.equalIn, run_underlying ht]
  simp [eqGuard, binOp, Op.equal, Op.maxDepth, h 9999]
/-- A cell of a variable that has a block of its own: read, and written. -/
theorem opv_ldA {x : Operand} {ty : TypeId} {g k : Nat} {T : TypeId} {cs : List Value} {u : Value} (E : Cell1 P e) (ha : Ar w g T cs) (hx : look L x = some (.pointer (some ⟨g, k, none⟩))) (hk : cs[k]? = some u) : OpV P (.load e x) ty L w u w :=
  opv_loadC E hx ((ha.cell k).trans hk)
theorem wl_stA {x y : Operand} {ty : TypeId} {pos : String} {aft : Array Edge} {g k : Nat} {T : TypeId} {u : Value} {cs : List Value} (E : Cell1 P e) (ha : Ar w g T cs) (hx : look L x = some (.pointer (some ⟨g, k, none⟩))) (hk : k < cs.length)
    (hy : look L y = some u) (h1 : u.oneCell' = true)
    (h : ∀ w', Ar w' g T (cs.set k u) → Gr w w' (some ⟨g, 0, none⟩) → w'.heap.size = w.heap.size → WL P N ops Q rest L w') :
    WL P N ops Q (⟨none, .store e x y, ty, pos, aft, none⟩ :: rest) L w := by
  refine wl_unitN (opu_storeC E hx hy h1 (v := cs[k]) ((ha.cell k).trans (List.getElem?_eq_getElem hk)) (ha.frozen k)) (h _ (ha.setCell k u) ⟨rfl, rfl, rfl, by simp [World.setCell], fun j _ hj => ?_⟩ (by simp [World.setCell]))
  simp only [World.setCell, Array.getElem?_modify]
  rw [if_neg (by simp at hj; exact fun h => hj h.symm)]
/-- A block that is known whole stays where another one has changed. -/
theorem Ar.grA {g : Nat} {T : TypeId} {cs : List Value} {A : Option Addr} (h : Ar w g T cs) (hg : Gr w w' A) (hne : ∀ a, A = some a → a.block ≠ g) : Ar w' g T cs := by
  unfold Ar
  rw [hg.block g h.lt fun hk => by
    cases A with
    | none => simp at hk
    | some a => simp at hk; exact hne a rfl hk.symm]
  exact h
end
end Go.Proofs.YtdgagffieobiiaaGreatDoor

/-
  The engine's rules for structs that have a block of their own (made, read, written whole; built; handed back), and for interface values: made, asked for their type, held against nil. Nothing here names the program.
-/
namespace Go.Proofs.YtdgagffieobiiaaGreatDoor
open Go.RowKit

/-- A struct type of k cells. -/
structure StT (P : Program) (t : TypeId) (k : Nat) : Prop where
  un : (match P.underlying t with | some (.struct _) => true | _ => false) = true
  size : (P.info? t).map (·.size) = some k
section
variable {P : Program} {N : Nat} {ops : Array Oper} {Q : Exit → Act → World → Prop} {rest : List Oper} {L : FL} {w w' : World} {t e : TypeId} {g : Nat} {cs cs' : List Value}
theorem StT.get {k : Nat} (T : StT P t k) : ∃ fs, P.underlying t = some (.struct fs) := by
  have h := T.un
  cases hu : P.underlying t with
  | none => rw [hu] at h; cases h
  | some d => rw [hu] at h; cases d <;> first | exact ⟨_, rfl⟩ | cases h
theorem opv_box {x : Operand} {ty : TypeId} {v : Value} (hx : look L x = some v) : OpV P (.box t x) ty L w (.pointer (some ⟨w.heap.size, 0, none⟩)) (w.alloc (.cells v.cells t)) := fun ρ o hρ ho _ => by
  simp [execOp, ho, Instr.box, hρ x _ hx, newVar, newRow]
theorem cells_agg (xs : Array Value) : (Value.agg xs).cells = xs := by simp [Value.cells]
theorem wl_box {d : Nat} {x : Operand} {ty : TypeId} {pos : String} {aft : Array Edge} (hx : look L x = some (.agg cs.toArray)) (hd : Nat.blt d N = true)
    (h : ∀ g w', w.heap.size ≤ g → Ar w' g t cs → Below w.heap.size w w' → WL P N ops Q rest ((d, .pointer (some ⟨g, 0, none⟩)) :: L) w') :
    WL P N ops Q (⟨some d, .box t x, ty, pos, aft, none⟩ :: rest) L w :=
  wl_val (opv_box hx) hd (h _ _ (Nat.le_refl _) (by rw [cells_agg]; exact Ar.new w t cs) ((Below.refl _ _).alloc (Nat.le_refl _) _))
/-- A new variable of a struct type, zero. -/
theorem wl_new {d : Nat} {ty : TypeId} {pos : String} {aft : Array Edge} (hz : (P.info? t).map (·.zero) = some (some (.agg cs.toArray))) (hd : Nat.blt d N = true)
    (h : ∀ g w', w.heap.size ≤ g → Ar w' g t cs → Below w.heap.size w w' → WL P N ops Q rest ((d, .pointer (some ⟨g, 0, none⟩)) :: L) w') :
    WL P N ops Q (⟨some d, .alloc t, ty, pos, aft, none⟩ :: rest) L w :=
  wl_val (opv_alloc hz) hd (h _ _ (Nat.le_refl _) (by rw [cells_agg]; exact Ar.new w t cs) ((Below.refl _ _).alloc (Nat.le_refl _) _))
theorem opv_loadS {x : Operand} {ty T : TypeId} (S : StT P t cs.length) (hx : look L x = some (.pointer (some ⟨g, 0, none⟩))) (ha : Ar w g T cs) : OpV P (.load t x) ty L w (.agg cs.toArray) w := fun ρ op hρ ho _ => by
  obtain ⟨fs, hu⟩ := S.get
  have := run_loadVar_row (P := P) w g T t cs.toArray (0, 0) _ ha hu rfl (by simpa using S.size)
  simp [execOp, ho, Instr.loadAt, Instr.sureAddr, hρ x _ hx, this]
theorem opv_loadX {x : Operand} {ty T : TypeId} (hx : look L x = some (.pointer (some ⟨g, 0, none⟩))) (ha : Ar w g T cs) (S : StT P t cs.length) : OpV P (.load t x) ty L w (.agg cs.toArray) w := opv_loadS S hx ha
theorem opv_ldX {x : Operand} {ty : TypeId} {k : Nat} {T : TypeId} {u : Value} (hx : look L x = some (.pointer (some ⟨g, k, none⟩))) (ha : Ar w g T cs) (E : Cell1 P e) (hk : cs[k]? = some u) : OpV P (.load e x) ty L w u w := opv_ldA E ha hx hk
theorem gr_setRow {x : Array Value} : Gr w (w.setRow g x) (some ⟨g, 0, none⟩) := ⟨rfl, rfl, rfl, by simp [World.setRow], fun j _ hj => by
  simp only [World.setRow, Array.getElem?_modify]
  rw [if_neg (by simp at hj; exact fun h => hj h.symm)]⟩
theorem wl_storeS {x y : Operand} {ty T : TypeId} {pos : String} {aft : Array Edge} (S : StT P t cs'.length) (ha : Ar w g T cs) (hx : look L x = some (.pointer (some ⟨g, 0, none⟩))) (hy : look L y = some (.agg cs'.toArray)) (hl : cs.length = cs'.length) (h1 : cs'.all (·.oneCell') = true)
    (h : ∀ w', Ar w' g T cs' → Gr w w' (some ⟨g, 0, none⟩) → w'.heap.size = w.heap.size → WL P N ops Q rest L w') :
    WL P N ops Q (⟨none, .store t x y, ty, pos, aft, none⟩ :: rest) L w := by
  refine wl_unitN (w' := w.setRow g cs'.toArray) (fun ρ o hρ ho _ => ?_) (h _ ha.setRow gr_setRow (by simp [World.setRow]))
  have := run_storeVar_row (P := P) w g T t cs.toArray cs'.toArray ha (by simpa using S.size) (by simpa using hl) (by simpa [Array.all_eq_true_iff_forall_mem] using h1)
  simp [execOp, ho, Instr.storeAt, Instr.sureAddr, hρ x _ hx, hρ y _ hy, this]
/-- A struct is handed back by value; beside another result. -/
theorem we_retC {fn : Func} {R : Ending → World → Prop} {p : Nat} {T : TypeId} (hr : fn.results = #[.cell p t]) (hx : lookT L p = some (.pointer (some ⟨g, 0, none⟩))) (ha : Ar w g T cs) (S : StT P t cs.length)
    (h : R (.returned (.agg cs.toArray)) w) : WE N (bodyPost P fn R) .ret L w := fun a hA =>
  ⟨hA.nodefer, _, by
    obtain ⟨fs, hu⟩ := S.get
    have := run_loadVar_row (P := P) w g T t cs.toArray (0, 0) _ ha hu rfl (by simpa using S.size)
    have e := hA.get p _ hx
    rw [Array.getD_eq_getD_getElem?] at e
    simp [results, hr, e, asAddr, this], h⟩
theorem we_retC1 {fn : Func} {R : Ending → World → Prop} {p q : Nat} {T : TypeId} {v : Value} (hr : fn.results = #[.cell p t, .tmp q]) (hx : lookT L p = some (.pointer (some ⟨g, 0, none⟩))) (hq : lookT L q = some v) (ha : Ar w g T cs) (S : StT P t cs.length)
    (h : R (.returned (.tuple #[.agg cs.toArray, v])) w) : WE N (bodyPost P fn R) .ret L w := fun a hA =>
  ⟨hA.nodefer, _, by
    obtain ⟨fs, hu⟩ := S.get
    have := run_loadVar_row (P := P) w g T t cs.toArray (0, 0) _ ha hu rfl (by simpa using S.size)
    have e := hA.get p _ hx
    have e2 := hA.get q _ hq
    rw [Array.getD_eq_getD_getElem?] at e e2
    simp [results, hr, e, e2, asAddr, this], h⟩
/-- Parts of a struct. -/
def LooksP (L : FL) : List (Nat × Operand) → List (Nat × Value) → Prop
  | [], [] => True
  | (i, x) :: xs, (j, v) :: vs => i = j ∧ look L x = some v ∧ LooksP L xs vs
  | _, _ => False
theorem LooksP.map {ρ : Operand → Value} (hρ : ∀ x u, look L x = some u → ρ x = u) : ∀ {xs : List (Nat × Operand)} {vs : List (Nat × Value)}, LooksP L xs vs → xs.map (fun p => (p.1, ρ p.2)) = vs
  | [], [], _ => rfl
  | (i, x) :: xs, (j, v) :: vs, h => by rw [List.map_cons, LooksP.map hρ h.2.2, h.1, hρ x v h.2.1]
theorem opv_build {xs : List (Nat × Operand)} {vs : List (Nat × Value)} {ty : TypeId} (hx : LooksP L xs vs) (hb : P.built t vs = some cs.toArray) : OpV P (.build t xs.toArray) ty L w (.agg cs.toArray) w := fun ρ o hρ ho _ => by
  have hm : (xs.toArray.map fun (p : Nat × Operand) => (p.1, ρ p.2)) = vs.toArray := by
    rw [List.map_toArray, LooksP.map hρ hx]
  have := run_build (P := P) w t vs.toArray cs.toArray (by simpa using hb)
  unfold execOp
  simp only [ho]
  rw [hm, Sem.run_bind, this]
  simp
end
end Go.Proofs.YtdgagffieobiiaaGreatDoor

/-
  Rows whose elements have several cells, and whose cells may lead on to other rows: read, and held in rows of the call's own; the rules to index, load, write out, append and cut them. Nothing here names the program.
-/
namespace Go.Proofs.YtdgagffieobiiaaGreatDoor
open Go.RowKit

/-- What some cells hold, as far as the blocks of a set tell it. -/
structure El where
  P : World → (Nat → Prop) → List Value → Prop
  move : ∀ {w w' : World} {S S' : Nat → Prop} {cs : List Value}, P w S cs → w.heap.size ≤ w'.heap.size → (∀ b, b < w.heap.size → S b → S' b ∧ w'.heap[b]? = w.heap[b]?) → P w' S' cs
/-- All blocks. -/
def All : Nat → Prop := fun _ => True
/-- All blocks but that of an address. -/
def But (A : Option Addr) : Nat → Prop := fun b => ∀ a, A = some a → b ≠ a.block
section
variable {w w' : World} {S S' : Nat → Prop} {cs : List Value} {E : El}
theorem El.mono (h : E.P w S cs) (hs : ∀ b, b < w.heap.size → S b → S' b) : E.P w S' cs := E.move h (Nat.le_refl _) fun b hb h => ⟨hs b hb h, rfl⟩
theorem El.all (h : E.P w S cs) : E.P w All cs := El.mono h fun _ _ _ => trivial
theorem El.below (h : E.P w S cs) (hb : Below w.heap.size w w') : E.P w' S cs := E.move h hb.size fun b hlt h => ⟨h, hb.block b hlt⟩
theorem El.belowI {B : Nat} (h : E.P w S cs) (hb : Below B w w') (hs : ∀ b, b < w.heap.size → S b → b < B) : E.P w' S cs := E.move h hb.size fun b hlt h => ⟨h, hb.block b (hs b hlt h)⟩
theorem El.gr {A : Option Addr} (h : E.P w S cs) (g : Gr w w' A) (hs : ∀ b, b < w.heap.size → S b → But A b) : E.P w' S cs := E.move h g.size fun b hlt h => ⟨h, g.block b hlt fun hk => by
  cases A with
  | none => simp at hk
  | some a => simp at hk; exact hs b hlt h a rfl hk⟩
end
/-- A cell that holds just this. -/
def vEl (u : Value) : El where
  P _ _ cs := cs = [u]
  move h _ _ := h
/-- A cell that holds bytes. -/
def byEl (xs : List UInt8) : El where
  P w S cs := ∃ (A : Option Addr) (c : Nat), cs = [.slice A xs.length c] ∧ xs.length ≤ c ∧ Rd w A xs.length (bvs xs) ∧ (∀ a, A = some a → 0 < xs.length → S a.block)
  move := by
    rintro w w' S S' cs ⟨A, c, rfl, hc, hr, hs⟩ hz h
    refine ⟨A, c, rfl, hc, ⟨hr.1, fun hn => ?_⟩, fun a ha hn => ?_⟩
    · obtain ⟨b, o, rfl, hb, hcell⟩ := hr.2 hn
      exact ⟨b, o, rfl, by omega, fun j u hu => (World.cell?_of_block (a := ⟨b, o + j, none⟩) (h b hb (hs _ rfl hn)).2).trans (hcell j u hu)⟩
    · obtain ⟨b, o, rfl, hb, _⟩ := hr.2 hn
      cases ha
      exact (h b hb (hs _ rfl hn)).1
theorem byEl.mk {w : World} {A : Option Addr} {c : Nat} {xs : List UInt8} {S : Nat → Prop} (hr : Rd w A xs.length (bvs xs)) (hc : xs.length ≤ c) (hs : ∀ a, A = some a → 0 < xs.length → S a.block) : (byEl xs).P w S [.slice A xs.length c] := ⟨A, c, rfl, hc, hr, hs⟩

/-- Groups of k cells hold the elements. -/
def Grp (k : Nat) (w : World) (S : Nat → Prop) (els : List El) (css : List (List Value)) : Prop :=
  css.length = els.length ∧ ∀ (i : Nat) cs, css[i]? = some cs → cs.length = k ∧ ∃ E, els[i]? = some E ∧ E.P w S cs
section
variable {k : Nat} {w w' : World} {S S' : Nat → Prop} {els : List El} {css : List (List Value)}
theorem Grp.move (h : Grp k w S els css) (hz : w.heap.size ≤ w'.heap.size) (hm : ∀ b, b < w.heap.size → S b → S' b ∧ w'.heap[b]? = w.heap[b]?) : Grp k w' S' els css :=
  ⟨h.1, fun i cs hi => by obtain ⟨h1, E, h2, h3⟩ := h.2 i cs hi; exact ⟨h1, E, h2, E.move h3 hz hm⟩⟩
theorem Grp.mono (h : Grp k w S els css) (hs : ∀ b, b < w.heap.size → S b → S' b) : Grp k w S' els css := h.move (Nat.le_refl _) fun b hb h => ⟨hs b hb h, rfl⟩
theorem Grp.all (h : Grp k w S els css) : Grp k w All els css := h.mono fun _ _ _ => trivial
theorem Grp.below (h : Grp k w S els css) (hb : Below w.heap.size w w') : Grp k w' S els css := h.move hb.size fun b hlt h => ⟨h, hb.block b hlt⟩
theorem Grp.gr {A : Option Addr} (h : Grp k w S els css) (g : Gr w w' A) (hs : ∀ b, b < w.heap.size → S b → But A b) : Grp k w' S els css := h.move g.size fun b hlt h => ⟨h, g.block b hlt fun hk => by
  cases A with
  | none => simp at hk
  | some a => simp at hk; exact hs b hlt h a rfl hk⟩
theorem Grp.len (h : Grp k w S els css) : css.flatten.length = els.length * k := by
  rw [← h.1]
  have h2 : ∀ cs ∈ css, cs.length = k := fun cs hc => by obtain ⟨i, hi, rfl⟩ := List.getElem_of_mem hc; exact (h.2 i _ (List.getElem?_eq_getElem hi)).1
  clear h
  induction css with
  | nil => simp
  | cons x css ih =>
    simp only [List.flatten_cons, List.length_append, List.length_cons, ih fun cs hc => h2 cs (List.mem_cons_of_mem _ hc), h2 x List.mem_cons_self]
    rw [Nat.add_mul]; omega
theorem Grp.nil (k : Nat) (w : World) (S : Nat → Prop) : Grp k w S [] [] := ⟨rfl, by simp⟩
theorem Grp.append {els' : List El} {css' : List (List Value)} (h : Grp k w S els css) (h' : Grp k w S els' css') : Grp k w S (els ++ els') (css ++ css') := by
  refine ⟨by simp [h.1, h'.1], fun i cs hi => ?_⟩
  rw [List.getElem?_append] at hi ⊢
  rw [← h.1]
  split at hi
  · rename_i hlt
    rw [if_pos hlt]; exact h.2 i cs hi
  · rename_i hlt
    rw [if_neg hlt]; exact h'.2 _ cs hi
theorem Grp.one {cs : List Value} {E : El} (h : E.P w S cs) (hk : cs.length = k) : Grp k w S [E] [cs] := by
  refine ⟨rfl, fun i cs' hi => ?_⟩
  match i, hi with
  | 0, hi => simp at hi; subst hi; exact ⟨hk, E, rfl, h⟩
theorem Grp.take (h : Grp k w S els css) (n : Nat) : Grp k w S (els.take n) (css.take n) := by
  refine ⟨by simp [h.1], fun i cs hi => ?_⟩
  rw [List.getElem?_take] at hi ⊢
  split at hi
  · rename_i hlt; rw [if_pos hlt]; exact h.2 i cs hi
  · cases hi
theorem Grp.drop (h : Grp k w S els css) (n : Nat) : Grp k w S (els.drop n) (css.drop n) := by
  refine ⟨by simp [h.1], fun i cs hi => ?_⟩
  rw [List.getElem?_drop] at hi ⊢
  exact h.2 _ cs hi
theorem Grp.at (h : Grp k w S els css) {i : Nat} {E : El} (hi : els[i]? = some E) : ∃ cs, css[i]? = some cs ∧ cs.length = k ∧ E.P w S cs := by
  have hlt : i < css.length := by rw [h.1]; exact (List.getElem?_eq_some_iff.1 hi).1
  obtain ⟨h1, E', h2, h3⟩ := h.2 i _ (List.getElem?_eq_getElem hlt)
  rw [hi] at h2; cases h2
  exact ⟨_, List.getElem?_eq_getElem hlt, h1, h3⟩
theorem flat_get : ∀ {css : List (List Value)} {i j : Nat} {cs : List Value} {u : Value}, (∀ cs ∈ css, cs.length = k) → css[i]? = some cs → cs[j]? = some u → css.flatten[i * k + j]? = some u
  | [], i, j, cs, u, _, hi, _ => by simp at hi
  | x :: css, 0, j, cs, u, hk, hi, hj => by
    simp at hi; subst hi
    have hl := (List.getElem?_eq_some_iff.1 hj).1
    rw [List.flatten_cons, Nat.zero_mul, Nat.zero_add, List.getElem?_append_left hl]; exact hj
  | x :: css, i + 1, j, cs, u, hk, hi, hj => by
    have hx := hk x List.mem_cons_self
    rw [List.flatten_cons, List.getElem?_append_right (by rw [hx, Nat.add_mul]; omega), hx, show (i + 1) * k + j - k = i * k + j by rw [Nat.add_mul]; omega]
    exact flat_get (fun cs hc => hk cs (List.mem_cons_of_mem _ hc)) (by simpa using hi) hj
theorem Grp.ks (h : Grp k w S els css) : ∀ cs ∈ css, cs.length = k := fun cs hc => by obtain ⟨i, hi, rfl⟩ := List.getElem_of_mem hc; exact (h.2 i _ (List.getElem?_eq_getElem hi)).1
theorem flat_take (n : Nat) : ∀ {css : List (List Value)}, (∀ cs ∈ css, cs.length = k) → css.flatten.take (n * k) = (css.take n).flatten := by
  induction n with
  | zero => intro css _; simp
  | succ n ih =>
    intro css hk
    cases css with
    | nil => simp
    | cons x css =>
      have hx := hk x List.mem_cons_self
      rw [List.flatten_cons, List.take_succ_cons, List.flatten_cons, List.take_append, hx, List.take_of_length_le (by rw [hx, Nat.add_mul]; omega), show (n + 1) * k - k = n * k by rw [Nat.add_mul]; omega, ih fun cs hc => hk cs (List.mem_cons_of_mem _ hc)]
theorem flat_drop (n : Nat) : ∀ {css : List (List Value)}, (∀ cs ∈ css, cs.length = k) → css.flatten.drop (n * k) = (css.drop n).flatten := by
  induction n with
  | zero => intro css _; simp
  | succ n ih =>
    intro css hk
    cases css with
    | nil => simp
    | cons x css =>
      have hx := hk x List.mem_cons_self
      rw [List.flatten_cons, List.drop_succ_cons, List.drop_append, hx, List.drop_of_length_le (by rw [hx, Nat.add_mul]; omega), show (n + 1) * k - k = n * k by rw [Nat.add_mul]; omega, ih fun cs hc => hk cs (List.mem_cons_of_mem _ hc)]
      simp
end

/-- The slice at A reads as these elements, of k cells each. -/
def RdR (k : Nat) (w : World) (S : Nat → Prop) (A : Option Addr) (els : List El) : Prop :=
  ∃ css, Grp k w S els css ∧ Rd w A (els.length * k) css.flatten ∧ (∀ a, A = some a → 0 < els.length → S a.block)
/-- It is a row of the call's own, the elements' own memory lying in blocks of S and in other blocks than the row. -/
def OwR (k : Nat) (e : TypeId) (w : World) (base : Nat) (S : Nat → Prop) (A : Option Addr) (c : Nat) (els : List El) : Prop :=
  ∃ css, Grp k w (fun b => S b ∧ But A b) els css ∧ w.ownsRow base e k (.slice A els.length c) els.length css.flatten
/-- The cells from offset o of block b on. -/
def Wi (w : World) (b o : Nat) (cs : List Value) : Prop := b < w.heap.size ∧ w.rangeAt b o cs
section
variable {k : Nat} {w w' : World} {S S' : Nat → Prop} {els : List El} {A : Option Addr} {e : TypeId} {base c : Nat}
theorem Wi.below {b o : Nat} {cs : List Value} (h : Wi w b o cs) (hb : Below w.heap.size w w') : Wi w' b o cs := ⟨Nat.lt_of_lt_of_le h.1 hb.size, fun j u hu => (World.cell?_of_block (a := ⟨b, o + j, none⟩) (hb.block b h.1)).trans (h.2 j u hu)⟩
theorem Wi.gr {b o : Nat} {cs : List Value} (h : Wi w b o cs) (g : Gr w w' A) (hne : But A b) : Wi w' b o cs := ⟨Nat.lt_of_lt_of_le h.1 g.size, fun j u hu => (World.cell?_of_block (a := ⟨b, o + j, none⟩) (g.block b h.1 fun hk => by
  cases A with
  | none => simp at hk
  | some a => simp at hk; exact hne a rfl hk)).trans (h.2 j u hu)⟩
theorem Rd.sizes {n : Nat} {xs : List Value} (h : Rd w A n xs) (hz : w.heap.size ≤ w'.heap.size) (hm : ∀ a, A = some a → 0 < n → a.block < w.heap.size → w'.heap[a.block]? = w.heap[a.block]?) : Rd w' A n xs := ⟨h.1, fun hn => by
  obtain ⟨b, o, rfl, hb, hc⟩ := h.2 hn
  exact ⟨b, o, rfl, by omega, fun j u hu => (World.cell?_of_block (a := ⟨b, o + j, none⟩) (hm ⟨b, o, none⟩ rfl hn hb)).trans (hc j u hu)⟩⟩
theorem RdR.move (hk : 0 < k) (h : RdR k w S A els) (hz : w.heap.size ≤ w'.heap.size) (hm : ∀ b, b < w.heap.size → S b → S' b ∧ w'.heap[b]? = w.heap[b]?) : RdR k w' S' A els := by
  obtain ⟨css, h1, h2, h3⟩ := h
  have hpos : 0 < els.length → 0 < els.length * k := fun hn => Nat.mul_pos hn hk
  refine ⟨css, h1.move hz hm, h2.sizes hz fun a ha hn hb => (hm _ hb (h3 a ha ?_)).2, fun a ha hn => ?_⟩
  · rcases Nat.eq_zero_or_pos els.length with h0 | h0
    · rw [h0] at hn; simp at hn
    · exact h0
  · obtain ⟨b, o, rfl, hb, _⟩ := h2.2 (hpos hn)
    cases ha
    exact (hm b hb (h3 _ rfl hn)).1
theorem RdR.below (h : RdR k w S A els) (hb : Below w.heap.size w w') : RdR k w' S A els := by
  obtain ⟨css, h1, h2, h3⟩ := h
  exact ⟨css, h1.below hb, h2.below hb, h3⟩
theorem RdR.all (h : RdR k w S A els) : RdR k w All A els := by
  obtain ⟨css, h1, h2, h3⟩ := h
  exact ⟨css, h1.all, h2, fun _ _ _ => trivial⟩
theorem RdR.nil (A : Option Addr) : RdR k w S A [] := ⟨[], Grp.nil _ _ _, by simpa using Rd.nil w A, fun _ _ h => absurd h (by simp)⟩
theorem RdR.at (hk : 0 < k) (h : RdR k w S A els) {i : Nat} {E : El} (hi : els[i]? = some E) : ∃ b o cs, A = some ⟨b, o, none⟩ ∧ S b ∧ cs.length = k ∧ E.P w S cs ∧ Wi w b (o + i * k) cs := by
  obtain ⟨css, h1, h2, h3⟩ := h
  have hlt := (List.getElem?_eq_some_iff.1 hi).1
  have hn : 0 < els.length := by omega
  obtain ⟨b, o, rfl, hb, hc⟩ := h2.2 (Nat.mul_pos hn hk)
  obtain ⟨cs, hcs, hl, hp⟩ := h1.at hi
  exact ⟨b, o, cs, rfl, h3 _ rfl hn, hl, hp, hb, fun j u hu => by rw [Nat.add_assoc]; exact hc _ u (flat_get h1.ks hcs hu)⟩
/-- The address of the part of a slice from l on. -/
def cutK (A : Option Addr) (c l k : Nat) : Option Addr := if c = l then A else A.map (·.add (l * k))
theorem RdR.cut {n l h : Nat} (hr : RdR k w S A els) (hn : els.length = n) (h1 : l ≤ h) (h2 : h ≤ n) (hc : n ≤ c) : RdR k w S (cutK A c l k) ((els.take h).drop l) := by
  subst hn
  obtain ⟨css, g1, g2, g3⟩ := hr
  have hle : h ≤ css.length := by rw [g1.1]; exact h2
  refine ⟨(css.take h).drop l, (g1.take h).drop l, ⟨?_, fun hp => ?_⟩, fun a ha hp => ?_⟩
  · rw [((g1.take h).drop l).len]
  · have hlt : l < h := by
      rcases Nat.lt_or_ge l h with h' | h'
      · exact h'
      · exfalso
        have : ((els.take h).drop l).length = 0 := by simp; omega
        rw [this] at hp; simp at hp
    have hk : 0 < k := by
      rcases Nat.eq_zero_or_pos k with h0 | h0
      · rw [h0] at hp; simp at hp
      · exact h0
    obtain ⟨b, o, rfl, hb, hcell⟩ := g2.2 (Nat.mul_pos (by omega) hk)
    have hne : ¬ c = l := by omega
    refine ⟨b, o + l * k, by simp [cutK, hne, Addr.add_lit], hb, fun j u hu => ?_⟩
    rw [← flat_drop l (fun cs hcs => g1.ks cs (List.mem_of_mem_take hcs)), ← flat_take h g1.ks, List.getElem?_drop, List.getElem?_take] at hu
    split at hu
    · rw [Nat.add_assoc]; exact hcell _ u hu
    · cases hu
  · have hlt : l < h := by simp at hp; omega
    have hne : ¬ c = l := by omega
    unfold cutK at ha
    rw [if_neg hne] at ha
    cases A with
    | none => simp at ha
    | some a0 =>
      have : a.block = a0.block := by
        simp only [Option.map_some, Option.some.injEq] at ha
        rw [← ha]; unfold Addr.add; split <;> rfl
      rw [this]
      exact g3 a0 rfl (by omega)
theorem OwR.len_le (h : OwR k e w base S A c els) : els.length ≤ c := by
  obtain ⟨css, _, h2⟩ := h
  rcases h2.2 with ⟨hv, hn⟩ | ⟨g, cap, cur, hv, _, _, hnc, _⟩
  · omega
  · injection hv with _ _ hc; omega
theorem OwR.lt (h : OwR k e w base S A c els) : ∀ a, A = some a → base ≤ a.block ∧ a.block < w.heap.size := fun a ha => by
  obtain ⟨css, _, h2⟩ := h
  exact World.ownsRow.lt h2 a.block (by rw [ha]; rfl)
theorem own_rd {n : Nat} {xs : List Value} (h : w.ownsRow base e k (.slice A n c) n xs) : Rd w A (n * k) xs := by
  refine ⟨h.1, fun hn => ?_⟩
  rcases h.2 with ⟨hv, h0⟩ | ⟨g, cap, cur, hv, _, hg, _⟩
  · rw [h0] at hn; simp at hn
  · injection hv with hA hn' hc
    subst hA
    have hcells := World.ownsRow.cells h (g := g) rfl
    exact ⟨g, 0, rfl, (Array.getElem?_eq_some_iff.1 hg).1, fun j u hu => by have := hcells j u hu; simpa [Addr.add_lit] using this⟩
theorem OwR.rd (h : OwR k e w base S A c els) : RdR k w All A els := by
  obtain ⟨css, h1, h2⟩ := h
  exact ⟨css, h1.all, own_rd h2, fun _ _ _ => trivial⟩
theorem OwR.below (h : OwR k e w base S A c els) (hb : Below w.heap.size w w') : OwR k e w' base S A c els := by
  have hl := OwR.lt h
  obtain ⟨css, h1, h2⟩ := h
  refine ⟨css, h1.below hb, World.ownsRow.kept (row := none) h2 ⟨hb.os, hb.tape, hb.output, hb.size, fun k hk _ => hb.block k hk⟩ ?_⟩
  cases A with
  | none => exact .inl rfl
  | some a => exact .inr (by simp [Value.ownBlock])
theorem OwR.gr {B : Option Addr} (h : OwR k e w base S A c els) (g : Gr w w' B) (hs : ∀ b, b < w.heap.size → S b → But A b → But B b) (hA : ∀ a, A = some a → But B a.block) : OwR k e w' base S A c els := by
  obtain ⟨css, h1, h2⟩ := h
  refine ⟨css, h1.gr g fun b hb h => hs b hb h.1 h.2, World.ownsRow.kept h2 g ?_⟩
  cases A with
  | none => exact .inl rfl
  | some a =>
    refine .inr ?_
    cases B with
    | none => simp [Value.ownBlock]
    | some b => simpa [Value.ownBlock] using hA a rfl b rfl
theorem OwR.mono {base' : Nat} (h : OwR k e w base S A c els) (hb : base' ≤ base) (hs : ∀ b, b < w.heap.size → S b → S' b) : OwR k e w base' S' A c els := by
  obtain ⟨css, h1, h2⟩ := h
  refine ⟨css, h1.mono fun b hl h => ⟨hs b hl h.1, h.2⟩, h2.1, ?_⟩
  rcases h2.2 with hn | ⟨g, cap, cur, hv, hg, rest⟩
  · exact .inl hn
  · exact .inr ⟨g, cap, cur, hv, Nat.le_trans hb hg, rest⟩
theorem OwR.nil (w : World) (base : Nat) (S : Nat → Prop) : OwR k e w base S none 0 [] := ⟨[], Grp.nil _ _ _, World.ownsRow_nil w base e k⟩
theorem OwR.nilc (h : w.ownsRow base e k (.slice A 0 c) 0 []) : OwR k e w base S A c [] := ⟨[], Grp.nil _ _ _, h⟩
end

/-- A slice type whose elements have k cells. -/
structure RowK (P : Program) (t e : TypeId) (k : Nat) (z : Value) (bytes : Nat) : Prop where
  sl : P.underlying t = some (.slice e)
  info : (P.info? e).map (fun i => (i.zero, i.size, i.bytes)) = some (some z, k, bytes)
  zs : z.cells.size = k
  pos : 0 < k
section
variable {P : Program} {N : Nat} {ops : Array Oper} {Q : Exit → Act → World → Prop} {rest : List Oper} {L : FL} {w : World} {t e : TypeId} {z : Value} {bytes k : Nat}
theorem RowK.size (T : RowK P t e k z bytes) (w : World) : (sizeOf e).run P w = .ok k w := by
  obtain ⟨i, hi, _, hs, _⟩ := info_parts T.info
  simp [sizeOf, typeInfo, hi, hs]
theorem RowK.zero (T : RowK P t e k z bytes) (w : World) : (zeroValue e).run P w = .ok z w := by
  obtain ⟨i, hi, hz, _, _⟩ := info_parts T.info
  simp [zeroValue, typeInfo, hi, hz]
theorem opv_idxG {x i : Operand} {ty : TypeId} {b o : Nat} {n c kk : Nat} {ik : IntKind} {q : Int} (T : RowK P t e k z bytes) (hx : look L x = some (.slice (some ⟨b, o, none⟩) n c)) (hi : look L i = some (.int ik q)) (hq : q = (kk : Int)) (hk : kk < n) :
    OpV P (.indexAddr t x i) ty L w (.pointer (some ⟨b, o + kk * k, none⟩)) w := fun ρ op hρ ho _ => by
  subst hq
  simp [execOp, ho, Instr.indexAt, asIntOf, hρ x _ hx, hρ i _ hi, run_underlying T.sl, hk, T.size, Addr.add_lit]
/-- A whole element, of several cells. -/
theorem opv_ldG {x : Operand} {ty : TypeId} {b o : Nat} {cs : List Value} (hx : look L x = some (.pointer (some ⟨b, o, none⟩))) (hr : Wi w b o cs) (S : StT P e cs.length) : OpV P (.load e x) ty L w (.agg cs.toArray) w := fun ρ op hρ ho _ => by
  obtain ⟨fs, hu⟩ := S.get
  have := run_loadVar_mid (P := P) w b o e cs _ hr.2 hu rfl S.size
  simp [execOp, ho, Instr.loadAt, Instr.sureAddr, hρ x _ hx, this]
/-- One of its cells. -/
theorem opv_ldW {x : Operand} {ty : TypeId} {b o j : Nat} {cs : List Value} {u : Value} (hx : look L x = some (.pointer (some ⟨b, o + j, none⟩))) (hr : Wi w b o cs) (E : Cell1 P e) (hj : cs[j]? = some u) : OpV P (.load e x) ty L w u w :=
  opv_loadC E hx (hr.2 j u hj)
theorem opv_ldW0 {x : Operand} {ty : TypeId} {b o : Nat} {cs : List Value} {u : Value} (hx : look L x = some (.pointer (some ⟨b, o, none⟩))) (hr : Wi w b o cs) (E : Cell1 P e) (hj : cs[0]? = some u) : OpV P (.load e x) ty L w u w :=
  opv_loadC E hx (hr.2 0 u hj)
theorem opv_sliceK {x : Operand} {lo hi : Option Operand} {ty : TypeId} {A : Option Addr} {n c l h : Nat} (T : RowK P t e k z bytes) (hx : look L x = some (.slice A n c)) (hl : SLo L lo l) (hh : SHi L n hi h) (h1 : l ≤ h) (h2 : h ≤ c) :
    OpV P (.slice t x lo hi none) ty L w (.slice (cutK A c l k) (h - l) (c - l)) w := fun ρ o hρ ho _ => by
  have e1 : (Instr.sliceBounds true n c (lo.map ρ) (hi.map ρ) none).run P w = .ok (l, h, c) w := by
    cases lo with
    | none =>
      cases hi with
      | none => have a := hl; have b := hh; simp only [SLo, SHi] at a b; subst a b; simp [Instr.sliceBounds]
      | some y =>
        have a := hl; obtain ⟨k, b⟩ := hh; simp only [SLo] at a; subst a
        simp [Instr.sliceBounds, Instr.sliceBound, hρ y _ b, asIntOf, h2]
    | some u =>
      obtain ⟨k, a⟩ := hl
      cases hi with
      | none => have b := hh; simp only [SHi] at b; subst b; simp [Instr.sliceBounds, Instr.sliceBound, hρ u _ a, asIntOf, h1]
      | some y =>
        obtain ⟨k', b⟩ := hh
        simp [Instr.sliceBounds, Instr.sliceBound, hρ u _ a, hρ y _ b, asIntOf, h1, h2]
  unfold execOp
  simp only [ho, Instr.sliceAt, Instr.slice, Sem.run_bind, run_underlying T.sl, Result.andThen_ok, hρ x _ hx, Option.map_none, e1, T.size]
  simp [cutK]
theorem wl_slK {d : Nat} {x : Operand} {lo hi : Option Operand} {ty : TypeId} {pos : String} {aft : Array Edge} {A : Option Addr} {n c l h : Nat} (T : RowK P t e k z bytes) (hx : look L x = some (.slice A n c)) (hl : SLo L lo l) (hh : SHi L n hi h) (h1 : l ≤ h) (h2 : h ≤ c)
    (hd : Nat.blt d N = true) (hK : WL P N ops Q rest ((d, .slice (cutK A c l k) (h - l) (c - l)) :: L) w) :
    WL P N ops Q (⟨some d, .slice t x lo hi none, ty, pos, aft, none⟩ :: rest) L w :=
  wl_val (opv_sliceK T hx hl hh h1 h2) hd hK

/-- The parts of a slice that a statement writes out, each of k cells. -/
def GLooks (L : FL) (k : Nat) : Nat → List (Nat × Operand) → List (List Value) → Prop
  | _, [], [] => True
  | j, (i, x) :: ps, cs :: css => i = j ∧ (∃ v, look L x = some v ∧ v.cells = cs.toArray) ∧ cs.length = k ∧ GLooks L k (j + 1) ps css
  | _, _, _ => False
theorem put_at (cs : List Value) : ∀ (off : Nat) (cur : Array Value), off + cs.length ≤ cur.size →
    ((cs.toArray.zipIdx.foldl (fun cs (x : Value × Nat) => cs.setIfInBounds (off + x.2) x.1) cur)).toList = cur.toList.take off ++ cs ++ cur.toList.drop (off + cs.length) := by
  intro off cur h
  have key : ∀ (cs : List Value) (j : Nat) (cur : Array Value), off + j + cs.length ≤ cur.size →
      (((cs.zipIdx j).foldl (fun cs (x : Value × Nat) => cs.setIfInBounds (off + x.2) x.1) cur)).toList = cur.toList.take (off + j) ++ cs ++ cur.toList.drop (off + j + cs.length) := by
    intro cs
    induction cs with
    | nil => intro j cur h; simp
    | cons x cs ih =>
      intro j cur h
      simp only [List.length_cons] at h
      rw [List.zipIdx_cons, List.foldl_cons, ih (j + 1) _ (by simp; omega)]
      rw [Array.toList_setIfInBounds]
      apply List.ext_getElem?
      intro i
      have m1 : min (off + (j + 1)) cur.size = off + (j + 1) := by omega
      have m2 : min (off + j) cur.size = off + j := by omega
      simp only [List.getElem?_append, List.length_append, List.length_take, List.length_set, List.getElem?_take, List.getElem?_set, List.getElem?_drop, List.length_cons, Array.length_toList, m1, m2]
      rcases Nat.lt_trichotomy i (off + j) with hi | hi | hi
      · have e1 : i < off + (j + 1) := by omega
        have e2 : i < off + (j + 1) + cs.length := by omega
        have e3 : i < off + j + (cs.length + 1) := by omega
        have e4 : ¬ off + j = i := by omega
        simp [hi, e1, e2, e3, e4]
      · subst hi
        have e1 : off + j < off + (j + 1) := by omega
        have e2 : off + j < off + (j + 1) + cs.length := by omega
        have e5 : off + j < cur.size := by omega
        simp [e1, e2, e5]
      · have e1 : ¬ i < off + (j + 1) := by omega
        have e2 : ¬ i < off + j := by omega
        have e6 : i - (off + j) = (i - (off + (j + 1))) + 1 := by omega
        by_cases e7 : i < off + (j + 1) + cs.length
        · have e8 : i < off + j + (cs.length + 1) := by omega
          rw [if_pos e7, if_neg e1, if_pos e8, if_neg e2, e6]; simp
        · have e8 : ¬ i < off + j + (cs.length + 1) := by omega
          have e9 : off + (j + 1) + cs.length + (i - (off + (j + 1) + cs.length)) = i := by omega
          have e10 : off + j + (cs.length + 1) + (i - (off + j + (cs.length + 1))) = i := by omega
          rw [if_neg e7, if_neg e8, e9, e10]
          rw [if_neg (by omega)]
  have := key cs 0 cur (by omega)
  rw [← Array.foldl_toList, Array.toList_zipIdx]
  simpa using this
theorem GLooks.fill {ρ : Operand → Value} (hρ : ∀ x u, look L x = some u → ρ x = u) : ∀ {ps : List (Nat × Operand)} {css : List (List Value)} {j : Nat} (cur : Array Value), GLooks L k j ps css → (j + css.length) * k = cur.size →
    Instr.fill (fun i => some (i * k, k)) cur (ps.map fun p => (p.1, ρ p.2)) = some (cur.toList.take (j * k) ++ css.flatten).toArray
  | [], [], j, cur, _, hk => by
    simp only [List.map_nil, Instr.fill, List.flatten_nil, List.append_nil]
    rw [List.take_of_length_le (by simp at hk ⊢; omega)]
  | (i, x) :: ps, cs :: css, j, cur, h, hk => by
    obtain ⟨rfl, ⟨v, hx, hv⟩, h1, h2⟩ := h
    simp only [List.length_cons] at hk
    have e1 : (i + (css.length + 1)) * k = i * k + k + css.length * k := by rw [Nat.add_mul, Nat.add_mul]; omega
    simp only [List.map_cons, Instr.fill, hρ x v hx, hv]
    have hcond : ¬ (cs.toArray.size ≠ k ∨ i * k + cs.toArray.size > cur.size) := by simp [h1]; omega
    have hbool : ((cs.toArray.size ≠ k) || decide (i * k + cs.toArray.size > cur.size)) = false := by simp [h1]; omega
    rw [if_neg (by simpa using hcond)]
    have hput := put_at cs (i * k) cur (by omega)
    have hsz : (cs.toArray.zipIdx.foldl (fun cs (x : Value × Nat) => cs.setIfInBounds (i * k + x.2) x.1) cur).size = cur.size := by
      rw [← Array.length_toList, hput]
      simp; omega
    rw [GLooks.fill hρ _ h2 (by rw [hsz, ← hk]; congr 1; omega), hput]
    congr 2
    rw [List.flatten_cons]
    have : (cur.toList.take (i * k) ++ cs ++ cur.toList.drop (i * k + cs.length)).take ((i + 1) * k) = cur.toList.take (i * k) ++ cs := by
      rw [List.take_append_of_le_length (by simp [h1, Nat.add_mul]; omega), List.take_of_length_le (by simp [h1, Nat.add_mul]; omega)]
    rw [this, List.append_assoc]
  | [], _ :: _, _, _, h, _ => h.elim
  | _ :: _, [], _, _, h, _ => h.elim

theorem opv_bsG {len : Nat} {ps : List (Nat × Operand)} {css : List (List Value)} {ty : TypeId} (T : RowK P t e k z bytes) (hp : GLooks L k 0 ps css) (hl : css.length = len) (hle : len * k ≤ 16777216) (h0 : 0 < len) :
    OpV P (.buildSlice t len ps.toArray) ty L w (.slice (some ⟨w.heap.size, 0, none⟩) len len) (w.alloc (.cells css.flatten.toArray e)) := fun ρ o hρ ho _ => by
  have hne : ¬ len * k = 0 := by have := Nat.mul_pos h0 T.pos; omega
  have hf := GLooks.fill hρ ((Array.range (len * k)).map fun i => z.cells[i % z.cells.size]!) hp (by simp [hl])
  simp only [Nat.zero_mul, List.take_zero, List.nil_append] at hf
  have hmap : (Array.map (fun (x : Nat × Operand) => (x.1, ρ x.2)) ps.toArray).toList = ps.map fun p => (p.1, ρ p.2) := by simp
  unfold execOp
  simp only [ho, Instr.buildSlice, Sem.run_bind, run_underlying T.sl, Result.andThen_ok, T.size]
  have h24 : ¬ (len * k > 2 ^ 24) := by omega
  rw [if_neg h24]
  simp only [hne, if_false, Sem.run_bind, Sem.run_pure, Result.andThen_ok, T.zero]
  rw [hmap, hf]
  simp [newRow]
theorem GLooks.ks : ∀ {ps : List (Nat × Operand)} {css : List (List Value)} {j : Nat}, GLooks L k j ps css → css.flatten.length = css.length * k
  | [], [], _, _ => by simp
  | (i, x) :: ps, cs :: css, j, h => by
    obtain ⟨_, _, h1, h2⟩ := h
    rw [List.flatten_cons, List.length_append, h1, GLooks.ks h2, List.length_cons, Nat.add_mul]; omega
  | [], _ :: _, _, h => h.elim
  | _ :: _, [], _, h => h.elim
/-- A slice of elements of k cells that a statement writes out. -/
theorem wl_bsG {d len : Nat} {ps : List (Nat × Operand)} {css : List (List Value)} {S : Nat → Prop} {els : List El} {ty : TypeId} {pos : String} {aft : Array Edge} (T : RowK P t e k z bytes) (hp : GLooks L k 0 ps css) (hl : els.length = len) (hle : len * k ≤ 16777216) (h0 : 0 < len)
    (hg : Grp k w S els css) (hd : Nat.blt d N = true)
    (h : ∀ A w', OwR k e w' w.heap.size S A len els → Below w.heap.size w w' → w'.heap.size = w.heap.size + 1 → WL P N ops Q rest ((d, .slice A len len) :: L) w') :
    WL P N ops Q (⟨some d, .buildSlice t len ps.toArray, ty, pos, aft, none⟩ :: rest) L w := by
  have hcl : css.length = len := by rw [hg.1, hl]
  have hb : Below w.heap.size w (w.alloc (.cells css.flatten.toArray e)) := (Below.refl _ _).alloc (Nat.le_refl _) _
  refine wl_val (opv_bsG T hp hcl hle h0) hd (h (some ⟨w.heap.size, 0, none⟩) _ ⟨css, hg.move hb.size fun b hlt hs => ⟨⟨hs, ?_⟩, hb.block b hlt⟩, ?_⟩ hb (by simp))
  · intro a ha; cases ha; exact Nat.ne_of_lt hlt
  · subst hl
    have hk := T.pos
    have hmax : els.length ≤ maxLen := by
      have : els.length * 1 ≤ els.length * k := Nat.mul_le_mul_left _ hk
      simp only [maxLen]; omega
    have := World.ownsRow_lit (e := e) (size := k) (base := w.heap.size) w css.flatten.toArray els.length (Nat.le_refl _) hmax (by simpa using hg.len)
    simpa using this
theorem wpList_appG {o : Oper} {a : Act} {base : Nat} {A : Option Addr} {n c : Nat} {xs : List Value} (T : RowK P t e k z bytes) (hgd : o.guard = none) (s x : Operand)
    (ho : o.op = .call { callee := .builtin .append, args := #[s, x], argTypes := #[t, t] })
    (hs : a.eval s = .slice A n c) (hown : w.ownsRow base e k (.slice A n c) n xs) {B : Option Addr} {m d : Nat} {ys : List Value} (hx : a.eval x = .slice B m d) (hr : Rd w B (m * k) ys) (h1 : ∀ u ∈ ys, u.oneCell' = true)
    (hbytes : (n + m) * bytes ≤ 140737488355328) (hmax : n + m ≤ maxLen) (hbase : base ≤ w.heap.size)
    (h : ∀ A' c' w', w'.ownsRow base e k (.slice A' (n + m) c') (n + m) (xs ++ ys) → Gr w w' A → (A'.map (·.block) = A.map (·.block) ∨ A'.map (·.block) = some w.heap.size) → wpList P ops Q rest (a.put o.dst (.slice A' (n + m) c')) w') : wpList P ops Q (o :: rest) a w := by
  obtain ⟨i, hi0, hz, hs1, hby⟩ := info_parts T.info
  have hk := T.pos
  have hob : ∀ (A : Option Addr) n c, (Value.slice A n c).ownBlock = A.map (·.block) := fun A _ _ => by cases A <;> rfl
  have hfin : ∀ v' w', w'.ownsRow base e k v' (n + m) (xs ++ ys) → w.grownBy w' (Value.slice A n c).ownBlock → (v'.ownBlock = (Value.slice A n c).ownBlock ∨ v'.ownBlock = some w.heap.size) →
      wpList P ops Q rest (a.put o.dst v') w' := by
    intro v' w' h2 h3 h4
    rw [hob] at h3
    rcases h2.2 with ⟨rfl, h0⟩ | ⟨g, cap, cur, rfl, _⟩
    · have := h none 0 w' (by rw [h0] at h2 ⊢; exact h2) h3 (by simpa only [hob] using h4)
      rw [h0] at this
      exact this
    · exact h _ _ w' h2 h3 (by simpa only [hob] using h4)
  by_cases h0 : 0 < m
  · obtain ⟨b, of, hA, _, hc⟩ := hr.2 (Nat.mul_pos h0 hk)
    subst hA
    exact wpList_append_own_at w hgd s x t ho base e i z k bytes T.sl hi0 hz hs1 hby T.zs hk _ n xs hs hown _ m d ys hx (by simpa using hr.1)
      (fun j u hu => by rw [Addr.add_lit]; exact hc j u hu) h1 hmax hbytes hbase fun v' w' h2 h3 _ h4 => hfin v' w' h2 h3 h4
  · have hm : m = 0 := by omega
    subst hm
    have hn : ys = [] := List.eq_nil_of_length_eq_zero (by simpa using hr.1)
    subst hn
    cases B with
    | some ad =>
      exact wpList_append_own_at w hgd s x t ho base e i z k bytes T.sl hi0 hz hs1 hby T.zs hk _ n xs hs hown ad 0 d [] hx (by simp)
        (fun j u hu => by simp at hu) h1 hmax hbytes hbase fun v' w' h2 h3 _ h4 => hfin v' w' h2 h3 h4
    | none =>
      have hrun : (Builtin.append_ #[t, t] o.type #[.slice A n c, .slice none 0 d]).run P w = .ok (.slice A n c) w := by
        rcases hown.2 with ⟨hv, hn0⟩ | ⟨g, cap, cur, hv, _, _, hnc, _⟩
        · injection hv with hA hn hc; subst hA hn0 hc
          simp [Builtin.append_, run_underlying T.sl, sizeOf, typeInfo, hi0, Builtin.lenOf, Builtin.firstCells]
        · injection hv with hA hn hc; subst hA hc
          simp [Builtin.append_, run_underlying T.sl, sizeOf, typeInfo, hi0, Builtin.lenOf, Builtin.firstCells, hnc, storeCells]
      refine wpList_plain hgd fun K hK => ?_
      unfold Oper.wp execOp
      simp only [ho, resolve, invoke, builtin, Sem.run_bind, Sem.run_pure, Result.andThen_ok, List.map_toArray, List.map_cons, List.map_nil, hs, hx, hrun]
      refine hK _ _ (hfin _ _ (by rw [List.append_nil]; exact hown) ⟨rfl, rfl, rfl, Nat.le_refl _, fun _ _ _ => rfl⟩ (.inl rfl))
/-- append(s, x, y ..): the elements written out. -/
theorem wl_pushG {d1 d2 len : Nat} {ps : List (Nat × Operand)} {css' : List (List Value)} {s : Operand} {ty1 ty2 : TypeId} {p1 p2 : String} {f1 f2 : Array Edge} {base : Nat} {S : Nat → Prop} {A : Option Addr} {n c : Nat} {els els' : List El} (T : RowK P t e k z bytes)
    (hs1 : ∀ p, look ((d1, p) :: L) s = some (.slice A n c)) (hown : OwR k e w base S A c els) (hn : els.length = n) (hp : GLooks L k 0 ps css') (hg' : Grp k w (fun b => S b ∧ But A b) els' css') (hl : els'.length = len) (h1 : ∀ u ∈ css'.flatten, u.oneCell' = true) (hle : len * k ≤ 16777216) (h0 : 0 < len)
    (hbytes : (n + len) * bytes ≤ 140737488355328) (hmax : n + len ≤ maxLen) (hbase : base ≤ w.heap.size) (hd1 : Nat.blt d1 N = true) (hd2 : Nat.blt d2 N = true)
    (h : ∀ p A' c' w', OwR k e w' base S A' c' (els ++ els') → Gr w w' A → (A'.map (·.block) = A.map (·.block) ∨ ∀ a', A' = some a' → w.heap.size ≤ a'.block) → WL P N ops Q rest ((d2, .slice A' (n + len) c') :: (d1, p) :: L) w') :
    WL P N ops Q (⟨some d1, .buildSlice t len ps.toArray, ty1, p1, f1, none⟩ :: ⟨some d2, .call { callee := .builtin .append, args := #[s, .tmp d1], argTypes := #[t, t] }, ty2, p2, f2, none⟩ :: rest) L w := by
  subst hl
  have hcl : css'.length = els'.length := hg'.1
  refine wl_val (opv_bsG T hp hcl hle h0) hd1 ?_
  have hb : Below w.heap.size w (w.alloc (.cells css'.flatten.toArray e)) := (Below.refl _ _).alloc (Nat.le_refl _) _
  have hl := hg'.len
  intro a ha
  obtain ⟨css, hg, ho⟩ := hown
  subst hn
  have hrd : Rd (w.alloc (.cells css'.flatten.toArray e)) (some ⟨w.heap.size, 0, none⟩) (els'.length * k) css'.flatten := by
    have := Rd.new w css'.flatten.toArray e
    simpa [hl] using this
  have ho1 := World.ownsRow.alloc ho (.cells css'.flatten.toArray e)
  refine wpList_appG (B := some ⟨w.heap.size, 0, none⟩) (m := els'.length) (d := els'.length) T rfl s (.tmp d1) rfl (ha.eval (hs1 _)) ho1 (ha.eval (by simp [look, lookT])) hrd h1 hbytes hmax (by simp; omega) fun A' c' w' ho' hgr hat => ?_
  have hgr' : Gr w w' A := (Gr.of_below A hb (Nat.le_refl _)).trans hgr
  refine h _ A' c' w' ⟨css ++ css', ?_, by rw [List.length_append, List.flatten_append]; exact ho'⟩ hgr' ?_ _ (ha.put hd2 _)
  · refine (hg.append hg').move hgr'.size fun b hlt hb => ⟨⟨hb.1, fun a' ha' => ?_⟩, hgr'.block b hlt ?_⟩
    · subst ha'
      rcases hat with e | e
      · cases A with
        | none => simp at e
        | some a0 => simp only [Option.map_some, Option.some.injEq] at e; rw [e]; exact hb.2 a0 rfl
      · simp only [Option.map_some, Option.some.injEq] at e; simp at e; omega
    · intro hk
      cases A with
      | none => simp at hk
      | some a0 => simp only [Option.map_some, Option.some.injEq] at hk; exact hb.2 a0 rfl hk
  · rcases hat with e | e
    · exact .inl e
    · refine .inr fun a' ha' => ?_
      rw [ha'] at e
      simp at e
      omega
end
end Go.Proofs.YtdgagffieobiiaaGreatDoor

/-
  Plain laws of UTF-8: the runes of a list of bytes, and runes written as bytes. No program in sight.
-/
namespace Go.Proofs.YtdgagffieobiiaaGreatDoor

def nth (l : List UInt8) (k : Nat) : Nat := (l.getD k 0).toNat
/-- The first rune of bytes, and its width. -/
def dec (l : List UInt8) : Nat × Nat := Lib.decodeN l.length (nth l 0) (nth l 1) (nth l 2) (nth l 3)
/-- All runes, each with its width. -/
def rwF : Nat → List UInt8 → List (Nat × Nat)
  | 0, _ => []
  | f + 1, l => if l.length = 0 then [] else dec l :: rwF f (l.drop (dec l).2)
def rw (l : List UInt8) : List (Nat × Nat) := rwF l.length l
def rs (l : List UInt8) : List Nat := (rw l).map (·.1)
/-- The bytes of a rune. -/
def enc (c : Nat) : List UInt8 := Lib.encodeRune (c : Int)
/-- Bytes that begin with a rune in form. -/
def Ok (l : List UInt8) : Prop := ¬ (dec l).2 = 1 ∨ ¬ (dec l).1 = 65533
instance (l : List UInt8) : Decidable (Ok l) := by unfold Ok; infer_instance
/-- The first place that isn't in form. -/
def badF : Nat → Nat → List UInt8 → Option Nat
  | 0, _, _ => none
  | f + 1, p, l => if l.length = 0 then none else if Ok l then badF f (p + (dec l).2) (l.drop (dec l).2) else some p
def bad (l : List UInt8) : Option Nat := badF l.length 0 l
end Go.Proofs.YtdgagffieobiiaaGreatDoor

/-
  The engine's rules for strings: length, index, a part, equality, bytes and runes made of a string and back, and a range over a string. Nothing here names the program.
-/
namespace Go.Proofs.YtdgagffieobiiaaGreatDoor
open Go.RowKit

/-- Bytes as a string of the model. -/
abbrev str (l : List UInt8) : Value := .string ⟨l.toArray⟩
section
variable {P : Program} {N : Nat} {ops : Array Oper} {Q : Exit → Act → World → Prop} {rest : List Oper} {L : FL} {w : World} {t e : TypeId}
theorem size_list (l : List UInt8) : (⟨l.toArray⟩ : ByteArray).size = l.length := rfl
theorem opv_lenL {x : Operand} {ty : TypeId} {l : List UInt8} (hx : look L x = some (str l)) (ht : P.underlying t = some .string) :
    OpV P (.call { callee := .builtin .len, args := #[x], argTypes := #[t] }) ty L w (.int .i64 (l.length : Int)) w := opv_lenS hx ht
theorem extract_list (l : List UInt8) (a b : Nat) (h : b ≤ l.length) : (⟨l.toArray⟩ : ByteArray).extract a b = ⟨((l.take b).drop a).toArray⟩ := by
  apply ByteArray.ext
  rw [ByteArray.data_extract]
  simp [List.extract_eq_take_drop, List.drop_take]
theorem opv_slS {x : Operand} {lo hi : Option Operand} {ty : TypeId} {l : List UInt8} {a b : Nat} (ht : P.underlying t = some .string) (hx : look L x = some (str l)) (hl : SLo L lo a) (hh : SHi L l.length hi b) (h1 : a ≤ b) (h2 : b ≤ l.length) :
    OpV P (.slice t x lo hi none) ty L w (str ((l.take b).drop a)) w := fun ρ o hρ ho _ => by
  have e1 : (Instr.sliceBounds false l.length l.length (lo.map ρ) (hi.map ρ) none).run P w = .ok (a, b, l.length) w := by
    cases lo with
    | none =>
      cases hi with
      | none => have c := hl; have d := hh; simp only [SLo, SHi] at c d; subst c d; simp [Instr.sliceBounds]
      | some y =>
        have c := hl; obtain ⟨k, d⟩ := hh; simp only [SLo] at c; subst c
        simp [Instr.sliceBounds, Instr.sliceBound, hρ y _ d, asIntOf, h2]
    | some u =>
      obtain ⟨k, c⟩ := hl
      cases hi with
      | none => have d := hh; simp only [SHi] at d; subst d; simp [Instr.sliceBounds, Instr.sliceBound, hρ u _ c, asIntOf, h1]
      | some y =>
        obtain ⟨k', d⟩ := hh
        simp [Instr.sliceBounds, Instr.sliceBound, hρ u _ c, hρ y _ d, asIntOf, h1, h2]
  unfold execOp
  simp only [ho, Instr.sliceAt, Instr.slice, Sem.run_bind, run_underlying ht, Result.andThen_ok, hρ x _ hx, Option.map_none, size_list, e1]
  simp [e1, extract_list l a b h2]
theorem toList_list (l : List UInt8) : (⟨l.toArray⟩ : ByteArray).toList = l := by rw [ByteArray.toList_eq]
theorem bin_eqlS {a b : List UInt8} : BinV P .eql t (str a) (str b) (.bool (decide (a = b))) := .mk fun x y w => by
  have e : (a == b) = decide (a = b) := by by_cases h : a = b <;> simp [h]
  simp [eqGuard, binOp, Op.stringOp, toList_list, e]
theorem bin_neqS {a b : List UInt8} : BinV P .neq t (str a) (str b) (.bool (decide (a ≠ b))) := .mk fun x y w => by
  have e : (a == b) = decide (a = b) := by by_cases h : a = b <;> simp [h]
  simp [eqGuard, binOp, Op.stringOp, toList_list, e, bne]
theorem bin_catS {a b : List UInt8} (h : a.length + b.length ≤ 9223372036854775807) : BinV P .add t (str a) (str b) (str (a ++ b)) := .mk fun x y w => by
  have h' : ¬ (((a.length + b.length : Nat) : Int) > 9223372036854775807) := by omega
  have hm : IntKind.i64.max = 9223372036854775807 := by decide
  have e : (⟨a.toArray⟩ : ByteArray) ++ ⟨b.toArray⟩ = ⟨(a ++ b).toArray⟩ := by apply ByteArray.ext; simp
  simp only [eqGuard, binOp, Op.stringOp, size_list, hm, if_neg h', e]
  simp

/-! #### Conversions -/
theorem opv_ofBytes {x : Operand} {src dst ty : TypeId} {A : Option Addr} {n c : Nat} {l : List UInt8} (hs : P.underlying src = some (.slice e)) (he : P.underlying e = some (.int .u8)) (hd : P.underlying dst = some .string) (hx : look L x = some (.slice A n c)) (hr : Rd w A n (bvs l)) :
    OpV P (.convert src dst x) ty L w (str l) w := fun ρ o hρ ho _ => by
  have hn : l.length = n := by have := hr.1; rwa [bvs_length] at this
  subst hn
  have hrun : (convert src dst (.slice A l.length c)).run P w = .ok (str l) w := by
    by_cases h0 : l.length = 0
    · have : l = [] := List.eq_nil_of_length_eq_zero h0
      subst this
      cases A with
      | none => rw [run_convert_bytes_string w src dst e _ _ _ hs he hd]; simp [Conv.bytesToString]; rfl
      | some a => exact run_convert_bytes_back w src dst e a c [] hs he hd (fun j hj => by simp at hj)
    · obtain ⟨b, o, rfl, _, hc⟩ := hr.2 (by omega)
      exact run_convert_bytes_back w src dst e _ c l hs he hd fun j hj => by
        rw [Addr.add_lit]; exact hc j _ (by rw [bvs_get _ _ hj]; rfl)
  unfold execOp
  simp only [ho, hρ x _ hx, Sem.run_bind, hrun]
  simp

/-! #### A range over a string -/
def It (w : World) (k : Nat) (l : List UInt8) (p : Nat) : Prop := w.heap[k]? = some (.stringIter ⟨l.toArray⟩ p)
theorem It.lt {k p : Nat} {l : List UInt8} (h : It w k l p) : k < w.heap.size := (Array.getElem?_eq_some_iff.1 h).1
theorem It.bel {w' : World} {k p : Nat} {l : List UInt8} (h : It w k l p) (hb : Below w.heap.size w w') : It w' k l p := (hb.block k h.lt).trans h
theorem It.ne_own {k p : Nat} {l : List UInt8} {base n c : Nat} {A : Option Addr} {xs : List Value} (h : It w k l p) (ho : Ow w base e A n c xs) : ∀ a, A = some a → a.block ≠ k := fun a ha hk => by
  rcases ho.2 with ⟨hv, _⟩ | ⟨g, cap, cur, hv, _, hg, _⟩
  · injection hv with hA; rw [ha] at hA; cases hA
  · injection hv with hA; rw [ha] at hA; cases hA
    dsimp only at hk; subst hk
    unfold It at h; rw [hg] at h; cases h
theorem It.gr {w' : World} {k p : Nat} {l : List UInt8} {base n c : Nat} {A : Option Addr} {xs : List Value} (h : It w k l p) (g : Gr w w' A) (ho : Ow w base e A n c xs) : It w' k l p :=
  (g.block k h.lt fun hk => by
    cases A with
    | none => simp at hk
    | some a => simp at hk; exact h.ne_own ho a rfl hk.symm).trans h
theorem Gr.belowI {w0 w' : World} {B g : Nat} (h : Gr w w' (some ⟨g, 0, none⟩)) (h0 : Below B w0 w) (hg : B ≤ g) (hB : B ≤ w.heap.size) : Below B w0 w' :=
  h0.grown h hB fun k hk => by simp at hk; omega
end
end Go.Proofs.YtdgagffieobiiaaGreatDoor

/-
  More of the engine's rules: a variable that is made and set at once, append of a text to bytes, values without memory. Nothing here names the program.
-/
namespace Go.Proofs.YtdgagffieobiiaaGreatDoor
open Go.RowKit
section
variable {P : Program} {N : Nat} {ops : Array Oper} {Q : Exit → Act → World → Prop} {rest : List Oper} {L : FL} {w w' : World} {t e : TypeId} {g : Nat} {cs cs' : List Value}
/-- A variable of a struct type that is made and set. -/
theorem wl_var {d : Nat} {x : Operand} {ty1 ty2 : TypeId} {p1 p2 : String} {f1 f2 : Array Edge} {zs : List Value} (hz : (P.info? t).map (·.zero) = some (some (.agg zs.toArray))) (S : StT P t cs.length) (hl : zs.length = cs.length)
    (hx : ∀ p, look ((d, p) :: L) x = some (.agg cs.toArray)) (h1 : cs.all (·.oneCell') = true) (hd : Nat.blt d N = true)
    (h : ∀ g w', w.heap.size ≤ g → Ar w' g t cs → Below w.heap.size w w' → WL P N ops Q rest ((d, .pointer (some ⟨g, 0, none⟩)) :: L) w') :
    WL P N ops Q (⟨some d, .alloc t, ty1, p1, f1, none⟩ :: ⟨none, .store t (.tmp d) x, ty2, p2, f2, none⟩ :: rest) L w := by
  refine wl_new hz hd fun g w1 hg a1 hb1 => ?_
  refine wl_storeS S a1 (by simp [look, lookT]) (hx _) hl h1 fun w2 a2 g2 _ => ?_
  exact h g w2 hg a2 (Gr.belowI g2 hb1 hg hb1.size)
theorem Ow.bel {base n c : Nat} {A : Option Addr} {xs : List Value} (h : Ow w base e A n c xs) (hb : Below w.heap.size w w') : Ow w' base e A n c xs := Ow.below h hb (Nat.le_refl _)
theorem Ow.re {base n c : Nat} {A : Option Addr} {xs : List UInt8} (h : Ow w base e A xs.length c (bvs xs)) (hn : xs.length = n) : Ow w base e A n c (bvs xs) := hn ▸ h
theorem Ow.gr2 {base n c : Nat} {A B : Option Addr} {xs : List Value} (h : Ow w base e A n c xs) (g : Gr w w' B) (hB : ∀ b, B = some b → b.block < base) : Ow w' base e A n c xs :=
  Ow.gr (base' := 0) (e' := 0) h g fun a b ha hb => by have := (Ow.lt h a ha).1; have := hB b hb; omega
/-- Rows of elements where another row has been written. -/
theorem But.upd {A A' : Option Addr} (hat : A'.map (·.block) = A.map (·.block) ∨ ∀ a', A' = some a' → w.heap.size ≤ a'.block) : ∀ b, b < w.heap.size → But A b → But A' b := by
  rintro b hb h a rfl
  rcases hat with hat | hat
  · cases A with
    | none => simp at hat
    | some a0 => simp only [Option.map_some, Option.some.injEq] at hat; rw [hat]; exact h a0 rfl
  · have := hat a rfl; omega
theorem OwR.move {k base c : Nat} {S S' : Nat → Prop} {A B : Option Addr} {els : List El} (h : OwR k e w base S A c els) (g : Gr w w' B) (hs : ∀ b, b < w.heap.size → S b → But A b → S' b ∧ But B b) (hA : ∀ a, A = some a → But B a.block) : OwR k e w' base S' A c els := by
  obtain ⟨css, h1, h2⟩ := h
  refine ⟨css, h1.move g.size fun b hb h => ⟨⟨(hs b hb h.1 h.2).1, h.2⟩, g.block b hb fun hk => ?_⟩, World.ownsRow.kept h2 g ?_⟩
  · cases B with
    | none => simp at hk
    | some x => simp at hk; exact (hs b hb h.1 h.2).2 x rfl hk
  · cases A with
    | none => exact .inl rfl
    | some a =>
      refine .inr ?_
      cases B with
      | none => simp [Value.ownBlock]
      | some b => simpa [Value.ownBlock] using hA a rfl b rfl
/-- A row that is older than all that its neighbour holds is written. -/
theorem OwR.gr2 {k base c : Nat} {S : Nat → Prop} {A B : Option Addr} {els : List El} (h : OwR k e w base S A c els) (g : Gr w w' B) (hB : ∀ b, B = some b → b.block < base) (hs : ∀ b, b < w.heap.size → S b → But A b → But B b) : OwR k e w' base S A c els :=
  h.move g (fun b hb h1 h2 => ⟨h1, hs b hb h1 h2⟩) fun a ha b hb' => by have := (OwR.lt h a ha).1; have := hB b hb'; omega
theorem row_ne {e' : TypeId} {k k' base base' n m c d : Nat} {A B : Option Addr} {xs ys : List Value} (h : w.ownsRow base e k (.slice A n c) n xs) (h' : w.ownsRow base' e' k' (.slice B m d) m ys) (hne : (e == e') = false) : ∀ a b, A = some a → B = some b → a.block ≠ b.block := by
  rintro a b rfl rfl hk
  rcases h.2 with ⟨hv, _⟩ | ⟨g, cap, cur, hv, _, hg, _⟩
  · cases hv
  rcases h'.2 with ⟨hv', _⟩ | ⟨g', cap', cur', hv', _, hg', _⟩
  · cases hv'
  injection hv with hA; injection hA with hA; subst hA
  injection hv' with hB; injection hB with hB; subst hB
  simp only at hk
  subst hk
  rw [hg] at hg'
  simp only [Option.some.injEq, Obj.cells.injEq] at hg'
  simp [hg'.2.1] at hne
theorem OwR.ne {e' : TypeId} {k k' base base' c d : Nat} {S S' : Nat → Prop} {A B : Option Addr} {els els' : List El} (h : OwR k e w base S A c els) (h' : OwR k' e' w base' S' B d els') (hne : (e == e') = false) : ∀ a, A = some a → But B a.block := by
  obtain ⟨_, _, h2⟩ := h
  obtain ⟨_, _, h3⟩ := h'
  exact fun a ha b hb => row_ne h2 h3 hne a b ha hb
end
end Go.Proofs.YtdgagffieobiiaaGreatDoor

/-
  The engine's rules for numbers: conversions, quotients, bits, shifts; natural numbers as the values of unsigned kinds. Nothing here names the program.
-/
namespace Go.Proofs.YtdgagffieobiiaaGreatDoor
open Go.RowKit

theorem wrap_uns {k : IntKind} (hk : k.signed = false) (q : Int) : k.wrap q = q % (2 ^ k.bits : Int) := by
  simp [IntKind.wrap, hk]
theorem wrap_nat {k : IntKind} (hk : k.signed = false) (n : Nat) : k.wrap (n : Int) = ((n % 2 ^ k.bits : Nat) : Int) := by
  rw [wrap_uns hk]; simp
theorem wrap_small {k : IntKind} (hk : k.signed = false) {n : Nat} (h : n < 2 ^ k.bits) : k.wrap (n : Int) = (n : Int) := by
  rw [wrap_nat hk, Nat.mod_eq_of_lt h]
theorem ofInt_nat (b n : Nat) : BitVec.ofInt b (n : Int) = BitVec.ofNat b n := by simp

section
variable {P : Program} {L : FL} {w : World} {t ty : TypeId} {k : IntKind}

theorem OpV.to {op : Op} {w' : World} {v u : Value} (h : OpV P op ty L w v w') (e : v = u) : OpV P op ty L w u w' := e ▸ h
theorem opv_conv {src dst : TypeId} {x : Operand} {k0 : IntKind} {q : Int} {ds : TypeDesc} (hx : look L x = some (.int k0 q)) (hs : P.underlying src = some ds) (hd : P.underlying dst = some (.int k)) :
    OpV P (.convert src dst x) ty L w (.int k (k.wrap q)) w := fun ρ o hρ ho _ => by
  unfold execOp
  simp only [ho, hρ x _ hx, convert, Sem.run_bind, run_underlying hs, run_underlying hd, Result.andThen_ok, Conv.intToInt]
  simp
theorem opv_convR {src dst : TypeId} {x : Operand} {k0 : IntKind} {q r : Int} {ds : TypeDesc} (hx : look L x = some (.int k0 q)) (hs : P.underlying src = some ds) (hd : P.underlying dst = some (.int k)) (hr : k.wrap q = r) :
    OpV P (.convert src dst x) ty L w (.int k r) w := hr ▸ opv_conv hx hs hd
end

section
variable {P : Program} {t : TypeId} {k : IntKind}
theorem bin_bits (op : BinOp) (hop : op = .and ∨ op = .or ∨ op = .xor ∨ op = .andNot) {x y : Int} {r : Value} (h : ∀ w, (Op.intBits op k x y).run P w = .ok r w) : BinV P op t (.int k x) (.int k y) r := .mk fun u v w => by
  rcases hop with rfl | rfl | rfl | rfl <;> simpa [eqGuard, binOp] using h w
theorem bin_and {a b : Nat} (hk : k.signed = false) (ha : a < 2 ^ k.bits) (hb : b < 2 ^ k.bits) : BinV P .and t (.int k (a : Int)) (.int k (b : Int)) (.int k ((a &&& b : Nat) : Int)) :=
  bin_bits .and (.inl rfl) fun w => by
    have h : a &&& b < 2 ^ k.bits := Nat.lt_of_le_of_lt Nat.and_le_left ha
    simp only [Op.intBits, ofInt_nat, BitVec.toNat_and, BitVec.toNat_ofNat, Nat.mod_eq_of_lt ha, Nat.mod_eq_of_lt hb, wrap_small hk h]; rfl
theorem bin_or {a b : Nat} (hk : k.signed = false) (ha : a < 2 ^ k.bits) (hb : b < 2 ^ k.bits) : BinV P .or t (.int k (a : Int)) (.int k (b : Int)) (.int k ((a ||| b : Nat) : Int)) :=
  bin_bits .or (.inr (.inl rfl)) fun w => by
    have h : a ||| b < 2 ^ k.bits := Nat.or_lt_two_pow ha hb
    simp only [Op.intBits, ofInt_nat, BitVec.toNat_or, BitVec.toNat_ofNat, Nat.mod_eq_of_lt ha, Nat.mod_eq_of_lt hb, wrap_small hk h]; rfl
theorem bin_xor {a b : Nat} (hk : k.signed = false) (ha : a < 2 ^ k.bits) (hb : b < 2 ^ k.bits) : BinV P .xor t (.int k (a : Int)) (.int k (b : Int)) (.int k ((a ^^^ b : Nat) : Int)) :=
  bin_bits .xor (.inr (.inr (.inl rfl))) fun w => by
    have h : a ^^^ b < 2 ^ k.bits := Nat.xor_lt_two_pow ha hb
    simp only [Op.intBits, ofInt_nat, BitVec.toNat_xor, BitVec.toNat_ofNat, Nat.mod_eq_of_lt ha, Nat.mod_eq_of_lt hb, wrap_small hk h]; rfl
theorem bin_andNot {a b : Nat} (hk : k.signed = false) (ha : a < 2 ^ k.bits) (hb : b < 2 ^ k.bits) : BinV P .andNot t (.int k (a : Int)) (.int k (b : Int)) (.int k ((a &&& (2 ^ k.bits - 1 - b) : Nat) : Int)) :=
  bin_bits .andNot (.inr (.inr (.inr rfl))) fun w => by
    have h : a &&& (2 ^ k.bits - 1 - b) < 2 ^ k.bits := Nat.lt_of_le_of_lt Nat.and_le_left ha
    simp only [Op.intBits, ofInt_nat, BitVec.toNat_and, BitVec.toNat_not, BitVec.toNat_ofNat, Nat.mod_eq_of_lt ha, Nat.mod_eq_of_lt hb, wrap_small hk h]; rfl
theorem bin_shr {x y : Nat} {yk : IntKind} (hx : x < 2 ^ k.bits) : BinV P .shr t (.int k (x : Int)) (.int yk (y : Int)) (.int k ((x / 2 ^ y : Nat) : Int)) := .mk fun u v w => by
  have h : ((x : Int).fdiv (2 ^ min y k.bits)) = ((x / 2 ^ y : Nat) : Int) := by
    rw [Int.fdiv_eq_ediv_of_nonneg _ (Int.le_of_lt (Int.pow_pos (by decide)))]
    rcases Nat.le_total y k.bits with h | h
    · rw [Nat.min_eq_left h]; simp
    · rw [Nat.min_eq_right h]
      have h1 : x / 2 ^ k.bits = 0 := Nat.div_eq_of_lt hx
      have h2 : x / 2 ^ y = 0 := Nat.div_eq_of_lt (Nat.lt_of_lt_of_le hx (Nat.pow_le_pow_right (by decide) h))
      rw [h2]
      have : ((x : Int) / 2 ^ k.bits) = ((x / 2 ^ k.bits : Nat) : Int) := by simp
      rw [this, h1]
  have h0 : ¬ (y : Int) < 0 := by omega
  simp only [eqGuard, binOp, Op.shift, h0, if_false, Int.toNat_natCast, h]
  simp
theorem bin_shl {x y : Nat} {yk : IntKind} (hk : k.signed = false) : BinV P .shl t (.int k (x : Int)) (.int yk (y : Int)) (.int k ((x * 2 ^ y % 2 ^ k.bits : Nat) : Int)) := .mk fun u v w => by
  have h : k.wrap ((x : Int) * 2 ^ min y k.bits) = ((x * 2 ^ y % 2 ^ k.bits : Nat) : Int) := by
    have : ((x : Int) * 2 ^ min y k.bits) = ((x * 2 ^ min y k.bits : Nat) : Int) := by simp
    rw [this, wrap_nat hk]
    rcases Nat.le_total y k.bits with h | h
    · rw [Nat.min_eq_left h]
    · rw [Nat.min_eq_right h, Nat.mul_mod_left]
      obtain ⟨d, rfl⟩ := Nat.exists_eq_add_of_le h
      rw [Nat.pow_add, ← Nat.mul_assoc, Nat.mul_right_comm, Nat.mul_mod_left]
  have h0 : ¬ (y : Int) < 0 := by omega
  simp only [eqGuard, binOp, Op.shift, h0, if_false, Int.toNat_natCast, h]
  simp
theorem bin_mulU {a b : Nat} (hk : k.signed = false) : BinV P .mul t (.int k (a : Int)) (.int k (b : Int)) (.int k (((a * b) % 2 ^ k.bits : Nat) : Int)) := bin_mul.to (by
  have : (a : Int) * b = ((a * b : Nat) : Int) := by simp
  rw [this, wrap_nat hk])
theorem bin_quo {a b : Nat} (hb : 0 < b) (hr : k.wrap ((a / b : Nat) : Int) = ((a / b : Nat) : Int)) : BinV P .quo t (.int k (a : Int)) (.int k (b : Int)) (.int k ((a / b : Nat) : Int)) := .mk fun u v w => by
  have h0 : ¬ (b : Int) = 0 := by omega
  have h0' : ¬ b = 0 := by omega
  have h1 : (a : Int).tdiv b = ((a / b : Nat) : Int) := by rw [Int.tdiv_eq_ediv_of_nonneg (by omega)]; simp
  simp [eqGuard, binOp, Op.intDiv, h0', h1, -Int.natCast_ediv, hr]
theorem bin_rem {a b : Nat} (hb : 0 < b) : BinV P .rem t (.int k (a : Int)) (.int k (b : Int)) (.int k ((a % b : Nat) : Int)) := .mk fun u v w => by
  have h0' : ¬ b = 0 := by omega
  have h1 : (a : Int).tmod b = ((a % b : Nat) : Int) := by rw [Int.tmod_eq_emod_of_nonneg (by omega)]; simp
  simp [eqGuard, binOp, Op.intDiv, h0', h1, -Int.natCast_emod]
theorem bin_mulN {a b : Nat} (h : a * b ≤ 9223372036854775807) : BinV P .mul t (.int .i64 (a : Int)) (.int .i64 (b : Int)) (.int .i64 ((a * b : Nat) : Int)) := (bin_mul64 (by
  have : (a : Int) * b = ((a * b : Nat) : Int) := by simp
  omega)).to (by simp)
theorem bin_addN {a b : Nat} (h : a + b ≤ 9223372036854775807) : BinV P .add t (.int .i64 (a : Int)) (.int .i64 (b : Int)) (.int .i64 ((a + b : Nat) : Int)) := (bin_add64 (by omega)).to (by simp)
theorem bin_subN {a b : Nat} (hb : b ≤ a) (h : a ≤ 9223372036854775807) : BinV P .sub t (.int .i64 (a : Int)) (.int .i64 (b : Int)) (.int .i64 ((a - b : Nat) : Int)) := (bin_sub64 (by omega)).to (by simp; omega)
theorem bin_mulU' {a b : Nat} (hk : k.signed = false) (h : a * b < 2 ^ k.bits) : BinV P .mul t (.int k (a : Int)) (.int k (b : Int)) (.int k ((a * b : Nat) : Int)) := (bin_mulU hk).to (by rw [Nat.mod_eq_of_lt h])
theorem run_equalIn_slice (w : World) (d : Nat) {e : TypeId} (A : Option Addr) (n c : Nat) (ht : P.underlying t = some (.slice e)) : (Op.equalIn (d + 1) t (.slice A n c) (.slice none 0 0)).run P w = .ok A.isNone w := by
  cases A <;> simp [Op.equalIn, run_underlying ht]
theorem bin_eqlSliceNil {e : TypeId} {A : Option Addr} {n c : Nat} (ht : P.underlying t = some (.slice e)) : BinV P .eql t (.slice A n c) (.slice none 0 0) (.bool A.isNone) := .mk fun x y w => by
  simp only [eqGuard, binOp]
  simp [Op.equal, Op.maxDepth, run_equalIn_slice w 9999 A n c ht]
end
end Go.Proofs.YtdgagffieobiiaaGreatDoor

/-
  The program's facts that the walks use: its slice types, and that each function has a body.
-/
namespace Go.Proofs.YtdgagffieobiiaaGreatDoor
open Go.RowKit
theorem tyB : Row1 Tryz.prog 28 5 (.int .u8 0) 1 := ⟨Tryz.underlying28, by kernel_rfl, rfl, by rw [Tryz.underlying5]⟩
theorem tyBB : Row1 Tryz.prog 23 28 (.slice none 0 0) 24 := ⟨Tryz.underlying23, by kernel_rfl, rfl, by rw [Tryz.underlying28]⟩
theorem mixed : Tryz.prog.follows .mixedOrders = true := by kernel_rfl

/-- Bytes in a row of the call's own. -/
abbrev OwB (w : World) (base : Nat) (A : Option Addr) (c : Nat) (xs : List UInt8) : Prop := Ow w base 5 A xs.length c (bvs xs)
/-- Bytes that can be read. -/
abbrev RdB (w : World) (A : Option Addr) (xs : List UInt8) : Prop := Rd w A xs.length (bvs xs)
theorem OwB.rd {w : World} {base c : Nat} {A : Option Addr} {xs : List UInt8} (h : OwB w base A c xs) : RdB w A xs := Ow.rd h
theorem RdB.below {w w' : World} {A : Option Addr} {xs : List UInt8} (h : RdB w A xs) (hb : Below w.heap.size w w') : RdB w' A xs := Rd.below h hb
theorem OwB.below {w w' : World} {base c : Nat} {A : Option Addr} {xs : List UInt8} (h : OwB w base A c xs) (hb : Below w.heap.size w w') : OwB w' base A c xs := Ow.below h hb (Nat.le_refl _)
theorem OwB.snoc {w : World} {base c : Nat} {A : Option Addr} {pre : List UInt8} {x : UInt8} {v : Value} (h : Ow w base 5 A (pre.length + 1) c (bvs pre ++ [v])) (hv : bv x = v) : OwB w base A c (pre ++ [x]) := by
  subst hv; simpa [OwB, bvs] using h
theorem OwB.app {w : World} {base c : Nat} {A : Option Addr} {xs ys : List UInt8} (h : Ow w base 5 A (xs.length + ys.length) c (bvs xs ++ bvs ys)) : OwB w base A c (xs ++ ys) := by
  simpa [OwB, bvs] using h
theorem bvs_set (xs : List UInt8) (k : Nat) (y : UInt8) : (bvs xs).set k (bv y) = bvs (xs.set k y) := by simp [bvs, List.map_set]
theorem OwB.cap {w : World} {base c : Nat} {A : Option Addr} {xs : List UInt8} (h : OwB w base A c xs) : xs.length ≤ c := by
  rcases h.2 with ⟨hv, hn⟩ | ⟨g, cap, cur, hv, _, _, hnc, _⟩
  · omega
  · injection hv with _ _ hc; omega
/-- New bytes are handed back. -/
def RetB (w : World) (xs : List UInt8) (v : Value) (w' : World) : Prop :=
  ∃ A c, v = .slice A xs.length c ∧ OwB w' w.heap.size A c xs ∧ Below w.heap.size w w'
theorem bv_of {n : Nat} (h : n < 256) : bv (UInt8.ofNat n) = .int .u8 (n : Int) := by
  simp [bv, Nat.mod_eq_of_lt h]

theorem ok_mem_New : CallOk Tryz.prog 4 := callOk Tryz.func4 (by kernel_rfl) rfl
theorem ok_caissonref07_Sorted : CallOk Tryz.prog 5 := callOk Tryz.func5 (by kernel_rfl) rfl
theorem ok_caissontop_few : CallOk Tryz.prog 6 := callOk Tryz.func6 (by kernel_rfl) rfl
theorem ok_mem_Table_Put : CallOk Tryz.prog 7 := callOk Tryz.func7 (by kernel_rfl) rfl
theorem ok_caissonref07_Twins : CallOk Tryz.prog 8 := callOk Tryz.func8 (by kernel_rfl) rfl
theorem ok_disk_New : CallOk Tryz.prog 9 := callOk Tryz.func9 (by kernel_rfl) rfl
theorem ok_disk_Disk_Arm : CallOk Tryz.prog 10 := callOk Tryz.func10 (by kernel_rfl) rfl
theorem ok_table_Write : CallOk Tryz.prog 11 := callOk Tryz.func11 (by kernel_rfl) rfl
theorem ok_mem_Table_Range : CallOk Tryz.prog 12 := callOk Tryz.func12 (by kernel_rfl) rfl
theorem ok_mem_Table_Size : CallOk Tryz.prog 13 := callOk Tryz.func13 (by kernel_rfl) rfl
theorem ok_disk_Disk_Dead : CallOk Tryz.prog 14 := callOk Tryz.func14 (by kernel_rfl) rfl
theorem ok_disk_Disk_Crash : CallOk Tryz.prog 15 := callOk Tryz.func15 (by kernel_rfl) rfl
theorem ok_table_Open : CallOk Tryz.prog 16 := callOk Tryz.func16 (by kernel_rfl) rfl
theorem ok_mem_Table_Len : CallOk Tryz.prog 17 := callOk Tryz.func17 (by kernel_rfl) rfl
theorem ok_disk_Disk_List : CallOk Tryz.prog 18 := callOk Tryz.func18 (by kernel_rfl) rfl
theorem ok_bloom_Build : CallOk Tryz.prog 19 := callOk Tryz.func19 (by kernel_rfl) rfl
theorem ok_bloom_May : CallOk Tryz.prog 20 := callOk Tryz.func20 (by kernel_rfl) rfl
theorem ok_mem_Table_Get : CallOk Tryz.prog 21 := callOk Tryz.func21 (by kernel_rfl) rfl
theorem ok_table_Table_Get : CallOk Tryz.prog 22 := callOk Tryz.func22 (by kernel_rfl) rfl
theorem ok_caissonref07_Same : CallOk Tryz.prog 23 := callOk Tryz.func23 (by kernel_rfl) rfl
theorem ok_caissonref07_SameList : CallOk Tryz.prog 24 := callOk Tryz.func24 (by kernel_rfl) rfl
theorem ok_table_Table_Range : CallOk Tryz.prog 25 := callOk Tryz.func25 (by kernel_rfl) rfl
theorem ok_caissonref07_Check : CallOk Tryz.prog 26 := callOk Tryz.func26 (by kernel_rfl) rfl
theorem ok_caissonref07_In : CallOk Tryz.prog 27 := callOk Tryz.func27 (by kernel_rfl) rfl
theorem ok_caissonref07_Insert : CallOk Tryz.prog 28 := callOk Tryz.func28 (by kernel_rfl) rfl
theorem ok_mem_Check : CallOk Tryz.prog 29 := callOk Tryz.func29 (by kernel_rfl) rfl
theorem ok_mem_Table_there : CallOk Tryz.prog 30 := callOk Tryz.func30 (by kernel_rfl) rfl
theorem ok_mem_Table_insert : CallOk Tryz.prog 31 := callOk Tryz.func31 (by kernel_rfl) rfl
theorem ok_caissonref07_Twin : CallOk Tryz.prog 32 := callOk Tryz.func32 (by kernel_rfl) rfl
theorem ok_table_Bytes : CallOk Tryz.prog 33 := callOk Tryz.func33 (by kernel_rfl) rfl
theorem ok_slices_Contains_string_string : CallOk Tryz.prog 34 := callOk Tryz.func34 (by kernel_rfl) rfl
theorem ok_disk_Disk_Remove : CallOk Tryz.prog 35 := callOk Tryz.func35 (by kernel_rfl) rfl
theorem ok_disk_Disk_Append : CallOk Tryz.prog 36 := callOk Tryz.func36 (by kernel_rfl) rfl
theorem ok_disk_Disk_Sync : CallOk Tryz.prog 37 := callOk Tryz.func37 (by kernel_rfl) rfl
theorem ok_disk_Disk_Rename : CallOk Tryz.prog 38 := callOk Tryz.func38 (by kernel_rfl) rfl
theorem ok_mem_Table_seek : CallOk Tryz.prog 39 := callOk Tryz.func39 (by kernel_rfl) rfl
theorem ok_codec_Cmp : CallOk Tryz.prog 40 := callOk Tryz.func40 (by kernel_rfl) rfl
theorem ok_mem_twin : CallOk Tryz.prog 41 := callOk Tryz.func41 (by kernel_rfl) rfl
theorem ok_disk_Disk_names : CallOk Tryz.prog 42 := callOk Tryz.func42 (by kernel_rfl) rfl
theorem ok_bytes_Clone : CallOk Tryz.prog 43 := callOk Tryz.func43 (by kernel_rfl) rfl
theorem ok_disk_Disk_Read : CallOk Tryz.prog 44 := callOk Tryz.func44 (by kernel_rfl) rfl
theorem ok_table_parse : CallOk Tryz.prog 45 := callOk Tryz.func45 (by kernel_rfl) rfl
theorem ok_table_meta : CallOk Tryz.prog 46 := callOk Tryz.func46 (by kernel_rfl) rfl
theorem ok_strings_HasPrefix : CallOk Tryz.prog 49 := callOk Tryz.func49 (by kernel_rfl) rfl
theorem ok_bloom_places : CallOk Tryz.prog 50 := callOk Tryz.func50 (by kernel_rfl) rfl
theorem ok_bloom_form : CallOk Tryz.prog 51 := callOk Tryz.func51 (by kernel_rfl) rfl
theorem ok_table_Table_seek : CallOk Tryz.prog 52 := callOk Tryz.func52 (by kernel_rfl) rfl
theorem ok_table_twin : CallOk Tryz.prog 53 := callOk Tryz.func53 (by kernel_rfl) rfl
theorem ok_caissonref01_Equal : CallOk Tryz.prog 54 := callOk Tryz.func54 (by kernel_rfl) rfl
theorem ok_caissonref07_Less : CallOk Tryz.prog 55 := callOk Tryz.func55 (by kernel_rfl) rfl
theorem ok_mem_compare : CallOk Tryz.prog 56 := callOk Tryz.func56 (by kernel_rfl) rfl
theorem ok_mem_height : CallOk Tryz.prog 57 := callOk Tryz.func57 (by kernel_rfl) rfl
theorem ok_mem_Table_ahead : CallOk Tryz.prog 58 := callOk Tryz.func58 (by kernel_rfl) rfl
theorem ok_caissonref01_Copy : CallOk Tryz.prog 59 := callOk Tryz.func59 (by kernel_rfl) rfl
theorem ok_table_ordered : CallOk Tryz.prog 60 := callOk Tryz.func60 (by kernel_rfl) rfl
theorem ok_table_cut : CallOk Tryz.prog 61 := callOk Tryz.func61 (by kernel_rfl) rfl
theorem ok_block_Build : CallOk Tryz.prog 62 := callOk Tryz.func62 (by kernel_rfl) rfl
theorem ok_table_filter : CallOk Tryz.prog 63 := callOk Tryz.func63 (by kernel_rfl) rfl
theorem ok_crc_Seal : CallOk Tryz.prog 64 := callOk Tryz.func64 (by kernel_rfl) rfl
theorem ok_codec_Frame : CallOk Tryz.prog 65 := callOk Tryz.func65 (by kernel_rfl) rfl
theorem ok_disk_Disk_turn : CallOk Tryz.prog 67 := callOk Tryz.func67 (by kernel_rfl) rfl
theorem ok_disk_Disk_there : CallOk Tryz.prog 68 := callOk Tryz.func68 (by kernel_rfl) rfl
theorem ok_disk_Disk_Used : CallOk Tryz.prog 69 := callOk Tryz.func69 (by kernel_rfl) rfl
theorem ok_disk_Disk_put : CallOk Tryz.prog 70 := callOk Tryz.func70 (by kernel_rfl) rfl
theorem ok_bytes_Compare : CallOk Tryz.prog 71 := callOk Tryz.func71 (by kernel_rfl) rfl
theorem ok_crc_Open : CallOk Tryz.prog 74 := callOk Tryz.func74 (by kernel_rfl) rfl
theorem ok_codec_Parts : CallOk Tryz.prog 75 := callOk Tryz.func75 (by kernel_rfl) rfl
theorem ok_block_Decode : CallOk Tryz.prog 76 := callOk Tryz.func76 (by kernel_rfl) rfl
theorem ok_bytes_Equal : CallOk Tryz.prog 77 := callOk Tryz.func77 (by kernel_rfl) rfl
theorem ok_bloom_Hash : CallOk Tryz.prog 80 := callOk Tryz.func80 (by kernel_rfl) rfl
theorem ok_sort_Search : CallOk Tryz.prog 81 := callOk Tryz.func81 (by kernel_rfl) rfl
theorem ok_table_Table_seek_1 : CallOk Tryz.prog 82 := callOk Tryz.func82 (by kernel_rfl) rfl
theorem ok_mem_Less : CallOk Tryz.prog 83 := callOk Tryz.func83 (by kernel_rfl) rfl
theorem ok_caissonref01_Cmp : CallOk Tryz.prog 84 := callOk Tryz.func84 (by kernel_rfl) rfl
theorem ok_math_bits_TrailingZeros : CallOk Tryz.prog 85 := callOk Tryz.func85 (by kernel_rfl) rfl
theorem ok_mem_Table_levels : CallOk Tryz.prog 86 := callOk Tryz.func86 (by kernel_rfl) rfl
theorem ok_block_put4 : CallOk Tryz.prog 87 := callOk Tryz.func87 (by kernel_rfl) rfl
theorem ok_block_common : CallOk Tryz.prog 88 := callOk Tryz.func88 (by kernel_rfl) rfl
theorem ok_block_entry : CallOk Tryz.prog 89 := callOk Tryz.func89 (by kernel_rfl) rfl
theorem ok_bytes_Join : CallOk Tryz.prog 90 := callOk Tryz.func90 (by kernel_rfl) rfl
theorem ok_crc_put : CallOk Tryz.prog 91 := callOk Tryz.func91 (by kernel_rfl) rfl
theorem ok_crc_Sum : CallOk Tryz.prog 92 := callOk Tryz.func92 (by kernel_rfl) rfl
theorem ok_codec_PutU : CallOk Tryz.prog 93 := callOk Tryz.func93 (by kernel_rfl) rfl
theorem ok_crc_get : CallOk Tryz.prog 98 := callOk Tryz.func98 (by kernel_rfl) rfl
theorem ok_codec_GetU : CallOk Tryz.prog 99 := callOk Tryz.func99 (by kernel_rfl) rfl
theorem ok_block_split : CallOk Tryz.prog 100 := callOk Tryz.func100 (by kernel_rfl) rfl
theorem ok_block_reader_entry : CallOk Tryz.prog 101 := callOk Tryz.func101 (by kernel_rfl) rfl
theorem ok_math_bits_TrailingZeros64 : CallOk Tryz.prog 103 := callOk Tryz.func103 (by kernel_rfl) rfl
theorem ok_codec_OrdU : CallOk Tryz.prog 104 := callOk Tryz.func104 (by kernel_rfl) rfl
theorem ok_crc_Table : CallOk Tryz.prog 106 := callOk Tryz.func106 (by kernel_rfl) rfl
theorem ok_codec_inside : CallOk Tryz.prog 110 := callOk Tryz.func110 (by kernel_rfl) rfl
theorem ok_block_get4 : CallOk Tryz.prog 111 := callOk Tryz.func111 (by kernel_rfl) rfl
theorem ok_block_reader_number : CallOk Tryz.prog 112 := callOk Tryz.func112 (by kernel_rfl) rfl
theorem ok_block_reader_take : CallOk Tryz.prog 113 := callOk Tryz.func113 (by kernel_rfl) rfl
theorem ok_crc_eight : CallOk Tryz.prog 114 := callOk Tryz.func114 (by kernel_rfl) rfl
theorem ok_crc_step : CallOk Tryz.prog 126 := callOk Tryz.func126 (by kernel_rfl) rfl
end Go.Proofs.YtdgagffieobiiaaGreatDoor

/-
  How the arguments of a law are read: bytes, and lists of bytes; what a bound on all that is read gives.
-/
namespace Go.Proofs.YtdgagffieobiiaaGreatDoor
open Go.RowKit Go.ChangeShapes Go.WideShapes Go.ChangeAt

theorem own : ownKnob Tryz.prog.godebug = none := by kernel_rfl
theorem laidOut : laidOutB Tryz.prog = true := by kernel_rfl

theorem bulk_one {H : Type} (d : DataW H) : 1 ≤ Rows.uptoBulk d := by
  cases d with
  | lit l => cases l <;> simp [Rows.uptoBulk]
  | nil => simp [Rows.uptoBulk]
  | ptr d => simp [Rows.uptoBulk]
  | slice elems spare => simp [Rows.uptoBulk]
  | agg parts => simp [Rows.uptoBulk]
  | iface t d => simp [Rows.uptoBulk]
  | map entries => simp [Rows.uptoBulk]
  | held h => simp [Rows.uptoBulk]
theorem bulk_len {H : Type} (l : List (DataW H)) : l.length ≤ Rows.uptoBulkAll l := by
  induction l with
  | nil => simp [Rows.uptoBulkAll]
  | cons x r ih => have := bulk_one x; simp only [Rows.uptoBulkAll, List.length_cons]; omega

section
variable {H : Type} {enc : TypeId × Value → H} {W : World} {a0 : Option Addr} {len0 cap0 : Nat} {d0 : DataW H} {p0 : List MemPlace}

theorem bytes_of {w : World} {x : Addr} {zs : List Int} {n : Nat} (hn : n ≤ zs.length) (hcell : ∀ i, i < zs.length → w.cell? (x.add i) = some (.int .u8 (zs.getD i 0))) (hw : ∀ z ∈ zs, (Lit.int .u8 z).wf = true) :
    ∃ xs : List UInt8, xs.length = n ∧ RdB w (some x) xs := by
  refine ⟨(zs.take n).map fun z => UInt8.ofNat z.toNat, by simp; omega, by simp [bvs], fun h0 => ?_⟩
  have hpos : 0 < zs.length := by simp at h0; omega
  obtain ⟨b, o, spot⟩ := x
  have hc := hcell 0 hpos
  have hspot : spot = none := by simpa [Addr.add] using World.cell?_spot hc
  subst hspot
  refine ⟨b, o, rfl, World.block_lt_of_cell? w _ (by simpa [Addr.add] using hc), fun j u hu => ?_⟩
  simp only [bvs, List.map_map, List.getElem?_map, List.getElem?_take] at hu
  by_cases hj : j < n
  · rw [if_pos hj] at hu
    have hjz : j < zs.length := by omega
    rw [List.getElem?_eq_getElem hjz] at hu
    simp only [Option.map_some, Option.some.injEq, Function.comp_apply] at hu
    have h1 := hcell j hjz
    rw [Addr.add_lit] at h1
    rw [h1, ← hu]
    have hz := hw zs[j] (List.getElem_mem hjz)
    have hb : 0 ≤ zs[j] ∧ zs[j] ≤ 255 := by simpa [Lit.wf, IntKind.min, IntKind.max, IntKind.signed, IntKind.bits] using hz
    have e : zs.getD j 0 = zs[j] := by simp [List.getD, List.getElem?_eq_getElem hjz]
    have e2 : zs[j].toNat % 256 = zs[j].toNat := Nat.mod_eq_of_lt (by omega)
    rw [e]
    simp [bv, e2]
    omega
  · rw [if_neg hj] at hu; cases hu

theorem arg_bytes (h0 : DataW.Trod enc Tryz.prog W 0 (fun _ => true) true 28 (.slice a0 len0 cap0) d0 p0) :
    ∃ xs : List UInt8, xs.length = len0 ∧ RdB W a0 xs ∧ len0 ≤ cap0 ∧ cap0 ≤ maxLen ∧ len0 + 1 ≤ Rows.uptoBulk d0 ∧ ((d0 = .nil ∧ cap0 = 0) ∨ ∃ e s, d0 = .slice e s ∧ e.length + s.length = cap0) := by
  obtain ⟨fuel, hf⟩ := h0
  rcases open_ints Tryz.underlying28 Tryz.underlying5 (by kernel_rfl) hf with ⟨hcs, hx⟩ | ⟨x, l, c, zs, hcs, _, hl, hm, hz, hx, hcell, hwz⟩
  · simp [Value.cells] at hcs
    obtain ⟨rfl, rfl, rfl⟩ := hcs
    injection hx with hd _
    subst hd
    exact ⟨[], rfl, Rd.nil _ _, by omega, by simp [maxLen], by simp [Rows.uptoBulk], .inl ⟨rfl, rfl⟩⟩
  · simp [Value.cells] at hcs
    obtain ⟨rfl, rfl, rfl⟩ := hcs
    injection hx with hd _
    have hz' : zs.length = cap0 := by simpa using hz
    obtain ⟨xs, h1, h2⟩ := bytes_of (n := len0) (by omega) hcell hwz
    have h3 := bulk_len (H := H) (lits .u8 (zs.take len0))
    refine ⟨xs, h1, h2, hl, hm, ?_, .inr ⟨_, _, hd, by simp [lits]; omega⟩⟩
    rw [hd]
    simp only [Rows.uptoBulk]
    simp [lits] at h3 ⊢
    omega
end
end Go.Proofs.YtdgagffieobiiaaGreatDoor

/-
  How arguments of any type are read: a reading of a type as data, for numbers, texts, bytes, slices of what can be read; structs are opened field by field.
-/
namespace Go.Proofs.YtdgagffieobiiaaGreatDoor
open Go.RowKit Go.ChangeShapes Go.WideShapes Go.ChangeAt Go.Deep

/-- A cell that holds a row of elements. -/
def rowEl (k : Nat) (els : List El) : El where
  P w S cs := ∃ (A : Option Addr) (c : Nat), cs = [.slice A els.length c] ∧ els.length ≤ c ∧ RdR k w S A els ∧ 0 < k
  move := by rintro w w' S S' cs ⟨A, c, h, hc, hb, hk⟩ hz hm; exact ⟨A, c, h, hc, RdR.move hk hb hz hm, hk⟩
theorem rowEl.rd {k : Nat} {els : List El} {w : World} {S : Nat → Prop} {A : Option Addr} {n c : Nat} (h : (rowEl k els).P w S [.slice A n c]) : els.length = n ∧ n ≤ c ∧ RdR k w S A els := by
  obtain ⟨A', c', h1, h2, h3, _⟩ := h
  simp only [List.cons.injEq, Value.slice.injEq, and_true] at h1
  obtain ⟨rfl, rfl, rfl⟩ := h1
  exact ⟨rfl, h2, h3⟩
theorem rowEl.mk {k : Nat} {els : List El} {w : World} {S : Nat → Prop} {A : Option Addr} {c : Nat} (h : RdR k w S A els) (hc : els.length ≤ c) (hk : 0 < k) : (rowEl k els).P w S [.slice A els.length c] := ⟨A, c, rfl, hc, h, hk⟩

/-- What stands at type t is read as some a, in k cells; its bulk; what is known of a. -/
def Opens (P : Program) (t : TypeId) {α : Type} (R : α → El) (k : Nat) (bulk : α → Nat) (ok : α → Prop) : Prop :=
  ∀ {H : Type} (enc : TypeId × Value → H) (W : World) (fuel : Nat) (cs : List Value) (x : DataW H × List MemPlace), DataW.trod enc P W 0 (fun _ => true) true fuel t cs = some x →
    ∃ a, (R a).P W All cs ∧ cs.length = k ∧ ok a ∧ bulk a + 1 ≤ Rows.uptoBulk x.1
section
variable {P : Program} {t e : TypeId} {α : Type} {R : α → El} {k : Nat} {bulk : α → Nat} {ok : α → Prop}
theorem opens_int {ik : IntKind} (ht : P.underlying t = some (.int ik)) : Opens P t (fun n : Int => vEl (.int ik n)) 1 (fun _ => 0) (fun n => (Lit.int ik n).wf = true) := fun enc W fuel cs x h => by
  obtain ⟨n, rfl, rfl, hw⟩ := DataW.trod_int ht h
  exact ⟨n, rfl, rfl, hw, by simp [Rows.uptoBulk]⟩
def sumB (bulk : α → Nat) (l : List α) : Nat := (l.map fun a => bulk a + 1).sum
theorem sumB_cons (a : α) (l : List α) : sumB bulk (a :: l) = bulk a + 1 + sumB bulk l := by simp [sumB]
theorem sumB_mem {l : List α} {a : α} (h : a ∈ l) : bulk a + 1 ≤ sumB bulk l := by
  induction l with
  | nil => cases h
  | cons x l ih =>
    rw [sumB_cons]
    rcases List.mem_cons.1 h with rfl | h
    · omega
    · have := ih h; omega
theorem sumB_len (l : List α) : l.length ≤ sumB bulk l := by
  induction l with
  | nil => simp
  | cons x l ih => rw [sumB_cons]; simp only [List.length_cons]; omega
theorem opens_slice {z : Value} {bytes : Nat} (T : RowK P t e k z bytes) (hC : P.cellsOf e = k) (he : Opens P e R k bulk ok) :
    Opens P t (fun l : List α => rowEl k (l.map R)) 1 (sumB bulk) (fun l => (∀ a ∈ l, ok a)) := fun {H} enc W fuel cs x h => by
  rcases open_slice T.sl h with ⟨rfl, rfl⟩ | ⟨a, len, cap, m, n, D, Pl, rfl, hb, hl, hm, hmm, rfl, hi⟩
  · exact ⟨[], ⟨none, 0, rfl, by simp, RdR.nil _, T.pos⟩, rfl, by simp, by simp [sumB, Rows.uptoBulk]⟩
  · have hmc : m = cap := by simpa using hmm
    subst hmc
    rw [hC] at hi
    have each : ∀ i, i < m → ∃ (v : α) (cs' : List Value), (R v).P W All cs' ∧ cs'.length = k ∧ ok v ∧ bulk v + 1 ≤ Rows.uptoBulk (D i) ∧ ∀ j u, cs'[j]? = some u → W.cell? (a.add (i * k + j)) = some u := by
      intro i him
      obtain ⟨cs', hc, ht'⟩ := hi i him
      obtain ⟨v, h1, h2, h3, h4⟩ := he enc W n cs' _ ht'
      obtain ⟨_, hcl, hat⟩ := World.cells?_some hc
      refine ⟨v, cs', h1, h2, h3, h4, fun j u hu => ?_⟩
      have hj : j < k := by have := (List.getElem?_eq_some_iff.1 hu).1; omega
      rw [← Go.Deep.add_add, hat j hj, hu]
    have hch : ∃ (V : Nat → Option α) (C : Nat → List Value), ∀ i, i < m → ∃ v, V i = some v ∧ (R v).P W All (C i) ∧ (C i).length = k ∧ ok v ∧ bulk v + 1 ≤ Rows.uptoBulk (D i) ∧ ∀ j u, (C i)[j]? = some u → W.cell? (a.add (i * k + j)) = some u :=
      ⟨fun i => if h : i < m then some (Classical.choose (each i h)) else none, fun i => if h : i < m then Classical.choose (Classical.choose_spec (each i h)) else [], fun i him => ⟨Classical.choose (each i him), by simp only [dif_pos him], by simp only [dif_pos him]; exact Classical.choose_spec (Classical.choose_spec (each i him))⟩⟩
    obtain ⟨V, C, hV⟩ := hch
    have build : ∀ q, q ≤ m → ∃ l : List α, l.length = q ∧ (∀ i, i < q → l[i]? = V i) ∧ (∀ v ∈ l, ok v) ∧ sumB bulk l ≤ Rows.uptoBulkAll ((List.range q).map D) := by
      intro q
      induction q with
      | zero => intro _; exact ⟨[], rfl, by simp, by simp, by simp [sumB]⟩
      | succ q ih =>
        intro hq
        obtain ⟨l, h1, h2, h3, h4⟩ := ih (by omega)
        obtain ⟨v, hv, _, _, hok, hbk, _⟩ := hV q (by omega)
        refine ⟨l ++ [v], by simp [h1], fun i hi => ?_, fun u hu => ?_, ?_⟩
        · by_cases hiq : i < q
          · rw [List.getElem?_append_left (by omega)]; exact h2 i hiq
          · obtain rfl : i = q := by omega
            rw [← h1, List.getElem?_concat_length, h1, hv]
        · rcases List.mem_append.1 hu with hu | hu
          · exact h3 u hu
          · simp at hu; subst hu; exact hok
        · have e1 : ∀ (l : List α) (v : α), sumB bulk (l ++ [v]) = sumB bulk l + (bulk v + 1) := fun l v => by simp [sumB]
          have e2 : ∀ (l : List (DataW H)) (d : DataW H), Rows.uptoBulkAll (l ++ [d]) = Rows.uptoBulkAll l + Rows.uptoBulk d := by
            intro l d
            induction l with
            | nil => simp [Rows.uptoBulkAll]
            | cons x l ih => simp only [List.cons_append, Rows.uptoBulkAll, ih]; omega
          rw [e1, List.range_succ, List.map_append, List.map_cons, List.map_nil, e2]; omega
    obtain ⟨l, hlen, hget, hok, hsum⟩ := build len hl
    subst hlen
    refine ⟨l, ⟨some a, m, by simp, by simpa using hl, ⟨(List.range l.length).map C, ⟨by simp, fun i cs hi' => ?_⟩, ?_, fun _ _ _ => trivial⟩, T.pos⟩, rfl, hok, ?_⟩
    · rw [List.getElem?_map] at hi'
      by_cases hil : i < l.length
      · rw [List.getElem?_range hil] at hi'
        simp only [Option.map_some, Option.some.injEq] at hi'
        subst hi'
        obtain ⟨v, hv, hp, hk, _⟩ := hV i (by omega)
        refine ⟨hk, R v, ?_, hp⟩
        rw [List.getElem?_map, hget i hil, hv]; rfl
      · rw [List.getElem?_eq_none (by simp; omega)] at hi'; simp at hi'
    · have hks : ∀ cs ∈ (List.range l.length).map C, cs.length = k := by
        intro cs hcs
        obtain ⟨i, hi', rfl⟩ := List.mem_map.1 hcs
        obtain ⟨v, _, _, hk, _⟩ := hV i (by have := List.mem_range.1 hi'; omega)
        exact hk
      have hfl : ((List.range l.length).map C).flatten.length = l.length * k := by
        rw [List.length_flatten]
        have : ((List.range l.length).map C).map List.length = List.replicate l.length k := by
          apply List.ext_getElem?
          intro i
          rw [List.getElem?_map, List.getElem?_map, List.getElem?_replicate]
          by_cases hil : i < l.length
          · rw [List.getElem?_range hil, if_pos hil]
            simp only [Option.map_some]
            rw [hks _ (List.mem_map.2 ⟨i, List.mem_range.2 hil, rfl⟩)]
          · rw [if_neg hil, List.getElem?_eq_none (by simp; omega)]; rfl
        rw [this]; simp
      refine ⟨by simpa using hfl, fun hpos => ?_⟩
      simp only [List.length_map] at hpos
      have hk0 := T.pos
      have hl0 : 0 < l.length := by
        rcases Nat.eq_zero_or_pos l.length with h0 | h0
        · rw [h0] at hpos; simp at hpos
        · exact h0
      obtain ⟨b, o, spot⟩ := a
      obtain ⟨v0, _, _, hk0', _, _, hc0⟩ := hV 0 (by omega)
      obtain ⟨u0, hu0⟩ : ∃ u, (C 0)[0]? = some u := ⟨_, List.getElem?_eq_getElem (by omega)⟩
      have hc00 := hc0 0 u0 hu0
      have hspot : spot = none := by simpa [Addr.add] using World.cell?_spot hc00
      subst hspot
      refine ⟨b, o, rfl, World.block_lt_of_cell? W _ (by simpa [Addr.add] using hc00), fun j u hu => ?_⟩
      have hjl : j < l.length * k := by rw [← hfl]; exact (List.getElem?_eq_some_iff.1 hu).1
      have hi0 : j / k < l.length := (Nat.div_lt_iff_lt_mul hk0).2 hjl
      have hjk : j % k < k := Nat.mod_lt _ hk0
      obtain ⟨v, hv, _, hk', _, _, hc⟩ := hV (j / k) (by omega)
      obtain ⟨u', hu'⟩ : ∃ u', (C (j / k))[j % k]? = some u' := ⟨_, List.getElem?_eq_getElem (by omega)⟩
      have hf := flat_get hks (i := j / k) (j := j % k) (by rw [List.getElem?_map, List.getElem?_range hi0]; rfl) hu'
      rw [Nat.div_add_mod'] at hf
      rw [hu] at hf
      cases hf
      have := hc _ u hu'
      rw [Nat.div_add_mod', Addr.add_lit] at this
      exact this
    · simp only [Rows.uptoBulk]; omega
theorem len2 {α : Type _} {l : List α} (h : l.length = 2) : ∃ a0 a1, l = [a0, a1] := match l, h with | [a0, a1], _ => ⟨a0, a1, rfl⟩
theorem len4 {α : Type _} {l : List α} (h : l.length = 4) : ∃ a0 a1 a2 a3, l = [a0, a1, a2, a3] := match l, h with | [a0, a1, a2, a3], _ => ⟨a0, a1, a2, a3, rfl⟩
theorem field_at {H : Type} {enc : TypeId × Value → H} {w : World} {base : Nat} {spare : Nat → Bool} {held : Bool} {n : Nat} {fs : Array Field} {cs : List Value} {xs : List (DataW H × List MemPlace)}
    (hf : ∀ (i : Nat) (f : Field), fs[i]? = some f → DataW.trod enc P w base spare held n f.type ((cs.drop f.offset).take (P.cellsOf f.type)) = xs[i]?) {i off k : Nat} {f : Field} {t : TypeId}
    (hi : fs[i]? = some f) (ht : f.type = t) (ho : f.offset = off) (hk : P.cellsOf t = k) : DataW.trod enc P w base spare held n t ((cs.drop off).take k) = xs[i]? := by
  subst ht ho hk; exact hf i f hi
end
theorem opens_bytes : Opens Tryz.prog 28 byEl 1 (fun l => l.length) (fun _ => True) := fun enc W fuel cs x h => by
  have hs : (∃ a len cap, cs = [.slice a len cap]) := by
    rcases open_slice Tryz.underlying28 h with ⟨rfl, _⟩ | ⟨a, len, cap, m, n, D, Pl, rfl, _⟩
    · exact ⟨_, _, _, rfl⟩
    · exact ⟨_, _, _, rfl⟩
  obtain ⟨a, len, cap, rfl⟩ := hs
  obtain ⟨xs, hl, hr, hc, hm, hb, _⟩ := arg_bytes (enc := enc) (W := W) (a0 := a) (len0 := len) (cap0 := cap) (d0 := x.1) (p0 := x.2) ⟨fuel, by simpa [Value.cells] using h⟩
  subst hl
  exact ⟨xs, byEl.mk hr hc fun _ _ _ => trivial, rfl, trivial, hb⟩
end Go.Proofs.YtdgagffieobiiaaGreatDoor

/-
  Plain functions on lists of bytes, for layer 1 (codec), and what is true of them. Nothing here names the program or the model.
-/
namespace Go.Proofs.YtdgagffieobiiaaGreatDoor

/-- A number in groups of seven bits. -/
def putU (n : Nat) : List UInt8 := if n < 128 then [UInt8.ofNat n] else UInt8.ofNat (n % 128 + 128) :: putU (n / 128)

/-- The number at the head of a list: n is what has been read, i how many bytes; value, count, error. -/
def getAux : Nat → Nat → List UInt8 → Nat × Nat × Nat
  | _, _, [] => (0, 0, 5)
  | i, n, x :: r =>
    if (i = 9 ∧ 1 < x.toNat) ∨ (x.toNat = 0 ∧ 0 < i) then (0, 0, 3)
    else if x.toNat < 128 then (n + x.toNat * 128 ^ i, i + 1, 0)
    else getAux (i + 1) (n + (x.toNat - 128) * 128 ^ i) r

/-- The number at a place: value, place behind it, error. -/
def getU (b : List UInt8) (p : Int) : Nat × Int × Nat :=
  if p < 0 ∨ (b.length : Int) < p then (0, 0, 1) else
  match getAux 0 0 (b.drop p.toNat) with
  | (n, k, 0) => (n, p + k, 0)
  | (_, _, e) => (0, 0, e)

theorem or128 (m : Nat) : (m % 256 ||| 128) = m % 128 + 128 := by
  have h : m % 256 < 256 := Nat.mod_lt _ (by decide)
  have e : m % 128 = (m % 256) % 128 := by omega
  rw [e]
  generalize m % 256 = x at h
  revert x
  decide +kernel
theorem andNot128 (x : UInt8) : (x.toNat &&& (18446744073709551615 - 128)) = x.toNat % 128 := by
  have h : x.toNat < 256 := x.toNat_lt
  generalize x.toNat = y at h
  revert y
  decide +kernel
theorem or_shift {n y i : Nat} (h : n < 128 ^ i) : n ||| y * 2 ^ (7 * i) = n + y * 128 ^ i := by
  have e : (128 : Nat) ^ i = 2 ^ (7 * i) := by rw [Nat.pow_mul]
  rw [e] at h ⊢
  rw [Nat.or_comm, ← Nat.shiftLeft_eq, ← Nat.shiftLeft_add_eq_or_of_lt h, Nat.shiftLeft_eq, Nat.add_comm]

theorem drop_get {l : List UInt8} {k : Nat} {b : UInt8} (h : l[k]? = some b) : l.drop k = b :: l.drop (k + 1) := by
  have hk : k < l.length := by
    rcases Nat.lt_or_ge k l.length with h' | h'
    · exact h'
    · rw [List.getElem?_eq_none h'] at h; cases h
  rw [List.getElem?_eq_getElem hk] at h
  cases h
  exact List.drop_eq_getElem_cons hk
theorem take_get {l : List UInt8} {k : Nat} {b : UInt8} (h : l[k]? = some b) : l.take (k + 1) = l.take k ++ [b] := by
  rw [List.take_add_one, h]; rfl

theorem getAux_step {i n : Nat} {x : UInt8} {r : List UInt8} (h1 : ¬ ((i = 9 ∧ 1 < x.toNat) ∨ (x.toNat = 0 ∧ 0 < i))) (h2 : ¬ x.toNat < 128) : getAux i n (x :: r) = getAux (i + 1) (n + x.toNat % 128 * 128 ^ i) r := by
  rw [getAux, if_neg h1, if_neg h2]
  have h3 := x.toNat_lt
  have h4 : x.toNat - 128 = x.toNat % 128 := by omega
  rw [h4]
theorem getAux_form {i n : Nat} {x : UInt8} {r : List UInt8} (h1 : (i = 9 ∧ 1 < x.toNat) ∨ (x.toNat = 0 ∧ 0 < i)) : getAux i n (x :: r) = (0, 0, 3) := by
  rw [getAux, if_pos h1]
theorem getAux_last {i n : Nat} {x : UInt8} {r : List UInt8} (h1 : ¬ ((i = 9 ∧ 1 < x.toNat) ∨ (x.toNat = 0 ∧ 0 < i))) (h2 : x.toNat < 128) : getAux i n (x :: r) = (n + x.toNat % 128 * 128 ^ i, i + 1, 0) := by
  rw [getAux, if_neg h1, if_pos h2, Nat.mod_eq_of_lt h2]
theorem getU_arg {b : List UInt8} {p : Int} (h : ¬ (0 ≤ p ∧ p ≤ b.length)) : getU b p = (0, 0, 1) := by
  rw [getU, if_pos (by omega)]
theorem getU_ok {b : List UInt8} {q n k : Nat} (hq : q ≤ b.length) (h : getAux 0 0 (b.drop q) = (n, k, 0)) : getU b q = (n, (q : Int) + k, 0) := by
  rw [getU, if_neg (by omega)]
  simp [h]
theorem getU_bad {b : List UInt8} {q e : Nat} (hq : q ≤ b.length) (h : getAux 0 0 (b.drop q) = (0, 0, e + 1)) : getU b q = (0, 0, e + 1) := by
  rw [getU, if_neg (by omega)]
  simp [h]
/-- A number of ten groups at most, and what a further group adds. -/
theorem group_lt {i n y : Nat} (hn : n < 128 ^ i) (hy : y < 128) : n + y * 128 ^ i < 128 ^ (i + 1) := by
  have h1 : y * 128 ^ i ≤ 127 * 128 ^ i := Nat.mul_le_mul_right _ (by omega)
  rw [Nat.pow_succ]
  omega
theorem pow128_9 : (128 : Nat) ^ 9 = 9223372036854775808 := by decide

theorem sum_lt {i n x : Nat} (hn : n < 128 ^ i) (hi : i ≤ 9) (hx1 : i = 9 → x ≤ 1) : n + x % 128 * 128 ^ i < 18446744073709551616 := by
  rcases Nat.lt_or_ge i 9 with h9 | h9
  · have h8 := group_lt hn (Nat.mod_lt x (show 0 < 128 by decide))
    have : (128 : Nat) ^ (i + 1) ≤ 128 ^ 9 := Nat.pow_le_pow_right (by decide) (by omega)
    rw [pow128_9] at this; omega
  · obtain rfl : i = 9 := by omega
    have h10 := hx1 rfl
    have : x % 128 ≤ 1 := by omega
    have : x % 128 * 128 ^ 9 ≤ 1 * 128 ^ 9 := Nat.mul_le_mul_right _ this
    rw [pow128_9] at *; omega

/-- What is written is read back. -/
theorem getAux_putU (r : List UInt8) : ∀ (m i n : Nat), n < 128 ^ i → m < 2 ^ (64 - 7 * i) → i ≤ 9 → (i = 0 ∨ 0 < m) → getAux i n (putU m ++ r) = (n + m * 128 ^ i, i + (putU m).length, 0) := by
  intro m
  induction m using Nat.strongRecOn with
  | _ m ih =>
    intro i n hn hm hi h0
    have h9 : i = 9 → m < 2 := by rintro rfl; simpa using hm
    rw [putU]
    by_cases hs : m < 128
    · rw [if_pos hs]
      have e : (UInt8.ofNat m).toNat = m := by simp; omega
      simp only [List.cons_append, List.nil_append]
      rw [getAux_last (by rw [e]; omega) (by rw [e]; exact hs), e, Nat.mod_eq_of_lt hs]; rfl
    · rw [if_neg hs]
      have e : (UInt8.ofNat (m % 128 + 128)).toNat = m % 128 + 128 := by rw [UInt8.toNat_ofNat']; omega
      simp only [List.cons_append]
      have e2 : (m % 128 + 128) % 128 = m % 128 := by omega
      rw [getAux_step (by rw [e]; omega) (by rw [e]; omega), e, e2]
      have hi8 : i ≤ 8 := by omega
      rw [ih (m / 128) (by omega) (i + 1) _ (group_lt hn (Nat.mod_lt _ (by decide))) ?_ (by omega) (by omega)]
      · refine Prod.ext ?_ (Prod.ext ?_ rfl)
        · show n + m % 128 * 128 ^ i + m / 128 * 128 ^ (i + 1) = n + m * 128 ^ i
          have : m * 128 ^ i = (m % 128 + 128 * (m / 128)) * 128 ^ i := by rw [Nat.mod_add_div]
          rw [this, Nat.add_mul, Nat.pow_succ]
          have : m / 128 * (128 ^ i * 128) = 128 * (m / 128) * 128 ^ i := by rw [Nat.mul_comm (128 ^ i) 128, ← Nat.mul_assoc, Nat.mul_comm (m / 128) 128]
          omega
        · simp; omega
      · refine Nat.div_lt_of_lt_mul ?_
        rw [show 128 = 2 ^ 7 from rfl, ← Nat.pow_add, show 7 + (64 - 7 * (i + 1)) = 64 - 7 * i by omega]
        exact hm
/-- What is read is what is written. -/
theorem getAux_inv : ∀ (l : List UInt8) (i n v k : Nat), n < 128 ^ i → i ≤ 9 → getAux i n l = (v, k, 0) →
    ∃ m j, k = i + j ∧ j ≤ l.length ∧ v = n + m * 128 ^ i ∧ putU m = l.take j ∧ (i = 0 ∨ 0 < m) ∧ v < 18446744073709551616
  | [], i, n, v, k, _, _, h => by simp [getAux] at h
  | x :: r, i, n, v, k, hn, hi, h => by
    have hx := x.toNat_lt
    by_cases h1 : (i = 9 ∧ 1 < x.toNat) ∨ (x.toNat = 0 ∧ 0 < i)
    · rw [getAux_form h1] at h; simp at h
    · by_cases h2 : x.toNat < 128
      · rw [getAux_last h1 h2] at h
        have hs := sum_lt hn hi (x := x.toNat) (by omega)
        injection h with ha hb; injection hb with hb _
        subst ha hb
        rw [Nat.mod_eq_of_lt h2] at hs ⊢
        refine ⟨x.toNat, 1, rfl, by simp, rfl, ?_, by omega, hs⟩
        rw [putU, if_pos h2]; simp
      · rw [getAux_step h1 h2] at h
        have hi8 : i ≤ 8 := by omega
        obtain ⟨m, j, rfl, hj, rfl, hp, h0, hlt⟩ := getAux_inv r (i + 1) _ v k (group_lt hn (Nat.mod_lt _ (by decide))) (by omega) h
        refine ⟨x.toNat % 128 + 128 * m, j + 1, by omega, by simp; omega, ?_, ?_, by omega, hlt⟩
        · rw [Nat.add_mul, Nat.pow_succ]
          have : m * (128 ^ i * 128) = 128 * m * 128 ^ i := by rw [Nat.mul_comm (128 ^ i) 128, ← Nat.mul_assoc, Nat.mul_comm m 128]
          omega
        · rw [putU, if_neg (by omega)]
          have e1 : (x.toNat % 128 + 128 * m) % 128 + 128 = x.toNat := by omega
          have e2 : (x.toNat % 128 + 128 * m) / 128 = m := by omega
          rw [e1, e2, hp]; simp
theorem getU_inv {l : List UInt8} {p : Int} {v : Nat} {x : Int} (h : getU l p = (v, x, 0)) :
    ∃ q k : Nat, p = q ∧ x = k ∧ q ≤ k ∧ k ≤ l.length ∧ putU v = (l.take k).drop q ∧ v < 18446744073709551616 := by
  rw [getU] at h
  split at h
  · simp at h
  · rename_i hp
    obtain ⟨q, rfl⟩ := Int.eq_ofNat_of_zero_le (by omega : 0 ≤ p)
    simp only [Int.toNat_natCast] at h
    cases hg : getAux 0 0 (l.drop q) with
    | mk n ke =>
      obtain ⟨k, e⟩ := ke
      rw [hg] at h
      cases e with
      | succ e => simp at h
      | zero =>
        simp only [Prod.mk.injEq, and_true] at h
        obtain ⟨rfl, rfl⟩ := h
        obtain ⟨m, j, rfl, hj, rfl, hp2, _, hlt⟩ := getAux_inv _ 0 0 n k (by decide) (by omega) hg
        rw [List.length_drop] at hj
        refine ⟨q, q + j, rfl, by omega, by omega, by omega, ?_, hlt⟩
        simp only [Nat.pow_zero, Nat.mul_one, Nat.zero_add]
        rw [hp2, List.drop_take]; congr 1; omega
theorem getU_err {l : List UInt8} {p : Int} (h : (getU l p).2.2 ≠ 0) : (getU l p).1 = 0 ∧ (getU l p).2.1 = 0 := by
  unfold getU at h ⊢
  split
  · simp
  · rename_i hp
    rw [if_neg hp] at h
    split at h
    · simp at h
    · simp
theorem getU_fits (l : List UInt8) (p : Int) : (getU l p).1 < 18446744073709551616 := by
  by_cases h : (getU l p).2.2 = 0
  · obtain ⟨_, _, _, _, _, _, _, h⟩ := getU_inv (l := l) (p := p) (v := (getU l p).1) (x := (getU l p).2.1) (by rw [← h])
    exact h
  · rw [(getU_err h).1]; decide

theorem putU_length : ∀ (f n : Nat), n < 128 ^ (f + 1) → (putU n).length ≤ f + 1
  | 0, n, h => by rw [putU, if_pos (by omega)]; simp
  | f + 1, n, h => by
    rw [putU]
    split
    · simp
    · have := putU_length f (n / 128) (Nat.div_lt_of_lt_mul (by rw [Nat.mul_comm, ← Nat.pow_succ]; exact h))
      simp; omega
theorem putU_le {n : Nat} (h : n < 2 ^ 64) : (putU n).length ≤ 10 := putU_length 9 n (Nat.lt_of_lt_of_le h (by decide))

/-- How two lists compare. -/
def cmpB : List UInt8 → List UInt8 → Int
  | [], [] => 0
  | [], _ :: _ => -1
  | _ :: _, [] => 1
  | x :: xs, y :: ys => if x < y then -1 else if y < x then 1 else cmpB xs ys
theorem cmp_same {x : UInt8} {xs ys : List UInt8} : cmpB (x :: xs) (x :: ys) = cmpB xs ys := by simp [cmpB]
theorem cmp_lt {x y : UInt8} {xs ys : List UInt8} (h : x < y) : cmpB (x :: xs) (y :: ys) = -1 := by simp [cmpB, h]
theorem cmp_gt {x y : UInt8} {xs ys : List UInt8} (h : y < x) : cmpB (x :: xs) (y :: ys) = 1 := by
  have h' : ¬ x < y := fun e => by rw [UInt8.lt_iff_toNat_lt] at *; omega
  simp [cmpB, h, h']
theorem cmp_short {xs ys : List UInt8} (hx : xs = []) (hy : 0 < ys.length) : cmpB xs ys = -1 := by
  subst hx; cases ys with
  | nil => simp at hy
  | cons => simp [cmpB]
theorem cmp_long {xs ys : List UInt8} (hx : 0 < xs.length) (hy : ys = []) : cmpB xs ys = 1 := by
  subst hy; cases xs with
  | nil => simp at hx
  | cons => simp [cmpB]
end Go.Proofs.YtdgagffieobiiaaGreatDoor
