/-
  The texts of this proof, joined: Lib, Eng, Mem, Num, Ty, Row, Ta, Str, Tt, Tb, Tc, Td, Te, Arr, St, Pa, Wf, Fo, Shelf.
-/
import Derived.WalkKit
import Derived.WalkSpells
import Derived.WalkLawsBesides
import Derived.Maps.AppendAt
import Derived.Deep.AppendLies
import Derived.Lib.Hide
import Derived.Deep.LoopGhost
import Derived.Deep.QuietTactic
import Derived.BigQuiet
import Derived.Laws.MakeOwn
import Derived.Laws.OwnMore
import Derived.Test.YtpnckagibkdcpaaRows
import Derived.Lib.DecodeN
import Derived.Lib.RuneBytes
import Derived.Laws.IdiomStrings
import Derived.Laws.Cover4
import Derived.Lib.OthersKept
import Derived.Laws.Rows
import Derived.Laws.Tables
import Derived.Lib.Builder
import Derived.Laws.Externs
import Derived.Shelf.Strings.Builder1
import Derived.Test.YtpnckagibkdcpaaProg

/-
  The words for memory that all walks of this seat use: a slice that reads as a list of values, a slice that the call owns, and the laws of append and make over them. Nothing here names the program.
-/
namespace Go.Proofs.Ytpnckagibkdcpaa
open Go.RowKit

/-- A byte as a value of the model. -/
def bv (x : UInt8) : Value := .int .u8 (x.toNat : Int)
/-- Bytes as the cells of a row. -/
def bvs (xs : List UInt8) : List Value := xs.map bv
theorem bvs_length (xs : List UInt8) : (bvs xs).length = xs.length := by simp [bvs]
theorem bvs_append (xs ys : List UInt8) : bvs (xs ++ ys) = bvs xs ++ bvs ys := by simp [bvs]
theorem bvs_get (xs : List UInt8) (k : Nat) (h : k < xs.length) : (bvs xs)[k]? = some (bv xs[k]) := by simp [bvs, h]
theorem bvs_one (xs : List UInt8) : ∀ u ∈ bvs xs, u.oneCell' = true := by
  intro u hu; simp [bvs] at hu; obtain ⟨x, _, rfl⟩ := hu; rfl

/-- The slice at address A reads as the n values xs (nil is let in where there are none). -/
def Rd (w : World) (A : Option Addr) (n : Nat) (xs : List Value) : Prop :=
  xs.length = n ∧ (0 < n → ∃ b o, A = some ⟨b, o, none⟩ ∧ b < w.heap.size ∧ ∀ j u, xs[j]? = some u → w.cell? ⟨b, o + j, none⟩ = some u)

/-- The slice at address A, with capacity c, is a row of the call's own, from block base on, and holds the n values xs. -/
def Ow (w : World) (base : Nat) (e : TypeId) (A : Option Addr) (n c : Nat) (xs : List Value) : Prop :=
  w.ownsRow base e 1 (.slice A n c) n xs

section
variable {w w' : World} {A : Option Addr} {n c base : Nat} {e : TypeId} {xs : List Value}

theorem Rd.nil (w : World) (A : Option Addr) : Rd w A 0 [] := ⟨rfl, fun h => by simp at h⟩

theorem Rd.keep (h : Rd w A n xs) (hs : w.heap.size ≤ w'.heap.size) (hk : ∀ k, k < w.heap.size → w'.heap[k]? = w.heap[k]?) : Rd w' A n xs := ⟨h.1, fun hn => by
  obtain ⟨b, o, hA, hb, hc⟩ := h.2 hn
  exact ⟨b, o, hA, by omega, fun j u hu => (World.cell?_of_block (a := ⟨b, o + j, none⟩) (hk b hb)).trans (hc j u hu)⟩⟩

theorem Rd.below (h : Rd w A n xs) (hb : Below w.heap.size w w') : Rd w' A n xs := h.keep hb.size hb.block
theorem Rd.alloc (h : Rd w A n xs) (o : Obj) : Rd (w.alloc o) A n xs := h.keep (by simp) (fun k hk => Below.heap_alloc _ _ _ hk)
theorem Rd.drew (h : Rd w A n xs) : Rd w.drew A n xs := h
theorem Rd.drewN (h : Rd w A n xs) (k : Nat) : Rd (w.drewN k) A n xs := h

theorem Rd.at (h : Rd w A n xs) {k : Nat} (hk : k < n) : ∃ b o u, A = some ⟨b, o, none⟩ ∧ xs[k]? = some u ∧ w.cell? ⟨b, o + k, none⟩ = some u := by
  obtain ⟨b, o, hA, _, hc⟩ := h.2 (by omega)
  have hl : k < xs.length := by have := h.1; omega
  exact ⟨b, o, xs[k], hA, List.getElem?_eq_getElem hl, hc k _ (List.getElem?_eq_getElem hl)⟩

theorem Rd.byte {l : List UInt8} (h : Rd w A n (bvs l)) {k : Nat} (hk : k < n) (hk' : k < l.length) : ∃ b o, A = some ⟨b, o, none⟩ ∧ w.cell? ⟨b, o + k, none⟩ = some (.int .u8 (l[k].toNat : Int)) := by
  obtain ⟨b, o, u, hA, hu, hc⟩ := h.at hk
  rw [bvs_get _ _ hk'] at hu
  cases hu
  exact ⟨b, o, hA, hc⟩

theorem Rd.new (w : World) (cs : Array Value) (e : TypeId) : Rd (w.alloc (.cells cs e)) (some ⟨w.heap.size, 0, none⟩) cs.size cs.toList :=
  ⟨by simp, fun _ => ⟨w.heap.size, 0, rfl, by simp, fun j u hu => by
    rw [cell_of_row _ _ _ cs e (0, 0) (heap_alloc_new w _)]
    simpa using hu⟩⟩

theorem Ow.len (h : Ow w base e A n c xs) : xs.length = n := by simpa using h.1
theorem Ow.nil (w : World) (base : Nat) (e : TypeId) : Ow w base e none 0 0 [] := World.ownsRow_nil w base e 1
theorem Ow.rd (h : Ow w base e A n c xs) : Rd w A n xs := ⟨h.len, fun hn => by
  obtain ⟨g, cap, hv, _, hlt⟩ := World.ownsRow.form h hn
  injection hv with hA
  subst hA
  have hc := World.ownsRow.cells h (g := g) rfl
  refine ⟨g, 0, rfl, hlt, fun j u hu => ?_⟩
  have := hc j u hu
  simpa [Addr.add_lit] using this⟩
theorem Ow.alloc (h : Ow w base e A n c xs) (o : Obj) : Ow (w.alloc o) base e A n c xs := World.ownsRow.alloc h o
theorem Ow.below {B : Nat} (h : Ow w base e A n c xs) (hb : Below B w w') (hB : w.heap.size ≤ B) : Ow w' base e A n c xs :=
  World.ownsRow.kept (row := none) h ⟨hb.os, hb.tape, hb.output, hb.size, fun k hk _ => hb.block k (by omega)⟩ (by
    cases (Value.slice A n c).ownBlock <;> simp)
theorem Ow.mono {base' : Nat} (h : Ow w base e A n c xs) (hb : base' ≤ base) : Ow w base' e A n c xs := by
  refine ⟨h.1, ?_⟩
  rcases h.2 with hn | ⟨g, cap, cur, hv, hg, rest⟩
  · exact .inl hn
  · exact .inr ⟨g, cap, cur, hv, Nat.le_trans hb hg, rest⟩

/-- Behind an append or a make onto a row of the call's own: what lies below the call's first block is as it was. -/
theorem below_grown {B : Nat} {w0 : World} (h : Below B w0 w) (hg : w.grownBy w' (Value.slice A n c).ownBlock) (ho : Ow w base e A n c xs) (hB : B ≤ w.heap.size) (hb : B ≤ base) : Below B w0 w' :=
  h.grown hg hB fun k hk => Nat.le_trans hb (World.ownsRow.lt ho k hk).1

/-- append onto a row of the call's own, whatever the source. -/
theorem wpList_app {P : Program} {ops : Array Oper} {rest : List Oper} {o : Oper} {a : Act} {Q : Exit → Act → World → Prop} (hgd : o.guard = none) (s x : Operand) (t : TypeId)
    (ho : o.op = .call { callee := .builtin .append, args := #[s, x], argTypes := #[t, t] }) {z : Value} {bytes : Nat} (ht : P.underlying t = some (.slice e))
    (hi : (P.info? e).map (fun i => (i.zero, i.size, i.bytes)) = some (some z, 1, bytes)) (hzs : z.cells.size = 1)
    (hs : a.eval s = .slice A n c) (hown : Ow w base e A n c xs) {B : Option Addr} {m d : Nat} {ys : List Value} (hx : a.eval x = .slice B m d) (hr : Rd w B m ys) (h1 : ∀ u ∈ ys, u.oneCell' = true)
    (hbytes : (n + m) * bytes ≤ 140737488355328) (hmax : n + m ≤ maxLen) (hbase : base ≤ w.heap.size)
    (h : ∀ A' c' w', Ow w' base e A' (n + m) c' (xs ++ ys) → w.grownBy w' (Value.slice A n c).ownBlock → (A'.map (·.block) = A.map (·.block) ∨ A'.map (·.block) = some w.heap.size) → wpList P ops Q rest (a.put o.dst (.slice A' (n + m) c')) w') : wpList P ops Q (o :: rest) a w := by
  obtain ⟨i, hi0, hz, hs1, hby⟩ := info_parts hi
  have hob : ∀ (A : Option Addr) n c, (Value.slice A n c).ownBlock = A.map (·.block) := fun A _ _ => by cases A <;> rfl
  have hfin : ∀ v' w', w'.ownsRow base e 1 v' (n + m) (xs ++ ys) → w.grownBy w' (Value.slice A n c).ownBlock → (v'.ownBlock = (Value.slice A n c).ownBlock ∨ v'.ownBlock = some w.heap.size) →
      wpList P ops Q rest (a.put o.dst v') w' := by
    intro v' w' h2 h3 h4
    rcases h2.2 with ⟨rfl, h0⟩ | ⟨g, cap, cur, rfl, _⟩
    · have := h none 0 w' (by rw [h0] at h2 ⊢; exact h2) h3 (by simpa only [hob] using h4)
      rw [h0] at this
      exact this
    · exact h _ _ w' h2 h3 (by simpa only [hob] using h4)
  rcases B with _ | ad
  · have hm : m = 0 := by
      rcases Nat.eq_zero_or_pos m with h0 | h0
      · exact h0
      · obtain ⟨_, _, h, _⟩ := hr.2 h0; cases h
    subst hm
    have hn : ys = [] := List.eq_nil_of_length_eq_zero hr.1
    subst hn
    have hrun : (Builtin.append_ #[t, t] o.type #[.slice A n c, .slice none 0 d]).run P w = .ok (.slice A n c) w := by
      rcases hown.2 with ⟨hv, hn0⟩ | ⟨g, cap, cur, hv, _, _, hnc, _⟩
      · injection hv with hA hn hc; subst hA hn0 hc
        simp [Builtin.append_, run_underlying ht, sizeOf, typeInfo, hi0, Builtin.lenOf, Builtin.firstCells]
      · injection hv with hA hn hc; subst hA hc
        simp [Builtin.append_, run_underlying ht, sizeOf, typeInfo, hi0, Builtin.lenOf, Builtin.firstCells, hnc, storeCells]
    refine wpList_plain hgd fun K hK => ?_
    unfold Oper.wp execOp
    simp only [ho, resolve, invoke, builtin, Sem.run_bind, Sem.run_pure, Result.andThen_ok, List.map_toArray, List.map_cons, List.map_nil, hs, hx, hrun]
    refine hK _ _ (hfin _ _ (by rw [List.append_nil]; exact hown) ⟨rfl, rfl, rfl, Nat.le_refl _, fun _ _ _ => rfl⟩ (.inl rfl))
  · by_cases h0 : 0 < m
    · obtain ⟨b, of, hA, _, hc⟩ := hr.2 h0
      injection hA with hA
      subst hA
      exact wpList_append_own_at w hgd s x t ho base e i z 1 bytes ht hi0 hz hs1 hby hzs (by decide) _ n xs hs hown _ m d ys hx (by simpa using hr.1)
        (fun j u hu => by rw [Addr.add_lit]; exact hc j u hu) h1 hmax hbytes hbase fun v' w' h2 h3 _ h4 => hfin v' w' h2 h3 h4
    · have hm : m = 0 := by omega
      subst hm
      have hn : ys = [] := List.eq_nil_of_length_eq_zero hr.1
      subst hn
      exact wpList_append_own_at w hgd s x t ho base e i z 1 bytes ht hi0 hz hs1 hby hzs (by decide) _ n xs hs hown ad 0 d [] hx (by simp)
        (fun j u hu => by simp at hu) h1 hmax hbytes hbase fun v' w' h2 h3 _ h4 => hfin v' w' h2 h3 h4
end
end Go.Proofs.Ytpnckagibkdcpaa


/-
  An engine for walks: the frame of a Go function is told by a short list of slots and values, and each kind of code and of operation has one rule. Nothing here names the program.
-/
namespace Go.Proofs.Ytpnckagibkdcpaa
open Go.RowKit

/-- What is known of the frame's slots; the newest entry of a slot counts. -/
abbrev FL := List (Nat × Value)
def lookT : FL → Nat → Option Value
  | [], _ => none
  | (i, v) :: L, t => cond (Nat.beq i t) (some v) (lookT L t)
def look (L : FL) : Operand → Option Value
  | .tmp t => lookT L t
  | .const v => some v
  | .global g => some (.pointer (some ⟨g, 0, none⟩))
  | .func f => some (.func (.func f) #[] #[])
/-- All slots of the one list are known, with these values, in the other. -/
def Sub : FL → FL → Prop
  | [], _ => True
  | (i, v) :: L, M => lookT M i = some v ∧ Sub L M
def numb : Nat → List Value → FL
  | _, [] => []
  | k, v :: vs => (k, v) :: numb (k + 1) vs

structure Has (N : Nat) (a : Act) (L : FL) : Prop where
  nodefer : a.defers = []
  size : a.tmps.size = N
  get : ∀ t v, lookT L t = some v → a.tmps.getD t undef = v

theorem lookT_cons {i t : Nat} {v u : Value} {L : FL} (h : lookT ((i, v) :: L) t = some u) : (i = t ∧ u = v) ∨ (i ≠ t ∧ lookT L t = some u) := by
  unfold lookT at h
  cases hb : Nat.beq i t with
  | true => rw [hb] at h; exact .inl ⟨Nat.eq_of_beq_eq_true hb, by simpa using h.symm⟩
  | false => rw [hb] at h; exact .inr ⟨Nat.ne_of_beq_eq_false hb, h⟩

theorem lookT_ne {i t : Nat} {v u : Value} {L : FL} (h : lookT ((i, v) :: L) t = some u) (hne : i ≠ t) : lookT L t = some u := by
  rcases lookT_cons h with ⟨e, _⟩ | ⟨_, h⟩
  · exact absurd e hne
  · exact h

section
variable {N : Nat} {a : Act} {L M : FL}
theorem Has.eval (h : Has N a L) {x : Operand} {v : Value} (hx : look L x = some v) : a.eval x = v := by
  cases x with
  | tmp t => exact h.get t v hx
  | const c => simpa [look, Act.eval] using hx
  | global g => simpa [look, Act.eval] using hx
  | func f => simpa [look, Act.eval] using hx
theorem Has.sub (h : Has N a L) (hs : Sub M L) : Has N a M := by
  refine ⟨h.nodefer, h.size, ?_⟩
  intro t v ht
  have : lookT L t = some v := by
    clear h
    induction M with
    | nil => simp [lookT] at ht
    | cons p M ih =>
      obtain ⟨i, u⟩ := p
      rcases lookT_cons ht with ⟨rfl, rfl⟩ | ⟨_, h⟩
      · exact hs.1
      · exact ih hs.2 h
  exact h.get t v this
theorem Has.put (h : Has N a L) {d : Nat} (hd : Nat.blt d N = true) (v : Value) : Has N (a.put (some d) v) ((d, v) :: L) := by
  have hd' : d < a.tmps.size := by rw [h.size]; simpa [Nat.blt_eq] using hd
  refine ⟨h.nodefer, by simpa [Act.put] using h.size, ?_⟩
  intro t u ht
  rcases lookT_cons ht with ⟨rfl, rfl⟩ | ⟨hne, h'⟩
  · simp [Act.put, hd']
  · have := h.get t u h'
    simpa [Act.put, Array.getElem?_setIfInBounds, hne] using this
theorem Has.put_none (h : Has N a L) (v : Value) : Has N (a.put none v) L := h
end

/-- Code, a region's operations, and the end of a piece of code, from a frame that is known so far. -/
def WC (P : Program) (N : Nat) (c : Code) (Q : Exit → Act → World → Prop) (L : FL) (w : World) : Prop := ∀ a, Has N a L → c.wp P Q a w
def WL (P : Program) (N : Nat) (ops : Array Oper) (Q : Exit → Act → World → Prop) (l : List Oper) (L : FL) (w : World) : Prop := ∀ a, Has N a L → wpList P ops Q l a w
def WE (N : Nat) (Q : Exit → Act → World → Prop) (e : Exit) (L : FL) (w : World) : Prop := ∀ a, Has N a L → Q e a w

/-- A call that hands back a value. -/
def CallsV (P : Program) (f : FuncId) (args : Array Value) (w : World) (R : Value → World → Prop) : Prop :=
  Calls P f args w fun e w' => ∃ v, e = .returned v ∧ R v w'
theorem CallsV.mono {P : Program} {f : FuncId} {args : Array Value} {w : World} {R R' : Value → World → Prop} (h : CallsV P f args w R) (hr : ∀ v w', R v w' → R' v w') : CallsV P f args w R' :=
  Calls.mono h fun _ w' ⟨v, he, h⟩ => ⟨v, he, hr v w' h⟩

theorem bT {p : Prop} {_ : Decidable p} (h : p) : decide p = true := decide_eq_true h
theorem bF {p : Prop} {_ : Decidable p} (h : ¬ p) : decide p = false := decide_eq_false h
theorem bTn {p : Prop} {_ : Decidable p} (h : p) : decide p = !false := decide_eq_true h
theorem bFn {p : Prop} {_ : Decidable p} (h : ¬ p) : decide p = !true := decide_eq_false h
theorem nne {α : Sort _} {a : α} : ¬ (a ≠ a) := fun h => h rfl
theorem bR1 : true = !false := rfl
theorem bR2 : false = !true := rfl
theorem bR3 : (!true) = !true := rfl
theorem bR4 : (!false) = !false := rfl
section control
variable {P : Program} {N : Nat} {Q : Exit → Act → World → Prop} {L : FL} {w : World}

theorem wc_sub {c : Code} (M : FL) (hs : Sub M L) (h : WC P N c Q M w) : WC P N c Q L w := fun a ha => h a (ha.sub hs)
theorem wc_skip (h : WE N Q .normal L w) : WC P N .skip Q L w := fun a ha => wp_skip (h a ha)
/-- What must hold at the end of the first of two pieces of code. -/
def SeqQ (P : Program) (y : Code) (Q : Exit → Act → World → Prop) : Exit → Act → World → Prop := Exit.then (y.wp P Q) Q
theorem wc_seq {x y : Code} (h : WC P N x (SeqQ P y Q) L w) : WC P N (.seq x y) Q L w := fun a ha => wp_seq (h a ha)
theorem wc_block {id : Nat} {c : Code} (h : WC P N c (Exit.inBlock id Q) L w) : WC P N (.block id c) Q L w := fun a ha => wp_block (h a ha)
theorem wc_exit {id : Nat} (h : WE N Q (.exit id) L w) : WC P N (.exit id) Q L w := fun a ha => wp_exit (h a ha)
theorem wc_ret (h : WE N Q .ret L w) : WC P N .ret Q L w := fun a ha => wp_ret (h a ha)
theorem wc_cond {c : Operand} {x y : Code} {p : Prop} [Decidable p] (hc : look L c = some (.bool (decide p))) (ht : p → WC P N x Q L w) (hf : ¬ p → WC P N y Q L w) : WC P N (.cond c x y) Q L w :=
  fun a ha => wp_cond_split (ha.eval hc) (fun h => ht (of_decide_eq_true h) a ha) (fun h => hf (of_decide_eq_false h) a ha)
theorem wc_condB {c : Operand} {x y : Code} {t : Bool} (hc : look L c = some (.bool t)) (ht : t = true → WC P N x Q L w) (hf : t = false → WC P N y Q L w) : WC P N (.cond c x y) Q L w :=
  fun a ha => wp_cond_split (ha.eval hc) (fun h => ht h a ha) (fun h => hf h a ha)
theorem wc_condN {c : Operand} {x y : Code} {t : Bool} (hc : look L c = some (.bool (!t))) (ht : t = false → WC P N x Q L w) (hf : t = true → WC P N y Q L w) : WC P N (.cond c x y) Q L w :=
  fun a ha => wp_cond_split (ha.eval hc) (fun h => ht (by simpa using h) a ha) (fun h => hf (by simpa using h) a ha)
theorem wc_condT {c : Operand} {x y : Code} (hc : look L c = some (.bool true)) (ht : WC P N x Q L w) : WC P N (.cond c x y) Q L w :=
  fun a ha => wp_cond_true (ha.eval hc) (ht a ha)
theorem wc_condF {c : Operand} {x y : Code} (hc : look L c = some (.bool false)) (ht : WC P N y Q L w) : WC P N (.cond c x y) Q L w :=
  fun a ha => wp_cond_false (ha.eval hc) (ht a ha)
theorem wc_decT {c : Operand} {x y : Code} {p : Prop} {_ : Decidable p} (hc : look L c = some (.bool (decide p))) (hp : p) (h : WC P N x Q L w) : WC P N (.cond c x y) Q L w :=
  fun a ha => wp_cond_true ((ha.eval hc).trans (by rw [decide_eq_true hp])) (h a ha)
theorem wc_decF {c : Operand} {x y : Code} {p : Prop} {_ : Decidable p} (hc : look L c = some (.bool (decide p))) (hp : ¬ p) (h : WC P N y Q L w) : WC P N (.cond c x y) Q L w :=
  fun a ha => wp_cond_false ((ha.eval hc).trans (by rw [decide_eq_false hp])) (h a ha)
theorem wc_condTb {c : Operand} {x y : Code} {b : Bool} (hc : look L c = some (.bool b)) (hb : b = true) (h : WC P N x Q L w) : WC P N (.cond c x y) Q L w :=
  fun a ha => wp_cond_true ((ha.eval hc).trans (by rw [hb])) (h a ha)
theorem wc_condFb {c : Operand} {x y : Code} {b : Bool} (hc : look L c = some (.bool b)) (hb : b = false) (h : WC P N y Q L w) : WC P N (.cond c x y) Q L w :=
  fun a ha => wp_cond_false ((ha.eval hc).trans (by rw [hb])) (h a ha)
theorem wc_region {id : Nat} {l : List Oper} (h : WL P N l.toArray Q l L w) : WC P N (.region id l.toArray false) Q L w := fun a ha => wp_region_lit (h a ha)

/-- What a loop's round hands on. -/
def LoopK (N : Nat) (I : FL → World → Nat → Prop) (m : Nat) : Act → World → Prop := fun a w => ∃ m', m' < m ∧ ∃ L, I L w m' ∧ Has N a L
def LoopQ (N : Nat) (I : FL → World → Nat → Prop) (m : Nat) (Q : Exit → Act → World → Prop) : Exit → Act → World → Prop := Exit.then (LoopK N I m) Q
theorem wc_loop {c : Code} (I : FL → World → Nat → Prop) (L0 : FL) (m0 : Nat) (h0 : I L0 w m0) (hs : Sub L0 L)
    (round : ∀ L w m, I L w m → WC P N c (LoopQ N I m Q) L w) : WC P N (.loop c) Q L w := fun a ha =>
  wp_loop_ghost (fun m a w => ∃ L, I L w m ∧ Has N a L) m0 ⟨L0, h0, ha.sub hs⟩ fun m a' w' ⟨L', hI, ha'⟩ => round L' w' m hI a' ha'
/-- What is known where ways meet. -/
def CutK (N : Nat) (J : FL → World → Prop) : Act → World → Prop := fun a w => ∃ L, J L w ∧ Has N a L
def CutQ (N : Nat) (J : FL → World → Prop) (Q : Exit → Act → World → Prop) : Exit → Act → World → Prop := Exit.then (CutK N J) Q
theorem wc_cut {x y : Code} (J : FL → World → Prop) (hx : WC P N x (CutQ N J Q) L w) (hy : ∀ L w, J L w → WC P N y Q L w) : WC P N (.seq x y) Q L w := fun a ha =>
  wp_seq (wp_mono (hx a ha) fun e a' w' h => by
    cases e with
    | normal => obtain ⟨L', hJ, ha'⟩ := h; exact hy L' w' hJ a' ha'
    | _ => exact h)
/-- The same ahead of the end of a piece of code. -/
theorem wc_cutE {x : Code} (J : FL → World → Prop) (hx : WC P N x (CutQ N J Q) L w) (hy : ∀ L w, J L w → WE N Q .normal L w) : WC P N x Q L w := fun a ha =>
  wp_mono (hx a ha) fun e a' w' h => by
    cases e with
    | normal => obtain ⟨L', hJ, ha'⟩ := h; exact hy L' w' hJ a' ha'
    | _ => exact h

theorem we_seq {y : Code} (h : WC P N y Q L w) : WE N (SeqQ P y Q) .normal L w := h
theorem we_seq_exit {y : Code} {id : Nat} (h : WE N Q (.exit id) L w) : WE N (SeqQ P y Q) (.exit id) L w := h
theorem we_seq_ret {y : Code} (h : WE N Q .ret L w) : WE N (SeqQ P y Q) .ret L w := h
theorem we_loop_exit {I : FL → World → Nat → Prop} {m id : Nat} (h : WE N Q (.exit id) L w) : WE N (LoopQ N I m Q) (.exit id) L w := h
theorem we_loop_ret {I : FL → World → Nat → Prop} {m : Nat} (h : WE N Q .ret L w) : WE N (LoopQ N I m Q) .ret L w := h
theorem we_cut_exit {J : FL → World → Prop} {id : Nat} (h : WE N Q (.exit id) L w) : WE N (CutQ N J Q) (.exit id) L w := h
theorem we_cut_ret {J : FL → World → Prop} (h : WE N Q .ret L w) : WE N (CutQ N J Q) .ret L w := h
theorem we_loop {I : FL → World → Nat → Prop} {m : Nat} (M : FL) (m' : Nat) (hI : I M w m') (hm : m' < m) (hs : Sub M L) : WE N (LoopQ N I m Q) .normal L w :=
  fun _ ha => ⟨m', hm, M, hI, ha.sub hs⟩
theorem we_cut {J : FL → World → Prop} (M : FL) (hJ : J M w) (hs : Sub M L) : WE N (CutQ N J Q) .normal L w := fun _ ha => ⟨M, hJ, ha.sub hs⟩
theorem we_block_norm {id : Nat} (h : WE N Q .normal L w) : WE N (Exit.inBlock id Q) .normal L w := h
theorem we_block_ret {id : Nat} (h : WE N Q .ret L w) : WE N (Exit.inBlock id Q) .ret L w := h
theorem we_block_exit {id : Nat} (h : WE N Q .normal L w) : WE N (Exit.inBlock id Q) (.exit id) L w := fun a ha => by
  simp only [Exit.inBlock, if_true]; exact h a ha
theorem we_block_pass {id id' : Nat} (hne : Nat.beq id' id = false) (h : WE N Q (.exit id') L w) : WE N (Exit.inBlock id Q) (.exit id') L w := fun a ha => by
  simp only [Exit.inBlock, if_neg (Nat.ne_of_beq_eq_false hne)]; exact h a ha

/-- The end of a function. -/
theorem we_ret0 {fn : Func} {R : Ending → World → Prop} (hr : fn.results = #[]) (h : R (.returned (.tuple #[])) w) : WE N (bodyPost P fn R) .ret L w := fun a ha =>
  ⟨ha.nodefer, _, results_none hr a.tmps P w, h⟩
theorem we_end0 {fn : Func} {R : Ending → World → Prop} (hr : fn.results = #[]) (h : R (.returned (.tuple #[])) w) : WE N (bodyPost P fn R) .normal L w := fun a ha =>
  ⟨ha.nodefer, _, results_none hr a.tmps P w, h⟩
theorem we_ret1 {fn : Func} {R : Ending → World → Prop} {t : Nat} {v : Value} (hr : fn.results = #[.tmp t]) (hx : lookT L t = some v) (h : R (.returned v) w) : WE N (bodyPost P fn R) .ret L w := fun a ha =>
  ⟨ha.nodefer, v, by rw [results_tmp hr a.tmps P w, ha.get t v hx], h⟩
theorem we_ret2 {fn : Func} {R : Ending → World → Prop} {t1 t2 : Nat} {v1 v2 : Value} (hr : fn.results = #[.tmp t1, .tmp t2]) (h1 : lookT L t1 = some v1) (h2 : lookT L t2 = some v2)
    (h : R (.returned (.tuple #[v1, v2])) w) : WE N (bodyPost P fn R) .ret L w := fun a ha =>
  ⟨ha.nodefer, _, by rw [results_tmp2 hr a.tmps P w, ha.get t1 v1 h1, ha.get t2 v2 h2], h⟩
theorem results_tmp3' {fn : Func} {t u s : Tmp} (h : fn.results = #[.tmp t, .tmp u, .tmp s]) (tmps : Array Value) (P : Program) (w : World) :
    (results fn tmps).run P w = .ok (.tuple #[tmps.getD t undef, tmps.getD u undef, tmps.getD s undef]) w := by
  simp [results, h]
theorem we_ret3 {fn : Func} {R : Ending → World → Prop} {t1 t2 t3 : Nat} {v1 v2 v3 : Value} (hr : fn.results = #[.tmp t1, .tmp t2, .tmp t3]) (h1 : lookT L t1 = some v1) (h2 : lookT L t2 = some v2) (h3 : lookT L t3 = some v3)
    (h : R (.returned (.tuple #[v1, v2, v3])) w) : WE N (bodyPost P fn R) .ret L w := fun a ha =>
  ⟨ha.nodefer, _, by rw [results_tmp3' hr a.tmps P w, ha.get t1 v1 h1, ha.get t2 v2 h2, ha.get t3 v3 h3], h⟩

theorem lookT_numb (vs : List Value) : ∀ k t v, lookT (numb k vs) t = some v → k ≤ t ∧ vs[t - k]? = some v := by
  induction vs with
  | nil => intro k t v h; simp [numb, lookT] at h
  | cons x vs ih =>
    intro k t v h
    rcases lookT_cons h with ⟨rfl, rfl⟩ | ⟨_, h⟩
    · simp
    · obtain ⟨h1, h2⟩ := ih _ _ _ h
      refine ⟨by omega, ?_⟩
      have : t - k = (t - (k + 1)) + 1 := by omega
      rw [this]; simpa using h2

/-- A function's body. -/
theorem calls_in {f : FuncId} {fn : Func} {c : Code} {args : List Value} {R : Value → World → Prop} (hf : P.funcs[f]? = some fn) (hb : fn.body = some c) (hN : fn.ntmps = N) (hle : Nat.ble args.length N = true)
    (h : WC P N c (bodyPost P fn fun e w' => ∃ v, e = .returned v ∧ R v w') (numb 0 args) w) : CallsV P f args.toArray w R := by
  refine calls_of_wp hf hb (h _ ⟨rfl, ?_, ?_⟩)
  · have := Nat.le_of_ble_eq_true hle
    simp [hN]; omega
  · intro t v ht
    obtain ⟨_, h2⟩ := lookT_numb args 0 t v ht
    simp only [Nat.sub_zero] at h2
    have hlt : t < args.length := by
      rcases Nat.lt_or_ge t args.length with h | h
      · exact h
      · rw [List.getElem?_eq_none h] at h2; cases h2
    rw [List.getElem?_eq_getElem hlt] at h2
    simp [Array.getElem?_append, hlt]
    simpa using h2
end control

/-! ### Operations -/
theorem upon_mono {P : Program} {o : Oper} {a : Act} {K K' : Act → World → Prop} {Q Q' : Exit → Act → World → Prop} (hK : ∀ a w, K a w → K' a w) (hQ : ∀ e a w, e ≠ .normal → Q e a w → Q' e a w) {r : Result Next}
    (h : o.upon P a K Q r) : o.upon P a K' Q' r := by
  cases r with
  | ok n w =>
    cases n with
    | value v => exact hK _ _ h
    | skip => exact hK _ _ h
    | defer d => exact hK _ _ h
    | enter f args =>
      refine Calls.mono (show Calls P f args w _ from h) fun e w' h => ?_
      cases e with
      | returned v => exact hK _ _ h
      | panicked c => exact hQ _ _ _ (by simp) h
      | outgrown => obtain ⟨a0, w0, h⟩ := h; exact ⟨a0, w0, hQ _ _ _ (by simp) h⟩
    | row r args => exact Rows.mono (show Rows P r args w _ from h) fun v w' h => hK _ _ h
    | _ => exact h
  | halt x w =>
    cases x with
    | panic v => exact hQ _ _ _ (by simp) h
    | _ => exact h
theorem wpList_append {P : Program} {ops : Array Oper} {Q Q' : Exit → Act → World → Prop} {l2 : List Oper} (h2 : ∀ a w, Q .normal a w → wpList P ops Q' l2 a w) (hQ : ∀ e a w, e ≠ .normal → Q e a w → Q' e a w) :
    ∀ (l1 : List Oper) (a : Act) (w : World), wpList P ops Q l1 a w → wpList P ops Q' (l1 ++ l2) a w
  | [], a, w, h => h2 a w h
  | o :: l1, a, w, h => by
    have ih := wpList_append (P := P) (ops := ops) h2 hQ l1
    simp only [List.cons_append]
    unfold wpList at h ⊢
    split at h
    · rename_i hw
      rw [if_pos hw]
      rcases h with h | ⟨ha, a0, w0, h⟩
      · exact .inl (upon_mono ih hQ h)
      · exact .inr ⟨ha, a0, w0, hQ _ _ _ (by simp) h⟩
    · rename_i hw
      rw [if_neg hw]
      exact ih _ _ h

/-- Operation op, its operands read by L, yields the value v and leaves the world w'. -/
def OpV (P : Program) (op : Op) (ty : TypeId) (L : FL) (w : World) (v : Value) (w' : World) : Prop :=
  ∀ (ρ : Operand → Value) (o : Oper), (∀ x u, look L x = some u → ρ x = u) → o.op = op → o.type = ty → (execOp ρ o).run P w = .ok (.value v) w'
def OpU (P : Program) (op : Op) (ty : TypeId) (L : FL) (w : World) (w' : World) : Prop :=
  ∀ (ρ : Operand → Value) (o : Oper), (∀ x u, look L x = some u → ρ x = u) → o.op = op → o.type = ty → (execOp ρ o).run P w = .ok .skip w'
def CallOk (P : Program) (f : FuncId) : Prop := ∀ args w, (callFunc f args).run P w = .ok (.enter f args) w
theorem callOk {P : Program} {f : FuncId} {fn : Func} (hf : P.funcs[f]? = some fn) (hn : (fn.name == "runtime.NumGoroutine") = false) (hb : fn.body.isNone = false) : CallOk P f := by
  intro args w
  have hn' : ¬ fn.name = "runtime.NumGoroutine" := by simpa using hn
  have hb' : ¬ fn.body = none := by intro h; rw [h] at hb; cases hb
  simp [callFunc, program, hf, hn', hb', Sem.run, bind, Sem.bind, pure]

section ops
variable {P : Program} {N : Nat} {ops : Array Oper} {Q : Exit → Act → World → Prop} {rest : List Oper} {L : FL} {w w' : World}

theorem wl_nil (h : WE N Q .normal L w) : WL P N ops Q [] L w := fun a ha => wpList_nil (h a ha)
theorem wl_sub {l : List Oper} (M : FL) (hs : Sub M L) (h : WL P N ops Q l M w) : WL P N ops Q l L w := fun a ha => h a (ha.sub hs)

theorem wl_val {d : Nat} {op : Op} {ty : TypeId} {pos : String} {aft : Array Edge} {v : Value} (hv : OpV P op ty L w v w') (hd : Nat.blt d N = true)
    (h : WL P N ops Q rest ((d, v) :: L) w') : WL P N ops Q (⟨some d, op, ty, pos, aft, none⟩ :: rest) L w := fun a ha =>
  wpList_plain rfl fun K hK => by
    unfold Oper.wp
    rw [hv a.eval _ (fun x u hx => ha.eval hx) rfl rfl]
    exact hK _ _ (h _ (ha.put hd v))
theorem wl_valN {op : Op} {ty : TypeId} {pos : String} {aft : Array Edge} {v : Value} (hv : OpV P op ty L w v w')
    (h : WL P N ops Q rest L w') : WL P N ops Q (⟨none, op, ty, pos, aft, none⟩ :: rest) L w := fun a ha =>
  wpList_plain rfl fun K hK => by
    unfold Oper.wp
    rw [hv a.eval _ (fun x u hx => ha.eval hx) rfl rfl]
    exact hK _ _ (h _ ha)
theorem wl_unitN {op : Op} {ty : TypeId} {pos : String} {aft : Array Edge} (hv : OpU P op ty L w w')
    (h : WL P N ops Q rest L w') : WL P N ops Q (⟨none, op, ty, pos, aft, none⟩ :: rest) L w := fun a ha =>
  wpList_plain rfl fun K hK => by
    unfold Oper.wp
    rw [hv a.eval _ (fun x u hx => ha.eval hx) rfl rfl]
    exact hK _ _ (h _ ha)
theorem wl_unit {d : Nat} {op : Op} {ty : TypeId} {pos : String} {aft : Array Edge} (hv : OpU P op ty L w w') (hd : Nat.blt d N = true)
    (h : WL P N ops Q rest ((d, undef) :: L) w') : WL P N ops Q (⟨some d, op, ty, pos, aft, none⟩ :: rest) L w := fun a ha =>
  wpList_plain rfl fun K hK => by
    unfold Oper.wp
    rw [hv a.eval _ (fun x u hx => ha.eval hx) rfl rfl]
    exact hK _ _ (h _ (ha.put hd undef))

/-- The operands of a call. -/
def Looks (L : FL) : List Operand → List Value → Prop
  | [], [] => True
  | x :: xs, v :: vs => look L x = some v ∧ Looks L xs vs
  | _, _ => False
theorem Looks.map {ρ : Operand → Value} (hρ : ∀ x u, look L x = some u → ρ x = u) : ∀ {xs : List Operand} {vs : List Value}, Looks L xs vs → xs.map ρ = vs
  | [], [], _ => rfl
  | x :: xs, v :: vs, h => by rw [List.map_cons, hρ x v h.1, Looks.map hρ h.2]
  | [], _ :: _, h => h.elim
  | _ :: _, [], h => h.elim

theorem exec_call {ρ : Operand → Value} {o : Oper} {f : FuncId} {xs : List Operand} {vs : List Value} {ats : Array TypeId} (ho : o.op = .call { callee := .value (.func f), args := xs.toArray, argTypes := ats })
    (hc : CallOk P f) (hρ : ∀ x u, look L x = some u → ρ x = u) (hx : Looks L xs vs) : (execOp ρ o).run P w = .ok (.enter f vs.toArray) w := by
  have hf : ρ (.func f) = .func (.func f) #[] #[] := hρ _ _ rfl
  have hm := Looks.map hρ hx
  unfold execOp
  simp only [ho, resolve, Deferred.ofValue, hf, Sem.run_bind, Sem.run_pure, Result.andThen_ok, invoke]
  have : (#[] ++ Array.map ρ xs.toArray ++ #[]) = vs.toArray := by simp [hm]
  rw [this]
  exact hc _ _

theorem wl_call {d : Nat} {f : FuncId} {xs : List Operand} {ats : Array TypeId} {ty : TypeId} {pos : String} {aft : Array Edge} {vs : List Value} {R : Value → World → Prop}
    (hc : CallOk P f) (hr : CallsV P f vs.toArray w R) (hx : Looks L xs vs) (hd : Nat.blt d N = true)
    (h : ∀ v w', R v w' → WL P N ops Q rest ((d, v) :: L) w') :
    WL P N ops Q (⟨some d, .call { callee := .value (.func f), args := xs.toArray, argTypes := ats }, ty, pos, aft, none⟩ :: rest) L w := fun a ha =>
  wpList_plain rfl fun K hK => by
    unfold Oper.wp
    rw [exec_call rfl hc (fun x u hx => ha.eval hx) hx]
    refine Calls.mono hr ?_
    rintro _ w' ⟨v, rfl, hv⟩
    exact hK _ _ (h v w' hv _ (ha.put hd v))
theorem wl_callX {d : Nat} {f : FuncId} {xs : List Operand} {ats : Array TypeId} {ty : TypeId} {pos : String} {aft : Array Edge} {vs : List Value} {R : Value → World → Prop}
    (hc : CallOk P f) (hx : Looks L xs vs) (hd : Nat.blt d N = true) (hr : CallsV P f vs.toArray w R)
    (h : ∀ v w', R v w' → WL P N ops Q rest ((d, v) :: L) w') :
    WL P N ops Q (⟨some d, .call { callee := .value (.func f), args := xs.toArray, argTypes := ats }, ty, pos, aft, none⟩ :: rest) L w := wl_call hc hr hx hd h
theorem wl_callN {f : FuncId} {xs : List Operand} {ats : Array TypeId} {ty : TypeId} {pos : String} {aft : Array Edge} {vs : List Value} {R : Value → World → Prop}
    (hc : CallOk P f) (hr : CallsV P f vs.toArray w R) (hx : Looks L xs vs)
    (h : ∀ v w', R v w' → WL P N ops Q rest L w') :
    WL P N ops Q (⟨none, .call { callee := .value (.func f), args := xs.toArray, argTypes := ats }, ty, pos, aft, none⟩ :: rest) L w := fun a ha =>
  wpList_plain rfl fun K hK => by
    unfold Oper.wp
    rw [exec_call rfl hc (fun x u hx => ha.eval hx) hx]
    refine Calls.mono hr ?_
    rintro _ w' ⟨v, rfl, hv⟩
    exact hK _ _ (h v w' hv _ ha)

/-- A guarded operation: its guard is the Bool that operation j has left in slot g. -/
theorem yielded_of {a : Act} {j g : Nat} {b : Bool} (ha : Has N a L) (hj : (ops[j]?).bind (·.dst) = some g) (hb : lookT L g = some (.bool b)) (hg : Nat.blt g N = true) : yielded ops a.tmps j = some b := by
  have hlt : g < a.tmps.size := by rw [ha.size]; simpa [Nat.blt_eq] using hg
  have h1 := ha.get g _ hb
  unfold yielded
  rw [hj]
  simp only [Option.bind_some]
  have : a.tmps[g]? = some (.bool b) := by
    rw [Array.getD_eq_getD_getElem?] at h1
    rw [Array.getElem?_eq_getElem hlt] at h1 ⊢
    simpa using h1
  rw [this]
theorem yielded_undef {a : Act} {j g : Nat} (ha : Has N a L) (hj : (ops[j]?).bind (·.dst) = some g) (hb : lookT L g = some undef) (hg : Nat.blt g N = true) : yielded ops a.tmps j = none := by
  have hlt : g < a.tmps.size := by rw [ha.size]; simpa [Nat.blt_eq] using hg
  have h1 := ha.get g _ hb
  unfold yielded
  rw [hj]
  simp only [Option.bind_some]
  have : a.tmps[g]? = some undef := by
    rw [Array.getD_eq_getD_getElem?] at h1
    rw [Array.getElem?_eq_getElem hlt] at h1 ⊢
    simpa using h1
  rw [this]; rfl
/-- A guarded operation whose guard was itself passed over. -/
theorem wl_skipU {d j g : Nat} {want : Bool} {op : Op} {ty : TypeId} {pos : String} {aft : Array Edge} (hj : (ops[j]?).bind (·.dst) = some g) (hb : lookT L g = some undef) (hg : Nat.blt g N = true)
    (hd : Nat.blt d N = true) (h : WL P N ops Q rest ((d, undef) :: L) w) : WL P N ops Q (⟨some d, op, ty, pos, aft, some (j, want)⟩ :: rest) L w := fun a ha => by
  have hy := yielded_undef ha hj hb hg
  unfold wpList
  rw [if_neg (by simp [Region.wanted, hy])]
  exact h _ (ha.put hd undef)
theorem wl_skip {d j g : Nat} {b want : Bool} {op : Op} {ty : TypeId} {pos : String} {aft : Array Edge} (hj : (ops[j]?).bind (·.dst) = some g) (hb : lookT L g = some (.bool b)) (hg : Nat.blt g N = true) (hne : b = !want)
    (hd : Nat.blt d N = true) (h : WL P N ops Q rest ((d, undef) :: L) w) : WL P N ops Q (⟨some d, op, ty, pos, aft, some (j, want)⟩ :: rest) L w := fun a ha => by
  have hy := yielded_of ha hj hb hg
  unfold wpList
  rw [if_neg (by simp [Region.wanted, hy, hne])]
  exact h _ (ha.put hd undef)
theorem wl_skipN {j g : Nat} {b want : Bool} {op : Op} {ty : TypeId} {pos : String} {aft : Array Edge} (hj : (ops[j]?).bind (·.dst) = some g) (hb : lookT L g = some (.bool b)) (hg : Nat.blt g N = true) (hne : b = !want)
    (h : WL P N ops Q rest L w) : WL P N ops Q (⟨none, op, ty, pos, aft, some (j, want)⟩ :: rest) L w := fun a ha => by
  have hy := yielded_of ha hj hb hg
  unfold wpList
  rw [if_neg (by simp [Region.wanted, hy, hne])]
  exact h _ ha
/-- A guarded operation that is wanted is as if it had no guard. -/
theorem wl_take {d j g : Nat} {b want : Bool} {op : Op} {ty : TypeId} {pos : String} {aft : Array Edge} (hj : (ops[j]?).bind (·.dst) = some g) (hb : lookT L g = some (.bool b)) (hg : Nat.blt g N = true) (he : b = want)
    (h : WL P N ops Q (⟨some d, op, ty, pos, aft, none⟩ :: rest) L w) : WL P N ops Q (⟨some d, op, ty, pos, aft, some (j, want)⟩ :: rest) L w := fun a ha => by
  have hy := yielded_of ha hj hb hg
  have h' := h a ha
  unfold wpList at h' ⊢
  rw [if_pos (by simp [Region.wanted, hy, he])]
  rw [if_pos (by simp [Region.wanted])] at h'
  exact h'

/-! #### Values -/
theorem opv_move {x : Operand} {ty : TypeId} {v : Value} (hx : look L x = some v) : OpV P (.move x) ty L w v w := fun ρ o hρ ho _ => by
  simp [execOp, ho, hρ x v hx]
theorem opv_assign {x : Operand} {ty : TypeId} {v : Value} (hx : look L x = some v) : OpV P (.assign x) ty L w v w := fun ρ o hρ ho _ => by
  simp [execOp, ho, hρ x v hx]
theorem opv_pick {c x y : Operand} {ty : TypeId} {b : Bool} {v : Value} (hc : look L c = some (.bool b)) (ht : b = true → look L x = some v) (hf : b = false → look L y = some v) : OpV P (.pick c x y) ty L w v w := fun ρ o hρ ho _ => by
  cases b with
  | true => simp [execOp, ho, hρ c _ hc, hρ x _ (ht rfl), asBool]
  | false => simp [execOp, ho, hρ c _ hc, hρ y _ (hf rfl), asBool]
def nthV : List Value → Nat → Option Value
  | [], _ => none
  | v :: _, 0 => some v
  | _ :: r, k + 1 => nthV r k
theorem nthV_eq : ∀ (vs : List Value) (k : Nat), nthV vs k = vs[k]?
  | [], _ => by simp [nthV]
  | v :: _, 0 => by simp [nthV]
  | _ :: r, k + 1 => by simp [nthV, nthV_eq r k]
theorem opv_extract {x : Operand} {k : Nat} {ty : TypeId} {vs : List Value} {v : Value} (hx : look L x = some (.tuple vs.toArray)) (hv : nthV vs k = some v) : OpV P (.extract x k) ty L w v w := fun ρ o hρ ho _ => by
  rw [nthV_eq] at hv
  simp [execOp, ho, hρ x _ hx, Instr.extract, hv]

theorem opv_pickT {c x y : Operand} {ty : TypeId} {b : Bool} {v : Value} (hc : look L c = some (.bool b)) (hb : b = true) (hx : look L x = some v) : OpV P (.pick c x y) ty L w v w := opv_pick hc (fun _ => hx) (fun h => by rw [hb] at h; cases h)
theorem opv_pickF {c x y : Operand} {ty : TypeId} {b : Bool} {v : Value} (hc : look L c = some (.bool b)) (hb : b = false) (hy : look L y = some v) : OpV P (.pick c x y) ty L w v w := opv_pick hc (fun h => by rw [hb] at h; cases h) (fun _ => hy)
theorem opv_not {x : Operand} {t ty : TypeId} {b : Bool} (hx : look L x = some (.bool b)) : OpV P (.unOp .not t x) ty L w (.bool (!b)) w := fun ρ o hρ ho _ => by
  simp [execOp, ho, hρ x _ hx, Op.unary]
theorem opv_notD {x : Operand} {t ty : TypeId} {p : Prop} {_ : Decidable p} (hx : look L x = some (.bool (decide p))) : OpV P (.unOp .not t x) ty L w (.bool (decide (¬ p))) w := fun ρ o hρ ho _ => by
  simp [execOp, ho, hρ x _ hx, Op.unary]

/-- The ways through the first k operations of a list meet: slot d holds v, the world is as it was. -/
theorem wl_cutV (k d : Nat) (v : Value) (hx : WL P N ops (CutQ N (fun L' w' => L' = (d, v) :: L ∧ w' = w) Q) (rest.take k) L w) (hy : WL P N ops Q (rest.drop k) ((d, v) :: L) w) : WL P N ops Q rest L w := by
  intro a ha
  have h := hx a ha
  have hmono : ∀ (l1 l2 : List Oper) (a : Act) (w1 : World), (∀ a' w', CutQ N (fun L' w' => L' = (d, v) :: L ∧ w' = w) Q .normal a' w' → wpList P ops Q l2 a' w') →
      wpList P ops (CutQ N (fun L' w' => L' = (d, v) :: L ∧ w' = w) Q) l1 a w1 → wpList P ops Q (l1 ++ l2) a w1 := by
    intro l1 l2 a w1 hl2 h
    exact wpList_append hl2 (fun e a w he h => by cases e <;> first | exact absurd rfl he | exact h) l1 a w1 h
  have := hmono (rest.take k) (rest.drop k) a w (fun a' w' hc => by
    obtain ⟨L', ⟨h1, h2⟩, ha'⟩ := hc
    subst h1; rw [h2]; exact hy a' ha') h
  rwa [List.take_append_drop] at this

/-- The ways to a region's end meet there. -/
theorem wl_cutE (J : FL → World → Prop) (hx : WL P N ops (CutQ N J Q) rest L w) (hy : ∀ L w, J L w → WE N Q .normal L w) : WL P N ops Q rest L w := fun a ha => by
  have h := wpList_append (P := P) (ops := ops) (Q := CutQ N J Q) (Q' := Q) (l2 := []) (fun a w ⟨L', hJ, ha'⟩ => hy L' w hJ a ha') (fun e a w he h => by cases e <;> first | exact absurd rfl he | exact h) rest a w (hx a ha)
  rwa [List.append_nil] at h

/-- A two-sided operation on two values. -/
structure BinV (P : Program) (op : BinOp) (t : TypeId) (a b r : Value) : Prop where
  run : ∀ (x y : Operand) (w : World), (do eqGuard op t x y a b; binOp op t a b : Sem Value).run P w = .ok r w
theorem opv_bin {op : BinOp} {x y : Operand} {t yt ty : TypeId} {a b r : Value} (hx : look L x = some a) (hy : look L y = some b) (hb : BinV P op t a b r) : OpV P (.binOp op t x y yt) ty L w r w := fun ρ o hρ ho _ => by
  have := hb.run x y w
  unfold execOp
  simp only [ho, hρ x _ hx, hρ y _ hy]
  rw [Sem.run_bind, this]
  simp
/-! #### The commonest steps in one word -/
theorem wl_mv {d : Nat} {x : Operand} {ty : TypeId} {pos : String} {aft : Array Edge} {v : Value} (hx : look L x = some v) (hd : Nat.blt d N = true) (h : WL P N ops Q rest ((d, v) :: L) w) :
    WL P N ops Q (⟨some d, .move x, ty, pos, aft, none⟩ :: rest) L w := wl_val (opv_move hx) hd h
theorem wl_as {d : Nat} {x : Operand} {ty : TypeId} {pos : String} {aft : Array Edge} {v : Value} (hx : look L x = some v) (hd : Nat.blt d N = true) (h : WL P N ops Q rest ((d, v) :: L) w) :
    WL P N ops Q (⟨some d, .assign x, ty, pos, aft, none⟩ :: rest) L w := wl_val (opv_assign hx) hd h
theorem wl_bin {d : Nat} {op : BinOp} {x y : Operand} {t yt ty : TypeId} {pos : String} {aft : Array Edge} {a b r : Value} (hx : look L x = some a) (hy : look L y = some b) (hb : BinV P op t a b r) (hd : Nat.blt d N = true) (h : WL P N ops Q rest ((d, r) :: L) w) :
    WL P N ops Q (⟨some d, .binOp op t x y yt, ty, pos, aft, none⟩ :: rest) L w := wl_val (opv_bin hx hy hb) hd h
theorem wc_sr {id : Nat} {l : List Oper} {y : Code} (h : WL P N l.toArray (SeqQ P y Q) l L w) : WC P N (.seq (.region id l.toArray false) y) Q L w := wc_seq (wc_region h)
theorem wl_ns {y : Code} (h : WC P N y Q L w) : WL P N ops (SeqQ P y Q) [] L w := wl_nil (we_seq h)
end ops

/-! ### A region whose order is drawn and whose operations leave the world alone, up to a class of worlds -/
def WQ (P : Program) (N : Nat) (ops : Array Oper) (C : World → Prop) (Qa : Act → Prop) (l : List Oper) (L : FL) : Prop := ∀ a, Has N a L → wpQuiet P ops C Qa l a
/-- The end of such a region. -/
def QEnd (N : Nat) (C : World → Prop) (Q : Exit → Act → World → Prop) (a : Act) : Prop := ∀ w', C w' → Q .normal a w'
section quiet
variable {P : Program} {N : Nat} {ops : Array Oper} {C : World → Prop} {Qa : Act → Prop} {Q : Exit → Act → World → Prop} {rest : List Oper} {L : FL} {w w' : World}
theorem wc_draw {id : Nat} {l : List Oper} (C : World → Prop) (hm : P.follows .mixedOrders = true) (hB : Region.lexB .any l.toArray = true) (hC : C w.drew)
    (h : WQ P N l.toArray C (QEnd N C Q) l L) : WC P N (.region id l.toArray true) Q L w := fun a ha =>
  wp_region_quiet (C := C) hm hB hC (show wpQuiet P l.toArray C (QEnd N C Q) l.toArray.toList a from by simpa using h a ha)
theorem wq_nil (h : ∀ w', C w' → WE N Q .normal L w') : WQ P N ops C (QEnd N C Q) [] L := fun a ha => wpQuiet_nil fun w' hw => h w' hw a ha
theorem wq_val {d : Nat} {op : Op} {ty : TypeId} {pos : String} {aft : Array Edge} {v : Value} (hv : ∀ w, C w → OpV P op ty L w v w) (hd : Nat.blt d N = true)
    (h : WQ P N ops C Qa rest ((d, v) :: L)) : WQ P N ops C Qa (⟨some d, op, ty, pos, aft, none⟩ :: rest) L := fun a ha =>
  wpQuiet_step fun K hK => by
    rw [if_pos (by simp [Region.wanted])]
    refine ⟨v, fun w hw => ?_, hK _ (h _ (ha.put hd v))⟩
    unfold Oper.quietAt
    rw [hv w hw a.eval _ (fun x u hx => ha.eval hx) rfl rfl]
    exact ⟨rfl, rfl⟩
theorem wq_call {d : Nat} {f : FuncId} {xs : List Operand} {ats : Array TypeId} {ty : TypeId} {pos : String} {aft : Array Edge} {vs : List Value} {v : Value}
    (hc : CallOk P f) (hr : ∀ w, C w → CallsV P f vs.toArray w fun u w' => u = v ∧ C w') (hx : Looks L xs vs) (hd : Nat.blt d N = true)
    (h : WQ P N ops C Qa rest ((d, v) :: L)) :
    WQ P N ops C Qa (⟨some d, .call { callee := .value (.func f), args := xs.toArray, argTypes := ats }, ty, pos, aft, none⟩ :: rest) L := fun a ha =>
  wpQuiet_step fun K hK => by
    rw [if_pos (by simp [Region.wanted])]
    refine ⟨v, fun w hw => ?_, hK _ (h _ (ha.put hd v))⟩
    unfold Oper.quietAt
    rw [exec_call rfl hc (fun x u hx => ha.eval hx) hx]
    refine ⟨rfl, Calls.mono (hr w hw) ?_⟩
    rintro _ w' ⟨u, rfl, rfl, hw'⟩
    exact ⟨rfl, hw'⟩
theorem wq_skip {d j g : Nat} {b want : Bool} {op : Op} {ty : TypeId} {pos : String} {aft : Array Edge} (hj : (ops[j]?).bind (·.dst) = some g) (hb : lookT L g = some (.bool b)) (hg : Nat.blt g N = true) (hne : b = !want)
    (hd : Nat.blt d N = true) (h : WQ P N ops C Qa rest ((d, undef) :: L)) : WQ P N ops C Qa (⟨some d, op, ty, pos, aft, some (j, want)⟩ :: rest) L := fun a ha => by
  have hy := yielded_of ha hj hb hg
  unfold wpQuiet
  rw [if_neg (by simp [Region.wanted, hy, hne])]
  exact h _ (ha.put hd undef)
theorem wq_skipU {d j g : Nat} {want : Bool} {op : Op} {ty : TypeId} {pos : String} {aft : Array Edge} (hj : (ops[j]?).bind (·.dst) = some g) (hb : lookT L g = some undef) (hg : Nat.blt g N = true)
    (hd : Nat.blt d N = true) (h : WQ P N ops C Qa rest ((d, undef) :: L)) : WQ P N ops C Qa (⟨some d, op, ty, pos, aft, some (j, want)⟩ :: rest) L := fun a ha => by
  have hy := yielded_undef ha hj hb hg
  unfold wpQuiet
  rw [if_neg (by simp [Region.wanted, hy])]
  exact h _ (ha.put hd undef)
theorem wq_take {d j g : Nat} {b want : Bool} {op : Op} {ty : TypeId} {pos : String} {aft : Array Edge} (hj : (ops[j]?).bind (·.dst) = some g) (hb : lookT L g = some (.bool b)) (hg : Nat.blt g N = true) (he : b = want)
    (h : WQ P N ops C Qa (⟨some d, op, ty, pos, aft, none⟩ :: rest) L) : WQ P N ops C Qa (⟨some d, op, ty, pos, aft, some (j, want)⟩ :: rest) L := fun a ha => by
  have hy := yielded_of ha hj hb hg
  have h' := h a ha
  unfold wpQuiet at h' ⊢
  rw [if_pos (by simp [Region.wanted, hy, he])]
  rw [if_pos (by simp [Region.wanted])] at h'
  exact h'
end quiet

section bins
variable {P : Program} {t : TypeId} {k : IntKind} {a b : Int}
theorem bin_lss : BinV P .lss t (.int k a) (.int k b) (.bool (decide (a < b))) := .mk fun x y w => by simp [eqGuard, binOp, Op.intCmp]
theorem bin_leq : BinV P .leq t (.int k a) (.int k b) (.bool (decide (a ≤ b))) := .mk fun x y w => by simp [eqGuard, binOp, Op.intCmp]
theorem bin_gtr : BinV P .gtr t (.int k a) (.int k b) (.bool (decide (b < a))) := .mk fun x y w => by simp [eqGuard, binOp, Op.intCmp]
theorem bin_geq : BinV P .geq t (.int k a) (.int k b) (.bool (decide (b ≤ a))) := .mk fun x y w => by simp [eqGuard, binOp, Op.intCmp]
theorem bin_eql : BinV P .eql t (.int k a) (.int k b) (.bool (decide (a = b))) := .mk fun x y w => by
  have e : (a == b) = decide (a = b) := by by_cases h : a = b <;> simp [h]
  simp [eqGuard, binOp, Op.intCmp, e]
theorem bin_neq : BinV P .neq t (.int k a) (.int k b) (.bool (decide (a ≠ b))) := .mk fun x y w => by
  have e : (a == b) = decide (a = b) := by by_cases h : a = b <;> simp [h]
  simp [eqGuard, binOp, Op.intCmp, bne, e]
theorem bin_add : BinV P .add t (.int k a) (.int k b) (.int k (k.wrap (a + b))) := .mk fun x y w => by simp [eqGuard, binOp, Op.intArith]
theorem bin_sub : BinV P .sub t (.int k a) (.int k b) (.int k (k.wrap (a - b))) := .mk fun x y w => by simp [eqGuard, binOp, Op.intArith]
theorem bin_mul : BinV P .mul t (.int k a) (.int k b) (.int k (k.wrap (a * b))) := .mk fun x y w => by simp [eqGuard, binOp, Op.intArith]
theorem BinV.to {op : BinOp} {u v r s : Value} (h : BinV P op t u v r) (e : r = s) : BinV P op t u v s := e ▸ h
theorem bin_add64 (h : -9223372036854775808 ≤ a + b ∧ a + b ≤ 9223372036854775807) : BinV P .add t (.int .i64 a) (.int .i64 b) (.int .i64 (a + b)) := bin_add.to (by rw [IntWalk.i64_in _ h])
theorem bin_sub64 (h : -9223372036854775808 ≤ a - b ∧ a - b ≤ 9223372036854775807) : BinV P .sub t (.int .i64 a) (.int .i64 b) (.int .i64 (a - b)) := bin_sub.to (by rw [IntWalk.i64_in _ h])
theorem bin_mul64 (h : -9223372036854775808 ≤ a * b ∧ a * b ≤ 9223372036854775807) : BinV P .mul t (.int .i64 a) (.int .i64 b) (.int .i64 (a * b)) := bin_mul.to (by rw [IntWalk.i64_in _ h])
end bins
end Go.Proofs.Ytpnckagibkdcpaa


/-
  The engine's rules for memory: reading an element of a slice, append, make, a slice expression, a store into a row of the call's own. Nothing here names the program.
-/
namespace Go.Proofs.Ytpnckagibkdcpaa
open Go.RowKit

theorem cells_one {v : Value} (h : v.oneCell' = true) : v.cells = #[v] := by cases v <;> first | rfl | (simp [Value.oneCell'] at h)

/-- Slice type t has elements of type e, of one cell each. -/
structure Row1 (P : Program) (t e : TypeId) (z : Value) (bytes : Nat) : Prop where
  sl : P.underlying t = some (.slice e)
  info : (P.info? e).map (fun i => (i.zero, i.size, i.bytes)) = some (some z, 1, bytes)
  one : z.oneCell' = true
  flat : (match P.underlying e with | some (.struct _) => true | some (.array _ _) => true | some _ => false | none => true) = false

theorem Row1.agg {P : Program} {t e : TypeId} {z : Value} {bytes : Nat} (T : Row1 P t e z bytes) (w : World) : (isAgg e).run P w = .ok false w := by
  have h := T.flat
  unfold isAgg
  cases hu : P.underlying e with
  | none => rw [hu] at h; simp at h
  | some d =>
    rw [hu] at h
    rw [Sem.run_bind, run_underlying hu]
    cases d <;> first | (simp at h; done) | simp
theorem Row1.size {P : Program} {t e : TypeId} {z : Value} {bytes : Nat} (T : Row1 P t e z bytes) (w : World) : (sizeOf e).run P w = .ok 1 w := by
  obtain ⟨i, hi, _, hs, _⟩ := info_parts T.info
  simp [sizeOf, typeInfo, hi, hs]
theorem Row1.zero {P : Program} {t e : TypeId} {z : Value} {bytes : Nat} (T : Row1 P t e z bytes) (w : World) : (zeroValue e).run P w = .ok z w := by
  obtain ⟨i, hi, hz, _, _⟩ := info_parts T.info
  simp [zeroValue, typeInfo, hi, hz]

/-- Row A alone, beside new blocks, has been written. -/
def Gr (w w' : World) (A : Option Addr) : Prop := w.grownBy w' (A.map (·.block))
theorem ownBlock_slice (A : Option Addr) (n c : Nat) : (Value.slice A n c).ownBlock = A.map (·.block) := by cases A <;> rfl
theorem Gr.refl (w : World) (A : Option Addr) : Gr w w A := ⟨rfl, rfl, rfl, Nat.le_refl _, fun _ _ _ => rfl⟩
theorem Gr.size {w w' : World} {A : Option Addr} (g : Gr w w' A) : w.heap.size ≤ w'.heap.size := World.grownBy.size g
theorem Gr.of_below {w w' : World} {B : Nat} (A : Option Addr) (h : Below B w w') (hB : w.heap.size ≤ B) : Gr w w' A := ⟨h.os, h.tape, h.output, h.size, fun k hk _ => h.block k (by omega)⟩
theorem Gr.trans {w w1 w2 : World} {A : Option Addr} (g : Gr w w1 A) (h : Gr w1 w2 A) : Gr w w2 A := World.grownBy.trans g h
/-- What lies below the row's first block is as it was. -/
theorem Gr.below {w0 w w' : World} {B base : Nat} {e : TypeId} {A : Option Addr} {n c : Nat} {xs : List Value} (g : Gr w w' A) (h : Below B w0 w) (ho : Ow w base e A n c xs) (hb : B ≤ base) (hB : B ≤ w.heap.size) : Below B w0 w' :=
  h.grown g hB fun k hk => Nat.le_trans hb (World.ownsRow.lt ho k (by rw [ownBlock_slice]; exact hk)).1
/-- A row of the call's own in another block stays. -/
theorem Ow.gr {w w' : World} {base base' : Nat} {e e' : TypeId} {A B : Option Addr} {n c : Nat} {xs : List Value} (h : Ow w base e A n c xs) (g : Gr w w' B)
    (hne : ∀ a b, A = some a → B = some b → a.block ≠ b.block) : Ow w' base e A n c xs := by
  refine World.ownsRow.kept h g ?_
  cases A with
  | none => exact .inl rfl
  | some a => refine .inr ?_; cases B with
    | none => simp [Value.ownBlock]
    | some b => simpa [Value.ownBlock] using hne a b rfl rfl
theorem Rd.gr {w w' : World} {A B : Option Addr} {n : Nat} {xs : List Value} (h : Rd w A n xs) (g : Gr w w' B)
    (hne : ∀ a b, A = some a → B = some b → a.block ≠ b.block) : Rd w' A n xs := ⟨h.1, fun hn => by
  obtain ⟨b, o, hA, hb, hc⟩ := h.2 hn
  refine ⟨b, o, hA, Nat.lt_of_lt_of_le hb g.size, fun j u hu => ?_⟩
  rw [World.cell?_of_block (w := w) (a := ⟨b, o + j, none⟩) (World.grownBy.block g b hb ?_)]
  · exact hc j u hu
  · cases B with
    | none => simp
    | some q => have := hne _ q hA rfl; simpa using this⟩
/-- Where a row of the call's own lies. -/
theorem Ow.lt {w : World} {base : Nat} {e : TypeId} {A : Option Addr} {n c : Nat} {xs : List Value} (h : Ow w base e A n c xs) : ∀ a, A = some a → base ≤ a.block ∧ a.block < w.heap.size := fun a ha =>
  World.ownsRow.lt h a.block (by rw [ha]; rfl)
theorem Rd.lt {w : World} {A : Option Addr} {n : Nat} {xs : List Value} (h : Rd w A n xs) (hn : 0 < n) : ∀ a, A = some a → a.block < w.heap.size := fun a ha => by
  obtain ⟨b, o, hA, hb, _⟩ := h.2 hn
  rw [hA] at ha; cases ha; exact hb

theorem getElem?_bvs {l : List UInt8} {k : Nat} {u : Value} (h : (bvs l)[k]? = some u) : ∃ b, l[k]? = some b ∧ u = bv b := by
  unfold bvs at h
  rw [List.getElem?_map] at h
  cases hl : l[k]? with
  | none => rw [hl] at h; cases h
  | some b => rw [hl] at h; exact ⟨b, rfl, by simpa using h.symm⟩

section
variable {P : Program} {N : Nat} {ops : Array Oper} {Q : Exit → Act → World → Prop} {rest : List Oper} {L : FL} {w : World} {t e : TypeId} {z : Value} {bytes : Nat}

theorem opv_len {x : Operand} {ty : TypeId} {A : Option Addr} {n c : Nat} (hx : look L x = some (.slice A n c)) (ht : P.underlying t = some (.slice e)) :
    OpV P (.call { callee := .builtin .len, args := #[x], argTypes := #[t] }) ty L w (.int .i64 (n : Int)) w := fun ρ o hρ ho _ => by
  simp [execOp, ho, resolve, invoke, builtin, Builtin.len_, hρ x _ hx, run_underlying ht, goInt]
theorem opv_lenS {x : Operand} {ty : TypeId} {s : ByteArray} (hx : look L x = some (.string s)) (ht : P.underlying t = some .string) :
    OpV P (.call { callee := .builtin .len, args := #[x], argTypes := #[t] }) ty L w (.int .i64 (s.size : Int)) w := fun ρ o hρ ho _ => by
  simp [execOp, ho, resolve, invoke, builtin, Builtin.len_, hρ x _ hx, run_underlying ht, goInt]

/-- The address of an element. -/
theorem opv_idx {x i : Operand} {ty : TypeId} {b o : Nat} {n c kk : Nat} {ik : IntKind} {q : Int} (T : Row1 P t e z bytes) (hx : look L x = some (.slice (some ⟨b, o, none⟩) n c)) (hi : look L i = some (.int ik q)) (hq : q = (kk : Int)) (hk : kk < n) :
    OpV P (.indexAddr t x i) ty L w (.pointer (some ⟨b, o + kk, none⟩)) w := fun ρ op hρ ho _ => by
  subst hq
  simp [execOp, ho, Instr.indexAt, asIntOf, hρ x _ hx, hρ i _ hi, run_underlying T.sl, hk, T.size, Addr.add_lit]
theorem opv_load {x : Operand} {ty : TypeId} {a : Addr} {u : Value} (T : Row1 P t e z bytes) (hx : look L x = some (.pointer (some a))) (hc : w.cell? a = some u) : OpV P (.load e x) ty L w u w := fun ρ op hρ ho _ => by
  simp [execOp, ho, Instr.loadAt, Instr.sureAddr, loadVar, hρ x _ hx, T.agg, hc]

/-- The address of an element that is known, and its load, in two steps. -/
def adR (A : Option Addr) (k : Nat) : Value := .pointer (A.map fun a => a.add k)
theorem opv_idxR {x i : Operand} {ty : TypeId} {A : Option Addr} {n c kk : Nat} {ik : IntKind} {q : Int} {xs : List Value} {u : Value} {w0 : World} (T : Row1 P t e z bytes) (hx : look L x = some (.slice A n c)) (hi : look L i = some (.int ik q)) (hr : Rd w0 A n xs) (hq : q = (kk : Int)) (hu : xs[kk]? = some u) :
    OpV P (.indexAddr t x i) ty L w (adR A kk) w := by
  have hk : kk < n := by have := (List.getElem?_eq_some_iff.1 hu).1; have := hr.1; omega
  obtain ⟨b, o, rfl, _, _⟩ := hr.2 (by omega)
  have := opv_idx (P := P) (L := L) (w := w) (ty := ty) T hx hi hq hk
  simpa [adR, Addr.add_lit] using this
theorem opv_loadR {x : Operand} {ty : TypeId} {A : Option Addr} {n kk : Nat} {xs : List Value} {u : Value} (T : Row1 P t e z bytes) (hx : look L x = some (adR A kk)) (hr : Rd w A n xs) (hu : xs[kk]? = some u) : OpV P (.load e x) ty L w u w := by
  have hk : kk < n := by have := (List.getElem?_eq_some_iff.1 hu).1; have := hr.1; omega
  obtain ⟨b, o, rfl, _, hc⟩ := hr.2 (by omega)
  exact opv_load T (by simpa [adR, Addr.add_lit] using hx) (hc kk u hu)
/-- An element of a slice: its address and its value. -/
theorem wl_el {d1 d2 : Nat} {x i : Operand} {ty1 ty2 : TypeId} {p1 p2 : String} {f1 f2 : Array Edge} {A : Option Addr} {n c kk : Nat} {ik : IntKind} {q : Int} {xs : List Value} (T : Row1 P t e z bytes)
    (hx : look L x = some (.slice A n c)) (hi : look L i = some (.int ik q)) (hr : Rd w A n xs) (hq : q = (kk : Int)) (hk : kk < n) (hd1 : Nat.blt d1 N = true) (hd2 : Nat.blt d2 N = true)
    (h : ∀ p u, xs[kk]? = some u → WL P N ops Q rest ((d2, u) :: (d1, p) :: L) w) :
    WL P N ops Q (⟨some d1, .indexAddr t x i, ty1, p1, f1, none⟩ :: ⟨some d2, .load e (.tmp d1), ty2, p2, f2, none⟩ :: rest) L w := by
  obtain ⟨b, o, u, rfl, hu, hc⟩ := hr.at hk
  refine wl_val (opv_idx T hx hi hq hk) hd1 (wl_val (opv_load T ?_ hc) hd2 (h _ u hu))
  simp [look, lookT]
theorem wl_by {d1 d2 : Nat} {x i : Operand} {ty1 ty2 : TypeId} {p1 p2 : String} {f1 f2 : Array Edge} {A : Option Addr} {n c kk : Nat} {ik : IntKind} {q : Int} {l : List UInt8} (T : Row1 P t e z bytes)
    (hx : look L x = some (.slice A n c)) (hi : look L i = some (.int ik q)) (hr : Rd w A n (bvs l)) (hq : q = (kk : Int)) (hk : kk < n) (hd1 : Nat.blt d1 N = true) (hd2 : Nat.blt d2 N = true)
    (h : ∀ p b, l[kk]? = some b → WL P N ops Q rest ((d2, .int .u8 (b.toNat : Int)) :: (d1, p) :: L) w) :
    WL P N ops Q (⟨some d1, .indexAddr t x i, ty1, p1, f1, none⟩ :: ⟨some d2, .load e (.tmp d1), ty2, p2, f2, none⟩ :: rest) L w :=
  wl_el T hx hi hr hq hk hd1 hd2 fun p u hu => by
    obtain ⟨b, hb, rfl⟩ := getElem?_bvs hu
    exact h p b hb

/-- append. -/
theorem wl_app {d : Nat} {s x : Operand} {ty : TypeId} {pos : String} {aft : Array Edge} {base : Nat} {A : Option Addr} {n c : Nat} {xs : List Value} {B : Option Addr} {m c' : Nat} {ys : List Value} (T : Row1 P t e z bytes)
    (hs : look L s = some (.slice A n c)) (hown : Ow w base e A n c xs) (hx : look L x = some (.slice B m c')) (hr : Rd w B m ys) (h1 : ∀ u ∈ ys, u.oneCell' = true)
    (hbytes : (n + m) * bytes ≤ 140737488355328) (hmax : n + m ≤ maxLen) (hbase : base ≤ w.heap.size) (hd : Nat.blt d N = true)
    (h : ∀ A' c' w', Ow w' base e A' (n + m) c' (xs ++ ys) → Gr w w' A → (A'.map (·.block) = A.map (·.block) ∨ A'.map (·.block) = some w.heap.size) → WL P N ops Q rest ((d, .slice A' (n + m) c') :: L) w') :
    WL P N ops Q (⟨some d, .call { callee := .builtin .append, args := #[s, x], argTypes := #[t, t] }, ty, pos, aft, none⟩ :: rest) L w := fun a ha => by
  refine wpList_app rfl s x t rfl T.sl T.info (by rw [cells_one T.one]; rfl) (ha.eval hs) hown (ha.eval hx) hr h1 hbytes hmax hbase fun A' c' w' ho hg hat => ?_
  rw [ownBlock_slice] at hg
  exact h A' c' w' ho hg hat _ (ha.put hd _)

/-- The parts of a slice that a statement writes out. -/
def PLooks (L : FL) : Nat → List (Nat × Operand) → List Value → Prop
  | _, [], [] => True
  | k, (i, x) :: ps, v :: vs => i = k ∧ look L x = some v ∧ v.oneCell' = true ∧ PLooks L (k + 1) ps vs
  | _, _, _ => False
theorem PLooks.one : ∀ {ps : List (Nat × Operand)} {vs : List Value} {k : Nat}, PLooks L k ps vs → ∀ u ∈ vs, u.oneCell' = true
  | [], [], _, _ => by simp
  | (i, x) :: ps, v :: vs, k, h => by
    intro u hu
    rcases List.mem_cons.1 hu with rfl | hu
    · exact h.2.2.1
    · exact PLooks.one h.2.2.2 u hu
  | [], _ :: _, _, h => h.elim
  | _ :: _, [], _, h => h.elim
theorem PLooks.fill {ρ : Operand → Value} (hρ : ∀ x u, look L x = some u → ρ x = u) : ∀ {ps : List (Nat × Operand)} {vs : List Value} {k : Nat} (cur : Array Value), PLooks L k ps vs → k + vs.length = cur.size →
    Instr.fill (fun i => some (i * 1, 1)) cur (ps.map fun p => (p.1, ρ p.2)) = some (cur.toList.take k ++ vs).toArray
  | [], [], k, cur, _, hk => by
    simp only [List.map_nil, Instr.fill, List.append_nil]
    rw [List.take_of_length_le (by simp at hk ⊢; omega)]
  | (i, x) :: ps, v :: vs, k, cur, h, hk => by
    obtain ⟨rfl, hx, h1, h2⟩ := h
    simp only [List.length_cons] at hk
    have hc := cells_one h1
    simp only [List.map_cons, Instr.fill, hρ x v hx, hc]
    have hcond : ((#[v] : Array Value).size ≠ 1 || decide (i * 1 + (#[v] : Array Value).size > cur.size)) = false := by simp; omega
    have hcs : (Array.foldl (fun cs (x : Value × Nat) => cs.setIfInBounds (i * 1 + x.2) x.1) cur (#[v] : Array Value).zipIdx) = cur.setIfInBounds i v := by simp [Array.zipIdx]
    rw [if_neg (by simpa using hcond)]
    rw [hcs, PLooks.fill hρ (cur.setIfInBounds i v) h2 (by simp; omega)]
    congr 1
    rw [Array.toList_setIfInBounds]
    apply congrArg List.toArray
    apply List.ext_getElem?
    intro j
    have hlt : i < cur.toList.length := by simp; omega
    simp only [List.getElem?_append, List.length_take, List.length_set, List.getElem?_take, List.getElem?_set, List.length_cons, Array.length_toList]
    have m1 : min (i + 1) cur.size = i + 1 := by omega
    have m2 : min i cur.size = i := by omega
    rw [m1, m2]
    rcases Nat.lt_trichotomy j i with h | h | h
    · have e1 : j < i + 1 := by omega
      have e2 : j < cur.size := by omega
      have e3 : i ≠ j := by omega
      simp [h, e1, e2, e3]
    · subst h
      have e2 : j < cur.size := by simpa using hlt
      simp [e2]
    · have e1 : ¬ j < i + 1 := by omega
      have e2 : ¬ j < i := by omega
      have e5 : j - i = (j - (i + 1)) + 1 := by omega
      simp only [e1, e2, if_false]
      rw [e5]; simp
  | [], _ :: _, _, _, h, _ => h.elim
  | _ :: _, [], _, _, h, _ => h.elim

theorem opv_bs {len : Nat} {ps : List (Nat × Operand)} {vs : List Value} {ty : TypeId} (T : Row1 P t e z bytes) (hp : PLooks L 0 ps vs) (hl : vs.length = len) (hle : len ≤ 16777216) :
    OpV P (.buildSlice t len ps.toArray) ty L w (.slice (some ⟨w.heap.size, 0, none⟩) len len) (w.alloc (.cells vs.toArray e)) := fun ρ o hρ ho _ => by
  have hz := T.one
  have hf := PLooks.fill hρ ((Array.range (len * 1)).map fun i => (if len * 1 = 0 then (#[] : Array Value) else z.cells)[i % (if len * 1 = 0 then (#[] : Array Value) else z.cells).size]!) hp (by simp [hl])
  simp only [List.take_zero, List.nil_append] at hf
  have hmap : (Array.map (fun (x : Nat × Operand) => (x.1, ρ x.2)) ps.toArray).toList = ps.map fun p => (p.1, ρ p.2) := by simp
  unfold execOp
  simp only [ho, Instr.buildSlice, Sem.run_bind, run_underlying T.sl, Result.andThen_ok, T.size]
  have h24 : ¬ (len * 1 > 2 ^ 24) := by omega
  rw [if_neg h24]
  by_cases h0 : len * 1 = 0
  · simp only [h0, if_true, Sem.run_bind, Sem.run_pure, Result.andThen_ok] at hf ⊢
    rw [hmap, hf]
    simp [newRow]
  · simp only [h0, if_false, Sem.run_bind, Sem.run_pure, Result.andThen_ok, T.zero] at hf ⊢
    rw [hmap, hf]
    simp [newRow]

theorem Ow.lit (w : World) (e : TypeId) (vs : List Value) (n : Nat) (hn : vs.length = n) (hm : n ≤ maxLen) : Ow (w.alloc (.cells vs.toArray e)) w.heap.size e (some ⟨w.heap.size, 0, none⟩) n n vs := by
  have := World.ownsRow_lit (e := e) (size := 1) (base := w.heap.size) w vs.toArray n (Nat.le_refl _) hm (by simpa using hn)
  simpa [Ow] using this

/-- A slice that a statement writes out. -/
theorem wl_bs {d len : Nat} {ps : List (Nat × Operand)} {vs : List Value} {ty : TypeId} {pos : String} {aft : Array Edge} (T : Row1 P t e z bytes) (hp : PLooks L 0 ps vs) (hl : vs.length = len) (hle : len ≤ 16777216) (hd : Nat.blt d N = true)
    (h : ∀ A w', Ow w' w.heap.size e A len len vs → Below w.heap.size w w' → w'.heap.size = w.heap.size + 1 → WL P N ops Q rest ((d, .slice A len len) :: L) w') :
    WL P N ops Q (⟨some d, .buildSlice t len ps.toArray, ty, pos, aft, none⟩ :: rest) L w :=
  wl_val (opv_bs T hp hl hle) hd (h _ _ (Ow.lit w e vs len hl (by simp only [maxLen]; omega)) ((Below.refl _ _).alloc (Nat.le_refl _) _) (by simp))

/-- append(s, x, y ..): the elements written out. -/
theorem wl_push {d1 d2 len : Nat} {ps : List (Nat × Operand)} {vs : List Value} {s : Operand} {ty1 ty2 : TypeId} {p1 p2 : String} {f1 f2 : Array Edge} {base : Nat} {A : Option Addr} {n c : Nat} {xs : List Value} (T : Row1 P t e z bytes)
    (hs : look L s = some (.slice A n c)) (hown : Ow w base e A n c xs) (hp : PLooks L 0 ps vs) (hl : vs.length = len) (hle : len ≤ 16777216) (hs1 : look ((d1, .slice (some ⟨w.heap.size, 0, none⟩) len len) :: L) s = some (.slice A n c))
    (hbytes : (n + len) * bytes ≤ 140737488355328) (hmax : n + len ≤ maxLen) (hbase : base ≤ w.heap.size) (hd1 : Nat.blt d1 N = true) (hd2 : Nat.blt d2 N = true)
    (h : ∀ p A' c' w', Ow w' base e A' (n + len) c' (xs ++ vs) → Gr w w' A → (A'.map (·.block) = A.map (·.block) ∨ ∀ a', A' = some a' → w.heap.size ≤ a'.block) → WL P N ops Q rest ((d2, .slice A' (n + len) c') :: (d1, p) :: L) w') :
    WL P N ops Q (⟨some d1, .buildSlice t len ps.toArray, ty1, p1, f1, none⟩ :: ⟨some d2, .call { callee := .builtin .append, args := #[s, .tmp d1], argTypes := #[t, t] }, ty2, p2, f2, none⟩ :: rest) L w := by
  refine wl_val (opv_bs T hp hl hle) hd1 ?_
  have ho1 : Ow (w.alloc (.cells vs.toArray e)) base e A n c xs := hown.alloc _
  refine wl_app (B := some ⟨w.heap.size, 0, none⟩) (m := len) (c' := len) T hs1 ho1 (by simp [look, lookT]) (Ow.lit w e vs len hl (by simp only [maxLen]; omega)).rd (PLooks.one hp) hbytes hmax (by simp; omega) hd2 fun A' c' w' ho hg hat => ?_
  refine h _ A' c' w' ho ((Gr.of_below A ((Below.refl w.heap.size w).alloc (Nat.le_refl _) _) (Nat.le_refl _)).trans hg) ?_
  rcases hat with e | e
  · exact .inl e
  · refine .inr fun a' ha' => ?_
    rw [ha'] at e
    simp at e
    omega

/-- make. -/
theorem wl_mk {d : Nat} {x y : Operand} {ty : TypeId} {pos : String} {aft : Array Edge} {n c : Nat} {p q : Int} {k1 k2 : IntKind} (T : Row1 P t e z bytes) (hx : look L x = some (.int k1 p)) (hy : look L y = some (.int k2 q)) (hp : p = (n : Int)) (hq : q = (c : Int)) (hnc : n ≤ c)
    (hb : bytes * c ≤ 281474976710656) (hm : c ≤ maxLen) (hd : Nat.blt d N = true)
    (h : ∀ A w', Ow w' w.heap.size e A n c (List.replicate n z) → Below w.heap.size w w' → w'.heap.size = w.heap.size + 1 → WL P N ops Q rest ((d, .slice A n c) :: L) w') :
    WL P N ops Q (⟨some d, .makeSlice t x y, ty, pos, aft, none⟩ :: rest) L w := by
  subst hp hq
  obtain ⟨i, hi, hz, hs, hby⟩ := info_parts T.info
  have hzc : z.cells = #[z] := cells_one T.one
  have hb' : (i.bytes : Int) * (c : Int) ≤ 281474976710656 := by
    rw [hby]
    have : ((bytes * c : Nat) : Int) ≤ 281474976710656 := by omega
    rwa [Int.natCast_mul] at this
  have hm' : (c : Int) ≤ 9223372036854775807 := by simp only [maxLen] at hm; omega
  have hrun := run_make (P := P) w t e i z T.sl hi hz k1 k2 (n : Int) (c : Int) (by omega) (by omega) hb' hm'
  simp only [Int.toNat_natCast, hs, Nat.mul_one, hzc] at hrun
  have hv : OpV P (.makeSlice t x y) ty L w (.slice (some ⟨w.heap.size, 0, none⟩) n c) (w.alloc (.cells (madeCells #[z] c) e)) := fun ρ o hρ ho _ => by
    unfold execOp
    simp only [ho, hρ x _ hx, hρ y _ hy, Sem.run_bind, hrun]
    simp
  refine wl_val hv hd (h _ _ ?_ ((Below.refl _ _).alloc (Nat.le_refl _) _) (by simp))
  refine ⟨by simp, .inr ⟨w.heap.size, c, madeCells #[z] c, rfl, Nat.le_refl _, heap_alloc_new w _, hnc, hm, by simp [size_madeCells], ?_⟩⟩
  rw [toList_madeCells_one]
  simp [List.take_replicate, Nat.min_eq_left hnc]

/-- An element of a slice, read under a guard that holds. -/
theorem wl_elT {d1 d2 j1 g1 j2 g2 : Nat} {b1 w1 b2 w2 : Bool} {x i : Operand} {ty1 ty2 : TypeId} {p1 p2 : String} {f1 f2 : Array Edge} {A : Option Addr} {n c kk : Nat} {ik : IntKind} {q : Int} {xs : List Value} (T : Row1 P t e z bytes)
    (hj1 : (ops[j1]?).bind (·.dst) = some g1) (hb1 : lookT L g1 = some (.bool b1)) (hg1 : Nat.blt g1 N = true) (he1 : b1 = w1)
    (hj2 : (ops[j2]?).bind (·.dst) = some g2) (hb2 : lookT L g2 = some (.bool b2)) (hg2 : Nat.blt g2 N = true) (hne : Nat.beq d1 g2 = false) (he2 : b2 = w2)
    (hx : look L x = some (.slice A n c)) (hi : look L i = some (.int ik q)) (hr : Rd w A n xs) (hq : q = (kk : Int)) (hk : kk < n) (hd1 : Nat.blt d1 N = true) (hd2 : Nat.blt d2 N = true)
    (h : ∀ p u, xs[kk]? = some u → WL P N ops Q rest ((d2, u) :: (d1, p) :: L) w) :
    WL P N ops Q (⟨some d1, .indexAddr t x i, ty1, p1, f1, some (j1, w1)⟩ :: ⟨some d2, .load e (.tmp d1), ty2, p2, f2, some (j2, w2)⟩ :: rest) L w := by
  obtain ⟨b, o, u, rfl, hu, hc⟩ := hr.at hk
  refine wl_take hj1 hb1 hg1 he1 (wl_val (opv_idx T hx hi hq hk) hd1 ?_)
  refine wl_take hj2 (b := b2) ?_ hg2 he2 (wl_val (opv_load T ?_ hc) hd2 (h _ u hu))
  · simpa [lookT, hne] using hb2
  · simp [look, lookT]
theorem wl_byT {d1 d2 j1 g1 j2 g2 : Nat} {b1 w1 b2 w2 : Bool} {x i : Operand} {ty1 ty2 : TypeId} {p1 p2 : String} {f1 f2 : Array Edge} {A : Option Addr} {n c kk : Nat} {ik : IntKind} {q : Int} {l : List UInt8} (T : Row1 P t e z bytes)
    (hj1 : (ops[j1]?).bind (·.dst) = some g1) (hb1 : lookT L g1 = some (.bool b1)) (hg1 : Nat.blt g1 N = true) (he1 : b1 = w1)
    (hj2 : (ops[j2]?).bind (·.dst) = some g2) (hb2 : lookT L g2 = some (.bool b2)) (hg2 : Nat.blt g2 N = true) (hne : Nat.beq d1 g2 = false) (he2 : b2 = w2)
    (hx : look L x = some (.slice A n c)) (hi : look L i = some (.int ik q)) (hr : Rd w A n (bvs l)) (hq : q = (kk : Int)) (hk : kk < n) (hd1 : Nat.blt d1 N = true) (hd2 : Nat.blt d2 N = true)
    (h : ∀ p b, l[kk]? = some b → WL P N ops Q rest ((d2, .int .u8 (b.toNat : Int)) :: (d1, p) :: L) w) :
    WL P N ops Q (⟨some d1, .indexAddr t x i, ty1, p1, f1, some (j1, w1)⟩ :: ⟨some d2, .load e (.tmp d1), ty2, p2, f2, some (j2, w2)⟩ :: rest) L w :=
  wl_elT T hj1 hb1 hg1 he1 hj2 hb2 hg2 hne he2 hx hi hr hq hk hd1 hd2 fun p u hu => by
    obtain ⟨b, hb, rfl⟩ := getElem?_bvs hu
    exact h p b hb

/-- A region that only reads: what stands behind it is asked in every world that extends the one ahead. -/
theorem wc_drawB {id : Nat} {l : List Oper} (hm : P.follows .mixedOrders = true) (hB : Region.lexB .any l.toArray = true)
    (h : WQ P N l.toArray (Below w.heap.size w) (QEnd N (Below w.heap.size w) Q) l L) : WC P N (.region id l.toArray true) Q L w :=
  wc_draw (Below w.heap.size w) hm hB ((Below.refl _ _).drew) h
theorem wq_el {w0 : World} {Qa : Act → Prop} {d1 d2 : Nat} {x i : Operand} {ty1 ty2 : TypeId} {p1 p2 : String} {f1 f2 : Array Edge} {A : Option Addr} {n c kk : Nat} {ik : IntKind} {q : Int} {xs : List Value} (T : Row1 P t e z bytes)
    (hx : look L x = some (.slice A n c)) (hi : look L i = some (.int ik q)) (hr : Rd w0 A n xs) (hq : q = (kk : Int)) (hk : kk < n) (hd1 : Nat.blt d1 N = true) (hd2 : Nat.blt d2 N = true)
    (h : ∀ p u, xs[kk]? = some u → WQ P N ops (Below w0.heap.size w0) Qa rest ((d2, u) :: (d1, p) :: L)) :
    WQ P N ops (Below w0.heap.size w0) Qa (⟨some d1, .indexAddr t x i, ty1, p1, f1, none⟩ :: ⟨some d2, .load e (.tmp d1), ty2, p2, f2, none⟩ :: rest) L := by
  have hn : 0 < n := by omega
  obtain ⟨b, o, rfl, hb, hc⟩ := hr.2 hn
  have hl : kk < xs.length := by have := hr.1; omega
  refine wq_val (fun w hw => opv_idx T hx hi hq hk) hd1 (wq_val (v := xs[kk]) (fun w hw => opv_load T (by simp [look, lookT]; rfl) ?_) hd2 (h _ _ (List.getElem?_eq_getElem hl)))
  rw [hw.cell (p := ⟨b, o + kk, none⟩) hb]
  exact hc kk _ (List.getElem?_eq_getElem hl)
theorem wq_by {w0 : World} {Qa : Act → Prop} {d1 d2 : Nat} {x i : Operand} {ty1 ty2 : TypeId} {p1 p2 : String} {f1 f2 : Array Edge} {A : Option Addr} {n c kk : Nat} {ik : IntKind} {q : Int} {l : List UInt8} (T : Row1 P t e z bytes)
    (hx : look L x = some (.slice A n c)) (hi : look L i = some (.int ik q)) (hr : Rd w0 A n (bvs l)) (hq : q = (kk : Int)) (hk : kk < n) (hd1 : Nat.blt d1 N = true) (hd2 : Nat.blt d2 N = true)
    (h : ∀ p b, l[kk]? = some b → WQ P N ops (Below w0.heap.size w0) Qa rest ((d2, .int .u8 (b.toNat : Int)) :: (d1, p) :: L)) :
    WQ P N ops (Below w0.heap.size w0) Qa (⟨some d1, .indexAddr t x i, ty1, p1, f1, none⟩ :: ⟨some d2, .load e (.tmp d1), ty2, p2, f2, none⟩ :: rest) L :=
  wq_el T hx hi hr hq hk hd1 hd2 fun p u hu => by
    obtain ⟨b, hb, rfl⟩ := getElem?_bvs hu
    exact h p b hb

/-- The same where the byte is known ahead. -/
theorem wl_byK {d1 d2 : Nat} {x i : Operand} {ty1 ty2 : TypeId} {p1 p2 : String} {f1 f2 : Array Edge} {A : Option Addr} {n c kk : Nat} {ik : IntKind} {q : Int} {l : List UInt8} {b : UInt8} (T : Row1 P t e z bytes)
    (hx : look L x = some (.slice A n c)) (hi : look L i = some (.int ik q)) (hr : Rd w A n (bvs l)) (hq : q = (kk : Int)) (hb : l[kk]? = some b) (hd1 : Nat.blt d1 N = true) (hd2 : Nat.blt d2 N = true)
    (h : ∀ p, WL P N ops Q rest ((d2, .int .u8 (b.toNat : Int)) :: (d1, p) :: L) w) :
    WL P N ops Q (⟨some d1, .indexAddr t x i, ty1, p1, f1, none⟩ :: ⟨some d2, .load e (.tmp d1), ty2, p2, f2, none⟩ :: rest) L w :=
  wl_by T hx hi hr hq (by have := hr.1; rw [bvs_length] at this; rw [← this]; exact (List.getElem?_eq_some_iff.1 hb).1) hd1 hd2 fun p b' hb' => by rw [hb] at hb'; cases hb'; exact h p
theorem wl_byTK {d1 d2 j1 g1 j2 g2 : Nat} {b1 w1 b2 w2 : Bool} {x i : Operand} {ty1 ty2 : TypeId} {p1 p2 : String} {f1 f2 : Array Edge} {A : Option Addr} {n c kk : Nat} {ik : IntKind} {q : Int} {l : List UInt8} {b : UInt8} (T : Row1 P t e z bytes)
    (hj1 : (ops[j1]?).bind (·.dst) = some g1) (hb1 : lookT L g1 = some (.bool b1)) (hg1 : Nat.blt g1 N = true) (he1 : b1 = w1)
    (hj2 : (ops[j2]?).bind (·.dst) = some g2) (hb2 : lookT L g2 = some (.bool b2)) (hg2 : Nat.blt g2 N = true) (hne : Nat.beq d1 g2 = false) (he2 : b2 = w2)
    (hx : look L x = some (.slice A n c)) (hi : look L i = some (.int ik q)) (hr : Rd w A n (bvs l)) (hq : q = (kk : Int)) (hb : l[kk]? = some b) (hd1 : Nat.blt d1 N = true) (hd2 : Nat.blt d2 N = true)
    (h : ∀ p, WL P N ops Q rest ((d2, .int .u8 (b.toNat : Int)) :: (d1, p) :: L) w) :
    WL P N ops Q (⟨some d1, .indexAddr t x i, ty1, p1, f1, some (j1, w1)⟩ :: ⟨some d2, .load e (.tmp d1), ty2, p2, f2, some (j2, w2)⟩ :: rest) L w :=
  wl_byT T hj1 hb1 hg1 he1 hj2 hb2 hg2 hne he2 hx hi hr hq (by have := hr.1; rw [bvs_length] at this; rw [← this]; exact (List.getElem?_eq_some_iff.1 hb).1) hd1 hd2 fun p b' hb' => by rw [hb] at hb'; cases hb'; exact h p
theorem wq_byK {w0 : World} {Qa : Act → Prop} {d1 d2 : Nat} {x i : Operand} {ty1 ty2 : TypeId} {p1 p2 : String} {f1 f2 : Array Edge} {A : Option Addr} {n c kk : Nat} {ik : IntKind} {q : Int} {l : List UInt8} {b : UInt8} (T : Row1 P t e z bytes)
    (hx : look L x = some (.slice A n c)) (hi : look L i = some (.int ik q)) (hr : Rd w0 A n (bvs l)) (hq : q = (kk : Int)) (hb : l[kk]? = some b) (hd1 : Nat.blt d1 N = true) (hd2 : Nat.blt d2 N = true)
    (h : ∀ p, WQ P N ops (Below w0.heap.size w0) Qa rest ((d2, .int .u8 (b.toNat : Int)) :: (d1, p) :: L)) :
    WQ P N ops (Below w0.heap.size w0) Qa (⟨some d1, .indexAddr t x i, ty1, p1, f1, none⟩ :: ⟨some d2, .load e (.tmp d1), ty2, p2, f2, none⟩ :: rest) L :=
  wq_by T hx hi hr hq (by have := hr.1; rw [bvs_length] at this; rw [← this]; exact (List.getElem?_eq_some_iff.1 hb).1) hd1 hd2 fun p b' hb' => by rw [hb] at hb'; cases hb'; exact h p
theorem wq_byTK {w0 : World} {Qa : Act → Prop} {d1 d2 j1 g1 j2 g2 : Nat} {b1 w1 b2 w2 : Bool} {x i : Operand} {ty1 ty2 : TypeId} {p1 p2 : String} {f1 f2 : Array Edge} {A : Option Addr} {n c kk : Nat} {ik : IntKind} {q : Int} {l : List UInt8} {b : UInt8} (T : Row1 P t e z bytes)
    (hj1 : (ops[j1]?).bind (·.dst) = some g1) (hb1 : lookT L g1 = some (.bool b1)) (hg1 : Nat.blt g1 N = true) (he1 : b1 = w1)
    (hj2 : (ops[j2]?).bind (·.dst) = some g2) (hb2 : lookT L g2 = some (.bool b2)) (hg2 : Nat.blt g2 N = true) (hne : Nat.beq d1 g2 = false) (he2 : b2 = w2)
    (hx : look L x = some (.slice A n c)) (hi : look L i = some (.int ik q)) (hr : Rd w0 A n (bvs l)) (hq : q = (kk : Int)) (hb : l[kk]? = some b) (hd1 : Nat.blt d1 N = true) (hd2 : Nat.blt d2 N = true)
    (h : ∀ p, WQ P N ops (Below w0.heap.size w0) Qa rest ((d2, .int .u8 (b.toNat : Int)) :: (d1, p) :: L)) :
    WQ P N ops (Below w0.heap.size w0) Qa (⟨some d1, .indexAddr t x i, ty1, p1, f1, some (j1, w1)⟩ :: ⟨some d2, .load e (.tmp d1), ty2, p2, f2, some (j2, w2)⟩ :: rest) L := by
  have hk : kk < n := by have := hr.1; rw [bvs_length] at this; rw [← this]; exact (List.getElem?_eq_some_iff.1 hb).1
  have hn : 0 < n := by omega
  obtain ⟨bb, o, rfl, hlt, hc⟩ := hr.2 hn
  refine wq_take hj1 hb1 hg1 he1 (wq_val (fun w hw => opv_idx T hx hi hq hk) hd1 ?_)
  refine wq_take hj2 (b := b2) ?_ hg2 he2 (wq_val (v := .int .u8 (b.toNat : Int)) (fun w hw => opv_load T (by simp [look, lookT]; rfl) ?_) hd2 (h _))
  · simpa [lookT, hne] using hb2
  · rw [hw.cell (p := ⟨bb, o + kk, none⟩) hlt]
    refine hc kk _ ?_
    simp only [bvs, List.getElem?_map, hb]; rfl

/-- A slice expression. -/
def cutA (A : Option Addr) (c l : Nat) : Option Addr := if c = l then A else A.map (·.add l)
def SLo (L : FL) : Option Operand → Nat → Prop
  | none, l => l = 0
  | some x, l => ∃ k, look L x = some (.int k (l : Int))
def SHi (L : FL) (n : Nat) : Option Operand → Nat → Prop
  | none, h => h = n
  | some x, h => ∃ k, look L x = some (.int k (h : Int))
theorem opv_slice {x : Operand} {lo hi : Option Operand} {ty : TypeId} {A : Option Addr} {n c l h : Nat} (T : Row1 P t e z bytes) (hx : look L x = some (.slice A n c)) (hl : SLo L lo l) (hh : SHi L n hi h) (h1 : l ≤ h) (h2 : h ≤ c) :
    OpV P (.slice t x lo hi none) ty L w (.slice (cutA A c l) (h - l) (c - l)) w := fun ρ o hρ ho _ => by
  have e1 : (Instr.sliceBounds true n c (lo.map ρ) (hi.map ρ) none).run P w = .ok (l, h, c) w := by
    cases lo with
    | none =>
      cases hi with
      | none => have a := hl; have b := hh; simp only [SLo, SHi] at a b; subst a b; simp [Instr.sliceBounds]
      | some y =>
        have a := hl; obtain ⟨k, b⟩ := hh; simp only [SLo] at a; subst a
        simp [Instr.sliceBounds, Instr.sliceBound, hρ y _ b, asIntOf, h2]
    | some u =>
      obtain ⟨k, a⟩ := hl
      cases hi with
      | none => have b := hh; simp only [SHi] at b; subst b; simp [Instr.sliceBounds, Instr.sliceBound, hρ u _ a, asIntOf, h1]
      | some y =>
        obtain ⟨k', b⟩ := hh
        simp [Instr.sliceBounds, Instr.sliceBound, hρ u _ a, hρ y _ b, asIntOf, h1, h2]
  unfold execOp
  simp only [ho, Instr.sliceAt, Instr.slice, Sem.run_bind, run_underlying T.sl, Result.andThen_ok, hρ x _ hx, Option.map_none, e1, T.size]
  simp [cutA]
theorem Rd.cut {A : Option Addr} {n c l h : Nat} {xs : List Value} (hr : Rd w A n xs) (h1 : l ≤ h) (h2 : h ≤ n) (hc : n ≤ c) : Rd w (cutA A c l) (h - l) ((xs.take h).drop l) := by
  refine ⟨by have := hr.1; simp; omega, fun hn => ?_⟩
  obtain ⟨b, o, rfl, hb, hcell⟩ := hr.2 (by omega)
  have hne : ¬ c = l := by omega
  refine ⟨b, o + l, by simp [cutA, hne, Addr.add_lit], hb, fun j u hu => ?_⟩
  rw [List.getElem?_drop, List.getElem?_take] at hu
  split at hu
  · rw [Nat.add_assoc]; exact hcell _ u hu
  · cases hu
theorem bvs_cut (xs : List UInt8) (l h : Nat) : ((bvs xs).take h).drop l = bvs ((xs.take h).drop l) := by simp [bvs, List.map_take, List.map_drop]
theorem wl_sl {d : Nat} {x : Operand} {lo hi : Option Operand} {ty : TypeId} {pos : String} {aft : Array Edge} {A : Option Addr} {n c l h : Nat} (T : Row1 P t e z bytes) (hx : look L x = some (.slice A n c)) (hl : SLo L lo l) (hh : SHi L n hi h) (h1 : l ≤ h) (h2 : h ≤ c)
    (hd : Nat.blt d N = true) (hK : WL P N ops Q rest ((d, .slice (cutA A c l) (h - l) (c - l)) :: L) w) :
    WL P N ops Q (⟨some d, .slice t x lo hi none, ty, pos, aft, none⟩ :: rest) L w :=
  wl_val (opv_slice T hx hl hh h1 h2) hd hK
/-- A beginning of a row of the call's own. -/
theorem Ow.pre {base : Nat} {A : Option Addr} {n c h : Nat} {xs : List Value} (ho : Ow w base e A n c xs) (hh : h ≤ n) : Ow w base e A h c (xs.take h) := by
  refine ⟨by have := ho.len; simp; omega, ?_⟩
  rcases ho.2 with ⟨hv, hn⟩ | ⟨g, cap, cur, hv, hb, hg, hnc, hm, hs, ht⟩
  · injection hv with hA hn' hc
    subst hA hc
    have : h = 0 := by omega
    subst this
    exact .inl ⟨rfl, rfl⟩
  · injection hv with hA hn' hc
    subst hA hc
    refine .inr ⟨g, c, cur, rfl, hb, hg, by omega, hm, hs, ?_⟩
    rw [← ht, List.take_take]; congr 1; omega
theorem cutA_zero (A : Option Addr) (c : Nat) : cutA A c 0 = A := by
  cases A with
  | none => simp [cutA]
  | some a => simp [cutA, Addr.add]

/-- A store into a row of the call's own. -/
theorem opu_store {x y : Operand} {ty : TypeId} {a : Addr} {u v : Value} (T : Row1 P t e z bytes) (hx : look L x = some (.pointer (some a))) (hy : look L y = some u) (h1 : u.oneCell' = true) (hc : w.cell? a = some v) (hf : w.frozen? a = false) :
    OpU P (.store e x y) ty L w (w.setCell a u) := fun ρ o hρ ho _ => by
  have hs : u.cells = #[u] := cells_one h1
  have hst : (store a u).run P w = .ok () (w.setCell a u) := by
    cases u <;> first | (simp [Value.oneCell'] at h1; done) | simp [store, Sem.run, hc, hf]
  unfold execOp
  simp only [ho, Instr.storeAt, Instr.sureAddr, hρ x _ hx, hρ y _ hy, storeVar, Sem.run_bind, Sem.run_pure, Result.andThen_ok, T.size, hs]
  have h0 : a.add 0 = a := by simp [Addr.add]
  simp [storeCells, h0, hst]
theorem wl_set {d1 : Nat} {x i y : Operand} {ty1 ty2 : TypeId} {p1 p2 : String} {f1 f2 : Array Edge} {base : Nat} {A : Option Addr} {n c kk : Nat} {ik : IntKind} {q : Int} {u : Value} {xs : List Value} (T : Row1 P t e z bytes)
    (hx : look L x = some (.slice A n c)) (hi : look L i = some (.int ik q)) (ho : Ow w base e A n c xs) (hq : q = (kk : Int)) (hk : kk < n)
    (hy : ∀ p, look ((d1, p) :: L) y = some u) (h1 : u.oneCell' = true) (hd1 : Nat.blt d1 N = true)
    (h : ∀ p w', Ow w' base e A n c (xs.set kk u) → Gr w w' A → w'.heap.size = w.heap.size → WL P N ops Q rest ((d1, p) :: L) w') :
    WL P N ops Q (⟨some d1, .indexAddr t x i, ty1, p1, f1, none⟩ :: ⟨none, .store e (.tmp d1) y, ty2, p2, f2, none⟩ :: rest) L w := by
  obtain ⟨g, cap, hv, _, hlt⟩ := World.ownsRow.form ho (by omega)
  injection hv with hA hn hc; subst hA hc
  refine wl_val (opv_idx T hx hi hq hk) hd1 ?_
  have hl : kk < xs.length := by have := ho.len; omega
  have hcell := World.ownsRow.cellAt ho kk (by omega)
  have hfr := World.ownsRow.frozenAt ho kk
  rw [List.getElem?_eq_getElem hl] at hcell
  have hst := World.ownsRow.stored ho kk u
  refine wl_unitN (opu_store T (by simp [look, lookT]; rfl) (hy _) h1 (v := xs[kk]) (by simpa using hcell) (by simpa using hfr)) ?_
  simp only [Nat.zero_add]
  exact h _ _ hst.1 hst.2 (by simp [World.setCell])
end
end Go.Proofs.Ytpnckagibkdcpaa


/-
  The engine's rules for numbers: conversions, quotients, bits, shifts; natural numbers as the values of unsigned kinds. Nothing here names the program.
-/
namespace Go.Proofs.Ytpnckagibkdcpaa
open Go.RowKit

theorem wrap_uns {k : IntKind} (hk : k.signed = false) (q : Int) : k.wrap q = q % (2 ^ k.bits : Int) := by
  simp [IntKind.wrap, hk]
theorem wrap_nat {k : IntKind} (hk : k.signed = false) (n : Nat) : k.wrap (n : Int) = ((n % 2 ^ k.bits : Nat) : Int) := by
  rw [wrap_uns hk]; simp
theorem wrap_small {k : IntKind} (hk : k.signed = false) {n : Nat} (h : n < 2 ^ k.bits) : k.wrap (n : Int) = (n : Int) := by
  rw [wrap_nat hk, Nat.mod_eq_of_lt h]
theorem ofInt_nat (b n : Nat) : BitVec.ofInt b (n : Int) = BitVec.ofNat b n := by simp

section
variable {P : Program} {L : FL} {w : World} {t ty : TypeId} {k : IntKind}

theorem OpV.to {op : Op} {w' : World} {v u : Value} (h : OpV P op ty L w v w') (e : v = u) : OpV P op ty L w u w' := e ▸ h
theorem opv_conv {src dst : TypeId} {x : Operand} {k0 : IntKind} {q : Int} {ds : TypeDesc} (hx : look L x = some (.int k0 q)) (hs : P.underlying src = some ds) (hd : P.underlying dst = some (.int k)) :
    OpV P (.convert src dst x) ty L w (.int k (k.wrap q)) w := fun ρ o hρ ho _ => by
  unfold execOp
  simp only [ho, hρ x _ hx, convert, Sem.run_bind, run_underlying hs, run_underlying hd, Result.andThen_ok, Conv.intToInt]
  simp
theorem opv_convR {src dst : TypeId} {x : Operand} {k0 : IntKind} {q r : Int} {ds : TypeDesc} (hx : look L x = some (.int k0 q)) (hs : P.underlying src = some ds) (hd : P.underlying dst = some (.int k)) (hr : k.wrap q = r) :
    OpV P (.convert src dst x) ty L w (.int k r) w := hr ▸ opv_conv hx hs hd
end

section
variable {P : Program} {t : TypeId} {k : IntKind}
theorem bin_bits (op : BinOp) (hop : op = .and ∨ op = .or ∨ op = .xor ∨ op = .andNot) {x y : Int} {r : Value} (h : ∀ w, (Op.intBits op k x y).run P w = .ok r w) : BinV P op t (.int k x) (.int k y) r := .mk fun u v w => by
  rcases hop with rfl | rfl | rfl | rfl <;> simpa [eqGuard, binOp] using h w
theorem bin_and {a b : Nat} (hk : k.signed = false) (ha : a < 2 ^ k.bits) (hb : b < 2 ^ k.bits) : BinV P .and t (.int k (a : Int)) (.int k (b : Int)) (.int k ((a &&& b : Nat) : Int)) :=
  bin_bits .and (.inl rfl) fun w => by
    have h : a &&& b < 2 ^ k.bits := Nat.lt_of_le_of_lt Nat.and_le_left ha
    simp only [Op.intBits, ofInt_nat, BitVec.toNat_and, BitVec.toNat_ofNat, Nat.mod_eq_of_lt ha, Nat.mod_eq_of_lt hb, wrap_small hk h]; rfl
theorem bin_or {a b : Nat} (hk : k.signed = false) (ha : a < 2 ^ k.bits) (hb : b < 2 ^ k.bits) : BinV P .or t (.int k (a : Int)) (.int k (b : Int)) (.int k ((a ||| b : Nat) : Int)) :=
  bin_bits .or (.inr (.inl rfl)) fun w => by
    have h : a ||| b < 2 ^ k.bits := Nat.or_lt_two_pow ha hb
    simp only [Op.intBits, ofInt_nat, BitVec.toNat_or, BitVec.toNat_ofNat, Nat.mod_eq_of_lt ha, Nat.mod_eq_of_lt hb, wrap_small hk h]; rfl
theorem bin_xor {a b : Nat} (hk : k.signed = false) (ha : a < 2 ^ k.bits) (hb : b < 2 ^ k.bits) : BinV P .xor t (.int k (a : Int)) (.int k (b : Int)) (.int k ((a ^^^ b : Nat) : Int)) :=
  bin_bits .xor (.inr (.inr (.inl rfl))) fun w => by
    have h : a ^^^ b < 2 ^ k.bits := Nat.xor_lt_two_pow ha hb
    simp only [Op.intBits, ofInt_nat, BitVec.toNat_xor, BitVec.toNat_ofNat, Nat.mod_eq_of_lt ha, Nat.mod_eq_of_lt hb, wrap_small hk h]; rfl
theorem bin_andNot {a b : Nat} (hk : k.signed = false) (ha : a < 2 ^ k.bits) (hb : b < 2 ^ k.bits) : BinV P .andNot t (.int k (a : Int)) (.int k (b : Int)) (.int k ((a &&& (2 ^ k.bits - 1 - b) : Nat) : Int)) :=
  bin_bits .andNot (.inr (.inr (.inr rfl))) fun w => by
    have h : a &&& (2 ^ k.bits - 1 - b) < 2 ^ k.bits := Nat.lt_of_le_of_lt Nat.and_le_left ha
    simp only [Op.intBits, ofInt_nat, BitVec.toNat_and, BitVec.toNat_not, BitVec.toNat_ofNat, Nat.mod_eq_of_lt ha, Nat.mod_eq_of_lt hb, wrap_small hk h]; rfl
theorem bin_shr {x y : Nat} {yk : IntKind} (hx : x < 2 ^ k.bits) : BinV P .shr t (.int k (x : Int)) (.int yk (y : Int)) (.int k ((x / 2 ^ y : Nat) : Int)) := .mk fun u v w => by
  have h : ((x : Int).fdiv (2 ^ min y k.bits)) = ((x / 2 ^ y : Nat) : Int) := by
    rw [Int.fdiv_eq_ediv_of_nonneg _ (Int.le_of_lt (Int.pow_pos (by decide)))]
    rcases Nat.le_total y k.bits with h | h
    · rw [Nat.min_eq_left h]; simp
    · rw [Nat.min_eq_right h]
      have h1 : x / 2 ^ k.bits = 0 := Nat.div_eq_of_lt hx
      have h2 : x / 2 ^ y = 0 := Nat.div_eq_of_lt (Nat.lt_of_lt_of_le hx (Nat.pow_le_pow_right (by decide) h))
      rw [h2]
      have : ((x : Int) / 2 ^ k.bits) = ((x / 2 ^ k.bits : Nat) : Int) := by simp
      rw [this, h1]
  have h0 : ¬ (y : Int) < 0 := by omega
  simp only [eqGuard, binOp, Op.shift, h0, if_false, Int.toNat_natCast, h]
  simp
theorem bin_shl {x y : Nat} {yk : IntKind} (hk : k.signed = false) : BinV P .shl t (.int k (x : Int)) (.int yk (y : Int)) (.int k ((x * 2 ^ y % 2 ^ k.bits : Nat) : Int)) := .mk fun u v w => by
  have h : k.wrap ((x : Int) * 2 ^ min y k.bits) = ((x * 2 ^ y % 2 ^ k.bits : Nat) : Int) := by
    have : ((x : Int) * 2 ^ min y k.bits) = ((x * 2 ^ min y k.bits : Nat) : Int) := by simp
    rw [this, wrap_nat hk]
    rcases Nat.le_total y k.bits with h | h
    · rw [Nat.min_eq_left h]
    · rw [Nat.min_eq_right h, Nat.mul_mod_left]
      obtain ⟨d, rfl⟩ := Nat.exists_eq_add_of_le h
      rw [Nat.pow_add, ← Nat.mul_assoc, Nat.mul_right_comm, Nat.mul_mod_left]
  have h0 : ¬ (y : Int) < 0 := by omega
  simp only [eqGuard, binOp, Op.shift, h0, if_false, Int.toNat_natCast, h]
  simp
theorem bin_addU {a b : Nat} (hk : k.signed = false) : BinV P .add t (.int k (a : Int)) (.int k (b : Int)) (.int k (((a + b) % 2 ^ k.bits : Nat) : Int)) := bin_add.to (by
  have : (a : Int) + b = ((a + b : Nat) : Int) := by simp
  rw [this, wrap_nat hk])
theorem bin_mulU {a b : Nat} (hk : k.signed = false) : BinV P .mul t (.int k (a : Int)) (.int k (b : Int)) (.int k (((a * b) % 2 ^ k.bits : Nat) : Int)) := bin_mul.to (by
  have : (a : Int) * b = ((a * b : Nat) : Int) := by simp
  rw [this, wrap_nat hk])
theorem bin_subU {a b : Nat} (hk : k.signed = false) (hb : b ≤ 2 ^ k.bits) : BinV P .sub t (.int k (a : Int)) (.int k (b : Int)) (.int k (((a + (2 ^ k.bits - b)) % 2 ^ k.bits : Nat) : Int)) := bin_sub.to (by
  have : ((a : Int) - b) % (2 ^ k.bits : Int) = (((a + (2 ^ k.bits - b)) % 2 ^ k.bits : Nat) : Int) := by
    have e : ((a + (2 ^ k.bits - b) : Nat) : Int) = (a : Int) - b + (2 ^ k.bits : Int) := by
      rw [Int.natCast_add, Int.ofNat_sub hb]; simp; omega
    rw [Int.natCast_emod, e]; simp
  rw [wrap_uns hk, this])
theorem bin_quo {a b : Nat} (hb : 0 < b) (hr : k.wrap ((a / b : Nat) : Int) = ((a / b : Nat) : Int)) : BinV P .quo t (.int k (a : Int)) (.int k (b : Int)) (.int k ((a / b : Nat) : Int)) := .mk fun u v w => by
  have h0 : ¬ (b : Int) = 0 := by omega
  have h0' : ¬ b = 0 := by omega
  have h1 : (a : Int).tdiv b = ((a / b : Nat) : Int) := by rw [Int.tdiv_eq_ediv_of_nonneg (by omega)]; simp
  simp [eqGuard, binOp, Op.intDiv, h0', h1, -Int.natCast_ediv, hr]
theorem bin_rem {a b : Nat} (hb : 0 < b) : BinV P .rem t (.int k (a : Int)) (.int k (b : Int)) (.int k ((a % b : Nat) : Int)) := .mk fun u v w => by
  have h0' : ¬ b = 0 := by omega
  have h1 : (a : Int).tmod b = ((a % b : Nat) : Int) := by rw [Int.tmod_eq_emod_of_nonneg (by omega)]; simp
  simp [eqGuard, binOp, Op.intDiv, h0', h1, -Int.natCast_emod]
theorem bin_mulN {a b : Nat} (h : a * b ≤ 9223372036854775807) : BinV P .mul t (.int .i64 (a : Int)) (.int .i64 (b : Int)) (.int .i64 ((a * b : Nat) : Int)) := (bin_mul64 (by
  have : (a : Int) * b = ((a * b : Nat) : Int) := by simp
  omega)).to (by simp)
theorem bin_addN {a b : Nat} (h : a + b ≤ 9223372036854775807) : BinV P .add t (.int .i64 (a : Int)) (.int .i64 (b : Int)) (.int .i64 ((a + b : Nat) : Int)) := (bin_add64 (by omega)).to (by simp)
theorem bin_subN {a b : Nat} (hb : b ≤ a) (h : a ≤ 9223372036854775807) : BinV P .sub t (.int .i64 (a : Int)) (.int .i64 (b : Int)) (.int .i64 ((a - b : Nat) : Int)) := (bin_sub64 (by omega)).to (by simp; omega)
theorem bin_addU' {a b : Nat} (hk : k.signed = false) (h : a + b < 2 ^ k.bits) : BinV P .add t (.int k (a : Int)) (.int k (b : Int)) (.int k ((a + b : Nat) : Int)) := (bin_addU hk).to (by rw [Nat.mod_eq_of_lt h])
theorem bin_mulU' {a b : Nat} (hk : k.signed = false) (h : a * b < 2 ^ k.bits) : BinV P .mul t (.int k (a : Int)) (.int k (b : Int)) (.int k ((a * b : Nat) : Int)) := (bin_mulU hk).to (by rw [Nat.mod_eq_of_lt h])
theorem bin_subU' {a b : Nat} (hk : k.signed = false) (hb : b ≤ a) (h : a < 2 ^ k.bits) : BinV P .sub t (.int k (a : Int)) (.int k (b : Int)) (.int k ((a - b : Nat) : Int)) := (bin_sub.to (by
  have : (a : Int) - b = ((a - b : Nat) : Int) := by omega
  rw [this, wrap_small hk (by omega)]))
theorem run_equalIn_slice (w : World) (d : Nat) {e : TypeId} (A : Option Addr) (n c : Nat) (ht : P.underlying t = some (.slice e)) : (Op.equalIn (d + 1) t (.slice A n c) (.slice none 0 0)).run P w = .ok A.isNone w := by
  cases A <;> simp [Op.equalIn, run_underlying ht]
theorem bin_eqlSliceNil {e : TypeId} {A : Option Addr} {n c : Nat} (ht : P.underlying t = some (.slice e)) : BinV P .eql t (.slice A n c) (.slice none 0 0) (.bool A.isNone) := .mk fun x y w => by
  simp only [eqGuard, binOp]
  simp [Op.equal, Op.maxDepth, run_equalIn_slice w 9999 A n c ht]
theorem bin_neqSliceNil {e : TypeId} {A : Option Addr} {n c : Nat} (ht : P.underlying t = some (.slice e)) : BinV P .neq t (.slice A n c) (.slice none 0 0) (.bool (!A.isNone)) := .mk fun x y w => by
  simp only [eqGuard, binOp]
  simp [Op.equal, Op.maxDepth, run_equalIn_slice w 9999 A n c ht]
end
end Go.Proofs.Ytpnckagibkdcpaa


/-
  The program's facts that the walks use: its slice types, and that each function has a body.
-/
namespace Go.Proofs.Ytpnckagibkdcpaa
open Go.RowKit
theorem tyB : Row1 Try.prog 24 5 (.int .u8 0) 1 := ⟨Try.underlying24, by kernel_rfl, rfl, by rw [Try.underlying5]⟩
theorem tyBB : Row1 Try.prog 77 24 (.slice none 0 0) 24 := ⟨Try.underlying77, by kernel_rfl, rfl, by rw [Try.underlying24]⟩
theorem mixed : Try.prog.follows .mixedOrders = true := by kernel_rfl

/-- Bytes in a row of the call's own. -/
abbrev OwB (w : World) (base : Nat) (A : Option Addr) (c : Nat) (xs : List UInt8) : Prop := Ow w base 5 A xs.length c (bvs xs)
/-- Bytes that can be read. -/
abbrev RdB (w : World) (A : Option Addr) (xs : List UInt8) : Prop := Rd w A xs.length (bvs xs)
theorem OwB.rd {w : World} {base c : Nat} {A : Option Addr} {xs : List UInt8} (h : OwB w base A c xs) : RdB w A xs := Ow.rd h
theorem RdB.below {w w' : World} {A : Option Addr} {xs : List UInt8} (h : RdB w A xs) (hb : Below w.heap.size w w') : RdB w' A xs := Rd.below h hb
theorem OwB.below {w w' : World} {base c : Nat} {A : Option Addr} {xs : List UInt8} (h : OwB w base A c xs) (hb : Below w.heap.size w w') : OwB w' base A c xs := Ow.below h hb (Nat.le_refl _)
theorem OwB.snoc {w : World} {base c : Nat} {A : Option Addr} {pre : List UInt8} {x : UInt8} {v : Value} (h : Ow w base 5 A (pre.length + 1) c (bvs pre ++ [v])) (hv : bv x = v) : OwB w base A c (pre ++ [x]) := by
  subst hv; simpa [OwB, bvs] using h
theorem OwB.snoc2 {w : World} {base c : Nat} {A : Option Addr} {pre : List UInt8} {x y : UInt8} {v u : Value} (h : Ow w base 5 A (pre.length + 2) c (bvs pre ++ [v, u])) (hv : bv x = v) (hu : bv y = u) : OwB w base A c (pre ++ [x, y]) := by
  subst hv hu; simpa [OwB, bvs] using h
theorem OwB.app {w : World} {base c : Nat} {A : Option Addr} {xs ys : List UInt8} (h : Ow w base 5 A (xs.length + ys.length) c (bvs xs ++ bvs ys)) : OwB w base A c (xs ++ ys) := by
  simpa [OwB, bvs] using h
theorem bvs_set (xs : List UInt8) (k : Nat) (y : UInt8) : (bvs xs).set k (bv y) = bvs (xs.set k y) := by simp [bvs, List.map_set]
theorem OwB.cap {w : World} {base c : Nat} {A : Option Addr} {xs : List UInt8} (h : OwB w base A c xs) : xs.length ≤ c := by
  rcases h.2 with ⟨hv, hn⟩ | ⟨g, cap, cur, hv, _, _, hnc, _⟩
  · omega
  · injection hv with _ _ hc; omega
/-- New bytes are handed back. -/
def RetB (w : World) (xs : List UInt8) (v : Value) (w' : World) : Prop :=
  ∃ A c, v = .slice A xs.length c ∧ OwB w' w.heap.size A c xs ∧ Below w.heap.size w w'
theorem bv_of {n : Nat} (h : n < 256) : bv (UInt8.ofNat n) = .int .u8 (n : Int) := by
  simp [bv, Nat.mod_eq_of_lt h]
theorem bv_toNat (x : UInt8) : bv x = .int .u8 (x.toNat : Int) := rfl

theorem ok_caissontop_CaissonKeys : CallOk Try.prog 3 := callOk Try.func3 (by kernel_rfl) rfl
theorem ok_caissonlaw11_MergeKeeps : CallOk Try.prog 4 := callOk Try.func4 (by kernel_rfl) rfl
theorem ok_caissonlaw11_MergeSees : CallOk Try.prog 5 := callOk Try.func5 (by kernel_rfl) rfl
theorem ok_caissonlaw11_MergeSame : CallOk Try.prog 6 := callOk Try.func6 (by kernel_rfl) rfl
theorem ok_caissonlaw11_MergeStreams : CallOk Try.prog 7 := callOk Try.func7 (by kernel_rfl) rfl
theorem ok_caissonlaw11_MergeMerges : CallOk Try.prog 8 := callOk Try.func8 (by kernel_rfl) rfl
theorem ok_caissonlaw11_MergeMemory : CallOk Try.prog 9 := callOk Try.func9 (by kernel_rfl) rfl
theorem ok_caissonref01_Equal : CallOk Try.prog 10 := callOk Try.func10 (by kernel_rfl) rfl
theorem ok_codec_OrdU : CallOk Try.prog 11 := callOk Try.func11 (by kernel_rfl) rfl
theorem ok_text_Len : CallOk Try.prog 12 := callOk Try.func12 (by kernel_rfl) rfl
theorem ok_text_Key : CallOk Try.prog 13 := callOk Try.func13 (by kernel_rfl) rfl
theorem ok_codec_OrdI : CallOk Try.prog 14 := callOk Try.func14 (by kernel_rfl) rfl
theorem ok_codec_OrdText : CallOk Try.prog 15 := callOk Try.func15 (by kernel_rfl) rfl
theorem ok_text_FromKey : CallOk Try.prog 16 := callOk Try.func16 (by kernel_rfl) rfl
theorem ok_codec_GetOrdI : CallOk Try.prog 17 := callOk Try.func17 (by kernel_rfl) rfl
theorem ok_codec_GetOrdText : CallOk Try.prog 18 := callOk Try.func18 (by kernel_rfl) rfl
theorem ok_codec_Cmp : CallOk Try.prog 19 := callOk Try.func19 (by kernel_rfl) rfl
theorem ok_caissonref01_Cmp : CallOk Try.prog 20 := callOk Try.func20 (by kernel_rfl) rfl
theorem ok_caissonlaw11_awake : CallOk Try.prog 21 := callOk Try.func21 (by kernel_rfl) rfl
theorem ok_caissonlaw11_few : CallOk Try.prog 22 := callOk Try.func22 (by kernel_rfl) rfl
theorem ok_merge_Keep : CallOk Try.prog 23 := callOk Try.func23 (by kernel_rfl) rfl
theorem ok_caissonref07_Twins : CallOk Try.prog 24 := callOk Try.func24 (by kernel_rfl) rfl
theorem ok_caissonref11_Check : CallOk Try.prog 25 := callOk Try.func25 (by kernel_rfl) rfl
theorem ok_caissonref07_SameList : CallOk Try.prog 26 := callOk Try.func26 (by kernel_rfl) rfl
theorem ok_caissonref11_Keep : CallOk Try.prog 27 := callOk Try.func27 (by kernel_rfl) rfl
theorem ok_merge_Visible : CallOk Try.prog 28 := callOk Try.func28 (by kernel_rfl) rfl
theorem ok_caissonref11_Visible : CallOk Try.prog 29 := callOk Try.func29 (by kernel_rfl) rfl
theorem ok_caissonref07_Sorted : CallOk Try.prog 30 := callOk Try.func30 (by kernel_rfl) rfl
theorem ok_merge_Stream_Next : CallOk Try.prog 31 := callOk Try.func31 (by kernel_rfl) rfl
theorem ok_merge_Stream_Seek : CallOk Try.prog 32 := callOk Try.func32 (by kernel_rfl) rfl
theorem ok_caissonlaw11_some : CallOk Try.prog 33 := callOk Try.func33 (by kernel_rfl) rfl
theorem ok_caissonlaw11_twins : CallOk Try.prog 34 := callOk Try.func34 (by kernel_rfl) rfl
theorem ok_merge_Open : CallOk Try.prog 35 := callOk Try.func35 (by kernel_rfl) rfl
theorem ok_caissonref01_Over : CallOk Try.prog 36 := callOk Try.func36 (by kernel_rfl) rfl
theorem ok_caissonref11_Merge : CallOk Try.prog 37 := callOk Try.func37 (by kernel_rfl) rfl
theorem ok_caissonref01_Copy : CallOk Try.prog 38 := callOk Try.func38 (by kernel_rfl) rfl
theorem ok_caissonref07_Same : CallOk Try.prog 39 := callOk Try.func39 (by kernel_rfl) rfl
theorem ok_merge_Merge : CallOk Try.prog 40 := callOk Try.func40 (by kernel_rfl) rfl
theorem ok_caissonref01_Apart : CallOk Try.prog 41 := callOk Try.func41 (by kernel_rfl) rfl
theorem ok_text_Fold : CallOk Try.prog 42 := callOk Try.func42 (by kernel_rfl) rfl
theorem ok_codec_GetOrdU : CallOk Try.prog 43 := callOk Try.func43 (by kernel_rfl) rfl
theorem ok_codec_inside : CallOk Try.prog 44 := callOk Try.func44 (by kernel_rfl) rfl
theorem ok_bytes_Compare : CallOk Try.prog 45 := callOk Try.func45 (by kernel_rfl) rfl
theorem ok_merge_check : CallOk Try.prog 46 := callOk Try.func46 (by kernel_rfl) rfl
theorem ok_merge_runs : CallOk Try.prog 47 := callOk Try.func47 (by kernel_rfl) rfl
theorem ok_merge_needed : CallOk Try.prog 48 := callOk Try.func48 (by kernel_rfl) rfl
theorem ok_caissonref07_Twin : CallOk Try.prog 49 := callOk Try.func49 (by kernel_rfl) rfl
theorem ok_caissonref07_Check : CallOk Try.prog 50 := callOk Try.func50 (by kernel_rfl) rfl
theorem ok_caissonref10_Ordered : CallOk Try.prog 51 := callOk Try.func51 (by kernel_rfl) rfl
theorem ok_caissonref11_need : CallOk Try.prog 52 := callOk Try.func52 (by kernel_rfl) rfl
theorem ok_merge_at : CallOk Try.prog 53 := callOk Try.func53 (by kernel_rfl) rfl
theorem ok_merge_twin : CallOk Try.prog 54 := callOk Try.func54 (by kernel_rfl) rfl
theorem ok_caissonref07_Get : CallOk Try.prog 55 := callOk Try.func55 (by kernel_rfl) rfl
theorem ok_caissonref07_In : CallOk Try.prog 56 := callOk Try.func56 (by kernel_rfl) rfl
theorem ok_caissonref07_Insert : CallOk Try.prog 57 := callOk Try.func57 (by kernel_rfl) rfl
theorem ok_merge_Stream_pop : CallOk Try.prog 58 := callOk Try.func58 (by kernel_rfl) rfl
theorem ok_mem_Less : CallOk Try.prog 59 := callOk Try.func59 (by kernel_rfl) rfl
theorem ok_bytes_Clone : CallOk Try.prog 60 := callOk Try.func60 (by kernel_rfl) rfl
theorem ok_merge_twins : CallOk Try.prog 61 := callOk Try.func61 (by kernel_rfl) rfl
theorem ok_container_heap_Init : CallOk Try.prog 62 := callOk Try.func62 (by kernel_rfl) rfl
theorem ok_caissonref01_mark : CallOk Try.prog 63 := callOk Try.func63 (by kernel_rfl) rfl
theorem ok_text_low : CallOk Try.prog 65 := callOk Try.func65 (by kernel_rfl) rfl
theorem ok_mem_Check : CallOk Try.prog 68 := callOk Try.func68 (by kernel_rfl) rfl
theorem ok_bytes_Equal : CallOk Try.prog 69 := callOk Try.func69 (by kernel_rfl) rfl
theorem ok_caissonref07_Less : CallOk Try.prog 70 := callOk Try.func70 (by kernel_rfl) rfl
theorem ok_container_heap_Pop : CallOk Try.prog 71 := callOk Try.func71 (by kernel_rfl) rfl
theorem ok_container_heap_Fix : CallOk Try.prog 72 := callOk Try.func72 (by kernel_rfl) rfl
theorem ok_mem_compare : CallOk Try.prog 73 := callOk Try.func73 (by kernel_rfl) rfl
theorem ok_container_heap_down : CallOk Try.prog 74 := callOk Try.func74 (by kernel_rfl) rfl
theorem ok_unicode_utf8_AppendRune : CallOk Try.prog 76 := callOk Try.func76 (by kernel_rfl) rfl
theorem ok_text_between : CallOk Try.prog 77 := callOk Try.func77 (by kernel_rfl) rfl
theorem ok_container_heap_up : CallOk Try.prog 78 := callOk Try.func78 (by kernel_rfl) rfl
theorem ok_unicode_utf8_appendRuneNonASCII : CallOk Try.prog 80 := callOk Try.func80 (by kernel_rfl) rfl
theorem ok_merge_sources_Len : CallOk Try.prog 97 := callOk Try.func97 (by kernel_rfl) rfl
theorem ok_merge_sources_Less : CallOk Try.prog 98 := callOk Try.func98 (by kernel_rfl) rfl
theorem ok_merge_sources_Swap : CallOk Try.prog 99 := callOk Try.func99 (by kernel_rfl) rfl
theorem ok_merge_sources_Pop : CallOk Try.prog 100 := callOk Try.func100 (by kernel_rfl) rfl
end Go.Proofs.Ytpnckagibkdcpaa


/-
  Lists of lists of bytes: read, or rows of the call's own that lie apart; and the rules to read one and to append one.
-/
namespace Go.Proofs.Ytpnckagibkdcpaa
open Go.RowKit

section
variable {P : Program} {N : Nat} {ops : Array Oper} {Q : Exit → Act → World → Prop} {rest : List Oper} {L : FL} {w : World} {t e : TypeId} {z : Value} {bytes : Nat}
theorem Rd.in_len {A : Option Addr} {n k : Nat} {xs : List Value} {u : Value} (hr : Rd w A n xs) (h : xs[k]? = some u) : k < n := by
  have := (List.getElem?_eq_some_iff.1 h).1; have := hr.1; omega
theorem wl_elK {d1 d2 : Nat} {x i : Operand} {ty1 ty2 : TypeId} {p1 p2 : String} {f1 f2 : Array Edge} {A : Option Addr} {n c kk : Nat} {ik : IntKind} {q : Int} {xs : List Value} {u : Value} (T : Row1 P t e z bytes)
    (hx : look L x = some (Value.slice A n c)) (hi : look L i = some (.int ik q)) (hr : Rd w A n xs) (hq : q = (kk : Int)) (hb : xs[kk]? = some u) (hd1 : Nat.blt d1 N = true) (hd2 : Nat.blt d2 N = true)
    (h : ∀ p, WL P N ops Q rest ((d2, u) :: (d1, p) :: L) w) :
    WL P N ops Q (⟨some d1, .indexAddr t x i, ty1, p1, f1, none⟩ :: ⟨some d2, .load e (.tmp d1), ty2, p2, f2, none⟩ :: rest) L w :=
  wl_el T hx hi hr hq (hr.in_len hb) hd1 hd2 fun p u' hu => by rw [hb] at hu; cases hu; exact h p
theorem wl_elTK {d1 d2 j1 g1 j2 g2 : Nat} {b1 w1 b2 w2 : Bool} {x i : Operand} {ty1 ty2 : TypeId} {p1 p2 : String} {f1 f2 : Array Edge} {A : Option Addr} {n c kk : Nat} {ik : IntKind} {q : Int} {xs : List Value} {u : Value} (T : Row1 P t e z bytes)
    (hj1 : (ops[j1]?).bind (·.dst) = some g1) (hb1 : lookT L g1 = some (.bool b1)) (hg1 : Nat.blt g1 N = true) (he1 : b1 = w1)
    (hj2 : (ops[j2]?).bind (·.dst) = some g2) (hb2 : lookT L g2 = some (.bool b2)) (hg2 : Nat.blt g2 N = true) (hne : Nat.beq d1 g2 = false) (he2 : b2 = w2)
    (hx : look L x = some (Value.slice A n c)) (hi : look L i = some (.int ik q)) (hr : Rd w A n xs) (hq : q = (kk : Int)) (hb : xs[kk]? = some u) (hd1 : Nat.blt d1 N = true) (hd2 : Nat.blt d2 N = true)
    (h : ∀ p, WL P N ops Q rest ((d2, u) :: (d1, p) :: L) w) :
    WL P N ops Q (⟨some d1, .indexAddr t x i, ty1, p1, f1, some (j1, w1)⟩ :: ⟨some d2, .load e (.tmp d1), ty2, p2, f2, some (j2, w2)⟩ :: rest) L w :=
  wl_elT T hj1 hb1 hg1 he1 hj2 hb2 hg2 hne he2 hx hi hr hq (hr.in_len hb) hd1 hd2 fun p u' hu => by rw [hb] at hu; cases hu; exact h p
theorem wq_elK {w0 : World} {Qa : Act → Prop} {d1 d2 : Nat} {x i : Operand} {ty1 ty2 : TypeId} {p1 p2 : String} {f1 f2 : Array Edge} {A : Option Addr} {n c kk : Nat} {ik : IntKind} {q : Int} {xs : List Value} {u : Value} (T : Row1 P t e z bytes)
    (hx : look L x = some (Value.slice A n c)) (hi : look L i = some (.int ik q)) (hr : Rd w0 A n xs) (hq : q = (kk : Int)) (hb : xs[kk]? = some u) (hd1 : Nat.blt d1 N = true) (hd2 : Nat.blt d2 N = true)
    (h : ∀ p, WQ P N ops (Below w0.heap.size w0) Qa rest ((d2, u) :: (d1, p) :: L)) :
    WQ P N ops (Below w0.heap.size w0) Qa (⟨some d1, .indexAddr t x i, ty1, p1, f1, none⟩ :: ⟨some d2, .load e (.tmp d1), ty2, p2, f2, none⟩ :: rest) L :=
  wq_el T hx hi hr hq (hr.in_len hb) hd1 hd2 fun p u' hu => by rw [hb] at hu; cases hu; exact h p
theorem wq_elTK {w0 : World} {Qa : Act → Prop} {d1 d2 j1 g1 j2 g2 : Nat} {b1 w1 b2 w2 : Bool} {x i : Operand} {ty1 ty2 : TypeId} {p1 p2 : String} {f1 f2 : Array Edge} {A : Option Addr} {n c kk : Nat} {ik : IntKind} {q : Int} {xs : List Value} {u : Value} (T : Row1 P t e z bytes)
    (hj1 : (ops[j1]?).bind (·.dst) = some g1) (hb1 : lookT L g1 = some (.bool b1)) (hg1 : Nat.blt g1 N = true) (he1 : b1 = w1)
    (hj2 : (ops[j2]?).bind (·.dst) = some g2) (hb2 : lookT L g2 = some (.bool b2)) (hg2 : Nat.blt g2 N = true) (hne : Nat.beq d1 g2 = false) (he2 : b2 = w2)
    (hx : look L x = some (Value.slice A n c)) (hi : look L i = some (.int ik q)) (hr : Rd w0 A n xs) (hq : q = (kk : Int)) (hb : xs[kk]? = some u) (hd1 : Nat.blt d1 N = true) (hd2 : Nat.blt d2 N = true)
    (h : ∀ p, WQ P N ops (Below w0.heap.size w0) Qa rest ((d2, u) :: (d1, p) :: L)) :
    WQ P N ops (Below w0.heap.size w0) Qa (⟨some d1, .indexAddr t x i, ty1, p1, f1, some (j1, w1)⟩ :: ⟨some d2, .load e (.tmp d1), ty2, p2, f2, some (j2, w2)⟩ :: rest) L := by
  obtain ⟨bb, o, rfl, hlt, hc⟩ := hr.2 (Nat.lt_of_le_of_lt (Nat.zero_le _) (hr.in_len hb))
  refine wq_take hj1 hb1 hg1 he1 (wq_val (fun w hw => opv_idx T hx hi hq (hr.in_len hb)) hd1 ?_)
  refine wq_take hj2 (b := b2) ?_ hg2 he2 (wq_val (v := u) (fun w hw => opv_load T (by simp [look, lookT]; rfl) ?_) hd2 (h _))
  · simpa [lookT, hne] using hb2
  · rw [hw.cell (p := ⟨bb, o + kk, none⟩) hlt]
    exact hc kk _ hb
end

/-- The slice reads as a list of lists of bytes. -/
def RdBB (w : World) (A : Option Addr) (rows : List (List UInt8)) : Prop :=
  ∃ vs : List Value, Rd w A rows.length vs ∧ ∀ (i : Nat) (r : List UInt8), rows[i]? = some r → ∃ (A' : Option Addr) (c' : Nat), vs[i]? = some (Value.slice A' r.length c') ∧ RdB w A' r ∧ r.length ≤ c'
/-- It is a row of the call's own, of rows of its own that all lie apart. -/
def OwBB (w : World) (base : Nat) (A : Option Addr) (c : Nat) (rows : List (List UInt8)) : Prop :=
  ∃ vs : List Value, Ow w base 24 A rows.length c vs ∧ (∀ (i : Nat) (r : List UInt8), rows[i]? = some r → ∃ (A' : Option Addr) (c' : Nat), vs[i]? = some (Value.slice A' r.length c') ∧ OwB w base A' c' r ∧ (∀ a a', A = some a → A' = some a' → a'.block ≠ a.block)) ∧
    vs.Pairwise fun v v' => ∀ g, v.ownBlock = some g → v'.ownBlock ≠ some g
def RetBB (w : World) (rows : List (List UInt8)) (v : Value) (w' : World) : Prop :=
  ∃ (A : Option Addr) (c : Nat), v = .slice A rows.length c ∧ OwBB w' w.heap.size A c rows ∧ Below w.heap.size w w'

section
variable {w w' : World} {A : Option Addr} {base c : Nat} {rows : List (List UInt8)}
theorem RdBB.below (h : RdBB w A rows) (hb : Below w.heap.size w w') : RdBB w' A rows := by
  obtain ⟨vs, hv, hr⟩ := h
  refine ⟨vs, hv.below hb, fun i r hi => ?_⟩
  obtain ⟨A', c', h1, h2, h3⟩ := hr i r hi
  exact ⟨A', c', h1, h2.below hb, h3⟩
theorem RdBB.at (h : RdBB w A rows) {k : Nat} {r : List UInt8} (hk : rows[k]? = some r) : ∃ (vs : List Value) (A' : Option Addr) (c' : Nat), Rd w A rows.length vs ∧ vs[k]? = some (Value.slice A' r.length c') ∧ RdB w A' r ∧ r.length ≤ c' := by
  obtain ⟨vs, hv, hr⟩ := h
  obtain ⟨A', c', h1, h2, h3⟩ := hr k r hk
  exact ⟨vs, A', c', hv, h1, h2, h3⟩
theorem OwBB.rd (h : OwBB w base A c rows) : RdBB w A rows := by
  obtain ⟨vs, ho, hr, _⟩ := h
  refine ⟨vs, ho.rd, fun i r hi => ?_⟩
  obtain ⟨A', c', h1, h2, _⟩ := hr i r hi
  exact ⟨A', c', h1, OwB.rd h2, h2.cap⟩
theorem OwBB.below (h : OwBB w base A c rows) (hb : Below w.heap.size w w') : OwBB w' base A c rows := by
  obtain ⟨vs, ho, hr, hs⟩ := h
  refine ⟨vs, Ow.below ho hb (Nat.le_refl _), fun i r hi => ?_, hs⟩
  obtain ⟨A', c', h1, h2, h3⟩ := hr i r hi
  exact ⟨A', c', h1, h2.below hb, h3⟩
theorem OwBB.nil (w : World) (base : Nat) : OwBB w base none 0 [] := ⟨[], Ow.nil _ _ _, by simp, List.Pairwise.nil⟩
theorem OwBB.empty (h : Ow w base 24 A 0 c []) : OwBB w base A c [] := ⟨[], h, by simp, List.Pairwise.nil⟩
theorem OwBB.mono {base' : Nat} (h : OwBB w base A c rows) (hb : base' ≤ base) : OwBB w base' A c rows := by
  obtain ⟨vs, ho, hr, hs⟩ := h
  refine ⟨vs, ho.mono hb, fun i r hi => ?_, hs⟩
  obtain ⟨A', c', h1, h2, h3⟩ := hr i r hi
  exact ⟨A', c', h1, Ow.mono h2 hb, h3⟩
theorem OwBB.cap (h : OwBB w base A c rows) : rows.length ≤ c := by
  obtain ⟨vs, h, _⟩ := h
  rcases h.2 with ⟨hv, hn⟩ | ⟨g, cap, cur, hv, _, _, hnc, _⟩
  · omega
  · injection hv with _ _ hc; omega
theorem OwBB.blocks {vs : List Value} (ho : Ow w base 24 A rows.length c vs) (hr : ∀ (i : Nat) (r : List UInt8), rows[i]? = some r → ∃ (A' : Option Addr) (c' : Nat), vs[i]? = some (Value.slice A' r.length c') ∧ OwB w base A' c' r ∧ (∀ a a', A = some a → A' = some a' → a'.block ≠ a.block)) :
    ∀ v ∈ vs, ∀ g, v.ownBlock = some g → g < w.heap.size := by
  intro v hv g hg
  obtain ⟨i, hi, rfl⟩ := List.getElem_of_mem hv
  have hl : i < rows.length := by have := ho.len; omega
  obtain ⟨A', c', h1, h2, _⟩ := hr i _ (List.getElem?_eq_getElem hl)
  rw [List.getElem?_eq_getElem hi] at h1
  simp only [Option.some.injEq] at h1
  rw [h1, ownBlock_slice] at hg
  cases A' with
  | none => simp at hg
  | some a' => have := (Ow.lt h2 a' rfl).2; simp at hg; omega
end

/-- append(rows, row): the row has been made behind the rows. -/
theorem wl_pushR {N : Nat} {ops : Array Oper} {Q : Exit → Act → World → Prop} {rest : List Oper} {L : FL} {w0 w wf : World} {d1 d2 : Nat} {s x : Operand} {ty1 ty2 : TypeId} {p1 p2 : String} {f1 f2 : Array Edge}
    {base n c c1 : Nat} {A A1 : Option Addr} {rows : List (List UInt8)} {r : List UInt8} (hown : OwBB w0 base A c rows) (hb : Below w0.heap.size w0 w) (hbase : base ≤ w0.heap.size) (hnew : OwB w w0.heap.size A1 c1 r) (hbel : Below base wf w)
    (hn : rows.length = n) (hbytes : (n + 1) * 24 ≤ 140737488355328) (hs : look L s = some (Value.slice A n c)) (hx : look L x = some (Value.slice A1 r.length c1))
    (hs1 : look ((d1, .slice (some ⟨w.heap.size, 0, none⟩) 1 1) :: L) s = some (Value.slice A n c)) (hd1 : Nat.blt d1 N = true) (hd2 : Nat.blt d2 N = true)
    (h : ∀ p A' c' w', OwBB w' base A' c' (rows ++ [r]) → Below base wf w' → WL Try.prog N ops Q rest ((d2, .slice A' (n + 1) c') :: (d1, p) :: L) w') :
    WL Try.prog N ops Q (⟨some d1, .buildSlice 77 1 #[(0, x)], ty1, p1, f1, none⟩ :: ⟨some d2, .call { callee := .builtin .append, args := #[s, .tmp d1], argTypes := #[77, 77] }, ty2, p2, f2, none⟩ :: rest) L w := by
  subst hn
  obtain ⟨vs, ho, hr, hsep⟩ := hown
  have hlt := OwBB.blocks ho hr
  have ho1 := Ow.below ho hb (Nat.le_refl _)
  have hsz := hb.size
  refine wl_push (vs := [.slice A1 r.length c1]) tyBB hs ho1 ⟨rfl, hx, rfl, trivial⟩ rfl (by decide) hs1 hbytes (by simp only [maxLen]; omega) (by omega) hd1 hd2 fun p A' c' w' ho' hg hat => ?_
  refine h p A' c' w' ⟨vs ++ [.slice A1 r.length c1], by rw [List.length_append]; exact ho', ?_, ?_⟩ ?_
  · intro i q hi
    have hlen := ho.len
    rw [List.getElem?_append] at hi
    by_cases hil : i < rows.length
    · rw [if_pos hil] at hi
      obtain ⟨A2, c2, h1, h2, h3⟩ := hr i q hi
      refine ⟨A2, c2, by rw [List.getElem?_append_left (by omega)]; exact h1, Ow.gr (base' := 0) (e' := 0) (Ow.below h2 hb (Nat.le_refl _)) hg (fun a b ha hb' => h3 _ _ hb' ha), ?_⟩
      rintro a a' rfl rfl
      have hl2 := (Ow.lt h2 a' rfl).2
      rcases hat with hat | hat
      · cases A with
        | none => simp at hat
        | some aa => simp only [Option.map_some, Option.some.injEq] at hat; rw [hat]; exact h3 aa a' rfl rfl
      · have := hat a rfl; omega
    · rw [if_neg hil] at hi
      have hi0 : i = rows.length := by
        have := (List.getElem?_eq_some_iff.1 hi).1
        simp at this; omega
      subst hi0
      simp at hi
      subst hi
      have hne : ∀ a b, A1 = some a → A = some b → a.block ≠ b.block := by
        rintro a b rfl rfl
        have := (Ow.lt hnew a rfl).1
        have := (Ow.lt ho b rfl).2
        omega
      refine ⟨A1, c1, by rw [← hlen]; simp, Ow.mono (Ow.gr (base' := 0) (e' := 0) hnew hg hne) hbase, ?_⟩
      rintro a a' rfl rfl
      have hl2 := (Ow.lt hnew a' rfl).2
      rcases hat with hat | hat
      · cases A with
        | none => simp at hat
        | some aa => simp only [Option.map_some, Option.some.injEq] at hat; rw [hat]; exact hne a' aa rfl rfl
      · have := hat a rfl; omega
  · rw [List.pairwise_append]
    refine ⟨hsep, List.pairwise_singleton _ _, fun v hv v' hv' g hg1 hg2 => ?_⟩
    simp only [List.mem_singleton] at hv'
    subst hv'
    have h1 := hlt v hv g hg1
    rw [ownBlock_slice] at hg2
    cases A1 with
    | none => simp at hg2
    | some a1 => have := (Ow.lt hnew a1 rfl).1; simp at hg2; omega
  · exact hg.below hbel ho1 (Nat.le_refl _) (by omega)
end Go.Proofs.Ytpnckagibkdcpaa


/-
  Plain laws of UTF-8: the runes of a list of bytes, and runes written as bytes. No program in sight.
-/
namespace Go.Proofs.Ytpnckagibkdcpaa

def nth (l : List UInt8) (k : Nat) : Nat := (l.getD k 0).toNat
theorem nth_lt (l : List UInt8) (k : Nat) : nth l k < 256 := UInt8.toNat_lt _
theorem nth_get {l : List UInt8} {k : Nat} {b : UInt8} (h : l[k]? = some b) : nth l k = b.toNat := by simp [nth, h]
theorem nth_drop (l : List UInt8) (i k : Nat) : nth (l.drop i) k = nth l (i + k) := by simp [nth, List.getElem?_drop]
/-- The first rune of bytes, and its width. -/
def dec (l : List UInt8) : Nat × Nat := Lib.decodeN l.length (nth l 0) (nth l 1) (nth l 2) (nth l 3)
theorem get!_list (l : List UInt8) (i : Nat) : ((⟨l.toArray⟩ : ByteArray).get! i).toNat = nth l i := by
  show ((l.toArray)[i]!).toNat = _
  simp [nth, List.getElem!_eq_getElem?_getD]; rfl
theorem decode_list (l : List UInt8) (i : Nat) : Utf8.decode ⟨l.toArray⟩ i = dec (l.drop i) := by
  rw [Lib.decode_at]
  simp only [get!_list, dec, nth_drop, List.length_drop, Nat.add_zero]
  rfl
/-- A rune that can be written. -/
def Val (c : Nat) : Prop := c < 55296 ∨ (57344 ≤ c ∧ c ≤ 1114111)
theorem dec_width {l : List UInt8} (h : l ≠ []) : 1 ≤ (dec l).2 ∧ (dec l).2 ≤ l.length ∧ (dec l).2 ≤ 4 := by
  have hl : 0 < l.length := List.length_pos_iff.2 h
  unfold dec Lib.decodeN
  repeat' split
  all_goals (dsimp only; omega)
theorem dec_val (l : List UInt8) : Val (dec l).1 := by
  have h0 := nth_lt l 0
  have h1 := nth_lt l 1
  unfold dec Lib.decodeN Val
  repeat' split
  all_goals (dsimp only; omega)
/-- All runes, each with its width. -/
def rwF : Nat → List UInt8 → List (Nat × Nat)
  | 0, _ => []
  | f + 1, l => if l.length = 0 then [] else dec l :: rwF f (l.drop (dec l).2)
def rw (l : List UInt8) : List (Nat × Nat) := rwF l.length l
def rs (l : List UInt8) : List Nat := (rw l).map (·.1)
theorem rwF_eq : ∀ (f : Nat) (l : List UInt8), l.length ≤ f → rwF f l = rw l := by
  have key : ∀ (f g : Nat) (l : List UInt8), l.length ≤ f → l.length ≤ g → rwF f l = rwF g l := by
    intro f
    induction f with
    | zero =>
      intro g l h1 h2
      cases g with
      | zero => rfl
      | succ g => simp only [rwF]; rw [if_pos (by omega)]
    | succ f ih =>
      intro g l h1 h2
      cases g with
      | zero => simp only [rwF]; rw [if_pos (by omega)]
      | succ g =>
        simp only [rwF]
        by_cases h0 : l.length = 0
        · rw [if_pos h0, if_pos h0]
        · rw [if_neg h0, if_neg h0]
          have hw := dec_width (l := l) (by intro h; rw [h] at h0; exact h0 rfl)
          rw [ih g (l.drop (dec l).2) (by simp; omega) (by simp; omega)]
  exact fun f l h => key f l.length l h (Nat.le_refl _)
theorem rw_nil : rw [] = [] := rfl
theorem rw_cons {l : List UInt8} (h : l ≠ []) : rw l = dec l :: rw (l.drop (dec l).2) := by
  have hl : 0 < l.length := List.length_pos_iff.2 h
  have hw := dec_width h
  conv => lhs; rw [rw, show l.length = (l.length - 1) + 1 by omega]
  simp only [rwF]
  rw [if_neg (by omega), rwF_eq _ _ (by simp; omega)]
theorem rs_nil : rs [] = [] := rfl
theorem rs_cons {l : List UInt8} (h : l ≠ []) : rs l = (dec l).1 :: rs (l.drop (dec l).2) := by rw [rs, rw_cons h]; rfl
theorem rw_len : ∀ (n : Nat) (l : List UInt8), l.length ≤ n → (rw l).length ≤ l.length
  | 0, l, h => by have : l = [] := List.eq_nil_of_length_eq_zero (by omega); subst this; simp [rw_nil]
  | n + 1, l, h => by
    by_cases h0 : l = []
    · subst h0; simp [rw_nil]
    · rw [rw_cons h0]
      have hw := dec_width h0
      have := rw_len n (l.drop (dec l).2) (by simp; omega)
      simp at this ⊢; omega
theorem rs_length (l : List UInt8) : (rs l).length ≤ l.length := by rw [rs, List.length_map]; exact rw_len _ l (Nat.le_refl _)
theorem rs_val : ∀ (n : Nat) (l : List UInt8), l.length ≤ n → ∀ c ∈ rs l, Val c
  | 0, l, h => by have : l = [] := List.eq_nil_of_length_eq_zero (by omega); subst this; simp [rs_nil]
  | n + 1, l, h => by
    by_cases h0 : l = []
    · subst h0; simp [rs_nil]
    · rw [rs_cons h0]
      have hw := dec_width h0
      intro c hc
      rcases List.mem_cons.1 hc with rfl | hc
      · exact dec_val l
      · exact rs_val n _ (by simp; omega) c hc
theorem drop_ne {l : List UInt8} {p : Nat} (h : p < l.length) : l.drop p ≠ [] := by
  intro h0; have := congrArg List.length h0; simp at this; omega
theorem dec_at {l : List UInt8} {p : Nat} (h : p < l.length) : 1 ≤ (dec (l.drop p)).2 ∧ p + (dec (l.drop p)).2 ≤ l.length ∧ (dec (l.drop p)).2 ≤ 4 := by
  have := dec_width (drop_ne h)
  rw [List.length_drop] at this; omega
theorem rw_step {l : List UInt8} {p : Nat} (h : p < l.length) : rw (l.drop p) = dec (l.drop p) :: rw (l.drop (p + (dec (l.drop p)).2)) := by
  rw [rw_cons (drop_ne h), List.drop_drop]
theorem rs_step {l : List UInt8} {p : Nat} (h : p < l.length) : rs (l.drop p) = (dec (l.drop p)).1 :: rs (l.drop (p + (dec (l.drop p)).2)) := by
  rw [rs, rw_step h]; rfl
theorem rw_end {l : List UInt8} {p : Nat} (h : ¬ p < l.length) : rw (l.drop p) = [] := by rw [List.drop_of_length_le (by omega)]; rfl
theorem rs_end {l : List UInt8} {p : Nat} (h : ¬ p < l.length) : rs (l.drop p) = [] := by rw [rs, rw_end h]; rfl
theorem dec_le (l : List UInt8) : (dec l).1 ≤ 1114111 := by have := dec_val l; unfold Val at this; omega
/-- The places at which runes begin. -/
def starts : Nat → List (Nat × Nat) → List Nat
  | _, [] => []
  | p, x :: r => p :: starts (p + x.2) r
def places (l : List UInt8) : List Nat := starts 0 (rw l)
theorem starts_length : ∀ (r : List (Nat × Nat)) (p : Nat), (starts p r).length = r.length
  | [], _ => rfl
  | x :: r, p => by simp [starts, starts_length r]
theorem places_length (l : List UInt8) : (places l).length = (rs l).length := by rw [places, starts_length, rs, List.length_map]
/-- The bytes of a rune. -/
def enc (c : Nat) : List UInt8 := Lib.encodeRune (c : Int)
theorem enc_one {c : Nat} (h : c ≤ 127) : enc c = [UInt8.ofNat c] := by
  rw [enc, Lib.encodeRune, Lib.encodeRuneZ_one (by omega) (by omega)]; simp
theorem enc_two {c : Nat} (h : 128 ≤ c) (h2 : c ≤ 2047) : enc c = [UInt8.ofNat (192 + c / 64), UInt8.ofNat (128 + c % 64)] := by
  rw [enc, Lib.encodeRune, Lib.encodeRuneZ_two (by omega) (by omega)]
  have e1 : ((192 : Int) + (c : Int) / 64).toNat = 192 + c / 64 := by omega
  have e2 : ((128 : Int) + (c : Int) % 64).toNat = 128 + c % 64 := by omega
  simp [e1, e2]
theorem enc_three {c : Nat} (h : (2048 ≤ c ∧ c < 55296) ∨ (57343 < c ∧ c ≤ 65535)) : enc c = [UInt8.ofNat (224 + c / 4096), UInt8.ofNat (128 + c / 64 % 64), UInt8.ofNat (128 + c % 64)] := by
  rw [enc, Lib.encodeRune, Lib.encodeRuneZ_three (by omega)]
  have e1 : ((224 : Int) + (c : Int) / 4096).toNat = 224 + c / 4096 := by omega
  have e2 : ((128 : Int) + (c : Int) / 64 % 64).toNat = 128 + c / 64 % 64 := by omega
  have e3 : ((128 : Int) + (c : Int) % 64).toNat = 128 + c % 64 := by omega
  simp [e1, e2, e3]
theorem enc_four {c : Nat} (h : 65536 ≤ c) (h2 : c ≤ 1114111) : enc c = [UInt8.ofNat (240 + c / 262144), UInt8.ofNat (128 + c / 4096 % 64), UInt8.ofNat (128 + c / 64 % 64), UInt8.ofNat (128 + c % 64)] := by
  rw [enc, Lib.encodeRune, Lib.encodeRuneZ_four (by omega) (by omega)]
  have e1 : ((240 : Int) + (c : Int) / 262144).toNat = 240 + c / 262144 := by omega
  have e2 : ((128 : Int) + (c : Int) / 4096 % 64).toNat = 128 + c / 4096 % 64 := by omega
  have e3 : ((128 : Int) + (c : Int) / 64 % 64).toNat = 128 + c / 64 % 64 := by omega
  have e4 : ((128 : Int) + (c : Int) % 64).toNat = 128 + c % 64 := by omega
  simp [e1, e2, e3, e4]
theorem val_cases {c : Nat} (h : Val c) : c ≤ 127 ∨ (128 ≤ c ∧ c ≤ 2047) ∨ ((2048 ≤ c ∧ c < 55296) ∨ (57343 < c ∧ c ≤ 65535)) ∨ (65536 ≤ c ∧ c ≤ 1114111) := by unfold Val at h; omega
theorem enc_length (c : Nat) : 1 ≤ (enc c).length ∧ (enc c).length ≤ 4 := by
  have := Lib.encodeRuneZ_length (c : Int); simpa [enc, Lib.encodeRune] using this
theorem toNat_of {n : Nat} (h : n < 256) : (UInt8.ofNat n).toNat = n := by rw [UInt8.toNat_ofNat', Nat.mod_eq_of_lt h]
theorem dec_enc {c : Nat} (h : Val c) (r : List UInt8) : dec (enc c ++ r) = (c, (enc c).length) := by
  rcases val_cases h with h1 | ⟨h1, h2⟩ | h1 | ⟨h1, h2⟩
  · rw [enc_one h1]
    simp only [dec, nth, List.cons_append, List.getD_cons_zero]
    rw [toNat_of (by omega), Lib.decodeN, if_pos (by omega)]; rfl
  · rw [enc_two h1 h2]
    simp only [dec, nth, List.cons_append, List.nil_append, List.getD_cons_zero, List.getD_cons_succ, List.length_cons]
    rw [toNat_of (by omega), toNat_of (by omega), Lib.decodeN, if_neg (by omega), if_pos (by omega), if_pos (by omega)]
    apply Prod.ext <;> simp <;> omega
  · rw [enc_three h1]
    simp only [dec, nth, List.cons_append, List.nil_append, List.getD_cons_zero, List.getD_cons_succ, List.length_cons]
    rw [toNat_of (by omega), toNat_of (by omega), toNat_of (by omega), Lib.decodeN, if_neg (by omega), if_neg (by omega), if_pos (by omega), if_pos (by omega)]
    apply Prod.ext <;> simp <;> omega
  · rw [enc_four h1 h2]
    simp only [dec, nth, List.cons_append, List.nil_append, List.getD_cons_zero, List.getD_cons_succ, List.length_cons]
    rw [toNat_of (by omega), toNat_of (by omega), toNat_of (by omega), toNat_of (by omega), Lib.decodeN, if_neg (by omega), if_neg (by omega), if_neg (by omega), if_pos (by omega), if_pos (by omega)]
    apply Prod.ext <;> simp <;> omega
/-- Bytes that begin with a rune in form. -/
def Ok (l : List UInt8) : Prop := ¬ (dec l).2 = 1 ∨ ¬ (dec l).1 = 65533
instance (l : List UInt8) : Decidable (Ok l) := by unfold Ok; infer_instance
theorem take1 {l : List UInt8} (h : 0 < l.length) : l.take 1 = [UInt8.ofNat (nth l 0)] := by
  match l, h with
  | a :: l, _ => simp [nth]
theorem take2 {l : List UInt8} (h : 1 < l.length) : l.take 2 = [UInt8.ofNat (nth l 0), UInt8.ofNat (nth l 1)] := by
  match l, h with
  | a :: b :: l, _ => simp [nth]
theorem take3 {l : List UInt8} (h : 2 < l.length) : l.take 3 = [UInt8.ofNat (nth l 0), UInt8.ofNat (nth l 1), UInt8.ofNat (nth l 2)] := by
  match l, h with
  | a :: b :: c :: l, _ => simp [nth]
theorem take4 {l : List UInt8} (h : 3 < l.length) : l.take 4 = [UInt8.ofNat (nth l 0), UInt8.ofNat (nth l 1), UInt8.ofNat (nth l 2), UInt8.ofNat (nth l 3)] := by
  match l, h with
  | a :: b :: c :: d :: l, _ => simp [nth]
theorem enc_dec {l : List UInt8} (h : l ≠ []) (ho : Ok l) : enc (dec l).1 = l.take (dec l).2 := by
  have hl : 0 < l.length := List.length_pos_iff.2 h
  have h0 := nth_lt l 0
  have h1 := nth_lt l 1
  have h2 := nth_lt l 2
  have h3 := nth_lt l 3
  unfold Ok at ho
  unfold dec Lib.decodeN at ho ⊢
  split
  · rename_i c; rw [take1 hl, enc_one (by omega)]
  rename_i c1
  rw [if_neg c1] at ho
  split
  · rename_i c2
    rw [if_pos c2] at ho
    split
    · rename_i c3
      rw [take2 c2.2.1, enc_two c3 (by omega)]
      congr 2 <;> (try congr 1) <;> omega
    · rename_i c3; rw [if_neg c3] at ho; simp at ho
  rename_i c2
  rw [if_neg c2] at ho
  split
  · rename_i c3
    rw [if_pos c3] at ho
    split
    · rename_i c4
      rw [take3 c3.2.2.1, enc_three (by omega)]
      dsimp only
      rw [show 224 + (nth l 0 % 16 * 4096 + nth l 1 % 64 * 64 + nth l 2 % 64) / 4096 = nth l 0 by omega, show 128 + (nth l 0 % 16 * 4096 + nth l 1 % 64 * 64 + nth l 2 % 64) / 64 % 64 = nth l 1 by omega, show 128 + (nth l 0 % 16 * 4096 + nth l 1 % 64 * 64 + nth l 2 % 64) % 64 = nth l 2 by omega]
    · rename_i c4; rw [if_neg c4] at ho; simp at ho
  rename_i c3
  rw [if_neg c3] at ho
  split
  · rename_i c4
    rw [if_pos c4] at ho
    split
    · rename_i c5
      rw [take4 c4.2.2.2.1, enc_four (by omega) (by omega)]
      dsimp only
      rw [show 240 + (nth l 0 % 8 * 262144 + nth l 1 % 64 * 4096 + nth l 2 % 64 * 64 + nth l 3 % 64) / 262144 = nth l 0 by omega, show 128 + (nth l 0 % 8 * 262144 + nth l 1 % 64 * 4096 + nth l 2 % 64 * 64 + nth l 3 % 64) / 4096 % 64 = nth l 1 by omega, show 128 + (nth l 0 % 8 * 262144 + nth l 1 % 64 * 4096 + nth l 2 % 64 * 64 + nth l 3 % 64) / 64 % 64 = nth l 2 by omega, show 128 + (nth l 0 % 8 * 262144 + nth l 1 % 64 * 4096 + nth l 2 % 64 * 64 + nth l 3 % 64) % 64 = nth l 3 by omega]
    · rename_i c5; rw [if_neg c5] at ho; simp at ho
  rename_i c4
  rw [if_neg c4] at ho
  simp at ho
/-- Runes written behind one another. -/
def encs (cs : List Nat) : List UInt8 := cs.flatMap enc
theorem encs_cons (c : Nat) (cs : List Nat) : encs (c :: cs) = enc c ++ encs cs := rfl
theorem encs_append (a b : List Nat) : encs (a ++ b) = encs a ++ encs b := by simp [encs]
theorem encs_length (cs : List Nat) : (encs cs).length ≤ 4 * cs.length := by
  induction cs with
  | nil => simp [encs]
  | cons c cs ih => rw [encs_cons]; have := enc_length c; simp; omega
theorem rw_encs : ∀ (cs : List Nat), (∀ c ∈ cs, Val c) → rw (encs cs) = cs.map fun c => (c, (enc c).length)
  | [], _ => rfl
  | c :: cs, h => by
    have hne : encs (c :: cs) ≠ [] := by
      intro h0
      have h1 := congrArg List.length h0
      rw [encs_cons, List.length_append, List.length_nil] at h1
      have := enc_length c
      omega
    rw [rw_cons hne, encs_cons, dec_enc (h c (by simp)) (encs cs), List.drop_left, rw_encs cs fun d hd => h d (by simp [hd])]
    rfl
theorem rs_encs {cs : List Nat} (h : ∀ c ∈ cs, Val c) : rs (encs cs) = cs := by
  rw [rs, rw_encs cs h, List.map_map]; simp [Function.comp_def]
theorem rs_all (l : List UInt8) : ∀ c ∈ rs l, Val c := rs_val _ l (Nat.le_refl _)
/-- A rune, folded. -/
def lowN (c : Nat) : Nat := if c = 215 ∨ c = 930 then c else if (65 ≤ c ∧ c ≤ 90) ∨ (192 ≤ c ∧ c ≤ 222) ∨ (913 ≤ c ∧ c ≤ 937) ∨ (1040 ≤ c ∧ c ≤ 1071) then c + 32 else c
theorem lowN_low (c : Nat) : lowN (lowN c) = lowN c := by unfold lowN; repeat' split
                                                          all_goals omega
theorem lowN_val {c : Nat} (h : Val c) : Val (lowN c) := by unfold lowN; unfold Val at h ⊢; repeat' split
                                                            all_goals omega
def foldB (l : List UInt8) : List UInt8 := encs ((rs l).map lowN)
theorem rs_fold (l : List UInt8) : rs (foldB l) = (rs l).map lowN := rs_encs fun c hc => by
  obtain ⟨d, hd, rfl⟩ := List.mem_map.1 hc
  exact lowN_val (rs_all l d hd)
theorem fold_fold (l : List UInt8) : foldB (foldB l) = foldB l := by
  rw [foldB, rs_fold, List.map_map]
  rw [foldB]; congr 1
  exact List.map_congr_left fun c _ => lowN_low c
theorem foldB_length (l : List UInt8) : (foldB l).length ≤ 4 * l.length := by
  have h1 := encs_length ((rs l).map lowN)
  have h2 := rs_length l
  rw [List.length_map] at h1
  rw [foldB]; omega
/-- The first place that isn't in form. -/
def badF : Nat → Nat → List UInt8 → Option Nat
  | 0, _, _ => none
  | f + 1, p, l => if l.length = 0 then none else if Ok l then badF f (p + (dec l).2) (l.drop (dec l).2) else some p
def bad (l : List UInt8) : Option Nat := badF l.length 0 l
theorem badF_encs : ∀ (cs : List Nat) (f p : Nat), (∀ c ∈ cs, Val c) → badF f p (encs cs) = none
  | [], f, p, _ => by cases f <;> simp [badF, encs]
  | c :: cs, 0, p, _ => rfl
  | c :: cs, f + 1, p, h => by
    have hv := h c (by simp)
    have hd := dec_enc hv (encs cs)
    have ho : Ok (encs (c :: cs)) := by
      rw [Ok, encs_cons, hd]
      by_cases hc : c = 65533
      · left; subst hc; rw [enc_three (by omega)]; simp
      · right; exact hc
    have hne : ¬ (encs (c :: cs)).length = 0 := by rw [encs_cons, List.length_append]; have := enc_length c; omega
    rw [badF, if_neg hne, if_pos ho, encs_cons, hd]
    dsimp only
    rw [List.drop_left]
    exact badF_encs cs f _ fun d hd => h d (by simp [hd])
theorem bad_fold (l : List UInt8) : bad (foldB l) = none := badF_encs _ _ _ fun c hc => by
  obtain ⟨d, hd, rfl⟩ := List.mem_map.1 hc
  exact lowN_val (rs_all l d hd)
/-- What is in form is written back as it was. -/
theorem encs_rs : ∀ (f p : Nat) (l : List UInt8), l.length ≤ f → badF f p l = none → encs (rs l) = l
  | 0, p, l, h, _ => by have : l = [] := List.eq_nil_of_length_eq_zero (by omega); subst this; rfl
  | f + 1, p, l, h, hb => by
    by_cases h0 : l = []
    · subst h0; rfl
    · have hl : 0 < l.length := List.length_pos_iff.2 h0
      rw [badF, if_neg (by omega)] at hb
      split at hb
      · rename_i ho
        have hw := dec_width h0
        rw [rs_cons h0, encs_cons, enc_dec h0 ho, encs_rs f _ _ (by simp; omega) hb, List.take_append_drop]
      · cases hb
end Go.Proofs.Ytpnckagibkdcpaa


/-
  The engine's rules for strings: length, index, a part, equality, bytes and runes made of a string and back, and a range over a string. Nothing here names the program.
-/
namespace Go.Proofs.Ytpnckagibkdcpaa
open Go.RowKit

/-- Bytes as a string of the model. -/
abbrev str (l : List UInt8) : Value := .string ⟨l.toArray⟩
section
variable {P : Program} {N : Nat} {ops : Array Oper} {Q : Exit → Act → World → Prop} {rest : List Oper} {L : FL} {w : World} {t e : TypeId}
theorem str_of (s : ByteArray) : ∃ l : List UInt8, s = ⟨l.toArray⟩ := ⟨s.data.toList, by cases s; rfl⟩
theorem size_list (l : List UInt8) : (⟨l.toArray⟩ : ByteArray).size = l.length := rfl
theorem opv_lenL {x : Operand} {ty : TypeId} {l : List UInt8} (hx : look L x = some (str l)) (ht : P.underlying t = some .string) :
    OpV P (.call { callee := .builtin .len, args := #[x], argTypes := #[t] }) ty L w (.int .i64 (l.length : Int)) w := opv_lenS hx ht
theorem opv_idxS {x i : Operand} {ty : TypeId} {l : List UInt8} {ik : IntKind} {q : Int} {kk : Nat} {b : UInt8} (ht : P.underlying t = some .string) (hx : look L x = some (str l)) (hi : look L i = some (.int ik q)) (hq : q = (kk : Int)) (hb : l[kk]? = some b) :
    OpV P (.index t x i) ty L w (.int .u8 (b.toNat : Int)) w := fun ρ o hρ ho _ => by
  subst hq
  have hg : (⟨l.toArray⟩ : ByteArray)[((kk : Int)).toNat]? = some b := by
    have hk := (List.getElem?_eq_some_iff.1 hb).1
    have hk' : kk < (⟨l.toArray⟩ : ByteArray).size := hk
    rw [Int.toNat_natCast, getElem?_pos (⟨l.toArray⟩ : ByteArray) kk hk']
    have : (⟨l.toArray⟩ : ByteArray)[kk]'hk' = l[kk] := rfl
    rw [this]; rw [List.getElem?_eq_getElem hk] at hb; exact hb
  unfold execOp
  simp only [ho, Instr.index, hρ x _ hx, hρ i _ hi, asIntOf, Sem.run_bind, Sem.run_pure, Result.andThen_ok, run_underlying ht]
  have h0 : (0 : Int) ≤ (kk : Int) := by omega
  simp only [h0, if_true, hg]
  simp
theorem extract_any (l : List UInt8) (a b : Nat) : (⟨l.toArray⟩ : ByteArray).extract a b = ⟨((l.take b).drop a).toArray⟩ := by
  apply ByteArray.ext
  rw [ByteArray.data_extract]
  simp [List.extract_eq_take_drop, List.drop_take]
theorem extract_list (l : List UInt8) (a b : Nat) (h : b ≤ l.length) : (⟨l.toArray⟩ : ByteArray).extract a b = ⟨((l.take b).drop a).toArray⟩ := by
  apply ByteArray.ext
  rw [ByteArray.data_extract]
  simp [List.extract_eq_take_drop, List.drop_take]
theorem opv_slS {x : Operand} {lo hi : Option Operand} {ty : TypeId} {l : List UInt8} {a b : Nat} (ht : P.underlying t = some .string) (hx : look L x = some (str l)) (hl : SLo L lo a) (hh : SHi L l.length hi b) (h1 : a ≤ b) (h2 : b ≤ l.length) :
    OpV P (.slice t x lo hi none) ty L w (str ((l.take b).drop a)) w := fun ρ o hρ ho _ => by
  have e1 : (Instr.sliceBounds false l.length l.length (lo.map ρ) (hi.map ρ) none).run P w = .ok (a, b, l.length) w := by
    cases lo with
    | none =>
      cases hi with
      | none => have c := hl; have d := hh; simp only [SLo, SHi] at c d; subst c d; simp [Instr.sliceBounds]
      | some y =>
        have c := hl; obtain ⟨k, d⟩ := hh; simp only [SLo] at c; subst c
        simp [Instr.sliceBounds, Instr.sliceBound, hρ y _ d, asIntOf, h2]
    | some u =>
      obtain ⟨k, c⟩ := hl
      cases hi with
      | none => have d := hh; simp only [SHi] at d; subst d; simp [Instr.sliceBounds, Instr.sliceBound, hρ u _ c, asIntOf, h1]
      | some y =>
        obtain ⟨k', d⟩ := hh
        simp [Instr.sliceBounds, Instr.sliceBound, hρ u _ c, hρ y _ d, asIntOf, h1, h2]
  unfold execOp
  simp only [ho, Instr.sliceAt, Instr.slice, Sem.run_bind, run_underlying ht, Result.andThen_ok, hρ x _ hx, Option.map_none, size_list, e1]
  simp [e1, extract_list l a b h2]
theorem toList_list (l : List UInt8) : (⟨l.toArray⟩ : ByteArray).toList = l := by rw [ByteArray.toList_eq]
theorem bin_eqlS {a b : List UInt8} : BinV P .eql t (str a) (str b) (.bool (decide (a = b))) := .mk fun x y w => by
  have e : (a == b) = decide (a = b) := by by_cases h : a = b <;> simp [h]
  simp [eqGuard, binOp, Op.stringOp, toList_list, e]
theorem bin_neqS {a b : List UInt8} : BinV P .neq t (str a) (str b) (.bool (decide (a ≠ b))) := .mk fun x y w => by
  have e : (a == b) = decide (a = b) := by by_cases h : a = b <;> simp [h]
  simp [eqGuard, binOp, Op.stringOp, toList_list, e, bne]
theorem bin_catS {a b : List UInt8} (h : a.length + b.length ≤ 9223372036854775807) : BinV P .add t (str a) (str b) (str (a ++ b)) := .mk fun x y w => by
  have h' : ¬ (((a.length + b.length : Nat) : Int) > 9223372036854775807) := by omega
  have hm : IntKind.i64.max = 9223372036854775807 := by decide
  have e : (⟨a.toArray⟩ : ByteArray) ++ ⟨b.toArray⟩ = ⟨(a ++ b).toArray⟩ := by apply ByteArray.ext; simp
  simp only [eqGuard, binOp, Op.stringOp, size_list, hm, if_neg h', e]
  simp

/-! #### Conversions -/
theorem opv_ofBytes {x : Operand} {src dst ty : TypeId} {A : Option Addr} {n c : Nat} {l : List UInt8} (hs : P.underlying src = some (.slice e)) (he : P.underlying e = some (.int .u8)) (hd : P.underlying dst = some .string) (hx : look L x = some (.slice A n c)) (hr : Rd w A n (bvs l)) :
    OpV P (.convert src dst x) ty L w (str l) w := fun ρ o hρ ho _ => by
  have hn : l.length = n := by have := hr.1; rwa [bvs_length] at this
  subst hn
  have hrun : (convert src dst (.slice A l.length c)).run P w = .ok (str l) w := by
    by_cases h0 : l.length = 0
    · have : l = [] := List.eq_nil_of_length_eq_zero h0
      subst this
      cases A with
      | none => rw [run_convert_bytes_string w src dst e _ _ _ hs he hd]; simp [Conv.bytesToString]; rfl
      | some a => exact run_convert_bytes_back w src dst e a c [] hs he hd (fun j hj => by simp at hj)
    · obtain ⟨b, o, rfl, _, hc⟩ := hr.2 (by omega)
      exact run_convert_bytes_back w src dst e _ c l hs he hd fun j hj => by
        rw [Addr.add_lit]; exact hc j _ (by rw [bvs_get _ _ hj]; rfl)
  unfold execOp
  simp only [ho, hρ x _ hx, Sem.run_bind, hrun]
  simp
/-- []byte(s): bytes that can be read. -/
theorem wl_toBytes {d : Nat} {x : Operand} {src dst ty : TypeId} {pos : String} {aft : Array Edge} {l : List UInt8} (hs : P.underlying src = some .string) (hd' : P.underlying dst = some (.slice e)) (he : P.underlying e = some (.int .u8)) (hx : look L x = some (str l)) (hd : Nat.blt d N = true)
    (h : ∀ A c w', Rd w' A l.length (bvs l) → l.length ≤ c → Below w.heap.size w w' → WL P N ops Q rest ((d, .slice A l.length c) :: L) w') :
    WL P N ops Q (⟨some d, .convert src dst x, ty, pos, aft, none⟩ :: rest) L w := by
  have hrun := run_bytes_of_string (P := P) w src dst e ⟨l.toArray⟩ hs hd' he
  refine wl_val (w' := w.drew.alloc (.cells (bytesRow ⟨l.toArray⟩ (grownCap w l.length 0 e)) e ((bytesRow ⟨l.toArray⟩ (grownCap w l.length 0 e)).size, (bytesRow ⟨l.toArray⟩ (grownCap w l.length 0 e)).size + 1))) (v := .slice (some ⟨w.heap.size, 0, none⟩) l.length (grownCap w l.length 0 e)) (fun ρ o hρ ho _ => ?_) hd (h _ _ _ ?_ (grownCap_ge w l.length 0 e) ?_)
  · unfold execOp
    simp only [ho, hρ x _ hx, Sem.run_bind]
    rw [hrun]
    simp only [Result.andThen_ok, Sem.run_pure, size_list]
  · refine ⟨bvs_length l, fun hn => ⟨w.heap.size, 0, rfl, by simp, fun j u hu => ?_⟩⟩
    have hj : j < l.length := by have := (List.getElem?_eq_some_iff.1 hu).1; rwa [bvs_length] at this
    have := World.cell?_alloc_mark w.drew (bytesRow ⟨l.toArray⟩ (grownCap w l.length 0 e)) e ((bytesRow ⟨l.toArray⟩ (grownCap w l.length 0 e)).size, (bytesRow ⟨l.toArray⟩ (grownCap w l.length 0 e)).size + 1) j
    rw [Nat.zero_add]
    refine Eq.trans this ?_
    rw [bvs_get _ _ hj] at hu
    rw [← hu]
    unfold bytesRow
    rw [Array.getElem?_append_left (by simp; exact hj)]
    simp [hj, bv]
  · exact ((Below.refl _ _).drew).alloc (by simp) _
/-- string(list of runes). -/
def runeV (c : Int) : Value := .int .i32 c
def encsZ (cs : List Int) : List UInt8 := cs.flatMap Lib.encodeRune
theorem encode_list (c : Int) : Utf8.encode c = ⟨(Lib.encodeRune c).toArray⟩ := by
  by_cases hv : Utf8.valid c = true
  · have hv' : (0 ≤ c ∧ c < 55296) ∨ (57344 ≤ c ∧ c ≤ 1114111) := by simpa [Utf8.valid] using hv
    obtain ⟨n, rfl⟩ := Int.eq_ofNat_of_zero_le (show 0 ≤ c by omega)
    have hval : Val n := by unfold Val; omega
    have e0 : Lib.encodeRune (n : Int) = enc n := rfl
    simp only [Utf8.encode, hv, if_true, Int.toNat_natCast]
    rw [e0]
    rcases val_cases hval with h1 | ⟨h1, h2⟩ | h1 | ⟨h1, h2⟩
    · rw [if_pos (by omega), enc_one h1]
    · rw [if_neg (by omega), if_pos (by omega), enc_two h1 h2]
    · rw [if_neg (by omega), if_neg (by omega), if_pos (by omega), enc_three h1]
    · rw [if_neg (by omega), if_neg (by omega), if_neg (by omega), enc_four h1 h2]
  · have hv' : ¬ ((0 ≤ c ∧ c < 55296) ∨ (57344 ≤ c ∧ c ≤ 1114111)) := by intro h; apply hv; simpa [Utf8.valid] using h
    have hb : Lib.encodeRune c = [239, 191, 189] := by
      rw [Lib.encodeRune, Lib.encodeRuneZ_bad (by omega)]; rfl
    have hf : Utf8.valid c = false := by simpa using hv
    rw [hb]
    simp [Utf8.encode, hf, Utf8.runeError]
theorem runesBytes_list (cs : List Int) : runesBytes cs = ⟨(encsZ cs).toArray⟩ := by
  have key : ∀ (cs : List Int) (a : List UInt8), cs.foldl (fun r n => r ++ Utf8.encode n) (⟨a.toArray⟩ : ByteArray) = ⟨(a ++ encsZ cs).toArray⟩ := by
    intro cs
    induction cs with
    | nil => intro a; simp [encsZ]
    | cons c cs ih =>
      intro a
      have e : (⟨a.toArray⟩ : ByteArray) ++ Utf8.encode c = ⟨(a ++ Lib.encodeRune c).toArray⟩ := by
        rw [encode_list]; apply ByteArray.ext; simp
      rw [List.foldl_cons, e, ih]
      simp [encsZ]
  have := key cs []
  rw [List.nil_append] at this
  exact this
theorem opv_ofRunes {x : Operand} {src dst ty : TypeId} {A : Option Addr} {n c : Nat} {cs : List Int} (hs : P.underlying src = some (.slice e)) (he : P.underlying e = some (.int .i32)) (hd : P.underlying dst = some .string) (hx : look L x = some (.slice A n c)) (hr : Rd w A n (cs.map runeV)) :
    OpV P (.convert src dst x) ty L w (str (encsZ cs)) w := fun ρ o hρ ho _ => by
  have hn : cs.length = n := by have := hr.1; simpa using this
  subst hn
  have hrun : (convert src dst (.slice A cs.length c)).run P w = .ok (str (encsZ cs)) w := by
    by_cases h0 : cs.length = 0
    · have : cs = [] := List.eq_nil_of_length_eq_zero h0
      subst this
      cases A with
      | none => rw [run_convert_runes_nil w src dst e _ _ hs he hd]; rfl
      | some a =>
        rw [show ([] : List Int).length = 0 from rfl, run_convert_runes w src dst e a 0 c [] (by simp) hs he hd (by simp)]; rfl
    · obtain ⟨b, o, rfl, _, hc⟩ := hr.2 (by omega)
      rw [run_convert_runes w src dst e _ cs.length c cs (Nat.le_refl _) hs he hd fun j hj => by
        rw [Addr.add_lit]
        refine hc j _ ?_
        simp [runeV, List.getD, List.getElem?_eq_getElem hj]]
      rw [List.take_of_length_le (Nat.le_refl _), runesBytes_list]
  unfold execOp
  simp only [ho, hρ x _ hx, Sem.run_bind, hrun]
  simp

/-! #### A range over a string -/
def It (w : World) (k : Nat) (l : List UInt8) (p : Nat) : Prop := w.heap[k]? = some (.stringIter ⟨l.toArray⟩ p)
theorem It.lt {k p : Nat} {l : List UInt8} (h : It w k l p) : k < w.heap.size := (Array.getElem?_eq_some_iff.1 h).1
theorem It.bel {w' : World} {k p : Nat} {l : List UInt8} (h : It w k l p) (hb : Below w.heap.size w w') : It w' k l p := (hb.block k h.lt).trans h
theorem It.ne_own {k p : Nat} {l : List UInt8} {base n c : Nat} {A : Option Addr} {xs : List Value} (h : It w k l p) (ho : Ow w base e A n c xs) : ∀ a, A = some a → a.block ≠ k := fun a ha hk => by
  rcases ho.2 with ⟨hv, _⟩ | ⟨g, cap, cur, hv, _, hg, _⟩
  · injection hv with hA; rw [ha] at hA; cases hA
  · injection hv with hA; rw [ha] at hA; cases hA
    dsimp only at hk; subst hk
    unfold It at h; rw [hg] at h; cases h
theorem It.gr {w' : World} {k p : Nat} {l : List UInt8} {base n c : Nat} {A : Option Addr} {xs : List Value} (h : It w k l p) (g : Gr w w' A) (ho : Ow w base e A n c xs) : It w' k l p :=
  (g.block k h.lt fun hk => by
    cases A with
    | none => simp at hk
    | some a => simp at hk; exact h.ne_own ho a rfl hk.symm).trans h
theorem It.gr' {w' : World} {k p : Nat} {l : List UInt8} {A : Option Addr} (h : It w k l p) (g : Gr w w' A) (hA : ∀ a, A = some a → a.block ≠ k) : It w' k l p :=
  (g.block k h.lt fun hk => by
    cases A with
    | none => simp at hk
    | some a => simp at hk; exact hA a rfl hk.symm).trans h
theorem Gr.belowI {w0 w' : World} {B g : Nat} (h : Gr w w' (some ⟨g, 0, none⟩)) (h0 : Below B w0 w) (hg : B ≤ g) (hB : B ≤ w.heap.size) : Below B w0 w' :=
  h0.grown h hB fun k hk => by simp at hk; omega
theorem ne_push {A A' B : Option Addr} (hne : ∀ a b, A = some a → B = some b → a.block ≠ b.block) (hat : A'.map (·.block) = A.map (·.block) ∨ ∀ a', A' = some a' → w.heap.size ≤ a'.block) (hB : ∀ b, B = some b → b.block < w.heap.size) :
    ∀ a b, A' = some a → B = some b → a.block ≠ b.block := fun a b ha hb => by
  rcases hat with hat | hat
  · rw [ha] at hat
    cases A with
    | none => simp at hat
    | some a0 => simp at hat; rw [hat]; exact hne a0 b rfl hb
  · have := hat a ha; have := hB b hb; omega
theorem ne_comm {A B : Option Addr} (hne : ∀ a b, A = some a → B = some b → a.block ≠ b.block) : ∀ b a, B = some b → A = some a → b.block ≠ a.block := fun b a hb ha h => hne a b ha hb h.symm
theorem wl_range {d : Nat} {x : Operand} {ty : TypeId} {pos : String} {aft : Array Edge} {l : List UInt8} (ht : P.underlying t = some .string) (hx : look L x = some (str l)) (hd : Nat.blt d N = true)
    (h : ∀ k w', w.heap.size ≤ k → It w' k l 0 → Below w.heap.size w w' → WL P N ops Q rest ((d, .pointer (some ⟨k, 0, none⟩)) :: L) w') :
    WL P N ops Q (⟨some d, .range t x, ty, pos, aft, none⟩ :: rest) L w := by
  have hrun := run_range_string (P := P) w t ⟨l.toArray⟩ ht
  refine wl_val (v := .pointer (some ⟨w.heap.size, 0, none⟩)) (w' := w.iter ⟨l.toArray⟩ 0) (fun ρ o hρ ho _ => ?_) hd (h _ _ (Nat.le_refl _) (World.iter_heap _ _ _) ((Below.refl _ _).alloc (Nat.le_refl _) _))
  unfold execOp
  simp only [ho, hρ x _ hx, Sem.run_bind, hrun]
  simp
/-- The next rune, if there is one; the world has changed at the iterator alone. -/
theorem wl_next {d : Nat} {x : Operand} {ty : TypeId} {pos : String} {aft : Array Edge} {k p : Nat} {l : List UInt8} (hx : look L x = some (.pointer (some ⟨k, 0, none⟩))) (hi : It w k l p) (hp : p < l.length) (hd : Nat.blt d N = true)
    (h : ∀ w', It w' k l (p + (dec (l.drop p)).2) → Gr w w' (some ⟨k, 0, none⟩) → w'.heap.size = w.heap.size → WL P N ops Q rest ((d, .tuple #[.bool true, .int .i64 (p : Int), .int .i32 ((dec (l.drop p)).1 : Int)]) :: L) w') :
    WL P N ops Q (⟨some d, .next x true, ty, pos, aft, none⟩ :: rest) L w := by
  have hrun := Lib.run_next_any_at (P := P) w k ⟨l.toArray⟩ p ty hi hp
  rw [decode_list] at hrun
  refine wl_val (v := _) (w' := _) (fun ρ o hρ ho hty => ?_) hd (h _ (Lib.iterAt_heap w k _ _ _ hi) ⟨rfl, rfl, rfl, by rw [Lib.iterAt_size]; exact Nat.le_refl _, fun j _ hj => Lib.iterAt_other _ _ _ _ _ (by simpa using hj)⟩ (Lib.iterAt_size _ _ _ _))
  unfold execOp
  simp only [ho, hty, hρ x _ hx, Sem.run_bind, hrun]
  simp
theorem wl_nextE {d : Nat} {x : Operand} {ty : TypeId} {pos : String} {aft : Array Edge} {k p : Nat} {l : List UInt8} (hx : look L x = some (.pointer (some ⟨k, 0, none⟩))) (hi : It w k l p) (hp : ¬ p < l.length) (hd : Nat.blt d N = true)
    (h : WL P N ops Q rest ((d, .tuple #[.bool false]) :: L) w) :
    WL P N ops Q (⟨some d, .next x true, ty, pos, aft, none⟩ :: rest) L w := by
  have hrun := Lib.run_next_end_at (P := P) w k ⟨l.toArray⟩ p ty hi hp
  refine wl_val (v := _) (w' := w) (fun ρ o hρ ho hty => ?_) hd h
  unfold execOp
  simp only [ho, hty, hρ x _ hx, Sem.run_bind, hrun]
  simp
end
end Go.Proofs.Ytpnckagibkdcpaa


/-
  The types of the seat of texts and cells, and small rules for numbers.
-/
namespace Go.Proofs.Ytpnckagibkdcpaa
open Go.RowKit
theorem tyT : Row1 Try.prog 111 4 (.bool false) 1 := ⟨Try.underlying111, by kernel_rfl, rfl, by rw [Try.underlying4]⟩
theorem tyBool : Try.prog.underlying 4 = some .bool := Try.underlying4
theorem tyStr : Try.prog.underlying 9 = some .string := Try.underlying9
section
variable {P : Program} {t : TypeId} {a b : Int}
theorem bin_add32 (h : -2147483648 ≤ a + b ∧ a + b ≤ 2147483647) : BinV P .add t (.int .i32 a) (.int .i32 b) (.int .i32 (a + b)) := bin_add.to (by rw [IntWalk.i32_in _ h])
theorem bin_sub32 (h : -2147483648 ≤ a - b ∧ a - b ≤ 2147483647) : BinV P .sub t (.int .i32 a) (.int .i32 b) (.int .i32 (a - b)) := bin_sub.to (by rw [IntWalk.i32_in _ h])
theorem run_equalIn_bool (w : World) (d : Nat) (p q : Bool) (ht : P.underlying t = some .bool) : (Op.equalIn (d + 1) t (.bool p) (.bool q)).run P w = .ok (decide (p = q)) w := by
  unfold Op.equalIn
  rw [Sem.run_bind, run_underlying ht]
  cases p <;> cases q <;> rfl
theorem bin_eqlB {p q : Bool} (ht : P.underlying t = some .bool) : BinV P .eql t (.bool p) (.bool q) (.bool (decide (p = q))) := .mk fun x y w => by
  have h := run_equalIn_bool w 9999 p q ht
  simp [eqGuard, binOp, Op.equal, Op.maxDepth, h]
theorem bin_neqB {p q : Bool} (ht : P.underlying t = some .bool) : BinV P .neq t (.bool p) (.bool q) (.bool (decide (p ≠ q))) := .mk fun x y w => by
  have h := run_equalIn_bool w 9999 p q ht
  simp [eqGuard, binOp, Op.equal, Op.maxDepth, h]
end
end Go.Proofs.Ytpnckagibkdcpaa


/-
  Walks over the small functions on runes: between, low, and the reference's wide, First, Low.
-/
namespace Go.Proofs.Ytpnckagibkdcpaa
open Go.RowKit

theorem between_any (c lo hi : Int) (w : World) : CallsV Try.prog 77 #[.int .i32 c, .int .i32 lo, .int .i32 hi] w fun v w' => v = .bool (decide (lo ≤ c ∧ c ≤ hi)) ∧ w = w' := by
  refine calls_in (N := _) Try.func77 rfl Try.ntmps77 rfl ?_; show WC _ _ _ _ _ _
  refine wc_sr ?_; refine wl_as rfl rfl ?_; refine wl_ns ?_; refine wc_sr ?_; refine wl_mv rfl rfl ?_; refine wl_mv rfl rfl ?_; refine wl_bin rfl rfl bin_leq rfl ?_; refine wl_mv rfl rfl ?_
  refine wl_cutV 4 14 (.bool (decide ((lo ≤ c) ∧ (c ≤ hi)))) ?c1 ?_; (case c1 => (dsimp only [List.take]; by_cases hc0 : (lo ≤ c); (focus (apply wl_take; exact rfl; exact rfl; exact rfl; refine bT ?_; (with_reducible assumption); refine wl_mv rfl rfl ?_; apply wl_take; exact rfl; exact rfl; exact rfl; refine bT ?_; (with_reducible assumption); refine wl_mv rfl rfl ?_; apply wl_take; exact rfl; exact rfl; exact rfl; refine bT ?_; (with_reducible assumption); refine wl_bin rfl rfl bin_leq rfl ?_; apply wl_val; apply opv_pickT; exact rfl; refine bT ?_; (with_reducible assumption); exact rfl; exact rfl; refine wl_nil ?_; refine we_cut _ ⟨rfl, rfl⟩ ⟨congrArg (fun b => some (Value.bool b)) ?e1_0, ?s1_0⟩; (case e1_0 => ((simp [hc0]; done))); (case s1_0 => (refine And.intro rfl ?_; refine And.intro rfl ?_; refine And.intro rfl ?_; refine And.intro rfl ?_; refine And.intro rfl ?_; refine And.intro rfl ?_; refine And.intro rfl ?_; refine And.intro rfl ?_; exact True.intro)))); (focus (apply wl_skip; exact rfl; exact rfl; exact rfl; refine bFn ?_; (with_reducible assumption); exact rfl; apply wl_skip; exact rfl; exact rfl; exact rfl; refine bFn ?_; (with_reducible assumption); exact rfl; apply wl_skip; exact rfl; exact rfl; exact rfl; refine bFn ?_; (with_reducible assumption); exact rfl; apply wl_val; apply opv_pickF; exact rfl; refine bF ?_; (with_reducible assumption); exact rfl; exact rfl; refine wl_nil ?_; refine we_cut _ ⟨rfl, rfl⟩ ⟨congrArg (fun b => some (Value.bool b)) ?e1_1, ?s1_1⟩; (case e1_1 => ((simp [hc0]; done))); (case s1_1 => (refine And.intro rfl ?_; refine And.intro rfl ?_; refine And.intro rfl ?_; refine And.intro rfl ?_; refine And.intro rfl ?_; refine And.intro rfl ?_; refine And.intro rfl ?_; refine And.intro rfl ?_; exact True.intro)))))); dsimp only [List.drop]
  refine wl_as rfl rfl ?_; refine wl_ns ?_; refine wc_ret ?_
  exact we_ret1 rfl rfl ⟨_, rfl, rfl, rfl⟩
theorem lowN_same {c : Nat} (h : c = 215 ∨ c = 930) : lowN c = c := by rw [lowN, if_pos h]
theorem lowN_up {c : Nat} (h : ¬ (c = 215 ∨ c = 930)) (h2 : (65 ≤ c ∧ c ≤ 90) ∨ (192 ≤ c ∧ c ≤ 222) ∨ (913 ≤ c ∧ c ≤ 937) ∨ (1040 ≤ c ∧ c ≤ 1071)) : lowN c = c + 32 := by rw [lowN, if_neg h, if_pos h2]
theorem lowN_not {c : Nat} (h2 : ¬ ((65 ≤ c ∧ c ≤ 90) ∨ (192 ≤ c ∧ c ≤ 222) ∨ (913 ≤ c ∧ c ≤ 937) ∨ (1040 ≤ c ∧ c ≤ 1071))) : lowN c = c := by unfold lowN; rw [if_neg h2]; split <;> rfl
theorem low_any (c : Nat) (hc : c ≤ 1114111) (w : World) : CallsV Try.prog 65 #[.int .i32 (c : Int)] w fun v w' => v = .int .i32 (lowN c : Int) ∧ w = w' := by
  refine calls_in (N := _) Try.func65 rfl Try.ntmps65 rfl ?_; show WC _ _ _ _ _ _
  refine wc_sr ?_; refine wl_as rfl rfl ?_; refine wl_ns ?_; refine wc_seq ?_; refine wc_block ?_; refine wc_sr ?_; refine wl_mv rfl rfl ?_; refine wl_bin rfl rfl bin_eql rfl ?_; refine wl_mv rfl rfl ?_
  refine wl_cutV 3 9 (.bool (decide (((c : Int) = 215) ∨ ((c : Int) = 930)))) ?c9 ?_; (case c9 => (dsimp only [List.take]; by_cases hc0 : ((c : Int) = 215); (focus (apply wl_skip; exact rfl; exact rfl; exact rfl; refine bTn ?_; (with_reducible assumption); exact rfl; apply wl_skip; exact rfl; exact rfl; exact rfl; refine bTn ?_; (with_reducible assumption); exact rfl; apply wl_val; apply opv_pickT; exact rfl; refine bT ?_; (with_reducible assumption); exact rfl; exact rfl; refine wl_nil ?_; refine we_cut _ ⟨rfl, rfl⟩ ⟨congrArg (fun b => some (Value.bool b)) ?e9_0, ?s9_0⟩; (case e9_0 => ((simp [hc0]; done))); (case s9_0 => (refine And.intro rfl ?_; refine And.intro rfl ?_; refine And.intro rfl ?_; refine And.intro rfl ?_; refine And.intro rfl ?_; exact True.intro)))); (focus (apply wl_take; exact rfl; exact rfl; exact rfl; refine bF ?_; (with_reducible assumption); refine wl_mv rfl rfl ?_; apply wl_take; exact rfl; exact rfl; exact rfl; refine bF ?_; (with_reducible assumption); refine wl_bin rfl rfl bin_eql rfl ?_; apply wl_val; apply opv_pickF; exact rfl; refine bF ?_; (with_reducible assumption); exact rfl; exact rfl; refine wl_nil ?_; refine we_cut _ ⟨rfl, rfl⟩ ⟨congrArg (fun b => some (Value.bool b)) ?e9_1, ?s9_1⟩; (case e9_1 => ((simp [hc0]; done))); (case s9_1 => (refine And.intro rfl ?_; refine And.intro rfl ?_; refine And.intro rfl ?_; refine And.intro rfl ?_; refine And.intro rfl ?_; exact True.intro)))))); dsimp only [List.drop]
  refine wl_as rfl rfl ?_; refine wl_ns ?_
  refine wc_cond rfl (fun h => ?_) (fun h => ?_)
  · refine wc_sr ?_; refine wl_mv rfl rfl ?_; refine wl_as rfl rfl ?_; refine wl_ns ?_; refine wc_ret ?_; refine we_block_ret ?_; refine we_seq_ret ?_
    exact we_ret1 rfl rfl ⟨_, rfl, by rw [lowN_same (by omega)], rfl⟩
  have h' : ¬ (c = 215 ∨ c = 930) := by omega
  refine wc_seq ?_; refine wc_sr ?_; refine wl_mv rfl rfl ?_; apply wl_callX (vs := [_, _, _]) ok_text_between; exact ⟨rfl, rfl, rfl, trivial⟩; exact rfl; exact between_any _ _ _ _; rintro _ _ ⟨rfl, rfl⟩; refine wl_as rfl rfl ?_; refine wl_ns ?_
  refine wc_cond rfl (fun h1 => ?_) (fun h1 => ?_)
  · refine wc_skip ?_; refine we_seq ?_; apply wc_decT; exact rfl; (with_reducible assumption); refine wc_sr ?_; refine wl_mv rfl rfl ?_; apply wl_val; apply opv_bin; exact rfl; exact rfl; exact bin_add32 (by omega); exact rfl; refine wl_as rfl rfl ?_; refine wl_ns ?_; refine wc_ret ?_; refine we_block_ret ?_; refine we_seq_ret ?_
    exact we_ret1 rfl rfl ⟨_, rfl, by rw [lowN_up h' (by omega)]; rfl, rfl⟩
  refine wc_sr ?_; refine wl_mv rfl rfl ?_; apply wl_callX (vs := [_, _, _]) ok_text_between; exact ⟨rfl, rfl, rfl, trivial⟩; exact rfl; exact between_any _ _ _ _; rintro _ _ ⟨rfl, rfl⟩; refine wl_as rfl rfl ?_; refine wl_ns ?_
  refine wc_cond rfl (fun h2 => ?_) (fun h2 => ?_)
  · refine wc_skip ?_; refine we_seq ?_; apply wc_decT; exact rfl; (with_reducible assumption); refine wc_sr ?_; refine wl_mv rfl rfl ?_; apply wl_val; apply opv_bin; exact rfl; exact rfl; exact bin_add32 (by omega); exact rfl; refine wl_as rfl rfl ?_; refine wl_ns ?_; refine wc_ret ?_; refine we_block_ret ?_; refine we_seq_ret ?_
    exact we_ret1 rfl rfl ⟨_, rfl, by rw [lowN_up h' (by omega)]; rfl, rfl⟩
  refine wc_sr ?_; refine wl_mv rfl rfl ?_; apply wl_callX (vs := [_, _, _]) ok_text_between; exact ⟨rfl, rfl, rfl, trivial⟩; exact rfl; exact between_any _ _ _ _; rintro _ _ ⟨rfl, rfl⟩; refine wl_as rfl rfl ?_; refine wl_ns ?_
  refine wc_cond rfl (fun h3 => ?_) (fun h3 => ?_)
  · refine wc_skip ?_; refine we_seq ?_; apply wc_decT; exact rfl; (with_reducible assumption); refine wc_sr ?_; refine wl_mv rfl rfl ?_; apply wl_val; apply opv_bin; exact rfl; exact rfl; exact bin_add32 (by omega); exact rfl; refine wl_as rfl rfl ?_; refine wl_ns ?_; refine wc_ret ?_; refine we_block_ret ?_; refine we_seq_ret ?_
    exact we_ret1 rfl rfl ⟨_, rfl, by rw [lowN_up h' (by omega)]; rfl, rfl⟩
  refine wc_region ?_; refine wl_mv rfl rfl ?_; apply wl_callX (vs := [_, _, _]) ok_text_between; exact ⟨rfl, rfl, rfl, trivial⟩; exact rfl; exact between_any _ _ _ _; rintro _ _ ⟨rfl, rfl⟩; refine wl_as rfl rfl ?_; refine wl_ns ?_
  refine wc_cond rfl (fun h4 => ?_) (fun h4 => ?_)
  · refine wc_sr ?_; refine wl_mv rfl rfl ?_; apply wl_val; apply opv_bin; exact rfl; exact rfl; exact bin_add32 (by omega); exact rfl; refine wl_as rfl rfl ?_; refine wl_ns ?_; refine wc_ret ?_; refine we_block_ret ?_; refine we_seq_ret ?_
    exact we_ret1 rfl rfl ⟨_, rfl, by rw [lowN_up h' (by omega)]; rfl, rfl⟩
  refine wc_skip ?_; refine we_block_norm ?_; refine we_seq ?_; refine wc_sr ?_; refine wl_mv rfl rfl ?_; refine wl_as rfl rfl ?_; refine wl_ns ?_; refine wc_ret ?_
  exact we_ret1 rfl rfl ⟨_, rfl, by rw [lowN_not (by omega)], rfl⟩
/-- How many bytes follow a first byte, and what it says. -/
def wide1 (b : Nat) : Int := if b < 128 then 0 else if 194 ≤ b ∧ b ≤ 223 then 1 else if 224 ≤ b ∧ b ≤ 239 then 2 else if 240 ≤ b ∧ b ≤ 244 then 3 else -1
def wide2 (b : Nat) : Int := if b < 128 then b else if 194 ≤ b ∧ b ≤ 223 then (b : Int) - 192 else if 224 ≤ b ∧ b ≤ 239 then (b : Int) - 224 else if 240 ≤ b ∧ b ≤ 244 then (b : Int) - 240 else 0
end Go.Proofs.Ytpnckagibkdcpaa


/-
  Walks over the reference's First and Runes.
-/
namespace Go.Proofs.Ytpnckagibkdcpaa
open Go.RowKit

def accN (c0 : Nat) (x : List UInt8) : Nat → Nat
  | 0 => c0
  | k + 1 => accN c0 x k * 64 + (nth x (k + 1) - 128)
theorem dec_none {x : List UInt8} (h : wide1 (nth x 0) < 0) : dec x = (65533, 1) := by
  unfold wide1 at h
  unfold dec Lib.decodeN
  have h0 := nth_lt x 0
  repeat' split at h
  all_goals first | omega | skip
  repeat' split
  all_goals first | rfl | omega
theorem wide_cases (b : Nat) : wide1 b < 0 ∨ ∃ n c0 : Nat, wide1 b = n ∧ wide2 b = c0 ∧ n ≤ 3 ∧ c0 < 128 ∧ ((n = 0 ∧ b < 128 ∧ c0 = b) ∨ (n = 1 ∧ 194 ≤ b ∧ b ≤ 223 ∧ c0 = b - 192) ∨ (n = 2 ∧ 224 ≤ b ∧ b ≤ 239 ∧ c0 = b - 224) ∨ (n = 3 ∧ 240 ≤ b ∧ b ≤ 244 ∧ c0 = b - 240)) := by
  unfold wide1 wide2
  by_cases h1 : b < 128
  · right; exact ⟨0, b, by rw [if_pos h1]; rfl, by rw [if_pos h1], by omega, by omega, .inl ⟨rfl, h1, rfl⟩⟩
  · by_cases h2 : 194 ≤ b ∧ b ≤ 223
    · right; exact ⟨1, b - 192, by rw [if_neg h1, if_pos h2]; rfl, by rw [if_neg h1, if_pos h2]; omega, by omega, by omega, by omega⟩
    · by_cases h3 : 224 ≤ b ∧ b ≤ 239
      · right; exact ⟨2, b - 224, by rw [if_neg h1, if_neg h2, if_pos h3]; rfl, by rw [if_neg h1, if_neg h2, if_pos h3]; omega, by omega, by omega, by omega⟩
      · by_cases h4 : 240 ≤ b ∧ b ≤ 244
        · right; exact ⟨3, b - 240, by rw [if_neg h1, if_neg h2, if_neg h3, if_pos h4]; rfl, by rw [if_neg h1, if_neg h2, if_neg h3, if_pos h4]; omega, by omega, by omega, by omega⟩
        · left; rw [if_neg h1, if_neg h2, if_neg h3, if_neg h4]; decide
/-- What follows a first byte isn't what it should be. -/
theorem dec_short {x : List UInt8} {n c0 : Nat} (h : (n = 0 ∧ nth x 0 < 128 ∧ c0 = nth x 0) ∨ (n = 1 ∧ 194 ≤ nth x 0 ∧ nth x 0 ≤ 223 ∧ c0 = nth x 0 - 192) ∨ (n = 2 ∧ 224 ≤ nth x 0 ∧ nth x 0 ≤ 239 ∧ c0 = nth x 0 - 224) ∨ (n = 3 ∧ 240 ≤ nth x 0 ∧ nth x 0 ≤ 244 ∧ c0 = nth x 0 - 240))
    (hb : (0 < n ∧ x.length ≤ n) ∨ ∃ j, 1 ≤ j ∧ j ≤ n ∧ (nth x j < 128 ∨ 191 < nth x j)) : dec x = (65533, 1) := by
  have h1 := nth_lt x 1
  have h2 := nth_lt x 2
  have h3 := nth_lt x 3
  have hb' : (0 < n ∧ x.length ≤ n) ∨ (1 ≤ n ∧ (nth x 1 < 128 ∨ 191 < nth x 1)) ∨ (2 ≤ n ∧ (nth x 2 < 128 ∨ 191 < nth x 2)) ∨ (3 ≤ n ∧ (nth x 3 < 128 ∨ 191 < nth x 3)) := by
    rcases hb with hb | ⟨j, h1, h2, h3⟩
    · exact .inl hb
    · have : j = 1 ∨ j = 2 ∨ j = 3 := by omega
      rcases this with rfl | rfl | rfl
      · exact .inr (.inl ⟨h2, h3⟩)
      · exact .inr (.inr (.inl ⟨h2, h3⟩))
      · exact .inr (.inr (.inr ⟨h2, h3⟩))
  clear hb
  unfold dec Lib.decodeN
  repeat' split
  all_goals first | rfl | omega
def badC (n c : Nat) : Prop := (n = 2 ∧ (c < 2048 ∨ (55296 ≤ c ∧ c ≤ 57343))) ∨ (n = 3 ∧ (c < 65536 ∨ 1114111 < c))
set_option maxRecDepth 10000 in
theorem dec_whole {x : List UInt8} {n c0 : Nat} (h : (n = 0 ∧ nth x 0 < 128 ∧ c0 = nth x 0) ∨ (n = 1 ∧ 194 ≤ nth x 0 ∧ nth x 0 ≤ 223 ∧ c0 = nth x 0 - 192) ∨ (n = 2 ∧ 224 ≤ nth x 0 ∧ nth x 0 ≤ 239 ∧ c0 = nth x 0 - 224) ∨ (n = 3 ∧ 240 ≤ nth x 0 ∧ nth x 0 ≤ 244 ∧ c0 = nth x 0 - 240))
    (hl : n < x.length) (hj : ∀ j, 1 ≤ j → j ≤ n → 128 ≤ nth x j ∧ nth x j ≤ 191) : (badC n (accN c0 x n) → dec x = (65533, 1)) ∧ (¬ badC n (accN c0 x n) → dec x = (accN c0 x n, n + 1) ∧ Ok x) := by
  unfold badC Ok
  rcases h with ⟨rfl, h1, rfl⟩ | ⟨rfl, h1, h2, rfl⟩ | ⟨rfl, h1, h2, rfl⟩ | ⟨rfl, h1, h2, rfl⟩
  · have e : dec x = (nth x 0, 1) := by rw [dec, Lib.decodeN, if_pos h1]
    rw [e, show accN (nth x 0) x 0 = nth x 0 from rfl]
    exact ⟨fun h => by omega, fun _ => ⟨rfl, .inr (show ¬ nth x 0 = 65533 by omega)⟩⟩
  · have a1 := hj 1 (by omega) (by omega)
    have e : dec x = ((nth x 0 - 192) * 64 + (nth x 1 - 128), 2) := by
      rw [dec, Lib.decodeN, if_neg (by omega), if_pos (by omega), if_pos (by omega)]
      apply Prod.ext
      · show nth x 0 % 32 * 64 + nth x 1 % 64 = _; omega
      · rfl
    rw [e, show accN (nth x 0 - 192) x 1 = (nth x 0 - 192) * 64 + (nth x 1 - 128) from rfl]
    exact ⟨fun h => by omega, fun _ => ⟨rfl, .inl (show ¬ (2 = 1) by omega)⟩⟩
  · have a1 := hj 1 (by omega) (by omega)
    have a2 := hj 2 (by omega) (by omega)
    have e0 : nth x 0 % 16 * 4096 + nth x 1 % 64 * 64 + nth x 2 % 64 = ((nth x 0 - 224) * 64 + (nth x 1 - 128)) * 64 + (nth x 2 - 128) := by omega
    rw [show accN (nth x 0 - 224) x 2 = ((nth x 0 - 224) * 64 + (nth x 1 - 128)) * 64 + (nth x 2 - 128) from rfl]
    refine ⟨fun h => ?_, fun h => ?_⟩
    · rw [dec, Lib.decodeN, if_neg (by omega), if_neg (by omega), if_pos (by omega), if_neg (by omega)]
    · have e : dec x = (((nth x 0 - 224) * 64 + (nth x 1 - 128)) * 64 + (nth x 2 - 128), 3) := by
        rw [dec, Lib.decodeN, if_neg (by omega), if_neg (by omega), if_pos (by omega), if_pos (by omega), e0]
      rw [e]; exact ⟨rfl, .inl (show ¬ (3 = 1) by omega)⟩
  · have a1 := hj 1 (by omega) (by omega)
    have a2 := hj 2 (by omega) (by omega)
    have a3 := hj 3 (by omega) (by omega)
    have e0 : nth x 0 % 8 * 262144 + nth x 1 % 64 * 4096 + nth x 2 % 64 * 64 + nth x 3 % 64 = (((nth x 0 - 240) * 64 + (nth x 1 - 128)) * 64 + (nth x 2 - 128)) * 64 + (nth x 3 - 128) := by omega
    rw [show accN (nth x 0 - 240) x 3 = (((nth x 0 - 240) * 64 + (nth x 1 - 128)) * 64 + (nth x 2 - 128)) * 64 + (nth x 3 - 128) from rfl]
    refine ⟨fun h => ?_, fun h => ?_⟩
    · rw [dec, Lib.decodeN, if_neg (by omega), if_neg (by omega), if_neg (by omega), if_pos (by omega), if_neg (by omega)]
    · have e : dec x = ((((nth x 0 - 240) * 64 + (nth x 1 - 128)) * 64 + (nth x 2 - 128)) * 64 + (nth x 3 - 128), 4) := by
        rw [dec, Lib.decodeN, if_neg (by omega), if_neg (by omega), if_neg (by omega), if_pos (by omega), if_pos (by omega), e0]
      rw [e]; exact ⟨rfl, .inl (show ¬ (4 = 1) by omega)⟩
theorem acc_lt {c0 : Nat} {x : List UInt8} (h0 : c0 < 128) : ∀ k, (∀ j, 1 ≤ j → j ≤ k → nth x j ≤ 191) → accN c0 x k < 128 * 64 ^ k
  | 0, _ => by rw [Nat.pow_zero]; exact (by omega : c0 < 128 * 1)
  | k + 1, h => by
    have ih := acc_lt h0 k fun j h1 h2 => h j h1 (by omega)
    have := h (k + 1) (by omega) (by omega)
    rw [Nat.pow_succ]
    show accN c0 x k * 64 + (nth x (k + 1) - 128) < _
    omega
def RetF (w : World) (x : List UInt8) (v : Value) (w' : World) : Prop := v = .tuple #[.int .i64 ((dec x).1 : Int), .int .i64 ((dec x).2 : Int), .bool (decide (Ok x))] ∧ w = w'
theorem RetF.bad {w : World} {x : List UInt8} (h : dec x = (65533, 1)) : RetF w x (.tuple #[.int .i64 65533, .int .i64 1, .bool false]) w := by
  refine ⟨?_, rfl⟩
  rw [decide_eq_false (by unfold Ok; rw [h]; simp), h]; rfl
end Go.Proofs.Ytpnckagibkdcpaa


/-
  Walks over the functions that go through a text's runes: Len, Runes, Clip, and the reference's Runes.
-/
namespace Go.Proofs.Ytpnckagibkdcpaa
open Go.RowKit

theorem len_any {l : List UInt8} (hl : l.length ≤ 1099511627776) (w : World) : CallsV Try.prog 12 #[str l] w fun v w' => v = .int .i64 ((rs l).length : Int) ∧ Below w.heap.size w w' := by
  refine calls_in (N := _) Try.func12 rfl Try.ntmps12 rfl ?_; show WC _ _ _ _ _ _
  refine wc_sr ?_; refine wl_as rfl rfl ?_; refine wl_ns ?_; refine wc_sr ?_; refine wl_as rfl rfl ?_; refine wl_ns ?_; refine wc_seq ?_; refine wc_sr ?_; refine wl_mv rfl rfl ?_
  refine wl_range tyStr rfl rfl fun k w1 hk i1 hb1 => ?_
  refine wl_ns ?_; refine wc_block ?_
  refine wc_loop (fun L wr m => ∃ p n : Nat, L = [(3, .int .i64 (n : Int)), (5, .pointer (some ⟨k, 0, none⟩))] ∧ It wr k l p ∧ Below w.heap.size w wr ∧ p ≤ l.length ∧ n ≤ p ∧ n + (rs (l.drop p)).length = (rs l).length ∧ m = l.length - p)
    [(3, .int .i64 (0 : Nat)), (5, .pointer (some ⟨k, 0, none⟩))] l.length ⟨0, 0, rfl, i1, hb1, by omega, by omega, by simp, rfl⟩ ⟨rfl, rfl, trivial⟩ ?_
  rintro _ w2 m ⟨p, n, rfl, i2, hb2, hp, hn, he, rfl⟩
  refine wc_sr ?_
  by_cases hlt : p < l.length
  · have hd := dec_at hlt
    rw [rs_step hlt] at he
    refine wl_next rfl i2 hlt rfl fun w3 i3 g3 hs3 => ?_
    have hb3 := g3.belowI hb2 hk hb2.size
    apply wl_val; apply opv_extract; exact rfl; exact rfl; exact rfl; refine wl_ns ?_; refine wc_seq ?_; apply wc_condTb; exact rfl; exact rfl; refine wc_skip ?_; refine we_seq ?_; refine wc_block ?_; refine wc_region ?_; refine wl_mv rfl rfl ?_; apply wl_val; apply opv_bin; exact rfl; exact rfl; exact bin_add64 (by omega); exact rfl; refine wl_as rfl rfl ?_; refine wl_nil ?_; refine we_block_norm ?_
    refine we_loop [(3, .int .i64 ((n + 1 : Nat) : Int)), (5, .pointer (some ⟨k, 0, none⟩))] (l.length - (p + (dec (l.drop p)).2)) ⟨_, n + 1, rfl, i3, hb3, hd.2.1, by omega, by simp at he ⊢; omega, rfl⟩ (by omega) ⟨by simp [lookT], rfl, trivial⟩
  · refine wl_nextE rfl i2 hlt rfl ?_
    rw [rs_end hlt] at he
    apply wl_val; apply opv_extract; exact rfl; exact rfl; exact rfl; refine wl_ns ?_; refine wc_seq ?_; apply wc_condFb; exact rfl; exact rfl; refine wc_exit ?_; refine we_seq_exit ?_; refine we_loop_exit ?_; refine we_block_exit ?_; refine we_seq ?_; refine wc_sr ?_; refine wl_mv rfl rfl ?_; refine wl_as rfl rfl ?_; refine wl_ns ?_; refine wc_ret ?_
    exact we_ret1 rfl rfl ⟨_, rfl, by rw [← he]; rfl, hb2⟩

/-- Runes as new memory. -/
def RetR (w : World) (l : List UInt8) (v : Value) (w' : World) : Prop :=
  ∃ (A : Option Addr) (c : Nat), v = .slice A (rs l).length c ∧ Ow w' w.heap.size 21 A (rs l).length c ((rs l).map fun c : Nat => runeV (c : Int)) ∧ Below w.heap.size w w'
/-- The first runes' bytes. -/
def clipB (l : List UInt8) (n : Int) : List UInt8 := match (places l)[n.toNat]? with | some p => l.take p | none => l
end Go.Proofs.Ytpnckagibkdcpaa


/-
  Walks over the reference's Runes, Put and Fold.
-/
namespace Go.Proofs.Ytpnckagibkdcpaa
open Go.RowKit

theorem bin_quo64 {P : Program} {t : TypeId} {a b : Nat} (hb : 0 < b) (ha : a ≤ 9223372036854775807) : BinV P .quo t (.int .i64 (a : Int)) (.int .i64 (b : Int)) (.int .i64 ((a / b : Nat) : Int)) := bin_quo hb (IntWalk.i64_in _ (by have := Nat.div_le_self a b; generalize a / b = q at this ⊢; omega))
/-- An int as a cell. -/
def iv (n : Nat) : Value := .int .i64 (n : Int)
/-- Two lists of ints as new memory, each in its own. -/
def RetII (w : World) (xs ys : List Nat) (v : Value) (w' : World) : Prop :=
  ∃ (A B : Option Addr) (c d : Nat), v = .tuple #[.slice A xs.length c, .slice B ys.length d] ∧ Ow w' w.heap.size 3 A xs.length c (xs.map iv) ∧ Ow w' w.heap.size 3 B ys.length d (ys.map iv) ∧ Below w.heap.size w w'
theorem enc_bad {c : Int} (h : (c < 0 ∨ 1114111 < c) ∨ (55296 ≤ c ∧ c ≤ 57343)) : Lib.encodeRune c = enc 65533 := by
  rw [enc_three (by omega), Lib.encodeRune, Lib.encodeRuneZ_bad (by omega)]; decide
theorem own_enc {w w' : World} {A : Option Addr} {n : Nat} {vs : List Value} {xs : List UInt8} {c : Int} {d : Nat} (ho : Ow w' w.heap.size 5 A n n vs) (hb : Below w.heap.size w w') (hc : Lib.encodeRune c = enc d) (he : enc d = xs) (hv : bvs xs = vs) : RetB w (Lib.encodeRune c) (.slice A n n) w' := by
  subst hv
  have hn : xs.length = n := by have := ho.len; rwa [bvs_length] at this
  subst hn
  rw [hc, he]
  exact ⟨A, _, rfl, ho, hb⟩
theorem take_snoc' {α : Type} {l : List α} {k : Nat} {x : α} (h : l[k]? = some x) : l.take (k + 1) = l.take k ++ [x] := by
  rw [List.take_add_one, h]; rfl
end Go.Proofs.Ytpnckagibkdcpaa


/-
  The engine's rules for arrays and for variables that have a block of their own: made, read, written, cell by cell and whole; an array that is handed back by value. Nothing here names the program.
-/
namespace Go.Proofs.Ytpnckagibkdcpaa
open Go.RowKit

/-- Block g holds these cells, and may be written. -/
def Ar (w : World) (g : Nat) (t : TypeId) (cs : List Value) : Prop := w.heap[g]? = some (.cells cs.toArray t)
/-- A type of one cell that is no array and no struct. -/
structure Cell1 (P : Program) (e : TypeId) : Prop where
  size : (P.info? e).map (·.size) = some 1
  flat : (match P.underlying e with | some (.struct _) => true | some (.array _ _) => true | some _ => false | none => true) = false
theorem Cell1.agg {P : Program} {e : TypeId} (T : Cell1 P e) (w : World) : (isAgg e).run P w = .ok false w := by
  have h := T.flat
  unfold isAgg
  cases hu : P.underlying e with
  | none => rw [hu] at h; simp at h
  | some d =>
    rw [hu] at h
    rw [Sem.run_bind, run_underlying hu]
    cases d <;> first | (simp at h; done) | simp
theorem Cell1.sizeOf {P : Program} {e : TypeId} (T : Cell1 P e) (w : World) : (sizeOf e).run P w = .ok 1 w := by
  have h := T.size
  cases hq : P.info? e with
  | none => simp [hq] at h
  | some i =>
    have : i.size = 1 := by simpa [hq] using h
    simp [Go.sizeOf, typeInfo, hq, this]

section
variable {P : Program} {N : Nat} {ops : Array Oper} {Q : Exit → Act → World → Prop} {rest : List Oper} {L : FL} {w w' : World} {t e : TypeId} {g : Nat} {cs : List Value}
theorem Ar.lt (h : Ar w g t cs) : g < w.heap.size := by
  rcases Nat.lt_or_ge g w.heap.size with h1 | h1
  · exact h1
  · unfold Ar at h; rw [Array.getElem?_eq_none h1] at h; cases h
theorem Ar.below {B : Nat} (h : Ar w g t cs) (hb : Below B w w') (hg : w.heap.size ≤ B) : Ar w' g t cs := by
  unfold Ar; rw [hb.block g (by have := h.lt; omega)]; exact h
theorem Ar.bel (h : Ar w g t cs) (hb : Below w.heap.size w w') : Ar w' g t cs := h.below hb (Nat.le_refl _)
theorem Ar.new (w : World) (t : TypeId) (cs : List Value) : Ar (w.alloc (.cells cs.toArray t)) w.heap.size t cs := heap_alloc_new w _
theorem Ar.cell (h : Ar w g t cs) (k : Nat) : w.cell? ⟨g, k, none⟩ = cs[k]? := by
  rw [cell_of_row w g k cs.toArray t (0, 0) h]; simp
theorem Ar.frozen (h : Ar w g t cs) (k : Nat) : w.frozen? ⟨g, k, none⟩ = false := by
  unfold World.frozen?; rw [show w.heap[(⟨g, k, none⟩ : Addr).block]? = some (.cells cs.toArray t) from h]; simp
theorem Ar.setCell (h : Ar w g t cs) (k : Nat) (v : Value) : Ar (w.setCell ⟨g, k, none⟩ v) g t (cs.set k v) := by
  unfold Ar World.setCell
  simp only [Array.getElem?_modify, if_true]
  rw [show w.heap[g]? = some (.cells cs.toArray t) from h]
  simp
theorem Ar.ne {g' : Nat} {t' : TypeId} {cs' : List Value} (h : Ar w g' t' cs') (k : Nat) (v : Value) (hne : g ≠ g') : Ar (w.setCell ⟨g, k, none⟩ v) g' t' cs' := by
  unfold Ar World.setCell
  simp only [Array.getElem?_modify, if_neg hne]
  exact h
theorem below_setCell {B k : Nat} {v : Value} {w0 : World} (h : Below B w0 w) (hg : B ≤ g) : Below B w0 (w.setCell ⟨g, k, none⟩ v) :=
  h.trans ⟨rfl, rfl, rfl, by simp [World.setCell], fun j hj => by
    simp only [World.setCell, Array.getElem?_modify]
    rw [if_neg (by omega)]⟩
theorem Ar.setRow {cs' : List Value} (h : Ar w g t cs) : Ar (w.setRow g cs'.toArray) g t cs' := setRow_heap w g _ _ _ _ h
theorem below_setRow {B : Nat} {cs' : Array Value} {w0 : World} (h : Below B w0 w) (hg : B ≤ g) : Below B w0 (w.setRow g cs') :=
  h.trans ⟨rfl, rfl, rfl, by simp [World.setRow], fun j hj => by
    simp only [World.setRow, Array.getElem?_modify]
    rw [if_neg (by omega)]⟩
theorem Ar.neRow {g' : Nat} {t' : TypeId} {cs' : List Value} {x : Array Value} (h : Ar w g' t' cs') (hne : g ≠ g') : Ar (w.setRow g x) g' t' cs' := by
  unfold Ar World.setRow
  simp only [Array.getElem?_modify, if_neg hne]
  exact h

/-- A variable with a block of its own. -/
theorem opv_alloc {ty : TypeId} {z : Value} (hz : (P.info? t).map (·.zero) = some (some z)) : OpV P (.alloc t) ty L w (.pointer (some ⟨w.heap.size, 0, none⟩)) (w.alloc (.cells z.cells t)) := fun ρ o hρ ho _ => by
  cases hq : P.info? t with
  | none => simp [hq] at hz
  | some i =>
    have : i.zero = some z := by simpa [hq] using hz
    simp [execOp, ho, Instr.alloc, zeroValue, typeInfo, hq, this, newVar, newRow]
theorem wl_alloc {d : Nat} {ty : TypeId} {pos : String} {aft : Array Edge} {z : Value} (hz : (P.info? t).map (·.zero) = some (some z)) (hd : Nat.blt d N = true)
    (h : ∀ w', Ar w' w.heap.size t z.cells.toList → Below w.heap.size w w' → w'.heap.size = w.heap.size + 1 → WL P N ops Q rest ((d, .pointer (some ⟨w.heap.size, 0, none⟩)) :: L) w') :
    WL P N ops Q (⟨some d, .alloc t, ty, pos, aft, none⟩ :: rest) L w :=
  wl_val (opv_alloc hz) hd (h _ (by simpa using Ar.new w t z.cells.toList) ((Below.refl _ _).alloc (Nat.le_refl _) _) (by simp))
theorem opv_idxA {x i : Operand} {ty : TypeId} {n kk : Nat} {ik : IntKind} {q : Int} (ht : P.underlying t = some (.array n e)) (T : Cell1 P e) (hx : look L x = some (.pointer (some ⟨g, 0, none⟩))) (hi : look L i = some (.int ik q)) (hq : q = (kk : Int)) (hk : kk < n) :
    OpV P (.indexAddr t x i) ty L w (.pointer (some ⟨g, kk, none⟩)) w := fun ρ op hρ ho _ => by
  subst hq
  simp [execOp, ho, Instr.indexAt, asIntOf, hρ x _ hx, hρ i _ hi, run_underlying ht, hk, T.sizeOf, Addr.add_lit, Instr.sureAddr]
theorem opv_loadC {x : Operand} {ty : TypeId} {a : Addr} {u : Value} (T : Cell1 P e) (hx : look L x = some (.pointer (some a))) (hc : w.cell? a = some u) : OpV P (.load e x) ty L w u w := fun ρ op hρ ho _ => by
  simp [execOp, ho, Instr.loadAt, Instr.sureAddr, loadVar, hρ x _ hx, T.agg, hc]
theorem opu_storeC {x y : Operand} {ty : TypeId} {a : Addr} {u v : Value} (T : Cell1 P e) (hx : look L x = some (.pointer (some a))) (hy : look L y = some u) (h1 : u.oneCell' = true) (hc : w.cell? a = some v) (hf : w.frozen? a = false) :
    OpU P (.store e x y) ty L w (w.setCell a u) := fun ρ o hρ ho _ => by
  have hs : u.cells = #[u] := cells_one h1
  have hst : (store a u).run P w = .ok () (w.setCell a u) := by
    cases u <;> first | (simp [Value.oneCell'] at h1; done) | simp [store, Sem.run, hc, hf]
  unfold execOp
  simp only [ho, Instr.storeAt, Instr.sureAddr, hρ x _ hx, hρ y _ hy, storeVar, Sem.run_bind, Sem.run_pure, Result.andThen_ok, T.sizeOf, hs]
  have h0 : a.add 0 = a := by simp [Addr.add]
  simp [storeCells, h0, hst]
/-- a[i] = v -/
theorem wl_setA {d1 : Nat} {x i y : Operand} {ty1 ty2 : TypeId} {p1 p2 : String} {f1 f2 : Array Edge} {n kk : Nat} {ik : IntKind} {q : Int} {u : Value} (ht : P.underlying t = some (.array n e)) (T : Cell1 P e)
    (hx : look L x = some (.pointer (some ⟨g, 0, none⟩))) (hi : look L i = some (.int ik q)) (ha : Ar w g t cs) (hl : cs.length = n) (hq : q = (kk : Int)) (hk : kk < n)
    (hy : ∀ p, look ((d1, p) :: L) y = some u) (h1 : u.oneCell' = true) (hd1 : Nat.blt d1 N = true)
    (h : ∀ p, WL P N ops Q rest ((d1, p) :: L) (w.setCell ⟨g, kk, none⟩ u)) :
    WL P N ops Q (⟨some d1, .indexAddr t x i, ty1, p1, f1, none⟩ :: ⟨none, .store e (.tmp d1) y, ty2, p2, f2, none⟩ :: rest) L w := by
  refine wl_val (opv_idxA ht T hx hi hq hk) hd1 ?_
  refine wl_unitN (opu_storeC T (by simp [look, lookT]) (hy _) h1 (v := cs[kk]'(by omega)) ?_ (ha.frozen _)) (h _)
  exact (ha.cell _).trans (List.getElem?_eq_getElem _)
/-- a[i] -/
theorem wl_elA {d1 d2 : Nat} {x i : Operand} {ty1 ty2 : TypeId} {p1 p2 : String} {f1 f2 : Array Edge} {n kk : Nat} {ik : IntKind} {q : Int} {u : Value} (ht : P.underlying t = some (.array n e)) (T : Cell1 P e)
    (hx : look L x = some (.pointer (some ⟨g, 0, none⟩))) (hi : look L i = some (.int ik q)) (ha : Ar w g t cs) (hl : cs.length = n) (hq : q = (kk : Int)) (hu : cs[kk]? = some u) (hd1 : Nat.blt d1 N = true) (hd2 : Nat.blt d2 N = true)
    (h : ∀ p, WL P N ops Q rest ((d2, u) :: (d1, p) :: L) w) :
    WL P N ops Q (⟨some d1, .indexAddr t x i, ty1, p1, f1, none⟩ :: ⟨some d2, .load e (.tmp d1), ty2, p2, f2, none⟩ :: rest) L w := by
  have hk : kk < n := by have := (List.getElem?_eq_some_iff.1 hu).1; omega
  refine wl_val (opv_idxA ht T hx hi hq hk) hd1 (wl_val (opv_loadC T (by simp [look, lookT]; rfl) ?_) hd2 (h _))
  rw [ha.cell]; exact hu
/-- The whole array as a value. -/
theorem opv_loadW {x : Operand} {ty : TypeId} {n : Nat} (ht : P.underlying t = some (.array n e)) (hi : (P.info? t).map (·.size) = some cs.length) (hx : look L x = some (.pointer (some ⟨g, 0, none⟩))) (ha : Ar w g t cs) : OpV P (.load t x) ty L w (.agg cs.toArray) w := fun ρ op hρ ho _ => by
  have := run_loadVar_row (P := P) w g t t cs.toArray (0, 0) _ ha ht rfl (by simpa using hi)
  simp [execOp, ho, Instr.loadAt, Instr.sureAddr, hρ x _ hx, this]
theorem opu_storeW {x y : Operand} {ty : TypeId} {cs' : List Value} (hi : (P.info? t).map (·.size) = some cs.length) (hl : cs'.length = cs.length) (hx : look L x = some (.pointer (some ⟨g, 0, none⟩))) (hy : look L y = some (.agg cs'.toArray)) (ha : Ar w g t cs) (h1 : ∀ v ∈ cs', v.oneCell' = true) :
    OpU P (.store t x y) ty L w (w.setRow g cs'.toArray) := fun ρ o hρ ho _ => by
  have := run_storeVar_row (P := P) w g t t cs.toArray cs'.toArray ha (by simp [hl, hi]) (by simp [hl]) (by simpa [Array.all_eq_true_iff_forall_mem] using h1)
  simp [execOp, ho, Instr.storeAt, Instr.sureAddr, hρ x _ hx, hρ y _ hy, this]
/-- An array is handed back by value. -/
theorem we_retA {fn : Func} {R : Ending → World → Prop} {p n : Nat} (hr : fn.results = #[.cell p t]) (hx : lookT L p = some (.pointer (some ⟨g, 0, none⟩))) (ht : P.underlying t = some (.array n e)) (hi : (P.info? t).map (·.size) = some cs.length) (ha : Ar w g t cs)
    (h : R (.returned (.agg cs.toArray)) w) : WE N (bodyPost P fn R) .ret L w := fun a hA =>
  ⟨hA.nodefer, _, by
    have := run_loadVar_row (P := P) w g t t cs.toArray (0, 0) _ ha ht rfl (by simpa using hi)
    have e := hA.get p _ hx
    rw [Array.getD_eq_getD_getElem?] at e
    simp [results, hr, e, asAddr, this], h⟩
end
end Go.Proofs.Ytpnckagibkdcpaa


/-
  The engine's rules for structs in memory and pointers: the address of a field, the test for nil, pointers held against one another. Nothing here names the program.
-/
namespace Go.Proofs.Ytpnckagibkdcpaa
open Go.RowKit

section
variable {P : Program} {N : Nat} {ops : Array Oper} {Q : Exit → Act → World → Prop} {rest : List Oper} {L : FL} {w w' : World} {t e : TypeId}
theorem opv_nilOk {x : Operand} {ty : TypeId} {a : Addr} (hx : look L x = some (.pointer (some a))) : OpV P (.nilCheck x) ty L w (.pointer (some a)) w := fun ρ o hρ ho _ => by
  simp [execOp, ho, hρ x _ hx]
/-- Field k of struct type t lies off cells behind its beginning. -/
def FieldAt (P : Program) (t : TypeId) (k off : Nat) : Prop := ∀ (a : Addr) (w : World), (Instr.fieldAt t (.pointer (some a)) k).run P w = .ok (.pointer (some (a.add off))) w
theorem fieldAt_mk {fs : Array Field} {f : Field} {k off : Nat} (hu : P.underlying t = some (.struct fs)) (hf : fs[k]? = some f) (ho : f.offset = off) (hs : ((P.info? f.type).map fun i => decide (i.size = 0)) = some false) : FieldAt P t k off := fun a w => by
  cases hq : P.info? f.type with
  | none => simp [hq] at hs
  | some i =>
    have h0 : ¬ i.size = 0 := by simpa [hq] using hs
    subst ho
    simp [Instr.fieldAt, run_underlying hu, hf, Instr.sureAddr, fieldPlace, sizeOf, typeInfo, hq, h0]
theorem opv_fa {x : Operand} {ty : TypeId} {k off b o : Nat} (F : FieldAt P t k off) (hx : look L x = some (.pointer (some ⟨b, o, none⟩))) : OpV P (.fieldAddr t x k) ty L w (.pointer (some ⟨b, o + off, none⟩)) w := fun ρ op hρ ho _ => by
  have := F ⟨b, o, none⟩ w
  rw [Addr.add_lit] at this
  unfold execOp
  simp only [ho, hρ x _ hx, Sem.run_bind, this]
  simp
theorem bin_eqlPtrNil {te : TypeId} {a : Addr} (ht : P.underlying t = some (.pointer te)) : BinV P .eql t (.pointer (some a)) (.pointer none) (.bool false) := .mk fun x y w => by
  have h : ∀ d : Nat, (Op.equalIn (d + 1) t (.pointer (some a)) (.pointer none)).run P w = .ok false w := fun d => by simp [Op.equalIn, run_underlying ht]
  simp [eqGuard, binOp, Op.equal, Op.maxDepth, h 9999]
theorem bin_eqlNilNil {te : TypeId} (ht : P.underlying t = some (.pointer te)) : BinV P .eql t (.pointer none) (.pointer none) (.bool true) := .mk fun x y w => by
  have h : ∀ d : Nat, (Op.equalIn (d + 1) t (.pointer none) (.pointer none)).run P w = .ok true w := fun d => by simp [Op.equalIn, run_underlying ht]
  simp [eqGuard, binOp, Op.equal, Op.maxDepth, h 9999]
theorem bin_neqPtrSelf {te : TypeId} {j : TypeInfo} {a : Addr} (ht : P.underlying t = some (.pointer te)) (hte : P.info? te = some j) : BinV P .neq t (.pointer (some a)) (.pointer (some a)) (.bool false) := .mk fun x y w => by
  have h := Lib.run_neq_ptr_same (P := P) w a ht hte
  simp [eqGuard, h]
theorem opv_convWith {src dst : TypeId} {x : Operand} {ty : TypeId} {u v : Value} (hx : look L x = some u) (hr : (convert src dst u).run P w = .ok v w) : OpV P (.convert src dst x) ty L w v w := fun ρ o hρ ho _ => by
  unfold execOp
  simp only [ho, hρ x _ hx, Sem.run_bind, hr]
  simp
theorem Ar.shape {g : Nat} {cs : List Value} (h : Ar w g t cs) : w.shape? g = some (t, cs.length) := by
  unfold World.shape?; rw [show w.heap[g]? = some (.cells cs.toArray t) from h]; simp
/-- A cell of a variable that has a block of its own: read, and written. -/
theorem opv_ldA {x : Operand} {ty : TypeId} {g k : Nat} {T : TypeId} {cs : List Value} {u : Value} (E : Cell1 P e) (ha : Ar w g T cs) (hx : look L x = some (.pointer (some ⟨g, k, none⟩))) (hk : cs[k]? = some u) : OpV P (.load e x) ty L w u w :=
  opv_loadC E hx ((ha.cell k).trans hk)
theorem wl_stA {x y : Operand} {ty : TypeId} {pos : String} {aft : Array Edge} {g k : Nat} {T : TypeId} {u : Value} {cs : List Value} (E : Cell1 P e) (ha : Ar w g T cs) (hx : look L x = some (.pointer (some ⟨g, k, none⟩))) (hk : k < cs.length)
    (hy : look L y = some u) (h1 : u.oneCell' = true)
    (h : ∀ w', Ar w' g T (cs.set k u) → Gr w w' (some ⟨g, 0, none⟩) → w'.heap.size = w.heap.size → WL P N ops Q rest L w') :
    WL P N ops Q (⟨none, .store e x y, ty, pos, aft, none⟩ :: rest) L w := by
  refine wl_unitN (opu_storeC E hx hy h1 (v := cs[k]) ((ha.cell k).trans (List.getElem?_eq_getElem hk)) (ha.frozen k)) (h _ (ha.setCell k u) ⟨rfl, rfl, rfl, by simp [World.setCell], fun j _ hj => ?_⟩ (by simp [World.setCell]))
  simp only [World.setCell, Array.getElem?_modify]
  rw [if_neg (by simp at hj; exact fun h => hj h.symm)]
/-- A block that is known whole stays where another one has changed. -/
theorem Ar.grA {g : Nat} {T : TypeId} {cs : List Value} {A : Option Addr} (h : Ar w g T cs) (hg : Gr w w' A) (hne : ∀ a, A = some a → a.block ≠ g) : Ar w' g T cs := by
  unfold Ar
  rw [hg.block g h.lt fun hk => by
    cases A with
    | none => simp at hk
    | some a => simp at hk; exact hne a rfl hk.symm]
  exact h
end
end Go.Proofs.Ytpnckagibkdcpaa


/-
  Plain functions on lists of bytes, for layer 1 (codec), and what is true of them. Nothing here names the program or the model.
-/
namespace Go.Proofs.Ytpnckagibkdcpaa

/-- A number in groups of seven bits. -/
def putU (n : Nat) : List UInt8 := if n < 128 then [UInt8.ofNat n] else UInt8.ofNat (n % 128 + 128) :: putU (n / 128)

/-- The number at the head of a list: n is what has been read, i how many bytes; value, count, error. -/
def getAux : Nat → Nat → List UInt8 → Nat × Nat × Nat
  | _, _, [] => (0, 0, 5)
  | i, n, x :: r =>
    if (i = 9 ∧ 1 < x.toNat) ∨ (x.toNat = 0 ∧ 0 < i) then (0, 0, 3)
    else if x.toNat < 128 then (n + x.toNat * 128 ^ i, i + 1, 0)
    else getAux (i + 1) (n + (x.toNat - 128) * 128 ^ i) r

/-- The number at a place: value, place behind it, error. -/
def getU (b : List UInt8) (p : Int) : Nat × Int × Nat :=
  if p < 0 ∨ (b.length : Int) < p then (0, 0, 1) else
  match getAux 0 0 (b.drop p.toNat) with
  | (n, k, 0) => (n, p + k, 0)
  | (_, _, e) => (0, 0, e)

theorem or128 (m : Nat) : (m % 256 ||| 128) = m % 128 + 128 := by
  have h : m % 256 < 256 := Nat.mod_lt _ (by decide)
  have e : m % 128 = (m % 256) % 128 := by omega
  rw [e]
  generalize m % 256 = x at h
  revert x
  decide +kernel
theorem andNot128 (x : UInt8) : (x.toNat &&& (18446744073709551615 - 128)) = x.toNat % 128 := by
  have h : x.toNat < 256 := x.toNat_lt
  generalize x.toNat = y at h
  revert y
  decide +kernel
theorem or_shift {n y i : Nat} (h : n < 128 ^ i) : n ||| y * 2 ^ (7 * i) = n + y * 128 ^ i := by
  have e : (128 : Nat) ^ i = 2 ^ (7 * i) := by rw [Nat.pow_mul]
  rw [e] at h ⊢
  rw [Nat.or_comm, ← Nat.shiftLeft_eq, ← Nat.shiftLeft_add_eq_or_of_lt h, Nat.shiftLeft_eq, Nat.add_comm]

theorem drop_get {l : List UInt8} {k : Nat} {b : UInt8} (h : l[k]? = some b) : l.drop k = b :: l.drop (k + 1) := by
  have hk : k < l.length := by
    rcases Nat.lt_or_ge k l.length with h' | h'
    · exact h'
    · rw [List.getElem?_eq_none h'] at h; cases h
  rw [List.getElem?_eq_getElem hk] at h
  cases h
  exact List.drop_eq_getElem_cons hk
theorem take_get {l : List UInt8} {k : Nat} {b : UInt8} (h : l[k]? = some b) : l.take (k + 1) = l.take k ++ [b] := by
  rw [List.take_add_one, h]; rfl

theorem getAux_step {i n : Nat} {x : UInt8} {r : List UInt8} (h1 : ¬ ((i = 9 ∧ 1 < x.toNat) ∨ (x.toNat = 0 ∧ 0 < i))) (h2 : ¬ x.toNat < 128) : getAux i n (x :: r) = getAux (i + 1) (n + x.toNat % 128 * 128 ^ i) r := by
  rw [getAux, if_neg h1, if_neg h2]
  have h3 := x.toNat_lt
  have h4 : x.toNat - 128 = x.toNat % 128 := by omega
  rw [h4]
theorem getAux_form {i n : Nat} {x : UInt8} {r : List UInt8} (h1 : (i = 9 ∧ 1 < x.toNat) ∨ (x.toNat = 0 ∧ 0 < i)) : getAux i n (x :: r) = (0, 0, 3) := by
  rw [getAux, if_pos h1]
theorem getAux_last {i n : Nat} {x : UInt8} {r : List UInt8} (h1 : ¬ ((i = 9 ∧ 1 < x.toNat) ∨ (x.toNat = 0 ∧ 0 < i))) (h2 : x.toNat < 128) : getAux i n (x :: r) = (n + x.toNat % 128 * 128 ^ i, i + 1, 0) := by
  rw [getAux, if_neg h1, if_pos h2, Nat.mod_eq_of_lt h2]
theorem getU_arg {b : List UInt8} {p : Int} (h : ¬ (0 ≤ p ∧ p ≤ b.length)) : getU b p = (0, 0, 1) := by
  rw [getU, if_pos (by omega)]
theorem getU_ok {b : List UInt8} {q n k : Nat} (hq : q ≤ b.length) (h : getAux 0 0 (b.drop q) = (n, k, 0)) : getU b q = (n, (q : Int) + k, 0) := by
  rw [getU, if_neg (by omega)]
  simp [h]
theorem getU_bad {b : List UInt8} {q e : Nat} (hq : q ≤ b.length) (h : getAux 0 0 (b.drop q) = (0, 0, e + 1)) : getU b q = (0, 0, e + 1) := by
  rw [getU, if_neg (by omega)]
  simp [h]
/-- A number of ten groups at most, and what a further group adds. -/
theorem group_lt {i n y : Nat} (hn : n < 128 ^ i) (hy : y < 128) : n + y * 128 ^ i < 128 ^ (i + 1) := by
  have h1 : y * 128 ^ i ≤ 127 * 128 ^ i := Nat.mul_le_mul_right _ (by omega)
  rw [Nat.pow_succ]
  omega
theorem pow128_9 : (128 : Nat) ^ 9 = 9223372036854775808 := by decide

theorem sum_lt {i n x : Nat} (hn : n < 128 ^ i) (hi : i ≤ 9) (hx1 : i = 9 → x ≤ 1) : n + x % 128 * 128 ^ i < 18446744073709551616 := by
  rcases Nat.lt_or_ge i 9 with h9 | h9
  · have h8 := group_lt hn (Nat.mod_lt x (show 0 < 128 by decide))
    have : (128 : Nat) ^ (i + 1) ≤ 128 ^ 9 := Nat.pow_le_pow_right (by decide) (by omega)
    rw [pow128_9] at this; omega
  · obtain rfl : i = 9 := by omega
    have h10 := hx1 rfl
    have : x % 128 ≤ 1 := by omega
    have : x % 128 * 128 ^ 9 ≤ 1 * 128 ^ 9 := Nat.mul_le_mul_right _ this
    rw [pow128_9] at *; omega

/-- What is written is read back. -/
theorem getAux_putU (r : List UInt8) : ∀ (m i n : Nat), n < 128 ^ i → m < 2 ^ (64 - 7 * i) → i ≤ 9 → (i = 0 ∨ 0 < m) → getAux i n (putU m ++ r) = (n + m * 128 ^ i, i + (putU m).length, 0) := by
  intro m
  induction m using Nat.strongRecOn with
  | _ m ih =>
    intro i n hn hm hi h0
    have h9 : i = 9 → m < 2 := by rintro rfl; simpa using hm
    rw [putU]
    by_cases hs : m < 128
    · rw [if_pos hs]
      have e : (UInt8.ofNat m).toNat = m := by simp; omega
      simp only [List.cons_append, List.nil_append]
      rw [getAux_last (by rw [e]; omega) (by rw [e]; exact hs), e, Nat.mod_eq_of_lt hs]; rfl
    · rw [if_neg hs]
      have e : (UInt8.ofNat (m % 128 + 128)).toNat = m % 128 + 128 := by rw [UInt8.toNat_ofNat']; omega
      simp only [List.cons_append]
      have e2 : (m % 128 + 128) % 128 = m % 128 := by omega
      rw [getAux_step (by rw [e]; omega) (by rw [e]; omega), e, e2]
      have hi8 : i ≤ 8 := by omega
      rw [ih (m / 128) (by omega) (i + 1) _ (group_lt hn (Nat.mod_lt _ (by decide))) ?_ (by omega) (by omega)]
      · refine Prod.ext ?_ (Prod.ext ?_ rfl)
        · show n + m % 128 * 128 ^ i + m / 128 * 128 ^ (i + 1) = n + m * 128 ^ i
          have : m * 128 ^ i = (m % 128 + 128 * (m / 128)) * 128 ^ i := by rw [Nat.mod_add_div]
          rw [this, Nat.add_mul, Nat.pow_succ]
          have : m / 128 * (128 ^ i * 128) = 128 * (m / 128) * 128 ^ i := by rw [Nat.mul_comm (128 ^ i) 128, ← Nat.mul_assoc, Nat.mul_comm (m / 128) 128]
          omega
        · simp; omega
      · refine Nat.div_lt_of_lt_mul ?_
        rw [show 128 = 2 ^ 7 from rfl, ← Nat.pow_add, show 7 + (64 - 7 * (i + 1)) = 64 - 7 * i by omega]
        exact hm
theorem getU_putU {n : Nat} (hn : n < 2 ^ 64) : getU (putU n) 0 = (n, ((putU n).length : Int), 0) := by
  have h := getAux_putU [] n 0 0 (by decide) hn (by omega) (.inl rfl)
  rw [List.append_nil] at h
  rw [getU, if_neg (by omega)]
  simp only [Int.toNat_zero, List.drop_zero, h]
  simp
/-- What is read is what is written. -/
theorem getAux_inv : ∀ (l : List UInt8) (i n v k : Nat), n < 128 ^ i → i ≤ 9 → getAux i n l = (v, k, 0) →
    ∃ m j, k = i + j ∧ j ≤ l.length ∧ v = n + m * 128 ^ i ∧ putU m = l.take j ∧ (i = 0 ∨ 0 < m) ∧ v < 18446744073709551616
  | [], i, n, v, k, _, _, h => by simp [getAux] at h
  | x :: r, i, n, v, k, hn, hi, h => by
    have hx := x.toNat_lt
    by_cases h1 : (i = 9 ∧ 1 < x.toNat) ∨ (x.toNat = 0 ∧ 0 < i)
    · rw [getAux_form h1] at h; simp at h
    · by_cases h2 : x.toNat < 128
      · rw [getAux_last h1 h2] at h
        have hs := sum_lt hn hi (x := x.toNat) (by omega)
        injection h with ha hb; injection hb with hb _
        subst ha hb
        rw [Nat.mod_eq_of_lt h2] at hs ⊢
        refine ⟨x.toNat, 1, rfl, by simp, rfl, ?_, by omega, hs⟩
        rw [putU, if_pos h2]; simp
      · rw [getAux_step h1 h2] at h
        have hi8 : i ≤ 8 := by omega
        obtain ⟨m, j, rfl, hj, rfl, hp, h0, hlt⟩ := getAux_inv r (i + 1) _ v k (group_lt hn (Nat.mod_lt _ (by decide))) (by omega) h
        refine ⟨x.toNat % 128 + 128 * m, j + 1, by omega, by simp; omega, ?_, ?_, by omega, hlt⟩
        · rw [Nat.add_mul, Nat.pow_succ]
          have : m * (128 ^ i * 128) = 128 * m * 128 ^ i := by rw [Nat.mul_comm (128 ^ i) 128, ← Nat.mul_assoc, Nat.mul_comm m 128]
          omega
        · rw [putU, if_neg (by omega)]
          have e1 : (x.toNat % 128 + 128 * m) % 128 + 128 = x.toNat := by omega
          have e2 : (x.toNat % 128 + 128 * m) / 128 = m := by omega
          rw [e1, e2, hp]; simp
theorem getU_inv {l : List UInt8} {p : Int} {v : Nat} {x : Int} (h : getU l p = (v, x, 0)) :
    ∃ q k : Nat, p = q ∧ x = k ∧ q ≤ k ∧ k ≤ l.length ∧ putU v = (l.take k).drop q ∧ v < 18446744073709551616 := by
  rw [getU] at h
  split at h
  · simp at h
  · rename_i hp
    obtain ⟨q, rfl⟩ := Int.eq_ofNat_of_zero_le (by omega : 0 ≤ p)
    simp only [Int.toNat_natCast] at h
    cases hg : getAux 0 0 (l.drop q) with
    | mk n ke =>
      obtain ⟨k, e⟩ := ke
      rw [hg] at h
      cases e with
      | succ e => simp at h
      | zero =>
        simp only [Prod.mk.injEq, and_true] at h
        obtain ⟨rfl, rfl⟩ := h
        obtain ⟨m, j, rfl, hj, rfl, hp2, _, hlt⟩ := getAux_inv _ 0 0 n k (by decide) (by omega) hg
        rw [List.length_drop] at hj
        refine ⟨q, q + j, rfl, by omega, by omega, by omega, ?_, hlt⟩
        simp only [Nat.pow_zero, Nat.mul_one, Nat.zero_add]
        rw [hp2, List.drop_take]; congr 1; omega
theorem getU_err {l : List UInt8} {p : Int} (h : (getU l p).2.2 ≠ 0) : (getU l p).1 = 0 ∧ (getU l p).2.1 = 0 := by
  unfold getU at h ⊢
  split
  · simp
  · rename_i hp
    rw [if_neg hp] at h
    split at h
    · simp at h
    · simp
theorem getU_fits (l : List UInt8) (p : Int) : (getU l p).1 < 18446744073709551616 := by
  by_cases h : (getU l p).2.2 = 0
  · obtain ⟨_, _, _, _, _, _, _, h⟩ := getU_inv (l := l) (p := p) (v := (getU l p).1) (x := (getU l p).2.1) (by rw [← h])
    exact h
  · rw [(getU_err h).1]; decide

theorem putU_length : ∀ (f n : Nat), n < 128 ^ (f + 1) → (putU n).length ≤ f + 1
  | 0, n, h => by rw [putU, if_pos (by omega)]; simp
  | f + 1, n, h => by
    rw [putU]
    split
    · simp
    · have := putU_length f (n / 128) (Nat.div_lt_of_lt_mul (by rw [Nat.mul_comm, ← Nat.pow_succ]; exact h))
      simp; omega
theorem putU_le {n : Nat} (h : n < 2 ^ 64) : (putU n).length ≤ 10 := putU_length 9 n (Nat.lt_of_lt_of_le h (by decide))

/-- Bytes with an end, in their order. -/
def esc (l : List UInt8) : List UInt8 := l.flatMap fun x => if x = 0 then [0, 255] else [x]
def ordText (l : List UInt8) : List UInt8 := esc l ++ [0, 1]
theorem esc_take {l : List UInt8} {k : Nat} {b : UInt8} (h : l[k]? = some b) : esc (l.take (k + 1)) = esc (l.take k) ++ if b = 0 then [0, 255] else [b] := by
  rw [take_get h]; simp [esc]
theorem esc_length (l : List UInt8) : (esc l).length ≤ 2 * l.length := by
  induction l with
  | nil => simp [esc]
  | cons x r ih =>
    have : esc (x :: r) = (if x = 0 then [0, 255] else [x]) ++ esc r := by simp [esc]
    rw [this, List.length_append, List.length_cons]
    split <;> simp <;> omega
theorem toNat_zero {b : UInt8} : (b.toNat : Int) = 0 ↔ b = 0 := by
  constructor
  · intro h; exact UInt8.toNat_inj.1 (by simp; omega)
  · rintro rfl; rfl

/-- How two lists compare. -/
def cmpB : List UInt8 → List UInt8 → Int
  | [], [] => 0
  | [], _ :: _ => -1
  | _ :: _, [] => 1
  | x :: xs, y :: ys => if x < y then -1 else if y < x then 1 else cmpB xs ys
theorem cmp_same {x : UInt8} {xs ys : List UInt8} : cmpB (x :: xs) (x :: ys) = cmpB xs ys := by simp [cmpB]
theorem cmp_lt {x y : UInt8} {xs ys : List UInt8} (h : x < y) : cmpB (x :: xs) (y :: ys) = -1 := by simp [cmpB, h]
theorem cmp_gt {x y : UInt8} {xs ys : List UInt8} (h : y < x) : cmpB (x :: xs) (y :: ys) = 1 := by
  have h' : ¬ x < y := fun e => by rw [UInt8.lt_iff_toNat_lt] at *; omega
  simp [cmpB, h, h']
theorem cmp_short {xs ys : List UInt8} (hx : xs = []) (hy : 0 < ys.length) : cmpB xs ys = -1 := by
  subst hx; cases ys with
  | nil => simp at hy
  | cons => simp [cmpB]
theorem cmp_long {xs ys : List UInt8} (hx : 0 < xs.length) (hy : ys = []) : cmpB xs ys = 1 := by
  subst hy; cases xs with
  | nil => simp at hx
  | cons => simp [cmpB]
end Go.Proofs.Ytpnckagibkdcpaa


/-
  Walks over the comparisons of layer 1: Cmp of the reference; bytes.Compare, whose work the model does itself, and codec.Cmp.
-/
namespace Go.Proofs.Ytpnckagibkdcpaa
open Go.RowKit

theorem run_loadBytes {P : Program} {w : World} {b : Nat} : ∀ (xs : List UInt8) (o : Nat) (acc : List UInt8), (∀ j u, (bvs xs)[j]? = some u → w.cell? ⟨b, o + j, none⟩ = some u) →
    (Extern.Bytes.loadBytes ⟨b, o, none⟩ xs.length ⟨acc.toArray⟩).run P w = .ok ⟨(acc ++ xs).toArray⟩ w
  | [], o, acc, _ => by simp [Extern.Bytes.loadBytes]
  | x :: xs, o, acc, h => by
    have h0 := h 0 (bv x) (by simp [bvs])
    simp only [Nat.add_zero] at h0
    have ih := run_loadBytes (P := P) xs (o + 1) (acc ++ [x]) (fun j u hu => by
      have := h (j + 1) u (by simpa [bvs] using hu)
      rw [show o + 1 + j = o + (j + 1) by omega]; exact this)
    have e1 : (ByteArray.mk acc.toArray).push x = ⟨(acc ++ [x]).toArray⟩ := by
      simp [ByteArray.push]
    have e2 : ((x.toNat : Int)).toNat.toUInt8 = x := by simp
    simp only [List.length_cons, Extern.Bytes.loadBytes, Sem.run_bind, run_load, h0, Result.andThen_ok, bv, e2, e1, Addr.add_lit, ih]
    simp
theorem run_bytesOf {P : Program} {w : World} {A : Option Addr} {c : Nat} {xs : List UInt8} (hr : RdB w A xs) : (Extern.Bytes.bytesOf (.slice A xs.length c)).run P w = .ok ⟨xs.toArray⟩ w := by
  cases xs with
  | nil => cases A with
    | none => simp [Extern.Bytes.bytesOf]; rfl
    | some a => simp [Extern.Bytes.bytesOf, Extern.Bytes.loadBytes]; rfl
  | cons x r =>
    obtain ⟨b, o, rfl, _, hc⟩ := hr.2 (by simp)
    have := run_loadBytes (P := P) (x :: r) o [] hc
    simp only [Extern.Bytes.bytesOf]
    exact this
theorem ba_get (l : List UInt8) (i : Nat) : (ByteArray.mk l.toArray)[i]! = l.getD i 0 := by
  by_cases h : i < l.length
  · rw [getElem!_pos _ i (show i < (ByteArray.mk l.toArray).size from h)]
    simp [List.getD, List.getElem?_eq_getElem h]; rfl
  · rw [getElem!_neg _ i (show ¬ i < (ByteArray.mk l.toArray).size from h)]
    simp [List.getD, List.getElem?_eq_none (Nat.le_of_not_lt h)]; rfl
def cmpL (xs ys : List UInt8) : Int :=
  match (List.range (min xs.length ys.length)).find? fun i => xs.getD i 0 != ys.getD i 0 with
  | some i => if xs.getD i 0 < ys.getD i 0 then -1 else 1
  | none => if xs.length < ys.length then -1 else if xs.length > ys.length then 1 else 0
theorem cmp_list (xs ys : List UInt8) : Extern.BytealgCompare.cmp ⟨xs.toArray⟩ ⟨ys.toArray⟩ = cmpL xs ys := by
  unfold Extern.BytealgCompare.cmp cmpL
  simp only [ba_get]
  rfl
theorem cmpL_eq : ∀ (xs ys : List UInt8), cmpL xs ys = cmpB xs ys
  | [], [] => by simp [cmpL, cmpB]
  | [], _ :: _ => by simp [cmpL, cmpB]
  | _ :: _, [] => by simp [cmpL, cmpB]
  | x :: xs, y :: ys => by
    have ih := cmpL_eq xs ys
    unfold cmpL at ih ⊢
    rw [show min (x :: xs).length (y :: ys).length = min xs.length ys.length + 1 by simp, List.range_succ_eq_map, List.find?_cons]
    by_cases h : x = y
    · subst h
      simp only [List.getD_cons_zero, bne_self_eq_false, List.find?_map]
      have e : ((fun i => (x :: xs).getD i 0 != (x :: ys).getD i 0) ∘ Nat.succ) = fun i => xs.getD i 0 != ys.getD i 0 := by
        funext i; simp
      have ec : cmpB (x :: xs) (x :: ys) = cmpB xs ys := by simp [cmpB]
      rw [e, ec, ← ih]
      cases (List.range (min xs.length ys.length)).find? fun i => xs.getD i 0 != ys.getD i 0 with
      | none => simp
      | some i => simp
    · have hne : (x != y) = true := by simpa using h
      simp only [List.getD_cons_zero, cmpB, hne]
      by_cases hlt : x < y
      · simp [hlt]
      · have : y < x := by
          rcases Nat.lt_trichotomy x.toNat y.toNat with h' | h' | h'
          · exact absurd (UInt8.lt_iff_toNat_lt.2 h') hlt
          · exact absurd (UInt8.toNat_inj.1 h') h
          · exact UInt8.lt_iff_toNat_lt.2 h'
        simp [hlt, this]

/-- The model's own work for bytes.Compare. -/
theorem compare_run {A B : Option Addr} {c d : Nat} {xs ys : List UInt8} {w : World} (hx : RdB w A xs) (hy : RdB w B ys) :
    (callFunc 67 #[.slice A xs.length c, .slice B ys.length d]).run Try.prog w = .ok (.value (.int .i64 (cmpB xs ys))) w := by
  rw [run_callFunc_extern Try.func67 (by kernel_rfl) rfl (by kernel_rfl) (e := Extern.BytealgCompare.compare) (by kernel_rfl)]
  have e : ∀ u v : Value, Extern.BytealgCompare.compare #[u, v] = (do pure (goInt (Extern.BytealgCompare.cmp (← Extern.Bytes.bytesOf u) (← Extern.Bytes.bytesOf v)))) := fun _ _ => rfl
  rw [e]
  simp only [Sem.run_bind, run_bytesOf hx, run_bytesOf hy, Result.andThen_ok, cmp_list, cmpL_eq]
  simp [goInt]

/-- A call that the model carries out itself. -/
theorem wl_ext {P : Program} {N : Nat} {ops : Array Oper} {Q : Exit → Act → World → Prop} {rest : List Oper} {L : FL} {w w' : World} {d : Nat} {f : FuncId} {xs : List Operand} {ats : Array TypeId} {ty : TypeId} {pos : String} {aft : Array Edge} {vs : List Value} {v : Value}
    (hr : (callFunc f vs.toArray).run P w = .ok (.value v) w') (hx : Looks L xs vs) (hd : Nat.blt d N = true) (h : WL P N ops Q rest ((d, v) :: L) w') :
    WL P N ops Q (⟨some d, .call { callee := .value (.func f), args := xs.toArray, argTypes := ats }, ty, pos, aft, none⟩ :: rest) L w := by
  refine wl_val (w' := w') (fun ρ o hρ ho _ => ?_) hd h
  have hf : ρ (.func f) = .func (.func f) #[] #[] := hρ _ _ rfl
  have hm := Looks.map hρ hx
  unfold execOp
  simp only [ho, resolve, Deferred.ofValue, hf, Sem.run_bind, Sem.run_pure, Result.andThen_ok, invoke]
  have : (#[] ++ Array.map ρ xs.toArray ++ #[]) = vs.toArray := by simp [hm]
  rw [this]
  exact hr
theorem bytesCompare_any {A B : Option Addr} {n m c d : Nat} {xs ys : List UInt8} {w : World} (hx : RdB w A xs) (hy : RdB w B ys) (hn : xs.length = n) (hm : ys.length = m) :
    CallsV Try.prog 45 #[.slice A n c, .slice B m d] w fun v w' => v = .int .i64 (cmpB xs ys) ∧ w = w' := by
  subst hn hm
  refine calls_in (N := _) Try.func45 rfl Try.ntmps45 rfl ?_; show WC _ _ _ _ _ _
  refine wc_sr ?_; refine wl_as rfl rfl ?_; refine wl_ns ?_; refine wc_sr ?_; refine wl_mv rfl rfl ?_; refine wl_mv rfl rfl ?_
  refine wl_ext (compare_run hx hy) ⟨rfl, rfl, trivial⟩ rfl ?_
  refine wl_as rfl rfl ?_; refine wl_ns ?_; refine wc_ret ?_
  exact we_ret1 rfl rfl ⟨_, rfl, rfl, rfl⟩
theorem cmp_any {A B : Option Addr} {n m c d : Nat} {xs ys : List UInt8} {w : World} (hx : RdB w A xs) (hy : RdB w B ys) (hn : xs.length = n) (hm : ys.length = m) :
    CallsV Try.prog 19 #[.slice A n c, .slice B m d] w fun v w' => v = .int .i64 (cmpB xs ys) ∧ w = w' := by
  refine calls_in (N := _) Try.func19 rfl Try.ntmps19 rfl ?_; show WC _ _ _ _ _ _
  refine wc_sr ?_; refine wl_as rfl rfl ?_; refine wl_ns ?_; refine wc_sr ?_; refine wl_mv rfl rfl ?_; refine wl_mv rfl rfl ?_
  refine wl_call ok_bytes_Compare (bytesCompare_any hx hy hn hm) ⟨rfl, rfl, trivial⟩ rfl ?_
  rintro _ _ ⟨rfl, rfl⟩
  refine wl_as rfl rfl ?_; refine wl_ns ?_; refine wc_ret ?_
  exact we_ret1 rfl rfl ⟨_, rfl, rfl, rfl⟩

theorem refCmp_any {A B : Option Addr} {n m c d : Nat} {xs ys : List UInt8} {w : World} (hx : RdB w A xs) (hy : RdB w B ys) (hn : xs.length = n) (hm : ys.length = m) (hlx : xs.length ≤ maxLen) (hly : ys.length ≤ maxLen) :
    CallsV Try.prog 20 #[.slice A n c, .slice B m d] w fun v w' => v = .int .i64 (cmpB xs ys) ∧ Below w.heap.size w w' := by
  subst hn hm
  simp only [maxLen] at hlx hly
  refine calls_in (N := _) Try.func20 rfl Try.ntmps20 rfl ?_; show WC _ _ _ _ _ _
  refine wc_sr ?_; refine wl_as rfl rfl ?_; refine wl_ns ?_; refine wc_seq ?_; refine wc_sr ?_; refine wl_as rfl rfl ?_; refine wl_ns ?_; refine wc_block ?_
  refine wc_loop (fun L wr m => ∃ k : Nat, L = [(0, .slice A xs.length c), (1, .slice B ys.length d), (5, .int .i64 (k : Int))] ∧ k ≤ xs.length ∧ k ≤ ys.length ∧ cmpB xs ys = cmpB (xs.drop k) (ys.drop k) ∧ Below w.heap.size w wr ∧ m = xs.length - k)
    [(0, .slice A xs.length c), (1, .slice B ys.length d), (5, .int .i64 (0 : Nat))] xs.length ⟨0, rfl, by omega, by omega, rfl, Below.refl _ _, rfl⟩ ⟨rfl, rfl, rfl, trivial⟩ ?_
  rintro _ wr m ⟨k, rfl, hk, hk2, heq, hb, rfl⟩
  have r1 := RdB.below hx hb
  have r2 := RdB.below hy hb
  refine wc_seq ?_; refine wc_sr ?_; refine wl_mv rfl rfl ?_; refine wl_mv rfl rfl ?_; apply wl_val; apply opv_len; exact rfl; exact tyB.sl; exact rfl; refine wl_bin rfl rfl bin_lss rfl ?_; refine wl_mv rfl rfl ?_
  refine wl_cutV 5 15 (.bool (decide (((k : Int) < (xs.length : Int)) ∧ ((k : Int) < (ys.length : Int))))) ?c6 ?_; (case c6 => (dsimp only [List.take]; by_cases hc0 : ((k : Int) < (xs.length : Int)); (focus (apply wl_take; exact rfl; exact rfl; exact rfl; refine bT ?_; (with_reducible assumption); refine wl_mv rfl rfl ?_; apply wl_take; exact rfl; exact rfl; exact rfl; refine bT ?_; (with_reducible assumption); refine wl_mv rfl rfl ?_; apply wl_take; exact rfl; exact rfl; exact rfl; refine bT ?_; (with_reducible assumption); apply wl_val; apply opv_len; exact rfl; exact tyB.sl; exact rfl; apply wl_take; exact rfl; exact rfl; exact rfl; refine bT ?_; (with_reducible assumption); refine wl_bin rfl rfl bin_lss rfl ?_; apply wl_val; apply opv_pickT; exact rfl; refine bT ?_; (with_reducible assumption); exact rfl; exact rfl; refine wl_nil ?_; refine we_cut _ ⟨rfl, rfl⟩ ⟨congrArg (fun b => some (Value.bool b)) ?e6_0, ?s6_0⟩; (case e6_0 => ((simp [hc0]; done))); (case s6_0 => (refine And.intro rfl ?_; refine And.intro rfl ?_; refine And.intro rfl ?_; refine And.intro rfl ?_; refine And.intro rfl ?_; refine And.intro rfl ?_; refine And.intro rfl ?_; refine And.intro rfl ?_; exact True.intro)))); (focus (apply wl_skip; exact rfl; exact rfl; exact rfl; refine bFn ?_; (with_reducible assumption); exact rfl; apply wl_skip; exact rfl; exact rfl; exact rfl; refine bFn ?_; (with_reducible assumption); exact rfl; apply wl_skip; exact rfl; exact rfl; exact rfl; refine bFn ?_; (with_reducible assumption); exact rfl; apply wl_skip; exact rfl; exact rfl; exact rfl; refine bFn ?_; (with_reducible assumption); exact rfl; apply wl_val; apply opv_pickF; exact rfl; refine bF ?_; (with_reducible assumption); exact rfl; exact rfl; refine wl_nil ?_; refine we_cut _ ⟨rfl, rfl⟩ ⟨congrArg (fun b => some (Value.bool b)) ?e6_1, ?s6_1⟩; (case e6_1 => ((simp [hc0]; done))); (case s6_1 => (refine And.intro rfl ?_; refine And.intro rfl ?_; refine And.intro rfl ?_; refine And.intro rfl ?_; refine And.intro rfl ?_; refine And.intro rfl ?_; refine And.intro rfl ?_; refine And.intro rfl ?_; exact True.intro)))))); dsimp only [List.drop]
  refine wl_ns ?_
  refine wc_cond rfl (fun h1 => ?_) (fun h1 => ?_)
  · obtain ⟨x, hxk⟩ : ∃ x, xs[k]? = some x := ⟨_, List.getElem?_eq_getElem (by omega)⟩
    obtain ⟨y, hyk⟩ : ∃ y, ys[k]? = some y := ⟨_, List.getElem?_eq_getElem (by omega)⟩
    rw [drop_get hxk, drop_get hyk] at heq
    refine wc_skip ?_; refine we_seq ?_; refine wc_seq ?_; refine wc_block ?_; refine wc_seq ?_; refine wc_seq ?_
    refine wc_drawB mixed (by kernel_rfl) ?_
    apply wq_val; intro _ hw_; apply opv_move; exact rfl; exact rfl; apply wq_val; intro _ hw_; apply opv_move; exact rfl; exact rfl; apply wq_byK (T := tyB) (hr := r1) (hb := hxk); exact rfl; exact rfl; exact rfl; exact rfl; exact rfl; intro _; apply wq_val; intro _ hw_; apply opv_move; exact rfl; exact rfl; apply wq_val; intro _ hw_; apply opv_move; exact rfl; exact rfl; apply wq_byK (T := tyB) (hr := r2) (hb := hyk); exact rfl; exact rfl; exact rfl; exact rfl; exact rfl; intro _; apply wq_val; intro _ hw_; apply opv_bin; exact rfl; exact rfl; exact bin_lss; exact rfl; refine wq_nil fun w1 hw1 => ?_
    replace hb := hb.trans (hw1.mono hb.size)
    replace r1 := RdB.below r1 hw1
    replace r2 := RdB.below r2 hw1
    clear hw1
    refine we_seq ?_
    refine wc_cond rfl (fun h2 => ?_) (fun h2 => ?_)
    · refine wc_sr ?_; refine wl_as rfl rfl ?_; refine wl_ns ?_; refine wc_ret ?_; refine we_seq_ret ?_; refine we_block_ret ?_; refine we_seq_ret ?_; refine we_loop_ret ?_; refine we_block_ret ?_; refine we_seq_ret ?_
      exact we_ret1 rfl rfl ⟨_, rfl, by rw [heq, cmp_lt (UInt8.lt_iff_toNat_lt.2 (by omega))], hb⟩
    · refine wc_skip ?_; refine we_seq ?_; refine wc_seq ?_
      refine wc_drawB mixed (by kernel_rfl) ?_
      apply wq_val; intro _ hw_; apply opv_move; exact rfl; exact rfl; apply wq_val; intro _ hw_; apply opv_move; exact rfl; exact rfl; apply wq_byK (T := tyB) (hr := r1) (hb := hxk); exact rfl; exact rfl; exact rfl; exact rfl; exact rfl; intro _; apply wq_val; intro _ hw_; apply opv_move; exact rfl; exact rfl; apply wq_val; intro _ hw_; apply opv_move; exact rfl; exact rfl; apply wq_byK (T := tyB) (hr := r2) (hb := hyk); exact rfl; exact rfl; exact rfl; exact rfl; exact rfl; intro _; apply wq_val; intro _ hw_; apply opv_bin; exact rfl; exact rfl; exact bin_gtr; exact rfl; refine wq_nil fun w1 hw1 => ?_
      replace hb := hb.trans (hw1.mono hb.size)
      clear hw1
      refine we_seq ?_
      refine wc_cond rfl (fun h3 => ?_) (fun h3 => ?_)
      · refine wc_sr ?_; refine wl_as rfl rfl ?_; refine wl_ns ?_; refine wc_ret ?_; refine we_block_ret ?_; refine we_seq_ret ?_; refine we_loop_ret ?_; refine we_block_ret ?_; refine we_seq_ret ?_
        exact we_ret1 rfl rfl ⟨_, rfl, by rw [heq, cmp_gt (UInt8.lt_iff_toNat_lt.2 (by omega))], hb⟩
      · obtain rfl : x = y := UInt8.toNat_inj.1 (by omega)
        refine wc_skip ?_; refine we_block_norm ?_; refine we_seq ?_; refine wc_region ?_; refine wl_mv rfl rfl ?_; apply wl_val; apply opv_bin; exact rfl; exact rfl; exact bin_add64 (by omega); exact rfl; refine wl_as rfl rfl ?_; refine wl_nil ?_
        refine we_loop [(0, .slice A xs.length c), (1, .slice B ys.length d), (5, .int .i64 ((k + 1 : Nat) : Int))] (xs.length - (k + 1)) ⟨k + 1, rfl, by omega, by omega, by rw [heq, cmp_same], hb, rfl⟩ (by omega) ⟨rfl, rfl, by simp [lookT], trivial⟩
  · refine wc_exit ?_; refine we_seq_exit ?_; refine we_loop_exit ?_; refine we_block_exit ?_; refine we_seq ?_; refine wc_seq ?_; refine wc_sr ?_; refine wl_mv rfl rfl ?_; apply wl_val; apply opv_len; exact rfl; exact tyB.sl; exact rfl; refine wl_mv rfl rfl ?_; apply wl_val; apply opv_len; exact rfl; exact tyB.sl; exact rfl; refine wl_bin rfl rfl bin_lss rfl ?_; refine wl_ns ?_
    refine wc_cond rfl (fun h2 => ?_) (fun h2 => ?_)
    · refine wc_sr ?_; refine wl_as rfl rfl ?_; refine wl_ns ?_; refine wc_ret ?_; refine we_seq_ret ?_
      exact we_ret1 rfl rfl ⟨_, rfl, by rw [heq, cmp_short (List.drop_of_length_le (by omega)) (by simp; omega)], hb⟩
    · refine wc_skip ?_; refine we_seq ?_; refine wc_seq ?_; refine wc_sr ?_; refine wl_mv rfl rfl ?_; apply wl_val; apply opv_len; exact rfl; exact tyB.sl; exact rfl; refine wl_mv rfl rfl ?_; apply wl_val; apply opv_len; exact rfl; exact tyB.sl; exact rfl; refine wl_bin rfl rfl bin_gtr rfl ?_; refine wl_ns ?_
      refine wc_cond rfl (fun h3 => ?_) (fun h3 => ?_)
      · refine wc_sr ?_; refine wl_as rfl rfl ?_; refine wl_ns ?_; refine wc_ret ?_; refine we_seq_ret ?_
        exact we_ret1 rfl rfl ⟨_, rfl, by rw [heq, cmp_long (by simp; omega) (List.drop_of_length_le (by omega))], hb⟩
      · refine wc_skip ?_; refine we_seq ?_; refine wc_sr ?_; refine wl_as rfl rfl ?_; refine wl_ns ?_; refine wc_ret ?_
        exact we_ret1 rfl rfl ⟨_, rfl, by rw [heq, List.drop_of_length_le (show xs.length ≤ k by omega), List.drop_of_length_le (show ys.length ≤ k by omega)]; rfl, hb⟩
end Go.Proofs.Ytpnckagibkdcpaa


/-
  Walks over utf8.AppendRune and the builder's WriteRune, at runes that can be written.
-/
namespace Go.Proofs.Ytpnckagibkdcpaa
open Go.RowKit

theorem or_sum {a b i : Nat} (h : b < 2 ^ i) : 2 ^ i * a ||| b = 2 ^ i * a + b := (Nat.two_pow_add_eq_or_of_lt h a).symm
theorem or128b (x : Nat) : 128 ||| (x % 256 &&& 63) = 128 + x % 64 := by
  have e : x % 256 &&& 63 = x % 64 := by
    rw [show 63 = 2 ^ 6 - 1 from rfl, Nat.and_two_pow_sub_one_eq_mod]; omega
  rw [e]; exact or_sum (a := 1) (i := 7) (by omega)
theorem or192 {x : Nat} (h : x < 32) : 192 ||| x = 192 + x := or_sum (a := 3) (i := 6) (by omega)
theorem or224 {x : Nat} (h : x < 32) : 224 ||| x = 224 + x := or_sum (a := 7) (i := 5) (by omega)
theorem or240 {x : Nat} (h : x < 16) : 240 ||| x = 240 + x := or_sum (a := 15) (i := 4) (by omega)
/-- Bytes have come to be behind a row of the call's own. -/
def RetAp (w : World) (base : Nat) (A : Option Addr) (ys : List UInt8) (v : Value) (w' : World) : Prop :=
  ∃ (A' : Option Addr) (c' : Nat), v = .slice A' ys.length c' ∧ OwB w' base A' c' ys ∧ Gr w w' A ∧ (A'.map (·.block) = A.map (·.block) ∨ ∀ a', A' = some a' → w.heap.size ≤ a'.block)
theorem retAp {w w' : World} {base k c' : Nat} {A A' : Option Addr} {xs ys : List UInt8} {vs : List Value} (ho : Ow w' base 5 A' (xs.length + k) c' (bvs xs ++ vs)) (g : Gr w w' A) (hat : A'.map (·.block) = A.map (·.block) ∨ ∀ a', A' = some a' → w.heap.size ≤ a'.block)
    (hv : bvs ys = vs) : RetAp w base A (xs ++ ys) (.slice A' (xs.length + k) c') w' := by
  subst hv
  have hk : ys.length = k := by have := ho.len; simp [bvs_length] at this; omega
  subst hk
  exact ⟨A', c', by simp, OwB.app ho, g, hat⟩
set_option maxHeartbeats 2000000 in
set_option maxRecDepth 10000 in
theorem appendNon_any {w : World} {base c r : Nat} {A : Option Addr} {xs : List UInt8} (ho : OwB w base A c xs) (hb : base ≤ w.heap.size) (hl : xs.length ≤ 70368744177664) (hv : Val r) (h128 : 128 ≤ r) :
    CallsV Try.prog 80 #[.slice A xs.length c, .int .i32 (r : Int)] w (RetAp w base A (xs ++ enc r)) := by
  have hr : r ≤ 1114111 := by unfold Val at hv; omega
  refine calls_in (N := _) Try.func80 rfl Try.ntmps80 rfl ?_; show WC _ _ _ _ _ _
  refine wc_sr ?_; refine wl_as rfl rfl ?_; refine wl_ns ?_; refine wc_sr ?_; refine wl_mv rfl rfl ?_; apply wl_val; apply opv_convR; exact rfl; exact Try.underlying21; exact Try.underlying128; exact IntWalk.u32_in _ (by omega); exact rfl; refine wl_as rfl rfl ?_; refine wl_ns ?_; refine wc_block ?_; refine wc_sr ?_; refine wl_mv rfl rfl ?_; refine wl_bin rfl rfl bin_leq rfl ?_; refine wl_as rfl rfl ?_; refine wl_ns ?_
  refine wc_cond rfl (fun h1 => ?_) (fun h1 => ?_)
  · refine wc_sr ?_; refine wl_mv rfl rfl ?_; refine wl_mv rfl rfl ?_; apply wl_val; apply opv_bin; exact rfl; exact rfl; exact bin_shr (y := 6) (by simp only [IntKind.bits]; omega); exact rfl; apply wl_val; apply opv_convR; exact rfl; exact Try.underlying21; exact Try.underlying5; exact IntWalk.u8_in _ (by omega); exact rfl; apply wl_val; apply opv_bin; exact rfl; exact rfl; exact bin_or (a := 192) rfl (by decide) (by simp only [IntKind.bits]; omega); exact rfl; refine wl_mv rfl rfl ?_; apply wl_val; apply opv_convR; exact rfl; exact Try.underlying21; exact Try.underlying5; exact wrap_nat rfl _; exact rfl; apply wl_val; apply opv_bin; exact rfl; exact rfl; exact bin_and (b := 63) rfl (Nat.mod_lt _ (by decide)) (by decide); exact rfl; apply wl_val; apply opv_bin; exact rfl; exact rfl; exact bin_or (a := 128) rfl (by decide) (Nat.lt_of_le_of_lt Nat.and_le_right (by decide)); exact rfl
    refine wl_push (vs := [_, _]) tyB rfl ho ⟨rfl, rfl, rfl, rfl, rfl, rfl, trivial⟩ rfl (by decide) rfl (by omega) (by simp only [maxLen]; omega) hb rfl rfl fun q A2 c2 w2 o2 g2 hat => ?_
    refine wl_as rfl rfl ?_; refine wl_ns ?_; refine wc_ret ?_; refine we_block_ret ?_
    refine we_ret1 rfl rfl ⟨_, rfl, retAp o2 g2 hat ?_⟩
    rw [enc_two h128 (by omega)]
    simp only [bvs, List.map]
    rw [bv_of (by omega), bv_of (by omega), show (2 : Nat) ^ 6 = 64 from rfl, or192 (show r / 64 < 32 by omega), show 2 ^ IntKind.u8.bits = 256 from rfl, or128b]
  refine wc_seq ?_; refine wc_sr ?_; refine wl_mv rfl rfl ?_; refine wl_bin rfl rfl bin_lss rfl ?_; refine wl_as rfl rfl ?_; refine wl_ns ?_
  refine wc_cutE (fun L' w' => L' = [(0, .slice A xs.length c), (1, .int .i32 (r : Int)), (5, .int .u32 (r : Int)), (25, .bool (decide (r < 55296 ∨ (57343 < r ∧ r ≤ 65535))))] ∧ w = w') ?_ ?_
  · refine wc_cond rfl (fun h2 => ?_) (fun h2 => ?_)
    · refine wc_skip ?_
      refine we_cut _ ⟨rfl, rfl⟩ ⟨rfl, rfl, rfl, ?_, trivial⟩
      rw [decide_eq_true (show r < 55296 ∨ (57343 < r ∧ r ≤ 65535) by omega)]
      exact congrArg (fun b => some (Value.bool b)) (decide_eq_true h2)
    · refine wc_region ?_; refine wl_mv rfl rfl ?_; refine wl_bin rfl rfl bin_lss rfl ?_; refine wl_mv rfl rfl ?_
      refine wl_cutV 3 33 (.bool (decide ((57343 < (r : Int)) ∧ ((r : Int) ≤ 65535)))) ?c6 ?_; (case c6 => (dsimp only [List.take]; by_cases hc0 : (57343 < (r : Int)); (focus (apply wl_take; exact rfl; exact rfl; exact rfl; refine bT ?_; (with_reducible assumption); refine wl_mv rfl rfl ?_; apply wl_take; exact rfl; exact rfl; exact rfl; refine bT ?_; (with_reducible assumption); refine wl_bin rfl rfl bin_leq rfl ?_; apply wl_val; apply opv_pickT; exact rfl; refine bT ?_; (with_reducible assumption); exact rfl; exact rfl; refine wl_nil ?_; refine we_cut _ ⟨rfl, rfl⟩ ⟨congrArg (fun b => some (Value.bool b)) ?e6_0, ?s6_0⟩; (case e6_0 => ((simp [hc0]; done))); (case s6_0 => (refine And.intro rfl ?_; refine And.intro rfl ?_; refine And.intro rfl ?_; refine And.intro rfl ?_; refine And.intro rfl ?_; refine And.intro rfl ?_; refine And.intro rfl ?_; refine And.intro rfl ?_; refine And.intro rfl ?_; refine And.intro rfl ?_; refine And.intro rfl ?_; refine And.intro rfl ?_; refine And.intro rfl ?_; refine And.intro rfl ?_; refine And.intro rfl ?_; exact True.intro)))); (focus (apply wl_skip; exact rfl; exact rfl; exact rfl; refine bFn ?_; (with_reducible assumption); exact rfl; apply wl_skip; exact rfl; exact rfl; exact rfl; refine bFn ?_; (with_reducible assumption); exact rfl; apply wl_val; apply opv_pickF; exact rfl; refine bF ?_; (with_reducible assumption); exact rfl; exact rfl; refine wl_nil ?_; refine we_cut _ ⟨rfl, rfl⟩ ⟨congrArg (fun b => some (Value.bool b)) ?e6_1, ?s6_1⟩; (case e6_1 => ((simp [hc0]; done))); (case s6_1 => (refine And.intro rfl ?_; refine And.intro rfl ?_; refine And.intro rfl ?_; refine And.intro rfl ?_; refine And.intro rfl ?_; refine And.intro rfl ?_; refine And.intro rfl ?_; refine And.intro rfl ?_; refine And.intro rfl ?_; refine And.intro rfl ?_; refine And.intro rfl ?_; refine And.intro rfl ?_; refine And.intro rfl ?_; refine And.intro rfl ?_; refine And.intro rfl ?_; exact True.intro)))))); dsimp only [List.drop]
      refine wl_as rfl rfl ?_; refine wl_nil ?_
      refine we_cut _ ⟨rfl, rfl⟩ ⟨rfl, rfl, rfl, ?_, trivial⟩
      refine congrArg (fun b => some (Value.bool b)) ?_
      rw [Bool.eq_iff_iff]; simp only [decide_eq_true_eq]; omega
  rintro _ _ ⟨rfl, rfl⟩
  refine we_seq ?_
  refine wc_cond rfl (fun h2 => ?_) (fun h2 => ?_)
  · refine wc_sr ?_; refine wl_mv rfl rfl ?_; refine wl_mv rfl rfl ?_; apply wl_val; apply opv_bin; exact rfl; exact rfl; exact bin_shr (y := 12) (by simp only [IntKind.bits]; omega); exact rfl; apply wl_val; apply opv_convR; exact rfl; exact Try.underlying21; exact Try.underlying5; exact IntWalk.u8_in _ (by omega); exact rfl; apply wl_val; apply opv_bin; exact rfl; exact rfl; exact bin_or (a := 224) rfl (by decide) (by simp only [IntKind.bits]; omega); exact rfl; refine wl_mv rfl rfl ?_; apply wl_val; apply opv_bin; exact rfl; exact rfl; exact bin_shr (y := 6) (by simp only [IntKind.bits]; omega); exact rfl; apply wl_val; apply opv_convR; exact rfl; exact Try.underlying21; exact Try.underlying5; exact wrap_nat rfl _; exact rfl; apply wl_val; apply opv_bin; exact rfl; exact rfl; exact bin_and (b := 63) rfl (Nat.mod_lt _ (by decide)) (by decide); exact rfl; apply wl_val; apply opv_bin; exact rfl; exact rfl; exact bin_or (a := 128) rfl (by decide) (Nat.lt_of_le_of_lt Nat.and_le_right (by decide)); exact rfl; refine wl_mv rfl rfl ?_; apply wl_val; apply opv_convR; exact rfl; exact Try.underlying21; exact Try.underlying5; exact wrap_nat rfl _; exact rfl; apply wl_val; apply opv_bin; exact rfl; exact rfl; exact bin_and (b := 63) rfl (Nat.mod_lt _ (by decide)) (by decide); exact rfl; apply wl_val; apply opv_bin; exact rfl; exact rfl; exact bin_or (a := 128) rfl (by decide) (Nat.lt_of_le_of_lt Nat.and_le_right (by decide)); exact rfl
    refine wl_push (vs := [_, _, _]) tyB rfl ho ⟨rfl, rfl, rfl, rfl, rfl, rfl, rfl, rfl, rfl, trivial⟩ rfl (by decide) rfl (by omega) (by simp only [maxLen]; omega) hb rfl rfl fun q A2 c2 w2 o2 g2 hat => ?_
    refine wl_as rfl rfl ?_; refine wl_ns ?_; refine wc_ret ?_; refine we_block_ret ?_
    refine we_ret1 rfl rfl ⟨_, rfl, retAp o2 g2 hat ?_⟩
    rw [enc_three (by omega)]
    simp only [bvs, List.map]
    rw [bv_of (by omega), bv_of (by omega), bv_of (by omega), show (2 : Nat) ^ 6 = 64 from rfl, show (2 : Nat) ^ 12 = 4096 from rfl, or224 (show r / 4096 < 32 by omega), show 2 ^ IntKind.u8.bits = 256 from rfl, or128b, or128b]
  refine wc_sr ?_; refine wl_mv rfl rfl ?_; refine wl_bin rfl rfl bin_gtr rfl ?_; refine wl_mv rfl rfl ?_
  refine wl_cutV 3 56 (.bool (decide ((65535 < (r : Int)) ∧ ((r : Int) ≤ 1114111)))) ?c17 ?_; (case c17 => (dsimp only [List.take]; by_cases hc0 : (65535 < (r : Int)); (focus (apply wl_take; exact rfl; exact rfl; exact rfl; refine bT ?_; (with_reducible assumption); refine wl_mv rfl rfl ?_; apply wl_take; exact rfl; exact rfl; exact rfl; refine bT ?_; (with_reducible assumption); refine wl_bin rfl rfl bin_leq rfl ?_; apply wl_val; apply opv_pickT; exact rfl; refine bT ?_; (with_reducible assumption); exact rfl; exact rfl; refine wl_nil ?_; refine we_cut _ ⟨rfl, rfl⟩ ⟨congrArg (fun b => some (Value.bool b)) ?e17_0, ?s17_0⟩; (case e17_0 => ((simp [hc0]; done))); (case s17_0 => (refine And.intro rfl ?_; refine And.intro rfl ?_; refine And.intro rfl ?_; refine And.intro rfl ?_; refine And.intro rfl ?_; refine And.intro rfl ?_; refine And.intro rfl ?_; exact True.intro)))); (focus (apply wl_skip; exact rfl; exact rfl; exact rfl; refine bFn ?_; (with_reducible assumption); exact rfl; apply wl_skip; exact rfl; exact rfl; exact rfl; refine bFn ?_; (with_reducible assumption); exact rfl; apply wl_val; apply opv_pickF; exact rfl; refine bF ?_; (with_reducible assumption); exact rfl; exact rfl; refine wl_nil ?_; refine we_cut _ ⟨rfl, rfl⟩ ⟨congrArg (fun b => some (Value.bool b)) ?e17_1, ?s17_1⟩; (case e17_1 => ((simp [hc0]; done))); (case s17_1 => (refine And.intro rfl ?_; refine And.intro rfl ?_; refine And.intro rfl ?_; refine And.intro rfl ?_; refine And.intro rfl ?_; refine And.intro rfl ?_; refine And.intro rfl ?_; exact True.intro)))))); dsimp only [List.drop]
  refine wl_as rfl rfl ?_; refine wl_ns ?_
  refine wc_cond rfl (fun h3 => ?_) (fun h3 => absurd (show 65535 < (r : Int) ∧ (r : Int) ≤ 1114111 by unfold Val at hv; omega) h3)
  · refine wc_sr ?_; refine wl_mv rfl rfl ?_; refine wl_mv rfl rfl ?_; apply wl_val; apply opv_bin; exact rfl; exact rfl; exact bin_shr (y := 18) (by simp only [IntKind.bits]; omega); exact rfl; apply wl_val; apply opv_convR; exact rfl; exact Try.underlying21; exact Try.underlying5; exact IntWalk.u8_in _ (by omega); exact rfl; apply wl_val; apply opv_bin; exact rfl; exact rfl; exact bin_or (a := 240) rfl (by decide) (by simp only [IntKind.bits]; omega); exact rfl; refine wl_mv rfl rfl ?_; apply wl_val; apply opv_bin; exact rfl; exact rfl; exact bin_shr (y := 12) (by simp only [IntKind.bits]; omega); exact rfl; apply wl_val; apply opv_convR; exact rfl; exact Try.underlying21; exact Try.underlying5; exact wrap_nat rfl _; exact rfl; apply wl_val; apply opv_bin; exact rfl; exact rfl; exact bin_and (b := 63) rfl (Nat.mod_lt _ (by decide)) (by decide); exact rfl; apply wl_val; apply opv_bin; exact rfl; exact rfl; exact bin_or (a := 128) rfl (by decide) (Nat.lt_of_le_of_lt Nat.and_le_right (by decide)); exact rfl; refine wl_mv rfl rfl ?_; apply wl_val; apply opv_bin; exact rfl; exact rfl; exact bin_shr (y := 6) (by simp only [IntKind.bits]; omega); exact rfl; apply wl_val; apply opv_convR; exact rfl; exact Try.underlying21; exact Try.underlying5; exact wrap_nat rfl _; exact rfl; apply wl_val; apply opv_bin; exact rfl; exact rfl; exact bin_and (b := 63) rfl (Nat.mod_lt _ (by decide)) (by decide); exact rfl; apply wl_val; apply opv_bin; exact rfl; exact rfl; exact bin_or (a := 128) rfl (by decide) (Nat.lt_of_le_of_lt Nat.and_le_right (by decide)); exact rfl; refine wl_mv rfl rfl ?_; apply wl_val; apply opv_convR; exact rfl; exact Try.underlying21; exact Try.underlying5; exact wrap_nat rfl _; exact rfl; apply wl_val; apply opv_bin; exact rfl; exact rfl; exact bin_and (b := 63) rfl (Nat.mod_lt _ (by decide)) (by decide); exact rfl; apply wl_val; apply opv_bin; exact rfl; exact rfl; exact bin_or (a := 128) rfl (by decide) (Nat.lt_of_le_of_lt Nat.and_le_right (by decide)); exact rfl
    refine wl_push (vs := [_, _, _, _]) tyB rfl ho ⟨rfl, rfl, rfl, rfl, rfl, rfl, rfl, rfl, rfl, rfl, rfl, rfl, trivial⟩ rfl (by decide) rfl (by omega) (by simp only [maxLen]; omega) hb rfl rfl fun q A2 c2 w2 o2 g2 hat => ?_
    refine wl_as rfl rfl ?_; refine wl_ns ?_; refine wc_ret ?_; refine we_block_ret ?_
    refine we_ret1 rfl rfl ⟨_, rfl, retAp o2 g2 hat ?_⟩
    rw [enc_four (by omega) (by omega)]
    simp only [bvs, List.map]
    rw [bv_of (by omega), bv_of (by omega), bv_of (by omega), bv_of (by omega), show (2 : Nat) ^ 6 = 64 from rfl, show (2 : Nat) ^ 12 = 4096 from rfl, show (2 : Nat) ^ 18 = 262144 from rfl, or240 (show r / 262144 < 16 by omega), show 2 ^ IntKind.u8.bits = 256 from rfl, or128b, or128b, or128b]
theorem appendRune_any {w : World} {base c r : Nat} {A : Option Addr} {xs : List UInt8} (ho : OwB w base A c xs) (hb : base ≤ w.heap.size) (hl : xs.length ≤ 70368744177664) (hv : Val r) :
    CallsV Try.prog 76 #[.slice A xs.length c, .int .i32 (r : Int)] w (RetAp w base A (xs ++ enc r)) := by
  have hr : r ≤ 1114111 := by unfold Val at hv; omega
  refine calls_in (N := _) Try.func76 rfl Try.ntmps76 rfl ?_; show WC _ _ _ _ _ _
  refine wc_sr ?_; refine wl_as rfl rfl ?_; refine wl_ns ?_; refine wc_seq ?_; refine wc_sr ?_; refine wl_mv rfl rfl ?_; apply wl_val; apply opv_convR; exact rfl; exact Try.underlying21; exact Try.underlying128; exact IntWalk.u32_in _ (by omega); exact rfl; refine wl_bin rfl rfl bin_leq rfl ?_; refine wl_ns ?_
  refine wc_cond rfl (fun h1 => ?_) (fun h1 => ?_)
  · refine wc_sr ?_; refine wl_mv rfl rfl ?_; refine wl_mv rfl rfl ?_; apply wl_val; apply opv_convR; exact rfl; exact Try.underlying21; exact Try.underlying5; exact IntWalk.u8_in _ (by omega); exact rfl
    refine wl_push (vs := [_]) tyB rfl ho ⟨rfl, rfl, rfl, trivial⟩ rfl (by decide) rfl (by omega) (by simp only [maxLen]; omega) hb rfl rfl fun q A2 c2 w2 o2 g2 hat => ?_
    refine wl_as rfl rfl ?_; refine wl_ns ?_; refine wc_ret ?_; refine we_seq_ret ?_
    refine we_ret1 rfl rfl ⟨_, rfl, retAp o2 g2 hat ?_⟩
    rw [enc_one (by omega)]
    simp only [bvs, List.map]
    rw [bv_of (by omega)]
  · refine wc_skip ?_; refine we_seq ?_; refine wc_sr ?_; refine wl_mv rfl rfl ?_; refine wl_mv rfl rfl ?_
    refine wl_call ok_unicode_utf8_appendRuneNonASCII (appendNon_any ho hb hl hv (by omega)) ⟨rfl, rfl, trivial⟩ rfl ?_
    rintro v w2 h2
    refine wl_as rfl rfl ?_; refine wl_ns ?_; refine wc_ret ?_
    exact we_ret1 rfl rfl ⟨_, rfl, h2⟩

theorem ok_strings_Builder_copyCheck : CallOk Try.prog 75 := callOk Try.func75 (by kernel_rfl) rfl
theorem ok_strings_Builder_WriteRune : CallOk Try.prog 64 := callOk Try.func64 (by kernel_rfl) rfl
theorem ok_strings_Builder_String : CallOk Try.prog 66 := callOk Try.func66 (by kernel_rfl) rfl
/-- A builder in a block of its own that holds these bytes. -/
def Bd (w : World) (B b : Nat) (p : Value) (A : Option Addr) (c : Nat) (bs : List UInt8) : Prop :=
  B ≤ b ∧ Ar w b 102 [p, .slice A bs.length c] ∧ OwB w B A c bs ∧ (∀ a, A = some a → a.block ≠ b) ∧ (p = .pointer none ∨ p = .pointer (some ⟨b, 0, none⟩))
theorem fa_b0 : FieldAt Try.prog 102 0 0 := fieldAt_mk Try.underlying102 rfl rfl (by kernel_rfl)
theorem fa_b1 : FieldAt Try.prog 102 1 1 := fieldAt_mk Try.underlying102 rfl rfl (by kernel_rfl)
theorem c1_pb : Cell1 Try.prog 100 := ⟨by kernel_rfl, by rw [Try.underlying100]⟩
theorem c1_sb : Cell1 Try.prog 24 := ⟨by kernel_rfl, by rw [Try.underlying24]⟩
theorem run_infoB : ∃ j, Try.prog.info? 102 = some j ∧ j.size ≠ 0 := by
  have h : (Try.prog.info? 102).map (·.size) = some 2 := by kernel_rfl
  cases hq : Try.prog.info? 102 with
  | none => simp [hq] at h
  | some i => exact ⟨i, rfl, by have : i.size = 2 := by simpa [hq] using h
                                omega⟩
theorem noEscape_run (v : Value) (w : World) : (callFunc 79 #[v]).run Try.prog w = .ok (.value v) w := by
  rw [run_callFunc_extern Try.func79 (by kernel_rfl) rfl (by kernel_rfl) (e := Extern.AbiNoEscape.same) (by kernel_rfl)]
  simp only [Sem.run_bind, Lib.run_noEscape]
  simp
theorem copyCheck_any {w : World} {B b c : Nat} {p : Value} {A : Option Addr} {bs : List UInt8} (h : Bd w B b p A c bs) :
    CallsV Try.prog 75 #[.pointer (some ⟨b, 0, none⟩)] w fun v w' => Bd w' B b (.pointer (some ⟨b, 0, none⟩)) A c bs ∧ Gr w w' (some ⟨b, 0, none⟩) := by
  obtain ⟨hB, ha, ho, hne, hp⟩ := h
  obtain ⟨j, hj, hj0⟩ := run_infoB
  refine calls_in (N := _) Try.func75 rfl Try.ntmps75 rfl ?_; show WC _ _ _ _ _ _
  refine wc_sr ?_; refine wl_mv rfl rfl ?_
  refine wl_val (opv_nilOk rfl) rfl ?_
  skip
  refine wl_val (opv_fa fa_b0 rfl) rfl ?_
  refine wl_val (opv_ldA c1_pb ha rfl rfl) rfl ?_
  rcases hp with rfl | rfl
  · refine wl_bin rfl rfl (bin_eqlNilNil Try.underlying100) rfl ?_
    have hsh := ha.shape
    refine wl_ns ?_; apply wc_condTb; exact rfl; exact rfl; refine wc_region ?_; refine wl_mv rfl rfl ?_; refine wl_mv rfl rfl ?_
    refine wl_val (opv_convWith rfl (Lib.run_to_unsafe w ⟨b, 0, none⟩ Try.underlying100 Try.underlying126 hj hj0 hsh (by simp))) rfl ?_
    refine wl_ext (noEscape_run _ w) ⟨rfl, trivial⟩ rfl ?_
    refine wl_val (opv_convWith rfl (Lib.run_from_unsafe w ⟨b, 0, none⟩ Try.underlying126 Try.underlying100 hj hsh (by kernel_rfl))) rfl ?_
    refine wl_val (opv_nilOk rfl) rfl ?_
    skip
    refine wl_val (opv_fa fa_b0 rfl) rfl ?_
    refine wl_stA c1_pb ha rfl (by simp) rfl rfl fun w1 a1 g1 _ => ?_
    have o1 : OwB w1 B A c bs := Ow.gr (base' := 0) (e' := 0) ho g1 fun a b' ha hb' => by cases hb'; exact hne a ha
    have ha2 : Ar w1 b 102 [.pointer (some ⟨b, 0, none⟩), .slice A bs.length c] := a1
    refine wl_nil ?_
    exact we_end0 rfl ⟨_, rfl, ⟨hB, ha2, o1, hne, .inr rfl⟩, g1⟩
  · refine wl_bin rfl rfl (bin_eqlPtrNil Try.underlying100) rfl ?_
    refine wl_ns ?_; apply wc_condFb; exact rfl; exact rfl; refine wc_sr ?_; refine wl_mv rfl rfl ?_
    refine wl_val (opv_nilOk rfl) rfl ?_
    skip
    refine wl_val (opv_fa fa_b0 rfl) rfl ?_
    refine wl_val (opv_ldA c1_pb ha rfl rfl) rfl ?_
    refine wl_mv rfl rfl ?_
    refine wl_bin rfl rfl (bin_neqPtrSelf Try.underlying100 hj) rfl ?_
    refine wl_ns ?_; apply wc_condFb; exact rfl; exact rfl; refine wc_skip ?_
    exact we_end0 rfl ⟨_, rfl, ⟨hB, ha, ho, hne, .inr rfl⟩, Gr.refl _ _⟩
theorem writeRune_any {w : World} {B b c r : Nat} {p : Value} {A : Option Addr} {bs : List UInt8} (h : Bd w B b p A c bs) (hl : bs.length ≤ 70368744177664) (hv : Val r) :
    CallsV Try.prog 64 #[.pointer (some ⟨b, 0, none⟩), .int .i32 (r : Int)] w fun v w' => ∃ (A' : Option Addr) (c' : Nat) (w1 w2 : World), Bd w' B b (.pointer (some ⟨b, 0, none⟩)) A' c' (bs ++ enc r) ∧ Gr w w1 (some ⟨b, 0, none⟩) ∧ Gr w1 w2 A ∧ Gr w2 w' (some ⟨b, 0, none⟩) := by
  have hbw : b < w.heap.size := h.2.1.lt
  have hBb := h.1
  have hel := enc_length r
  refine calls_in (N := _) Try.func64 rfl Try.ntmps64 rfl ?_; show WC _ _ _ _ _ _
  refine wc_sr ?_; refine wl_as rfl rfl ?_; refine wl_as rfl rfl ?_; refine wl_ns ?_; refine wc_sr ?_; refine wl_mv rfl rfl ?_
  refine wl_call ok_strings_Builder_copyCheck (copyCheck_any h) ⟨rfl, trivial⟩ rfl ?_
  rintro _ w1 ⟨⟨hB, a1, o1, hne, hp⟩, g1⟩
  have hs1 := g1.size
  refine wl_ns ?_; refine wc_sr ?_; refine wl_mv rfl rfl ?_
  refine wl_val (opv_nilOk rfl) rfl ?_
  refine wl_val (opv_fa fa_b1 rfl) rfl ?_
  refine wl_val (opv_ldA c1_sb a1 rfl rfl) rfl ?_
  apply wl_val; apply opv_len; exact rfl; exact tyB.sl; exact rfl; refine wl_as rfl rfl ?_; refine wl_ns ?_; refine wc_sr ?_; refine wl_mv rfl rfl ?_; refine wl_mv rfl rfl ?_
  refine wl_val (opv_nilOk rfl) rfl ?_
  refine wl_val (opv_fa fa_b1 rfl) rfl ?_
  refine wl_val (opv_ldA c1_sb a1 rfl rfl) rfl ?_
  refine wl_mv rfl rfl ?_
  refine wl_call ok_unicode_utf8_AppendRune (appendRune_any o1 (by omega) hl hv) ⟨rfl, rfl, trivial⟩ rfl ?_
  rintro _ w2 ⟨A2, c2, rfl, o2, g2, hat⟩
  have hne2 : ∀ a, A2 = some a → a.block ≠ b := fun a ha hb => by
    rcases hat with hat | hat
    · rw [ha] at hat
      cases A with
      | none => simp at hat
      | some a0 => simp at hat; exact hne a0 rfl (hat ▸ hb)
    · have := hat a ha; omega
  have a2 := a1.grA g2 hne
  refine wl_val (opv_nilOk rfl) rfl ?_
  refine wl_val (opv_fa fa_b1 rfl) rfl ?_
  refine wl_stA c1_sb a2 rfl (by simp) rfl rfl fun w3 a3 g3 _ => ?_
  have ha3 : Ar w3 b 102 [.pointer (some ⟨b, 0, none⟩), .slice A2 (bs ++ enc r).length c2] := a3
  have o3 : OwB w3 B A2 c2 (bs ++ enc r) := Ow.gr (base' := 0) (e' := 0) o2 g3 fun a b' ha hb' => by cases hb'; exact hne2 a ha
  have hll : (bs ++ enc r).length ≤ 70368744177668 := by simp; omega
  refine wl_ns ?_; refine wc_sr ?_; refine wl_mv rfl rfl ?_
  refine wl_val (opv_nilOk rfl) rfl ?_
  refine wl_val (opv_fa fa_b1 rfl) rfl ?_
  refine wl_val (opv_ldA c1_sb ha3 rfl rfl) rfl ?_
  apply wl_val; apply opv_len; exact rfl; exact tyB.sl; exact rfl; refine wl_mv rfl rfl ?_; apply wl_val; apply opv_bin; exact rfl; exact rfl; exact bin_sub64 (by omega); exact rfl; refine wl_as rfl rfl ?_; refine wl_as rfl rfl ?_; refine wl_ns ?_; refine wc_ret ?_
  exact we_ret2 rfl rfl rfl ⟨_, rfl, A2, c2, w1, w2, ⟨hB, ha3, o3, hne2, .inr rfl⟩, g1, g2, g3⟩
end Go.Proofs.Ytpnckagibkdcpaa

/-
  Contracts of Go's library that the kit's shelf holds, as its tool laid them at this seat: Try.Builder_String_any.
-/
namespace Go.Proofs
open Go.Shelf
def Try.lays169_ren : Go.Shelf.Ren := ⟨fun | 169 => 66 | n => n, fun | 70 => 100 | 9 => 9 | 0 => 0 | 72 => 102 | 37 => 24 | 127 => 122 | 3 => 3 | 5 => 5 | n => n, fun | n => n⟩
theorem Try.lays169 : Go.Proofs.Lays.n169 Try.prog Try.lays169_ren := {
  mixed := by kernel_rfl
  f169 := Try.func66.trans (congrArg some (by kernel_rfl))
  t0 := Try.underlying0
  a0 := Try.isAgg0
  z0 := Try.sizeOf0
  v0 := Try.zeroValue0
  t3 := Try.underlying3
  a3 := Try.isAgg3
  z3 := Try.sizeOf3
  v3 := Try.zeroValue3
  t9 := Try.underlying9
  a9 := Try.isAgg9
  z9 := Try.sizeOf9
  v9 := Try.zeroValue9
  t37 := Try.underlying24
  a37 := Try.isAgg24
  z37 := Try.sizeOf24
  v37 := Try.zeroValue24
  t70 := Try.underlying100
  a70 := Try.isAgg100
  z70 := Try.sizeOf100
  v70 := Try.zeroValue100
  t72 := Try.underlying102
  a72 := Try.isAgg102
  z72 := Try.sizeOf102
  v72 := Try.zeroValue102
  t127 := Try.underlying122
  a127 := Try.isAgg122
  z127 := Try.sizeOf122
  v127 := Try.zeroValue122 }
theorem Try.Builder_Extra_169 : Builder.Extra Try.prog Try.lays169_ren := {
  sizeBuilder := by kernel_rfl
  liesBuilder := by kernel_rfl
  t5 := Try.underlying5
  a5 := Try.isAgg5
  z5 := Try.sizeOf5
  v5 := Try.zeroValue5
  infoByte := by kernel_rfl
  cellsByte := by kernel_rfl
  sizeByte := by kernel_rfl
  neB5 := by decide }
open Go.RowKit in
theorem Try.Builder_String_any (B b : Nat) (l : List UInt8) (w : World) (h : Lib.IsBuilder 102 5 B b (Lib.byteCells l) w) (hBw : B ≤ w.heap.size) :
    Calls Try.prog 66 #[.pointer (some ⟨b, 0, none⟩)] w fun e w' => e = .returned (.string ⟨l.toArray⟩) ∧ Below B w w' := Any.Builder_String_any Try.lays169 Try.Builder_Extra_169 B b l w h hBw

end Go.Proofs
