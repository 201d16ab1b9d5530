
/-
  The engine's rules for memory: reading an element of a slice, append, make, a slice expression, a store into a row of the call's own. Nothing here names the program.
-/
import Derived.Test.YtcjiecclmepboaaEng
import Derived.Laws.MakeOwn
import Derived.Laws.OwnMore
namespace Go.Proofs.Ytcjiecclmepboaa
open Go.RowKit

theorem cells_one {v : Value} (h : v.oneCell' = true) : v.cells = #[v] := by cases v <;> first | rfl | (simp [Value.oneCell'] at h)

/-- Slice type t has elements of type e, of one cell each. -/
structure Row1 (P : Program) (t e : TypeId) (z : Value) (bytes : Nat) : Prop where
  sl : P.underlying t = some (.slice e)
  info : (P.info? e).map (fun i => (i.zero, i.size, i.bytes)) = some (some z, 1, bytes)
  one : z.oneCell' = true
  flat : (match P.underlying e with | some (.struct _) => true | some (.array _ _) => true | some _ => false | none => true) = false

theorem Row1.agg {P : Program} {t e : TypeId} {z : Value} {bytes : Nat} (T : Row1 P t e z bytes) (w : World) : (isAgg e).run P w = .ok false w := by
  have h := T.flat
  unfold isAgg
  cases hu : P.underlying e with
  | none => rw [hu] at h; simp at h
  | some d =>
    rw [hu] at h
    rw [Sem.run_bind, run_underlying hu]
    cases d <;> first | (simp at h; done) | simp
theorem Row1.size {P : Program} {t e : TypeId} {z : Value} {bytes : Nat} (T : Row1 P t e z bytes) (w : World) : (sizeOf e).run P w = .ok 1 w := by
  obtain ⟨i, hi, _, hs, _⟩ := info_parts T.info
  simp [sizeOf, typeInfo, hi, hs]
theorem Row1.zero {P : Program} {t e : TypeId} {z : Value} {bytes : Nat} (T : Row1 P t e z bytes) (w : World) : (zeroValue e).run P w = .ok z w := by
  obtain ⟨i, hi, hz, _, _⟩ := info_parts T.info
  simp [zeroValue, typeInfo, hi, hz]

/-- Row A alone, beside new blocks, has been written. -/
def Gr (w w' : World) (A : Option Addr) : Prop := w.grownBy w' (A.map (·.block))
theorem ownBlock_slice (A : Option Addr) (n c : Nat) : (Value.slice A n c).ownBlock = A.map (·.block) := by cases A <;> rfl
theorem Gr.refl (w : World) (A : Option Addr) : Gr w w A := ⟨rfl, rfl, rfl, Nat.le_refl _, fun _ _ _ => rfl⟩
theorem Gr.size {w w' : World} {A : Option Addr} (g : Gr w w' A) : w.heap.size ≤ w'.heap.size := World.grownBy.size g
theorem Gr.of_below {w w' : World} {B : Nat} (A : Option Addr) (h : Below B w w') (hB : w.heap.size ≤ B) : Gr w w' A := ⟨h.os, h.tape, h.output, h.size, fun k hk _ => h.block k (by omega)⟩
theorem Gr.trans {w w1 w2 : World} {A : Option Addr} (g : Gr w w1 A) (h : Gr w1 w2 A) : Gr w w2 A := World.grownBy.trans g h
/-- What lies below the row's first block is as it was. -/
theorem Gr.below {w0 w w' : World} {B base : Nat} {e : TypeId} {A : Option Addr} {n c : Nat} {xs : List Value} (g : Gr w w' A) (h : Below B w0 w) (ho : Ow w base e A n c xs) (hb : B ≤ base) (hB : B ≤ w.heap.size) : Below B w0 w' :=
  h.grown g hB fun k hk => Nat.le_trans hb (World.ownsRow.lt ho k (by rw [ownBlock_slice]; exact hk)).1
/-- A row of the call's own in another block stays. -/
theorem Ow.gr {w w' : World} {base base' : Nat} {e e' : TypeId} {A B : Option Addr} {n c : Nat} {xs : List Value} (h : Ow w base e A n c xs) (g : Gr w w' B)
    (hne : ∀ a b, A = some a → B = some b → a.block ≠ b.block) : Ow w' base e A n c xs := by
  refine World.ownsRow.kept h g ?_
  cases A with
  | none => exact .inl rfl
  | some a => refine .inr ?_; cases B with
    | none => simp [Value.ownBlock]
    | some b => simpa [Value.ownBlock] using hne a b rfl rfl
theorem Rd.gr {w w' : World} {A B : Option Addr} {n : Nat} {xs : List Value} (h : Rd w A n xs) (g : Gr w w' B)
    (hne : ∀ a b, A = some a → B = some b → a.block ≠ b.block) : Rd w' A n xs := ⟨h.1, fun hn => by
  obtain ⟨b, o, hA, hb, hc⟩ := h.2 hn
  refine ⟨b, o, hA, Nat.lt_of_lt_of_le hb g.size, fun j u hu => ?_⟩
  rw [World.cell?_of_block (w := w) (a := ⟨b, o + j, none⟩) (World.grownBy.block g b hb ?_)]
  · exact hc j u hu
  · cases B with
    | none => simp
    | some q => have := hne _ q hA rfl; simpa using this⟩
/-- Where a row of the call's own lies. -/
theorem Ow.lt {w : World} {base : Nat} {e : TypeId} {A : Option Addr} {n c : Nat} {xs : List Value} (h : Ow w base e A n c xs) : ∀ a, A = some a → base ≤ a.block ∧ a.block < w.heap.size := fun a ha =>
  World.ownsRow.lt h a.block (by rw [ha]; rfl)
theorem Rd.lt {w : World} {A : Option Addr} {n : Nat} {xs : List Value} (h : Rd w A n xs) (hn : 0 < n) : ∀ a, A = some a → a.block < w.heap.size := fun a ha => by
  obtain ⟨b, o, hA, hb, _⟩ := h.2 hn
  rw [hA] at ha; cases ha; exact hb

theorem getElem?_bvs {l : List UInt8} {k : Nat} {u : Value} (h : (bvs l)[k]? = some u) : ∃ b, l[k]? = some b ∧ u = bv b := by
  unfold bvs at h
  rw [List.getElem?_map] at h
  cases hl : l[k]? with
  | none => rw [hl] at h; cases h
  | some b => rw [hl] at h; exact ⟨b, rfl, by simpa using h.symm⟩

section
variable {P : Program} {N : Nat} {ops : Array Oper} {Q : Exit → Act → World → Prop} {rest : List Oper} {L : FL} {w : World} {t e : TypeId} {z : Value} {bytes : Nat}

theorem opv_len {x : Operand} {ty : TypeId} {A : Option Addr} {n c : Nat} (hx : look L x = some (.slice A n c)) (ht : P.underlying t = some (.slice e)) :
    OpV P (.call { callee := .builtin .len, args := #[x], argTypes := #[t] }) ty L w (.int .i64 (n : Int)) w := fun ρ o hρ ho _ => by
  simp [execOp, ho, resolve, invoke, builtin, Builtin.len_, hρ x _ hx, run_underlying ht, goInt]
theorem opv_lenS {x : Operand} {ty : TypeId} {s : ByteArray} (hx : look L x = some (.string s)) (ht : P.underlying t = some .string) :
    OpV P (.call { callee := .builtin .len, args := #[x], argTypes := #[t] }) ty L w (.int .i64 (s.size : Int)) w := fun ρ o hρ ho _ => by
  simp [execOp, ho, resolve, invoke, builtin, Builtin.len_, hρ x _ hx, run_underlying ht, goInt]

/-- The address of an element. -/
theorem opv_idx {x i : Operand} {ty : TypeId} {b o : Nat} {n c kk : Nat} {ik : IntKind} {q : Int} (T : Row1 P t e z bytes) (hx : look L x = some (.slice (some ⟨b, o, none⟩) n c)) (hi : look L i = some (.int ik q)) (hq : q = (kk : Int)) (hk : kk < n) :
    OpV P (.indexAddr t x i) ty L w (.pointer (some ⟨b, o + kk, none⟩)) w := fun ρ op hρ ho _ => by
  subst hq
  simp [execOp, ho, Instr.indexAt, asIntOf, hρ x _ hx, hρ i _ hi, run_underlying T.sl, hk, T.size, Addr.add_lit]
theorem opv_load {x : Operand} {ty : TypeId} {a : Addr} {u : Value} (T : Row1 P t e z bytes) (hx : look L x = some (.pointer (some a))) (hc : w.cell? a = some u) : OpV P (.load e x) ty L w u w := fun ρ op hρ ho _ => by
  simp [execOp, ho, Instr.loadAt, Instr.sureAddr, loadVar, hρ x _ hx, T.agg, hc]

/-- The address of an element that is known, and its load, in two steps. -/
def adR (A : Option Addr) (k : Nat) : Value := .pointer (A.map fun a => a.add k)
theorem opv_idxR {x i : Operand} {ty : TypeId} {A : Option Addr} {n c kk : Nat} {ik : IntKind} {q : Int} {xs : List Value} {u : Value} {w0 : World} (T : Row1 P t e z bytes) (hx : look L x = some (.slice A n c)) (hi : look L i = some (.int ik q)) (hr : Rd w0 A n xs) (hq : q = (kk : Int)) (hu : xs[kk]? = some u) :
    OpV P (.indexAddr t x i) ty L w (adR A kk) w := by
  have hk : kk < n := by have := (List.getElem?_eq_some_iff.1 hu).1; have := hr.1; omega
  obtain ⟨b, o, rfl, _, _⟩ := hr.2 (by omega)
  have := opv_idx (P := P) (L := L) (w := w) (ty := ty) T hx hi hq hk
  simpa [adR, Addr.add_lit] using this
theorem opv_loadR {x : Operand} {ty : TypeId} {A : Option Addr} {n kk : Nat} {xs : List Value} {u : Value} (T : Row1 P t e z bytes) (hx : look L x = some (adR A kk)) (hr : Rd w A n xs) (hu : xs[kk]? = some u) : OpV P (.load e x) ty L w u w := by
  have hk : kk < n := by have := (List.getElem?_eq_some_iff.1 hu).1; have := hr.1; omega
  obtain ⟨b, o, rfl, _, hc⟩ := hr.2 (by omega)
  exact opv_load T (by simpa [adR, Addr.add_lit] using hx) (hc kk u hu)
/-- An element of a slice: its address and its value. -/
theorem wl_el {d1 d2 : Nat} {x i : Operand} {ty1 ty2 : TypeId} {p1 p2 : String} {f1 f2 : Array Edge} {A : Option Addr} {n c kk : Nat} {ik : IntKind} {q : Int} {xs : List Value} (T : Row1 P t e z bytes)
    (hx : look L x = some (.slice A n c)) (hi : look L i = some (.int ik q)) (hr : Rd w A n xs) (hq : q = (kk : Int)) (hk : kk < n) (hd1 : Nat.blt d1 N = true) (hd2 : Nat.blt d2 N = true)
    (h : ∀ p u, xs[kk]? = some u → WL P N ops Q rest ((d2, u) :: (d1, p) :: L) w) :
    WL P N ops Q (⟨some d1, .indexAddr t x i, ty1, p1, f1, none⟩ :: ⟨some d2, .load e (.tmp d1), ty2, p2, f2, none⟩ :: rest) L w := by
  obtain ⟨b, o, u, rfl, hu, hc⟩ := hr.at hk
  refine wl_val (opv_idx T hx hi hq hk) hd1 (wl_val (opv_load T ?_ hc) hd2 (h _ u hu))
  simp [look, lookT]
theorem wl_by {d1 d2 : Nat} {x i : Operand} {ty1 ty2 : TypeId} {p1 p2 : String} {f1 f2 : Array Edge} {A : Option Addr} {n c kk : Nat} {ik : IntKind} {q : Int} {l : List UInt8} (T : Row1 P t e z bytes)
    (hx : look L x = some (.slice A n c)) (hi : look L i = some (.int ik q)) (hr : Rd w A n (bvs l)) (hq : q = (kk : Int)) (hk : kk < n) (hd1 : Nat.blt d1 N = true) (hd2 : Nat.blt d2 N = true)
    (h : ∀ p b, l[kk]? = some b → WL P N ops Q rest ((d2, .int .u8 (b.toNat : Int)) :: (d1, p) :: L) w) :
    WL P N ops Q (⟨some d1, .indexAddr t x i, ty1, p1, f1, none⟩ :: ⟨some d2, .load e (.tmp d1), ty2, p2, f2, none⟩ :: rest) L w :=
  wl_el T hx hi hr hq hk hd1 hd2 fun p u hu => by
    obtain ⟨b, hb, rfl⟩ := getElem?_bvs hu
    exact h p b hb

/-- append. -/
theorem wl_app {d : Nat} {s x : Operand} {ty : TypeId} {pos : String} {aft : Array Edge} {base : Nat} {A : Option Addr} {n c : Nat} {xs : List Value} {B : Option Addr} {m c' : Nat} {ys : List Value} (T : Row1 P t e z bytes)
    (hs : look L s = some (.slice A n c)) (hown : Ow w base e A n c xs) (hx : look L x = some (.slice B m c')) (hr : Rd w B m ys) (h1 : ∀ u ∈ ys, u.oneCell' = true)
    (hbytes : (n + m) * bytes ≤ 140737488355328) (hmax : n + m ≤ maxLen) (hbase : base ≤ w.heap.size) (hd : Nat.blt d N = true)
    (h : ∀ A' c' w', Ow w' base e A' (n + m) c' (xs ++ ys) → Gr w w' A → (A'.map (·.block) = A.map (·.block) ∨ A'.map (·.block) = some w.heap.size) → WL P N ops Q rest ((d, .slice A' (n + m) c') :: L) w') :
    WL P N ops Q (⟨some d, .call { callee := .builtin .append, args := #[s, x], argTypes := #[t, t] }, ty, pos, aft, none⟩ :: rest) L w := fun a ha => by
  refine wpList_app rfl s x t rfl T.sl T.info (by rw [cells_one T.one]; rfl) (ha.eval hs) hown (ha.eval hx) hr h1 hbytes hmax hbase fun A' c' w' ho hg hat => ?_
  rw [ownBlock_slice] at hg
  exact h A' c' w' ho hg hat _ (ha.put hd _)

/-- The parts of a slice that a statement writes out. -/
def PLooks (L : FL) : Nat → List (Nat × Operand) → List Value → Prop
  | _, [], [] => True
  | k, (i, x) :: ps, v :: vs => i = k ∧ look L x = some v ∧ v.oneCell' = true ∧ PLooks L (k + 1) ps vs
  | _, _, _ => False
theorem PLooks.one : ∀ {ps : List (Nat × Operand)} {vs : List Value} {k : Nat}, PLooks L k ps vs → ∀ u ∈ vs, u.oneCell' = true
  | [], [], _, _ => by simp
  | (i, x) :: ps, v :: vs, k, h => by
    intro u hu
    rcases List.mem_cons.1 hu with rfl | hu
    · exact h.2.2.1
    · exact PLooks.one h.2.2.2 u hu
  | [], _ :: _, _, h => h.elim
  | _ :: _, [], _, h => h.elim
theorem PLooks.fill {ρ : Operand → Value} (hρ : ∀ x u, look L x = some u → ρ x = u) : ∀ {ps : List (Nat × Operand)} {vs : List Value} {k : Nat} (cur : Array Value), PLooks L k ps vs → k + vs.length = cur.size →
    Instr.fill (fun i => some (i * 1, 1)) cur (ps.map fun p => (p.1, ρ p.2)) = some (cur.toList.take k ++ vs).toArray
  | [], [], k, cur, _, hk => by
    simp only [List.map_nil, Instr.fill, List.append_nil]
    rw [List.take_of_length_le (by simp at hk ⊢; omega)]
  | (i, x) :: ps, v :: vs, k, cur, h, hk => by
    obtain ⟨rfl, hx, h1, h2⟩ := h
    simp only [List.length_cons] at hk
    have hc := cells_one h1
    simp only [List.map_cons, Instr.fill, hρ x v hx, hc]
    have hcond : ((#[v] : Array Value).size ≠ 1 || decide (i * 1 + (#[v] : Array Value).size > cur.size)) = false := by simp; omega
    have hcs : (Array.foldl (fun cs (x : Value × Nat) => cs.setIfInBounds (i * 1 + x.2) x.1) cur (#[v] : Array Value).zipIdx) = cur.setIfInBounds i v := by simp [Array.zipIdx]
    rw [if_neg (by simpa using hcond)]
    rw [hcs, PLooks.fill hρ (cur.setIfInBounds i v) h2 (by simp; omega)]
    congr 1
    rw [Array.toList_setIfInBounds]
    apply congrArg List.toArray
    apply List.ext_getElem?
    intro j
    have hlt : i < cur.toList.length := by simp; omega
    simp only [List.getElem?_append, List.length_take, List.length_set, List.getElem?_take, List.getElem?_set, List.length_cons, Array.length_toList]
    have m1 : min (i + 1) cur.size = i + 1 := by omega
    have m2 : min i cur.size = i := by omega
    rw [m1, m2]
    rcases Nat.lt_trichotomy j i with h | h | h
    · have e1 : j < i + 1 := by omega
      have e2 : j < cur.size := by omega
      have e3 : i ≠ j := by omega
      simp [h, e1, e2, e3]
    · subst h
      have e2 : j < cur.size := by simpa using hlt
      simp [e2]
    · have e1 : ¬ j < i + 1 := by omega
      have e2 : ¬ j < i := by omega
      have e5 : j - i = (j - (i + 1)) + 1 := by omega
      simp only [e1, e2, if_false]
      rw [e5]; simp
  | [], _ :: _, _, _, h, _ => h.elim
  | _ :: _, [], _, _, h, _ => h.elim

theorem opv_bs {len : Nat} {ps : List (Nat × Operand)} {vs : List Value} {ty : TypeId} (T : Row1 P t e z bytes) (hp : PLooks L 0 ps vs) (hl : vs.length = len) (hle : len ≤ 16777216) :
    OpV P (.buildSlice t len ps.toArray) ty L w (.slice (some ⟨w.heap.size, 0, none⟩) len len) (w.alloc (.cells vs.toArray e)) := fun ρ o hρ ho _ => by
  have hz := T.one
  have hf := PLooks.fill hρ ((Array.range (len * 1)).map fun i => (if len * 1 = 0 then (#[] : Array Value) else z.cells)[i % (if len * 1 = 0 then (#[] : Array Value) else z.cells).size]!) hp (by simp [hl])
  simp only [List.take_zero, List.nil_append] at hf
  have hmap : (Array.map (fun (x : Nat × Operand) => (x.1, ρ x.2)) ps.toArray).toList = ps.map fun p => (p.1, ρ p.2) := by simp
  unfold execOp
  simp only [ho, Instr.buildSlice, Sem.run_bind, run_underlying T.sl, Result.andThen_ok, T.size]
  have h24 : ¬ (len * 1 > 2 ^ 24) := by omega
  rw [if_neg h24]
  by_cases h0 : len * 1 = 0
  · simp only [h0, if_true, Sem.run_bind, Sem.run_pure, Result.andThen_ok] at hf ⊢
    rw [hmap, hf]
    simp [newRow]
  · simp only [h0, if_false, Sem.run_bind, Sem.run_pure, Result.andThen_ok, T.zero] at hf ⊢
    rw [hmap, hf]
    simp [newRow]

theorem Ow.lit (w : World) (e : TypeId) (vs : List Value) (n : Nat) (hn : vs.length = n) (hm : n ≤ maxLen) : Ow (w.alloc (.cells vs.toArray e)) w.heap.size e (some ⟨w.heap.size, 0, none⟩) n n vs := by
  have := World.ownsRow_lit (e := e) (size := 1) (base := w.heap.size) w vs.toArray n (Nat.le_refl _) hm (by simpa using hn)
  simpa [Ow] using this

/-- A slice that a statement writes out. -/
theorem wl_bs {d len : Nat} {ps : List (Nat × Operand)} {vs : List Value} {ty : TypeId} {pos : String} {aft : Array Edge} (T : Row1 P t e z bytes) (hp : PLooks L 0 ps vs) (hl : vs.length = len) (hle : len ≤ 16777216) (hd : Nat.blt d N = true)
    (h : ∀ A w', Ow w' w.heap.size e A len len vs → Below w.heap.size w w' → w'.heap.size = w.heap.size + 1 → WL P N ops Q rest ((d, .slice A len len) :: L) w') :
    WL P N ops Q (⟨some d, .buildSlice t len ps.toArray, ty, pos, aft, none⟩ :: rest) L w :=
  wl_val (opv_bs T hp hl hle) hd (h _ _ (Ow.lit w e vs len hl (by simp only [maxLen]; omega)) ((Below.refl _ _).alloc (Nat.le_refl _) _) (by simp))

/-- append(s, x, y ..): the elements written out. -/
theorem wl_push {d1 d2 len : Nat} {ps : List (Nat × Operand)} {vs : List Value} {s : Operand} {ty1 ty2 : TypeId} {p1 p2 : String} {f1 f2 : Array Edge} {base : Nat} {A : Option Addr} {n c : Nat} {xs : List Value} (T : Row1 P t e z bytes)
    (hs : look L s = some (.slice A n c)) (hown : Ow w base e A n c xs) (hp : PLooks L 0 ps vs) (hl : vs.length = len) (hle : len ≤ 16777216) (hs1 : look ((d1, .slice (some ⟨w.heap.size, 0, none⟩) len len) :: L) s = some (.slice A n c))
    (hbytes : (n + len) * bytes ≤ 140737488355328) (hmax : n + len ≤ maxLen) (hbase : base ≤ w.heap.size) (hd1 : Nat.blt d1 N = true) (hd2 : Nat.blt d2 N = true)
    (h : ∀ p A' c' w', Ow w' base e A' (n + len) c' (xs ++ vs) → Gr w w' A → (A'.map (·.block) = A.map (·.block) ∨ ∀ a', A' = some a' → w.heap.size ≤ a'.block) → WL P N ops Q rest ((d2, .slice A' (n + len) c') :: (d1, p) :: L) w') :
    WL P N ops Q (⟨some d1, .buildSlice t len ps.toArray, ty1, p1, f1, none⟩ :: ⟨some d2, .call { callee := .builtin .append, args := #[s, .tmp d1], argTypes := #[t, t] }, ty2, p2, f2, none⟩ :: rest) L w := by
  refine wl_val (opv_bs T hp hl hle) hd1 ?_
  have ho1 : Ow (w.alloc (.cells vs.toArray e)) base e A n c xs := hown.alloc _
  refine wl_app (B := some ⟨w.heap.size, 0, none⟩) (m := len) (c' := len) T hs1 ho1 (by simp [look, lookT]) (Ow.lit w e vs len hl (by simp only [maxLen]; omega)).rd (PLooks.one hp) hbytes hmax (by simp; omega) hd2 fun A' c' w' ho hg hat => ?_
  refine h _ A' c' w' ho ((Gr.of_below A ((Below.refl w.heap.size w).alloc (Nat.le_refl _) _) (Nat.le_refl _)).trans hg) ?_
  rcases hat with e | e
  · exact .inl e
  · refine .inr fun a' ha' => ?_
    rw [ha'] at e
    simp at e
    omega

/-- make. -/
theorem wl_mk {d : Nat} {x y : Operand} {ty : TypeId} {pos : String} {aft : Array Edge} {n c : Nat} {p q : Int} {k1 k2 : IntKind} (T : Row1 P t e z bytes) (hx : look L x = some (.int k1 p)) (hy : look L y = some (.int k2 q)) (hp : p = (n : Int)) (hq : q = (c : Int)) (hnc : n ≤ c)
    (hb : bytes * c ≤ 281474976710656) (hm : c ≤ maxLen) (hd : Nat.blt d N = true)
    (h : ∀ A w', Ow w' w.heap.size e A n c (List.replicate n z) → Below w.heap.size w w' → w'.heap.size = w.heap.size + 1 → WL P N ops Q rest ((d, .slice A n c) :: L) w') :
    WL P N ops Q (⟨some d, .makeSlice t x y, ty, pos, aft, none⟩ :: rest) L w := by
  subst hp hq
  obtain ⟨i, hi, hz, hs, hby⟩ := info_parts T.info
  have hzc : z.cells = #[z] := cells_one T.one
  have hb' : (i.bytes : Int) * (c : Int) ≤ 281474976710656 := by
    rw [hby]
    have : ((bytes * c : Nat) : Int) ≤ 281474976710656 := by omega
    rwa [Int.natCast_mul] at this
  have hm' : (c : Int) ≤ 9223372036854775807 := by simp only [maxLen] at hm; omega
  have hrun := run_make (P := P) w t e i z T.sl hi hz k1 k2 (n : Int) (c : Int) (by omega) (by omega) hb' hm'
  simp only [Int.toNat_natCast, hs, Nat.mul_one, hzc] at hrun
  have hv : OpV P (.makeSlice t x y) ty L w (.slice (some ⟨w.heap.size, 0, none⟩) n c) (w.alloc (.cells (madeCells #[z] c) e)) := fun ρ o hρ ho _ => by
    unfold execOp
    simp only [ho, hρ x _ hx, hρ y _ hy, Sem.run_bind, hrun]
    simp
  refine wl_val hv hd (h _ _ ?_ ((Below.refl _ _).alloc (Nat.le_refl _) _) (by simp))
  refine ⟨by simp, .inr ⟨w.heap.size, c, madeCells #[z] c, rfl, Nat.le_refl _, heap_alloc_new w _, hnc, hm, by simp [size_madeCells], ?_⟩⟩
  rw [toList_madeCells_one]
  simp [List.take_replicate, Nat.min_eq_left hnc]

/-- An element of a slice, read under a guard that holds. -/
theorem wl_elT {d1 d2 j1 g1 j2 g2 : Nat} {b1 w1 b2 w2 : Bool} {x i : Operand} {ty1 ty2 : TypeId} {p1 p2 : String} {f1 f2 : Array Edge} {A : Option Addr} {n c kk : Nat} {ik : IntKind} {q : Int} {xs : List Value} (T : Row1 P t e z bytes)
    (hj1 : (ops[j1]?).bind (·.dst) = some g1) (hb1 : lookT L g1 = some (.bool b1)) (hg1 : Nat.blt g1 N = true) (he1 : b1 = w1)
    (hj2 : (ops[j2]?).bind (·.dst) = some g2) (hb2 : lookT L g2 = some (.bool b2)) (hg2 : Nat.blt g2 N = true) (hne : Nat.beq d1 g2 = false) (he2 : b2 = w2)
    (hx : look L x = some (.slice A n c)) (hi : look L i = some (.int ik q)) (hr : Rd w A n xs) (hq : q = (kk : Int)) (hk : kk < n) (hd1 : Nat.blt d1 N = true) (hd2 : Nat.blt d2 N = true)
    (h : ∀ p u, xs[kk]? = some u → WL P N ops Q rest ((d2, u) :: (d1, p) :: L) w) :
    WL P N ops Q (⟨some d1, .indexAddr t x i, ty1, p1, f1, some (j1, w1)⟩ :: ⟨some d2, .load e (.tmp d1), ty2, p2, f2, some (j2, w2)⟩ :: rest) L w := by
  obtain ⟨b, o, u, rfl, hu, hc⟩ := hr.at hk
  refine wl_take hj1 hb1 hg1 he1 (wl_val (opv_idx T hx hi hq hk) hd1 ?_)
  refine wl_take hj2 (b := b2) ?_ hg2 he2 (wl_val (opv_load T ?_ hc) hd2 (h _ u hu))
  · simpa [lookT, hne] using hb2
  · simp [look, lookT]
theorem wl_byT {d1 d2 j1 g1 j2 g2 : Nat} {b1 w1 b2 w2 : Bool} {x i : Operand} {ty1 ty2 : TypeId} {p1 p2 : String} {f1 f2 : Array Edge} {A : Option Addr} {n c kk : Nat} {ik : IntKind} {q : Int} {l : List UInt8} (T : Row1 P t e z bytes)
    (hj1 : (ops[j1]?).bind (·.dst) = some g1) (hb1 : lookT L g1 = some (.bool b1)) (hg1 : Nat.blt g1 N = true) (he1 : b1 = w1)
    (hj2 : (ops[j2]?).bind (·.dst) = some g2) (hb2 : lookT L g2 = some (.bool b2)) (hg2 : Nat.blt g2 N = true) (hne : Nat.beq d1 g2 = false) (he2 : b2 = w2)
    (hx : look L x = some (.slice A n c)) (hi : look L i = some (.int ik q)) (hr : Rd w A n (bvs l)) (hq : q = (kk : Int)) (hk : kk < n) (hd1 : Nat.blt d1 N = true) (hd2 : Nat.blt d2 N = true)
    (h : ∀ p b, l[kk]? = some b → WL P N ops Q rest ((d2, .int .u8 (b.toNat : Int)) :: (d1, p) :: L) w) :
    WL P N ops Q (⟨some d1, .indexAddr t x i, ty1, p1, f1, some (j1, w1)⟩ :: ⟨some d2, .load e (.tmp d1), ty2, p2, f2, some (j2, w2)⟩ :: rest) L w :=
  wl_elT T hj1 hb1 hg1 he1 hj2 hb2 hg2 hne he2 hx hi hr hq hk hd1 hd2 fun p u hu => by
    obtain ⟨b, hb, rfl⟩ := getElem?_bvs hu
    exact h p b hb

/-- A region that only reads: what stands behind it is asked in every world that extends the one ahead. -/
theorem wc_drawB {id : Nat} {l : List Oper} (hm : P.follows .mixedOrders = true) (hB : Region.lexB .any l.toArray = true)
    (h : WQ P N l.toArray (Below w.heap.size w) (QEnd N (Below w.heap.size w) Q) l L) : WC P N (.region id l.toArray true) Q L w :=
  wc_draw (Below w.heap.size w) hm hB ((Below.refl _ _).drew) h
theorem wq_el {w0 : World} {Qa : Act → Prop} {d1 d2 : Nat} {x i : Operand} {ty1 ty2 : TypeId} {p1 p2 : String} {f1 f2 : Array Edge} {A : Option Addr} {n c kk : Nat} {ik : IntKind} {q : Int} {xs : List Value} (T : Row1 P t e z bytes)
    (hx : look L x = some (.slice A n c)) (hi : look L i = some (.int ik q)) (hr : Rd w0 A n xs) (hq : q = (kk : Int)) (hk : kk < n) (hd1 : Nat.blt d1 N = true) (hd2 : Nat.blt d2 N = true)
    (h : ∀ p u, xs[kk]? = some u → WQ P N ops (Below w0.heap.size w0) Qa rest ((d2, u) :: (d1, p) :: L)) :
    WQ P N ops (Below w0.heap.size w0) Qa (⟨some d1, .indexAddr t x i, ty1, p1, f1, none⟩ :: ⟨some d2, .load e (.tmp d1), ty2, p2, f2, none⟩ :: rest) L := by
  have hn : 0 < n := by omega
  obtain ⟨b, o, rfl, hb, hc⟩ := hr.2 hn
  have hl : kk < xs.length := by have := hr.1; omega
  refine wq_val (fun w hw => opv_idx T hx hi hq hk) hd1 (wq_val (v := xs[kk]) (fun w hw => opv_load T (by simp [look, lookT]; rfl) ?_) hd2 (h _ _ (List.getElem?_eq_getElem hl)))
  rw [hw.cell (p := ⟨b, o + kk, none⟩) hb]
  exact hc kk _ (List.getElem?_eq_getElem hl)
theorem wq_by {w0 : World} {Qa : Act → Prop} {d1 d2 : Nat} {x i : Operand} {ty1 ty2 : TypeId} {p1 p2 : String} {f1 f2 : Array Edge} {A : Option Addr} {n c kk : Nat} {ik : IntKind} {q : Int} {l : List UInt8} (T : Row1 P t e z bytes)
    (hx : look L x = some (.slice A n c)) (hi : look L i = some (.int ik q)) (hr : Rd w0 A n (bvs l)) (hq : q = (kk : Int)) (hk : kk < n) (hd1 : Nat.blt d1 N = true) (hd2 : Nat.blt d2 N = true)
    (h : ∀ p b, l[kk]? = some b → WQ P N ops (Below w0.heap.size w0) Qa rest ((d2, .int .u8 (b.toNat : Int)) :: (d1, p) :: L)) :
    WQ P N ops (Below w0.heap.size w0) Qa (⟨some d1, .indexAddr t x i, ty1, p1, f1, none⟩ :: ⟨some d2, .load e (.tmp d1), ty2, p2, f2, none⟩ :: rest) L :=
  wq_el T hx hi hr hq hk hd1 hd2 fun p u hu => by
    obtain ⟨b, hb, rfl⟩ := getElem?_bvs hu
    exact h p b hb

/-- The same where the byte is known ahead. -/
theorem wl_byK {d1 d2 : Nat} {x i : Operand} {ty1 ty2 : TypeId} {p1 p2 : String} {f1 f2 : Array Edge} {A : Option Addr} {n c kk : Nat} {ik : IntKind} {q : Int} {l : List UInt8} {b : UInt8} (T : Row1 P t e z bytes)
    (hx : look L x = some (.slice A n c)) (hi : look L i = some (.int ik q)) (hr : Rd w A n (bvs l)) (hq : q = (kk : Int)) (hb : l[kk]? = some b) (hd1 : Nat.blt d1 N = true) (hd2 : Nat.blt d2 N = true)
    (h : ∀ p, WL P N ops Q rest ((d2, .int .u8 (b.toNat : Int)) :: (d1, p) :: L) w) :
    WL P N ops Q (⟨some d1, .indexAddr t x i, ty1, p1, f1, none⟩ :: ⟨some d2, .load e (.tmp d1), ty2, p2, f2, none⟩ :: rest) L w :=
  wl_by T hx hi hr hq (by have := hr.1; rw [bvs_length] at this; rw [← this]; exact (List.getElem?_eq_some_iff.1 hb).1) hd1 hd2 fun p b' hb' => by rw [hb] at hb'; cases hb'; exact h p
theorem wl_byTK {d1 d2 j1 g1 j2 g2 : Nat} {b1 w1 b2 w2 : Bool} {x i : Operand} {ty1 ty2 : TypeId} {p1 p2 : String} {f1 f2 : Array Edge} {A : Option Addr} {n c kk : Nat} {ik : IntKind} {q : Int} {l : List UInt8} {b : UInt8} (T : Row1 P t e z bytes)
    (hj1 : (ops[j1]?).bind (·.dst) = some g1) (hb1 : lookT L g1 = some (.bool b1)) (hg1 : Nat.blt g1 N = true) (he1 : b1 = w1)
    (hj2 : (ops[j2]?).bind (·.dst) = some g2) (hb2 : lookT L g2 = some (.bool b2)) (hg2 : Nat.blt g2 N = true) (hne : Nat.beq d1 g2 = false) (he2 : b2 = w2)
    (hx : look L x = some (.slice A n c)) (hi : look L i = some (.int ik q)) (hr : Rd w A n (bvs l)) (hq : q = (kk : Int)) (hb : l[kk]? = some b) (hd1 : Nat.blt d1 N = true) (hd2 : Nat.blt d2 N = true)
    (h : ∀ p, WL P N ops Q rest ((d2, .int .u8 (b.toNat : Int)) :: (d1, p) :: L) w) :
    WL P N ops Q (⟨some d1, .indexAddr t x i, ty1, p1, f1, some (j1, w1)⟩ :: ⟨some d2, .load e (.tmp d1), ty2, p2, f2, some (j2, w2)⟩ :: rest) L w :=
  wl_byT T hj1 hb1 hg1 he1 hj2 hb2 hg2 hne he2 hx hi hr hq (by have := hr.1; rw [bvs_length] at this; rw [← this]; exact (List.getElem?_eq_some_iff.1 hb).1) hd1 hd2 fun p b' hb' => by rw [hb] at hb'; cases hb'; exact h p
theorem wq_byK {w0 : World} {Qa : Act → Prop} {d1 d2 : Nat} {x i : Operand} {ty1 ty2 : TypeId} {p1 p2 : String} {f1 f2 : Array Edge} {A : Option Addr} {n c kk : Nat} {ik : IntKind} {q : Int} {l : List UInt8} {b : UInt8} (T : Row1 P t e z bytes)
    (hx : look L x = some (.slice A n c)) (hi : look L i = some (.int ik q)) (hr : Rd w0 A n (bvs l)) (hq : q = (kk : Int)) (hb : l[kk]? = some b) (hd1 : Nat.blt d1 N = true) (hd2 : Nat.blt d2 N = true)
    (h : ∀ p, WQ P N ops (Below w0.heap.size w0) Qa rest ((d2, .int .u8 (b.toNat : Int)) :: (d1, p) :: L)) :
    WQ P N ops (Below w0.heap.size w0) Qa (⟨some d1, .indexAddr t x i, ty1, p1, f1, none⟩ :: ⟨some d2, .load e (.tmp d1), ty2, p2, f2, none⟩ :: rest) L :=
  wq_by T hx hi hr hq (by have := hr.1; rw [bvs_length] at this; rw [← this]; exact (List.getElem?_eq_some_iff.1 hb).1) hd1 hd2 fun p b' hb' => by rw [hb] at hb'; cases hb'; exact h p
theorem wq_byTK {w0 : World} {Qa : Act → Prop} {d1 d2 j1 g1 j2 g2 : Nat} {b1 w1 b2 w2 : Bool} {x i : Operand} {ty1 ty2 : TypeId} {p1 p2 : String} {f1 f2 : Array Edge} {A : Option Addr} {n c kk : Nat} {ik : IntKind} {q : Int} {l : List UInt8} {b : UInt8} (T : Row1 P t e z bytes)
    (hj1 : (ops[j1]?).bind (·.dst) = some g1) (hb1 : lookT L g1 = some (.bool b1)) (hg1 : Nat.blt g1 N = true) (he1 : b1 = w1)
    (hj2 : (ops[j2]?).bind (·.dst) = some g2) (hb2 : lookT L g2 = some (.bool b2)) (hg2 : Nat.blt g2 N = true) (hne : Nat.beq d1 g2 = false) (he2 : b2 = w2)
    (hx : look L x = some (.slice A n c)) (hi : look L i = some (.int ik q)) (hr : Rd w0 A n (bvs l)) (hq : q = (kk : Int)) (hb : l[kk]? = some b) (hd1 : Nat.blt d1 N = true) (hd2 : Nat.blt d2 N = true)
    (h : ∀ p, WQ P N ops (Below w0.heap.size w0) Qa rest ((d2, .int .u8 (b.toNat : Int)) :: (d1, p) :: L)) :
    WQ P N ops (Below w0.heap.size w0) Qa (⟨some d1, .indexAddr t x i, ty1, p1, f1, some (j1, w1)⟩ :: ⟨some d2, .load e (.tmp d1), ty2, p2, f2, some (j2, w2)⟩ :: rest) L := by
  have hk : kk < n := by have := hr.1; rw [bvs_length] at this; rw [← this]; exact (List.getElem?_eq_some_iff.1 hb).1
  have hn : 0 < n := by omega
  obtain ⟨bb, o, rfl, hlt, hc⟩ := hr.2 hn
  refine wq_take hj1 hb1 hg1 he1 (wq_val (fun w hw => opv_idx T hx hi hq hk) hd1 ?_)
  refine wq_take hj2 (b := b2) ?_ hg2 he2 (wq_val (v := .int .u8 (b.toNat : Int)) (fun w hw => opv_load T (by simp [look, lookT]; rfl) ?_) hd2 (h _))
  · simpa [lookT, hne] using hb2
  · rw [hw.cell (p := ⟨bb, o + kk, none⟩) hlt]
    refine hc kk _ ?_
    simp only [bvs, List.getElem?_map, hb]; rfl

/-- A slice expression. -/
def cutA (A : Option Addr) (c l : Nat) : Option Addr := if c = l then A else A.map (·.add l)
def SLo (L : FL) : Option Operand → Nat → Prop
  | none, l => l = 0
  | some x, l => ∃ k, look L x = some (.int k (l : Int))
def SHi (L : FL) (n : Nat) : Option Operand → Nat → Prop
  | none, h => h = n
  | some x, h => ∃ k, look L x = some (.int k (h : Int))
theorem opv_slice {x : Operand} {lo hi : Option Operand} {ty : TypeId} {A : Option Addr} {n c l h : Nat} (T : Row1 P t e z bytes) (hx : look L x = some (.slice A n c)) (hl : SLo L lo l) (hh : SHi L n hi h) (h1 : l ≤ h) (h2 : h ≤ c) :
    OpV P (.slice t x lo hi none) ty L w (.slice (cutA A c l) (h - l) (c - l)) w := fun ρ o hρ ho _ => by
  have e1 : (Instr.sliceBounds true n c (lo.map ρ) (hi.map ρ) none).run P w = .ok (l, h, c) w := by
    cases lo with
    | none =>
      cases hi with
      | none => have a := hl; have b := hh; simp only [SLo, SHi] at a b; subst a b; simp [Instr.sliceBounds]
      | some y =>
        have a := hl; obtain ⟨k, b⟩ := hh; simp only [SLo] at a; subst a
        simp [Instr.sliceBounds, Instr.sliceBound, hρ y _ b, asIntOf, h2]
    | some u =>
      obtain ⟨k, a⟩ := hl
      cases hi with
      | none => have b := hh; simp only [SHi] at b; subst b; simp [Instr.sliceBounds, Instr.sliceBound, hρ u _ a, asIntOf, h1]
      | some y =>
        obtain ⟨k', b⟩ := hh
        simp [Instr.sliceBounds, Instr.sliceBound, hρ u _ a, hρ y _ b, asIntOf, h1, h2]
  unfold execOp
  simp only [ho, Instr.sliceAt, Instr.slice, Sem.run_bind, run_underlying T.sl, Result.andThen_ok, hρ x _ hx, Option.map_none, e1, T.size]
  simp [cutA]
theorem Rd.cut {A : Option Addr} {n c l h : Nat} {xs : List Value} (hr : Rd w A n xs) (h1 : l ≤ h) (h2 : h ≤ n) (hc : n ≤ c) : Rd w (cutA A c l) (h - l) ((xs.take h).drop l) := by
  refine ⟨by have := hr.1; simp; omega, fun hn => ?_⟩
  obtain ⟨b, o, rfl, hb, hcell⟩ := hr.2 (by omega)
  have hne : ¬ c = l := by omega
  refine ⟨b, o + l, by simp [cutA, hne, Addr.add_lit], hb, fun j u hu => ?_⟩
  rw [List.getElem?_drop, List.getElem?_take] at hu
  split at hu
  · rw [Nat.add_assoc]; exact hcell _ u hu
  · cases hu
theorem bvs_cut (xs : List UInt8) (l h : Nat) : ((bvs xs).take h).drop l = bvs ((xs.take h).drop l) := by simp [bvs, List.map_take, List.map_drop]
theorem wl_sl {d : Nat} {x : Operand} {lo hi : Option Operand} {ty : TypeId} {pos : String} {aft : Array Edge} {A : Option Addr} {n c l h : Nat} (T : Row1 P t e z bytes) (hx : look L x = some (.slice A n c)) (hl : SLo L lo l) (hh : SHi L n hi h) (h1 : l ≤ h) (h2 : h ≤ c)
    (hd : Nat.blt d N = true) (hK : WL P N ops Q rest ((d, .slice (cutA A c l) (h - l) (c - l)) :: L) w) :
    WL P N ops Q (⟨some d, .slice t x lo hi none, ty, pos, aft, none⟩ :: rest) L w :=
  wl_val (opv_slice T hx hl hh h1 h2) hd hK
/-- A beginning of a row of the call's own. -/
theorem Ow.pre {base : Nat} {A : Option Addr} {n c h : Nat} {xs : List Value} (ho : Ow w base e A n c xs) (hh : h ≤ n) : Ow w base e A h c (xs.take h) := by
  refine ⟨by have := ho.len; simp; omega, ?_⟩
  rcases ho.2 with ⟨hv, hn⟩ | ⟨g, cap, cur, hv, hb, hg, hnc, hm, hs, ht⟩
  · injection hv with hA hn' hc
    subst hA hc
    have : h = 0 := by omega
    subst this
    exact .inl ⟨rfl, rfl⟩
  · injection hv with hA hn' hc
    subst hA hc
    refine .inr ⟨g, c, cur, rfl, hb, hg, by omega, hm, hs, ?_⟩
    rw [← ht, List.take_take]; congr 1; omega
theorem cutA_zero (A : Option Addr) (c : Nat) : cutA A c 0 = A := by
  cases A with
  | none => simp [cutA]
  | some a => simp [cutA, Addr.add]

/-- A store into a row of the call's own. -/
theorem opu_store {x y : Operand} {ty : TypeId} {a : Addr} {u v : Value} (T : Row1 P t e z bytes) (hx : look L x = some (.pointer (some a))) (hy : look L y = some u) (h1 : u.oneCell' = true) (hc : w.cell? a = some v) (hf : w.frozen? a = false) :
    OpU P (.store e x y) ty L w (w.setCell a u) := fun ρ o hρ ho _ => by
  have hs : u.cells = #[u] := cells_one h1
  have hst : (store a u).run P w = .ok () (w.setCell a u) := by
    cases u <;> first | (simp [Value.oneCell'] at h1; done) | simp [store, Sem.run, hc, hf]
  unfold execOp
  simp only [ho, Instr.storeAt, Instr.sureAddr, hρ x _ hx, hρ y _ hy, storeVar, Sem.run_bind, Sem.run_pure, Result.andThen_ok, T.size, hs]
  have h0 : a.add 0 = a := by simp [Addr.add]
  simp [storeCells, h0, hst]
theorem wl_set {d1 : Nat} {x i y : Operand} {ty1 ty2 : TypeId} {p1 p2 : String} {f1 f2 : Array Edge} {base : Nat} {A : Option Addr} {n c kk : Nat} {ik : IntKind} {q : Int} {u : Value} {xs : List Value} (T : Row1 P t e z bytes)
    (hx : look L x = some (.slice A n c)) (hi : look L i = some (.int ik q)) (ho : Ow w base e A n c xs) (hq : q = (kk : Int)) (hk : kk < n)
    (hy : ∀ p, look ((d1, p) :: L) y = some u) (h1 : u.oneCell' = true) (hd1 : Nat.blt d1 N = true)
    (h : ∀ p w', Ow w' base e A n c (xs.set kk u) → Gr w w' A → w'.heap.size = w.heap.size → WL P N ops Q rest ((d1, p) :: L) w') :
    WL P N ops Q (⟨some d1, .indexAddr t x i, ty1, p1, f1, none⟩ :: ⟨none, .store e (.tmp d1) y, ty2, p2, f2, none⟩ :: rest) L w := by
  obtain ⟨g, cap, hv, _, hlt⟩ := World.ownsRow.form ho (by omega)
  injection hv with hA hn hc; subst hA hc
  refine wl_val (opv_idx T hx hi hq hk) hd1 ?_
  have hl : kk < xs.length := by have := ho.len; omega
  have hcell := World.ownsRow.cellAt ho kk (by omega)
  have hfr := World.ownsRow.frozenAt ho kk
  rw [List.getElem?_eq_getElem hl] at hcell
  have hst := World.ownsRow.stored ho kk u
  refine wl_unitN (opu_store T (by simp [look, lookT]; rfl) (hy _) h1 (v := xs[kk]) (by simpa using hcell) (by simpa using hfr)) ?_
  simp only [Nat.zero_add]
  exact h _ _ hst.1 hst.2 (by simp [World.setCell])
end
end Go.Proofs.Ytcjiecclmepboaa
