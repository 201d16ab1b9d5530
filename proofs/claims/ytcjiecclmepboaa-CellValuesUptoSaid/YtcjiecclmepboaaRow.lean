
/-
  Lists of lists of bytes: read, or rows of the call's own that lie apart; and the rules to read one and to append one.
-/
import Derived.Test.YtcjiecclmepboaaTy
namespace Go.Proofs.Ytcjiecclmepboaa
open Go.RowKit

section
variable {P : Program} {N : Nat} {ops : Array Oper} {Q : Exit → Act → World → Prop} {rest : List Oper} {L : FL} {w : World} {t e : TypeId} {z : Value} {bytes : Nat}
theorem Rd.in_len {A : Option Addr} {n k : Nat} {xs : List Value} {u : Value} (hr : Rd w A n xs) (h : xs[k]? = some u) : k < n := by
  have := (List.getElem?_eq_some_iff.1 h).1; have := hr.1; omega
theorem wl_elK {d1 d2 : Nat} {x i : Operand} {ty1 ty2 : TypeId} {p1 p2 : String} {f1 f2 : Array Edge} {A : Option Addr} {n c kk : Nat} {ik : IntKind} {q : Int} {xs : List Value} {u : Value} (T : Row1 P t e z bytes)
    (hx : look L x = some (Value.slice A n c)) (hi : look L i = some (.int ik q)) (hr : Rd w A n xs) (hq : q = (kk : Int)) (hb : xs[kk]? = some u) (hd1 : Nat.blt d1 N = true) (hd2 : Nat.blt d2 N = true)
    (h : ∀ p, WL P N ops Q rest ((d2, u) :: (d1, p) :: L) w) :
    WL P N ops Q (⟨some d1, .indexAddr t x i, ty1, p1, f1, none⟩ :: ⟨some d2, .load e (.tmp d1), ty2, p2, f2, none⟩ :: rest) L w :=
  wl_el T hx hi hr hq (hr.in_len hb) hd1 hd2 fun p u' hu => by rw [hb] at hu; cases hu; exact h p
theorem wl_elTK {d1 d2 j1 g1 j2 g2 : Nat} {b1 w1 b2 w2 : Bool} {x i : Operand} {ty1 ty2 : TypeId} {p1 p2 : String} {f1 f2 : Array Edge} {A : Option Addr} {n c kk : Nat} {ik : IntKind} {q : Int} {xs : List Value} {u : Value} (T : Row1 P t e z bytes)
    (hj1 : (ops[j1]?).bind (·.dst) = some g1) (hb1 : lookT L g1 = some (.bool b1)) (hg1 : Nat.blt g1 N = true) (he1 : b1 = w1)
    (hj2 : (ops[j2]?).bind (·.dst) = some g2) (hb2 : lookT L g2 = some (.bool b2)) (hg2 : Nat.blt g2 N = true) (hne : Nat.beq d1 g2 = false) (he2 : b2 = w2)
    (hx : look L x = some (Value.slice A n c)) (hi : look L i = some (.int ik q)) (hr : Rd w A n xs) (hq : q = (kk : Int)) (hb : xs[kk]? = some u) (hd1 : Nat.blt d1 N = true) (hd2 : Nat.blt d2 N = true)
    (h : ∀ p, WL P N ops Q rest ((d2, u) :: (d1, p) :: L) w) :
    WL P N ops Q (⟨some d1, .indexAddr t x i, ty1, p1, f1, some (j1, w1)⟩ :: ⟨some d2, .load e (.tmp d1), ty2, p2, f2, some (j2, w2)⟩ :: rest) L w :=
  wl_elT T hj1 hb1 hg1 he1 hj2 hb2 hg2 hne he2 hx hi hr hq (hr.in_len hb) hd1 hd2 fun p u' hu => by rw [hb] at hu; cases hu; exact h p
theorem wq_elK {w0 : World} {Qa : Act → Prop} {d1 d2 : Nat} {x i : Operand} {ty1 ty2 : TypeId} {p1 p2 : String} {f1 f2 : Array Edge} {A : Option Addr} {n c kk : Nat} {ik : IntKind} {q : Int} {xs : List Value} {u : Value} (T : Row1 P t e z bytes)
    (hx : look L x = some (Value.slice A n c)) (hi : look L i = some (.int ik q)) (hr : Rd w0 A n xs) (hq : q = (kk : Int)) (hb : xs[kk]? = some u) (hd1 : Nat.blt d1 N = true) (hd2 : Nat.blt d2 N = true)
    (h : ∀ p, WQ P N ops (Below w0.heap.size w0) Qa rest ((d2, u) :: (d1, p) :: L)) :
    WQ P N ops (Below w0.heap.size w0) Qa (⟨some d1, .indexAddr t x i, ty1, p1, f1, none⟩ :: ⟨some d2, .load e (.tmp d1), ty2, p2, f2, none⟩ :: rest) L :=
  wq_el T hx hi hr hq (hr.in_len hb) hd1 hd2 fun p u' hu => by rw [hb] at hu; cases hu; exact h p
theorem wq_elTK {w0 : World} {Qa : Act → Prop} {d1 d2 j1 g1 j2 g2 : Nat} {b1 w1 b2 w2 : Bool} {x i : Operand} {ty1 ty2 : TypeId} {p1 p2 : String} {f1 f2 : Array Edge} {A : Option Addr} {n c kk : Nat} {ik : IntKind} {q : Int} {xs : List Value} {u : Value} (T : Row1 P t e z bytes)
    (hj1 : (ops[j1]?).bind (·.dst) = some g1) (hb1 : lookT L g1 = some (.bool b1)) (hg1 : Nat.blt g1 N = true) (he1 : b1 = w1)
    (hj2 : (ops[j2]?).bind (·.dst) = some g2) (hb2 : lookT L g2 = some (.bool b2)) (hg2 : Nat.blt g2 N = true) (hne : Nat.beq d1 g2 = false) (he2 : b2 = w2)
    (hx : look L x = some (Value.slice A n c)) (hi : look L i = some (.int ik q)) (hr : Rd w0 A n xs) (hq : q = (kk : Int)) (hb : xs[kk]? = some u) (hd1 : Nat.blt d1 N = true) (hd2 : Nat.blt d2 N = true)
    (h : ∀ p, WQ P N ops (Below w0.heap.size w0) Qa rest ((d2, u) :: (d1, p) :: L)) :
    WQ P N ops (Below w0.heap.size w0) Qa (⟨some d1, .indexAddr t x i, ty1, p1, f1, some (j1, w1)⟩ :: ⟨some d2, .load e (.tmp d1), ty2, p2, f2, some (j2, w2)⟩ :: rest) L := by
  obtain ⟨bb, o, rfl, hlt, hc⟩ := hr.2 (Nat.lt_of_le_of_lt (Nat.zero_le _) (hr.in_len hb))
  refine wq_take hj1 hb1 hg1 he1 (wq_val (fun w hw => opv_idx T hx hi hq (hr.in_len hb)) hd1 ?_)
  refine wq_take hj2 (b := b2) ?_ hg2 he2 (wq_val (v := u) (fun w hw => opv_load T (by simp [look, lookT]; rfl) ?_) hd2 (h _))
  · simpa [lookT, hne] using hb2
  · rw [hw.cell (p := ⟨bb, o + kk, none⟩) hlt]
    exact hc kk _ hb
end

/-- The slice reads as a list of lists of bytes. -/
def RdBB (w : World) (A : Option Addr) (rows : List (List UInt8)) : Prop :=
  ∃ vs : List Value, Rd w A rows.length vs ∧ ∀ (i : Nat) (r : List UInt8), rows[i]? = some r → ∃ (A' : Option Addr) (c' : Nat), vs[i]? = some (Value.slice A' r.length c') ∧ RdB w A' r ∧ r.length ≤ c'
/-- It is a row of the call's own, of rows of its own that all lie apart. -/
def OwBB (w : World) (base : Nat) (A : Option Addr) (c : Nat) (rows : List (List UInt8)) : Prop :=
  ∃ vs : List Value, Ow w base 30 A rows.length c vs ∧ (∀ (i : Nat) (r : List UInt8), rows[i]? = some r → ∃ (A' : Option Addr) (c' : Nat), vs[i]? = some (Value.slice A' r.length c') ∧ OwB w base A' c' r ∧ (∀ a a', A = some a → A' = some a' → a'.block ≠ a.block)) ∧
    vs.Pairwise fun v v' => ∀ g, v.ownBlock = some g → v'.ownBlock ≠ some g
def RetBB (w : World) (rows : List (List UInt8)) (v : Value) (w' : World) : Prop :=
  ∃ (A : Option Addr) (c : Nat), v = .slice A rows.length c ∧ OwBB w' w.heap.size A c rows ∧ Below w.heap.size w w'

section
variable {w w' : World} {A : Option Addr} {base c : Nat} {rows : List (List UInt8)}
theorem RdBB.below (h : RdBB w A rows) (hb : Below w.heap.size w w') : RdBB w' A rows := by
  obtain ⟨vs, hv, hr⟩ := h
  refine ⟨vs, hv.below hb, fun i r hi => ?_⟩
  obtain ⟨A', c', h1, h2, h3⟩ := hr i r hi
  exact ⟨A', c', h1, h2.below hb, h3⟩
theorem RdBB.at (h : RdBB w A rows) {k : Nat} {r : List UInt8} (hk : rows[k]? = some r) : ∃ (vs : List Value) (A' : Option Addr) (c' : Nat), Rd w A rows.length vs ∧ vs[k]? = some (Value.slice A' r.length c') ∧ RdB w A' r ∧ r.length ≤ c' := by
  obtain ⟨vs, hv, hr⟩ := h
  obtain ⟨A', c', h1, h2, h3⟩ := hr k r hk
  exact ⟨vs, A', c', hv, h1, h2, h3⟩
theorem OwBB.rd (h : OwBB w base A c rows) : RdBB w A rows := by
  obtain ⟨vs, ho, hr, _⟩ := h
  refine ⟨vs, ho.rd, fun i r hi => ?_⟩
  obtain ⟨A', c', h1, h2, _⟩ := hr i r hi
  exact ⟨A', c', h1, OwB.rd h2, h2.cap⟩
theorem OwBB.below (h : OwBB w base A c rows) (hb : Below w.heap.size w w') : OwBB w' base A c rows := by
  obtain ⟨vs, ho, hr, hs⟩ := h
  refine ⟨vs, Ow.below ho hb (Nat.le_refl _), fun i r hi => ?_, hs⟩
  obtain ⟨A', c', h1, h2, h3⟩ := hr i r hi
  exact ⟨A', c', h1, h2.below hb, h3⟩
theorem OwBB.nil (w : World) (base : Nat) : OwBB w base none 0 [] := ⟨[], Ow.nil _ _ _, by simp, List.Pairwise.nil⟩
theorem OwBB.empty (h : Ow w base 30 A 0 c []) : OwBB w base A c [] := ⟨[], h, by simp, List.Pairwise.nil⟩
theorem OwBB.mono {base' : Nat} (h : OwBB w base A c rows) (hb : base' ≤ base) : OwBB w base' A c rows := by
  obtain ⟨vs, ho, hr, hs⟩ := h
  refine ⟨vs, ho.mono hb, fun i r hi => ?_, hs⟩
  obtain ⟨A', c', h1, h2, h3⟩ := hr i r hi
  exact ⟨A', c', h1, Ow.mono h2 hb, h3⟩
theorem OwBB.cap (h : OwBB w base A c rows) : rows.length ≤ c := by
  obtain ⟨vs, h, _⟩ := h
  rcases h.2 with ⟨hv, hn⟩ | ⟨g, cap, cur, hv, _, _, hnc, _⟩
  · omega
  · injection hv with _ _ hc; omega
theorem OwBB.blocks {vs : List Value} (ho : Ow w base 30 A rows.length c vs) (hr : ∀ (i : Nat) (r : List UInt8), rows[i]? = some r → ∃ (A' : Option Addr) (c' : Nat), vs[i]? = some (Value.slice A' r.length c') ∧ OwB w base A' c' r ∧ (∀ a a', A = some a → A' = some a' → a'.block ≠ a.block)) :
    ∀ v ∈ vs, ∀ g, v.ownBlock = some g → g < w.heap.size := by
  intro v hv g hg
  obtain ⟨i, hi, rfl⟩ := List.getElem_of_mem hv
  have hl : i < rows.length := by have := ho.len; omega
  obtain ⟨A', c', h1, h2, _⟩ := hr i _ (List.getElem?_eq_getElem hl)
  rw [List.getElem?_eq_getElem hi] at h1
  simp only [Option.some.injEq] at h1
  rw [h1, ownBlock_slice] at hg
  cases A' with
  | none => simp at hg
  | some a' => have := (Ow.lt h2 a' rfl).2; simp at hg; omega
end

/-- append(rows, row): the row has been made behind the rows. -/
theorem wl_pushR {N : Nat} {ops : Array Oper} {Q : Exit → Act → World → Prop} {rest : List Oper} {L : FL} {w0 w wf : World} {d1 d2 : Nat} {s x : Operand} {ty1 ty2 : TypeId} {p1 p2 : String} {f1 f2 : Array Edge}
    {base n c c1 : Nat} {A A1 : Option Addr} {rows : List (List UInt8)} {r : List UInt8} (hown : OwBB w0 base A c rows) (hb : Below w0.heap.size w0 w) (hbase : base ≤ w0.heap.size) (hnew : OwB w w0.heap.size A1 c1 r) (hbel : Below base wf w)
    (hn : rows.length = n) (hbytes : (n + 1) * 24 ≤ 140737488355328) (hs : look L s = some (Value.slice A n c)) (hx : look L x = some (Value.slice A1 r.length c1))
    (hs1 : look ((d1, .slice (some ⟨w.heap.size, 0, none⟩) 1 1) :: L) s = some (Value.slice A n c)) (hd1 : Nat.blt d1 N = true) (hd2 : Nat.blt d2 N = true)
    (h : ∀ p A' c' w', OwBB w' base A' c' (rows ++ [r]) → Below base wf w' → WL Try.prog N ops Q rest ((d2, .slice A' (n + 1) c') :: (d1, p) :: L) w') :
    WL Try.prog N ops Q (⟨some d1, .buildSlice 90 1 #[(0, x)], ty1, p1, f1, none⟩ :: ⟨some d2, .call { callee := .builtin .append, args := #[s, .tmp d1], argTypes := #[90, 90] }, ty2, p2, f2, none⟩ :: rest) L w := by
  subst hn
  obtain ⟨vs, ho, hr, hsep⟩ := hown
  have hlt := OwBB.blocks ho hr
  have ho1 := Ow.below ho hb (Nat.le_refl _)
  have hsz := hb.size
  refine wl_push (vs := [.slice A1 r.length c1]) tyBB hs ho1 ⟨rfl, hx, rfl, trivial⟩ rfl (by decide) hs1 hbytes (by simp only [maxLen]; omega) (by omega) hd1 hd2 fun p A' c' w' ho' hg hat => ?_
  refine h p A' c' w' ⟨vs ++ [.slice A1 r.length c1], by rw [List.length_append]; exact ho', ?_, ?_⟩ ?_
  · intro i q hi
    have hlen := ho.len
    rw [List.getElem?_append] at hi
    by_cases hil : i < rows.length
    · rw [if_pos hil] at hi
      obtain ⟨A2, c2, h1, h2, h3⟩ := hr i q hi
      refine ⟨A2, c2, by rw [List.getElem?_append_left (by omega)]; exact h1, Ow.gr (base' := 0) (e' := 0) (Ow.below h2 hb (Nat.le_refl _)) hg (fun a b ha hb' => h3 _ _ hb' ha), ?_⟩
      rintro a a' rfl rfl
      have hl2 := (Ow.lt h2 a' rfl).2
      rcases hat with hat | hat
      · cases A with
        | none => simp at hat
        | some aa => simp only [Option.map_some, Option.some.injEq] at hat; rw [hat]; exact h3 aa a' rfl rfl
      · have := hat a rfl; omega
    · rw [if_neg hil] at hi
      have hi0 : i = rows.length := by
        have := (List.getElem?_eq_some_iff.1 hi).1
        simp at this; omega
      subst hi0
      simp at hi
      subst hi
      have hne : ∀ a b, A1 = some a → A = some b → a.block ≠ b.block := by
        rintro a b rfl rfl
        have := (Ow.lt hnew a rfl).1
        have := (Ow.lt ho b rfl).2
        omega
      refine ⟨A1, c1, by rw [← hlen]; simp, Ow.mono (Ow.gr (base' := 0) (e' := 0) hnew hg hne) hbase, ?_⟩
      rintro a a' rfl rfl
      have hl2 := (Ow.lt hnew a' rfl).2
      rcases hat with hat | hat
      · cases A with
        | none => simp at hat
        | some aa => simp only [Option.map_some, Option.some.injEq] at hat; rw [hat]; exact hne a' aa rfl rfl
      · have := hat a rfl; omega
  · rw [List.pairwise_append]
    refine ⟨hsep, List.pairwise_singleton _ _, fun v hv v' hv' g hg1 hg2 => ?_⟩
    simp only [List.mem_singleton] at hv'
    subst hv'
    have h1 := hlt v hv g hg1
    rw [ownBlock_slice] at hg2
    cases A1 with
    | none => simp at hg2
    | some a1 => have := (Ow.lt hnew a1 rfl).1; simp at hg2; omega
  · exact hg.below hbel ho1 (Nat.le_refl _) (by omega)
end Go.Proofs.Ytcjiecclmepboaa
