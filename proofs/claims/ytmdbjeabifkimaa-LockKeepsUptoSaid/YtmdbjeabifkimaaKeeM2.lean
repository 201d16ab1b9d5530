/-
  The texts of this proof, joined: Di, Pa, Wf, Wa, Pb, Wg, Row, Pc, Wh, Ja, Held, Jb, Jc, Zb, Jd, Zc, Iv, Ya, Je, Jf, Jg, Jh, Ji, Jj, Jk, Jp, Jr, Pe, Pf.
-/
import Derived.Test.YtmdbjeabifkimaaKeeM1
import Derived.MapKept
import Derived.Laws.Externs
import Derived.OrdersHeld
import Derived.Deep.RegionHeld3
import Derived.Deep.MidRow
import Derived.Lib.Hide

/-
  The engine's rules for maps whose keys are ints and of which nothing is deleted: made, asked, written, counted. Nothing here names the program.
-/
namespace Go.Proofs.Ytmdbjeabifkimaa
open Go.RowKit

/-- An entry: its key, its value, its stamp. -/
abbrev ME := Nat × Value × Nat
def kI (k : Nat) : Value := .int .i64 (k : Int)
def toE (x : ME) : MapEntry := { key := kI x.1, val := x.2.1, born := x.2.2 }
/-- Block b is a map with these entries. -/
def Mp (w : World) (b : Nat) (es : List ME) (clk : Nat) : Prop := w.heap[b]? = some (.map (es.map toE).toArray clk)
def fnd (k : Nat) : List ME → Nat → Option (Nat × Value)
  | [], _ => none
  | e :: es, i => if k = e.1 then some (i, e.2.1) else fnd k es (i + 1)
def mget (es : List ME) (k : Nat) : Option Value := (fnd k es 0).map (·.2)
def mput (es : List ME) (clk : Nat) (k : Nat) (v : Value) : List ME × Nat :=
  match fnd k es 0 with
  | some (i, _) => (es.modify i fun e => (k, v, e.2.2), clk)
  | none => (es ++ [(k, v, clk)], clk + 1)
section
variable {P : Program} {N : Nat} {ops : Array Oper} {Q : Exit → Act → World → Prop} {rest : List Oper} {L : FL} {w w' : World} {t e kt : TypeId} {b clk : Nat} {es : List ME} {k : Nat}
theorem Mp.lt (h : Mp w b es clk) : b < w.heap.size := (Array.getElem?_eq_some_iff.1 h).1
theorem Mp.bel (h : Mp w b es clk) (hb : Below w.heap.size w w') : Mp w' b es clk := (hb.block b h.lt).trans h
theorem Mp.gr {A : Option Addr} (h : Mp w b es clk) (g : Gr w w' A) (hA : ∀ a, A = some a → a.block ≠ b) : Mp w' b es clk :=
  (g.block b h.lt fun hk => by
    cases A with
    | none => simp at hk
    | some a => simp at hk; exact hA a rfl hk.symm).trans h
theorem findNow_str (k : Nat) : ∀ (es : List ME) (i : Nat), Instr.findNow (.int .i64) (kI k) (es.map toE) i = some (fnd k es i)
  | [], i => rfl
  | e :: es, i => by
    have hs : Instr.sameNow (.int .i64) (kI k) (toE e).key = some (decide (k = e.1)) := by
      show some ((k : Int) == (e.1 : Int)) = _
      congr 1
      rw [Bool.eq_iff_iff]
      simp
      omega
    simp only [List.map_cons, Instr.findNow, hs, fnd]
    by_cases h : k = e.1
    · simp [h]; rfl
    · simp [h, findNow_str k es (i + 1)]
theorem run_findKey (hk : P.underlying kt = some (.int .i64)) : (Instr.findKey kt (kI k) (es.map toE)).run P w = .ok (fnd k es 0) w := by
  simp only [Instr.findKey, Sem.run_bind, run_underlying hk, Result.andThen_ok, findNow_str]
  simp
theorem opv_mkMap {ty : TypeId} : OpV P (.makeMap t none) ty L w (.map (some w.heap.size)) (w.alloc (.map #[] 0)) := fun ρ o hρ ho _ => by
  simp [execOp, ho, Instr.makeMap]
theorem wl_mkMap {d : Nat} {ty : TypeId} {pos : String} {aft : Array Edge} (hd : Nat.blt d N = true)
    (h : ∀ g w', w.heap.size ≤ g → Mp w' g [] 0 → Below w.heap.size w w' → WL P N ops Q rest ((d, .map (some g)) :: L) w') :
    WL P N ops Q (⟨some d, .makeMap t none, ty, pos, aft, none⟩ :: rest) L w :=
  wl_val opv_mkMap hd (h _ _ (Nat.le_refl _) (heap_alloc_new w _) ((Below.refl _ _).alloc (Nat.le_refl _) _))
theorem opv_lookup {x y : Operand} {ty : TypeId} {z : Value} (ht : P.underlying t = some (.map kt e)) (hk : P.underlying kt = some (.int .i64)) (hz : (P.info? e).map (·.zero) = some (some z)) (hx : look L x = some (.map (some b))) (hy : look L y = some (kI k)) (hm : Mp w b es clk) :
    OpV P (.lookup t x y false) ty L w ((mget es k).getD z) w := fun ρ o hρ ho _ => by
  have hzr : (zeroValue e).run P w = .ok z w := by
    cases hq : P.info? e with
    | none => simp [hq] at hz
    | some i => have : i.zero = some z := by simpa [hq] using hz
                simp [zeroValue, typeInfo, hq, this]
  have hg : (getObj b).run P w = .ok (.map (es.map toE).toArray clk) w := by simp [getObj, Sem.run, show w.heap[b]? = _ from hm]
  have hck : ∀ em, (Instr.checkKey em 10000 kt (kI k)).run P w = .ok () w := fun em => MapKept.run_checkKey hk (show MapKept.IsKey (.int .i64) (kI k) from rfl) em 9999
  unfold execOp
  simp only [ho, Instr.lookup, Sem.run_bind, run_underlying ht, Result.andThen_ok, hρ x _ hx, hρ y _ hy, hg, hck, Sem.run_pure]
  rw [run_findKey hk]
  unfold mget
  cases fnd k es 0 with
  | none => simp [hzr]
  | some p => simp
theorem sameBits_str (n : Nat) (a : Nat) : Instr.sameBits n (kI a) (kI a) = true := MapKept.sameBits_self (d := .int .i64) (show MapKept.IsKey (.int .i64) (kI a) from rfl) n
theorem fnd_get : ∀ (es : List ME) (j i : Nat) (v : Value), fnd k es j = some (i, v) → j ≤ i ∧ ∃ x, es[i - j]? = some x ∧ x.1 = k ∧ x.2.1 = v
  | [], j, i, v, h => by simp [fnd] at h
  | x :: es, j, i, v, h => by
    unfold fnd at h
    split at h
    · rename_i hk
      simp only [Option.some.injEq, Prod.mk.injEq] at h
      obtain ⟨rfl, rfl⟩ := h
      exact ⟨Nat.le_refl _, x, by simp, hk.symm, rfl⟩
    · obtain ⟨h1, y, h2, h3⟩ := fnd_get es (j + 1) i v h
      refine ⟨by omega, y, ?_, h3⟩
      rw [show i - j = (i - (j + 1)) + 1 by omega]; simpa using h2
theorem opu_mput {m y z : Operand} {ty : TypeId} {v : Value} (ht : P.underlying t = some (.map kt e)) (hk : P.underlying kt = some (.int .i64)) (hx : look L m = some (.map (some b))) (hy : look L y = some (kI k)) (hz : look L z = some v) (hm : Mp w b es clk) :
    ∃ w', OpU P (.mapUpdate t m y z) ty L w w' ∧ Mp w' b (mput es clk k v).1 (mput es clk k v).2 ∧ Gr w w' (some ⟨b, 0, none⟩) ∧ w'.heap.size = w.heap.size := by
  refine ⟨{ w with heap := w.heap.setIfInBounds b (.map ((mput es clk k v).1.map toE).toArray (mput es clk k v).2) }, fun ρ o hρ ho _ => ?_, ?_, ⟨rfl, rfl, rfl, by simp, fun j _ hj => ?_⟩, by simp⟩
  · have hg : (getObj b).run P w = .ok (.map (es.map toE).toArray clk) w := by simp [getObj, Sem.run, show w.heap[b]? = _ from hm]
    have hs : ∀ o' : Obj, (∃ a c, o' = .map a c) → (setObj b o').run P w = .ok () { w with heap := w.heap.setIfInBounds b o' } := fun o' ⟨a, c, ho'⟩ => by
      subst ho'; simp [setObj, Sem.run, show w.heap[b]? = _ from hm]
    have hck : ∀ em, (Instr.checkKey em 10000 kt (kI k)).run P w = .ok () w := fun em => MapKept.run_checkKey hk (show MapKept.IsKey (.int .i64) (kI k) from rfl) em 9999
    unfold execOp
    simp only [ho, Instr.mapUpdate, Sem.run_bind, run_underlying ht, Result.andThen_ok, hρ m _ hx, hρ y _ hy, hρ z _ hz, hg, hck]
    rw [run_findKey hk]
    unfold mput
    cases hf : fnd k es 0 with
    | none =>
      simp only [Result.andThen_ok]
      rw [hs _ ⟨_, _, rfl⟩]
      simp [toE]
    | some p =>
      obtain ⟨i, u⟩ := p
      obtain ⟨_, x, h2, h3, h4⟩ := fnd_get es 0 i u hf
      rw [Nat.sub_zero] at h2
      have hi := (List.getElem?_eq_some_iff.1 h2).1
      have hkey : ((((es.map toE).toArray)[i]?).map (·.key)).getD (kI k) = kI k := by
        simp [h2, toE, h3]
      simp only [Result.andThen_ok, Sem.run_bind, hkey, Instr.keyThatStays, sameBits_str, if_true, Sem.run_pure]
      rw [hs _ ⟨_, _, rfl⟩]
      have e : (es.map toE).toArray.modify i (fun e => { e with key := kI k, val := v }) = ((es.modify i fun e => (k, v, e.2.2)).map toE).toArray := by
        apply Array.ext'
        apply List.ext_getElem?
        intro j
        simp only [Array.toList_modify, List.getElem?_modify, List.getElem?_map]
        by_cases hij : i = j
        · subst hij; simp [h2, toE]
        · simp [hij]
      simp only [e]
      simp
  · simp [Mp, hm.lt]
  · simp only [Array.getElem?_setIfInBounds]
    rw [if_neg (by simp at hj; exact fun h => hj h.symm)]
theorem wl_mput {m y z : Operand} {ty : TypeId} {pos : String} {aft : Array Edge} {v : Value} (ht : P.underlying t = some (.map kt e)) (hk : P.underlying kt = some (.int .i64)) (hx : look L m = some (.map (some b))) (hy : look L y = some (kI k)) (hz : look L z = some v) (hm : Mp w b es clk)
    (h : ∀ w', Mp w' b (mput es clk k v).1 (mput es clk k v).2 → Gr w w' (some ⟨b, 0, none⟩) → w'.heap.size = w.heap.size → WL P N ops Q rest L w') :
    WL P N ops Q (⟨none, .mapUpdate t m y z, ty, pos, aft, none⟩ :: rest) L w := by
  obtain ⟨w', h1, h2, h3, h4⟩ := opu_mput (ty := ty) ht hk hx hy hz hm
  exact wl_unitN h1 (h w' h2 h3 h4)
theorem opv_lenM {x : Operand} {ty : TypeId} (ht : P.underlying t = some (.map kt e)) (hx : look L x = some (.map (some b))) (hm : Mp w b es clk) :
    OpV P (.call { callee := .builtin .len, args := #[x], argTypes := #[t] }) ty L w (.int .i64 (es.length : Int)) w := fun ρ o hρ ho _ => by
  have hg : (getObj b).run P w = .ok (.map (es.map toE).toArray clk) w := by simp [getObj, Sem.run, show w.heap[b]? = _ from hm]
  simp [execOp, ho, resolve, invoke, builtin, Builtin.len_, hρ x _ hx, run_underlying ht, goInt, hg]

end
end Go.Proofs.Ytmdbjeabifkimaa


/-
  Plain functions on lists of bytes, for layer 1 (codec), and what is true of them. Nothing here names the program or the model.
-/
namespace Go.Proofs.Ytmdbjeabifkimaa

/-- A number in groups of seven bits. -/
def putU (n : Nat) : List UInt8 := if n < 128 then [UInt8.ofNat n] else UInt8.ofNat (n % 128 + 128) :: putU (n / 128)

/-- The number at the head of a list: n is what has been read, i how many bytes; value, count, error. -/
def getAux : Nat → Nat → List UInt8 → Nat × Nat × Nat
  | _, _, [] => (0, 0, 5)
  | i, n, x :: r =>
    if (i = 9 ∧ 1 < x.toNat) ∨ (x.toNat = 0 ∧ 0 < i) then (0, 0, 3)
    else if x.toNat < 128 then (n + x.toNat * 128 ^ i, i + 1, 0)
    else getAux (i + 1) (n + (x.toNat - 128) * 128 ^ i) r

/-- The number at a place: value, place behind it, error. -/
def getU (b : List UInt8) (p : Int) : Nat × Int × Nat :=
  if p < 0 ∨ (b.length : Int) < p then (0, 0, 1) else
  match getAux 0 0 (b.drop p.toNat) with
  | (n, k, 0) => (n, p + k, 0)
  | (_, _, e) => (0, 0, e)

theorem or128 (m : Nat) : (m % 256 ||| 128) = m % 128 + 128 := by
  have h : m % 256 < 256 := Nat.mod_lt _ (by decide)
  have e : m % 128 = (m % 256) % 128 := by omega
  rw [e]
  generalize m % 256 = x at h
  revert x
  decide +kernel
theorem andNot128 (x : UInt8) : (x.toNat &&& (18446744073709551615 - 128)) = x.toNat % 128 := by
  have h : x.toNat < 256 := x.toNat_lt
  generalize x.toNat = y at h
  revert y
  decide +kernel
theorem or_shift {n y i : Nat} (h : n < 128 ^ i) : n ||| y * 2 ^ (7 * i) = n + y * 128 ^ i := by
  have e : (128 : Nat) ^ i = 2 ^ (7 * i) := by rw [Nat.pow_mul]
  rw [e] at h ⊢
  rw [Nat.or_comm, ← Nat.shiftLeft_eq, ← Nat.shiftLeft_add_eq_or_of_lt h, Nat.shiftLeft_eq, Nat.add_comm]

theorem drop_get {l : List UInt8} {k : Nat} {b : UInt8} (h : l[k]? = some b) : l.drop k = b :: l.drop (k + 1) := by
  have hk : k < l.length := by
    rcases Nat.lt_or_ge k l.length with h' | h'
    · exact h'
    · rw [List.getElem?_eq_none h'] at h; cases h
  rw [List.getElem?_eq_getElem hk] at h
  cases h
  exact List.drop_eq_getElem_cons hk
theorem take_get {l : List UInt8} {k : Nat} {b : UInt8} (h : l[k]? = some b) : l.take (k + 1) = l.take k ++ [b] := by
  rw [List.take_add_one, h]; rfl

theorem getAux_step {i n : Nat} {x : UInt8} {r : List UInt8} (h1 : ¬ ((i = 9 ∧ 1 < x.toNat) ∨ (x.toNat = 0 ∧ 0 < i))) (h2 : ¬ x.toNat < 128) : getAux i n (x :: r) = getAux (i + 1) (n + x.toNat % 128 * 128 ^ i) r := by
  rw [getAux, if_neg h1, if_neg h2]
  have h3 := x.toNat_lt
  have h4 : x.toNat - 128 = x.toNat % 128 := by omega
  rw [h4]
theorem getAux_form {i n : Nat} {x : UInt8} {r : List UInt8} (h1 : (i = 9 ∧ 1 < x.toNat) ∨ (x.toNat = 0 ∧ 0 < i)) : getAux i n (x :: r) = (0, 0, 3) := by
  rw [getAux, if_pos h1]
theorem getAux_last {i n : Nat} {x : UInt8} {r : List UInt8} (h1 : ¬ ((i = 9 ∧ 1 < x.toNat) ∨ (x.toNat = 0 ∧ 0 < i))) (h2 : x.toNat < 128) : getAux i n (x :: r) = (n + x.toNat % 128 * 128 ^ i, i + 1, 0) := by
  rw [getAux, if_neg h1, if_pos h2, Nat.mod_eq_of_lt h2]
theorem getU_arg {b : List UInt8} {p : Int} (h : ¬ (0 ≤ p ∧ p ≤ b.length)) : getU b p = (0, 0, 1) := by
  rw [getU, if_pos (by omega)]
theorem getU_ok {b : List UInt8} {q n k : Nat} (hq : q ≤ b.length) (h : getAux 0 0 (b.drop q) = (n, k, 0)) : getU b q = (n, (q : Int) + k, 0) := by
  rw [getU, if_neg (by omega)]
  simp [h]
theorem getU_bad {b : List UInt8} {q e : Nat} (hq : q ≤ b.length) (h : getAux 0 0 (b.drop q) = (0, 0, e + 1)) : getU b q = (0, 0, e + 1) := by
  rw [getU, if_neg (by omega)]
  simp [h]
/-- A number of ten groups at most, and what a further group adds. -/
theorem group_lt {i n y : Nat} (hn : n < 128 ^ i) (hy : y < 128) : n + y * 128 ^ i < 128 ^ (i + 1) := by
  have h1 : y * 128 ^ i ≤ 127 * 128 ^ i := Nat.mul_le_mul_right _ (by omega)
  rw [Nat.pow_succ]
  omega
theorem pow128_9 : (128 : Nat) ^ 9 = 9223372036854775808 := by decide

theorem sum_lt {i n x : Nat} (hn : n < 128 ^ i) (hi : i ≤ 9) (hx1 : i = 9 → x ≤ 1) : n + x % 128 * 128 ^ i < 18446744073709551616 := by
  rcases Nat.lt_or_ge i 9 with h9 | h9
  · have h8 := group_lt hn (Nat.mod_lt x (show 0 < 128 by decide))
    have : (128 : Nat) ^ (i + 1) ≤ 128 ^ 9 := Nat.pow_le_pow_right (by decide) (by omega)
    rw [pow128_9] at this; omega
  · obtain rfl : i = 9 := by omega
    have h10 := hx1 rfl
    have : x % 128 ≤ 1 := by omega
    have : x % 128 * 128 ^ 9 ≤ 1 * 128 ^ 9 := Nat.mul_le_mul_right _ this
    rw [pow128_9] at *; omega

/-- What is written is read back. -/
theorem getAux_putU (r : List UInt8) : ∀ (m i n : Nat), n < 128 ^ i → m < 2 ^ (64 - 7 * i) → i ≤ 9 → (i = 0 ∨ 0 < m) → getAux i n (putU m ++ r) = (n + m * 128 ^ i, i + (putU m).length, 0) := by
  intro m
  induction m using Nat.strongRecOn with
  | _ m ih =>
    intro i n hn hm hi h0
    have h9 : i = 9 → m < 2 := by rintro rfl; simpa using hm
    rw [putU]
    by_cases hs : m < 128
    · rw [if_pos hs]
      have e : (UInt8.ofNat m).toNat = m := by simp; omega
      simp only [List.cons_append, List.nil_append]
      rw [getAux_last (by rw [e]; omega) (by rw [e]; exact hs), e, Nat.mod_eq_of_lt hs]; rfl
    · rw [if_neg hs]
      have e : (UInt8.ofNat (m % 128 + 128)).toNat = m % 128 + 128 := by rw [UInt8.toNat_ofNat']; omega
      simp only [List.cons_append]
      have e2 : (m % 128 + 128) % 128 = m % 128 := by omega
      rw [getAux_step (by rw [e]; omega) (by rw [e]; omega), e, e2]
      have hi8 : i ≤ 8 := by omega
      rw [ih (m / 128) (by omega) (i + 1) _ (group_lt hn (Nat.mod_lt _ (by decide))) ?_ (by omega) (by omega)]
      · refine Prod.ext ?_ (Prod.ext ?_ rfl)
        · show n + m % 128 * 128 ^ i + m / 128 * 128 ^ (i + 1) = n + m * 128 ^ i
          have : m * 128 ^ i = (m % 128 + 128 * (m / 128)) * 128 ^ i := by rw [Nat.mod_add_div]
          rw [this, Nat.add_mul, Nat.pow_succ]
          have : m / 128 * (128 ^ i * 128) = 128 * (m / 128) * 128 ^ i := by rw [Nat.mul_comm (128 ^ i) 128, ← Nat.mul_assoc, Nat.mul_comm (m / 128) 128]
          omega
        · simp; omega
      · refine Nat.div_lt_of_lt_mul ?_
        rw [show 128 = 2 ^ 7 from rfl, ← Nat.pow_add, show 7 + (64 - 7 * (i + 1)) = 64 - 7 * i by omega]
        exact hm
theorem getU_putU {n : Nat} (hn : n < 2 ^ 64) : getU (putU n) 0 = (n, ((putU n).length : Int), 0) := by
  have h := getAux_putU [] n 0 0 (by decide) hn (by omega) (.inl rfl)
  rw [List.append_nil] at h
  rw [getU, if_neg (by omega)]
  simp only [Int.toNat_zero, List.drop_zero, h]
  simp
/-- What is read is what is written. -/
theorem getAux_inv : ∀ (l : List UInt8) (i n v k : Nat), n < 128 ^ i → i ≤ 9 → getAux i n l = (v, k, 0) →
    ∃ m j, k = i + j ∧ j ≤ l.length ∧ v = n + m * 128 ^ i ∧ putU m = l.take j ∧ (i = 0 ∨ 0 < m) ∧ v < 18446744073709551616
  | [], i, n, v, k, _, _, h => by simp [getAux] at h
  | x :: r, i, n, v, k, hn, hi, h => by
    have hx := x.toNat_lt
    by_cases h1 : (i = 9 ∧ 1 < x.toNat) ∨ (x.toNat = 0 ∧ 0 < i)
    · rw [getAux_form h1] at h; simp at h
    · by_cases h2 : x.toNat < 128
      · rw [getAux_last h1 h2] at h
        have hs := sum_lt hn hi (x := x.toNat) (by omega)
        injection h with ha hb; injection hb with hb _
        subst ha hb
        rw [Nat.mod_eq_of_lt h2] at hs ⊢
        refine ⟨x.toNat, 1, rfl, by simp, rfl, ?_, by omega, hs⟩
        rw [putU, if_pos h2]; simp
      · rw [getAux_step h1 h2] at h
        have hi8 : i ≤ 8 := by omega
        obtain ⟨m, j, rfl, hj, rfl, hp, h0, hlt⟩ := getAux_inv r (i + 1) _ v k (group_lt hn (Nat.mod_lt _ (by decide))) (by omega) h
        refine ⟨x.toNat % 128 + 128 * m, j + 1, by omega, by simp; omega, ?_, ?_, by omega, hlt⟩
        · rw [Nat.add_mul, Nat.pow_succ]
          have : m * (128 ^ i * 128) = 128 * m * 128 ^ i := by rw [Nat.mul_comm (128 ^ i) 128, ← Nat.mul_assoc, Nat.mul_comm m 128]
          omega
        · rw [putU, if_neg (by omega)]
          have e1 : (x.toNat % 128 + 128 * m) % 128 + 128 = x.toNat := by omega
          have e2 : (x.toNat % 128 + 128 * m) / 128 = m := by omega
          rw [e1, e2, hp]; simp
theorem getU_inv {l : List UInt8} {p : Int} {v : Nat} {x : Int} (h : getU l p = (v, x, 0)) :
    ∃ q k : Nat, p = q ∧ x = k ∧ q ≤ k ∧ k ≤ l.length ∧ putU v = (l.take k).drop q ∧ v < 18446744073709551616 := by
  rw [getU] at h
  split at h
  · simp at h
  · rename_i hp
    obtain ⟨q, rfl⟩ := Int.eq_ofNat_of_zero_le (by omega : 0 ≤ p)
    simp only [Int.toNat_natCast] at h
    cases hg : getAux 0 0 (l.drop q) with
    | mk n ke =>
      obtain ⟨k, e⟩ := ke
      rw [hg] at h
      cases e with
      | succ e => simp at h
      | zero =>
        simp only [Prod.mk.injEq, and_true] at h
        obtain ⟨rfl, rfl⟩ := h
        obtain ⟨m, j, rfl, hj, rfl, hp2, _, hlt⟩ := getAux_inv _ 0 0 n k (by decide) (by omega) hg
        rw [List.length_drop] at hj
        refine ⟨q, q + j, rfl, by omega, by omega, by omega, ?_, hlt⟩
        simp only [Nat.pow_zero, Nat.mul_one, Nat.zero_add]
        rw [hp2, List.drop_take]; congr 1; omega
theorem getU_err {l : List UInt8} {p : Int} (h : (getU l p).2.2 ≠ 0) : (getU l p).1 = 0 ∧ (getU l p).2.1 = 0 := by
  unfold getU at h ⊢
  split
  · simp
  · rename_i hp
    rw [if_neg hp] at h
    split at h
    · simp at h
    · simp
theorem getU_fits (l : List UInt8) (p : Int) : (getU l p).1 < 18446744073709551616 := by
  by_cases h : (getU l p).2.2 = 0
  · obtain ⟨_, _, _, _, _, _, _, h⟩ := getU_inv (l := l) (p := p) (v := (getU l p).1) (x := (getU l p).2.1) (by rw [← h])
    exact h
  · rw [(getU_err h).1]; decide

theorem putU_length : ∀ (f n : Nat), n < 128 ^ (f + 1) → (putU n).length ≤ f + 1
  | 0, n, h => by rw [putU, if_pos (by omega)]; simp
  | f + 1, n, h => by
    rw [putU]
    split
    · simp
    · have := putU_length f (n / 128) (Nat.div_lt_of_lt_mul (by rw [Nat.mul_comm, ← Nat.pow_succ]; exact h))
      simp; omega
theorem putU_le {n : Nat} (h : n < 2 ^ 64) : (putU n).length ≤ 10 := putU_length 9 n (Nat.lt_of_lt_of_le h (by decide))

/-- Bytes with an end, in their order. -/
def esc (l : List UInt8) : List UInt8 := l.flatMap fun x => if x = 0 then [0, 255] else [x]
def ordText (l : List UInt8) : List UInt8 := esc l ++ [0, 1]
theorem esc_take {l : List UInt8} {k : Nat} {b : UInt8} (h : l[k]? = some b) : esc (l.take (k + 1)) = esc (l.take k) ++ if b = 0 then [0, 255] else [b] := by
  rw [take_get h]; simp [esc]
theorem esc_length (l : List UInt8) : (esc l).length ≤ 2 * l.length := by
  induction l with
  | nil => simp [esc]
  | cons x r ih =>
    have : esc (x :: r) = (if x = 0 then [0, 255] else [x]) ++ esc r := by simp [esc]
    rw [this, List.length_append, List.length_cons]
    split <;> simp <;> omega
theorem toNat_zero {b : UInt8} : (b.toNat : Int) = 0 ↔ b = 0 := by
  constructor
  · intro h; exact UInt8.toNat_inj.1 (by simp; omega)
  · rintro rfl; rfl

/-- How two lists compare. -/
def cmpB : List UInt8 → List UInt8 → Int
  | [], [] => 0
  | [], _ :: _ => -1
  | _ :: _, [] => 1
  | x :: xs, y :: ys => if x < y then -1 else if y < x then 1 else cmpB xs ys
theorem cmp_same {x : UInt8} {xs ys : List UInt8} : cmpB (x :: xs) (x :: ys) = cmpB xs ys := by simp [cmpB]
theorem cmp_lt {x y : UInt8} {xs ys : List UInt8} (h : x < y) : cmpB (x :: xs) (y :: ys) = -1 := by simp [cmpB, h]
theorem cmp_gt {x y : UInt8} {xs ys : List UInt8} (h : y < x) : cmpB (x :: xs) (y :: ys) = 1 := by
  have h' : ¬ x < y := fun e => by rw [UInt8.lt_iff_toNat_lt] at *; omega
  simp [cmpB, h, h']
theorem cmp_short {xs ys : List UInt8} (hx : xs = []) (hy : 0 < ys.length) : cmpB xs ys = -1 := by
  subst hx; cases ys with
  | nil => simp at hy
  | cons => simp [cmpB]
theorem cmp_long {xs ys : List UInt8} (hx : 0 < xs.length) (hy : ys = []) : cmpB xs ys = 1 := by
  subst hy; cases xs with
  | nil => simp at hx
  | cons => simp [cmpB]
end Go.Proofs.Ytmdbjeabifkimaa


/-
  Walks over the comparisons of layer 1: Cmp of the reference; bytes.Compare, whose work the model does itself, and codec.Cmp.
-/
namespace Go.Proofs.Ytmdbjeabifkimaa
open Go.RowKit

theorem run_loadBytes {P : Program} {w : World} {b : Nat} : ∀ (xs : List UInt8) (o : Nat) (acc : List UInt8), (∀ j u, (bvs xs)[j]? = some u → w.cell? ⟨b, o + j, none⟩ = some u) →
    (Extern.Bytes.loadBytes ⟨b, o, none⟩ xs.length ⟨acc.toArray⟩).run P w = .ok ⟨(acc ++ xs).toArray⟩ w
  | [], o, acc, _ => by simp [Extern.Bytes.loadBytes]
  | x :: xs, o, acc, h => by
    have h0 := h 0 (bv x) (by simp [bvs])
    simp only [Nat.add_zero] at h0
    have ih := run_loadBytes (P := P) xs (o + 1) (acc ++ [x]) (fun j u hu => by
      have := h (j + 1) u (by simpa [bvs] using hu)
      rw [show o + 1 + j = o + (j + 1) by omega]; exact this)
    have e1 : (ByteArray.mk acc.toArray).push x = ⟨(acc ++ [x]).toArray⟩ := by
      simp [ByteArray.push]
    have e2 : ((x.toNat : Int)).toNat.toUInt8 = x := by simp
    simp only [List.length_cons, Extern.Bytes.loadBytes, Sem.run_bind, run_load, h0, Result.andThen_ok, bv, e2, e1, Addr.add_lit, ih]
    simp
theorem run_bytesOf {P : Program} {w : World} {A : Option Addr} {c : Nat} {xs : List UInt8} (hr : RdB w A xs) : (Extern.Bytes.bytesOf (.slice A xs.length c)).run P w = .ok ⟨xs.toArray⟩ w := by
  cases xs with
  | nil => cases A with
    | none => simp [Extern.Bytes.bytesOf]; rfl
    | some a => simp [Extern.Bytes.bytesOf, Extern.Bytes.loadBytes]; rfl
  | cons x r =>
    obtain ⟨b, o, rfl, _, hc⟩ := hr.2 (by simp)
    have := run_loadBytes (P := P) (x :: r) o [] hc
    simp only [Extern.Bytes.bytesOf]
    exact this
theorem ba_get (l : List UInt8) (i : Nat) : (ByteArray.mk l.toArray)[i]! = l.getD i 0 := by
  by_cases h : i < l.length
  · rw [getElem!_pos _ i (show i < (ByteArray.mk l.toArray).size from h)]
    simp [List.getD, List.getElem?_eq_getElem h]; rfl
  · rw [getElem!_neg _ i (show ¬ i < (ByteArray.mk l.toArray).size from h)]
    simp [List.getD, List.getElem?_eq_none (Nat.le_of_not_lt h)]; rfl
def cmpL (xs ys : List UInt8) : Int :=
  match (List.range (min xs.length ys.length)).find? fun i => xs.getD i 0 != ys.getD i 0 with
  | some i => if xs.getD i 0 < ys.getD i 0 then -1 else 1
  | none => if xs.length < ys.length then -1 else if xs.length > ys.length then 1 else 0
theorem cmp_list (xs ys : List UInt8) : Extern.BytealgCompare.cmp ⟨xs.toArray⟩ ⟨ys.toArray⟩ = cmpL xs ys := by
  unfold Extern.BytealgCompare.cmp cmpL
  simp only [ba_get]
  rfl
theorem cmpL_eq : ∀ (xs ys : List UInt8), cmpL xs ys = cmpB xs ys
  | [], [] => by simp [cmpL, cmpB]
  | [], _ :: _ => by simp [cmpL, cmpB]
  | _ :: _, [] => by simp [cmpL, cmpB]
  | x :: xs, y :: ys => by
    have ih := cmpL_eq xs ys
    unfold cmpL at ih ⊢
    rw [show min (x :: xs).length (y :: ys).length = min xs.length ys.length + 1 by simp, List.range_succ_eq_map, List.find?_cons]
    by_cases h : x = y
    · subst h
      simp only [List.getD_cons_zero, bne_self_eq_false, List.find?_map]
      have e : ((fun i => (x :: xs).getD i 0 != (x :: ys).getD i 0) ∘ Nat.succ) = fun i => xs.getD i 0 != ys.getD i 0 := by
        funext i; simp
      have ec : cmpB (x :: xs) (x :: ys) = cmpB xs ys := by simp [cmpB]
      rw [e, ec, ← ih]
      cases (List.range (min xs.length ys.length)).find? fun i => xs.getD i 0 != ys.getD i 0 with
      | none => simp
      | some i => simp
    · have hne : (x != y) = true := by simpa using h
      simp only [List.getD_cons_zero, cmpB, hne]
      by_cases hlt : x < y
      · simp [hlt]
      · have : y < x := by
          rcases Nat.lt_trichotomy x.toNat y.toNat with h' | h' | h'
          · exact absurd (UInt8.lt_iff_toNat_lt.2 h') hlt
          · exact absurd (UInt8.toNat_inj.1 h') h
          · exact UInt8.lt_iff_toNat_lt.2 h'
        simp [hlt, this]

/-- The model's own work for bytes.Compare. -/
theorem compare_run {A B : Option Addr} {c d : Nat} {xs ys : List UInt8} {w : World} (hx : RdB w A xs) (hy : RdB w B ys) :
    (callFunc 81 #[.slice A xs.length c, .slice B ys.length d]).run Try.prog w = .ok (.value (.int .i64 (cmpB xs ys))) w := by
  rw [run_callFunc_extern Try.func81 (by kernel_rfl) rfl (by kernel_rfl) (e := Extern.BytealgCompare.compare) (by kernel_rfl)]
  have e : ∀ u v : Value, Extern.BytealgCompare.compare #[u, v] = (do pure (goInt (Extern.BytealgCompare.cmp (← Extern.Bytes.bytesOf u) (← Extern.Bytes.bytesOf v)))) := fun _ _ => rfl
  rw [e]
  simp only [Sem.run_bind, run_bytesOf hx, run_bytesOf hy, Result.andThen_ok, cmp_list, cmpL_eq]
  simp [goInt]

/-- A call that the model carries out itself. -/
theorem wl_ext {P : Program} {N : Nat} {ops : Array Oper} {Q : Exit → Act → World → Prop} {rest : List Oper} {L : FL} {w w' : World} {d : Nat} {f : FuncId} {xs : List Operand} {ats : Array TypeId} {ty : TypeId} {pos : String} {aft : Array Edge} {vs : List Value} {v : Value}
    (hr : (callFunc f vs.toArray).run P w = .ok (.value v) w') (hx : Looks L xs vs) (hd : Nat.blt d N = true) (h : WL P N ops Q rest ((d, v) :: L) w') :
    WL P N ops Q (⟨some d, .call { callee := .value (.func f), args := xs.toArray, argTypes := ats }, ty, pos, aft, none⟩ :: rest) L w := by
  refine wl_val (w' := w') (fun ρ o hρ ho _ => ?_) hd h
  have hf : ρ (.func f) = .func (.func f) #[] #[] := hρ _ _ rfl
  have hm := Looks.map hρ hx
  unfold execOp
  simp only [ho, resolve, Deferred.ofValue, hf, Sem.run_bind, Sem.run_pure, Result.andThen_ok, invoke]
  have : (#[] ++ Array.map ρ xs.toArray ++ #[]) = vs.toArray := by simp [hm]
  rw [this]
  exact hr
theorem bytesCompare_any {A B : Option Addr} {n m c d : Nat} {xs ys : List UInt8} {w : World} (hx : RdB w A xs) (hy : RdB w B ys) (hn : xs.length = n) (hm : ys.length = m) :
    CallsV Try.prog 77 #[.slice A n c, .slice B m d] w fun v w' => v = .int .i64 (cmpB xs ys) ∧ w = w' := by
  subst hn hm
  refine calls_in (N := _) Try.func77 rfl Try.ntmps77 rfl ?_; show WC _ _ _ _ _ _
  refine wc_sr ?_; refine wl_as rfl rfl ?_; refine wl_ns ?_; refine wc_sr ?_; refine wl_mv rfl rfl ?_; refine wl_mv rfl rfl ?_
  refine wl_ext (compare_run hx hy) ⟨rfl, rfl, trivial⟩ rfl ?_
  refine wl_as rfl rfl ?_; refine wl_ns ?_; refine wc_ret ?_
  exact we_ret1 rfl rfl ⟨_, rfl, rfl, rfl⟩
theorem cmp_any {A B : Option Addr} {n m c d : Nat} {xs ys : List UInt8} {w : World} (hx : RdB w A xs) (hy : RdB w B ys) (hn : xs.length = n) (hm : ys.length = m) :
    CallsV Try.prog 69 #[.slice A n c, .slice B m d] w fun v w' => v = .int .i64 (cmpB xs ys) ∧ w = w' := by
  refine calls_in (N := _) Try.func69 rfl Try.ntmps69 rfl ?_; show WC _ _ _ _ _ _
  refine wc_sr ?_; refine wl_as rfl rfl ?_; refine wl_ns ?_; refine wc_sr ?_; refine wl_mv rfl rfl ?_; refine wl_mv rfl rfl ?_
  refine wl_call ok_bytes_Compare (bytesCompare_any hx hy hn hm) ⟨rfl, rfl, trivial⟩ rfl ?_
  rintro _ _ ⟨rfl, rfl⟩
  refine wl_as rfl rfl ?_; refine wl_ns ?_; refine wc_ret ?_
  exact we_ret1 rfl rfl ⟨_, rfl, rfl, rfl⟩

theorem refCmp_any {A B : Option Addr} {n m c d : Nat} {xs ys : List UInt8} {w : World} (hx : RdB w A xs) (hy : RdB w B ys) (hn : xs.length = n) (hm : ys.length = m) (hlx : xs.length ≤ maxLen) (hly : ys.length ≤ maxLen) :
    CallsV Try.prog 42 #[.slice A n c, .slice B m d] w fun v w' => v = .int .i64 (cmpB xs ys) ∧ Below w.heap.size w w' := by
  subst hn hm
  simp only [maxLen] at hlx hly
  refine calls_in (N := _) Try.func42 rfl Try.ntmps42 rfl ?_; show WC _ _ _ _ _ _
  refine wc_sr ?_; refine wl_as rfl rfl ?_; refine wl_ns ?_; refine wc_seq ?_; refine wc_sr ?_; refine wl_as rfl rfl ?_; refine wl_ns ?_; refine wc_block ?_
  refine wc_loop (fun L wr m => ∃ k : Nat, L = [(0, .slice A xs.length c), (1, .slice B ys.length d), (5, .int .i64 (k : Int))] ∧ k ≤ xs.length ∧ k ≤ ys.length ∧ cmpB xs ys = cmpB (xs.drop k) (ys.drop k) ∧ Below w.heap.size w wr ∧ m = xs.length - k)
    [(0, .slice A xs.length c), (1, .slice B ys.length d), (5, .int .i64 (0 : Nat))] xs.length ⟨0, rfl, by omega, by omega, rfl, Below.refl _ _, rfl⟩ ⟨rfl, rfl, rfl, trivial⟩ ?_
  rintro _ wr m ⟨k, rfl, hk, hk2, heq, hb, rfl⟩
  have r1 := RdB.below hx hb
  have r2 := RdB.below hy hb
  refine wc_seq ?_; refine wc_sr ?_; refine wl_mv rfl rfl ?_; refine wl_mv rfl rfl ?_; apply wl_val; apply opv_len; exact rfl; exact tyB.sl; exact rfl; refine wl_bin rfl rfl bin_lss rfl ?_; refine wl_mv rfl rfl ?_
  refine wl_cutV 5 15 (.bool (decide (((k : Int) < (xs.length : Int)) ∧ ((k : Int) < (ys.length : Int))))) ?c6 ?_; (case c6 => (dsimp only [List.take]; by_cases hc0 : ((k : Int) < (xs.length : Int)); (focus (apply wl_take; exact rfl; exact rfl; exact rfl; refine bT ?_; (with_reducible assumption); refine wl_mv rfl rfl ?_; apply wl_take; exact rfl; exact rfl; exact rfl; refine bT ?_; (with_reducible assumption); refine wl_mv rfl rfl ?_; apply wl_take; exact rfl; exact rfl; exact rfl; refine bT ?_; (with_reducible assumption); apply wl_val; apply opv_len; exact rfl; exact tyB.sl; exact rfl; apply wl_take; exact rfl; exact rfl; exact rfl; refine bT ?_; (with_reducible assumption); refine wl_bin rfl rfl bin_lss rfl ?_; apply wl_val; apply opv_pickT; exact rfl; refine bT ?_; (with_reducible assumption); exact rfl; exact rfl; refine wl_nil ?_; refine we_cut _ ⟨rfl, rfl⟩ ⟨congrArg (fun b => some (Value.bool b)) ?e6_0, ?s6_0⟩; (case e6_0 => ((simp [hc0]; done))); (case s6_0 => (refine And.intro rfl ?_; refine And.intro rfl ?_; refine And.intro rfl ?_; refine And.intro rfl ?_; refine And.intro rfl ?_; refine And.intro rfl ?_; refine And.intro rfl ?_; refine And.intro rfl ?_; exact True.intro)))); (focus (apply wl_skip; exact rfl; exact rfl; exact rfl; refine bFn ?_; (with_reducible assumption); exact rfl; apply wl_skip; exact rfl; exact rfl; exact rfl; refine bFn ?_; (with_reducible assumption); exact rfl; apply wl_skip; exact rfl; exact rfl; exact rfl; refine bFn ?_; (with_reducible assumption); exact rfl; apply wl_skip; exact rfl; exact rfl; exact rfl; refine bFn ?_; (with_reducible assumption); exact rfl; apply wl_val; apply opv_pickF; exact rfl; refine bF ?_; (with_reducible assumption); exact rfl; exact rfl; refine wl_nil ?_; refine we_cut _ ⟨rfl, rfl⟩ ⟨congrArg (fun b => some (Value.bool b)) ?e6_1, ?s6_1⟩; (case e6_1 => ((simp [hc0]; done))); (case s6_1 => (refine And.intro rfl ?_; refine And.intro rfl ?_; refine And.intro rfl ?_; refine And.intro rfl ?_; refine And.intro rfl ?_; refine And.intro rfl ?_; refine And.intro rfl ?_; refine And.intro rfl ?_; exact True.intro)))))); dsimp only [List.drop]
  refine wl_ns ?_
  refine wc_cond rfl (fun h1 => ?_) (fun h1 => ?_)
  · obtain ⟨x, hxk⟩ : ∃ x, xs[k]? = some x := ⟨_, List.getElem?_eq_getElem (by omega)⟩
    obtain ⟨y, hyk⟩ : ∃ y, ys[k]? = some y := ⟨_, List.getElem?_eq_getElem (by omega)⟩
    rw [drop_get hxk, drop_get hyk] at heq
    refine wc_skip ?_; refine we_seq ?_; refine wc_seq ?_; refine wc_block ?_; refine wc_seq ?_; refine wc_seq ?_
    refine wc_drawB mixed (by kernel_rfl) ?_
    apply wq_val; intro _ hw_; apply opv_move; exact rfl; exact rfl; apply wq_val; intro _ hw_; apply opv_move; exact rfl; exact rfl; apply wq_byK (T := tyB) (hr := r1) (hb := hxk); exact rfl; exact rfl; exact rfl; exact rfl; exact rfl; intro _; apply wq_val; intro _ hw_; apply opv_move; exact rfl; exact rfl; apply wq_val; intro _ hw_; apply opv_move; exact rfl; exact rfl; apply wq_byK (T := tyB) (hr := r2) (hb := hyk); exact rfl; exact rfl; exact rfl; exact rfl; exact rfl; intro _; apply wq_val; intro _ hw_; apply opv_bin; exact rfl; exact rfl; exact bin_lss; exact rfl; refine wq_nil fun w1 hw1 => ?_
    replace hb := hb.trans (hw1.mono hb.size)
    replace r1 := RdB.below r1 hw1
    replace r2 := RdB.below r2 hw1
    clear hw1
    refine we_seq ?_
    refine wc_cond rfl (fun h2 => ?_) (fun h2 => ?_)
    · refine wc_sr ?_; refine wl_as rfl rfl ?_; refine wl_ns ?_; refine wc_ret ?_; refine we_seq_ret ?_; refine we_block_ret ?_; refine we_seq_ret ?_; refine we_loop_ret ?_; refine we_block_ret ?_; refine we_seq_ret ?_
      exact we_ret1 rfl rfl ⟨_, rfl, by rw [heq, cmp_lt (UInt8.lt_iff_toNat_lt.2 (by omega))], hb⟩
    · refine wc_skip ?_; refine we_seq ?_; refine wc_seq ?_
      refine wc_drawB mixed (by kernel_rfl) ?_
      apply wq_val; intro _ hw_; apply opv_move; exact rfl; exact rfl; apply wq_val; intro _ hw_; apply opv_move; exact rfl; exact rfl; apply wq_byK (T := tyB) (hr := r1) (hb := hxk); exact rfl; exact rfl; exact rfl; exact rfl; exact rfl; intro _; apply wq_val; intro _ hw_; apply opv_move; exact rfl; exact rfl; apply wq_val; intro _ hw_; apply opv_move; exact rfl; exact rfl; apply wq_byK (T := tyB) (hr := r2) (hb := hyk); exact rfl; exact rfl; exact rfl; exact rfl; exact rfl; intro _; apply wq_val; intro _ hw_; apply opv_bin; exact rfl; exact rfl; exact bin_gtr; exact rfl; refine wq_nil fun w1 hw1 => ?_
      replace hb := hb.trans (hw1.mono hb.size)
      clear hw1
      refine we_seq ?_
      refine wc_cond rfl (fun h3 => ?_) (fun h3 => ?_)
      · refine wc_sr ?_; refine wl_as rfl rfl ?_; refine wl_ns ?_; refine wc_ret ?_; refine we_block_ret ?_; refine we_seq_ret ?_; refine we_loop_ret ?_; refine we_block_ret ?_; refine we_seq_ret ?_
        exact we_ret1 rfl rfl ⟨_, rfl, by rw [heq, cmp_gt (UInt8.lt_iff_toNat_lt.2 (by omega))], hb⟩
      · obtain rfl : x = y := UInt8.toNat_inj.1 (by omega)
        refine wc_skip ?_; refine we_block_norm ?_; refine we_seq ?_; refine wc_region ?_; refine wl_mv rfl rfl ?_; apply wl_val; apply opv_bin; exact rfl; exact rfl; exact bin_add64 (by omega); exact rfl; refine wl_as rfl rfl ?_; refine wl_nil ?_
        refine we_loop [(0, .slice A xs.length c), (1, .slice B ys.length d), (5, .int .i64 ((k + 1 : Nat) : Int))] (xs.length - (k + 1)) ⟨k + 1, rfl, by omega, by omega, by rw [heq, cmp_same], hb, rfl⟩ (by omega) ⟨rfl, rfl, by simp [lookT], trivial⟩
  · refine wc_exit ?_; refine we_seq_exit ?_; refine we_loop_exit ?_; refine we_block_exit ?_; refine we_seq ?_; refine wc_seq ?_; refine wc_sr ?_; refine wl_mv rfl rfl ?_; apply wl_val; apply opv_len; exact rfl; exact tyB.sl; exact rfl; refine wl_mv rfl rfl ?_; apply wl_val; apply opv_len; exact rfl; exact tyB.sl; exact rfl; refine wl_bin rfl rfl bin_lss rfl ?_; refine wl_ns ?_
    refine wc_cond rfl (fun h2 => ?_) (fun h2 => ?_)
    · refine wc_sr ?_; refine wl_as rfl rfl ?_; refine wl_ns ?_; refine wc_ret ?_; refine we_seq_ret ?_
      exact we_ret1 rfl rfl ⟨_, rfl, by rw [heq, cmp_short (List.drop_of_length_le (by omega)) (by simp; omega)], hb⟩
    · refine wc_skip ?_; refine we_seq ?_; refine wc_seq ?_; refine wc_sr ?_; refine wl_mv rfl rfl ?_; apply wl_val; apply opv_len; exact rfl; exact tyB.sl; exact rfl; refine wl_mv rfl rfl ?_; apply wl_val; apply opv_len; exact rfl; exact tyB.sl; exact rfl; refine wl_bin rfl rfl bin_gtr rfl ?_; refine wl_ns ?_
      refine wc_cond rfl (fun h3 => ?_) (fun h3 => ?_)
      · refine wc_sr ?_; refine wl_as rfl rfl ?_; refine wl_ns ?_; refine wc_ret ?_; refine we_seq_ret ?_
        exact we_ret1 rfl rfl ⟨_, rfl, by rw [heq, cmp_long (by simp; omega) (List.drop_of_length_le (by omega))], hb⟩
      · refine wc_skip ?_; refine we_seq ?_; refine wc_sr ?_; refine wl_as rfl rfl ?_; refine wl_ns ?_; refine wc_ret ?_
        exact we_ret1 rfl rfl ⟨_, rfl, by rw [heq, List.drop_of_length_le (show xs.length ≤ k by omega), List.drop_of_length_le (show ys.length ≤ k by omega)]; rfl, hb⟩
end Go.Proofs.Ytmdbjeabifkimaa


/-
  Walks over the smallest functions of layer 1: Copy, Equal, Cmp of the references, PutU of both.
-/
namespace Go.Proofs.Ytmdbjeabifkimaa
open Go.RowKit

theorem copy_any {A : Option Addr} {n c : Nat} {xs : List UInt8} {w : World} (hr : RdB w A xs) (hn : xs.length = n) (hl : xs.length ≤ 140737488355328) : CallsV Try.prog 25 #[.slice A n c] w (RetB w xs) := by
  subst hn
  refine calls_in (N := _) Try.func25 rfl Try.ntmps25 rfl ?_; show WC _ _ _ _ _ _
  refine wc_sr ?_; refine wl_as rfl rfl ?_; refine wl_ns ?_; refine wc_sr ?_
  refine wl_bs (vs := []) tyB trivial rfl (by decide) rfl fun A1 w1 ho hb _ => ?_
  refine wl_mv rfl rfl ?_
  refine wl_app tyB rfl ho rfl (RdB.below hr hb) (bvs_one _) (by omega) (by simp only [maxLen]; omega) hb.size rfl fun A' c' w' ho' hg _ => ?_
  refine wl_as rfl rfl ?_; refine wl_ns ?_; refine wc_ret ?_
  refine we_ret1 rfl rfl ⟨_, rfl, A', c', by simp, ?_, ?_⟩
  · have := ho'; simp only [Nat.zero_add, List.nil_append] at this; exact this
  · exact hg.below hb ho (Nat.le_refl _) hb.size

theorem equal_any {A B : Option Addr} {n m c d : Nat} {xs ys : List UInt8} {w : World} (hx : RdB w A xs) (hy : RdB w B ys) (hn : xs.length = n) (hm : ys.length = m) (hlx : xs.length ≤ maxLen) :
    CallsV Try.prog 30 #[.slice A n c, .slice B m d] w fun v w' => v = .bool (decide (xs = ys)) ∧ Below w.heap.size w w' := by
  subst hn hm
  simp only [maxLen] at hlx
  refine calls_in (N := _) Try.func30 rfl Try.ntmps30 rfl ?_; show WC _ _ _ _ _ _
  refine wc_sr ?_; refine wl_as rfl rfl ?_; refine wl_ns ?_; refine wc_seq ?_; refine wc_sr ?_; refine wl_mv rfl rfl ?_; apply wl_val; apply opv_len; exact rfl; exact tyB.sl; exact rfl; refine wl_mv rfl rfl ?_; apply wl_val; apply opv_len; exact rfl; exact tyB.sl; exact rfl; refine wl_bin rfl rfl bin_neq rfl ?_; refine wl_ns ?_
  refine wc_cond rfl (fun h => ?_) (fun h => ?_)
  · refine wc_sr ?_; refine wl_as rfl rfl ?_; refine wl_ns ?_; refine wc_ret ?_; refine we_seq_ret ?_
    refine we_ret1 rfl rfl ⟨_, rfl, ?_, Below.refl _ _⟩
    have hne : ¬ xs = ys := fun e => h (by rw [e])
    simp [hne]
  · have hlen : xs.length = ys.length := by omega
    refine wc_skip ?_; refine we_seq ?_; refine wc_seq ?_; refine wc_sr ?_; refine wl_as rfl rfl ?_; refine wl_ns ?_; refine wc_block ?_
    refine wc_loop (fun L wr m => ∃ k : Nat, L = [(0, .slice A xs.length c), (1, .slice B ys.length d), (5, .int .i64 k)] ∧ k ≤ xs.length ∧ xs.take k = ys.take k ∧ Below w.heap.size w wr ∧ m = xs.length - k)
      [(0, .slice A xs.length c), (1, .slice B ys.length d), (5, .int .i64 (0 : Nat))] xs.length ⟨0, rfl, by omega, rfl, Below.refl _ _, rfl⟩ ⟨rfl, rfl, rfl, trivial⟩ ?_
    rintro _ wr m ⟨k, rfl, hk, heq, hbel, rfl⟩
    have hrx := RdB.below hx hbel
    have hry := RdB.below hy hbel
    refine wc_seq ?_; refine wc_sr ?_; refine wl_mv rfl rfl ?_; refine wl_mv rfl rfl ?_; apply wl_val; apply opv_len; exact rfl; exact tyB.sl; exact rfl; refine wl_bin rfl rfl bin_lss rfl ?_; refine wl_ns ?_
    refine wc_cond rfl (fun h1 => ?_) (fun h1 => ?_)
    · refine wc_skip ?_; refine we_seq ?_; refine wc_seq ?_; refine wc_block ?_; refine wc_seq ?_
      refine wc_drawB mixed (by kernel_rfl) ?_
      apply wq_val; intro _ hw_; apply opv_move; exact rfl; exact rfl; apply wq_val; intro _ hw_; apply opv_move; exact rfl; exact rfl
      refine wq_by tyB rfl rfl hrx rfl (by omega) rfl rfl fun p1 x hxk => ?_
      apply wq_val; intro _ hw_; apply opv_move; exact rfl; exact rfl; apply wq_val; intro _ hw_; apply opv_move; exact rfl; exact rfl
      refine wq_by tyB rfl rfl hry rfl (by omega) rfl rfl fun p2 y hyk => ?_
      apply wq_val; intro _ hw_; apply opv_bin; exact rfl; exact rfl; exact bin_neq; exact rfl; refine wq_nil fun w1 hw1 => ?_
      have hb1 := hbel.trans (hw1.mono hbel.size)
      refine we_seq ?_
      refine wc_cond rfl (fun h2 => ?_) (fun h2 => ?_)
      · refine wc_sr ?_; refine wl_as rfl rfl ?_; refine wl_ns ?_; refine wc_ret ?_; refine we_block_ret ?_; refine we_seq_ret ?_; refine we_loop_ret ?_; refine we_block_ret ?_; refine we_seq_ret ?_
        refine we_ret1 rfl rfl ⟨_, rfl, ?_, hb1⟩
        have hne : ¬ xs = ys := fun e => by subst e; rw [hxk] at hyk; cases hyk; exact h2 rfl
        simp [hne]
      · refine wc_skip ?_; refine we_block_norm ?_; refine we_seq ?_; refine wc_region ?_; refine wl_mv rfl rfl ?_; apply wl_val; apply opv_bin; exact rfl; exact rfl; exact bin_add64 (by omega); exact rfl; refine wl_as rfl rfl ?_; refine wl_nil ?_
        refine we_loop [(0, .slice A xs.length c), (1, .slice B ys.length d), (5, .int .i64 (k + 1 : Nat))] (xs.length - (k + 1)) ⟨k + 1, rfl, by omega, ?_, hb1, rfl⟩ (by omega) ⟨rfl, rfl, by simp [lookT], trivial⟩
        have : x = y := UInt8.toNat_inj.1 (by omega)
        rw [take_get hxk, take_get hyk, heq, this]
    · refine wc_exit ?_; refine we_seq_exit ?_; refine we_loop_exit ?_; refine we_block_exit ?_; refine we_seq ?_; refine wc_sr ?_; refine wl_as rfl rfl ?_; refine wl_ns ?_; refine wc_ret ?_
      refine we_ret1 rfl rfl ⟨_, rfl, ?_, hbel⟩
      have hkl : k = xs.length := by omega
      rw [hkl, List.take_length, hlen, List.take_length] at heq
      simp [heq]
theorem equal_yes {A B : Option Addr} {n m c d : Nat} {xs ys : List UInt8} {w : World} (he : xs = ys) (hx : RdB w A xs) (hy : RdB w B ys) (hn : xs.length = n) (hm : ys.length = m) (hlx : xs.length ≤ maxLen) :
    CallsV Try.prog 30 #[.slice A n c, .slice B m d] w fun v w' => v = .bool true ∧ Below w.heap.size w w' :=
  (equal_any hx hy hn hm hlx).mono fun v w' ⟨h, hb⟩ => ⟨by rw [h]; simp [he], hb⟩
end Go.Proofs.Ytmdbjeabifkimaa


/-
  Plain functions on lists of bytes, for layer 1 (codec): bytes with an end are read back; numbers of eight bytes; frames; what stands next. Nothing here names the program or the model.
-/
namespace Go.Proofs.Ytmdbjeabifkimaa

/-- The bytes at the head of a list: acc is what has been read, n how many bytes that took; bytes, count, error. -/
def gotAux : List UInt8 → Nat → List UInt8 → List UInt8 × Nat × Nat
  | _, _, [] => ([], 0, 5)
  | _, _, [_] => ([], 0, 5)
  | acc, n, x :: y :: r =>
    if x = 0 then (if y = 1 then (acc, n + 2, 0) else if y = 255 then gotAux (acc ++ [0]) (n + 2) r else ([], 0, 3))
    else gotAux (acc ++ [x]) (n + 1) (y :: r)
def getOrd (b : List UInt8) (p : Int) : List UInt8 × Int × Nat :=
  if p < 0 ∨ (b.length : Int) < p then ([], 0, 1) else
  match gotAux [] 0 (b.drop p.toNat) with
  | (xs, k, 0) => (xs, p + k, 0)
  | (_, _, e) => ([], 0, e)

theorem got_nil {acc : List UInt8} {n : Nat} : gotAux acc n [] = ([], 0, 5) := by simp [gotAux]
theorem got_plain {acc : List UInt8} {n : Nat} {x : UInt8} {r : List UInt8} (h : ¬ x = 0) : gotAux acc n (x :: r) = gotAux (acc ++ [x]) (n + 1) r := by
  cases r with
  | nil => simp [gotAux]
  | cons y r => rw [gotAux, if_neg h]
theorem got_end {acc : List UInt8} {n : Nat} {x : UInt8} : gotAux acc n [x] = ([], 0, 5) := by simp [gotAux]
theorem got_fin {acc : List UInt8} {n : Nat} {r : List UInt8} : gotAux acc n (0 :: 1 :: r) = (acc, n + 2, 0) := by simp [gotAux]
theorem got_esc {acc : List UInt8} {n : Nat} {r : List UInt8} : gotAux acc n (0 :: 255 :: r) = gotAux (acc ++ [0]) (n + 2) r := by simp [gotAux]
theorem got_bad {acc : List UInt8} {n : Nat} {y : UInt8} {r : List UInt8} (h1 : ¬ y = 1) (h2 : ¬ y = 255) : gotAux acc n (0 :: y :: r) = ([], 0, 3) := by simp [gotAux, h1, h2]
theorem getOrd_arg {b : List UInt8} {p : Int} (h : ¬ (0 ≤ p ∧ p ≤ b.length)) : getOrd b p = ([], 0, 1) := by
  rw [getOrd, if_pos (by omega)]
theorem getOrd_ok {b xs : List UInt8} {q k : Nat} (hq : q ≤ b.length) (h : gotAux [] 0 (b.drop q) = (xs, k, 0)) : getOrd b q = (xs, (q : Int) + k, 0) := by
  rw [getOrd, if_neg (by omega)]
  simp [h]
theorem getOrd_bad {b : List UInt8} {q e : Nat} (hq : q ≤ b.length) (h : gotAux [] 0 (b.drop q) = ([], 0, e + 1)) : getOrd b q = ([], 0, e + 1) := by
  rw [getOrd, if_neg (by omega)]
  simp [h]
theorem esc_cons (x : UInt8) (r : List UInt8) : esc (x :: r) = (if x = 0 then [0, 255] else [x]) ++ esc r := by simp [esc]
theorem got_ord (t : List UInt8) : ∀ (xs acc : List UInt8) (n : Nat), gotAux acc n (esc xs ++ (0 :: 1 :: t)) = (acc ++ xs, n + (esc xs).length + 2, 0)
  | [], acc, n => by simp [esc, gotAux]
  | x :: xs, acc, n => by
    rw [esc_cons]
    by_cases h : x = 0
    · subst h
      simp only [if_true, List.cons_append, List.nil_append]
      rw [got_esc, got_ord t xs]
      simp; omega
    · simp only [if_neg h, List.cons_append, List.nil_append]
      rw [got_plain h, got_ord t xs]
      simp; omega
theorem getOrd_ordText (xs : List UInt8) : getOrd (ordText xs) 0 = (xs, ((ordText xs).length : Int), 0) := by
  have h := got_ord [] xs [] 0
  have e : gotAux [] 0 ((ordText xs).drop 0) = (xs, (ordText xs).length, 0) := by
    rw [List.drop_zero]; unfold ordText; rw [h]; simp
  have := getOrd_ok (b := ordText xs) (q := 0) (by omega) e
  simpa using this
theorem got_length : ∀ (f : Nat) (l acc : List UInt8) (n : Nat) (xs : List UInt8) (k e : Nat), l.length ≤ f → gotAux acc n l = (xs, k, e) → xs.length ≤ acc.length + l.length
  | f, [], acc, n, xs, k, e, _, h => by rw [got_nil] at h; injection h with h _; subst h; simp
  | 0, _ :: _, _, _, _, _, _, hf, _ => by simp at hf
  | f + 1, [x], acc, n, xs, k, e, _, h => by rw [got_end] at h; injection h with h _; subst h; simp
  | f + 1, x :: y :: r, acc, n, xs, k, e, hf, h => by
    simp only [List.length_cons] at hf
    by_cases h0 : x = 0
    · subst h0
      by_cases h1 : y = 1
      · subst h1; rw [got_fin] at h; injection h with h _; subst h; simp
      · by_cases h2 : y = 255
        · subst h2; rw [got_esc] at h
          have := got_length f r _ _ _ _ _ (by omega) h
          simp at this ⊢; omega
        · rw [got_bad h1 h2] at h; injection h with h _; subst h; simp
    · rw [got_plain h0] at h
      have := got_length f (y :: r) _ _ _ _ _ (by simp; omega) h
      simp at this ⊢; omega
theorem getOrd_length {b xs : List UInt8} {p x : Int} {e : Nat} (h : getOrd b p = (xs, x, e)) : xs.length ≤ b.length := by
  rw [getOrd] at h
  split at h
  · injection h with h _; subst h; simp
  · cases hg : gotAux [] 0 (b.drop p.toNat) with
    | mk ys ke =>
      obtain ⟨k, e'⟩ := ke
      rw [hg] at h
      have := got_length _ _ _ _ _ _ _ (Nat.le_refl _) hg
      rw [List.length_drop] at this
      cases e' with
      | zero => simp only [Prod.mk.injEq] at h; obtain ⟨rfl, _⟩ := h; simp at this; omega
      | succ _ => simp only [Prod.mk.injEq] at h; obtain ⟨rfl, _⟩ := h; simp

/-! ### What stands next -/
def nextB (p : List UInt8) : List UInt8 :=
  match p.reverse.dropWhile (· == 255) with
  | [] => []
  | x :: r => r.reverse ++ [x + 1]
theorem dropWhile_all : ∀ (l r : List UInt8), (∀ y ∈ l, y = 255) → (l ++ r).dropWhile (· == 255) = r.dropWhile (· == 255)
  | [], r, _ => rfl
  | x :: l, r, h => by
    have hx := h x (List.mem_cons_self ..)
    subst hx
    rw [List.cons_append, List.dropWhile_cons_of_pos (by rfl)]
    exact dropWhile_all l r fun y hy => h y (List.mem_cons_of_mem _ hy)
theorem next_none {p : List UInt8} (h : ∀ y ∈ p, y = 255) : nextB p = [] := by
  have := dropWhile_all p.reverse [] (fun y hy => h y (List.mem_reverse.1 hy))
  rw [List.append_nil] at this
  unfold nextB; rw [this]; rfl
theorem next_some {p : List UInt8} {k : Nat} {x : UInt8} (hx : p[k]? = some x) (hne : ¬ x = 255) (h : ∀ y ∈ p.drop (k + 1), y = 255) : nextB p = p.take k ++ [x + 1] := by
  have e : p = p.take k ++ x :: p.drop (k + 1) := by rw [← drop_get hx, List.take_append_drop]
  have e2 : p.reverse = (p.drop (k + 1)).reverse ++ (x :: (p.take k).reverse) := by
    rw [show p.reverse = (p.take k ++ x :: p.drop (k + 1)).reverse by rw [← e]]; simp
  have e3 := dropWhile_all (p.drop (k + 1)).reverse (x :: (p.take k).reverse) (fun y hy => h y (List.mem_reverse.1 hy))
  rw [List.dropWhile_cons_of_neg (by simpa using hne)] at e3
  unfold nextB; rw [e2, e3]; simp
/-- Its form: what stands ahead of the last byte that isn't 255, and that byte raised. -/
theorem next_form (p : List UInt8) : (∀ y ∈ p, y = 255) ∧ nextB p = [] ∨ ∃ t x r, p = t ++ x :: r ∧ ¬ x = 255 ∧ (∀ y ∈ r, y = 255) ∧ nextB p = t ++ [x + 1] := by
  induction p with
  | nil => exact .inl ⟨by simp, rfl⟩
  | cons a p ih =>
    rcases ih with ⟨h, _⟩ | ⟨t, x, r, rfl, hx, hr, _⟩
    · by_cases ha : a = 255
      · have hall : ∀ y ∈ a :: p, y = 255 := by
          intro y hy
          rcases List.mem_cons.1 hy with rfl | hy
          · exact ha
          · exact h y hy
        exact .inl ⟨hall, next_none hall⟩
      · exact .inr ⟨[], a, p, rfl, ha, h, next_some (k := 0) rfl ha (by simpa using h)⟩
    · refine .inr ⟨a :: t, x, r, rfl, hx, hr, ?_⟩
      have := next_some (p := a :: (t ++ x :: r)) (k := t.length + 1) (x := x) (by simp) hx (by simpa using hr)
      rw [this]; simp
theorem lt_succ {x : UInt8} (h : ¬ x = 255) : x < x + 1 := by
  have h1 : x.toNat ≠ 255 := fun e => h (UInt8.toNat_inj.1 e)
  have h2 := x.toNat_lt
  rw [UInt8.lt_iff_toNat_lt, UInt8.toNat_add]
  simp; omega
theorem cmp_pre : ∀ (t a b : List UInt8), cmpB (t ++ a) (t ++ b) = cmpB a b
  | [], _, _ => rfl
  | x :: t, a, b => by rw [List.cons_append, List.cons_append, cmp_same, cmp_pre t]
theorem cmp_next {p tail : List UInt8} (h : nextB p ≠ []) : cmpB (p ++ tail) (nextB p) = -1 := by
  rcases next_form p with ⟨_, h'⟩ | ⟨t, x, r, rfl, hx, hr, hn⟩
  · exact absurd h' h
  · rw [hn, List.append_assoc, cmp_pre, List.cons_append, cmp_lt (lt_succ hx)]
theorem begins_of : ∀ (r o : List UInt8), (∀ y ∈ r, y = 255) → 0 ≤ cmpB o r → o.take r.length = r ∧ r.length ≤ o.length
  | [], o, _, _ => by simp
  | x :: r, [], _, h => by simp [cmpB] at h
  | x :: r, z :: o, hr, h => by
    have hx := hr x (List.mem_cons_self ..)
    subst hx
    by_cases hz : z = 255
    · subst hz
      rw [cmp_same] at h
      have := begins_of r o (fun y hy => hr y (List.mem_cons_of_mem _ hy)) h
      simp [this.1, this.2]
    · have : z < 255 := by
        have h1 : z.toNat ≠ 255 := fun e => hz (UInt8.toNat_inj.1 e)
        have h2 := z.toNat_lt
        rw [UInt8.lt_iff_toNat_lt]; simp; omega
      rw [cmp_lt this] at h; omega
theorem cmp_between : ∀ (t o r : List UInt8) (x : UInt8), ¬ x = 255 → (∀ y ∈ r, y = 255) → 0 ≤ cmpB o (t ++ x :: r) → ¬ (o.take (t ++ x :: r).length = t ++ x :: r ∧ (t ++ x :: r).length ≤ o.length) → 0 ≤ cmpB o (t ++ [x + 1])
  | t, [], r, x, _, _, h, _ => by cases t <;> simp [cmpB] at h
  | [], z :: o, r, x, hx, hr, h, hb => by
    simp only [List.nil_append] at h hb ⊢
    by_cases h1 : z < x
    · rw [cmp_lt h1] at h; omega
    · by_cases h2 : x < z
      · by_cases h3 : x + 1 < z
        · rw [cmp_gt h3]; omega
        · have : z = x + 1 := by
            have h4 : x.toNat ≠ 255 := fun e => hx (UInt8.toNat_inj.1 e)
            have h5 := x.toNat_lt
            have e : (x + 1).toNat = x.toNat + 1 := by rw [UInt8.toNat_add]; simp; omega
            rw [UInt8.lt_iff_toNat_lt] at h2 h3
            exact UInt8.toNat_inj.1 (by omega)
          subst this
          rw [cmp_same]
          cases o <;> simp [cmpB]
      · obtain rfl : z = x := by
          rw [UInt8.lt_iff_toNat_lt] at h1 h2
          exact UInt8.toNat_inj.1 (by omega)
        rw [cmp_same] at h
        have := begins_of r o hr h
        exact absurd (by simp [this.1, this.2]) hb
  | c :: t, z :: o, r, x, hx, hr, h, hb => by
    simp only [List.cons_append] at h hb ⊢
    by_cases h1 : z < c
    · rw [cmp_lt h1] at h; omega
    · by_cases h2 : c < z
      · rw [cmp_gt h2]; omega
      · obtain rfl : z = c := by
          rw [UInt8.lt_iff_toNat_lt] at h1 h2
          exact UInt8.toNat_inj.1 (by omega)
        rw [cmp_same] at h ⊢
        exact cmp_between t o r x hx hr h (fun hh => hb (by simpa using hh))
end Go.Proofs.Ytmdbjeabifkimaa


/-
  Walks over bytes.Clone and over Next of the program and of the reference.
-/
namespace Go.Proofs.Ytmdbjeabifkimaa
open Go.RowKit

theorem rd_none {w : World} {xs : List UInt8} (h : RdB w none xs) : xs = [] := by
  cases xs with
  | nil => rfl
  | cons x r => obtain ⟨_, _, h, _⟩ := h.2 (by simp); cases h

theorem clone_any {A : Option Addr} {n c : Nat} {xs : List UInt8} {w : World} (hr : RdB w A xs) (hn : xs.length = n) (hl : xs.length ≤ 140737488355328) : CallsV Try.prog 68 #[.slice A n c] w (RetB w xs) := by
  subst hn
  refine calls_in (N := _) Try.func68 rfl Try.ntmps68 rfl ?_; show WC _ _ _ _ _ _
  refine wc_sr ?_; refine wl_as rfl rfl ?_; refine wl_ns ?_; refine wc_seq ?_; refine wc_sr ?_; refine wl_mv rfl rfl ?_
  refine wl_val (opv_bin rfl rfl (bin_eqlSliceNil Try.underlying51)) rfl ?_
  refine wl_ns ?_
  refine wc_condB rfl (fun h => ?_) (fun h => ?_)
  · obtain rfl : A = none := by cases A <;> simp at h ⊢
    obtain rfl := rd_none hr
    refine wc_sr ?_; refine wl_as rfl rfl ?_; refine wl_ns ?_; refine wc_ret ?_; refine we_seq_ret ?_
    exact we_ret1 rfl rfl ⟨_, rfl, none, 0, rfl, Ow.nil _ _ _, Below.refl _ _⟩
  · refine wc_skip ?_; refine we_seq ?_; refine wc_sr ?_
    refine wl_bs (vs := []) tyB trivial rfl (by decide) rfl fun A1 w1 ho hb _ => ?_
    refine wl_mv rfl rfl ?_
    refine wl_app tyB rfl ho rfl (RdB.below hr hb) (bvs_one _) (by omega) (by simp only [maxLen]; omega) hb.size rfl fun A' c' w' ho' hg _ => ?_
    refine wl_as rfl rfl ?_; refine wl_ns ?_; refine wc_ret ?_
    refine we_ret1 rfl rfl ⟨_, rfl, A', c', by simp, ?_, ?_⟩
    · have := ho'; simp only [Nat.zero_add, List.nil_append] at this; exact this
    · exact hg.below hb ho (Nat.le_refl _) hb.size

theorem rd_pre {w : World} {A : Option Addr} {xs : List UInt8} {c h : Nat} (hr : RdB w A xs) (hh : h ≤ xs.length) (hc : xs.length ≤ c) : RdB w (cutA A c 0) (xs.take h) := by
  have := Rd.cut (l := 0) (h := h) hr (by omega) hh hc
  rw [bvs_cut] at this
  simp only [Nat.sub_zero, List.drop_zero] at this
  have e : (xs.take h).length = h := by simp; omega
  unfold RdB; rw [e]; exact this

theorem add1_val (x : UInt8) : Value.int .u8 (((x.toNat + 1) % 2 ^ IntKind.u8.bits : Nat) : Int) = bv (x + 1) := by
  rw [bv, UInt8.toNat_add]; rfl

end Go.Proofs.Ytmdbjeabifkimaa


/-
  Lists of lists of bytes: read, or rows of the call's own that lie apart; and the rules to read one and to append one.
-/
namespace Go.Proofs.Ytmdbjeabifkimaa
open Go.RowKit

section
variable {P : Program} {N : Nat} {ops : Array Oper} {Q : Exit → Act → World → Prop} {rest : List Oper} {L : FL} {w : World} {t e : TypeId} {z : Value} {bytes : Nat}
theorem Rd.in_len {A : Option Addr} {n k : Nat} {xs : List Value} {u : Value} (hr : Rd w A n xs) (h : xs[k]? = some u) : k < n := by
  have := (List.getElem?_eq_some_iff.1 h).1; have := hr.1; omega
theorem wl_elK {d1 d2 : Nat} {x i : Operand} {ty1 ty2 : TypeId} {p1 p2 : String} {f1 f2 : Array Edge} {A : Option Addr} {n c kk : Nat} {ik : IntKind} {q : Int} {xs : List Value} {u : Value} (T : Row1 P t e z bytes)
    (hx : look L x = some (Value.slice A n c)) (hi : look L i = some (.int ik q)) (hr : Rd w A n xs) (hq : q = (kk : Int)) (hb : xs[kk]? = some u) (hd1 : Nat.blt d1 N = true) (hd2 : Nat.blt d2 N = true)
    (h : ∀ p, WL P N ops Q rest ((d2, u) :: (d1, p) :: L) w) :
    WL P N ops Q (⟨some d1, .indexAddr t x i, ty1, p1, f1, none⟩ :: ⟨some d2, .load e (.tmp d1), ty2, p2, f2, none⟩ :: rest) L w :=
  wl_el T hx hi hr hq (hr.in_len hb) hd1 hd2 fun p u' hu => by rw [hb] at hu; cases hu; exact h p
theorem wl_elTK {d1 d2 j1 g1 j2 g2 : Nat} {b1 w1 b2 w2 : Bool} {x i : Operand} {ty1 ty2 : TypeId} {p1 p2 : String} {f1 f2 : Array Edge} {A : Option Addr} {n c kk : Nat} {ik : IntKind} {q : Int} {xs : List Value} {u : Value} (T : Row1 P t e z bytes)
    (hj1 : (ops[j1]?).bind (·.dst) = some g1) (hb1 : lookT L g1 = some (.bool b1)) (hg1 : Nat.blt g1 N = true) (he1 : b1 = w1)
    (hj2 : (ops[j2]?).bind (·.dst) = some g2) (hb2 : lookT L g2 = some (.bool b2)) (hg2 : Nat.blt g2 N = true) (hne : Nat.beq d1 g2 = false) (he2 : b2 = w2)
    (hx : look L x = some (Value.slice A n c)) (hi : look L i = some (.int ik q)) (hr : Rd w A n xs) (hq : q = (kk : Int)) (hb : xs[kk]? = some u) (hd1 : Nat.blt d1 N = true) (hd2 : Nat.blt d2 N = true)
    (h : ∀ p, WL P N ops Q rest ((d2, u) :: (d1, p) :: L) w) :
    WL P N ops Q (⟨some d1, .indexAddr t x i, ty1, p1, f1, some (j1, w1)⟩ :: ⟨some d2, .load e (.tmp d1), ty2, p2, f2, some (j2, w2)⟩ :: rest) L w :=
  wl_elT T hj1 hb1 hg1 he1 hj2 hb2 hg2 hne he2 hx hi hr hq (hr.in_len hb) hd1 hd2 fun p u' hu => by rw [hb] at hu; cases hu; exact h p
theorem wq_elK {w0 : World} {Qa : Act → Prop} {d1 d2 : Nat} {x i : Operand} {ty1 ty2 : TypeId} {p1 p2 : String} {f1 f2 : Array Edge} {A : Option Addr} {n c kk : Nat} {ik : IntKind} {q : Int} {xs : List Value} {u : Value} (T : Row1 P t e z bytes)
    (hx : look L x = some (Value.slice A n c)) (hi : look L i = some (.int ik q)) (hr : Rd w0 A n xs) (hq : q = (kk : Int)) (hb : xs[kk]? = some u) (hd1 : Nat.blt d1 N = true) (hd2 : Nat.blt d2 N = true)
    (h : ∀ p, WQ P N ops (Below w0.heap.size w0) Qa rest ((d2, u) :: (d1, p) :: L)) :
    WQ P N ops (Below w0.heap.size w0) Qa (⟨some d1, .indexAddr t x i, ty1, p1, f1, none⟩ :: ⟨some d2, .load e (.tmp d1), ty2, p2, f2, none⟩ :: rest) L :=
  wq_el T hx hi hr hq (hr.in_len hb) hd1 hd2 fun p u' hu => by rw [hb] at hu; cases hu; exact h p
theorem wq_elTK {w0 : World} {Qa : Act → Prop} {d1 d2 j1 g1 j2 g2 : Nat} {b1 w1 b2 w2 : Bool} {x i : Operand} {ty1 ty2 : TypeId} {p1 p2 : String} {f1 f2 : Array Edge} {A : Option Addr} {n c kk : Nat} {ik : IntKind} {q : Int} {xs : List Value} {u : Value} (T : Row1 P t e z bytes)
    (hj1 : (ops[j1]?).bind (·.dst) = some g1) (hb1 : lookT L g1 = some (.bool b1)) (hg1 : Nat.blt g1 N = true) (he1 : b1 = w1)
    (hj2 : (ops[j2]?).bind (·.dst) = some g2) (hb2 : lookT L g2 = some (.bool b2)) (hg2 : Nat.blt g2 N = true) (hne : Nat.beq d1 g2 = false) (he2 : b2 = w2)
    (hx : look L x = some (Value.slice A n c)) (hi : look L i = some (.int ik q)) (hr : Rd w0 A n xs) (hq : q = (kk : Int)) (hb : xs[kk]? = some u) (hd1 : Nat.blt d1 N = true) (hd2 : Nat.blt d2 N = true)
    (h : ∀ p, WQ P N ops (Below w0.heap.size w0) Qa rest ((d2, u) :: (d1, p) :: L)) :
    WQ P N ops (Below w0.heap.size w0) Qa (⟨some d1, .indexAddr t x i, ty1, p1, f1, some (j1, w1)⟩ :: ⟨some d2, .load e (.tmp d1), ty2, p2, f2, some (j2, w2)⟩ :: rest) L := by
  obtain ⟨bb, o, rfl, hlt, hc⟩ := hr.2 (Nat.lt_of_le_of_lt (Nat.zero_le _) (hr.in_len hb))
  refine wq_take hj1 hb1 hg1 he1 (wq_val (fun w hw => opv_idx T hx hi hq (hr.in_len hb)) hd1 ?_)
  refine wq_take hj2 (b := b2) ?_ hg2 he2 (wq_val (v := u) (fun w hw => opv_load T (by simp [look, lookT]; rfl) ?_) hd2 (h _))
  · simpa [lookT, hne] using hb2
  · rw [hw.cell (p := ⟨bb, o + kk, none⟩) hlt]
    exact hc kk _ hb
end

/-- The slice reads as a list of lists of bytes. -/
def RdBB (w : World) (A : Option Addr) (rows : List (List UInt8)) : Prop :=
  ∃ vs : List Value, Rd w A rows.length vs ∧ ∀ (i : Nat) (r : List UInt8), rows[i]? = some r → ∃ (A' : Option Addr) (c' : Nat), vs[i]? = some (Value.slice A' r.length c') ∧ RdB w A' r ∧ r.length ≤ c'
/-- It is a row of the call's own, of rows of its own that all lie apart. -/
def OwBB (w : World) (base : Nat) (A : Option Addr) (c : Nat) (rows : List (List UInt8)) : Prop :=
  ∃ vs : List Value, Ow w base 51 A rows.length c vs ∧ (∀ (i : Nat) (r : List UInt8), rows[i]? = some r → ∃ (A' : Option Addr) (c' : Nat), vs[i]? = some (Value.slice A' r.length c') ∧ OwB w base A' c' r ∧ (∀ a a', A = some a → A' = some a' → a'.block ≠ a.block)) ∧
    vs.Pairwise fun v v' => ∀ g, v.ownBlock = some g → v'.ownBlock ≠ some g
def RetBB (w : World) (rows : List (List UInt8)) (v : Value) (w' : World) : Prop :=
  ∃ (A : Option Addr) (c : Nat), v = .slice A rows.length c ∧ OwBB w' w.heap.size A c rows ∧ Below w.heap.size w w'

section
variable {w w' : World} {A : Option Addr} {base c : Nat} {rows : List (List UInt8)}
theorem RdBB.below (h : RdBB w A rows) (hb : Below w.heap.size w w') : RdBB w' A rows := by
  obtain ⟨vs, hv, hr⟩ := h
  refine ⟨vs, hv.below hb, fun i r hi => ?_⟩
  obtain ⟨A', c', h1, h2, h3⟩ := hr i r hi
  exact ⟨A', c', h1, h2.below hb, h3⟩
theorem RdBB.at (h : RdBB w A rows) {k : Nat} {r : List UInt8} (hk : rows[k]? = some r) : ∃ (vs : List Value) (A' : Option Addr) (c' : Nat), Rd w A rows.length vs ∧ vs[k]? = some (Value.slice A' r.length c') ∧ RdB w A' r ∧ r.length ≤ c' := by
  obtain ⟨vs, hv, hr⟩ := h
  obtain ⟨A', c', h1, h2, h3⟩ := hr k r hk
  exact ⟨vs, A', c', hv, h1, h2, h3⟩
theorem OwBB.rd (h : OwBB w base A c rows) : RdBB w A rows := by
  obtain ⟨vs, ho, hr, _⟩ := h
  refine ⟨vs, ho.rd, fun i r hi => ?_⟩
  obtain ⟨A', c', h1, h2, _⟩ := hr i r hi
  exact ⟨A', c', h1, OwB.rd h2, h2.cap⟩
theorem OwBB.below (h : OwBB w base A c rows) (hb : Below w.heap.size w w') : OwBB w' base A c rows := by
  obtain ⟨vs, ho, hr, hs⟩ := h
  refine ⟨vs, Ow.below ho hb (Nat.le_refl _), fun i r hi => ?_, hs⟩
  obtain ⟨A', c', h1, h2, h3⟩ := hr i r hi
  exact ⟨A', c', h1, h2.below hb, h3⟩
theorem OwBB.nil (w : World) (base : Nat) : OwBB w base none 0 [] := ⟨[], Ow.nil _ _ _, by simp, List.Pairwise.nil⟩
theorem OwBB.empty (h : Ow w base 51 A 0 c []) : OwBB w base A c [] := ⟨[], h, by simp, List.Pairwise.nil⟩
theorem OwBB.mono {base' : Nat} (h : OwBB w base A c rows) (hb : base' ≤ base) : OwBB w base' A c rows := by
  obtain ⟨vs, ho, hr, hs⟩ := h
  refine ⟨vs, ho.mono hb, fun i r hi => ?_, hs⟩
  obtain ⟨A', c', h1, h2, h3⟩ := hr i r hi
  exact ⟨A', c', h1, Ow.mono h2 hb, h3⟩
theorem OwBB.cap (h : OwBB w base A c rows) : rows.length ≤ c := by
  obtain ⟨vs, h, _⟩ := h
  rcases h.2 with ⟨hv, hn⟩ | ⟨g, cap, cur, hv, _, _, hnc, _⟩
  · omega
  · injection hv with _ _ hc; omega
theorem OwBB.blocks {vs : List Value} (ho : Ow w base 51 A rows.length c vs) (hr : ∀ (i : Nat) (r : List UInt8), rows[i]? = some r → ∃ (A' : Option Addr) (c' : Nat), vs[i]? = some (Value.slice A' r.length c') ∧ OwB w base A' c' r ∧ (∀ a a', A = some a → A' = some a' → a'.block ≠ a.block)) :
    ∀ v ∈ vs, ∀ g, v.ownBlock = some g → g < w.heap.size := by
  intro v hv g hg
  obtain ⟨i, hi, rfl⟩ := List.getElem_of_mem hv
  have hl : i < rows.length := by have := ho.len; omega
  obtain ⟨A', c', h1, h2, _⟩ := hr i _ (List.getElem?_eq_getElem hl)
  rw [List.getElem?_eq_getElem hi] at h1
  simp only [Option.some.injEq] at h1
  rw [h1, ownBlock_slice] at hg
  cases A' with
  | none => simp at hg
  | some a' => have := (Ow.lt h2 a' rfl).2; simp at hg; omega
end

/-- append(rows, row): the row has been made behind the rows. -/
theorem wl_pushR {N : Nat} {ops : Array Oper} {Q : Exit → Act → World → Prop} {rest : List Oper} {L : FL} {w0 w wf : World} {d1 d2 : Nat} {s x : Operand} {ty1 ty2 : TypeId} {p1 p2 : String} {f1 f2 : Array Edge}
    {base n c c1 : Nat} {A A1 : Option Addr} {rows : List (List UInt8)} {r : List UInt8} (hown : OwBB w0 base A c rows) (hb : Below w0.heap.size w0 w) (hbase : base ≤ w0.heap.size) (hnew : OwB w w0.heap.size A1 c1 r) (hbel : Below base wf w)
    (hn : rows.length = n) (hbytes : (n + 1) * 24 ≤ 140737488355328) (hs : look L s = some (Value.slice A n c)) (hx : look L x = some (Value.slice A1 r.length c1))
    (hs1 : look ((d1, .slice (some ⟨w.heap.size, 0, none⟩) 1 1) :: L) s = some (Value.slice A n c)) (hd1 : Nat.blt d1 N = true) (hd2 : Nat.blt d2 N = true)
    (h : ∀ p A' c' w', OwBB w' base A' c' (rows ++ [r]) → Below base wf w' → WL Try.prog N ops Q rest ((d2, .slice A' (n + 1) c') :: (d1, p) :: L) w') :
    WL Try.prog N ops Q (⟨some d1, .buildSlice 64 1 #[(0, x)], ty1, p1, f1, none⟩ :: ⟨some d2, .call { callee := .builtin .append, args := #[s, .tmp d1], argTypes := #[64, 64] }, ty2, p2, f2, none⟩ :: rest) L w := by
  subst hn
  obtain ⟨vs, ho, hr, hsep⟩ := hown
  have hlt := OwBB.blocks ho hr
  have ho1 := Ow.below ho hb (Nat.le_refl _)
  have hsz := hb.size
  refine wl_push (vs := [.slice A1 r.length c1]) tyBB hs ho1 ⟨rfl, hx, rfl, trivial⟩ rfl (by decide) hs1 hbytes (by simp only [maxLen]; omega) (by omega) hd1 hd2 fun p A' c' w' ho' hg hat => ?_
  refine h p A' c' w' ⟨vs ++ [.slice A1 r.length c1], by rw [List.length_append]; exact ho', ?_, ?_⟩ ?_
  · intro i q hi
    have hlen := ho.len
    rw [List.getElem?_append] at hi
    by_cases hil : i < rows.length
    · rw [if_pos hil] at hi
      obtain ⟨A2, c2, h1, h2, h3⟩ := hr i q hi
      refine ⟨A2, c2, by rw [List.getElem?_append_left (by omega)]; exact h1, Ow.gr (base' := 0) (e' := 0) (Ow.below h2 hb (Nat.le_refl _)) hg (fun a b ha hb' => h3 _ _ hb' ha), ?_⟩
      rintro a a' rfl rfl
      have hl2 := (Ow.lt h2 a' rfl).2
      rcases hat with hat | hat
      · cases A with
        | none => simp at hat
        | some aa => simp only [Option.map_some, Option.some.injEq] at hat; rw [hat]; exact h3 aa a' rfl rfl
      · have := hat a rfl; omega
    · rw [if_neg hil] at hi
      have hi0 : i = rows.length := by
        have := (List.getElem?_eq_some_iff.1 hi).1
        simp at this; omega
      subst hi0
      simp at hi
      subst hi
      have hne : ∀ a b, A1 = some a → A = some b → a.block ≠ b.block := by
        rintro a b rfl rfl
        have := (Ow.lt hnew a rfl).1
        have := (Ow.lt ho b rfl).2
        omega
      refine ⟨A1, c1, by rw [← hlen]; simp, Ow.mono (Ow.gr (base' := 0) (e' := 0) hnew hg hne) hbase, ?_⟩
      rintro a a' rfl rfl
      have hl2 := (Ow.lt hnew a' rfl).2
      rcases hat with hat | hat
      · cases A with
        | none => simp at hat
        | some aa => simp only [Option.map_some, Option.some.injEq] at hat; rw [hat]; exact hne a' aa rfl rfl
      · have := hat a rfl; omega
  · rw [List.pairwise_append]
    refine ⟨hsep, List.pairwise_singleton _ _, fun v hv v' hv' g hg1 hg2 => ?_⟩
    simp only [List.mem_singleton] at hv'
    subst hv'
    have h1 := hlt v hv g hg1
    rw [ownBlock_slice] at hg2
    cases A1 with
    | none => simp at hg2
    | some a1 => have := (Ow.lt hnew a1 rfl).1; simp at hg2; omega
  · exact hg.below hbel ho1 (Nat.le_refl _) (by omega)
end Go.Proofs.Ytmdbjeabifkimaa


/-
  Plain laws of lists: tuples of written lists, frames, numbers of eight bytes. No program in sight.
-/
namespace Go.Proofs.Ytmdbjeabifkimaa

/-! ### Tuples -/
/-- Lists of lists are compared list by list, then by how many they are. -/
def cmpT : List (List UInt8) → List (List UInt8) → Int
  | [], [] => 0
  | [], _ :: _ => -1
  | _ :: _, [] => 1
  | x :: a, y :: b => if cmpB x y = 0 then cmpT a b else cmpB x y
def ords (l : List (List UInt8)) : List UInt8 := l.flatMap ordText

theorem cmp_refl : ∀ (a : List UInt8), cmpB a a = 0
  | [] => by simp [cmpB]
  | x :: r => by rw [cmp_same]; exact cmp_refl r
theorem cmp_zero : ∀ {a b : List UInt8}, cmpB a b = 0 → a = b
  | [], [], _ => rfl
  | [], _ :: _, h => by simp [cmpB] at h
  | _ :: _, [], h => by simp [cmpB] at h
  | x :: a, y :: b, h => by
    by_cases h1 : x < y
    · rw [cmp_lt h1] at h; omega
    · by_cases h2 : y < x
      · rw [cmp_gt h2] at h; omega
      · have e : x = y := UInt8.le_antisymm (UInt8.not_lt.1 h2) (UInt8.not_lt.1 h1)
        subst e
        rw [cmp_same] at h
        rw [cmp_zero h]
theorem cmp_neg : ∀ (a b : List UInt8), cmpB b a = - cmpB a b
  | [], [] => by simp [cmpB]
  | [], _ :: _ => by simp [cmpB]
  | _ :: _, [] => by simp [cmpB]
  | x :: a, y :: b => by
    by_cases h1 : x < y
    · rw [cmp_lt h1, cmp_gt h1]; rfl
    · by_cases h2 : y < x
      · rw [cmp_gt h2, cmp_lt h2]
      · have e : x = y := UInt8.le_antisymm (UInt8.not_lt.1 h2) (UInt8.not_lt.1 h1)
        subst e
        rw [cmp_same, cmp_same]; exact cmp_neg a b
theorem cmp_range (a b : List UInt8) : cmpB a b = -1 ∨ cmpB a b = 0 ∨ cmpB a b = 1 := by
  induction a generalizing b with
  | nil => cases b <;> simp [cmpB]
  | cons x a ih =>
    cases b with
    | nil => simp [cmpB]
    | cons y b =>
      by_cases h1 : x < y
      · rw [cmp_lt h1]; simp
      · by_cases h2 : y < x
        · rw [cmp_gt h2]; simp
        · have e : x = y := UInt8.le_antisymm (UInt8.not_lt.1 h2) (UInt8.not_lt.1 h1)
          subst e
          rw [cmp_same]; exact ih b
theorem ne_zero_pos {x : UInt8} (h : ¬ x = 0) : (0 : UInt8) < x := by
  rw [UInt8.lt_iff_toNat_lt]
  have : x.toNat ≠ 0 := fun e => h (UInt8.toNat_inj.1 (by simpa using e))
  simp; omega
theorem ordText_cons (x : UInt8) (r : List UInt8) : ordText (x :: r) = (if x = 0 then [0, 255] else [x]) ++ ordText r := by simp [ordText, esc_cons]
/-- Written lists, and whatever stands behind them, stand in the lists' order. -/
theorem cmp_ord (s t : List UInt8) : ∀ (a b : List UInt8), ¬ cmpB a b = 0 → cmpB (ordText a ++ s) (ordText b ++ t) = cmpB a b
  | [], [], h => absurd (by simp [cmpB]) h
  | [], y :: b, _ => by
    by_cases h : y = 0
    · subst h
      simp only [ordText_cons, if_true]
      have e : cmpB ([] : List UInt8) (0 :: b) = -1 := by simp [cmpB]
      rw [e]
      simp only [ordText, esc, List.flatMap_nil, List.nil_append, List.cons_append]
      rw [cmp_same, cmp_lt (by decide)]
    · have e : cmpB ([] : List UInt8) (y :: b) = -1 := by simp [cmpB]
      rw [e]
      simp only [ordText_cons, if_neg h]
      simp only [ordText, esc, List.flatMap_nil, List.nil_append, List.cons_append]
      rw [cmp_lt (ne_zero_pos h)]
  | x :: a, [], _ => by
    by_cases h : x = 0
    · subst h
      simp only [ordText_cons, if_true]
      have e : cmpB (0 :: a) ([] : List UInt8) = 1 := by simp [cmpB]
      rw [e]
      simp only [ordText, esc, List.flatMap_nil, List.nil_append, List.cons_append]
      rw [cmp_same, cmp_gt (by decide)]
    · have e : cmpB (x :: a) ([] : List UInt8) = 1 := by simp [cmpB]
      rw [e]
      simp only [ordText_cons, if_neg h]
      simp only [ordText, esc, List.flatMap_nil, List.nil_append, List.cons_append]
      rw [cmp_gt (ne_zero_pos h)]
  | x :: a, y :: b, h => by
    by_cases hxy : x = y
    · subst hxy
      rw [cmp_same] at h ⊢
      have ih := cmp_ord s t a b h
      by_cases h0 : x = 0
      · simp only [ordText_cons, if_pos h0, List.cons_append, List.nil_append]
        rw [cmp_same, cmp_same, ih]
      · simp only [ordText_cons, if_neg h0, List.cons_append, List.nil_append]
        rw [cmp_same, ih]
    · by_cases h1 : x < y
      · rw [cmp_lt h1]
        by_cases h0 : x = 0
        · have hy : ¬ y = 0 := fun e => hxy (by rw [h0, e])
          simp only [ordText_cons, if_pos h0, if_neg hy, List.cons_append, List.nil_append]
          rw [cmp_lt (ne_zero_pos hy)]
        · have hy : ¬ y = 0 := by
            rintro rfl
            rw [UInt8.lt_iff_toNat_lt] at h1; simp at h1
          simp only [ordText_cons, if_neg h0, if_neg hy, List.cons_append, List.nil_append]
          rw [cmp_lt h1]
      · have h2 : y < x := by
          rcases UInt8.lt_or_lt_of_ne hxy with h | h
          · exact absurd h h1
          · exact h
        rw [cmp_gt h2]
        by_cases h0 : y = 0
        · have hx : ¬ x = 0 := fun e => hxy (by rw [h0, e])
          simp only [ordText_cons, if_pos h0, if_neg hx, List.cons_append, List.nil_append]
          rw [cmp_gt (ne_zero_pos hx)]
        · have hx : ¬ x = 0 := by
            rintro rfl
            rw [UInt8.lt_iff_toNat_lt] at h2; simp at h2
          simp only [ordText_cons, if_neg h0, if_neg hx, List.cons_append, List.nil_append]
          rw [cmp_gt h2]
theorem ordText_pos (x : List UInt8) : 0 < (ordText x).length := by simp [ordText]
theorem cmp_ords : ∀ (a b : List (List UInt8)), cmpB (ords a) (ords b) = cmpT a b
  | [], [] => by simp [ords, cmpB, cmpT]
  | [], y :: b => by
    have := ordText_pos y
    simp only [cmpT]
    exact cmp_short (by simp [ords]) (by simp [ords]; omega)
  | x :: a, [] => by
    have := ordText_pos x
    simp only [cmpT]
    exact cmp_long (by simp [ords]; omega) (by simp [ords])
  | x :: a, y :: b => by
    simp only [cmpT, ords, List.flatMap_cons]
    by_cases h : cmpB x y = 0
    · rw [if_pos h, cmp_zero h, cmp_pre]; exact cmp_ords a b
    · rw [if_neg h, cmp_ord _ _ x y h]
/-- What a loop over both has found so far. -/
theorem cmpT_drop {a b : List (List UInt8)} {k : Nat} {x y : List UInt8} (hx : a[k]? = some x) (hy : b[k]? = some y) : cmpT (a.drop k) (b.drop k) = if cmpB x y = 0 then cmpT (a.drop (k + 1)) (b.drop (k + 1)) else cmpB x y := by
  obtain ⟨h1, e1⟩ := List.getElem?_eq_some_iff.1 hx
  obtain ⟨h2, e2⟩ := List.getElem?_eq_some_iff.1 hy
  rw [List.drop_eq_getElem_cons h1, List.drop_eq_getElem_cons h2, e1, e2]
  rfl
theorem cmpT_end {a b : List (List UInt8)} {k : Nat} (h : ¬ (k < a.length ∧ k < b.length)) : k ≤ a.length → k ≤ b.length → cmpT (a.drop k) (b.drop k) = if a.length < b.length then -1 else if b.length < a.length then 1 else 0 := by
  intro h1 h2
  rcases Nat.lt_trichotomy a.length b.length with hl | hl | hl
  · rw [if_pos hl]
    have : k = a.length := by omega
    subst this
    rw [List.drop_length, List.drop_eq_getElem_cons hl]; rfl
  · have : k = a.length := by omega
    subst this
    rw [List.drop_length, hl, List.drop_length]; simp [cmpT]
  · rw [if_neg (by omega), if_pos hl]
    have : k = b.length := by omega
    subst this
    rw [List.drop_length, List.drop_eq_getElem_cons hl]; rfl
theorem take_getR {α : Type} {l : List α} {k : Nat} {b : α} (h : l[k]? = some b) : l.take (k + 1) = l.take k ++ [b] := by
  rw [List.take_add_one, h]; rfl
theorem ords_take {l : List (List UInt8)} {k : Nat} {x : List UInt8} (h : l[k]? = some x) : ords (l.take (k + 1)) = ords (l.take k) ++ ordText x := by
  rw [take_getR h]; simp [ords]
theorem ords_length : ∀ (l : List (List UInt8)), (ords l).length ≤ 2 * l.flatten.length + 2 * l.length
  | [] => by simp [ords]
  | x :: l => by
    have h1 := ords_length l
    have h2 := esc_length x
    simp only [ords, List.flatMap_cons, List.length_append, List.flatten_cons, List.length_cons, ordText, List.length_nil] at h1 ⊢
    omega
theorem ords_take_le (l : List (List UInt8)) (k : Nat) : (ords (l.take k)).length ≤ (ords l).length := by
  have : ords l = ords (l.take k) ++ ords (l.drop k) := by
    rw [ords, ords, ords, ← List.flatMap_append, List.take_append_drop]
  rw [this, List.length_append]; omega
theorem flat_mem : ∀ {l : List (List UInt8)} {k : Nat} {x : List UInt8}, l[k]? = some x → x.length ≤ l.flatten.length
  | [], _, _, h => by simp at h
  | y :: l, 0, x, h => by
    simp only [List.getElem?_cons_zero, Option.some.injEq] at h
    subst h
    rw [List.flatten_cons, List.length_append]; omega
  | y :: l, k + 1, x, h => by
    simp only [List.getElem?_cons_succ] at h
    have := flat_mem h
    rw [List.flatten_cons, List.length_append]; omega
end Go.Proofs.Ytmdbjeabifkimaa


/-
  Walks over Copies and Equals of the references.
-/
namespace Go.Proofs.Ytmdbjeabifkimaa
open Go.RowKit

end Go.Proofs.Ytmdbjeabifkimaa


/-
  Entries: their struct type's facts, what the document says of lists of entries, and walks over the functions that look into one entry or two.
-/
namespace Go.Proofs.Ytmdbjeabifkimaa
open Go.RowKit

theorem e1_u64 : Cell1 Try.prog 28 := ⟨by kernel_rfl, by rw [Try.underlying28]⟩
theorem e1_u8 : Cell1 Try.prog 5 := ⟨by kernel_rfl, by rw [Try.underlying5]⟩
theorem e1_by : Cell1 Try.prog 51 := ⟨by kernel_rfl, by rw [Try.underlying51]⟩
theorem e0_u64 : (Try.prog.info? 28).map (·.zero) = some (some (.int .u64 (0 : Nat))) := by kernel_rfl
def zE : List Value := [.slice none 0 0, .int .u64 0, .int .u8 0, .slice none 0 0]
/-- An entry. -/
structure En where
  key : List UInt8
  seq : Nat
  kind : UInt8
  val : List UInt8
deriving DecidableEq
def enV (x : En) (A : Option Addr) (c : Nat) (B : Option Addr) (d : Nat) : List Value := [.slice A x.key.length c, .int .u64 (x.seq : Int), .int .u8 (x.kind.toNat : Int), .slice B x.val.length d]
def enEl (x : En) : El where
  P w S cs := ∃ (A : Option Addr) (c : Nat) (B : Option Addr) (d : Nat), cs = enV x A c B d ∧ (byEl x.key).P w S [.slice A x.key.length c] ∧ (byEl x.val).P w S [.slice B x.val.length d]
  move := by rintro w w' S S' cs ⟨A, c, B, d, h, h1, h2⟩ hz hm; exact ⟨A, c, B, d, h, El.move _ h1 hz hm, El.move _ h2 hz hm⟩
theorem byE.rd {w : World} {S : Nat → Prop} {xs : List UInt8} {A : Option Addr} {c : Nat} (h : (byEl xs).P w S [.slice A xs.length c]) : RdB w A xs ∧ xs.length ≤ c := by
  obtain ⟨A', c', h1, h2, h3, _⟩ := h
  simp only [List.cons.injEq, Value.slice.injEq, and_true] at h1
  obtain ⟨rfl, _, rfl⟩ := h1
  exact ⟨h3, h2⟩
theorem byE.own {w : World} {base : Nat} {S : Nat → Prop} {xs : List UInt8} {A : Option Addr} {c : Nat} (h : OwB w base A c xs) (hs : ∀ a, A = some a → base ≤ a.block → a.block < w.heap.size → S a.block) : (byEl xs).P w S [.slice A xs.length c] :=
  byEl.mk h.rd h.cap fun a ha _ => by have := Ow.lt h a ha; exact hs a ha this.1 this.2
theorem enEl.rd {w : World} {S : Nat → Prop} {x : En} {cs : List Value} (h : (enEl x).P w S cs) : ∃ A c B d, cs = enV x A c B d ∧ RdB w A x.key ∧ x.key.length ≤ c ∧ RdB w B x.val ∧ x.val.length ≤ d := by
  obtain ⟨A, c, B, d, h0, h1, h2⟩ := h
  exact ⟨A, c, B, d, h0, (byE.rd h1).1, (byE.rd h1).2, (byE.rd h2).1, (byE.rd h2).2⟩
theorem enEl.mk {w : World} {S : Nat → Prop} {x : En} {A B : Option Addr} {c d : Nat} (h1 : (byEl x.key).P w S [.slice A x.key.length c]) (h2 : (byEl x.val).P w S [.slice B x.val.length d]) : (enEl x).P w S (enV x A c B d) := ⟨A, c, B, d, rfl, h1, h2⟩
theorem enV_all (x : En) (A : Option Addr) (c : Nat) (B : Option Addr) (d : Nat) : ∀ u ∈ [enV x A c B d].flatten, u.oneCell' = true := by simp [enV, Value.oneCell']
/-- What an entry must be to be a value of the type, its lists of at most so many bytes. -/
structure EnOk (m : Nat) (x : En) : Prop where
  seq : x.seq < 2 ^ 64
  key : x.key.length ≤ m
  val : x.val.length ≤ m
def lessE (a b : En) : Bool := decide (cmpB a.key b.key < 0 ∨ (cmpB a.key b.key = 0 ∧ b.seq < a.seq))
def bigE (x : En) : Bool := decide (1024 < x.key.length ∨ 65536 < x.val.length)
def badE (x : En) : Bool := decide (¬ (x.kind = 1 ∨ (x.kind = 2 ∧ x.val = [])))
def checkE (l : List En) : Nat := if l.any bigE then 2 else if l.any badE then 3 else 0
theorem any_take {α : Type} {p : α → Bool} {l : List α} {k : Nat} {x : α} (h : l[k]? = some x) : (l.take (k + 1)).any p = ((l.take k).any p || p x) := by rw [take_getR h]; simp
theorem any_at {α : Type} {p : α → Bool} {l : List α} {k : Nat} {x : α} (h : l[k]? = some x) (hp : p x = true) : l.any p = true := List.any_eq_true.2 ⟨x, List.mem_of_getElem? h, hp⟩
theorem kind_iff {x : UInt8} {n : Nat} (hn : n < 256) : ((x.toNat : Int) = (n : Nat)) ↔ x = UInt8.ofNat n := by
  constructor
  · intro h; apply UInt8.toNat_inj.1; rw [UInt8.toNat_ofNat', Nat.mod_eq_of_lt hn]; omega
  · rintro rfl; rw [UInt8.toNat_ofNat', Nat.mod_eq_of_lt hn]
end Go.Proofs.Ytmdbjeabifkimaa


/-
  The engine's rules for a region whose order Go leaves open and which makes memory: operations that yield one value in every world of a class are taken first; where one operation alone may come up, it is carried out. Nothing here names the program.
-/
namespace Go.Proofs.Ytmdbjeabifkimaa
open Go.RowKit

def WH (P : Program) (N : Nat) (ops : Array Oper) (Q : Exit → Act → World → Prop) (S : World → Prop) (fuel : Nat) (listed : Array Bool) (L : FL) (w : World) : Prop :=
  ∀ a, Has N a L → wpAnyH P .any ops (NoPanic Q) S fuel listed a w
/-- What must hold behind the one operation that could come up. -/
def HeldQ (P : Program) (ops : Array Oper) (Q : Exit → Act → World → Prop) (S : World → Prop) (fuel : Nat) (listed : Array Bool) : Exit → Act → World → Prop :=
  Exit.then (fun a w => S w ∧ wpAnyH P .any ops (NoPanic Q) S fuel listed a w) (NoPanic Q)

section
variable {P : Program} {N : Nat} {ops : Array Oper} {Q : Exit → Act → World → Prop} {S : World → Prop} {fuel : Nat} {listed : Array Bool} {L : FL} {w : World}

theorem wc_held {id : Nat} {l : List Oper} (S : World → Prop) (hm : P.follows .mixedOrders = true) (h : WH P N l.toArray Q S l.length (Array.replicate l.length false) L w.drew) : WC P N (.region id l.toArray true) Q L w := fun a ha =>
  wp_region_noPanic (wp_region_held (S := S) hm (by simpa using h a ha))
/-- The class of the worlds that extend the one ahead of the region. -/
theorem wc_heldB {id : Nat} {l : List Oper} (hm : P.follows .mixedOrders = true) (h : ∀ w1, Below w.heap.size w w1 → WH P N l.toArray Q (Below w.heap.size w) l.length (Array.replicate l.length false) L w1) : WC P N (.region id l.toArray true) Q L w :=
  wc_held (Below w.heap.size w) hm (h _ ((Below.refl _ _).drew))
theorem np {Q : Exit → Act → World → Prop} {a a' : Act} {c : List PanicEntry} {w : World} (h : NoPanic Q (.panic c) a' w) : NoPanic Q (.panic c) a w := by simp [NoPanic] at h
theorem wh_done (hr : Region.ready .any ops listed = []) (h : WE N Q .normal L w) : WH P N ops Q S fuel listed L w := fun a ha => wpAnyH_done (Q := NoPanic Q) hr (NoPanic.normal (h a ha)) fuel
theorem wh_take (i : Nat) {d : Nat} {op : Op} {ty : TypeId} {pos : String} {aft : Array Edge} {v : Value} (hi : ops[i]? = some ⟨some d, op, ty, pos, aft, none⟩) (hs : Region.noSelect ops = true)
    (hf : Region.free .any ops listed i = true) (hr : (Region.ready .any ops listed).contains i = true) (hS : S w) (hv : ∀ w, S w → OpV P op ty L w v w) (hd : Nat.blt d N = true)
    (h : WH P N ops Q S fuel (listed.setIfInBounds i true) ((d, v) :: L) w) : WH P N ops Q S (fuel + 1) listed L w := fun a ha =>
  wpAnyH_take hi hs hf hr (fun _ _ _ h => np h) (.inl ⟨by simp [Region.wanted], fun w hw => hv w hw a.eval _ (fun x u hx => ha.eval hx) rfl rfl⟩) hS (h _ (ha.put hd v))
theorem wh_takeG (i : Nat) {d j g : Nat} {b want : Bool} {op : Op} {ty : TypeId} {pos : String} {aft : Array Edge} {v : Value} (hi : ops[i]? = some ⟨some d, op, ty, pos, aft, some (j, want)⟩) (hs : Region.noSelect ops = true)
    (hf : Region.free .any ops listed i = true) (hr : (Region.ready .any ops listed).contains i = true) (hS : S w)
    (hj : (ops[j]?).bind (·.dst) = some g) (hb : lookT L g = some (.bool b)) (hg : Nat.blt g N = true) (he : b = want) (hv : ∀ w, S w → OpV P op ty L w v w) (hd : Nat.blt d N = true)
    (h : WH P N ops Q S fuel (listed.setIfInBounds i true) ((d, v) :: L) w) : WH P N ops Q S (fuel + 1) listed L w := fun a ha => by
  have hy := yielded_of ha hj hb hg
  exact wpAnyH_take hi hs hf hr (fun _ _ _ h => np h) (.inl ⟨by simp [Region.wanted, hy, he], fun w hw => hv w hw a.eval _ (fun x u hx => ha.eval hx) rfl rfl⟩) hS (h _ (ha.put hd v))
theorem wh_skipG (i : Nat) {d j g : Nat} {b want : Bool} {op : Op} {ty : TypeId} {pos : String} {aft : Array Edge} (hi : ops[i]? = some ⟨some d, op, ty, pos, aft, some (j, want)⟩) (hs : Region.noSelect ops = true)
    (hf : Region.free .any ops listed i = true) (hr : (Region.ready .any ops listed).contains i = true) (hS : S w)
    (hj : (ops[j]?).bind (·.dst) = some g) (hb : lookT L g = some (.bool b)) (hg : Nat.blt g N = true) (he : b = !want) (hd : Nat.blt d N = true)
    (h : WH P N ops Q S fuel (listed.setIfInBounds i true) ((d, undef) :: L) w) : WH P N ops Q S (fuel + 1) listed L w := fun a ha => by
  have hy := yielded_of ha hj hb hg
  exact wpAnyH_take hi hs hf hr (fun _ _ _ h => np h) (.inr ⟨by simp [Region.wanted, hy, he], rfl⟩) hS (h _ (ha.put hd undef))
theorem wh_skipU (i : Nat) {d j g : Nat} {want : Bool} {op : Op} {ty : TypeId} {pos : String} {aft : Array Edge} (hi : ops[i]? = some ⟨some d, op, ty, pos, aft, some (j, want)⟩) (hs : Region.noSelect ops = true)
    (hf : Region.free .any ops listed i = true) (hr : (Region.ready .any ops listed).contains i = true) (hS : S w)
    (hj : (ops[j]?).bind (·.dst) = some g) (hb : lookT L g = some undef) (hg : Nat.blt g N = true) (hd : Nat.blt d N = true)
    (h : WH P N ops Q S fuel (listed.setIfInBounds i true) ((d, undef) :: L) w) : WH P N ops Q S (fuel + 1) listed L w := fun a ha => by
  have hy := yielded_undef ha hj hb hg
  exact wpAnyH_take hi hs hf hr (fun _ _ _ h => np h) (.inr ⟨by simp [Region.wanted, hy], rfl⟩) hS (h _ (ha.put hd undef))
/-- The same with what must be computed in one piece, behind the guard. -/
def okAt (ops : Array Oper) (listed : Array Bool) (i : Nat) : Bool := Region.noSelect ops && (Region.free .any ops listed i && (Region.ready .any ops listed).contains i)
theorem okAt_of {i : Nat} (h : okAt ops listed i = true) : Region.noSelect ops = true ∧ Region.free .any ops listed i = true ∧ (Region.ready .any ops listed).contains i = true := by
  simpa only [okAt, Bool.and_eq_true] using h
theorem wh_takeH (i : Nat) {d : Nat} {op : Op} {ty : TypeId} {pos : String} {aft : Array Edge} {v : Value} (hi : ops[i]? = some ⟨some d, op, ty, pos, aft, none⟩) (hv : ∀ w, S w → OpV P op ty L w v w) (hd : Nat.blt d N = true) (hk : okAt ops listed i = true) (hS : S w)
    (h : WH P N ops Q S fuel (listed.setIfInBounds i true) ((d, v) :: L) w) : WH P N ops Q S (fuel + 1) listed L w :=
  wh_take i hi (okAt_of hk).1 (okAt_of hk).2.1 (okAt_of hk).2.2 hS hv hd h
theorem wh_takeGH (i : Nat) {d j g : Nat} {b want : Bool} {op : Op} {ty : TypeId} {pos : String} {aft : Array Edge} {v : Value} (hi : ops[i]? = some ⟨some d, op, ty, pos, aft, some (j, want)⟩)
    (hj : (ops[j]?).bind (·.dst) = some g) (hb : lookT L g = some (.bool b)) (hg : Nat.blt g N = true) (he : b = want) (hv : ∀ w, S w → OpV P op ty L w v w) (hd : Nat.blt d N = true) (hk : okAt ops listed i = true) (hS : S w)
    (h : WH P N ops Q S fuel (listed.setIfInBounds i true) ((d, v) :: L) w) : WH P N ops Q S (fuel + 1) listed L w :=
  wh_takeG i hi (okAt_of hk).1 (okAt_of hk).2.1 (okAt_of hk).2.2 hS hj hb hg he hv hd h
theorem wh_skipGH (i : Nat) {d j g : Nat} {b want : Bool} {op : Op} {ty : TypeId} {pos : String} {aft : Array Edge} (hi : ops[i]? = some ⟨some d, op, ty, pos, aft, some (j, want)⟩)
    (hj : (ops[j]?).bind (·.dst) = some g) (hb : lookT L g = some (.bool b)) (hg : Nat.blt g N = true) (he : b = !want) (hd : Nat.blt d N = true) (hk : okAt ops listed i = true) (hS : S w)
    (h : WH P N ops Q S fuel (listed.setIfInBounds i true) ((d, undef) :: L) w) : WH P N ops Q S (fuel + 1) listed L w :=
  wh_skipG i hi (okAt_of hk).1 (okAt_of hk).2.1 (okAt_of hk).2.2 hS hj hb hg he hd h
theorem wh_skipUH (i : Nat) {d j g : Nat} {want : Bool} {op : Op} {ty : TypeId} {pos : String} {aft : Array Edge} (hi : ops[i]? = some ⟨some d, op, ty, pos, aft, some (j, want)⟩)
    (hj : (ops[j]?).bind (·.dst) = some g) (hb : lookT L g = some undef) (hg : Nat.blt g N = true) (hd : Nat.blt d N = true) (hk : okAt ops listed i = true) (hS : S w)
    (h : WH P N ops Q S fuel (listed.setIfInBounds i true) ((d, undef) :: L) w) : WH P N ops Q S (fuel + 1) listed L w :=
  wh_skipU i hi (okAt_of hk).1 (okAt_of hk).2.1 (okAt_of hk).2.2 hS hj hb hg hd h
/-- One operation alone may come up. -/
theorem wh_one (i : Nat) {o : Oper} (hr : Region.ready .any ops listed = [i]) (hi : ops[i]? = some o)
    (h : WL P N ops (HeldQ P ops Q S fuel (listed.setIfInBounds i true)) [o] L w) : WH P N ops Q S (fuel + 1) listed L w := fun a ha => by
  refine wpAnyH_all hr (by simp) fun i' hi' => ?_
  obtain rfl : i' = i := by simpa using hi'
  have h' := h a ha
  unfold wpOp
  simp only [hi]
  unfold wpList at h'
  split
  · rename_i hw
    rw [if_pos hw] at h'
    rcases h' with h' | ⟨ha, a0, w0, h'⟩
    · exact .inl (upon_mono (fun a w h => h) (fun e a w he h => by cases e <;> first | exact absurd rfl he | exact h) h')
    · exact .inr ⟨ha, a0, w0, h'⟩
  · rename_i hw
    rw [if_neg hw] at h'
    exact h'
theorem we_held (hS : S w) (h : WH P N ops Q S fuel listed L w) : WE N (HeldQ P ops Q S fuel listed) .normal L w := fun a ha => ⟨hS, h a ha⟩
end
end Go.Proofs.Ytmdbjeabifkimaa


/-
  Walks over the comparison of entries, of the program and of the reference, over Same, SameList, Twin and Twins.
-/
namespace Go.Proofs.Ytmdbjeabifkimaa
open Go.RowKit

/-- How an entry stands to a key and a number. -/
def cmpE (x : En) (key : List UInt8) (seq : Nat) : Int := if cmpB x.key key = 0 then (if seq < x.seq then -1 else if x.seq < seq then 1 else 0) else cmpB x.key key
theorem cmpE_less (x y : En) : decide (cmpE x y.key y.seq < 0) = lessE x y := by
  have h := cmp_range x.key y.key
  rw [lessE, decide_eq_decide]
  unfold cmpE
  by_cases h0 : cmpB x.key y.key = 0
  · rw [if_pos h0]
    by_cases h1 : y.seq < x.seq
    · rw [if_pos h1]; simp [h0, h1]
    · rw [if_neg h1]
      by_cases h2 : x.seq < y.seq
      · rw [if_pos h2]; simp [h0, h1]
      · rw [if_neg h2]; simp [h0, h1]
  · rw [if_neg h0]; constructor
    · intro h; exact .inl h
    · rintro (h | h)
      · exact h
      · exact absurd h.1 h0
/-- An entry in new memory. -/
def RetE (w : World) (x : En) (v : Value) (w' : World) : Prop :=
  ∃ (A : Option Addr) (c : Nat) (B : Option Addr) (d : Nat), v = .agg (enV x A c B d).toArray ∧ OwB w' w.heap.size A c x.key ∧ OwB w' w.heap.size B d x.val ∧ (∀ a b, A = some a → B = some b → a.block ≠ b.block) ∧ Below w.heap.size w w'
theorem take_mapE {l : List En} {k : Nat} {x : En} (h : l[k]? = some x) : (l.take (k + 1)).map enEl = (l.take k).map enEl ++ [enEl x] := by rw [take_getR h]; simp
theorem enEl.own {w : World} {S : Nat → Prop} {base : Nat} {x : En} {A B : Option Addr} {c d : Nat} (h1 : OwB w base A c x.key) (h2 : OwB w base B d x.val) (hs : ∀ b, base ≤ b → b < w.heap.size → S b) : (enEl x).P w S (enV x A c B d) :=
  enEl.mk (byE.own h1 fun a _ h h' => hs _ h h') (byE.own h2 fun a _ h h' => hs _ h h')
end Go.Proofs.Ytmdbjeabifkimaa


/-
  Walks over the document's Check, Ordered, In and Get of lists of entries.
-/
namespace Go.Proofs.Ytmdbjeabifkimaa
open Go.RowKit

theorem natc_pred {k : Nat} : ((k + 1 : Nat) : Int) - 1 = (k : Int) := by omega
/-- Each entry stands ahead of the next one. -/
def ordE : List En → Bool
  | a :: b :: l => lessE a b && ordE (b :: l)
  | _ => true
theorem ordE_iff : ∀ {l : List En}, ordE l = true ↔ ∀ i x y, l[i]? = some x → l[i + 1]? = some y → lessE x y = true
  | [] => by simp [ordE]
  | [a] => by simp [ordE]
  | a :: b :: l => by
    rw [ordE, Bool.and_eq_true, ordE_iff]
    constructor
    · rintro ⟨h1, h2⟩ i x y hx hy
      cases i with
      | zero => simp at hx hy; subst hx hy; exact h1
      | succ i => exact h2 i x y (by simpa using hx) (by simpa using hy)
    · intro h
      exact ⟨h 0 a b rfl rfl, fun i x y hx hy => h (i + 1) x y (by simpa using hx) (by simpa using hy)⟩
def inE (l : List En) (e : En) : Bool := l.any fun x => decide (x.key = e.key ∧ x.seq = e.seq)
/-- The first of the key that isn't above. -/
def getE (l : List En) (key : List UInt8) (m : Nat) : Option En := l.find? fun x => decide (x.key = key ∧ x.seq ≤ m)
def getV (o : Option En) (v : Value) : Prop := match o with
  | some x => ∃ (X : Option Addr) (cx : Nat) (Y : Option Addr) (cy : Nat), v = .tuple #[.agg (enV x X cx Y cy).toArray, .bool true]
  | none => v = .tuple #[.agg zE.toArray, .bool false]
theorem find_take {α : Type} {p : α → Bool} {l : List α} {k : Nat} {x : α} (h : l[k]? = some x) (hn : (l.take k).find? p = none) : (l.take (k + 1)).find? p = if p x then some x else none := by
  rw [take_getR h, List.find?_append, hn]; simp [List.find?_cons]; split <;> simp_all
theorem find_pre {α : Type} {p : α → Bool} {l : List α} {k : Nat} {x : α} (h : (l.take k).find? p = some x) : l.find? p = some x := by
  rw [← List.take_append_drop k l, List.find?_append, h]; rfl
/-- The same, its bytes readable. -/
def getR (w' : World) (o : Option En) (v : Value) : Prop := match o with
  | some x => ∃ (X : Option Addr) (cx : Nat) (Y : Option Addr) (cy : Nat), v = .tuple #[.agg (enV x X cx Y cy).toArray, .bool true] ∧ RdB w' X x.key ∧ RdB w' Y x.val
  | none => v = .tuple #[.agg zE.toArray, .bool false]
end Go.Proofs.Ytmdbjeabifkimaa


/-
  The engine's rules over what a call holds: blocks are made, read and written, rows are made, appended to and set, and the list of pieces keeps count. Nothing here names the program.
-/
namespace Go.Proofs.Ytmdbjeabifkimaa
open Go.RowKit

section
variable {P : Program} {N : Nat} {ops : Array Oper} {Q : Exit → Act → World → Prop} {rest : List Oper} {L : FL} {w0 w : World} {M : BS} {H : List Cd} {t e : TypeId} {g : Nat} {cs cs' : List Value} {z : Value} {bytes k : Nat}
/-! #### Blocks -/
theorem ws_st {x y : Operand} {ty : TypeId} {pos : String} {aft : Array Edge} {kk : Nat} {T : TypeId} {u : Value} (hs : St M w0 w H) (i : Nat) (hx : look L x = some (.pointer (some ⟨g, kk, none⟩))) (hi : nthC H i = some (.blk g T cs)) (E : Cell1 P e) (hk : Nat.blt kk cs.length = true)
    (hy : look L y = some u) (h1 : u.oneCell' = true)
    (h : ∀ w', St M w0 w' (setC H i (.blk g T (cs.set kk u))) → WL P N ops Q rest L w') :
    WL P N ops Q (⟨none, .store e x y, ty, pos, aft, none⟩ :: rest) L w :=
  wl_stA E (hs.ar i hi) hx (by simpa [Nat.blt_eq] using hk) hy h1 fun _ a2 g2 _ => h _ (hs.updA i hi a2 g2)
theorem ws_stS {x y : Operand} {ty T : TypeId} {pos : String} {aft : Array Edge} (hs : St M w0 w H) (i : Nat) (hx : look L x = some (.pointer (some ⟨g, 0, none⟩))) (hi : nthC H i = some (.blk g T cs)) (hy : look L y = some (.agg cs'.toArray)) (S : StT P t cs'.length) (hl : cs.length = cs'.length) (h1 : cs'.all (·.oneCell') = true)
    (h : ∀ w', St M w0 w' (setC H i (.blk g T cs')) → WL P N ops Q rest L w') :
    WL P N ops Q (⟨none, .store t x y, ty, pos, aft, none⟩ :: rest) L w :=
  wl_storeS S (hs.ar i hi) hx hy hl h1 fun _ a2 g2 _ => h _ (hs.updA i hi a2 g2)
theorem ws_box {d : Nat} {x : Operand} {ty : TypeId} {pos : String} {aft : Array Edge} (hs : St M w0 w H) (hx : look L x = some (.agg cs.toArray)) (hd : Nat.blt d N = true)
    (h : ∀ g w', St M w0 w' (.blk g t cs :: H) → WL P N ops Q rest ((d, .pointer (some ⟨g, 0, none⟩)) :: L) w') :
    WL P N ops Q (⟨some d, .box t x, ty, pos, aft, none⟩ :: rest) L w :=
  wl_box hx hd fun g _ hg a hb => h g _ (hs.newA hb hg a)
theorem ws_new {d : Nat} {ty : TypeId} {pos : String} {aft : Array Edge} (hs : St M w0 w H) (hz : (P.info? t).map (·.zero) = some (some (.agg cs.toArray))) (hd : Nat.blt d N = true)
    (h : ∀ g w', St M w0 w' (.blk g t cs :: H) → WL P N ops Q rest ((d, .pointer (some ⟨g, 0, none⟩)) :: L) w') :
    WL P N ops Q (⟨some d, .alloc t, ty, pos, aft, none⟩ :: rest) L w :=
  wl_new hz hd fun g _ hg a hb => h g _ (hs.newA hb hg a)
theorem ws_new1 {d : Nat} {ty : TypeId} {pos : String} {aft : Array Edge} (hs : St M w0 w H) (hz : (P.info? t).map (·.zero) = some (some z)) (hz1 : z.oneCell' = true) (hd : Nat.blt d N = true)
    (h : ∀ g w', St M w0 w' (.blk g t [z] :: H) → WL P N ops Q rest ((d, .pointer (some ⟨g, 0, none⟩)) :: L) w') :
    WL P N ops Q (⟨some d, .alloc t, ty, pos, aft, none⟩ :: rest) L w :=
  wl_alloc hz hd fun w' a hb _ => h _ w' (hs.newA hb (Nat.le_refl _) (by rw [cells_one hz1] at a; exact a))
theorem ws_var {d : Nat} {x : Operand} {ty1 ty2 : TypeId} {p1 p2 : String} {f1 f2 : Array Edge} {zs : List Value} (hs : St M w0 w H) (hz : (P.info? t).map (·.zero) = some (some (.agg zs.toArray))) (S : StT P t cs.length) (hl : zs.length = cs.length)
    (hx : ∀ p, look ((d, p) :: L) x = some (.agg cs.toArray)) (h1 : cs.all (·.oneCell') = true) (hd : Nat.blt d N = true)
    (h : ∀ g w', St M w0 w' (.blk g t cs :: H) → WL P N ops Q rest ((d, .pointer (some ⟨g, 0, none⟩)) :: L) w') :
    WL P N ops Q (⟨some d, .alloc t, ty1, p1, f1, none⟩ :: ⟨none, .store t (.tmp d) x, ty2, p2, f2, none⟩ :: rest) L w :=
  wl_var hz S hl hx h1 hd fun g _ hg a hb => h g _ (hs.newA hb hg a)
theorem ws_var1 {d : Nat} {x : Operand} {ty1 ty2 : TypeId} {p1 p2 : String} {f1 f2 : Array Edge} {u : Value} (hs : St M w0 w H) (hz : (P.info? t).map (·.zero) = some (some z)) (hz1 : z.oneCell' = true) (E : Cell1 P t)
    (hx : ∀ p, look ((d, p) :: L) x = some u) (h1 : u.oneCell' = true) (hd : Nat.blt d N = true)
    (h : ∀ g w', St M w0 w' (.blk g t [u] :: H) → WL P N ops Q rest ((d, .pointer (some ⟨g, 0, none⟩)) :: L) w') :
    WL P N ops Q (⟨some d, .alloc t, ty1, p1, f1, none⟩ :: ⟨none, .store t (.tmp d) x, ty2, p2, f2, none⟩ :: rest) L w :=
  wl_var1 hz hz1 E hx h1 hd fun g _ hg a hb => h g _ (hs.newA hb hg a)
/-! #### Rows of one cell an element -/
theorem ws_bs {d len : Nat} {ps : List (Nat × Operand)} {vs : List Value} {ty : TypeId} {pos : String} {aft : Array Edge} (hs : St M w0 w H) (T : Row1 P t e z bytes) (hp : PLooks L 0 ps vs) (hl : vs.length = len) (hle : len ≤ 16777216) (hd : Nat.blt d N = true)
    (h : ∀ A w', St M w0 w' (.ow e A len len vs :: H) → WL P N ops Q rest ((d, .slice A len len) :: L) w') :
    WL P N ops Q (⟨some d, .buildSlice t len ps.toArray, ty, pos, aft, none⟩ :: rest) L w :=
  wl_bs T hp hl hle hd fun A w' ho hb _ => h A w' (hs.newO hb ho (Nat.le_refl _))
theorem ws_mk {d : Nat} {x y : Operand} {ty : TypeId} {pos : String} {aft : Array Edge} {n c : Nat} {p q : Int} {k1 k2 : IntKind} (hs : St M w0 w H) (T : Row1 P t e z bytes) (hx : look L x = some (.int k1 p)) (hy : look L y = some (.int k2 q)) (hp : p = (n : Int)) (hq : q = (c : Int)) (hnc : n ≤ c)
    (hb : bytes * c ≤ 281474976710656) (hm : c ≤ maxLen) (hd : Nat.blt d N = true)
    (h : ∀ A w', St M w0 w' (.ow e A n c (List.replicate n z) :: H) → WL P N ops Q rest ((d, .slice A n c) :: L) w') :
    WL P N ops Q (⟨some d, .makeSlice t x y, ty, pos, aft, none⟩ :: rest) L w :=
  wl_mk T hx hy hp hq hnc hb hm hd fun A w' ho hb _ => h A w' (hs.newO hb ho (Nat.le_refl _))
theorem ws_app {d : Nat} {s x : Operand} {ty : TypeId} {pos : String} {aft : Array Edge} {A : Option Addr} {n c : Nat} {xs : List Value} {B : Option Addr} {m c' : Nat} {ys : List Value} (hs : St M w0 w H) (i : Nat) (hx0 : look L s = some (.slice A n c)) (hi : nthC H i = some (.ow e A n c xs)) (T : Row1 P t e z bytes)
    (hx : look L x = some (.slice B m c')) (hr : Rd w B m ys) (h1 : ∀ u ∈ ys, u.oneCell' = true)
    (hbytes : (n + m) * bytes ≤ 140737488355328) (hmax : n + m ≤ maxLen) (hd : Nat.blt d N = true)
    (h : ∀ A' c' w', St M w0 w' (setC H i (.ow e A' (n + m) c' (xs ++ ys))) → WL P N ops Q rest ((d, .slice A' (n + m) c') :: L) w') :
    WL P N ops Q (⟨some d, .call { callee := .builtin .append, args := #[s, x], argTypes := #[t, t] }, ty, pos, aft, none⟩ :: rest) L w :=
  wl_app T hx0 (hs.ow i hi) hx hr h1 hbytes hmax (Nat.zero_le _) hd fun A' c' w' ho hg hat => h A' c' w' (hs.updO i hi ho hg (at_new hat))
theorem Gr.at_any {A A' : Option Addr} {n c base : Nat} {xs : List Value} {w' : World} (hg : Gr w w' A) (ho : Ow w' base e A' n c xs) (h : A'.map (·.block) = A.map (·.block) ∨ ∀ a', A' = some a' → w.heap.size ≤ a'.block) : A'.map (·.block) = A.map (·.block) ∨ ∀ a', A' = some a' → w.heap.size ≤ a'.block := h
theorem ws_push {d1 d2 len : Nat} {ps : List (Nat × Operand)} {vs : List Value} {s : Operand} {ty1 ty2 : TypeId} {p1 p2 : String} {f1 f2 : Array Edge} {A : Option Addr} {n c : Nat} {xs : List Value} (hs : St M w0 w H) (i : Nat) (hx0 : look L s = some (.slice A n c)) (hi : nthC H i = some (.ow e A n c xs)) (T : Row1 P t e z bytes)
    (hp : PLooks L 0 ps vs) (hl : vs.length = len) (hle : len ≤ 16777216) (hs1 : look ((d1, .slice (some ⟨w.heap.size, 0, none⟩) len len) :: L) s = some (.slice A n c))
    (hbytes : (n + len) * bytes ≤ 140737488355328) (hmax : n + len ≤ maxLen) (hd1 : Nat.blt d1 N = true) (hd2 : Nat.blt d2 N = true)
    (h : ∀ p A' c' w', St M w0 w' (setC H i (.ow e A' (n + len) c' (xs ++ vs))) → WL P N ops Q rest ((d2, .slice A' (n + len) c') :: (d1, p) :: L) w') :
    WL P N ops Q (⟨some d1, .buildSlice t len ps.toArray, ty1, p1, f1, none⟩ :: ⟨some d2, .call { callee := .builtin .append, args := #[s, .tmp d1], argTypes := #[t, t] }, ty2, p2, f2, none⟩ :: rest) L w :=
  wl_push T hx0 (hs.ow i hi) hp hl hle hs1 hbytes hmax (Nat.zero_le _) hd1 hd2 fun p A' c' w' ho hg hat => h p A' c' w' (hs.updO i hi ho hg hat)
theorem ws_set {d1 : Nat} {x i y : Operand} {ty1 ty2 : TypeId} {p1 p2 : String} {f1 f2 : Array Edge} {A : Option Addr} {n c kk : Nat} {ik : IntKind} {q : Int} {u : Value} {xs : List Value} (hs : St M w0 w H) (j : Nat) (hx : look L x = some (.slice A n c)) (hj : nthC H j = some (.ow e A n c xs)) (T : Row1 P t e z bytes)
    (hi : look L i = some (.int ik q)) (hq : q = (kk : Int)) (hk : kk < n)
    (hy : ∀ p, look ((d1, p) :: L) y = some u) (h1 : u.oneCell' = true) (hd1 : Nat.blt d1 N = true)
    (h : ∀ p w', St M w0 w' (setC H j (.ow e A n c (xs.set kk u))) → WL P N ops Q rest ((d1, p) :: L) w') :
    WL P N ops Q (⟨some d1, .indexAddr t x i, ty1, p1, f1, none⟩ :: ⟨none, .store e (.tmp d1) y, ty2, p2, f2, none⟩ :: rest) L w :=
  wl_set T hx hi (hs.ow j hj) hq hk hy h1 hd1 fun p w' ho hg _ => h p w' (hs.updO j hj ho hg (.inl rfl))
theorem ws_appS {d : Nat} {s x : Operand} {ty : TypeId} {u : TypeId} {pos : String} {aft : Array Edge} {A : Option Addr} {n c : Nat} {xs : List Value} {ys : List UInt8} (hs : St M w0 w H) (i : Nat) (hx0 : look L s = some (.slice A n c)) (hi : nthC H i = some (.ow e A n c xs)) (T : Row1 P t e (.int .u8 0) 1) (hu : P.underlying u = some .string)
    (hx : look L x = some (str ys)) (hbytes : n + ys.length ≤ 140737488355328) (hd : Nat.blt d N = true)
    (h : ∀ A' c' w', St M w0 w' (.ow e A' (n + ys.length) c' (xs ++ bvs ys) :: delC H i) → WL P N ops Q rest ((d, .slice A' (n + ys.length) c') :: L) w') (hfr : A = none) :
    WL P N ops Q (⟨some d, .call { callee := .builtin .append, args := #[s, x], argTypes := #[t, u] }, ty, pos, aft, none⟩ :: rest) L w := by
  subst hfr
  have hn : n = 0 := by
    rcases (hs.ow i hi).2 with ⟨_, hn⟩ | ⟨_, _, _, hv, _⟩
    · exact hn
    · injection hv with hA _ _; cases hA
  subst hn
  have hxs : xs = [] := List.eq_nil_of_length_eq_zero (hs.ow i hi).len
  subst hxs
  have hc : c = 0 := by
    rcases (hs.ow i hi).2 with ⟨hv, _⟩ | ⟨_, _, _, hv, _⟩
    · injection hv
    · injection hv with hA _ _; cases hA
  subst hc
  refine wl_appS (base := w.heap.size) T hu hx0 (Ow.nil _ _ _) hx hbytes (Nat.le_refl _) hd fun A' c' w' ho hg => h A' c' w' ((hs.drop i hi).newO ?_ ho (Nat.le_refl _))
  exact ⟨hg.os, hg.tape, hg.output, World.grownBy.size hg, fun b hb => hg.block b hb (by simp)⟩
/-! #### Rows of elements -/
/-- What is known by its cells alone. -/
def rawEl (cs : List Value) : El := ⟨fun _ _ cs' => cs' = cs, fun h _ _ => h⟩
theorem St.raw (hs : St M w0 w H) (cs : List Value) : St M w0 w (.ce (rawEl cs) cs :: H) := ⟨hs.1, NoB, fun _ h => h.elim, rfl, hs.2.mono fun _ _ h => ⟨h, id⟩⟩
theorem St.nilO (hs : St M w0 w H) (e : TypeId) : St M w0 w (.ow e none 0 0 [] :: H) := ⟨hs.1, NoB, fun _ h => h.elim, ⟨by simp, Ow.nil _ _ _⟩, hs.2.mono fun _ _ h => ⟨h, id⟩⟩
theorem St.nilG (hs : St M w0 w H) (k : Nat) (e : TypeId) : St M w0 w (.rg k e none 0 [] :: H) := ⟨hs.1, NoB, fun _ h => h.elim, ⟨by simp, OwR.nil _ _ _⟩, hs.2.mono fun _ _ h => ⟨h, id⟩⟩
/-- Pieces in front are told as one. -/
theorem St.pack {H1 : List Cd} (hs : St M w0 w (H1 ++ H)) (c : Cd) (h : ∀ w S, Sat w H1 S → c.P w S) : St M w0 w (c :: H) := by
  obtain ⟨T, hT, h1, h2⟩ := hs.2.append
  exact ⟨hs.1, T, hT, h _ _ h1, h2⟩
theorem Sat.split {c : Cd} {S : BS} (h : Sat w (c :: H) S) {H1 : List Cd} (hc : ∀ T, c.P w T → Sat w H1 T) : Sat w (H1 ++ H) S := by
  obtain ⟨T, hT, h1, h2⟩ := h
  exact Sat.join hT (hc _ h1) h2
/-- A piece in front is told as some. -/
theorem St.unpack {c : Cd} (hs : St M w0 w (c :: H)) {H1 : List Cd} (h : ∀ T, c.P w T → Sat w H1 T) : St M w0 w (H1 ++ H) := ⟨hs.1, hs.2.split h⟩
theorem St.unpackE {c : Cd} (hs : St M w0 w (c :: H)) {α : Type} {H1 : α → List Cd} (h : ∀ T, c.P w T → ∃ a, Sat w (H1 a) T) : ∃ a, St M w0 w (H1 a ++ H) := by
  obtain ⟨T, hT, hc, hr⟩ := hs.2
  obtain ⟨a, ha⟩ := h T hc
  exact ⟨a, hs.1, Sat.join hT ha hr⟩
/-- An element, with the memory that is its own, goes into a row. -/
theorem ws_pushG {d1 d2 : Nat} {x : Operand} {E : El} {s : Operand} {ty1 ty2 : TypeId} {p1 p2 : String} {f1 f2 : Array Edge} {A : Option Addr} {n c : Nat} {els : List El} (hs : St M w0 w (.rg k e A c els :: .ce E cs :: H)) (T : RowK P t e k z bytes)
    (hs1 : ∀ p, look ((d1, p) :: L) s = some (.slice A n c)) (hn : els.length = n) (hx : ∃ v, look L x = some v ∧ v.cells = cs.toArray) (hl : cs.length = k) (h1 : cs.all (·.oneCell') = true) (hk : k ≤ 16777216)
    (hbytes : (n + 1) * bytes ≤ 140737488355328) (hmax : n + 1 ≤ maxLen) (hd1 : Nat.blt d1 N = true) (hd2 : Nat.blt d2 N = true)
    (h : ∀ p A' c' w', St M w0 w' (.rg k e A' c' (els ++ [E]) :: H) → WL P N ops Q rest ((d2, .slice A' (n + 1) c') :: (d1, p) :: L) w') :
    WL P N ops Q (⟨some d1, .buildSlice t 1 #[(0, x)], ty1, p1, f1, none⟩ :: ⟨some d2, .call { callee := .builtin .append, args := #[s, .tmp d1], argTypes := #[t, t] }, ty2, p2, f2, none⟩ :: rest) L w := by
  obtain ⟨S, ⟨T1, hT1, hc1, T2, hT2, hc2, _⟩, hS, _, _, hB⟩ := St.lend (H1 := [.rg k e A c els, .ce E cs]) (H2 := H) hs
  have hown : OwR k e w 0 S A c els := hc1.2.mono (Nat.le_refl _) fun b _ h => hT1 b h
  have hbut : ∀ b, b < w.heap.size → T2 b → But A b := fun b _ hb a ha hk => (hT2 b hb).2 (hk ▸ hc1.1 a ha)
  refine wl_pushG (css' := [cs]) (els' := [E]) (ps := [(0, x)]) T hs1 hown hn ⟨rfl, hx, hl, trivial⟩ (Grp.one (El.mono hc2 fun b hb hh => ⟨(hT2 b hh).1, hbut b hb hh⟩) hl) rfl (by simpa using h1) (by simpa using hk) (by decide) hbytes hmax (Nat.zero_le _) hd1 hd2 fun p A' c' w' hO hG hat => h p A' c' w' ?_
  have hA : ∀ a, A = some a → S a.block := fun a ha => hT1 _ (hc1.1 a ha)
  refine hB w' [.rg k e A' c' (els ++ [E])] ⟨Mod.of_gr hG hA, Fr S w, fun b h => h, ⟨fun a ha => at_in hat hA a ha, hO.mono (Nat.le_refl _) fun b _ h => .inl h⟩, trivial⟩
theorem ws_bsG0 {d : Nat} {ty : TypeId} {pos : String} {aft : Array Edge} (hs : St M w0 w H) (hv : OpV P (.buildSlice t 0 #[]) ty L w (.slice (some ⟨w.heap.size, 0, none⟩) 0 0) (w.alloc (.cells #[] e))) (hd : Nat.blt d N = true)
    (h : ∀ A w', St M w0 w' (.rg k e A 0 [] :: H) → WL P N ops Q rest ((d, .slice A 0 0) :: L) w') :
    WL P N ops Q (⟨some d, .buildSlice t 0 #[], ty, pos, aft, none⟩ :: rest) L w := by
  have hb : Below w.heap.size w (w.alloc (.cells #[] e)) := (Below.refl _ _).alloc (Nat.le_refl _) _
  refine wl_val hv hd (h _ _ (hs.newG (S := NoB) (base := w.heap.size) hb (OwR.nilc ?_) (Nat.le_refl _) fun _ _ h => h.elim))
  have := World.ownsRow_lit (e := e) (size := k) (base := w.heap.size) w #[] 0 (Nat.le_refl _) (by simp) (by simp)
  simpa using this
theorem opv_bsG0 {ty : TypeId} (T : RowK P t e k z bytes) : OpV P (.buildSlice t 0 #[]) ty L w (.slice (some ⟨w.heap.size, 0, none⟩) 0 0) (w.alloc (.cells #[] e)) := fun ρ o hρ ho _ => by
  unfold execOp
  simp only [ho, Instr.buildSlice, Sem.run_bind, run_underlying T.sl, Result.andThen_ok, T.size]
  have h0 : Array.range 0 = #[] := Array.eq_empty_of_size_eq_zero (by simp)
  simp [newRow, Instr.fill, h0]
theorem RdR.raw {w : World} {S : BS} {A : Option Addr} {css : List (List Value)} (h : RdR k w S A (css.map rawEl)) : Rd w A (css.length * k) css.flatten ∧ ∀ cs ∈ css, cs.length = k := by
  obtain ⟨css', h1, h2, _⟩ := h
  have he : css' = css := by
    apply List.ext_getElem?
    intro i
    cases hi : css'[i]? with
    | none => rw [List.getElem?_eq_none]; have := h1.1; rw [List.length_map] at this; have := List.getElem?_eq_none_iff.1 hi; omega
    | some cs =>
      obtain ⟨_, E, hE, hp⟩ := h1.2 i cs hi
      rw [List.getElem?_map] at hE
      cases hc : css[i]? with
      | none => rw [hc] at hE; cases hE
      | some x => rw [hc] at hE; cases hE; have hp' : cs = x := hp; rw [hp']
  subst he
  rw [List.length_map] at h2
  exact ⟨h2, h1.ks⟩
theorem RdR.to_raw {w : World} {S : BS} {A : Option Addr} {els : List El} (h : RdR k w S A els) : ∃ css, Grp k w S els css ∧ RdR k w S A (css.map rawEl) := by
  obtain ⟨css, h1, h2, h3⟩ := h
  exact ⟨css, h1, css, ⟨by simp, fun i cs hcs => ⟨h1.ks cs (List.mem_of_getElem? hcs), rawEl cs, by simp [hcs], rfl⟩⟩, by rw [List.length_map, h1.1]; exact h2, by rw [List.length_map, h1.1]; exact h3⟩
theorem grp_raw {w : World} {S : BS} {css : List (List Value)} (hk : ∀ cs ∈ css, cs.length = k) : Grp k w S (css.map rawEl) css := ⟨by simp, fun i cs hcs => ⟨hk cs (List.mem_of_getElem? hcs), rawEl cs, by simp [hcs], rfl⟩⟩
theorem OwR.raw {w : World} {S : BS} {A : Option Addr} {css : List (List Value)} {base c : Nat} (h : OwR k e w base S A c (css.map rawEl)) : w.ownsRow base e k (.slice A css.length c) css.length css.flatten ∧ ∀ cs ∈ css, cs.length = k := by
  obtain ⟨css', h1, h2⟩ := h
  have he : css' = css := by
    apply List.ext_getElem?
    intro i
    cases hi : css'[i]? with
    | none => rw [List.getElem?_eq_none]; have := h1.1; rw [List.length_map] at this; have := List.getElem?_eq_none_iff.1 hi; omega
    | some cs =>
      obtain ⟨_, E, hE, hp⟩ := h1.2 i cs hi
      rw [List.getElem?_map] at hE
      cases hc : css[i]? with
      | none => rw [hc] at hE; cases hE
      | some x => rw [hc] at hE; cases hE; have hp' : cs = x := hp; rw [hp']
  subst he
  rw [List.length_map] at h2
  exact ⟨h2, h1.ks⟩
/-- What was handed on cell by cell is told as elements again. -/
theorem St.rawOut (hs : St NoB w0 w H) (i : Nat) {A : Option Addr} {c : Nat} {css : List (List Value)} {els : List El} {S : BS} (hi : nthC H i = some (.rg k e A c (css.map rawEl))) (hg : Grp k w0 S els css) : OwR k e w w0.heap.size S A c els := by
  obtain ⟨T, hc, hT⟩ := hs.get i hi
  have hA : ∀ a, A = some a → w0.heap.size ≤ a.block := fun a ha => (hT _ (hc.1 a ha)).elim (fun h => h.elim) id
  obtain ⟨ho, hk⟩ := OwR.raw hc.2
  have hl : css.length = els.length := hg.1
  refine ⟨css, hg.move hs.1.size fun b hb h => ⟨⟨h, fun a ha => by have := hA a ha; omega⟩, hs.1.block b hb id⟩, by rw [← hl]; exact ho.1, ?_⟩
  rcases ho.2 with ⟨hv, hn⟩ | ⟨g, cap, cur, hv, _, rest⟩
  · exact .inl ⟨by rw [← hl]; exact hv, by rw [← hl]; exact hn⟩
  · injection hv with hv1 hv2 hv3
    subst hv1 hv3
    exact .inr ⟨g, c, cur, rfl, hA _ rfl, by rw [← hl]; exact rest⟩
/-- append(s, x...): elements that are known by their cells alone. -/
theorem ws_appR {d : Nat} {s x : Operand} {ty : TypeId} {pos : String} {aft : Array Edge} {A : Option Addr} {n c : Nat} {els : List El} {B : Option Addr} {m c' : Nat} {css : List (List Value)} {S' : BS} (hs : St M w0 w H) (i : Nat) (hx0 : look L s = some (.slice A n c)) (hi : nthC H i = some (.rg k e A c els)) (T : RowK P t e k z bytes)
    (hn : els.length = n) (hx : look L x = some (.slice B m c')) (hr : RdR k w S' B (css.map rawEl)) (hm : css.length = m) (h1 : ∀ u ∈ css.flatten, u.oneCell' = true)
    (hbytes : (n + m) * bytes ≤ 140737488355328) (hmax : n + m ≤ maxLen) (hd : Nat.blt d N = true)
    (h : ∀ A' c' w', St M w0 w' (setC H i (.rg k e A' c' (els ++ css.map rawEl))) → WL P N ops Q rest ((d, .slice A' (n + m) c') :: L) w') :
    WL P N ops Q (⟨some d, .call { callee := .builtin .append, args := #[s, x], argTypes := #[t, t] }, ty, pos, aft, none⟩ :: rest) L w := fun a ha => by
  subst hn hm
  obtain ⟨S, hc, hS, hK⟩ := hs.upd i hi
  obtain ⟨css0, hg, ho⟩ := hc.2
  obtain ⟨hr, hk⟩ := RdR.raw hr
  refine wpList_appG T rfl s x rfl (ha.eval hx0) ho (ha.eval hx) hr h1 hbytes hmax (Nat.zero_le _) fun A' c' w' ho' hgr hat => ?_
  refine h A' c' w' (hK w' (.rg k e A' c' (els ++ css.map rawEl)) (fun b => S b ∨ w.heap.size ≤ b) (Mod.of_gr hgr hc.1) ⟨fun a ha => at_in (at_new hat) hc.1 a ha, css0 ++ css, ?_, ?_⟩ fun _ _ h => h) _ (ha.put hd _)
  · have hg' : Grp k w (fun b => S b ∧ But A b) (css.map rawEl) css := grp_raw hk
    refine (hg.append hg').move hgr.size fun b hlt hb => ⟨⟨.inl hb.1, fun a' ha' => ?_⟩, hgr.block b hlt ?_⟩
    · subst ha'
      rcases hat with e | e
      · cases A with
        | none => simp at e
        | some a0 => simp only [Option.map_some, Option.some.injEq] at e; rw [e]; exact hb.2 a0 rfl
      · simp only [Option.map_some, Option.some.injEq] at e; omega
    · intro hk
      cases A with
      | none => simp at hk
      | some a0 => simp only [Option.map_some, Option.some.injEq] at hk; exact hb.2 a0 rfl hk
  · have : (els ++ css.map rawEl).length = els.length + css.length := by simp
    rw [this, List.flatten_append]; exact ho'
/-- append(s, x): an element that is known by its cells alone. -/
theorem ws_pushR {d1 d2 : Nat} {x : Operand} {s : Operand} {ty1 ty2 : TypeId} {p1 p2 : String} {f1 f2 : Array Edge} {A : Option Addr} {n c : Nat} {els : List El} (hs : St M w0 w H) (i : Nat) (hs1 : ∀ p, look ((d1, p) :: L) s = some (.slice A n c)) (hi : nthC H i = some (.rg k e A c els)) (T : RowK P t e k z bytes)
    (hn : els.length = n) (hx : ∃ v, look L x = some v ∧ v.cells = cs.toArray) (hl : cs.length = k) (h1 : cs.all (·.oneCell') = true) (hk : k ≤ 16777216)
    (hbytes : (n + 1) * bytes ≤ 140737488355328) (hmax : n + 1 ≤ maxLen) (hd1 : Nat.blt d1 N = true) (hd2 : Nat.blt d2 N = true)
    (h : ∀ p A' c' w', St M w0 w' (setC H i (.rg k e A' c' (els ++ [rawEl cs]))) → WL P N ops Q rest ((d2, .slice A' (n + 1) c') :: (d1, p) :: L) w') :
    WL P N ops Q (⟨some d1, .buildSlice t 1 #[(0, x)], ty1, p1, f1, none⟩ :: ⟨some d2, .call { callee := .builtin .append, args := #[s, .tmp d1], argTypes := #[t, t] }, ty2, p2, f2, none⟩ :: rest) L w := by
  obtain ⟨S, hc, hS, hK⟩ := hs.upd i hi
  refine wl_pushG (css' := [cs]) (els' := [rawEl cs]) (ps := [(0, x)]) T hs1 hc.2 hn ⟨rfl, hx, hl, trivial⟩ (grp_raw (css := [cs]) (by simpa using hl)) rfl (by simpa using h1) (by simpa using hk) (by decide) hbytes hmax (Nat.zero_le _) hd1 hd2 fun p A' c' w' hO hG hat => h p A' c' w' ?_
  exact hK w' (.rg k e A' c' (els ++ [rawEl cs])) (fun b => S b ∨ w.heap.size ≤ b) (Mod.of_gr hG hc.1) ⟨fun a ha => at_in hat hc.1 a ha, hO.mono (Nat.le_refl _) fun b _ h => .inl h⟩ fun _ _ h => h
/-- A beginning of a row. -/
theorem OwR.pre {w : World} {S : BS} {A : Option Addr} {base c m : Nat} {els : List El} (h : OwR k e w base S A c els) (hm : m ≤ els.length) : OwR k e w base S A c (els.take m) := by
  obtain ⟨css, hg, ho⟩ := h
  have hl : (els.take m).length = m := by simp; omega
  refine ⟨css.take m, hg.take m, ?_⟩
  rw [hl]
  refine ⟨by have := (hg.take m).len; rw [hl] at this; exact this, ?_⟩
  rcases ho.2 with ⟨hv, hn⟩ | ⟨g, cap, cur, hv, hg', h1, h2, h3, h4, h5⟩
  · injection hv with hA _ hc
    have : m = 0 := by omega
    subst this
    exact .inl ⟨by rw [hA, hc], rfl⟩
  · injection hv with hA _ hc
    subst hA hc
    refine .inr ⟨g, c, cur, rfl, hg', h1, by omega, h3, h4, ?_⟩
    rw [← flat_take m hg.ks, ← h5, List.take_take, Nat.min_eq_left (Nat.mul_le_mul_right _ hm)]
theorem St.pre {A : Option Addr} {c m : Nat} {els : List El} (hs : St M w0 w (.rg k e A c els :: H)) (hm : m ≤ els.length) : St M w0 w (.rg k e A c (els.take m) :: H) := by
  obtain ⟨T, hT, hc, hr⟩ := hs.2
  exact ⟨hs.1, T, hT, ⟨hc.1, hc.2.pre hm⟩, hr⟩
/-- append(s, x...): the elements of the one row, with the memory that is their own, go into the other. -/
theorem ws_appG2 {d : Nat} {s x : Operand} {ty : TypeId} {pos : String} {aft : Array Edge} {A : Option Addr} {n c : Nat} {els els' : List El} {B : Option Addr} {m c' : Nat} (hs : St M w0 w (.rg k e A c els :: .rg k e B c' els' :: H)) (hx0 : look L s = some (.slice A n c)) (T : RowK P t e k z bytes)
    (hn : els.length = n) (hx : look L x = some (.slice B m c')) (hm : els'.length = m) (h1 : ∀ css w S, Grp k w S els' css → ∀ u ∈ css.flatten, u.oneCell' = true)
    (hbytes : (n + m) * bytes ≤ 140737488355328) (hmax : n + m ≤ maxLen) (hd : Nat.blt d N = true)
    (h : ∀ A' c' w', St M w0 w' (.rg k e A' c' (els ++ els') :: H) → WL P N ops Q rest ((d, .slice A' (n + m) c') :: L) w') :
    WL P N ops Q (⟨some d, .call { callee := .builtin .append, args := #[s, x], argTypes := #[t, t] }, ty, pos, aft, none⟩ :: rest) L w := by
  obtain ⟨S, ⟨T1, hT1, hc1, T2, hT2, hc2, _⟩, hS, _, _, hB⟩ := St.lend (H1 := [.rg k e A c els, .rg k e B c' els']) (H2 := H) hs
  have hown : OwR k e w 0 S A c els := hc1.2.mono (Nat.le_refl _) fun b _ h => hT1 b h
  have hbut : ∀ b, b < w.heap.size → T2 b → But A b := fun b _ hb a ha hk => (hT2 b hb).2 (hk ▸ hc1.1 a ha)
  have hr : RdR k w (fun b => S b ∧ But A b) B els' := by
    obtain ⟨css, g1, g2⟩ := hc2.2
    exact ⟨css, g1.mono fun b hb h => ⟨(hT2 b h.1).1, hbut b hb h.1⟩, own_rd g2, fun a ha _ => ⟨(hT2 _ (hc2.1 a ha)).1, hbut _ (OwR.lt hc2.2 a ha).2 (hc2.1 a ha)⟩⟩
  have hA : ∀ a, A = some a → S a.block := fun a ha => hT1 _ (hc1.1 a ha)
  refine wl_appG T hx0 hown hn hx hr hm (fun css hg => h1 css _ _ hg) hbytes hmax (Nat.zero_le _) hd fun A' c2 w' hO hG hat => h A' c2 w' ?_
  exact hB w' [.rg k e A' c2 (els ++ els')] ⟨Mod.of_gr hG hA, Fr S w, fun b h => h, ⟨fun a ha => at_in (at_new hat) hA a ha, hO.mono (Nat.le_refl _) fun b _ h => .inl h⟩, trivial⟩
end
end Go.Proofs.Ytmdbjeabifkimaa


/-
  Walks over Insert, Sorted, few of lists of entries.
-/
namespace Go.Proofs.Ytmdbjeabifkimaa
open Go.RowKit

theorem enE_one {w : World} {S : Nat → Prop} {l : List En} {css : List (List Value)} (h : Grp 4 w S (l.map enEl) css) : ∀ u ∈ css.flatten, u.oneCell' = true := by
  intro u hu
  obtain ⟨cs, hcs, hu⟩ := List.mem_flatten.1 hu
  obtain ⟨i, hi, rfl⟩ := List.getElem_of_mem hcs
  obtain ⟨_, E, hE, hp⟩ := h.2 i _ (List.getElem?_eq_getElem hi)
  rw [List.getElem?_map] at hE
  cases hx : l[i]? with
  | none => rw [hx] at hE; cases hE
  | some x =>
    rw [hx] at hE; cases hE
    obtain ⟨A, c, B, d, h0, _⟩ := hp
    rw [h0] at hu
    simp [enV] at hu
    rcases hu with rfl | rfl | rfl | rfl <;> rfl
/-- Where an entry belongs, sought from the end on. -/
def posE (l : List En) (e : En) : Nat → Nat
  | 0 => 0
  | k + 1 => match l[k]? with
    | some x => if lessE e x then posE l e k else k + 1
    | none => k + 1
theorem posE_le (l : List En) (e : En) : ∀ k, posE l e k ≤ k
  | 0 => Nat.le_refl _
  | k + 1 => by
    rw [posE]
    have := posE_le l e k
    split
    · split <;> omega
    · omega
def insE (l : List En) (e : En) : List En := l.take (posE l e l.length) ++ [e] ++ l.drop (posE l e l.length)
theorem insE_length (l : List En) (e : En) : (insE l e).length = l.length + 1 := by
  have := posE_le l e l.length
  rw [insE]; simp; omega
theorem raw_cut {w : World} {S : BS} {A : Option Addr} {css : List (List Value)} {k c l h n : Nat} (hr : RdR k w S A (css.map rawEl)) (hn : css.length = n) (h1 : l ≤ h) (h2 : h ≤ n) (hc : n ≤ c) : RdR k w S (cutK A c l k) (((css.take h).drop l).map rawEl) := by
  have := RdR.cut hr (by simpa using hn) h1 h2 hc
  rwa [← List.map_take, ← List.map_drop] at this
theorem mem_flat_cut {css : List (List Value)} {l h : Nat} {p : Value → Prop} (hp : ∀ u ∈ css.flatten, p u) : ∀ u ∈ ((css.take h).drop l).flatten, p u := fun u hu => by
  obtain ⟨cs, hcs, hu⟩ := List.mem_flatten.1 hu
  exact hp u (List.mem_flatten.2 ⟨cs, List.mem_of_mem_take (List.mem_of_mem_drop hcs), hu⟩)
theorem slice_eq {A : Option Addr} {n m c : Nat} (h : n = m) : Value.slice A n c = Value.slice A m c := by rw [h]
end Go.Proofs.Ytmdbjeabifkimaa


/-
  The engine's rules for a region whose order Go leaves open and which stores at its end: up to the first store (number m, for which all others wait) operations that yield one value in every world of a class are taken first; from there on the class no longer counts. Nothing here names the program.
-/
namespace Go.Proofs.Ytmdbjeabifkimaa
open Go.RowKit

def AnyM (P : Program) (ops : Array Oper) (Q : Exit → Act → World → Prop) (S : World → Prop) (m : Nat) : Nat → Array Bool → Act → World → Prop
  | 0, listed, a, w => Region.ready .any ops listed = [] ∧ Q .normal a w
  | fuel + 1, listed, a, w =>
    (Region.ready .any ops listed = [] → Q .normal a w) ∧
    ∀ i ∈ Region.ready .any ops listed, wpOp P ops Q i (fun a' w' => ((listed.setIfInBounds i true).getD m false = false → S w') ∧ AnyM P ops Q S m fuel (listed.setIfInBounds i true) a' w') a w
section
variable {P : Program} {ops : Array Oper} {Q : Exit → Act → World → Prop} {S : World → Prop} {m : Nat}
theorem any_of_M : ∀ (fuel : Nat) (listed : Array Bool) (a : Act) (w : World), AnyM P ops Q S m fuel listed a w → wpAny P .any ops Q fuel listed a w
  | 0, _, _, _, h => h
  | fuel + 1, _, _, _, h => ⟨h.1, fun i hi => wpOp_mono (fun a' w' h' => any_of_M fuel _ a' w' h'.2) (h.2 i hi)⟩
theorem anyM_first {i : Nat} {oi om : Oper} {v : Value} (hi : ops[i]? = some oi) (hsel : ∀ (j : Nat) (o : Oper) cs b, ops[j]? = some o → o.op ≠ .select cs b)
    (hQ : ∀ c a w, Q (.panic c) (a.put oi.dst v) w → Q (.panic c) a w) (hm : ops[m]? = some om) (hmi : m ≠ i) (hwait : ∃ e ∈ om.after, Region.binds .any e = true ∧ e.on = i) :
    ∀ (fuel : Nat) (listed : Array Bool) (a : Act) (w : World),
      (∀ j oj, ops[j]? = some oj → j ≠ i → listed.getD j true = false → (∀ e ∈ oj.after, Region.binds .any e = true → e.on ≠ i) → oi.apart ops oj = true) →
      i ∈ Region.ready .any ops listed → YieldsIf P ops S oi v a → S w → listed.getD m false = false →
      AnyM P ops Q S m fuel (listed.setIfInBounds i true) (a.put oi.dst v) w → AnyM P ops Q S m (fuel + 1) listed a w := by
  have hset : ∀ (l : Array Bool) (j : Nat), m ≠ j → (l.setIfInBounds j true).getD m false = l.getD m false := fun l j h => getD_set_ne false (Ne.symm h)
  intro fuel
  induction fuel with
  | zero =>
    intro listed a w _ hr hy hS hlm H
    refine ⟨fun h => (by rw [h] at hr; cases hr), fun j hj => ?_⟩
    by_cases hji : j = i
    · subst hji; exact hy.wpOp hi hS ⟨fun _ => hS, H⟩
    · have := ready_mono hj hji
      rw [H.1] at this
      cases this
  | succ fuel ih =>
    intro listed a w hfree hr hy hS hlm H
    refine ⟨fun h => (by rw [h] at hr; cases hr), fun j hj => ?_⟩
    by_cases hji : j = i
    · subst hji; exact hy.wpOp hi hS ⟨fun _ => hS, H⟩
    · have h1 := H.2 j (ready_mono hj hji)
      obtain ⟨hjun, oj, hoj, hall⟩ := mem_ready.1 hj
      have hnot : ∀ e ∈ oj.after, Region.binds .any e = true → e.on ≠ i := fun e he hb heq => by
        have h1 := hall e he hb
        have h0 := (mem_ready.1 hr).1
        rw [heq] at h1
        rcases Nat.lt_or_ge i listed.size with h' | h'
        · simp [h'] at h0 h1; rw [h0] at h1; cases h1
        · simp [Array.getElem?_eq_none h'] at h1
      have hjm : m ≠ j := by
        rintro rfl
        rw [hm] at hoj; cases hoj
        obtain ⟨e, he, hb, hon⟩ := hwait
        exact hnot e he hb hon
      have h2 := wpOp_putIf hoj (hfree j oj hoj hji hjun hnot) (fun cs b => hsel i oi cs b hi) (fun cs b => hsel j oj cs b hoj) hQ hy h1
      have hfree' : ∀ k ok, ops[k]? = some ok → k ≠ i → (listed.setIfInBounds j true).getD k true = false →
          (∀ e ∈ ok.after, Region.binds .any e = true → e.on ≠ i) → oi.apart ops ok = true := fun k ok hk hki hun hno => by
        refine hfree k ok hk hki ?_ hno
        by_cases hjk : j = k
        · subst hjk; exact hjun
        · rw [getD_set_ne true hjk] at hun; exact hun
      have hl2 : (listed.setIfInBounds j true).getD m false = false := by rw [hset _ _ hjm]; exact hlm
      refine wpOp_mono (fun a' w' h3 => ?_) h2
      have hSw : S w' := h3.2.1 (by rw [hset _ _ hjm, hset _ _ hmi]; exact hlm)
      refine ⟨fun _ => hSw, ih (listed.setIfInBounds j true) a' w' hfree' (ready_mono hr (Ne.symm hji)) h3.1 hSw hl2 ?_⟩
      rw [Array.setIfInBounds_comm _ _ hji]
      exact h3.2.2
theorem anyM_firstP {i : Nat} {oi : Oper} {v : Value} (hi : ops[i]? = some oi) (hsel : ∀ (j : Nat) (o : Oper) cs b, ops[j]? = some o → o.op ≠ .select cs b)
    (hQ : ∀ c a w, Q (.panic c) (a.put oi.dst v) w → Q (.panic c) a w) (hmi : m ≠ i) :
    ∀ (fuel : Nat) (listed : Array Bool) (a : Act) (w : World),
      (∀ j oj, ops[j]? = some oj → j ≠ i → listed.getD j true = false → (∀ e ∈ oj.after, Region.binds .any e = true → e.on ≠ i) → oi.apart ops oj = true) →
      i ∈ Region.ready .any ops listed → YieldsIf P ops (fun _ => True) oi v a → (listed.getD m false = false → S w) →
      AnyM P ops Q S m fuel (listed.setIfInBounds i true) (a.put oi.dst v) w → AnyM P ops Q S m (fuel + 1) listed a w := by
  have hset : ∀ (l : Array Bool) (j : Nat), m ≠ j → (l.setIfInBounds j true).getD m false = l.getD m false := fun l j h => getD_set_ne false (Ne.symm h)
  intro fuel
  induction fuel with
  | zero =>
    intro listed a w _ hr hy hS H
    refine ⟨fun h => (by rw [h] at hr; cases hr), fun j hj => ?_⟩
    by_cases hji : j = i
    · subst hji; exact hy.wpOp hi trivial ⟨fun h => hS (by rw [← hset _ _ hmi]; exact h), H⟩
    · have := ready_mono hj hji
      rw [H.1] at this
      cases this
  | succ fuel ih =>
    intro listed a w hfree hr hy hS H
    refine ⟨fun h => (by rw [h] at hr; cases hr), fun j hj => ?_⟩
    by_cases hji : j = i
    · subst hji; exact hy.wpOp hi trivial ⟨fun h => hS (by rw [← hset _ _ hmi]; exact h), H⟩
    · have h1 := H.2 j (ready_mono hj hji)
      obtain ⟨hjun, oj, hoj, hall⟩ := mem_ready.1 hj
      have hnot : ∀ e ∈ oj.after, Region.binds .any e = true → e.on ≠ i := fun e he hb heq => by
        have h1 := hall e he hb
        have h0 := (mem_ready.1 hr).1
        rw [heq] at h1
        rcases Nat.lt_or_ge i listed.size with h' | h'
        · simp [h'] at h0 h1; rw [h0] at h1; cases h1
        · simp [Array.getElem?_eq_none h'] at h1
      have h2 := wpOp_putIf hoj (hfree j oj hoj hji hjun hnot) (fun cs b => hsel i oi cs b hi) (fun cs b => hsel j oj cs b hoj) hQ hy h1
      have hfree' : ∀ k ok, ops[k]? = some ok → k ≠ i → (listed.setIfInBounds j true).getD k true = false →
          (∀ e ∈ ok.after, Region.binds .any e = true → e.on ≠ i) → oi.apart ops ok = true := fun k ok hk hki hun hno => by
        refine hfree k ok hk hki ?_ hno
        by_cases hjk : j = k
        · subst hjk; exact hjun
        · rw [getD_set_ne true hjk] at hun; exact hun
      refine wpOp_mono (fun a' w' h3 => ?_) h2
      have hSw : (listed.setIfInBounds j true).getD m false = false → S w' := fun h => h3.2.1 (by rw [Array.setIfInBounds_comm _ _ (Ne.symm hji), hset _ _ hmi]; exact h)
      refine ⟨hSw, ih (listed.setIfInBounds j true) a' w' hfree' (ready_mono hr (Ne.symm hji)) h3.1 hSw ?_⟩
      rw [Array.setIfInBounds_comm _ _ hji]
      exact h3.2.2
end

def waits (ops : Array Oper) (m i : Nat) : Bool := match ops[m]? with
  | some o => o.after.toList.any fun e => Region.binds .any e && Nat.beq e.on i
  | none => false
def okM (ops : Array Oper) (listed : Array Bool) (m i : Nat) : Bool := okAt ops listed i && (waits ops m i && (!Nat.beq m i && !listed.getD m false))
def WM (P : Program) (N : Nat) (ops : Array Oper) (Q : Exit → Act → World → Prop) (S : World → Prop) (m fuel : Nat) (listed : Array Bool) (L : FL) (w : World) : Prop :=
  ∀ a, Has N a L → AnyM P ops (NoPanic Q) S m fuel listed a w
def HeldM (P : Program) (ops : Array Oper) (Q : Exit → Act → World → Prop) (S : World → Prop) (m fuel : Nat) (listed : Array Bool) : Exit → Act → World → Prop :=
  Exit.then (fun a w => (listed.getD m false = false → S w) ∧ AnyM P ops (NoPanic Q) S m fuel listed a w) (NoPanic Q)
section
variable {P : Program} {N : Nat} {ops : Array Oper} {Q : Exit → Act → World → Prop} {S : World → Prop} {m fuel : Nat} {listed : Array Bool} {L : FL} {w : World}
theorem wc_heldM (m : Nat) {id : Nat} {l : List Oper} (hm : P.follows .mixedOrders = true) (h : ∀ w1, Below w.heap.size w w1 → WM P N l.toArray Q (Below w.heap.size w) m l.length (Array.replicate l.length false) L w1) : WC P N (.region id l.toArray true) Q L w := fun a ha =>
  wp_region_noPanic (wp_region_any hm (any_of_M (S := Below w.heap.size w) (m := m) _ _ _ _ (by simpa using h _ ((Below.refl _ _).drew) a ha)))
theorem okM_of {i : Nat} (h : okM ops listed m i = true) : okAt ops listed i = true ∧ (∃ om, ops[m]? = some om ∧ ∃ e ∈ om.after, Region.binds .any e = true ∧ e.on = i) ∧ m ≠ i ∧ listed.getD m false = false := by
  simp only [okM, Bool.and_eq_true, Bool.not_eq_true'] at h
  obtain ⟨h1, h2, h3, h4⟩ := h
  refine ⟨h1, ?_, Nat.ne_of_beq_eq_false h3, h4⟩
  unfold waits at h2
  split at h2
  · rename_i o ho
    obtain ⟨e, he, hb⟩ := List.any_eq_true.1 h2
    rw [Bool.and_eq_true] at hb
    exact ⟨o, ho, e, by simpa using he, hb.1, Nat.eq_of_beq_eq_true hb.2⟩
  · cases h2
theorem wm_done (hr : Region.ready .any ops listed = []) (h : WE N Q .normal L w) : WM P N ops Q S m fuel listed L w := fun a ha => by
  have hq : NoPanic Q .normal a w := NoPanic.normal (h a ha)
  cases fuel with
  | zero => exact ⟨hr, hq⟩
  | succ fuel => exact ⟨fun _ => hq, by rw [hr]; simp⟩
theorem anyM_take {i : Nat} {o : Oper} {v : Value} {a : Act} (hi : ops[i]? = some o) (hk : okM ops listed m i = true) (hS : S w) (hy : YieldsIf P ops S o v a)
    (h : AnyM P ops (NoPanic Q) S m fuel (listed.setIfInBounds i true) (a.put o.dst v) w) : AnyM P ops (NoPanic Q) S m (fuel + 1) listed a w := by
  obtain ⟨h1, ⟨om, h2, h3⟩, h4, h5⟩ := okM_of hk
  obtain ⟨k1, k2, k3⟩ := okAt_of h1
  exact anyM_first hi (Region.noSelect_spec k1) (fun _ _ _ h => np h) h2 h4 h3 fuel listed a w (Region.free_spec hi k2) (by simpa using k3) hy hS h5 h
theorem wm_take (i : Nat) {d : Nat} {op : Op} {ty : TypeId} {pos : String} {aft : Array Edge} {v : Value} (hi : ops[i]? = some ⟨some d, op, ty, pos, aft, none⟩) (hv : ∀ w, S w → OpV P op ty L w v w) (hd : Nat.blt d N = true) (hk : okM ops listed m i = true) (hS : S w)
    (h : WM P N ops Q S m fuel (listed.setIfInBounds i true) ((d, v) :: L) w) : WM P N ops Q S m (fuel + 1) listed L w := fun a ha =>
  anyM_take hi hk hS (.inl ⟨by simp [Region.wanted], fun w hw => hv w hw a.eval _ (fun x u hx => ha.eval hx) rfl rfl⟩) (h _ (ha.put hd v))
theorem wm_takeG (i : Nat) {d j g : Nat} {b want : Bool} {op : Op} {ty : TypeId} {pos : String} {aft : Array Edge} {v : Value} (hi : ops[i]? = some ⟨some d, op, ty, pos, aft, some (j, want)⟩)
    (hj : (ops[j]?).bind (·.dst) = some g) (hb : lookT L g = some (.bool b)) (hg : Nat.blt g N = true) (he : b = want) (hv : ∀ w, S w → OpV P op ty L w v w) (hd : Nat.blt d N = true) (hk : okM ops listed m i = true) (hS : S w)
    (h : WM P N ops Q S m fuel (listed.setIfInBounds i true) ((d, v) :: L) w) : WM P N ops Q S m (fuel + 1) listed L w := fun a ha => by
  have hy := yielded_of ha hj hb hg
  exact anyM_take hi hk hS (.inl ⟨by simp [Region.wanted, hy, he], fun w hw => hv w hw a.eval _ (fun x u hx => ha.eval hx) rfl rfl⟩) (h _ (ha.put hd v))
theorem wm_skipG (i : Nat) {d j g : Nat} {b want : Bool} {op : Op} {ty : TypeId} {pos : String} {aft : Array Edge} (hi : ops[i]? = some ⟨some d, op, ty, pos, aft, some (j, want)⟩)
    (hj : (ops[j]?).bind (·.dst) = some g) (hb : lookT L g = some (.bool b)) (hg : Nat.blt g N = true) (he : b = !want) (hd : Nat.blt d N = true) (hk : okM ops listed m i = true) (hS : S w)
    (h : WM P N ops Q S m fuel (listed.setIfInBounds i true) ((d, undef) :: L) w) : WM P N ops Q S m (fuel + 1) listed L w := fun a ha => by
  have hy := yielded_of ha hj hb hg
  exact anyM_take hi hk hS (.inr ⟨by simp [Region.wanted, hy, he], rfl⟩) (h _ (ha.put hd undef))
theorem wm_skipU (i : Nat) {d j g : Nat} {want : Bool} {op : Op} {ty : TypeId} {pos : String} {aft : Array Edge} (hi : ops[i]? = some ⟨some d, op, ty, pos, aft, some (j, want)⟩)
    (hj : (ops[j]?).bind (·.dst) = some g) (hb : lookT L g = some undef) (hg : Nat.blt g N = true) (hd : Nat.blt d N = true) (hk : okM ops listed m i = true) (hS : S w)
    (h : WM P N ops Q S m fuel (listed.setIfInBounds i true) ((d, undef) :: L) w) : WM P N ops Q S m (fuel + 1) listed L w := fun a ha => by
  have hy := yielded_undef ha hj hb hg
  exact anyM_take hi hk hS (.inr ⟨by simp [Region.wanted, hy], rfl⟩) (h _ (ha.put hd undef))
/-- The same of an operation that does not look at the world. -/
theorem wm_takeP (i : Nat) {d : Nat} {op : Op} {ty : TypeId} {pos : String} {aft : Array Edge} {v : Value} (hi : ops[i]? = some ⟨some d, op, ty, pos, aft, none⟩) (hv : ∀ w, OpV P op ty L w v w) (hd : Nat.blt d N = true) (hk : (okAt ops listed i && !Nat.beq m i) = true) (hS : listed.getD m false = false → S w)
    (h : WM P N ops Q S m fuel (listed.setIfInBounds i true) ((d, v) :: L) w) : WM P N ops Q S m (fuel + 1) listed L w := fun a ha => by
  rw [Bool.and_eq_true, Bool.not_eq_true'] at hk
  obtain ⟨k1, k2, k3⟩ := okAt_of hk.1
  exact anyM_firstP hi (Region.noSelect_spec k1) (fun _ _ _ h => np h) (Nat.ne_of_beq_eq_false hk.2) fuel listed a w (Region.free_spec hi k2) (by simpa using k3) (.inl ⟨by simp [Region.wanted], fun w _ => hv w a.eval _ (fun x u hx => ha.eval hx) rfl rfl⟩) hS (h _ (ha.put hd v))
/-- One operation alone may come up. -/
theorem wm_one (i : Nat) {o : Oper} (hr : Region.ready .any ops listed = [i]) (hi : ops[i]? = some o)
    (h : WL P N ops (HeldM P ops Q S m fuel (listed.setIfInBounds i true)) [o] L w) : WM P N ops Q S m (fuel + 1) listed L w := fun a ha => by
  refine ⟨fun h0 => absurd (hr ▸ h0) (by simp), hr ▸ fun i' hi' => ?_⟩
  obtain rfl : i' = i := by simpa using hi'
  have h' := h a ha
  unfold wpOp
  simp only [hi]
  unfold wpList at h'
  split
  · rename_i hw
    rw [if_pos hw] at h'
    rcases h' with h' | ⟨ha, a0, w0, h'⟩
    · exact .inl (upon_mono (fun a w h => h) (fun e a w he h => by cases e <;> first | exact absurd rfl he | exact h) h')
    · exact .inr ⟨ha, a0, w0, h'⟩
  · rename_i hw
    rw [if_neg hw] at h'
    exact h'
/-- Two may come up. -/
theorem wm_two (i j : Nat) {o o' : Oper} (hr : Region.ready .any ops listed = [i, j]) (hi : ops[i]? = some o) (hj : ops[j]? = some o')
    (h : WL P N ops (HeldM P ops Q S m fuel (listed.setIfInBounds i true)) [o] L w) (h' : WL P N ops (HeldM P ops Q S m fuel (listed.setIfInBounds j true)) [o'] L w) : WM P N ops Q S m (fuel + 1) listed L w := fun a ha => by
  have key : ∀ {i : Nat} {o : Oper}, ops[i]? = some o → WL P N ops (HeldM P ops Q S m fuel (listed.setIfInBounds i true)) [o] L w → wpOp P ops (NoPanic Q) i (fun a' w' => ((listed.setIfInBounds i true).getD m false = false → S w') ∧ AnyM P ops (NoPanic Q) S m fuel (listed.setIfInBounds i true) a' w') a w := by
    intro i o hi h
    have h' := h a ha
    unfold wpOp
    simp only [hi]
    unfold wpList at h'
    split
    · rename_i hw
      rw [if_pos hw] at h'
      rcases h' with h' | ⟨ha, a0, w0, h'⟩
      · exact .inl (upon_mono (fun a w h => h) (fun e a w he h => by cases e <;> first | exact absurd rfl he | exact h) h')
      · exact .inr ⟨ha, a0, w0, h'⟩
    · rename_i hw
      rw [if_neg hw] at h'
      exact h'
  refine ⟨fun h0 => absurd (hr ▸ h0) (by simp), hr ▸ fun i' hi' => ?_⟩
  rw [List.mem_cons, List.mem_singleton] at hi'
  rcases hi' with rfl | rfl
  · exact key hi h
  · exact key hj h'
theorem we_heldM (hS : listed.getD m false = false → S w) (h : WM P N ops Q S m fuel listed L w) : WE N (HeldM P ops Q S m fuel listed) .normal L w := fun a ha => ⟨hS, h a ha⟩
end
end Go.Proofs.Ytmdbjeabifkimaa


/-
  The engine's rules for calls through an interface value, and for elements of rows that are known by their cells and are written in place. Nothing here names the program.
-/
namespace Go.Proofs.Ytmdbjeabifkimaa
open Go.RowKit

theorem bin_quoN {P : Program} {t : TypeId} {a b : Nat} (hb : 0 < b) (ha : a ≤ 9223372036854775807) : BinV P .quo t (.int .i64 (a : Int)) (.int .i64 (b : Int)) (.int .i64 ((a / b : Nat) : Int)) := bin_quo hb (IntWalk.i64_in _ (by have := Nat.div_le_self a b; generalize a / b = q at this ⊢; omega))
theorem bin_addN1 {P : Program} {t : TypeId} {a : Nat} (h : a + 1 ≤ 9223372036854775807) : BinV P .add t (.int .i64 (a : Int)) (.int .i64 1) (.int .i64 ((a + 1 : Nat) : Int)) := bin_addN (b := 1) h
theorem bin_mulN2 {P : Program} {t : TypeId} {a : Nat} (h : 2 * a ≤ 9223372036854775807) : BinV P .mul t (.int .i64 2) (.int .i64 (a : Int)) (.int .i64 ((2 * a : Nat) : Int)) := bin_mulN (a := 2) h
theorem bin_quoN2 {P : Program} {t : TypeId} {a : Nat} (h : a ≤ 9223372036854775807) : BinV P .quo t (.int .i64 (a : Int)) (.int .i64 2) (.int .i64 ((a / 2 : Nat) : Int)) := bin_quoN (b := 2) (by decide) h
/-- In this world an interface value's method is function f, with this receiver. -/
def MethV (P : Program) (w : World) (t : TypeId) (v : Value) (name : String) (f : FuncId) (r : Value) : Prop := (method (P.types.size + Made.depth) t v name).run P w = .ok (f, r) w
section
variable {P : Program} {N : Nat} {ops : Array Oper} {Q : Exit → Act → World → Prop} {rest : List Oper} {L : FL} {w : World}
theorem exec_inv {ρ : Operand → Value} {o : Oper} {x : Operand} {name : String} {xs : List Operand} {vs : List Value} {ats : Array TypeId} {t : TypeId} {v r : Value} {f : FuncId} (ho : o.op = .call { callee := .invoke x name, args := xs.toArray, argTypes := ats })
    (hc : CallOk P f) (hm : MethV P w t v name f r) (hρ : ∀ x u, look L x = some u → ρ x = u) (hr : look L x = some (.iface t v)) (hx : Looks L xs vs) : (execOp ρ o).run P w = .ok (.enter f (r :: vs).toArray) w := by
  have hf : ρ x = .iface t v := hρ _ _ hr
  have hmp := Looks.map hρ hx
  have h0 : (#[Value.iface t v] ++ Array.map ρ xs.toArray)[0]? = some (Value.iface t v) := by simp
  have h1 : (#[Value.iface t v] ++ Array.map ρ xs.toArray).extract 1 (#[Value.iface t v] ++ Array.map ρ xs.toArray).size = vs.toArray := by
    rw [← hmp]; simp; exact List.take_of_length_le (by simp)
  unfold execOp
  simp only [ho, resolve, hf, Sem.run_bind, Sem.run_pure, Result.andThen_ok, invoke, h0, h1, callMethod]
  have hm' : (method (P.types.size + Made.depth) t v name).run P w = .ok (f, r) w := hm
  simp only [show ∀ w, (program).run P w = .ok P w from fun _ => rfl, Result.andThen_ok, hm']
  have h2 : (#[r] ++ vs.toArray : Array Value) = (r :: vs).toArray := by simp
  rw [h2]
  exact hc _ _
theorem wl_inv {d : Nat} {x : Operand} {name : String} {xs : List Operand} {ats : Array TypeId} {ty : TypeId} {pos : String} {aft : Array Edge} {vs : List Value} {t : TypeId} {v r : Value} {f : FuncId} {R : Value → World → Prop}
    (hc : CallOk P f) (hm : MethV P w t v name f r) (hr : CallsV P f (r :: vs).toArray w R) (hx0 : look L x = some (.iface t v)) (hx : Looks L xs vs) (hd : Nat.blt d N = true)
    (h : ∀ v w', R v w' → WL P N ops Q rest ((d, v) :: L) w') :
    WL P N ops Q (⟨some d, .call { callee := .invoke x name, args := xs.toArray, argTypes := ats }, ty, pos, aft, none⟩ :: rest) L w := fun a ha =>
  wpList_plain rfl fun K hK => by
    unfold Oper.wp
    rw [exec_inv rfl hc hm (fun x u hx => ha.eval hx) hx0 hx]
    refine Calls.mono hr ?_
    rintro _ w' ⟨v, rfl, hv⟩
    exact hK _ _ (h v w' hv _ (ha.put hd v))
end

/-! #### Rows that are known by their cells, written in place -/
def setN : List Value → Nat → List Value → List Value
  | xs, _, [] => xs
  | xs, o, v :: r => setN (xs.set o v) (o + 1) r
theorem setN_right (x : List Value) : ∀ (vs r : List Value) (o : Nat), setN (x ++ r) (x.length + o) vs = x ++ setN r o vs
  | [], r, o => rfl
  | v :: vs, r, o => by
    rw [setN, setN, List.set_append_right _ _ (by omega), show x.length + o - x.length = o by omega, Nat.add_assoc, setN_right x vs]
theorem setN_left : ∀ (vs x r : List Value), x.length = vs.length → setN (x ++ r) 0 vs = vs ++ r
  | [], [], r, _ => rfl
  | v :: vs, a :: x, r, h => by
    have := setN_right [v] vs (x ++ r) 0
    rw [setN]
    simp only [List.cons_append, List.set_cons_zero, Nat.zero_add]
    simp only [List.cons_append, List.nil_append, List.length_singleton, Nat.add_zero] at this
    rw [this, setN_left vs x r (by simpa using h)]
theorem flat_setN {k : Nat} {cs' : List Value} (hk' : cs'.length = k) : ∀ {css : List (List Value)} {i : Nat}, (∀ cs ∈ css, cs.length = k) → i < css.length → setN css.flatten (i * k) cs' = (css.set i cs').flatten
  | [], i, _, h => by simp at h
  | x :: css, 0, hk, _ => by
    rw [List.flatten_cons, Nat.zero_mul, setN_left cs' x _ (by rw [hk x List.mem_cons_self, hk'])]; rfl
  | x :: css, i + 1, hk, h => by
    have hx := hk x List.mem_cons_self
    rw [List.flatten_cons, show (i + 1) * k = x.length + i * k by rw [hx, Nat.add_mul]; omega, setN_right, flat_setN hk' (fun cs hc => hk cs (List.mem_cons_of_mem _ hc)) (by simpa using h)]
    rfl
theorem flat_set1 {k : Nat} {cs : List Value} {u : Value} {j : Nat} : ∀ {css : List (List Value)} {i : Nat}, (∀ cs ∈ css, cs.length = k) → css[i]? = some cs → j < k → css.flatten.set (i * k + j) u = (css.set i (cs.set j u)).flatten
  | [], i, _, h, _ => by simp at h
  | x :: css, 0, hk, h, hj => by
    simp at h; subst h
    rw [List.flatten_cons, Nat.zero_mul, Nat.zero_add, List.set_append_left _ _ (by rw [hk x List.mem_cons_self]; exact hj)]; rfl
  | x :: css, i + 1, hk, h, hj => by
    have hx := hk x List.mem_cons_self
    rw [List.flatten_cons, List.set_append_right _ _ (by rw [hx, Nat.add_mul]; omega), show (i + 1) * k + j - x.length = i * k + j by rw [hx, Nat.add_mul]; omega, flat_set1 (fun cs hc => hk cs (List.mem_cons_of_mem _ hc)) (by simpa using h) hj]
    rfl
theorem own_storedN {base : Nat} {e : TypeId} {size g n cap : Nat} : ∀ (vs : List Value) (j : Nat) {w : World} {xs : List Value}, w.ownsRow base e size (.slice (some ⟨g, 0, none⟩) n cap) n xs →
    (w.setCells g j vs).ownsRow base e size (.slice (some ⟨g, 0, none⟩) n cap) n (setN xs j vs) ∧ w.grownBy (w.setCells g j vs) (some g)
  | [], j, w, xs, h => ⟨h, rfl, rfl, rfl, Nat.le_refl _, fun _ _ _ => rfl⟩
  | v :: vs, j, w, xs, h => by
    obtain ⟨h1, h2⟩ := h.stored j v
    obtain ⟨h3, h4⟩ := own_storedN vs (j + 1) h1
    exact ⟨h3, h2.trans h4⟩
section
variable {P : Program} {N : Nat} {ops : Array Oper} {Q : Exit → Act → World → Prop} {rest : List Oper} {L : FL} {w0 w : World} {M : BS} {H : List Cd} {t e : TypeId} {g : Nat} {cs cs' : List Value} {z : Value} {bytes k : Nat}
theorem OwR.raw_mk {S : BS} {A : Option Addr} {base c : Nat} {css : List (List Value)} (hk : ∀ cs ∈ css, cs.length = k) (h : w.ownsRow base e k (.slice A css.length c) css.length css.flatten) : OwR k e w base S A c (css.map rawEl) :=
  ⟨css, grp_raw hk, by rw [List.length_map]; exact h⟩
/-- A row of the call's own that is known by its cells, where it has elements, lies at the start of a block. -/
theorem OwR.form {S : BS} {A : Option Addr} {base c : Nat} {els : List El} (h : OwR k e w base S A c els) (hn : 0 < els.length) : ∃ g, A = some ⟨g, 0, none⟩ := by
  obtain ⟨css, _, h2⟩ := h
  rcases h2.2 with ⟨hv, h0⟩ | ⟨g, cap, cur, hv, _⟩
  · omega
  · injection hv with hA; exact ⟨g, hA⟩
/-- One cell of an element is written. -/
theorem ws_stR {x y : Operand} {ty : TypeId} {pos : String} {aft : Array Edge} {e1 : TypeId} {A : Option Addr} {c p j kk : Nat} {u : Value} {css : List (List Value)} (hs : St M w0 w H) (i : Nat) (hx : look L x = some (.pointer (some ⟨g, kk, none⟩))) (hi : nthC H i = some (.rg k e A c (css.map rawEl))) (hA : A = some ⟨g, 0, none⟩) (E : Cell1 P e1)
    (hkk : kk = p * k + j) (hcs : css[p]? = some cs) (hj : j < k) (hy : look L y = some u) (h1 : u.oneCell' = true)
    (h : ∀ w', St M w0 w' (setC H i (.rg k e A c ((css.set p (cs.set j u)).map rawEl))) → WL P N ops Q rest L w') :
    WL P N ops Q (⟨none, .store e1 x y, ty, pos, aft, none⟩ :: rest) L w := by
  subst hA hkk
  obtain ⟨T, hc, hT, hK⟩ := hs.upd i hi
  obtain ⟨ho, hk⟩ := OwR.raw hc.2
  have hp := (List.getElem?_eq_some_iff.1 hcs).1
  have hl : p * k + j < css.length * k := by
    have : (p + 1) * k ≤ css.length * k := Nat.mul_le_mul_right _ hp
    rw [Nat.add_mul] at this; omega
  have hcell := ho.cellAt (p * k + j) hl
  have hlt : p * k + j < css.flatten.length := by rw [ho.1]; exact hl
  rw [List.getElem?_eq_getElem hlt] at hcell
  have hst := ho.stored (p * k + j) u
  refine wl_unitN (opu_storeC E hx hy h1 hcell (ho.frozenAt _)) (h _ (hK _ _ T (Mod.of_gr (A := some ⟨g, 0, none⟩) hst.2 fun a ha => hc.1 a ha) ⟨hc.1, ?_⟩ fun _ _ h => .inl h))
  have hl2 : (css.set p (cs.set j u)).length = css.length := List.length_set
  refine OwR.raw_mk (fun cs' hcs' => ?_) (by rw [hl2, ← flat_set1 hk hcs hj]; exact hst.1)
  rcases List.mem_or_eq_of_mem_set hcs' with h | rfl
  · exact hk _ h
  · rw [List.length_set]; exact hk _ (List.mem_of_getElem? hcs)
/-- A whole element is written. -/
theorem ws_stRS {x y : Operand} {ty : TypeId} {pos : String} {aft : Array Edge} {A : Option Addr} {c p kk : Nat} {css : List (List Value)} (hs : St M w0 w H) (i : Nat) (hx : look L x = some (.pointer (some ⟨g, kk, none⟩))) (hi : nthC H i = some (.rg k e A c (css.map rawEl))) (hA : A = some ⟨g, 0, none⟩) (S : StT P e k)
    (hkk : kk = p * k) (hp : p < css.length) (hy : look L y = some (.agg cs'.toArray)) (hl : cs'.length = k) (h1 : cs'.all (·.oneCell') = true)
    (h : ∀ w', St M w0 w' (setC H i (.rg k e A c ((css.set p cs').map rawEl))) → WL P N ops Q rest L w') :
    WL P N ops Q (⟨none, .store e x y, ty, pos, aft, none⟩ :: rest) L w := by
  subst hA hkk
  obtain ⟨T, hc, hT, hK⟩ := hs.upd i hi
  obtain ⟨ho, hk⟩ := OwR.raw hc.2
  have hst := own_storedN cs' (p * k) ho
  have hth : w.there g (p * k) cs'.toArray.size := fun j hj => by
    have hj' : j < k := by simpa [hl] using hj
    have hlt : p * k + j < css.length * k := by
      have : (p + 1) * k ≤ css.length * k := Nat.mul_le_mul_right _ hp
      rw [Nat.add_mul] at this; omega
    have hcell := ho.cellAt (p * k + j) hlt
    rw [List.getElem?_eq_getElem (by rw [ho.1]; exact hlt)] at hcell
    exact ⟨by rw [hcell]; rfl, ho.frozenAt _⟩
  refine wl_unitN (w' := w.setCells g (p * k) cs') (fun ρ o hρ ho' _ => ?_) (h _ (hK _ _ T (Mod.of_gr (A := some ⟨g, 0, none⟩) hst.2 fun a ha => hc.1 a ha) ⟨hc.1, ?_⟩ fun _ _ h => .inl h))
  · have := run_storeVar_mid (P := P) w g (p * k) e cs'.toArray hth (by simpa [hl] using S.size) (by simpa [Array.all_eq_true_iff_forall_mem] using h1)
    simp [execOp, ho', Instr.storeAt, Instr.sureAddr, hρ x _ hx, hρ y _ hy, this]
  have hl2 : (css.set p cs').length = css.length := List.length_set
  refine OwR.raw_mk (fun cs2 hcs' => ?_) (by rw [hl2, ← flat_setN hl hk hp]; exact hst.1)
  rcases List.mem_or_eq_of_mem_set hcs' with h | rfl
  · exact hk _ h
  · exact hl
end
/-- What the table of a dynamic type says of a method. -/
def methRow (P : Program) (t : TypeId) (name : String) : Option (Bool × Option (FuncId × Bool)) := (P.info? t).bind fun ti => (ti.methods.find? (·.name == name)).map fun m => (m.path.isEmpty, m.func)
theorem methRow_get {P : Program} {t : TypeId} {name : String} {f : FuncId} {b : Bool} (h : methRow P t name = some (true, some (f, b))) : ∃ ti m, P.info? t = some ti ∧ ti.methods.find? (·.name == name) = some m ∧ m.path = #[] ∧ m.func = some (f, b) := by
  unfold methRow at h
  cases hi : P.info? t with
  | none => rw [hi] at h; cases h
  | some ti =>
    rw [hi] at h
    simp only [Option.bind_some] at h
    cases hm : ti.methods.find? (·.name == name) with
    | none => rw [hm] at h; cases h
    | some m =>
      rw [hm] at h
      simp only [Option.map_some, Option.some.injEq, Prod.mk.injEq] at h
      exact ⟨ti, m, rfl, hm, Array.isEmpty_iff.1 h.1, h.2⟩
/-- A method of the value itself, called by its pointer. -/
theorem methV_val {P : Program} {w : World} {t et : TypeId} {name : String} {f : FuncId} {a : Addr} {u : Value} (h : methRow P t name = some (true, some (f, false))) (ht : P.underlying t = some (.pointer et)) (E : Cell1 P et) (hc : w.cell? a = some u) : MethV P w t (.pointer (some a)) name f u := by
  obtain ⟨ti, m, hi, hm, hp, hf⟩ := methRow_get h
  have hl : (loadVar et a).run P w = .ok u w := by simp [loadVar, E.agg, hc]
  unfold MethV
  obtain ⟨k, hk⟩ : ∃ k, P.types.size + Made.depth = k + 1 := ⟨P.types.size + 99, rfl⟩
  rw [hk, method]
  have hT : (typeInfo t).run P w = .ok ti w := by simp [typeInfo, hi]
  simp only [Sem.run_bind, hT, Result.andThen_ok, hm, hp, hf, follow, Sem.run_pure, receiverAt, run_underlying ht, Place.get]
  have hw : ∀ nm : String, (Builtin.ssaWrapNilChk_ #[t] t #[.pointer (some a), strVal "", strVal nm]).run P w = .ok (.pointer (some a)) w := fun _ => rfl
  simp [asAddr, hl, hw]
theorem methV_ptr {P : Program} {w : World} {t et : TypeId} {name : String} {f : FuncId} {v : Value} (h : methRow P t name = some (true, some (f, true))) (ht : P.underlying t = some (.pointer et)) : MethV P w t v name f v := by
  obtain ⟨ti, m, hi, hm, hp, hf⟩ := methRow_get h
  unfold MethV
  obtain ⟨k, hk⟩ : ∃ k, P.types.size + Made.depth = k + 1 := ⟨P.types.size + 99, rfl⟩
  rw [hk, method]
  have hT : (typeInfo t).run P w = .ok ti w := by simp [typeInfo, hi]
  simp only [Sem.run_bind, hT, Result.andThen_ok, hm, hp, hf, follow, Sem.run_pure, receiverAt, run_underlying ht, Place.get]
end Go.Proofs.Ytmdbjeabifkimaa


/-
  Rows whose elements lie apart from one another; pieces told as one; bytes of one's own whose values are not known. Nothing here names the program.
-/
namespace Go.Proofs.Ytmdbjeabifkimaa
open Go.RowKit

/-- Pieces told as one. -/
def packC (H : List Cd) : Ck := ⟨fun w S => Sat w H S, fun h hz hm => h.move hz hm⟩
/-- Elements and their cells, piece by piece. -/
def zipCe : List El → List (List Value) → List Cd
  | E :: els, cs :: css => .ce E cs :: zipCe els css
  | _, _ => []
/-- A row of the call's own whose elements lie apart. -/
def rsC (k : Nat) (e : TypeId) (A : Option Addr) (c : Nat) (els : List El) : Ck := ⟨fun w S => ∃ css : List (List Value), css.length = els.length ∧ Sat w (.rg k e A c (css.map rawEl) :: zipCe els css) S, fun ⟨css, hl, h⟩ hz hm => ⟨css, hl, h.move hz hm⟩⟩
theorem zipCe_app : ∀ {els els' : List El} {css css' : List (List Value)}, css.length = els.length → zipCe (els ++ els') (css ++ css') = zipCe els css ++ zipCe els' css'
  | [], _, [], _, _ => rfl
  | E :: els, els', cs :: css, css', h => by
    show _ :: zipCe (els ++ els') (css ++ css') = _ :: (zipCe els css ++ zipCe els' css')
    rw [zipCe_app (by simpa using h)]
  | [], _, _ :: _, _, h => by simp at h
  | _ :: _, _, [], _, h => by simp at h
theorem zipCe_grp {k : Nat} {w : World} : ∀ {els : List El} {css : List (List Value)} {S : BS}, Sat w (zipCe els css) S → css.length = els.length → (∀ cs ∈ css, cs.length = k) → Grp k w S els css
  | [], [], S, _, _, _ => Grp.nil _ _ _
  | E :: els, cs :: css, S, ⟨T, hT, hc, hr⟩, h, hk => by
    have h1 := zipCe_grp hr (by simpa using h) fun cs hcs => hk cs (List.mem_cons_of_mem _ hcs)
    exact (Grp.one (El.mono hc fun b _ h => hT b h) (hk cs List.mem_cons_self)).append (h1.mono fun b _ h => h.1)
  | [], _ :: _, _, _, h, _ => by simp at h
  | _ :: _, [], _, _, h, _ => by simp at h
section
variable {w0 w : World} {M : BS} {H H1 H2 : List Cd} {k : Nat} {e : TypeId} {A : Option Addr} {c : Nat} {els : List El}
theorem St.pk (hs : St M w0 w (H1 ++ H)) : St M w0 w (.ck (packC H1) :: H) := hs.pack (.ck (packC H1)) fun _ _ h => h
theorem St.unpk (hs : St M w0 w (.ck (packC H1) :: H)) : St M w0 w (H1 ++ H) := hs.unpack fun _ h => h
theorem Sat.permL {w : World} {H H' : List Cd} (p : H.Perm H') : ∀ {S : BS}, Sat w H S → Sat w H' S := by
  induction p with
  | nil => intro S h; exact h
  | cons c _ ih => rintro S ⟨T, hT, hc, hr⟩; exact ⟨T, hT, hc, ih hr⟩
  | swap a b H => intro S h; exact h.front (i := 1) rfl
  | trans _ _ ih1 ih2 => intro S h; exact ih2 (ih1 h)
theorem Sat.mapC {w : World} {c c' : Cd} {H : List Cd} {S : BS} (h : Sat w (c :: H) S) (hc : ∀ T, c.P w T → c'.P w T) : Sat w (c' :: H) S := by
  obtain ⟨T, hT, h1, h2⟩ := h
  exact ⟨T, hT, hc T h1, h2⟩
theorem Sat.dropC {w : World} {c : Cd} {H : List Cd} {S : BS} (h : Sat w (c :: H) S) : Sat w H S := by
  obtain ⟨T, hT, h1, h2⟩ := h
  exact h2.mono fun _ _ h => h.1
theorem Sat.mem {w : World} {c : Cd} : ∀ {H : List Cd} {S : BS}, Sat w H S → c ∈ H → ∃ T : BS, (∀ b, T b → S b) ∧ c.P w T
  | d :: H, S, ⟨T, hT, hd, hr⟩, h => by
    rw [List.mem_cons] at h
    rcases h with rfl | h
    · exact ⟨T, hT, hd⟩
    · obtain ⟨U, hU, hc⟩ := Sat.mem hr h
      exact ⟨U, fun b k => (hU b k).1, hc⟩
theorem Sat.packR {w : World} {X Y : List Cd} {c : Ck} {S : BS} (h : Sat w (X ++ Y) S) (hc : ∀ T, Sat w Y T → c.P w T) : Sat w (X ++ [.ck c]) S := by
  obtain ⟨T, hT, h1, h2⟩ := h.append
  exact Sat.join hT h1 ⟨_, fun _ h => h, hc _ h2, trivial⟩
/-- Where the elements lie apart, the row is a row of elements too. -/
theorem rs_rg {T : BS} (h : (rsC k e A c els).P w T) : (Cd.rg k e A c els).P w T := by
  obtain ⟨css, hl, T1, hT1, h1, h2⟩ := h
  obtain ⟨ho, hk⟩ := OwR.raw h1.2
  refine ⟨fun a ha => hT1 _ (h1.1 a ha), css, (zipCe_grp h2 hl hk).mono fun b _ h => ⟨h.1, fun a ha hb => h.2 (by rw [hb]; exact h1.1 a ha)⟩, by rw [← hl]; exact ho⟩
theorem St.rs (hs : St M w0 w H) (i : Nat) (hi : nthC H i = some (.ck (rsC k e A c els))) : OwR k e w 0 All A c els := by
  obtain ⟨T, hc, _⟩ := hs.get i hi
  exact (rs_rg hc).2.mono (Nat.le_refl _) fun _ _ _ => trivial
theorem St.weak (hs : St M w0 w (.ck (rsC k e A c els) :: H)) : St M w0 w (.rg k e A c els :: H) := hs.map fun _ h => h.mapC fun _ h => rs_rg h
theorem St.nilS (hs : St M w0 w H) (k : Nat) (e : TypeId) : St M w0 w (.ck (rsC k e none 0 []) :: H) := (hs.nilG k e).pack (H1 := [.rg k e none 0 []]) _ fun _ _ h => ⟨[], rfl, h⟩
theorem St.unrs (hs : St M w0 w (.ck (rsC k e A c els) :: H)) : ∃ css : List (List Value), css.length = els.length ∧ St M w0 w ((.rg k e A c (css.map rawEl) :: zipCe els css) ++ H) := by
  obtain ⟨⟨css, hl⟩, h⟩ := hs.unpackE (α := { css : List (List Value) // css.length = els.length }) (H1 := fun css => .rg k e A c (css.1.map rawEl) :: zipCe els css.1) fun T ⟨css, hl, h⟩ => ⟨⟨css, hl⟩, h⟩
  exact ⟨css, hl, h⟩
/-- A beginning of the row. -/
theorem St.preS {m : Nat} (hs : St M w0 w (.ck (rsC k e A c els) :: H)) (hm : m ≤ els.length) : St M w0 w (.ck (rsC k e A c (els.take m)) :: H) := by
  obtain ⟨css, hl, h⟩ := hs.unrs
  have h2 := St.pre (m := m) h (by simp; omega)
  rw [← List.map_take] at h2
  have e1 : zipCe els css = zipCe (els.take m) (css.take m) ++ zipCe (els.drop m) (css.drop m) := by
    rw [← zipCe_app (by simp; omega), List.take_append_drop, List.take_append_drop]
  rw [e1] at h2
  refine h2.map fun S h => ?_
  have h3 : Sat w ((.rg k e A c ((css.take m).map rawEl) :: zipCe (els.take m) (css.take m)) ++ (zipCe (els.drop m) (css.drop m) ++ H)) S := by simpa using h
  obtain ⟨T, hT, h4, h5⟩ := h3.append
  obtain ⟨U, hU, _, h6⟩ := h5.append
  exact ⟨T, hT, ⟨css.take m, by simp; omega, h4⟩, h6.mono fun b _ h => h.1⟩
end
section
variable {P : Program} {N : Nat} {ops : Array Oper} {Q : Exit → Act → World → Prop} {rest : List Oper} {L : FL} {w0 w : World} {M : BS} {H : List Cd} {t e : TypeId} {cs : List Value} {z : Value} {bytes k : Nat}
/-- An element, with the memory that is its own, goes into such a row. -/
theorem ws_pushS {d1 d2 : Nat} {x : Operand} {E : El} {s : Operand} {ty1 ty2 : TypeId} {p1 p2 : String} {f1 f2 : Array Edge} {A : Option Addr} {n c : Nat} {els : List El} (hs : St M w0 w (.ck (rsC k e A c els) :: .ce E cs :: H)) (T : RowK P t e k z bytes)
    (hs1 : ∀ p, look ((d1, p) :: L) s = some (.slice A n c)) (hn : els.length = n) (hx : ∃ v, look L x = some v ∧ v.cells = cs.toArray) (hl : cs.length = k) (h1 : cs.all (·.oneCell') = true) (hk : k ≤ 16777216)
    (hbytes : (n + 1) * bytes ≤ 140737488355328) (hmax : n + 1 ≤ maxLen) (hd1 : Nat.blt d1 N = true) (hd2 : Nat.blt d2 N = true)
    (h : ∀ p A' c' w', St M w0 w' (.ck (rsC k e A' c' (els ++ [E])) :: H) → WL P N ops Q rest ((d2, .slice A' (n + 1) c') :: (d1, p) :: L) w') :
    WL P N ops Q (⟨some d1, .buildSlice t 1 #[(0, x)], ty1, p1, f1, none⟩ :: ⟨some d2, .call { callee := .builtin .append, args := #[s, .tmp d1], argTypes := #[t, t] }, ty2, p2, f2, none⟩ :: rest) L w := by
  obtain ⟨css, hcl, hs⟩ := hs.unrs
  refine ws_pushR (cs := cs) hs 0 hs1 rfl T (by simpa [hcl] using hn) hx hl h1 hk hbytes hmax hd1 hd2 fun p A' c' w' hs => h p A' c' w' (hs.map fun S h => ?_)
  have h2 : Sat w' ((.rg k e A' c' ((css ++ [cs]).map rawEl) :: (zipCe els css ++ [.ce E cs])) ++ H) S := by simpa [setC] using h
  obtain ⟨T, hT, h3, h4⟩ := h2.append
  exact ⟨T, hT, ⟨css ++ [cs], by simp [hcl], by rw [zipCe_app hcl]; exact h3⟩, h4⟩
/-- append(s, x...) of such rows. -/
theorem ws_appS2 {d : Nat} {s x : Operand} {ty : TypeId} {pos : String} {aft : Array Edge} {A : Option Addr} {n c : Nat} {els els' : List El} {B : Option Addr} {m c' : Nat} (hs : St M w0 w (.ck (rsC k e A c els) :: .ck (rsC k e B c' els') :: H)) (hx0 : look L s = some (.slice A n c)) (T : RowK P t e k z bytes)
    (hn : els.length = n) (hx : look L x = some (.slice B m c')) (hm : els'.length = m) (h1 : ∀ css w S, Sat w (zipCe els' css) S → css.length = els'.length → ∀ u ∈ css.flatten, u.oneCell' = true)
    (hbytes : (n + m) * bytes ≤ 140737488355328) (hmax : n + m ≤ maxLen) (hd : Nat.blt d N = true)
    (h : ∀ A' c' w', St M w0 w' (.ck (rsC k e A' c' (els ++ els')) :: H) → WL P N ops Q rest ((d, .slice A' (n + m) c') :: L) w') :
    WL P N ops Q (⟨some d, .call { callee := .builtin .append, args := #[s, x], argTypes := #[t, t] }, ty, pos, aft, none⟩ :: rest) L w := by
  obtain ⟨css2, hcl2, hs⟩ := (hs.front 1 rfl).unrs
  replace hs : St M w0 w (.ck (rsC k e A c els) :: ((.rg k e B c' (css2.map rawEl) :: zipCe els' css2) ++ H)) := hs.map fun S h => Sat.permL List.perm_middle (by simpa [delC] using h)
  obtain ⟨css, hcl, hs⟩ := hs.unrs
  replace hs : St M w0 w (.rg k e A c (css.map rawEl) :: .rg k e B c' (css2.map rawEl) :: (zipCe els css ++ (zipCe els' css2 ++ H))) := hs.map fun S h => by
    have h : Sat w (.rg k e A c (css.map rawEl) :: (zipCe els css ++ .rg k e B c' (css2.map rawEl) :: (zipCe els' css2 ++ H))) S := by simpa using h
    exact Sat.permL (List.Perm.cons _ List.perm_middle) h
  have hone : ∀ u ∈ css2.flatten, u.oneCell' = true := by
    obtain ⟨_, h0⟩ := hs
    obtain ⟨T, _, h2⟩ := h0.dropC.dropC.append
    obtain ⟨T2, _, h3, _⟩ := h2.2.append
    exact h1 css2 w T2 h3 hcl2
  refine ws_appR (css := css2) hs 0 hx0 rfl T (by simpa [hcl] using hn) hx (OwR.rd (hs.rg 1 rfl)) (by rw [hcl2]; exact hm) hone hbytes hmax hd fun A' c2 w' hs => h A' c2 w' (hs.map fun S h => ?_)
  have h2 : Sat w' (.rg k e A' c2 ((css ++ css2).map rawEl) :: .rg k e B c' (css2.map rawEl) :: (zipCe els css ++ (zipCe els' css2 ++ H))) S := by simpa [setC] using h
  have h3 : Sat w' ((.rg k e A' c2 ((css ++ css2).map rawEl) :: (zipCe els css ++ zipCe els' css2)) ++ H) S := by
    have := (h2.front (i := 1) rfl).dropC
    simpa [delC] using this
  obtain ⟨T, hT, h4, h5⟩ := h3.append
  exact ⟨T, hT, ⟨css ++ css2, by simp [hcl, hcl2], by rw [zipCe_app hcl]; exact h4⟩, h5⟩
end
end Go.Proofs.Ytmdbjeabifkimaa


/-
  Walks over twin and twins of the program.
-/
namespace Go.Proofs.Ytmdbjeabifkimaa
open Go.RowKit

/-- An entry whose lists lie in memory of their own. -/
def enOw (x : En) (A : Option Addr) (c : Nat) (B : Option Addr) (d : Nat) : List Cd := [.ow 5 A x.key.length c (bvs x.key), .ow 5 B x.val.length d (bvs x.val)]
/-- An entry and where its lists lie. -/
structure EnA where
  x : En
  A : Option Addr
  c : Nat
  B : Option Addr
  d : Nat
def eaV (a : EnA) : List Value := enV a.x a.A a.c a.B a.d
def enM (a : EnA) : List Cd := enOw a.x a.A a.c a.B a.d
/-- An entry's cells, its lists in memory of their own that lies apart. -/
def oE (x : En) : El := ⟨fun w S cs => ∃ A c B d, cs = enV x A c B d ∧ Sat w (enOw x A c B d) S, fun ⟨A, c, B, d, h, h2⟩ hz hm => ⟨A, c, B, d, h, h2.move hz hm⟩⟩
def RetE2 (w : World) (x : En) (v : Value) (w' : World) : Prop := ∃ (A : Option Addr) (c : Nat) (B : Option Addr) (d : Nat), v = .agg (enV x A c B d).toArray ∧ St NoB w w' (enOw x A c B d)
theorem ow_cap {w : World} {A : Option Addr} {n c base : Nat} {e : TypeId} {xs : List Value} (h : Ow w base e A n c xs) : n ≤ c := by
  rcases h.2 with ⟨hv, hn⟩ | ⟨g, cap, cur, hv, _, _, hnc, _⟩
  · omega
  · injection hv with _ _ hc; omega
theorem byEl_of {w : World} {S : BS} {A : Option Addr} {c : Nat} {xs : List UInt8} (h : (Cd.ow 5 A xs.length c (bvs xs)).P w S) : (byEl xs).P w S [.slice A xs.length c] := ⟨A, c, rfl, ow_cap h.2, h.2.rd, fun a ha _ => h.1 a ha⟩
theorem enEl_of {x : En} {A B : Option Addr} {c d : Nat} (w : World) (S : BS) (h : Sat w (enOw x A c B d) S) : (Cd.ce (enEl x) (enV x A c B d)).P w S := by
  obtain ⟨T, hT, h1, U, hU, h2, _⟩ := h
  exact enEl.mk (El.mono (byEl_of h1) fun b _ h => hT b h) (El.mono (byEl_of h2) fun b _ h => (hU b h).1)
theorem oE_en {x : En} {w : World} {S : BS} {cs : List Value} (h : (oE x).P w S cs) : (enEl x).P w S cs := by
  obtain ⟨A, c, B, d, rfl, h⟩ := h
  exact enEl_of w S h
theorem oE_of {x : En} {A B : Option Addr} {c d : Nat} (w : World) (S : BS) (h : Sat w (enOw x A c B d) S) : (Cd.ce (oE x) (enV x A c B d)).P w S := ⟨A, c, B, d, rfl, h⟩
theorem grp_en {k : Nat} {w : World} {S : BS} {l : List En} {css : List (List Value)} (h : Grp k w S (l.map oE) css) : Grp k w S (l.map enEl) css := ⟨by rw [h.1]; simp, fun i cs hi => by
  obtain ⟨h1, E, h2, h3⟩ := h.2 i cs hi
  refine ⟨h1, ?_⟩
  rw [List.getElem?_map] at h2 ⊢
  cases hx : l[i]? with
  | none => rw [hx] at h2; cases h2
  | some x => rw [hx] at h2; cases h2; exact ⟨_, rfl, oE_en h3⟩⟩
theorem owr_en {k base c : Nat} {e : TypeId} {w : World} {S : BS} {A : Option Addr} {l : List En} (h : OwR k e w base S A c (l.map oE)) : OwR k e w base S A c (l.map enEl) := by
  obtain ⟨css, h1, h2⟩ := h
  exact ⟨css, grp_en h1, by simpa using h2⟩
/-- Rows of entries that lie apart, read. -/
theorem St.rsE {M : BS} {w0 w : World} {H : List Cd} {e : TypeId} {A : Option Addr} {c : Nat} {l : List En} (hs : St M w0 w H) (i : Nat) (hi : nthC H i = some (.ck (rsC 4 e A c (l.map oE)))) : OwR 4 e w 0 All A c (l.map enEl) := owr_en (hs.rs i hi)
theorem St.weakE {M : BS} {w0 w : World} {H : List Cd} {e : TypeId} {A : Option Addr} {c : Nat} {l : List En} (hs : St M w0 w (.ck (rsC 4 e A c (l.map oE)) :: H)) : St M w0 w (.rg 4 e A c (l.map enEl) :: H) := hs.map fun _ h => h.mapC fun _ h => ⟨(rs_rg h).1, owr_en (rs_rg h).2⟩
/-- A row of entries that lie apart, its entries told one by one. -/
theorem rs_es {e : TypeId} {A : Option Addr} {c : Nat} {l : List En} {w : World} {T : BS} (h : (rsC 4 e A c (l.map oE)).P w T) : ∃ es : List EnA, es.map (·.x) = l ∧ Sat w (.rg 4 e A c (es.map fun a => rawEl (eaV a)) :: es.flatMap enM) T := by
  obtain ⟨css, hl, U, hU, h1, h2⟩ := h
  have key : ∀ (l : List En) (css : List (List Value)) (S : BS), css.length = l.length → Sat w (zipCe (l.map oE) css) S → ∃ es : List EnA, es.map (·.x) = l ∧ es.map eaV = css ∧ Sat w (es.flatMap enM) S := by
    intro l
    induction l with
    | nil => intro css S h _; exact ⟨[], rfl, (List.eq_nil_of_length_eq_zero h).symm, trivial⟩
    | cons x l ih =>
      intro css S h hs
      cases css with
      | nil => simp at h
      | cons cs css =>
        obtain ⟨T, hT, ⟨A, c, B, d, hcs, he⟩, hr⟩ := hs
        obtain ⟨es, e1, e2, e3⟩ := ih css _ (by simpa using h) hr
        exact ⟨⟨x, A, c, B, d⟩ :: es, by simp [e1], by simp [e2, hcs, eaV], Sat.join hT he e3⟩
  obtain ⟨es, e1, e2, e3⟩ := key l css _ (by simpa using hl) h2
  refine ⟨es, e1, U, hU, ?_, e3⟩
  rw [show (es.map fun a => rawEl (eaV a)) = (es.map eaV).map rawEl by simp, e2]
  exact h1
theorem zip_one {l : List En} {css : List (List Value)} {w : World} {S : BS} (h : Sat w (zipCe (l.map oE) css) S) (hl : css.length = (l.map oE).length) : ∀ u ∈ css.flatten, u.oneCell' = true := by
  refine enE_one (w := w) (S := S) (grp_en (k := 4) (zipCe_grp h hl fun cs hcs => ?_))
  have key : ∀ (l : List En) (css : List (List Value)) (S : BS), css.length = l.length → Sat w (zipCe (l.map oE) css) S → ∀ cs ∈ css, cs.length = 4 := by
    intro l
    induction l with
    | nil => intro css S h _; have := List.eq_nil_of_length_eq_zero h; subst this; simp
    | cons x l ih =>
      intro css S h hs
      cases css with
      | nil => simp at h
      | cons cs css =>
        obtain ⟨T, hT, ⟨A, c, B, d, hcs, he⟩, hr⟩ := hs
        intro cs' h'
        rcases List.mem_cons.1 h' with rfl | h'
        · rw [hcs]; rfl
        · exact ih css _ (by simpa using h) hr cs' h'
  exact key l css S (by simpa using hl) h cs hcs
end Go.Proofs.Ytmdbjeabifkimaa


/-
  Walks over few, at, runs, Sorted of lists of entries.
-/
namespace Go.Proofs.Ytmdbjeabifkimaa
open Go.RowKit

theorem natc_succ {k : Nat} : (k : Int) + 1 = ((k + 1 : Nat) : Int) := by omega
theorem cutK_zero (A : Option Addr) (c k : Nat) : cutK A c 0 k = A := by
  unfold cutK
  split
  · rfl
  · cases A with
    | none => rfl
    | some a => simp [Addr.add]
theorem take_rdr {w : World} {S : BS} {A : Option Addr} {l : List En} {c m : Nat} (h : RdR 4 w S A (l.map enEl)) (hc : l.length ≤ c) : RdR 4 w S A ((l.take m).map enEl) := by
  rcases Nat.lt_or_ge m l.length with h1 | h1
  · have := RdR.cut h (by simp) (Nat.zero_le m) (Nat.le_of_lt h1) hc
    rw [cutK_zero, List.drop_zero, ← List.map_take] at this
    exact this
  · rw [List.take_of_length_le h1]; exact h
/-- The first that isn't above a moment. -/
def atE (run : List En) (m : Nat) : Option Nat := run.findIdx? fun x => decide (x.seq ≤ m)
def atV (o : Option Nat) : Int := match o with | some i => (i : Int) | none => -1
theorem findIdx_at {α : Type} {p : α → Bool} {l : List α} {k : Nat} {x : α} (h : l[k]? = some x) (hn : ∀ i y, i < k → l[i]? = some y → p y = false) (hp : p x = true) : l.findIdx? p = some k := by
  rw [List.findIdx?_eq_some_iff_getElem]
  obtain ⟨hk, rfl⟩ := List.getElem?_eq_some_iff.1 h
  exact ⟨hk, hp, fun j hj => by simp [hn j l[j] hj (List.getElem?_eq_getElem (by omega))]⟩
/-- The runs of one key, cut out of a list: where they begin. -/
def runsF : List En → List En → List (List En)
  | [], _ => []
  | [x], acc => [acc ++ [x]]
  | x :: y :: l, acc => if x.key = y.key then runsF (y :: l) (acc ++ [x]) else (acc ++ [x]) :: runsF (y :: l) []
def runsE (l : List En) : List (List En) := runsF l []
end Go.Proofs.Ytmdbjeabifkimaa


/-
  Walks over Sorted, and over the checks of many lists, of the program and of the document.
-/
namespace Go.Proofs.Ytmdbjeabifkimaa
open Go.RowKit

/-- Blocks of a set, or new ones. -/
def Ab (S : BS) (w : World) : BS := fun b => S b ∨ w.heap.size ≤ b
def RetL (w : World) (S : BS) (l : List En) (v : Value) (w' : World) : Prop := ∃ (P : Option Addr) (cp : Nat), v = .slice P l.length cp ∧ l.length ≤ cp ∧ RdR 4 w' (Ab S w) P (l.map enEl) ∧ Below w.heap.size w w'
theorem RdR.below' {k : Nat} {w w' : World} {S : BS} {A : Option Addr} {els : List El} (h : RdR k w S A els) (hb : Below w.heap.size w w') : RdR k w' S A els := RdR.below h hb
theorem RdR.mono {k : Nat} (hk : 0 < k) {w : World} {S S' : BS} {A : Option Addr} {els : List El} (h : RdR k w S A els) (hs : ∀ b, b < w.heap.size → S b → S' b) : RdR k w S' A els := RdR.move hk h (Nat.le_refl _) fun b hb h => ⟨hs b hb h, rfl⟩
theorem OwR.ab {k base c : Nat} {e : TypeId} {w w0 : World} {S : BS} {A : Option Addr} {els : List El} (h : OwR k e w base S A c els) (hb : w0.heap.size ≤ base) : RdR k w (Ab S w0) A els := by
  have hl := OwR.lt h
  obtain ⟨css, h1, h2⟩ := h
  exact ⟨css, h1.mono fun b _ hb => .inl hb.1, own_rd h2, fun a ha _ => .inr (Nat.le_trans hb (hl a ha).1)⟩
def addE (out : List En) (x : En) : List En := if checkE [x] = 0 ∧ inE out x = false then insE out x else out
def sortedE (l : List En) : List En := l.foldl addE []
theorem addE_len (out : List En) (x : En) : (addE out x).length ≤ out.length + 1 := by
  unfold addE; split
  · rw [insE_length]; omega
  · omega
theorem addE_ok {p : En → Prop} {out : List En} {x : En} (h : ∀ y ∈ out, p y) (hx : p x) : ∀ y ∈ addE out x, p y := by
  unfold addE; split
  · intro y hy
    rw [insE, List.mem_append, List.mem_append] at hy
    rcases hy with (hy | hy) | hy
    · exact h y (List.mem_of_mem_take hy)
    · simp at hy; subst hy; exact hx
    · exact h y (List.mem_of_mem_drop hy)
  · exact h
theorem foldl_take {α β : Type} {f : β → α → β} {b : β} {l : List α} {k : Nat} {x : α} (h : l[k]? = some x) : (l.take (k + 1)).foldl f b = f ((l.take k).foldl f b) x := by
  rw [take_getR h, List.foldl_append]; rfl
theorem fold_facts {p : En → Prop} {l : List En} (h : ∀ y ∈ l, p y) : ∀ k, ((l.take k).foldl addE []).length ≤ k ∧ ∀ y ∈ (l.take k).foldl addE [], p y := by
  intro k
  induction k with
  | zero => simp
  | succ k ih =>
    cases hx : l[k]? with
    | none => rw [List.take_of_length_le (by have := List.getElem?_eq_none_iff.1 hx; omega)]; rw [List.take_of_length_le (by have := List.getElem?_eq_none_iff.1 hx; omega)] at ih; exact ⟨by omega, ih.2⟩
    | some x =>
      rw [foldl_take hx]
      exact ⟨by have := addE_len ((l.take k).foldl addE []) x; omega, addE_ok ih.2 (h x (List.mem_of_getElem? hx))⟩
theorem ext_len {l l' : List En} (h : l = l') : l.length = l'.length := by rw [h]
end Go.Proofs.Ytmdbjeabifkimaa


/-
  Walks over the checks of many lists, of the program and of the document.
-/
namespace Go.Proofs.Ytmdbjeabifkimaa
open Go.RowKit

abbrev rowsE (lists : List (List En)) : List El := lists.map fun l => rowEl 4 (l.map enEl)
theorem rowsE_at {w : World} {S : BS} {A : Option Addr} {lists : List (List En)} {k : Nat} {l : List En} (hr : RdR 1 w S A (rowsE lists)) (hx : lists[k]? = some l) :
    ∃ b o X cx, A = some ⟨b, o, none⟩ ∧ l.length ≤ cx ∧ RdR 4 w S X (l.map enEl) ∧ Wi w b (o + k * 1) [.slice X l.length cx] := by
  obtain ⟨b, o, cs, hA, _, _, hp, hi⟩ := RdR.at (k := 1) (by decide) hr (E := rowEl 4 (l.map enEl)) (i := k) (by rw [List.getElem?_map, hx]; rfl)
  obtain ⟨X, cx, rfl, hc, h, _⟩ := hp
  rw [List.length_map] at hc hi
  exact ⟨b, o, X, cx, hA, hc, h, hi⟩
def errE (l : List En) : Nat := if checkE l = 0 ∧ ordE l = false then 3 else checkE l
def stepW (worst : Nat) (l : List En) : Nat := if errE l ≠ 0 ∧ (worst = 0 ∨ errE l < worst) then errE l else worst
def worstE (lists : List (List En)) : Nat := lists.foldl stepW 0
theorem checkE_le (l : List En) : checkE l = 0 ∨ checkE l = 2 ∨ checkE l = 3 := by
  unfold checkE; split
  · exact .inr (.inl rfl)
  · split
    · exact .inr (.inr rfl)
    · exact .inl rfl
theorem stepW_le {worst : Nat} {l : List En} (h : worst ≤ 3) : stepW worst l ≤ 3 := by
  have := checkE_le l
  have he : errE l ≤ 3 := by unfold errE; split <;> omega
  unfold stepW
  split
  · exact he
  · exact h
theorem foldW_le {lists : List (List En)} : ∀ {w : Nat}, w ≤ 3 → lists.foldl stepW w ≤ 3 := by
  induction lists with
  | nil => intro w h; exact h
  | cons l lists ih => intro w h; exact ih (stepW_le h)
theorem worstE_take {lists : List (List En)} {k : Nat} {l : List En} (h : lists[k]? = some l) : worstE (lists.take (k + 1)) = stepW (worstE (lists.take k)) l := by
  rw [worstE, worstE, take_getR h, List.foldl_append]; rfl
/-- The first so many neighbours stand in order. -/
def okTo (l : List En) (j : Nat) : Bool := (List.range j).all fun i => match l[i]?, l[i + 1]? with | some x, some y => lessE x y | _, _ => true
theorem okTo_succ {l : List En} {j : Nat} {x y : En} (hx : l[j]? = some x) (hy : l[j + 1]? = some y) : okTo l (j + 1) = (okTo l j && lessE x y) := by
  unfold okTo; rw [List.range_succ, List.all_append]; simp [hx, hy]
theorem okTo_all {l : List En} {j : Nat} (hj : l.length ≤ j + 1) : okTo l j = ordE l := by
  rw [Bool.eq_iff_iff, ordE_iff]
  unfold okTo
  rw [List.all_eq_true]
  constructor
  · intro h i x y hx hy
    have := h i (List.mem_range.2 (by have := (List.getElem?_eq_some_iff.1 hy).1; omega))
    simpa [hx, hy] using this
  · intro h i _
    split
    · rename_i x y hx hy; exact h i x y hx hy
    · rfl
def wv (w1 : Nat) (b : Bool) : Nat := if w1 = 0 ∧ b = false then 3 else w1
theorem wv_step {worst : Nat} {l : List En} (h : worst ≤ 3) : wv (if checkE l ≠ 0 ∧ (worst = 0 ∨ checkE l < worst) then checkE l else worst) (ordE l) = stepW worst l := by
  unfold wv stepW errE
  rcases checkE_le l with h0 | h0 | h0 <;> rw [h0] <;> cases ordE l <;> simp <;> split <;> (try split) <;> (try split) <;> omega
end Go.Proofs.Ytmdbjeabifkimaa


/-
  Walks over Visible, of the program and of the document.
-/
namespace Go.Proofs.Ytmdbjeabifkimaa
open Go.RowKit

theorem Mod.rebase {M : BS} {w0 w1 w : World} (hb : Below w0.heap.size w0 w1) (h : Mod M w1 w) (hM : ∀ b, M b → w0.heap.size ≤ b) : Mod NoB w0 w := (Mod.of_below hb NoB).trans h fun b hb h => by have := hM b h; omega
/-- What began later. -/
theorem St.rebase {w0 w1 w : World} {H : List Cd} (hs : St NoB w1 w H) (hb : Below w0.heap.size w0 w1) : St NoB w0 w H :=
  ⟨Mod.rebase hb hs.1 fun b h => h.elim, hs.2.mono fun b _ h => h.elim (fun k => k.elim) fun k => .inr (Nat.le_trans hb.size k)⟩
def visR (m : Nat) (run : List En) : Option En := (atE run m).bind fun i => (run[i]?).filter fun x => decide (x.kind = 1)
def visE (l : List En) (m : Nat) : List En := (runsE l).filterMap (visR m)
theorem runsF_len : ∀ (l acc : List En), (runsF l acc).length ≤ l.length ∧ ∀ r ∈ runsF l acc, r ≠ [] ∧ (∀ x ∈ r, x ∈ acc ∨ x ∈ l) ∧ r.length ≤ acc.length + l.length
  | [], acc => by simp [runsF]
  | [x], acc => by simp [runsF]
  | x :: y :: l, acc => by
    rw [runsF]
    split
    · obtain ⟨h1, h2⟩ := runsF_len (y :: l) (acc ++ [x])
      refine ⟨by simp at h1 ⊢; omega, fun r hr => ?_⟩
      obtain ⟨h3, h4, h5⟩ := h2 r hr
      refine ⟨h3, fun z hz => ?_, by simp at h5 ⊢; omega⟩
      rcases h4 z hz with h | h
      · rw [List.mem_append] at h
        rcases h with h | h
        · exact .inl h
        · simp at h; subst h; simp
      · exact .inr (List.mem_cons_of_mem _ h)
    · obtain ⟨h1, h2⟩ := runsF_len (y :: l) []
      refine ⟨by simp at h1 ⊢; omega, fun r hr => ?_⟩
      rw [List.mem_cons] at hr
      rcases hr with rfl | hr
      · refine ⟨by simp, fun z hz => ?_, by simp⟩
        rw [List.mem_append] at hz
        rcases hz with h | h
        · exact .inl h
        · simp at h; subst h; simp
      · obtain ⟨h3, h4, h5⟩ := h2 r hr
        refine ⟨h3, fun z hz => ?_, by simp at h5 ⊢; omega⟩
        rcases h4 z hz with h | h
        · simp at h
        · exact .inr (List.mem_cons_of_mem _ h)
theorem runsE_facts (l : List En) : (runsE l).length ≤ l.length ∧ ∀ r ∈ runsE l, r ≠ [] ∧ (∀ x ∈ r, x ∈ l) ∧ r.length ≤ l.length := by
  obtain ⟨h1, h2⟩ := runsF_len l []
  refine ⟨h1, fun r hr => ?_⟩
  obtain ⟨h3, h4, h5⟩ := h2 r hr
  exact ⟨h3, fun x hx => (h4 x hx).resolve_left (by simp), by simpa using h5⟩
theorem filterMap_take {α β : Type} {f : α → Option β} {l : List α} {k : Nat} {x : α} (h : l[k]? = some x) : (l.take (k + 1)).filterMap f = (l.take k).filterMap f ++ (f x).toList := by
  rw [take_getR h, List.filterMap_append]; cases hf : f x <;> simp [List.filterMap_cons, hf]
theorem filterMap_len {α β : Type} (f : α → Option β) (l : List α) : (l.filterMap f).length ≤ l.length := List.length_filterMap_le f l
def visP (l : List En) (m : Nat) (x : En) : Bool := match getE l x.key m with | some v => decide (v.seq = x.seq ∧ v.kind = 1) | none => false
def refVis (l : List En) (m : Nat) : List En := l.filter (visP l m)
theorem filter_take {α : Type} {p : α → Bool} {l : List α} {k : Nat} {x : α} (h : l[k]? = some x) : (l.take (k + 1)).filter p = (l.take k).filter p ++ (if p x then [x] else []) := by
  rw [take_getR h, List.filter_append]; cases hp : p x <;> simp [List.filter_cons, hp]
end Go.Proofs.Ytmdbjeabifkimaa


/-
  Walks over needed and Keep of the program.
-/
namespace Go.Proofs.Ytmdbjeabifkimaa
open Go.RowKit

theorem tyBo : Row1 Try.prog 121 4 (.bool false) 1 := ⟨Try.underlying121, by kernel_rfl, rfl, by rw [Try.underlying4]⟩
def u64s (ms : List Nat) : List Value := ms.map fun (m : Nat) => .int .u64 (m : Int)
theorem u64s_get {ms : List Nat} {k m : Nat} (h : ms[k]? = some m) : (u64s ms)[k]? = some (.int .u64 (m : Int)) := by simp [u64s, h]
/-- Whether place i of a run is needed. -/
def ndP (run : List En) (ms : List Nat) (i : Nat) : Bool := decide (i = 0) || ms.any fun m => decide (atE run m = some i)
def pick (run : List En) (ms : List Nat) (i : Nat) : Option En := if ndP run ms i then run[i]? else none
def needE (run : List En) (ms : List Nat) : List En := (List.range run.length).filterMap (pick run ms)
def ndV (run : List En) (ms : List Nat) : List Value := (List.range run.length).map fun i => .bool (ndP run ms i)
theorem ndV_get {run : List En} {ms : List Nat} {i : Nat} (h : i < run.length) : (ndV run ms)[i]? = some (.bool (ndP run ms i)) := by simp [ndV, h]
theorem ndV_len (run : List En) (ms : List Nat) : (ndV run ms).length = run.length := by simp [ndV]
theorem ndV_nil {run : List En} (h : 0 < run.length) : (List.replicate run.length (Value.bool false)).set 0 (.bool true) = ndV run [] := by
  apply List.ext_getElem?
  intro i
  rw [List.getElem?_set, List.getElem?_replicate]
  by_cases h1 : i < run.length
  · rw [ndV_get h1, ndP]
    cases i with
    | zero => simp [h]
    | succ i => simp [h1]
  · rw [List.getElem?_eq_none (by rw [ndV_len]; omega), if_neg (by omega), if_neg h1]
theorem ndV_set {run : List En} {ms : List Nat} {m i : Nat} (h : i < run.length) (ha : atE run m = some i) : (ndV run ms).set i (.bool true) = ndV run (ms ++ [m]) := by
  apply List.ext_getElem?
  intro j
  rw [List.getElem?_set, ndV_len]
  by_cases h1 : j < run.length
  · rw [ndV_get h1, ndV_get h1, ndP, ndP, List.any_append]
    by_cases h2 : i = j
    · subst h2; simp [h, ha]
    · have : ¬ atE run m = some j := by rw [ha]; simpa using h2
      simp [h2, this]
  · rw [List.getElem?_eq_none (by rw [ndV_len]; omega), if_neg (by omega), List.getElem?_eq_none (by rw [ndV_len]; omega)]
theorem ndV_none {run : List En} {ms : List Nat} {m : Nat} (ha : atE run m = none) : ndV run ms = ndV run (ms ++ [m]) := by
  unfold ndV ndP; simp [List.any_append, ha]
theorem ndV_one (run : List En) (ms : List Nat) : ∀ u ∈ ndV run ms, u.oneCell' = true := by
  intro u hu; simp [ndV] at hu; obtain ⟨_, _, rfl⟩ := hu; rfl
theorem needE_take {run : List En} {ms : List Nat} {k : Nat} : (List.range (k + 1)).filterMap (pick run ms) = (List.range k).filterMap (pick run ms) ++ (pick run ms k).toList := by
  rw [List.range_succ, List.filterMap_append]; cases h : pick run ms k <;> simp [h]
/-- How many stay when what is deleted at the end goes. -/
def trimN (s : List En) : Nat → Nat
  | 0 => 0
  | n + 1 => match s[n]? with
    | some x => if x.kind = 2 then trimN s n else n + 1
    | none => n + 1
theorem trimN_le (s : List En) : ∀ n, trimN s n ≤ n
  | 0 => Nat.le_refl _
  | n + 1 => by
    rw [trimN]
    have := trimN_le s n
    split
    · split <;> omega
    · omega
def keepR (bottom : Bool) (ms : List Nat) (run : List En) : List En := (needE run ms).take (if bottom then trimN (needE run ms) (needE run ms).length else (needE run ms).length)
def keepE (l : List En) (bottom : Bool) (ms : List Nat) : List En := (runsE l).flatMap (keepR bottom ms)
theorem flatMap_take {α β : Type} {f : α → List β} {l : List α} {k : Nat} {x : α} (h : l[k]? = some x) : (l.take (k + 1)).flatMap f = (l.take k).flatMap f ++ f x := by
  rw [take_getR h, List.flatMap_append]; simp
theorem needE_len (run : List En) (ms : List Nat) : (needE run ms).length ≤ run.length := by
  have := filterMap_len (pick run ms) (List.range run.length); rw [List.length_range] at this; exact this
theorem keepR_len (b : Bool) (ms : List Nat) (run : List En) : (keepR b ms run).length ≤ run.length := by
  have := needE_len run ms
  unfold keepR; rw [List.length_take]; omega
theorem flat_len {f : List En → List En} (hf : ∀ r, (f r).length ≤ r.length) : ∀ (rs : List (List En)), (rs.flatMap f).length ≤ (rs.map List.length).sum
  | [] => by simp
  | r :: rs => by
    have := flat_len hf rs
    have := hf r
    rw [List.flatMap_cons, List.length_append, List.map_cons, List.sum_cons]; omega
theorem runsF_sum : ∀ (l acc : List En), l ≠ [] → ((runsF l acc).map List.length).sum = acc.length + l.length
  | [], _, h => absurd rfl h
  | [x], acc, _ => by simp [runsF]
  | x :: y :: l, acc, _ => by
    rw [runsF]
    split
    · rw [runsF_sum (y :: l) (acc ++ [x]) (by simp)]; simp; omega
    · rw [List.map_cons, List.sum_cons, runsF_sum (y :: l) [] (by simp)]; simp; omega
theorem runs_sum (l : List En) : ((runsE l).map List.length).sum = l.length := by
  cases l with
  | nil => simp [runsE, runsF]
  | cons x l => rw [runsE, runsF_sum _ _ (by simp)]; simp
theorem take_sum {rs : List (List En)} (k : Nat) : ((rs.take k).map List.length).sum ≤ (rs.map List.length).sum := by
  conv => rhs; rw [← List.take_append_drop k rs, List.map_append, List.sum_append]
  omega
end Go.Proofs.Ytmdbjeabifkimaa


/-
  Walks over need and Keep of the document.
-/
namespace Go.Proofs.Ytmdbjeabifkimaa
open Go.RowKit

def z0 : En := ⟨[], 0, 0, []⟩
def seqIs (o : Option En) (x : En) : Bool := o.isSome && decide ((o.getD z0).seq = x.seq)
def newest (l : List En) (x : En) : Bool := decide (((getE l x.key 18446744073709551615).getD z0).seq = x.seq)
def refNeed (l : List En) (ms : List Nat) (x : En) : Bool := newest l x || ms.any fun m => seqIs (getE l x.key m) x
def putP (x y : En) : Bool := decide (y.key = x.key ∧ y.kind = 1)
def putsP (l : List En) (i : Nat) : Option En := match l[i]? with | some x => if decide (x.kind = 1) || (l.drop (i + 1)).any (putP x) then some x else none | none => none
def putsE (l : List En) : List En := (List.range l.length).filterMap (putsP l)
def refKeep (l : List En) (bt : Bool) (ms : List Nat) : List En := if bt then putsE (l.filter (refNeed l ms)) else l.filter (refNeed l ms)
theorem range_filterMap {α : Type} {f : Nat → Option α} {k : Nat} : (List.range (k + 1)).filterMap f = (List.range k).filterMap f ++ (f k).toList := by
  rw [List.range_succ, List.filterMap_append]; cases h : f k <;> simp [h]
theorem any_drop {α : Type} {p : α → Bool} {l : List α} {i k : Nat} {x : α} (hi : i ≤ k) (h : l[k]? = some x) : ((l.take (k + 1)).drop i).any p = (((l.take k).drop i).any p || p x) := by
  rw [take_getR h, List.drop_append_of_le_length (by have := (List.getElem?_eq_some_iff.1 h).1; simp; omega)]; simp
end Go.Proofs.Ytmdbjeabifkimaa


/-
  The plain laws of lists of entries: what the program's Visible and Keep make is what the document's make. No program in sight.
-/
namespace Go.Proofs.Ytmdbjeabifkimaa

theorem cmp_trans : ∀ {a b c : List UInt8}, cmpB a b < 0 → cmpB b c < 0 → cmpB a c < 0
  | [], [], _, h, _ => by simp [cmpB] at h
  | [], _ :: _, [], _, h => by simp [cmpB] at h
  | [], _ :: _, _ :: _, _, _ => by simp [cmpB]
  | _ :: _, [], _, h, _ => by simp [cmpB] at h
  | _ :: _, _ :: _, [], _, h => by simp [cmpB] at h
  | x :: xs, y :: ys, z :: zs, h, k => by
    rcases Nat.lt_trichotomy x.toNat y.toNat with h1 | h1 | h1
    · rcases Nat.lt_trichotomy y.toNat z.toNat with h2 | h2 | h2
      · rw [cmp_lt (UInt8.lt_iff_toNat_lt.2 (by omega))]; decide
      · rw [cmp_lt (UInt8.lt_iff_toNat_lt.2 (by omega))]; decide
      · rw [cmp_gt (UInt8.lt_iff_toNat_lt.2 h2)] at k; simp at k
    · obtain rfl := UInt8.toNat_inj.1 h1
      rcases Nat.lt_trichotomy x.toNat z.toNat with h2 | h2 | h2
      · rw [cmp_lt (UInt8.lt_iff_toNat_lt.2 h2)]; decide
      · obtain rfl := UInt8.toNat_inj.1 h2
        rw [cmp_same] at h k ⊢
        exact cmp_trans h k
      · rw [cmp_gt (UInt8.lt_iff_toNat_lt.2 h2)] at k; simp at k
    · rw [cmp_gt (UInt8.lt_iff_toNat_lt.2 h1)] at h; simp at h
theorem lessE_iff {a b : En} : lessE a b = true ↔ cmpB a.key b.key < 0 ∨ (a.key = b.key ∧ b.seq < a.seq) := by
  rw [lessE, decide_eq_true_eq]
  constructor
  · rintro (h | ⟨h, h'⟩)
    · exact .inl h
    · exact .inr ⟨cmp_zero h, h'⟩
  · rintro (h | ⟨h, h'⟩)
    · exact .inl h
    · exact .inr ⟨by rw [h]; exact cmp_refl _, h'⟩
theorem lessE_trans {a b c : En} (h : lessE a b = true) (k : lessE b c = true) : lessE a c = true := by
  rw [lessE_iff] at h k ⊢
  rcases h with h | ⟨h, h'⟩
  · rcases k with k | ⟨k, k'⟩
    · exact .inl (cmp_trans h k)
    · rw [← k]; exact .inl h
  · rcases k with k | ⟨k, k'⟩
    · rw [h]; exact .inl k
    · exact .inr ⟨h.trans k, by omega⟩
theorem lessE_irr (a : En) : lessE a a = false := by
  rw [← Bool.not_eq_true, lessE_iff, cmp_refl]; simp
theorem lessE_tri (a b : En) : lessE a b = true ∨ (a.key = b.key ∧ a.seq = b.seq) ∨ lessE b a = true := by
  rw [lessE_iff, lessE_iff, cmp_neg a.key b.key]
  rcases cmp_range a.key b.key with h | h | h
  · exact .inl (.inl (by omega))
  · have hk := cmp_zero h
    rcases Nat.lt_trichotomy a.seq b.seq with h1 | h1 | h1
    · exact .inr (.inr (.inr ⟨hk.symm, h1⟩))
    · exact .inr (.inl ⟨hk, h1⟩)
    · exact .inl (.inr ⟨hk, h1⟩)
  · exact .inr (.inr (.inl (by omega)))
/-- In order. -/
abbrev Ord (l : List En) : Prop := l.Pairwise fun a b => lessE a b = true
theorem ord_of : ∀ {l : List En}, ordE l = true → Ord l
  | [], _ => .nil
  | [a], _ => by simp [Ord]
  | a :: b :: l, h => by
    rw [ordE, Bool.and_eq_true] at h
    have ih := ord_of h.2
    refine List.pairwise_cons.2 ⟨fun x hx => ?_, ih⟩
    rw [List.mem_cons] at hx
    rcases hx with rfl | hx
    · exact h.1
    · exact lessE_trans h.1 ((List.pairwise_cons.1 ih).1 x hx)
theorem ordE_of : ∀ {l : List En}, Ord l → ordE l = true
  | [], _ => rfl
  | [a], _ => rfl
  | a :: b :: l, h => by
    obtain ⟨h1, h2⟩ := List.pairwise_cons.1 h
    rw [ordE, h1 b List.mem_cons_self, ordE_of h2]; rfl
theorem ord_key {a b : En} (h : lessE a b = true) (hne : ¬ a.key = b.key) {c : En} (hc : lessE b c = true) : ¬ a.key = c.key := by
  rw [lessE_iff] at h hc
  have h1 : cmpB a.key b.key < 0 := h.resolve_right fun k => hne k.1
  intro he
  rcases hc with hc | ⟨hc, _⟩
  · have := cmp_trans h1 hc
    rw [he, cmp_refl] at this; omega
  · exact hne (he.trans hc.symm)
/-- A list cut into runs. -/
structure Runs (rs : List (List En)) : Prop where
  some : ∀ r ∈ rs, r ≠ []
  same : ∀ r ∈ rs, ∀ x ∈ r, ∀ y ∈ r, x.key = y.key
  diff : rs.Pairwise fun r r' => ∀ x ∈ r, ∀ y ∈ r', ¬ x.key = y.key
theorem runsF_spec : ∀ (x : En) (l acc : List En), Ord (x :: l) → (∀ y ∈ acc, y.key = x.key) → (runsF (x :: l) acc).flatten = acc ++ x :: l ∧ Runs (runsF (x :: l) acc)
  | x, [], acc, _, ha => by
    rw [runsF]
    refine ⟨by simp, ⟨by simp, ?_, by simp⟩⟩
    intro r hr y hy z hz
    simp at hr; subst hr
    have key : ∀ y ∈ acc ++ [x], y.key = x.key := fun y hy => by
      rw [List.mem_append] at hy
      rcases hy with h | h
      · exact ha y h
      · simp at h; rw [h]
    rw [key y hy, key z hz]
  | x, y :: l, acc, ho, ha => by
    obtain ⟨h1, h2⟩ := List.pairwise_cons.1 ho
    have key : ∀ z ∈ acc ++ [x], z.key = x.key := fun z hz => by
      rw [List.mem_append] at hz
      rcases hz with h | h
      · exact ha z h
      · simp at h; rw [h]
    rw [runsF]
    by_cases hk : x.key = y.key
    · rw [if_pos hk]
      obtain ⟨f1, f2⟩ := runsF_spec y l (acc ++ [x]) h2 fun z hz => (key z hz).trans hk
      exact ⟨by rw [f1]; simp, f2⟩
    · rw [if_neg hk]
      obtain ⟨f1, f2⟩ := runsF_spec y l [] h2 (by simp)
      refine ⟨by rw [List.flatten_cons, f1]; simp, ⟨?_, ?_, ?_⟩⟩
      · intro r hr
        rw [List.mem_cons] at hr
        rcases hr with rfl | hr
        · simp
        · exact f2.some r hr
      · intro r hr
        rw [List.mem_cons] at hr
        rcases hr with rfl | hr
        · exact fun u hu v hv => by rw [key u hu, key v hv]
        · exact f2.same r hr
      · refine List.pairwise_cons.2 ⟨fun r hr u hu v hv => ?_, f2.diff⟩
        have hv' : v ∈ y :: l := by
          have : v ∈ (runsF (y :: l) []).flatten := List.mem_flatten.2 ⟨r, hr, hv⟩
          rw [f1] at this; simpa using this
        rw [key u hu]
        rw [List.mem_cons] at hv'
        rcases hv' with rfl | hv'
        · exact hk
        · exact ord_key (h1 y List.mem_cons_self) hk ((List.pairwise_cons.1 h2).1 v hv')
theorem runs_spec {l : List En} (h : Ord l) : (runsE l).flatten = l ∧ Runs (runsE l) := by
  cases l with
  | nil => exact ⟨rfl, ⟨by simp [runsE, runsF], by simp [runsE, runsF], by simp [runsE, runsF]⟩⟩
  | cons x l => have := runsF_spec x l [] h (by simp); exact ⟨by rw [runsE, this.1]; rfl, this.2⟩
/-- The first of a run that isn't above a moment. -/
def fstE (r : List En) (m : Nat) : Option En := r.find? fun x => decide (x.seq ≤ m)
theorem find_findIdx {α : Type} (p : α → Bool) : ∀ (r : List α), r.find? p = (r.findIdx? p).bind fun i => r[i]?
  | [] => rfl
  | x :: r => by
    rw [List.find?_cons, List.findIdx?_cons]
    cases h : p x with
    | true => rfl
    | false =>
      rw [find_findIdx p r]
      cases r.findIdx? p <;> simp
theorem visR_eq (m : Nat) (r : List En) : visR m r = (fstE r m).filter fun x => decide (x.kind = 1) := by
  rw [visR, fstE, find_findIdx, atE]
  cases r.findIdx? _ <;> rfl
/-- Of a run the numbers fall. -/
abbrev Fall (r : List En) : Prop := r.Pairwise fun a b => b.seq < a.seq
theorem find_runs {p q : En → Bool} : ∀ {rs : List (List En)} {r : List En}, Runs rs → r ∈ rs → ∀ {x : En}, x ∈ r → (∀ y, p y = (decide (y.key = x.key) && q y)) → rs.flatten.find? p = r.find? q
  | [], r, _, h, _, _, _ => by simp at h
  | r0 :: rs, r, hR, hr, x, hx, hp => by
    obtain ⟨hd, hd2⟩ := List.pairwise_cons.1 hR.diff
    have hR2 : Runs rs := ⟨fun r h => hR.some r (List.mem_cons_of_mem _ h), fun r h => hR.same r (List.mem_cons_of_mem _ h), hd2⟩
    rw [List.flatten_cons, List.find?_append]
    rw [List.mem_cons] at hr
    rcases hr with rfl | hr
    · have h1 : rs.flatten.find? p = none := by
        rw [List.find?_eq_none]
        intro y hy
        obtain ⟨r', hr', hy'⟩ := List.mem_flatten.1 hy
        rw [hp, decide_eq_false fun h => hd r' hr' x hx y hy' h.symm]; simp
      have h2 : r.find? p = r.find? q := by
        have hc : ∀ (l : List En), (∀ y ∈ l, p y = q y) → l.find? p = l.find? q := by
          intro l
          induction l with
          | nil => intro _; rfl
          | cons a l ih => intro h; rw [List.find?_cons, List.find?_cons, h a List.mem_cons_self, ih fun y hy => h y (List.mem_cons_of_mem _ hy)]
        exact hc r fun y hy => by rw [hp, decide_eq_true (hR.same r List.mem_cons_self y hy x hx)]; simp
      rw [h1, h2]; simp
    · have h1 : r0.find? p = none := by
        rw [List.find?_eq_none]
        intro y hy
        rw [hp, decide_eq_false fun h => hd r hr y hy x hx h]; simp
      rw [h1, Option.none_or]
      exact find_runs hR2 hr hx hp
theorem get_run {rs : List (List En)} {r : List En} (hR : Runs rs) (hr : r ∈ rs) {x : En} (hx : x ∈ r) (m : Nat) : getE rs.flatten x.key m = fstE r m :=
  find_runs hR hr hx fun y => by rw [Bool.decide_and]
theorem fall_of {l : List En} (ho : Ord l) {r : List En} (hR : Runs (runsE l)) (hr : r ∈ runsE l) : Fall r := by
  have hs : r.Sublist l := by
    have := (runs_spec ho).1
    rw [← this]
    exact List.sublist_flatten_of_mem hr
  refine (ho.sublist hs).imp_of_mem fun {a b} ha hb h => ?_
  rw [lessE_iff, hR.same r hr a ha b hb, cmp_refl] at h
  rcases h with h | h
  · omega
  · exact h.2
theorem filter_one : ∀ {r : List En}, Fall r → ∀ {v : En}, v ∈ r → r.filter (fun x => decide (v.seq = x.seq)) = [v]
  | [], _, _, h => by simp at h
  | a :: r, hf, v, h => by
    obtain ⟨h1, h2⟩ := List.pairwise_cons.1 hf
    rw [List.mem_cons] at h
    rcases h with rfl | h
    · rw [List.filter_cons, if_pos (by simp)]
      congr 1
      rw [List.filter_eq_nil_iff]
      intro x hx
      have := h1 x hx
      simp; omega
    · have := h1 v h
      rw [List.filter_cons, if_neg (by simp; omega), filter_one h2 h]
theorem filter_flat {α : Type} (p : α → Bool) : ∀ (rs : List (List α)), rs.flatten.filter p = rs.flatMap (List.filter p)
  | [] => rfl
  | r :: rs => by rw [List.flatten_cons, List.filter_append, filter_flat p rs, List.flatMap_cons]
theorem flatMap_congr {α β : Type} {f g : α → List β} : ∀ {l : List α}, (∀ x ∈ l, f x = g x) → l.flatMap f = l.flatMap g
  | [], _ => rfl
  | x :: l, h => by rw [List.flatMap_cons, List.flatMap_cons, h x List.mem_cons_self, flatMap_congr fun y hy => h y (List.mem_cons_of_mem _ hy)]
theorem filterMap_flat {α β : Type} (f : α → Option β) : ∀ (l : List α), l.filterMap f = l.flatMap fun x => (f x).toList
  | [] => rfl
  | x :: l => by rw [List.flatMap_cons, ← filterMap_flat f l, List.filterMap_cons]; cases f x <;> rfl
/-- What one sees is what the document says. -/
theorem vis_eq {l : List En} (ho : Ord l) (m : Nat) : visE l m = refVis l m := by
  obtain ⟨hf, hR⟩ := runs_spec ho
  have hfall := fun r hr => fall_of ho (r := r) hR hr
  rw [visE, refVis]
  conv => rhs; rw [← hf]
  rw [filter_flat, filterMap_flat]
  refine flatMap_congr fun r hr => ?_
  have hp : ∀ x ∈ r, visP (runsE l).flatten m x = match fstE r m with | some v => decide (v.seq = x.seq ∧ v.kind = 1) | none => false := fun x hx => by rw [visP, get_run hR hr hx] <;> rfl
  rw [List.filter_congr (q := fun x => match fstE r m with | some v => decide (v.seq = x.seq ∧ v.kind = 1) | none => false) hp, visR_eq]
  cases hv : fstE r m with
  | none => simp
  | some v =>
    have hvr : v ∈ r := List.mem_of_find?_eq_some hv
    by_cases hk : v.kind = 1
    · simp only [hk, and_true]
      rw [filter_one (hfall r hr) hvr]; simp [hk]
    · have h0 : r.filter (fun x => decide (v.seq = x.seq ∧ v.kind = 1)) = [] := List.filter_eq_nil_iff.2 (by simp [hk])
      rw [h0]; simp [hk, Option.filter]
/-- Whether an entry of a run is needed. -/
def nd (r : List En) (ms : List Nat) (x : En) : Bool := decide (r[0]? = some x) || ms.any fun m => decide (fstE r m = some x)
theorem fall_inj {r : List En} (hf : Fall r) {i j : Nat} {x y : En} (hi : r[i]? = some x) (hj : r[j]? = some y) (h : x.seq = y.seq) : i = j := by
  obtain ⟨hi', rfl⟩ := List.getElem?_eq_some_iff.1 hi
  obtain ⟨hj', rfl⟩ := List.getElem?_eq_some_iff.1 hj
  rcases Nat.lt_trichotomy i j with h1 | h1 | h1
  · have := (List.pairwise_iff_getElem.1 hf) i j hi' hj' h1; omega
  · exact h1
  · have := (List.pairwise_iff_getElem.1 hf) j i hj' hi' h1; omega
theorem fst_at {r : List En} {m i : Nat} (h : atE r m = some i) : fstE r m = r[i]? := by rw [fstE, find_findIdx]; rw [atE] at h; rw [h]; rfl
theorem fst_iff {r : List En} (hf : Fall r) {m i : Nat} {x : En} (hx : r[i]? = some x) : fstE r m = some x ↔ atE r m = some i := by
  constructor
  · intro h
    cases ha : atE r m with
    | none => rw [fstE, find_findIdx] at h; rw [atE] at ha; rw [ha] at h; cases h
    | some j => rw [fst_at ha] at h; rw [fall_inj hf h hx rfl]
  · intro h; rw [fst_at h, hx]
theorem nd_at {r : List En} (hf : Fall r) (ms : List Nat) {i : Nat} {x : En} (hx : r[i]? = some x) : nd r ms x = ndP r ms i := by
  rw [nd, ndP]
  congr 1
  · refine decide_eq_decide.2 ⟨fun h => fall_inj hf hx h rfl, ?_⟩
    rintro rfl; exact hx
  · refine congrArg (fun f => ms.any f) (funext fun m => decide_eq_decide.2 (fst_iff hf hx))
theorem need_filter {r : List En} (hf : Fall r) (ms : List Nat) : needE r ms = r.filter (nd r ms) := by
  have key : ∀ k, k ≤ r.length → (List.range k).filterMap (pick r ms) = (r.take k).filter (nd r ms) := by
    intro k
    induction k with
    | zero => intro _; rfl
    | succ k ih =>
      intro hk
      have hx : r[k]? = some (r[k]'(by omega)) := List.getElem?_eq_getElem (by omega)
      rw [needE_take, filter_take hx, ih (by omega), pick, ← nd_at hf ms hx, hx]
      cases nd r ms _ <;> rfl
  rw [needE, key _ (Nat.le_refl _), List.take_length]
theorem refNeed_run {l : List En} (ho : Ord l) (hsq : ∀ x ∈ l, x.seq < 2 ^ 64) (ms : List Nat) {r : List En} (hr : r ∈ runsE l) {x : En} (hx : x ∈ r) : refNeed l ms x = nd r ms x := by
  obtain ⟨hf, hR⟩ := runs_spec ho
  have hfall := fall_of ho hR hr
  have hg : ∀ m, getE l x.key m = fstE r m := fun m => by rw [← get_run hR hr hx m, hf]
  have hmem : ∀ y ∈ r, y ∈ l := fun y hy => by rw [← hf]; exact List.mem_flatten.2 ⟨r, hr, hy⟩
  obtain ⟨i, hi, hix⟩ := List.getElem_of_mem hx
  have hix' : r[i]? = some x := by rw [← hix]; exact List.getElem?_eq_getElem hi
  have hseq : ∀ m, seqIs (fstE r m) x = decide (fstE r m = some x) := fun m => by
    cases hv : fstE r m with
    | none => simp [seqIs]
    | some v =>
      obtain ⟨j, hj, hjv⟩ := List.getElem_of_mem (List.mem_of_find?_eq_some hv)
      have hjv' : r[j]? = some v := by rw [← hjv]; exact List.getElem?_eq_getElem hj
      rw [seqIs]
      simp only [Option.isSome_some, Bool.true_and, Option.getD_some, Option.some.injEq]
      refine decide_eq_decide.2 ⟨fun h => ?_, fun h => by rw [h]⟩
      have := fall_inj hfall hjv' hix' h
      subst this; rw [hjv'] at hix'; exact Option.some.inj hix'
  rw [refNeed, newest, nd]
  congr 1
  · obtain ⟨y, hy⟩ : ∃ y, r[0]? = some y := ⟨_, List.getElem?_eq_getElem (by omega : 0 < r.length)⟩
    have h0 : fstE r 18446744073709551615 = some y := by
      rw [fst_iff hfall hy, atE, findIdx_at hy (fun i y hi => by omega)]
      have := hsq y (hmem y (List.mem_of_getElem? hy))
      exact decide_eq_true (by omega)
    rw [hg, h0, hy]
    simp only [Option.getD_some, Option.some.injEq]
    refine decide_eq_decide.2 ⟨fun h => ?_, fun h => by rw [h]⟩
    have := fall_inj hfall hy hix' h
    subst this; rw [hy] at hix'; exact Option.some.inj hix'
  · exact congrArg (fun f => ms.any f) (funext fun m => by rw [hg, hseq])
/-- The document's last cut, from the front. -/
def putsL : List En → List En
  | [] => []
  | x :: l => if decide (x.kind = 1) || l.any (putP x) then x :: putsL l else putsL l
theorem putsE_eq : ∀ (l : List En), putsE l = putsL l
  | [] => rfl
  | x :: l => by
    have ih := putsE_eq l
    rw [putsE] at ih ⊢
    rw [List.length_cons, List.range_succ_eq_map, List.filterMap_cons, List.filterMap_map]
    have h0 : (putsP (x :: l)) ∘ Nat.succ = putsP l := by
      funext i; simp [putsP]
    rw [h0, ih, putsL, putsP]
    simp only [List.getElem?_cons_zero, Nat.zero_add, List.drop_succ_cons, List.drop_zero]
    cases decide (x.kind = 1) || l.any (putP x) <;> rfl
theorem putsL_app : ∀ (s t : List En), (∀ x ∈ s, ∀ y ∈ t, ¬ x.key = y.key) → putsL (s ++ t) = putsL s ++ putsL t
  | [], _, _ => rfl
  | x :: s, t, h => by
    have ih := putsL_app s t fun a ha b hb => h a (List.mem_cons_of_mem _ ha) b hb
    have h0 : t.any (putP x) = false := List.any_eq_false.2 fun y hy => by rw [putP, decide_eq_false fun k => h x List.mem_cons_self y hy k.1.symm]; simp
    rw [List.cons_append, putsL, putsL, List.any_append, h0, Bool.or_false, ih]
    split <;> rfl
theorem putsL_flat {f : List En → List En} (hf : ∀ r x, x ∈ f r → x ∈ r) : ∀ {rs : List (List En)}, Runs rs → putsL (rs.flatMap f) = rs.flatMap fun r => putsL (f r)
  | [], _ => rfl
  | r :: rs, hR => by
    obtain ⟨hd, hd2⟩ := List.pairwise_cons.1 hR.diff
    have hR2 : Runs rs := ⟨fun r h => hR.some r (List.mem_cons_of_mem _ h), fun r h => hR.same r (List.mem_cons_of_mem _ h), hd2⟩
    rw [List.flatMap_cons, List.flatMap_cons, putsL_app, putsL_flat hf hR2]
    intro x hx y hy
    obtain ⟨r', hr', hy'⟩ := List.mem_flatMap.1 hy
    exact hd r' hr' x (hf r x hx) y (hf r' y hy')
theorem trim_spec (s : List En) : ∀ n, n ≤ s.length → (∀ i x, trimN s n ≤ i → i < n → s[i]? = some x → x.kind = 2) ∧ (trimN s n = 0 ∨ ∃ x, s[trimN s n - 1]? = some x ∧ ¬ x.kind = 2 ∧ 0 < trimN s n)
  | 0, _ => ⟨by omega, .inl rfl⟩
  | n + 1, h => by
    have hx : s[n]? = some (s[n]'(by omega)) := List.getElem?_eq_getElem (by omega)
    rw [trimN, hx]
    simp only
    by_cases h2 : (s[n]'(by omega)).kind = 2
    · rw [if_pos h2]
      obtain ⟨h3, h4⟩ := trim_spec s n (by omega)
      refine ⟨fun i x hi hin hxi => ?_, h4⟩
      rcases Nat.lt_or_ge i n with h5 | h5
      · exact h3 i x hi h5 hxi
      · obtain rfl : i = n := by omega
        rw [hx] at hxi; cases hxi; exact h2
    · rw [if_neg h2]
      exact ⟨by omega, .inr ⟨_, hx, h2, by omega⟩⟩
theorem puts_take : ∀ {s : List En} {t : Nat}, (∀ x ∈ s, ∀ y ∈ s, x.key = y.key) → (∀ x ∈ s, x.kind = 1 ∨ x.kind = 2) → t ≤ s.length → (∀ i x, t ≤ i → s[i]? = some x → x.kind = 2) → (t = 0 ∨ ∃ x, s[t - 1]? = some x ∧ ¬ x.kind = 2 ∧ 0 < t) → putsL s = s.take t
  | [], t, _, _, _, _, _ => by simp [putsL]
  | x :: s, t, hk, hc, ht, h2, h1 => by
    have hk' : ∀ a ∈ s, ∀ b ∈ s, a.key = b.key := fun a ha b hb => hk a (List.mem_cons_of_mem _ ha) b (List.mem_cons_of_mem _ hb)
    have hc' : ∀ a ∈ s, a.kind = 1 ∨ a.kind = 2 := fun a ha => hc a (List.mem_cons_of_mem _ ha)
    cases t with
    | zero =>
      have ih := puts_take (t := 0) hk' hc' (by omega) (fun i y _ hy => h2 (i + 1) y (by omega) (by simpa using hy)) (.inl rfl)
      have hx : x.kind = 2 := h2 0 x (by omega) rfl
      have hs : s.any (putP x) = false := List.any_eq_false.2 fun y hy => by
        obtain ⟨i, hi, rfl⟩ := List.getElem_of_mem hy
        have := h2 (i + 1) s[i] (by omega) (by simp [hi])
        simp [putP, this]
      rw [putsL, hs, decide_eq_false (by rw [hx]; decide), ih]; rfl
    | succ t =>
      rcases h1 with h1 | ⟨y, hy, hy2, _⟩
      · omega
      · have ih := puts_take (s := s) (t := t) hk' hc' (by simp at ht; omega) (fun i z hi hz => h2 (i + 1) z (by omega) (by simpa using hz)) (by
          cases t with
          | zero => exact .inl rfl
          | succ t => exact .inr ⟨y, by simpa using hy, hy2, by omega⟩)
        have hkeep : (decide (x.kind = 1) || s.any (putP x)) = true := by
          rw [Bool.or_eq_true]
          have hmy : y ∈ x :: s := List.mem_of_getElem? hy
          have hy1 : y.kind = 1 := (hc y hmy).resolve_right hy2
          rw [List.mem_cons] at hmy
          rcases hmy with rfl | hmy
          · exact .inl (decide_eq_true hy1)
          · exact .inr (List.any_eq_true.2 ⟨y, hmy, decide_eq_true ⟨hk y (List.mem_cons_of_mem _ hmy) x List.mem_cons_self, hy1⟩⟩)
        rw [putsL, if_pos hkeep, ih, List.take_succ_cons]
/-- What is kept is what the document says. -/
theorem keep_eq {l : List En} (ho : Ord l) (hsq : ∀ x ∈ l, x.seq < 2 ^ 64) (hc : ∀ x ∈ l, x.kind = 1 ∨ x.kind = 2) (bt : Bool) (ms : List Nat) : keepE l bt ms = refKeep l bt ms := by
  obtain ⟨hf, hR⟩ := runs_spec ho
  have hmem : ∀ r ∈ runsE l, ∀ y ∈ r, y ∈ l := fun r hr y hy => by rw [← hf]; exact List.mem_flatten.2 ⟨r, hr, hy⟩
  have hflt : l.filter (refNeed l ms) = (runsE l).flatMap fun r => needE r ms := by
    conv => lhs; arg 2; rw [← hf]
    rw [filter_flat]
    exact flatMap_congr fun r hr => by rw [need_filter (fall_of ho hR hr), List.filter_congr fun x hx => refNeed_run ho hsq ms hr hx]
  rw [keepE, refKeep, hflt]
  cases bt with
  | false => exact flatMap_congr fun r hr => by rw [keepR, if_neg (by decide), List.take_length]
  | true =>
    rw [if_pos rfl, putsE_eq, putsL_flat (fun r x hx => by
      rw [needE, List.mem_filterMap] at hx
      obtain ⟨i, _, hi⟩ := hx
      rw [pick] at hi
      split at hi
      · exact List.mem_of_getElem? hi
      · cases hi) hR]
    refine flatMap_congr fun r hr => ?_
    have hn : ∀ x ∈ needE r ms, x ∈ r := fun x hx => by rw [need_filter (fall_of ho hR hr)] at hx; exact (List.mem_filter.1 hx).1
    obtain ⟨h1, h2⟩ := trim_spec (needE r ms) _ (Nat.le_refl _)
    rw [keepR, if_pos rfl]
    exact (puts_take (fun x hx y hy => hR.same r hr x (hn x hx) y (hn y hy)) (fun x hx => hc x (hmem r hr x (hn x hx))) (trimN_le _ _) (fun i x hi hx => h1 i x hi (List.getElem?_eq_some_iff.1 hx).1 hx) h2).symm
end Go.Proofs.Ytmdbjeabifkimaa


/-
  The plain law of MergeSame: a sorted list is in order and in form; what is kept of it looks the same at each moment that counts, and is kept again whole. No program in sight.
-/
namespace Go.Proofs.Ytmdbjeabifkimaa

theorem pos_spec (l : List En) (e : En) : ∀ n, n ≤ l.length → (∀ i x, posE l e n ≤ i → i < n → l[i]? = some x → lessE e x = true) ∧ (posE l e n = 0 ∨ ∃ x, l[posE l e n - 1]? = some x ∧ lessE e x = false ∧ 0 < posE l e n)
  | 0, _ => ⟨by omega, .inl rfl⟩
  | n + 1, h => by
    have hx : l[n]? = some (l[n]'(by omega)) := List.getElem?_eq_getElem (by omega)
    rw [posE, hx]
    simp only
    cases h2 : lessE e (l[n]'(by omega)) with
    | true =>
      rw [if_pos rfl]
      obtain ⟨h3, h4⟩ := pos_spec l e n (by omega)
      refine ⟨fun i x hi hin hxi => ?_, h4⟩
      rcases Nat.lt_or_ge i n with h5 | h5
      · exact h3 i x hi h5 hxi
      · obtain rfl : i = n := by omega
        rw [hx] at hxi; cases hxi; exact h2
    | false =>
      rw [if_neg (by decide)]
      exact ⟨by omega, .inr ⟨_, hx, h2, by omega⟩⟩
theorem inE_false {l : List En} {e : En} (h : inE l e = false) : ∀ x ∈ l, ¬ (x.key = e.key ∧ x.seq = e.seq) := fun x hx => by
  have := List.any_eq_false.1 h x hx
  simpa using this
theorem ins_ord {l : List En} {e : En} (ho : Ord l) (hn : inE l e = false) : Ord (insE l e) := by
  obtain ⟨h1, h2⟩ := pos_spec l e l.length (Nat.le_refl _)
  have hp := posE_le l e l.length
  obtain ⟨p, hpd⟩ : ∃ q, posE l e l.length = q := ⟨_, rfl⟩
  rw [hpd] at h1 h2 hp
  rw [insE, hpd]
  have hlow : ∀ x ∈ l.take p, lessE x e = true := fun x hx => by
    obtain ⟨i, hi, rfl⟩ := List.getElem_of_mem hx
    rw [List.length_take] at hi
    rcases h2 with h2 | ⟨y, hy, hye, hpos⟩
    · omega
    · have hyl : lessE y e = true := by
        rcases lessE_tri e y with h | h | h
        · rw [hye] at h; cases h
        · exact absurd ⟨h.1.symm, h.2.symm⟩ (inE_false hn y (List.mem_of_getElem? hy))
        · exact h
      obtain ⟨hj, hjy⟩ := List.getElem?_eq_some_iff.1 hy
      rw [List.getElem_take]
      rcases Nat.lt_or_ge i (p - 1) with h3 | h3
      · have := (List.pairwise_iff_getElem.1 ho) i (p - 1) (by omega) hj h3
        rw [hjy] at this
        exact lessE_trans this hyl
      · obtain rfl : i = p - 1 := by omega
        rw [hjy]; exact hyl
  have hhigh : ∀ x ∈ l.drop p, lessE e x = true := fun x hx => by
    obtain ⟨i, hi, rfl⟩ := List.getElem_of_mem hx
    rw [List.length_drop] at hi
    exact h1 (p + i) _ (by omega) (by omega) (by rw [List.getElem_drop]; exact List.getElem?_eq_getElem _)
  refine List.pairwise_append.2 ⟨List.pairwise_append.2 ⟨ho.sublist (List.take_sublist _ _), by simp, fun a ha b hb => ?_⟩, ho.sublist (List.drop_sublist _ _), fun a ha b hb => ?_⟩
  · simp at hb; subst hb; exact hlow a ha
  · rw [List.mem_append] at ha
    rcases ha with ha | ha
    · exact lessE_trans (hlow a ha) (hhigh b hb)
    · simp at ha; subst ha; exact hhigh b hb
theorem check_one {x : En} (h : checkE [x] = 0) : bigE x = false ∧ badE x = false := by
  unfold checkE at h
  simp only [List.any_cons, List.any_nil, Bool.or_false] at h
  cases hb : bigE x with
  | true => rw [hb] at h; simp at h
  | false => cases hd : badE x with
    | true => rw [hb, hd] at h; simp at h
    | false => exact ⟨rfl, rfl⟩
theorem check_of {l : List En} (h : ∀ x ∈ l, bigE x = false ∧ badE x = false) : checkE l = 0 := by
  have h1 : l.any bigE = false := List.any_eq_false.2 fun x hx => by rw [(h x hx).1]; simp
  have h2 : l.any badE = false := List.any_eq_false.2 fun x hx => by rw [(h x hx).2]; simp
  rw [checkE, h1, h2]; rfl
theorem worst_of {l : List En} (ho : Ord l) (h : ∀ x ∈ l, bigE x = false ∧ badE x = false) : worstE [l] = 0 := by
  show stepW 0 l = 0
  rw [stepW, errE, check_of h, ordE_of ho]; rfl
theorem sorted_ok (l : List En) : Ord (sortedE l) ∧ ∀ x ∈ sortedE l, bigE x = false ∧ badE x = false := by
  have key : ∀ (l out : List En), Ord out → (∀ x ∈ out, bigE x = false ∧ badE x = false) → Ord (l.foldl addE out) ∧ ∀ x ∈ l.foldl addE out, bigE x = false ∧ badE x = false := by
    intro l
    induction l with
    | nil => intro out h1 h2; exact ⟨h1, h2⟩
    | cons x l ih =>
      intro out h1 h2
      rw [List.foldl_cons]
      by_cases h : checkE [x] = 0 ∧ inE out x = false
      · have ha : addE out x = insE out x := by rw [addE, if_pos h]
        rw [ha]
        exact ih _ (ins_ord h1 h.2) fun y hy => by
          have := addE_ok (p := fun x => bigE x = false ∧ badE x = false) h2 (check_one h.1) y (by rw [ha]; exact hy)
          exact this
      · have ha : addE out x = out := by rw [addE, if_neg h]
        rw [ha]; exact ih _ h1 h2
  exact key l [] (by simp [Ord]) (by simp)
/-- What is kept of a run. -/
def keptR (bt : Bool) (ms : List Nat) (r : List En) : Nat := if bt then trimN (needE r ms) (needE r ms).length else (needE r ms).length
theorem keepR_eq (bt : Bool) (ms : List Nat) (r : List En) : keepR bt ms r = (needE r ms).take (keptR bt ms r) := rfl
theorem keepR_sub {r : List En} (hf : Fall r) (bt : Bool) (ms : List Nat) : (keepR bt ms r).Sublist r := by
  rw [keepR_eq, need_filter hf]
  exact (List.take_sublist _ _).trans List.filter_sublist
theorem kept_high {r : List En} (bt : Bool) (ms : List Nat) : ∀ x ∈ (needE r ms).drop (keptR bt ms r), x.kind = 2 := fun x hx => by
  obtain ⟨i, hi, rfl⟩ := List.getElem_of_mem hx
  rw [List.length_drop] at hi
  rw [List.getElem_drop]
  cases bt with
  | false => simp [keptR] at hi
  | true => exact (trim_spec (needE r ms) _ (Nat.le_refl _)).1 _ _ (Nat.le_add_right _ _) (by have hk : keptR true ms r = trimN (needE r ms) (needE r ms).length := rfl; omega) (List.getElem?_eq_getElem _)
theorem find_filter {α : Type} {p q : α → Bool} : ∀ {r : List α}, (∀ v, r.find? q = some v → p v = true) → (r.filter p).find? q = r.find? q
  | [], _ => rfl
  | x :: r, h => by
    rw [List.find?_cons]
    cases hq : q x with
    | true =>
      have hp : p x = true := h x (by rw [List.find?_cons, hq])
      rw [List.filter_cons, if_pos hp, List.find?_cons, hq]
    | false =>
      have ih := find_filter (r := r) fun v hv => h v (by rw [List.find?_cons, hq]; exact hv)
      simp only
      rw [List.filter_cons]
      split
      · rw [List.find?_cons, hq]; exact ih
      · exact ih
/-- At a moment that counts for it a run's part is seen as the run is. -/
def good (r : List En) (ms : List Nat) (m : Nat) : Prop := ∀ v, fstE r m = some v → nd r ms v = true
theorem good_mem {r : List En} {ms : List Nat} {m : Nat} (h : m ∈ ms) : good r ms m := fun v hv => by
  rw [nd, Bool.or_eq_true]; exact .inr (List.any_eq_true.2 ⟨m, h, decide_eq_true hv⟩)
theorem good_all {r : List En} {ms : List Nat} {m : Nat} (h : ∀ x ∈ r, x.seq ≤ m) : good r ms m := fun v hv => by
  cases r with
  | nil => cases hv
  | cons x r =>
    rw [fstE, List.find?_cons, decide_eq_true (h x List.mem_cons_self)] at hv
    cases hv
    rw [nd, Bool.or_eq_true]; exact .inl (by simp)
theorem fst_need {r : List En} (hf : Fall r) {ms : List Nat} {m : Nat} (hg : good r ms m) : fstE (needE r ms) m = fstE r m := by
  rw [need_filter hf]; exact find_filter hg
theorem fst_split (s : List En) (t m : Nat) : fstE s m = (fstE (s.take t) m).or (fstE (s.drop t) m) := by
  conv => lhs; rw [← List.take_append_drop t s]
  rw [fstE, List.find?_append]; rfl
theorem vis_kept {r : List En} (hf : Fall r) {bt : Bool} {ms : List Nat} {m : Nat} (hg : good r ms m) : visR m (keepR bt ms r) = visR m r := by
  rw [visR_eq, visR_eq, ← fst_need hf hg, fst_split (needE r ms) (keptR bt ms r), ← keepR_eq]
  cases hv : fstE (keepR bt ms r) m with
  | some v => rfl
  | none =>
    rw [Option.none_or]
    cases hw : fstE ((needE r ms).drop (keptR bt ms r)) m with
    | none => rfl
    | some w =>
      have hk := kept_high bt ms w (List.mem_of_find?_eq_some hw)
      rw [Option.filter_some_neg (by rw [hk]; decide)]; rfl
theorem fst_in {r : List En} {m : Nat} {v : En} (h : fstE r m = some v) : v.seq ≤ m := by
  have := List.find?_some h
  simpa using this
theorem kept_nd {r : List En} (hf : Fall r) (bt : Bool) (ms : List Nat) : ∀ x ∈ keepR bt ms r, nd (keepR bt ms r) ms x = true := fun x hx => by
  have hxs : x ∈ needE r ms := List.mem_of_mem_take hx
  have hnd : nd r ms x = true := by rw [need_filter hf] at hxs; exact (List.mem_filter.1 hxs).2
  rw [nd, Bool.or_eq_true] at hnd ⊢
  rcases hnd with h | h
  · refine .inl (decide_eq_true ?_)
    have h0 := of_decide_eq_true h
    cases r with
    | nil => simp at h0
    | cons y r =>
      simp at h0; subst h0
      have hny : nd (y :: r) ms y = true := by rw [nd, Bool.or_eq_true]; exact .inl (by simp)
      have hs : needE (y :: r) ms = y :: r.filter (nd (y :: r) ms) := by rw [need_filter hf, List.filter_cons, if_pos hny]
      rw [keepR_eq, hs] at hx ⊢
      cases ht : keptR bt ms (y :: r) with
      | zero => rw [ht] at hx; simp at hx
      | succ t => rfl
  · obtain ⟨m, hm, hv⟩ := List.any_eq_true.1 h
    have hv := of_decide_eq_true hv
    refine .inr (List.any_eq_true.2 ⟨m, hm, decide_eq_true ?_⟩)
    have h1 := fst_need hf (good_mem (r := r) hm)
    rw [hv, fst_split (needE r ms) (keptR bt ms r), ← keepR_eq] at h1
    cases hw : fstE (keepR bt ms r) m with
    | some w => rw [hw] at h1; simpa using h1
    | none =>
      have := List.find?_eq_none.1 hw x hx
      have hle := fst_in hv
      simp at this; omega
theorem kept_again {r : List En} (hf : Fall r) (bt : Bool) (ms : List Nat) : keepR bt ms (keepR bt ms r) = keepR bt ms r := by
  have hf2 : Fall (keepR bt ms r) := List.Pairwise.sublist (keepR_sub hf bt ms) hf
  have hn : needE (keepR bt ms r) ms = keepR bt ms r := by
    rw [need_filter hf2]; exact List.filter_eq_self.2 (kept_nd hf bt ms)
  rw [keepR_eq bt ms (keepR bt ms r), hn]
  refine List.take_of_length_le ?_
  unfold keptR
  rw [hn]
  cases bt with
  | false => simp
  | true =>
    rw [if_pos rfl]
    obtain ⟨_, h2⟩ := trim_spec (needE r ms) _ (Nat.le_refl _)
    have hk : keptR true ms r = trimN (needE r ms) (needE r ms).length := rfl
    rw [← hk] at h2
    have hle : keptR true ms r ≤ (needE r ms).length := trimN_le _ _
    have hl : (keepR true ms r).length = keptR true ms r := by rw [keepR_eq, List.length_take]; omega
    rcases h2 with h2 | ⟨x, hx, hx2, hpos⟩
    · rw [hl, h2]; exact Nat.zero_le _
    · obtain ⟨t, ht⟩ : ∃ t, keptR true ms r = t + 1 := ⟨keptR true ms r - 1, by omega⟩
      have hx' : (keepR true ms r)[t]? = some x := by
        rw [keepR_eq, List.getElem?_take, if_pos (by omega)]
        rw [ht] at hx; simpa using hx
      rw [hl, ht, trimN, hx']
      simp [hx2]
theorem runsF_cat : ∀ (r rest acc : List En), r ≠ [] → (∀ x ∈ r, ∀ y ∈ r, x.key = y.key) → (∀ x ∈ r, ∀ y ∈ rest, ¬ x.key = y.key) → runsF (r ++ rest) acc = (acc ++ r) :: runsF rest []
  | [], _, _, h, _, _ => absurd rfl h
  | [x], [], acc, _, _, _ => by simp [runsF]
  | [x], y :: rest, acc, _, _, h => by
    have := h x (by simp) y (by simp)
    simp [runsF, this]
  | x :: x2 :: r, rest, acc, _, hs, h => by
    have hk := hs x (by simp) x2 (by simp)
    have ih := runsF_cat (x2 :: r) rest (acc ++ [x]) (by simp) (fun a ha b hb => hs a (List.mem_cons_of_mem _ ha) b (List.mem_cons_of_mem _ hb)) (fun a ha => h a (List.mem_cons_of_mem _ ha))
    rw [List.cons_append, List.cons_append, runsF, if_pos hk, ← List.cons_append, ih]
    simp
theorem runs_cat : ∀ {rs : List (List En)}, Runs rs → runsE rs.flatten = rs
  | [], _ => rfl
  | r :: rs, hR => by
    obtain ⟨hd, hd2⟩ := List.pairwise_cons.1 hR.diff
    have hR2 : Runs rs := ⟨fun r h => hR.some r (List.mem_cons_of_mem _ h), fun r h => hR.same r (List.mem_cons_of_mem _ h), hd2⟩
    rw [List.flatten_cons, runsE, runsF_cat r rs.flatten [] (hR.some r List.mem_cons_self) (hR.same r List.mem_cons_self) fun x hx y hy => by
      obtain ⟨r', hr', hy'⟩ := List.mem_flatten.1 hy
      exact hd r' hr' x hx y hy', List.nil_append]
    have ih := runs_cat hR2
    rw [runsE] at ih
    rw [ih]
/-- What of each run is kept, without empty partsR. -/
def partsR (bt : Bool) (ms : List Nat) (rs : List (List En)) : List (List En) := (rs.map (keepR bt ms)).filter fun r => !r.isEmpty
theorem partsR_flat (bt : Bool) (ms : List Nat) : ∀ (rs : List (List En)), (partsR bt ms rs).flatten = rs.flatMap (keepR bt ms)
  | [] => rfl
  | r :: rs => by
    have ih := partsR_flat bt ms rs
    rw [partsR] at ih ⊢
    rw [List.map_cons, List.filter_cons, List.flatMap_cons, ← ih]
    cases h : keepR bt ms r with
    | nil => rfl
    | cons x l => rfl
theorem partsR_runs {bt : Bool} {ms : List Nat} {rs : List (List En)} (hR : Runs rs) (hf : ∀ r ∈ rs, Fall r) : Runs (partsR bt ms rs) := by
  refine ⟨fun r hr => ?_, fun r hr => ?_, ?_⟩
  · have := (List.mem_filter.1 hr).2
    rintro rfl; simp at this
  · obtain ⟨r0, hr0, rfl⟩ := List.mem_map.1 (List.mem_filter.1 hr).1
    have hs := keepR_sub (hf r0 hr0) bt ms
    exact fun x hx y hy => hR.same r0 hr0 x (hs.subset hx) y (hs.subset hy)
  · refine List.Pairwise.filter _ (List.pairwise_map.2 (hR.diff.imp_of_mem fun {a b} ha hb h => fun x hx y hy => h x ((keepR_sub (hf a ha) bt ms).subset hx) y ((keepR_sub (hf b hb) bt ms).subset hy)))
theorem vis_nil (m : Nat) : visR m [] = none := rfl
theorem vis_parts {m : Nat} {bt : Bool} {ms : List Nat} : ∀ {rs : List (List En)}, (∀ r ∈ rs, Fall r) → (∀ r ∈ rs, good r ms m) → (partsR bt ms rs).filterMap (visR m) = rs.filterMap (visR m)
  | [], _, _ => rfl
  | r :: rs, hf, hg => by
    have ih := vis_parts (bt := bt) (fun r h => hf r (List.mem_cons_of_mem _ h)) (fun r h => hg r (List.mem_cons_of_mem _ h))
    have hv := vis_kept (hf r List.mem_cons_self) (bt := bt) (hg r List.mem_cons_self)
    rw [partsR] at ih ⊢
    rw [List.map_cons, List.filter_cons, List.filterMap_cons, ← hv]
    cases h : keepR bt ms r with
    | nil => rw [vis_nil]; exact ih
    | cons x l =>
      rw [if_pos (by simp), List.filterMap_cons]
      cases visR m (x :: l) with
      | none => exact ih
      | some v => simp only; rw [ih]
/-- What is kept of a list in order. -/
theorem same_law {l : List En} (ho : Ord l) (hc : ∀ x ∈ l, bigE x = false ∧ badE x = false) (bt : Bool) (ms : List Nat) :
    (keepE l bt ms).Sublist l ∧ worstE [keepE l bt ms] = 0 ∧ keepE (keepE l bt ms) bt ms = keepE l bt ms ∧ ∀ m, (m ∈ ms ∨ ∀ x ∈ l, x.seq ≤ m) → visE (keepE l bt ms) m = visE l m := by
  obtain ⟨hf, hR⟩ := runs_spec ho
  have hfall := fun r hr => fall_of ho (r := r) hR hr
  have hmem : ∀ r ∈ runsE l, ∀ y ∈ r, y ∈ l := fun r hr y hy => by rw [← hf]; exact List.mem_flatten.2 ⟨r, hr, hy⟩
  have hP := partsR_runs (bt := bt) (ms := ms) hR hfall
  have hk : keepE l bt ms = (partsR bt ms (runsE l)).flatten := (partsR_flat bt ms _).symm
  have hrk : runsE (keepE l bt ms) = partsR bt ms (runsE l) := by rw [hk]; exact runs_cat hP
  have hsub : (keepE l bt ms).Sublist l := by
    have key : ∀ (rs : List (List En)), (∀ r ∈ rs, Fall r) → (rs.flatMap (keepR bt ms)).Sublist rs.flatten := by
      intro rs
      induction rs with
      | nil => intro _; exact List.Sublist.refl _
      | cons r rs ih =>
        intro h
        rw [List.flatMap_cons, List.flatten_cons]
        exact (keepR_sub (h r List.mem_cons_self) bt ms).append (ih fun r hr => h r (List.mem_cons_of_mem _ hr))
    have := key _ hfall
    rwa [hf] at this
  refine ⟨hsub, worst_of (ho.sublist hsub) fun x hx => hc x (hsub.subset hx), ?_, fun m hm => ?_⟩
  · show (runsE (keepE l bt ms)).flatMap (keepR bt ms) = _
    rw [hrk, hk, flatMap_congr (g := id) fun r hr => by
      obtain ⟨r0, hr0, rfl⟩ := List.mem_map.1 (List.mem_filter.1 hr).1
      exact kept_again (hfall r0 hr0) bt ms]
    simp [List.flatMap_id]
  · rw [visE, hrk, visE, vis_parts hfall fun r hr => hm.elim good_mem fun h => good_all fun x hx => h x (hmem r hr x hx)]
end Go.Proofs.Ytmdbjeabifkimaa


/-
  Plain laws of numbers written in eight bytes, the greatest first. No program in sight.
-/
namespace Go.Proofs.Ytmdbjeabifkimaa

/-- The lowest k bytes of a number, the greatest first. -/
def ordK : Nat → Nat → List UInt8
  | 0, _ => []
  | k + 1, n => ordK k (n / 256) ++ [UInt8.ofNat n]
def ordU (n : Nat) : List UInt8 := ordK 8 n
def numB (l : List UInt8) : Nat := l.foldl (fun n x => n * 256 + x.toNat) 0
def getOrdU (b : List UInt8) (p : Int) : Nat × Int × Nat :=
  if p < 0 ∨ (b.length : Int) < p then (0, 0, 1)
  else if (b.length : Int) - p < 8 then (0, 0, 5)
  else (numB ((b.drop p.toNat).take 8), p + 8, 0)

theorem ordK_length : ∀ (k n : Nat), (ordK k n).length = k
  | 0, _ => rfl
  | k + 1, n => by simp [ordK, ordK_length k]
theorem ordU_length (n : Nat) : (ordU n).length = 8 := ordK_length 8 n
theorem numB_snoc (l : List UInt8) (x : UInt8) : numB (l ++ [x]) = numB l * 256 + x.toNat := by simp [numB]
theorem numB_ordK : ∀ (k n : Nat), numB (ordK k n) = n % 256 ^ k
  | 0, n => by simp [ordK, numB, Nat.mod_one]
  | k + 1, n => by
    rw [ordK, numB_snoc, numB_ordK k]
    rw [Nat.pow_succ, Nat.mul_comm (256 ^ k) 256, Nat.mod_mul]
    simp
    omega
theorem numB_ordU {n : Nat} (h : n < 2 ^ 64) : numB (ordU n) = n := by
  rw [ordU, numB_ordK]; exact Nat.mod_eq_of_lt h
theorem ordK_numB : ∀ (k : Nat) (l : List UInt8), l.length = k → ordK k (numB l) = l
  | 0, l, h => by simp [ordK, List.length_eq_zero_iff.1 h]
  | k + 1, l, h => by
    have hne : l ≠ [] := by rintro rfl; simp at h
    have e := List.dropLast_concat_getLast hne
    rw [← e, numB_snoc, ordK]
    have hx := (l.getLast hne).toNat_lt
    have e1 : (numB l.dropLast * 256 + (l.getLast hne).toNat) / 256 = numB l.dropLast := by omega
    rw [e1, ordK_numB k _ (by simp [h])]
    congr 2
    apply UInt8.toNat_inj.1
    simp
theorem ordU_numB {l : List UInt8} (h : l.length = 8) : ordU (numB l) = l := ordK_numB 8 l h
theorem numB_cons : ∀ (l : List UInt8) (a : Nat), l.foldl (fun n x => n * 256 + x.toNat) a = a * 256 ^ l.length + numB l
  | [], a => by simp [numB]
  | x :: l, a => by
    have h1 := numB_cons l (a * 256 + x.toNat)
    have h2 := numB_cons l (0 * 256 + x.toNat)
    simp only [numB, List.foldl_cons, List.length_cons] at h1 h2 ⊢
    rw [h1, h2, Nat.pow_succ]
    simp only [Nat.add_mul, Nat.mul_assoc, Nat.zero_mul, Nat.zero_add]
    rw [Nat.mul_comm 256 (256 ^ l.length)]
    omega
theorem numB_lt (l : List UInt8) : numB l < 256 ^ l.length := by
  have h := numB_ordK l.length (numB l)
  rw [ordK_numB _ l rfl] at h
  rw [h]; exact Nat.mod_lt _ (Nat.pow_pos (by decide))
theorem cmp_num : ∀ (a b : List UInt8), a.length = b.length → (cmpB a b < 0 ↔ numB a < numB b)
  | [], [], _ => by simp [cmpB, numB]
  | [], _ :: _, h => by simp at h
  | _ :: _, [], h => by simp at h
  | x :: a, y :: b, h => by
    simp only [List.length_cons, Nat.add_right_cancel_iff] at h
    have ha : numB (x :: a) = x.toNat * 256 ^ a.length + numB a := by
      have := numB_cons a (0 * 256 + x.toNat); simp only [numB, List.foldl_cons] at this ⊢; rw [this]; simp
    have hb : numB (y :: b) = y.toNat * 256 ^ a.length + numB b := by
      have := numB_cons b (0 * 256 + y.toNat); simp only [numB, List.foldl_cons] at this ⊢; rw [this, h]; simp
    have la := numB_lt a
    have lb := numB_lt b
    rw [← h] at lb
    rw [ha, hb]
    by_cases h1 : x < y
    · rw [cmp_lt h1]
      rw [UInt8.lt_iff_toNat_lt] at h1
      have := Nat.mul_le_mul_right (256 ^ a.length) (show x.toNat + 1 ≤ y.toNat from h1)
      rw [Nat.add_mul, Nat.one_mul] at this
      constructor
      · intro _; omega
      · intro _; decide
    · by_cases h2 : y < x
      · rw [cmp_gt h2]
        rw [UInt8.lt_iff_toNat_lt] at h2
        have := Nat.mul_le_mul_right (256 ^ a.length) (show y.toNat + 1 ≤ x.toNat from h2)
        rw [Nat.add_mul, Nat.one_mul] at this
        constructor
        · intro h; omega
        · intro h; omega
      · have e : x = y := UInt8.le_antisymm (UInt8.not_lt.1 h2) (UInt8.not_lt.1 h1)
        subst e
        rw [cmp_same, cmp_num a b h]
        omega
theorem cmp_ordU {n m : Nat} (hn : n < 2 ^ 64) (hm : m < 2 ^ 64) : (cmpB (ordU n) (ordU m) < 0) = (n < m) := by
  rw [cmp_num _ _ (by rw [ordU_length, ordU_length]), numB_ordU hn, numB_ordU hm]
theorem ordK_get : ∀ (k n i : Nat), i < k → (ordK k n)[i]? = some (UInt8.ofNat (n / 256 ^ (k - 1 - i)))
  | 0, _, _, h => by omega
  | k + 1, n, i, h => by
    rw [ordK]
    by_cases hi : i < k
    · rw [List.getElem?_append_left (by rw [ordK_length]; exact hi), ordK_get k _ i hi, Nat.div_div_eq_div_mul]
      have e : 256 * 256 ^ (k - 1 - i) = 256 ^ (k + 1 - 1 - i) := by
        rw [show k + 1 - 1 - i = (k - 1 - i) + 1 by omega, Nat.pow_succ, Nat.mul_comm]
      rw [e]
    · have : i = k := by omega
      subst this
      rw [List.getElem?_append_right (by rw [ordK_length]; omega), ordK_length]
      simp
theorem numB_step {l : List UInt8} {k : Nat} {x : UInt8} (h : l[k]? = some x) : numB (l.take (k + 1)) = numB (l.take k) * 256 + x.toNat := by
  rw [take_getR h, numB_snoc]
theorem xor_top {u : Nat} (h : u < 2 ^ 64) : u ^^^ 9223372036854775808 = (u + 9223372036854775808) % 18446744073709551616 := by
  rw [show 9223372036854775808 = 2 ^ 63 from rfl, show 18446744073709551616 = 2 ^ 64 from rfl]
  apply Nat.eq_of_testBit_eq
  intro j
  rw [Nat.testBit_xor, Nat.testBit_mod_two_pow, Nat.add_comm]
  rcases Nat.lt_trichotomy j 63 with hj | hj | hj
  · rw [Nat.testBit_two_pow_of_ne (by omega), Nat.testBit_two_pow_add_gt hj]
    have : j < 64 := by omega
    simp [this]
  · subst hj
    rw [Nat.testBit_two_pow_self, Nat.testBit_two_pow_add_eq]
    simp
  · rw [Nat.testBit_two_pow_of_ne (by omega), Nat.testBit_lt_two_pow (Nat.lt_of_lt_of_le h (Nat.pow_le_pow_right (by decide) (by omega)))]
    have : ¬ j < 64 := by omega
    simp [this]
theorem getOrdU_arg {b : List UInt8} {p : Int} (h : ¬ (0 ≤ p ∧ p ≤ b.length)) : getOrdU b p = (0, 0, 1) := by
  rw [getOrdU, if_pos (by omega)]
theorem getOrdU_end {b : List UInt8} {p : Int} (h : 0 ≤ p ∧ p ≤ b.length) (h8 : (b.length : Int) - p < 8) : getOrdU b p = (0, 0, 5) := by
  rw [getOrdU, if_neg (by omega), if_pos h8]
theorem getOrdU_ok {b : List UInt8} {q : Nat} (h : q + 8 ≤ b.length) : getOrdU b q = (numB ((b.drop q).take 8), (q : Int) + 8, 0) := by
  rw [getOrdU, if_neg (by omega), if_neg (by omega)]; simp
theorem getOrdU_cases (b : List UInt8) (p : Int) : (∃ e : Nat, ¬ e = 0 ∧ getOrdU b p = (0, 0, e)) ∨ ∃ q : Nat, p = q ∧ q + 8 ≤ b.length ∧ getOrdU b p = (numB ((b.drop q).take 8), (q : Int) + 8, 0) := by
  by_cases h : 0 ≤ p ∧ p ≤ b.length
  · by_cases h8 : (b.length : Int) - p < 8
    · exact .inl ⟨5, by decide, getOrdU_end h h8⟩
    · obtain ⟨q, rfl⟩ := Int.eq_ofNat_of_zero_le h.1
      exact .inr ⟨q, rfl, by omega, getOrdU_ok (by omega)⟩
  · exact .inl ⟨1, by decide, getOrdU_arg h⟩
end Go.Proofs.Ytmdbjeabifkimaa


/-
  Plain laws of the sum: what a step of the division does, that it keeps differences, and that no change within 32 bits of one another goes unseen. No program in sight.
-/
namespace Go.Proofs.Ytmdbjeabifkimaa

def stepC (x : Nat) : Nat := if x % 2 = 1 then (x / 2) ^^^ 3988292384 else x / 2
def stepsC : Nat → Nat → Nat
  | 0, x => x
  | k + 1, x => stepsC k (stepC x)
def eightC (x : Nat) : Nat := stepsC 8 x
def crcRaw (x : Nat) (l : List UInt8) : Nat := l.foldl (fun x b => eightC (x ^^^ b.toNat)) x
def crcOf (l : List UInt8) : Nat := 4294967295 - crcRaw 4294967295 l

theorem stepC_odd {x : Nat} (h : x % 2 = 1) : stepC x = (x / 2) ^^^ 3988292384 := by rw [stepC, if_pos h]
theorem stepC_even {x : Nat} (h : ¬ x % 2 = 1) : stepC x = x / 2 := by rw [stepC, if_neg h]
theorem xor_div2 (a b : Nat) : (a ^^^ b) / 2 = a / 2 ^^^ b / 2 := by
  have := Nat.shiftRight_xor_distrib (a := a) (b := b) (i := 1)
  simpa [Nat.shiftRight_succ] using this
theorem xor_mod2 (a b : Nat) : (a ^^^ b) % 2 = (a + b) % 2 := by
  have h := Nat.testBit_xor a b 0
  simp only [Nat.testBit_zero] at h
  rcases Nat.mod_two_eq_zero_or_one a with ha | ha <;> rcases Nat.mod_two_eq_zero_or_one b with hb | hb <;> rcases Nat.mod_two_eq_zero_or_one (a ^^^ b) with hc | hc <;> simp [ha, hb, hc] at h <;> omega
theorem step_xor (a b : Nat) : stepC (a ^^^ b) = stepC a ^^^ stepC b := by
  have hm := xor_mod2 a b
  have hd := xor_div2 a b
  by_cases ha : a % 2 = 1
  · by_cases hb : b % 2 = 1
    · rw [stepC_even (by omega), stepC_odd ha, stepC_odd hb, hd]
      rw [Nat.xor_assoc, Nat.xor_comm 3988292384 (b / 2 ^^^ 3988292384), Nat.xor_assoc, Nat.xor_self, Nat.xor_zero]
    · rw [stepC_odd (by omega), stepC_odd ha, stepC_even hb, hd]
      rw [Nat.xor_assoc, Nat.xor_assoc, Nat.xor_comm (b / 2)]
  · by_cases hb : b % 2 = 1
    · rw [stepC_odd (by omega), stepC_even ha, stepC_odd hb, hd, Nat.xor_assoc]
    · rw [stepC_even (by omega), stepC_even ha, stepC_even hb, hd]
theorem steps_xor : ∀ (k a b : Nat), stepsC k (a ^^^ b) = stepsC k a ^^^ stepsC k b
  | 0, _, _ => rfl
  | k + 1, a, b => by simp only [stepsC]; rw [step_xor, steps_xor k]
theorem steps_add : ∀ (k m a : Nat), stepsC (k + m) a = stepsC m (stepsC k a)
  | 0, m, a => by rw [Nat.zero_add]; rfl
  | k + 1, m, a => by rw [show k + 1 + m = (k + m) + 1 by omega]; simp only [stepsC]; rw [steps_add k m]
theorem steps_zero : ∀ (k : Nat), stepsC k 0 = 0
  | 0 => rfl
  | k + 1 => by simp only [stepsC]; rw [show stepC 0 = 0 from rfl, steps_zero k]
theorem step_lt {x : Nat} (h : x < 4294967296) : stepC x < 4294967296 := by
  unfold stepC
  split
  · exact Nat.xor_lt_two_pow (n := 32) (by omega) (by decide)
  · omega
theorem steps_lt : ∀ (k : Nat) {x : Nat}, x < 4294967296 → stepsC k x < 4294967296
  | 0, _, h => h
  | k + 1, _, h => steps_lt k (step_lt h)
theorem steps_shift : ∀ (k m : Nat), stepsC k (m * 2 ^ k) = m
  | 0, m => by simp [stepsC]
  | k + 1, m => by
    have e : m * 2 ^ (k + 1) = 2 * (m * 2 ^ k) := by rw [Nat.pow_succ, ← Nat.mul_assoc, Nat.mul_comm]
    simp only [stepsC]
    rw [e, stepC_even (by omega), Nat.mul_div_cancel_left _ (by decide), steps_shift k]
theorem step_ne {x : Nat} (h : x < 4294967296) (h0 : x ≠ 0) : stepC x ≠ 0 := by
  intro hc
  by_cases ho : x % 2 = 1
  · rw [stepC_odd ho] at hc
    have e : x / 2 = 3988292384 := by
      have := congrArg (· ^^^ 3988292384) hc
      simpa [Nat.xor_assoc] using this
    omega
  · rw [stepC_even ho] at hc; omega
theorem steps_ne : ∀ (k : Nat) {x : Nat}, x < 4294967296 → x ≠ 0 → stepsC k x ≠ 0
  | 0, _, _, h => h
  | k + 1, _, h, h0 => steps_ne k (step_lt h) (step_ne h h0)
/-- A burst of 32 bits, wherever it begins, is never lost. -/
theorem burst_ne {n a d : Nat} (hd : d < 4294967296) (h0 : d ≠ 0) (ha : a ≤ n) : stepsC n (d * 2 ^ a) ≠ 0 := by
  obtain ⟨m, rfl⟩ := Nat.exists_eq_add_of_le ha
  rw [steps_add, steps_shift]
  exact steps_ne m hd h0
theorem xor_low (q r : Nat) (hr : r < 256) : q * 256 ^^^ r = q * 256 + r := by
  have h1 : (q * 256 ^^^ r) / 256 = q := by
    have := Nat.shiftRight_xor_distrib (a := q * 256) (b := r) (i := 8)
    simp only [Nat.shiftRight_eq_div_pow] at this
    rw [show (2 : Nat) ^ 8 = 256 from rfl, Nat.mul_div_cancel _ (by decide), Nat.div_eq_of_lt hr, Nat.xor_zero] at this
    exact this
  have h2 : (q * 256 ^^^ r) % 256 = r := by
    have := Nat.xor_mod_two_pow (a := q * 256) (b := r) (n := 8)
    rw [show (2 : Nat) ^ 8 = 256 from rfl, Nat.mul_mod_left, Nat.zero_xor, Nat.mod_eq_of_lt hr] at this
    exact this
  omega
theorem eight_high (q : Nat) : eightC (q * 256) = q := steps_shift 8 q
/-- A byte's entry does for it. -/
theorem eight_split (x : Nat) (b : UInt8) : eightC (x ^^^ b.toNat) = x / 256 ^^^ eightC (x % 256 ^^^ b.toNat) := by
  have e : x = x / 256 * 256 ^^^ x % 256 := by rw [xor_low _ _ (Nat.mod_lt _ (by decide))]; omega
  have e2 : eightC (x ^^^ b.toNat) = eightC (x / 256 * 256 ^^^ (x % 256 ^^^ b.toNat)) := by
    rw [← Nat.xor_assoc, ← e]
  rw [e2]
  unfold eightC
  rw [steps_xor]
  congr 1
  exact eight_high (x / 256)
theorem eight_lt {x : Nat} (h : x < 4294967296) : eightC x < 4294967296 := steps_lt 8 h
theorem xorb_lt {x : Nat} (h : x < 4294967296) (b : UInt8) : x ^^^ b.toNat < 4294967296 :=
  Nat.xor_lt_two_pow (n := 32) h (Nat.lt_trans b.toNat_lt (by decide))
theorem raw_cons (x : Nat) (b : UInt8) (l : List UInt8) : crcRaw x (b :: l) = crcRaw (eightC (x ^^^ b.toNat)) l := rfl
theorem raw_snoc (x : Nat) (b : UInt8) (l : List UInt8) : crcRaw x (l ++ [b]) = eightC (crcRaw x l ^^^ b.toNat) := by simp [crcRaw]
theorem raw_append (x : Nat) (l m : List UInt8) : crcRaw x (l ++ m) = crcRaw (crcRaw x l) m := by simp [crcRaw]
theorem raw_lt : ∀ (l : List UInt8) {x : Nat}, x < 4294967296 → crcRaw x l < 4294967296
  | [], _, h => h
  | b :: l, _, h => raw_lt l (eight_lt (xorb_lt h b))
theorem crcOf_lt (l : List UInt8) : crcOf l < 4294967296 := by unfold crcOf; omega

/-- Bytes as one number, the lowest first. -/
def low : List UInt8 → Nat
  | [] => 0
  | b :: l => low l * 256 + b.toNat
theorem raw_low : ∀ (l : List UInt8) (x : Nat), crcRaw x l = stepsC (8 * l.length) (x ^^^ low l)
  | [], x => by simp [crcRaw, low, stepsC]
  | b :: l, x => by
    have hb := b.toNat_lt
    rw [raw_cons, raw_low l, List.length_cons, show 8 * (l.length + 1) = 8 + 8 * l.length by omega, steps_add]
    congr 1
    rw [low, ← xor_low _ _ hb, Nat.xor_comm (low l * 256), ← Nat.xor_assoc, steps_xor]
    congr 1
    exact (eight_high _).symm
theorem raw_diff (x : Nat) {l m : List UInt8} (h : l.length = m.length) : crcRaw x l ^^^ crcRaw x m = stepsC (8 * l.length) (low l ^^^ low m) := by
  rw [raw_low, raw_low, ← h, ← steps_xor]
  congr 1
  rw [Nat.xor_comm x (low l), Nat.xor_assoc, ← Nat.xor_assoc x x, Nat.xor_self, Nat.zero_xor]
theorem low_set : ∀ (l : List UInt8) (i j : Nat) (x : UInt8), l[i]? = some x → j < 8 → low (l.set i (UInt8.ofNat (x.toNat ^^^ 2 ^ j))) = low l ^^^ 2 ^ (8 * i + j)
  | [], _, _, _, h, _ => by simp at h
  | b :: l, 0, j, x, h, hj => by
    simp only [List.getElem?_cons_zero, Option.some.injEq] at h
    subst h
    have hp : 2 ^ j < 256 := Nat.lt_of_lt_of_le (Nat.pow_lt_pow_right (by decide) hj) (by decide)
    have hx : b.toNat ^^^ 2 ^ j < 256 := Nat.xor_lt_two_pow (n := 8) b.toNat_lt hp
    simp only [List.set_cons_zero, low]
    have ex : (UInt8.ofNat (b.toNat ^^^ 2 ^ j)).toNat = b.toNat ^^^ 2 ^ j := by rw [UInt8.toNat_ofNat']; exact Nat.mod_eq_of_lt hx
    rw [ex, ← xor_low _ _ hx, ← xor_low _ _ b.toNat_lt, Nat.xor_assoc]
    simp
  | b :: l, i + 1, j, x, h, hj => by
    simp only [List.getElem?_cons_succ] at h
    simp only [List.set_cons_succ, low]
    rw [low_set l i j x h hj, ← xor_low _ _ b.toNat_lt, ← xor_low _ _ b.toNat_lt]
    have e : (low l ^^^ 2 ^ (8 * i + j)) * 256 = low l * 256 ^^^ 2 ^ (8 * (i + 1) + j) := by
      have h1 : ∀ a b : Nat, (a ^^^ b) * 256 = a * 256 ^^^ b * 256 := fun a b => by
        have := Nat.shiftLeft_xor_distrib (a := a) (b := b) (i := 8)
        simpa only [Nat.shiftLeft_eq] using this
      rw [h1, show 8 * (i + 1) + j = (8 * i + j) + 8 by omega, Nat.pow_add 2 (8 * i + j) 8]
    rw [e, Nat.xor_assoc, Nat.xor_comm (2 ^ (8 * (i + 1) + j)), ← Nat.xor_assoc]
end Go.Proofs.Ytmdbjeabifkimaa
