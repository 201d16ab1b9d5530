
/-
  The engine's rules for strings: length, index, a part, equality, bytes and runes made of a string and back, and a range over a string. Nothing here names the program.
-/
import Derived.Test.YtcjiecclmepboaaMem
import Derived.Test.YtcjiecclmepboaaTa
import Derived.Laws.IdiomStrings
import Derived.Laws.Cover4
import Derived.Lib.OthersKept
namespace Go.Proofs.Ytcjiecclmepboaa
open Go.RowKit

/-- Bytes as a string of the model. -/
abbrev str (l : List UInt8) : Value := .string ⟨l.toArray⟩
section
variable {P : Program} {N : Nat} {ops : Array Oper} {Q : Exit → Act → World → Prop} {rest : List Oper} {L : FL} {w : World} {t e : TypeId}
theorem str_of (s : ByteArray) : ∃ l : List UInt8, s = ⟨l.toArray⟩ := ⟨s.data.toList, by cases s; rfl⟩
theorem size_list (l : List UInt8) : (⟨l.toArray⟩ : ByteArray).size = l.length := rfl
theorem opv_lenL {x : Operand} {ty : TypeId} {l : List UInt8} (hx : look L x = some (str l)) (ht : P.underlying t = some .string) :
    OpV P (.call { callee := .builtin .len, args := #[x], argTypes := #[t] }) ty L w (.int .i64 (l.length : Int)) w := opv_lenS hx ht
theorem opv_idxS {x i : Operand} {ty : TypeId} {l : List UInt8} {ik : IntKind} {q : Int} {kk : Nat} {b : UInt8} (ht : P.underlying t = some .string) (hx : look L x = some (str l)) (hi : look L i = some (.int ik q)) (hq : q = (kk : Int)) (hb : l[kk]? = some b) :
    OpV P (.index t x i) ty L w (.int .u8 (b.toNat : Int)) w := fun ρ o hρ ho _ => by
  subst hq
  have hg : (⟨l.toArray⟩ : ByteArray)[((kk : Int)).toNat]? = some b := by
    have hk := (List.getElem?_eq_some_iff.1 hb).1
    have hk' : kk < (⟨l.toArray⟩ : ByteArray).size := hk
    rw [Int.toNat_natCast, getElem?_pos (⟨l.toArray⟩ : ByteArray) kk hk']
    have : (⟨l.toArray⟩ : ByteArray)[kk]'hk' = l[kk] := rfl
    rw [this]; rw [List.getElem?_eq_getElem hk] at hb; exact hb
  unfold execOp
  simp only [ho, Instr.index, hρ x _ hx, hρ i _ hi, asIntOf, Sem.run_bind, Sem.run_pure, Result.andThen_ok, run_underlying ht]
  have h0 : (0 : Int) ≤ (kk : Int) := by omega
  simp only [h0, if_true, hg]
  simp
theorem extract_any (l : List UInt8) (a b : Nat) : (⟨l.toArray⟩ : ByteArray).extract a b = ⟨((l.take b).drop a).toArray⟩ := by
  apply ByteArray.ext
  rw [ByteArray.data_extract]
  simp [List.extract_eq_take_drop, List.drop_take]
theorem extract_list (l : List UInt8) (a b : Nat) (h : b ≤ l.length) : (⟨l.toArray⟩ : ByteArray).extract a b = ⟨((l.take b).drop a).toArray⟩ := by
  apply ByteArray.ext
  rw [ByteArray.data_extract]
  simp [List.extract_eq_take_drop, List.drop_take]
theorem opv_slS {x : Operand} {lo hi : Option Operand} {ty : TypeId} {l : List UInt8} {a b : Nat} (ht : P.underlying t = some .string) (hx : look L x = some (str l)) (hl : SLo L lo a) (hh : SHi L l.length hi b) (h1 : a ≤ b) (h2 : b ≤ l.length) :
    OpV P (.slice t x lo hi none) ty L w (str ((l.take b).drop a)) w := fun ρ o hρ ho _ => by
  have e1 : (Instr.sliceBounds false l.length l.length (lo.map ρ) (hi.map ρ) none).run P w = .ok (a, b, l.length) w := by
    cases lo with
    | none =>
      cases hi with
      | none => have c := hl; have d := hh; simp only [SLo, SHi] at c d; subst c d; simp [Instr.sliceBounds]
      | some y =>
        have c := hl; obtain ⟨k, d⟩ := hh; simp only [SLo] at c; subst c
        simp [Instr.sliceBounds, Instr.sliceBound, hρ y _ d, asIntOf, h2]
    | some u =>
      obtain ⟨k, c⟩ := hl
      cases hi with
      | none => have d := hh; simp only [SHi] at d; subst d; simp [Instr.sliceBounds, Instr.sliceBound, hρ u _ c, asIntOf, h1]
      | some y =>
        obtain ⟨k', d⟩ := hh
        simp [Instr.sliceBounds, Instr.sliceBound, hρ u _ c, hρ y _ d, asIntOf, h1, h2]
  unfold execOp
  simp only [ho, Instr.sliceAt, Instr.slice, Sem.run_bind, run_underlying ht, Result.andThen_ok, hρ x _ hx, Option.map_none, size_list, e1]
  simp [e1, extract_list l a b h2]
theorem toList_list (l : List UInt8) : (⟨l.toArray⟩ : ByteArray).toList = l := by rw [ByteArray.toList_eq]
theorem bin_eqlS {a b : List UInt8} : BinV P .eql t (str a) (str b) (.bool (decide (a = b))) := .mk fun x y w => by
  have e : (a == b) = decide (a = b) := by by_cases h : a = b <;> simp [h]
  simp [eqGuard, binOp, Op.stringOp, toList_list, e]
theorem bin_neqS {a b : List UInt8} : BinV P .neq t (str a) (str b) (.bool (decide (a ≠ b))) := .mk fun x y w => by
  have e : (a == b) = decide (a = b) := by by_cases h : a = b <;> simp [h]
  simp [eqGuard, binOp, Op.stringOp, toList_list, e, bne]
theorem bin_catS {a b : List UInt8} (h : a.length + b.length ≤ 9223372036854775807) : BinV P .add t (str a) (str b) (str (a ++ b)) := .mk fun x y w => by
  have h' : ¬ (((a.length + b.length : Nat) : Int) > 9223372036854775807) := by omega
  have hm : IntKind.i64.max = 9223372036854775807 := by decide
  have e : (⟨a.toArray⟩ : ByteArray) ++ ⟨b.toArray⟩ = ⟨(a ++ b).toArray⟩ := by apply ByteArray.ext; simp
  simp only [eqGuard, binOp, Op.stringOp, size_list, hm, if_neg h', e]
  simp

/-! #### Conversions -/
theorem opv_ofBytes {x : Operand} {src dst ty : TypeId} {A : Option Addr} {n c : Nat} {l : List UInt8} (hs : P.underlying src = some (.slice e)) (he : P.underlying e = some (.int .u8)) (hd : P.underlying dst = some .string) (hx : look L x = some (.slice A n c)) (hr : Rd w A n (bvs l)) :
    OpV P (.convert src dst x) ty L w (str l) w := fun ρ o hρ ho _ => by
  have hn : l.length = n := by have := hr.1; rwa [bvs_length] at this
  subst hn
  have hrun : (convert src dst (.slice A l.length c)).run P w = .ok (str l) w := by
    by_cases h0 : l.length = 0
    · have : l = [] := List.eq_nil_of_length_eq_zero h0
      subst this
      cases A with
      | none => rw [run_convert_bytes_string w src dst e _ _ _ hs he hd]; simp [Conv.bytesToString]; rfl
      | some a => exact run_convert_bytes_back w src dst e a c [] hs he hd (fun j hj => by simp at hj)
    · obtain ⟨b, o, rfl, _, hc⟩ := hr.2 (by omega)
      exact run_convert_bytes_back w src dst e _ c l hs he hd fun j hj => by
        rw [Addr.add_lit]; exact hc j _ (by rw [bvs_get _ _ hj]; rfl)
  unfold execOp
  simp only [ho, hρ x _ hx, Sem.run_bind, hrun]
  simp
/-- []byte(s): bytes that can be read. -/
theorem wl_toBytes {d : Nat} {x : Operand} {src dst ty : TypeId} {pos : String} {aft : Array Edge} {l : List UInt8} (hs : P.underlying src = some .string) (hd' : P.underlying dst = some (.slice e)) (he : P.underlying e = some (.int .u8)) (hx : look L x = some (str l)) (hd : Nat.blt d N = true)
    (h : ∀ A c w', Rd w' A l.length (bvs l) → l.length ≤ c → Below w.heap.size w w' → WL P N ops Q rest ((d, .slice A l.length c) :: L) w') :
    WL P N ops Q (⟨some d, .convert src dst x, ty, pos, aft, none⟩ :: rest) L w := by
  have hrun := run_bytes_of_string (P := P) w src dst e ⟨l.toArray⟩ hs hd' he
  refine wl_val (w' := w.drew.alloc (.cells (bytesRow ⟨l.toArray⟩ (grownCap w l.length 0 e)) e ((bytesRow ⟨l.toArray⟩ (grownCap w l.length 0 e)).size, (bytesRow ⟨l.toArray⟩ (grownCap w l.length 0 e)).size + 1))) (v := .slice (some ⟨w.heap.size, 0, none⟩) l.length (grownCap w l.length 0 e)) (fun ρ o hρ ho _ => ?_) hd (h _ _ _ ?_ (grownCap_ge w l.length 0 e) ?_)
  · unfold execOp
    simp only [ho, hρ x _ hx, Sem.run_bind]
    rw [hrun]
    simp only [Result.andThen_ok, Sem.run_pure, size_list]
  · refine ⟨bvs_length l, fun hn => ⟨w.heap.size, 0, rfl, by simp, fun j u hu => ?_⟩⟩
    have hj : j < l.length := by have := (List.getElem?_eq_some_iff.1 hu).1; rwa [bvs_length] at this
    have := World.cell?_alloc_mark w.drew (bytesRow ⟨l.toArray⟩ (grownCap w l.length 0 e)) e ((bytesRow ⟨l.toArray⟩ (grownCap w l.length 0 e)).size, (bytesRow ⟨l.toArray⟩ (grownCap w l.length 0 e)).size + 1) j
    rw [Nat.zero_add]
    refine Eq.trans this ?_
    rw [bvs_get _ _ hj] at hu
    rw [← hu]
    unfold bytesRow
    rw [Array.getElem?_append_left (by simp; exact hj)]
    simp [hj, bv]
  · exact ((Below.refl _ _).drew).alloc (by simp) _
/-- string(list of runes). -/
def runeV (c : Int) : Value := .int .i32 c
def encsZ (cs : List Int) : List UInt8 := cs.flatMap Lib.encodeRune
theorem encode_list (c : Int) : Utf8.encode c = ⟨(Lib.encodeRune c).toArray⟩ := by
  by_cases hv : Utf8.valid c = true
  · have hv' : (0 ≤ c ∧ c < 55296) ∨ (57344 ≤ c ∧ c ≤ 1114111) := by simpa [Utf8.valid] using hv
    obtain ⟨n, rfl⟩ := Int.eq_ofNat_of_zero_le (show 0 ≤ c by omega)
    have hval : Val n := by unfold Val; omega
    have e0 : Lib.encodeRune (n : Int) = enc n := rfl
    simp only [Utf8.encode, hv, if_true, Int.toNat_natCast]
    rw [e0]
    rcases val_cases hval with h1 | ⟨h1, h2⟩ | h1 | ⟨h1, h2⟩
    · rw [if_pos (by omega), enc_one h1]
    · rw [if_neg (by omega), if_pos (by omega), enc_two h1 h2]
    · rw [if_neg (by omega), if_neg (by omega), if_pos (by omega), enc_three h1]
    · rw [if_neg (by omega), if_neg (by omega), if_neg (by omega), enc_four h1 h2]
  · have hv' : ¬ ((0 ≤ c ∧ c < 55296) ∨ (57344 ≤ c ∧ c ≤ 1114111)) := by intro h; apply hv; simpa [Utf8.valid] using h
    have hb : Lib.encodeRune c = [239, 191, 189] := by
      rw [Lib.encodeRune, Lib.encodeRuneZ_bad (by omega)]; rfl
    have hf : Utf8.valid c = false := by simpa using hv
    rw [hb]
    simp [Utf8.encode, hf, Utf8.runeError]
theorem runesBytes_list (cs : List Int) : runesBytes cs = ⟨(encsZ cs).toArray⟩ := by
  have key : ∀ (cs : List Int) (a : List UInt8), cs.foldl (fun r n => r ++ Utf8.encode n) (⟨a.toArray⟩ : ByteArray) = ⟨(a ++ encsZ cs).toArray⟩ := by
    intro cs
    induction cs with
    | nil => intro a; simp [encsZ]
    | cons c cs ih =>
      intro a
      have e : (⟨a.toArray⟩ : ByteArray) ++ Utf8.encode c = ⟨(a ++ Lib.encodeRune c).toArray⟩ := by
        rw [encode_list]; apply ByteArray.ext; simp
      rw [List.foldl_cons, e, ih]
      simp [encsZ]
  have := key cs []
  rw [List.nil_append] at this
  exact this
theorem opv_ofRunes {x : Operand} {src dst ty : TypeId} {A : Option Addr} {n c : Nat} {cs : List Int} (hs : P.underlying src = some (.slice e)) (he : P.underlying e = some (.int .i32)) (hd : P.underlying dst = some .string) (hx : look L x = some (.slice A n c)) (hr : Rd w A n (cs.map runeV)) :
    OpV P (.convert src dst x) ty L w (str (encsZ cs)) w := fun ρ o hρ ho _ => by
  have hn : cs.length = n := by have := hr.1; simpa using this
  subst hn
  have hrun : (convert src dst (.slice A cs.length c)).run P w = .ok (str (encsZ cs)) w := by
    by_cases h0 : cs.length = 0
    · have : cs = [] := List.eq_nil_of_length_eq_zero h0
      subst this
      cases A with
      | none => rw [run_convert_runes_nil w src dst e _ _ hs he hd]; rfl
      | some a =>
        rw [show ([] : List Int).length = 0 from rfl, run_convert_runes w src dst e a 0 c [] (by simp) hs he hd (by simp)]; rfl
    · obtain ⟨b, o, rfl, _, hc⟩ := hr.2 (by omega)
      rw [run_convert_runes w src dst e _ cs.length c cs (Nat.le_refl _) hs he hd fun j hj => by
        rw [Addr.add_lit]
        refine hc j _ ?_
        simp [runeV, List.getD, List.getElem?_eq_getElem hj]]
      rw [List.take_of_length_le (Nat.le_refl _), runesBytes_list]
  unfold execOp
  simp only [ho, hρ x _ hx, Sem.run_bind, hrun]
  simp

/-! #### A range over a string -/
def It (w : World) (k : Nat) (l : List UInt8) (p : Nat) : Prop := w.heap[k]? = some (.stringIter ⟨l.toArray⟩ p)
theorem It.lt {k p : Nat} {l : List UInt8} (h : It w k l p) : k < w.heap.size := (Array.getElem?_eq_some_iff.1 h).1
theorem It.bel {w' : World} {k p : Nat} {l : List UInt8} (h : It w k l p) (hb : Below w.heap.size w w') : It w' k l p := (hb.block k h.lt).trans h
theorem It.ne_own {k p : Nat} {l : List UInt8} {base n c : Nat} {A : Option Addr} {xs : List Value} (h : It w k l p) (ho : Ow w base e A n c xs) : ∀ a, A = some a → a.block ≠ k := fun a ha hk => by
  rcases ho.2 with ⟨hv, _⟩ | ⟨g, cap, cur, hv, _, hg, _⟩
  · injection hv with hA; rw [ha] at hA; cases hA
  · injection hv with hA; rw [ha] at hA; cases hA
    dsimp only at hk; subst hk
    unfold It at h; rw [hg] at h; cases h
theorem It.gr {w' : World} {k p : Nat} {l : List UInt8} {base n c : Nat} {A : Option Addr} {xs : List Value} (h : It w k l p) (g : Gr w w' A) (ho : Ow w base e A n c xs) : It w' k l p :=
  (g.block k h.lt fun hk => by
    cases A with
    | none => simp at hk
    | some a => simp at hk; exact h.ne_own ho a rfl hk.symm).trans h
theorem It.gr' {w' : World} {k p : Nat} {l : List UInt8} {A : Option Addr} (h : It w k l p) (g : Gr w w' A) (hA : ∀ a, A = some a → a.block ≠ k) : It w' k l p :=
  (g.block k h.lt fun hk => by
    cases A with
    | none => simp at hk
    | some a => simp at hk; exact hA a rfl hk.symm).trans h
theorem Gr.belowI {w0 w' : World} {B g : Nat} (h : Gr w w' (some ⟨g, 0, none⟩)) (h0 : Below B w0 w) (hg : B ≤ g) (hB : B ≤ w.heap.size) : Below B w0 w' :=
  h0.grown h hB fun k hk => by simp at hk; omega
theorem ne_push {A A' B : Option Addr} (hne : ∀ a b, A = some a → B = some b → a.block ≠ b.block) (hat : A'.map (·.block) = A.map (·.block) ∨ ∀ a', A' = some a' → w.heap.size ≤ a'.block) (hB : ∀ b, B = some b → b.block < w.heap.size) :
    ∀ a b, A' = some a → B = some b → a.block ≠ b.block := fun a b ha hb => by
  rcases hat with hat | hat
  · rw [ha] at hat
    cases A with
    | none => simp at hat
    | some a0 => simp at hat; rw [hat]; exact hne a0 b rfl hb
  · have := hat a ha; have := hB b hb; omega
theorem ne_comm {A B : Option Addr} (hne : ∀ a b, A = some a → B = some b → a.block ≠ b.block) : ∀ b a, B = some b → A = some a → b.block ≠ a.block := fun b a hb ha h => hne a b ha hb h.symm
theorem wl_range {d : Nat} {x : Operand} {ty : TypeId} {pos : String} {aft : Array Edge} {l : List UInt8} (ht : P.underlying t = some .string) (hx : look L x = some (str l)) (hd : Nat.blt d N = true)
    (h : ∀ k w', w.heap.size ≤ k → It w' k l 0 → Below w.heap.size w w' → WL P N ops Q rest ((d, .pointer (some ⟨k, 0, none⟩)) :: L) w') :
    WL P N ops Q (⟨some d, .range t x, ty, pos, aft, none⟩ :: rest) L w := by
  have hrun := run_range_string (P := P) w t ⟨l.toArray⟩ ht
  refine wl_val (v := .pointer (some ⟨w.heap.size, 0, none⟩)) (w' := w.iter ⟨l.toArray⟩ 0) (fun ρ o hρ ho _ => ?_) hd (h _ _ (Nat.le_refl _) (World.iter_heap _ _ _) ((Below.refl _ _).alloc (Nat.le_refl _) _))
  unfold execOp
  simp only [ho, hρ x _ hx, Sem.run_bind, hrun]
  simp
/-- The next rune, if there is one; the world has changed at the iterator alone. -/
theorem wl_next {d : Nat} {x : Operand} {ty : TypeId} {pos : String} {aft : Array Edge} {k p : Nat} {l : List UInt8} (hx : look L x = some (.pointer (some ⟨k, 0, none⟩))) (hi : It w k l p) (hp : p < l.length) (hd : Nat.blt d N = true)
    (h : ∀ w', It w' k l (p + (dec (l.drop p)).2) → Gr w w' (some ⟨k, 0, none⟩) → w'.heap.size = w.heap.size → WL P N ops Q rest ((d, .tuple #[.bool true, .int .i64 (p : Int), .int .i32 ((dec (l.drop p)).1 : Int)]) :: L) w') :
    WL P N ops Q (⟨some d, .next x true, ty, pos, aft, none⟩ :: rest) L w := by
  have hrun := Lib.run_next_any_at (P := P) w k ⟨l.toArray⟩ p ty hi hp
  rw [decode_list] at hrun
  refine wl_val (v := _) (w' := _) (fun ρ o hρ ho hty => ?_) hd (h _ (Lib.iterAt_heap w k _ _ _ hi) ⟨rfl, rfl, rfl, by rw [Lib.iterAt_size]; exact Nat.le_refl _, fun j _ hj => Lib.iterAt_other _ _ _ _ _ (by simpa using hj)⟩ (Lib.iterAt_size _ _ _ _))
  unfold execOp
  simp only [ho, hty, hρ x _ hx, Sem.run_bind, hrun]
  simp
theorem wl_nextE {d : Nat} {x : Operand} {ty : TypeId} {pos : String} {aft : Array Edge} {k p : Nat} {l : List UInt8} (hx : look L x = some (.pointer (some ⟨k, 0, none⟩))) (hi : It w k l p) (hp : ¬ p < l.length) (hd : Nat.blt d N = true)
    (h : WL P N ops Q rest ((d, .tuple #[.bool false]) :: L) w) :
    WL P N ops Q (⟨some d, .next x true, ty, pos, aft, none⟩ :: rest) L w := by
  have hrun := Lib.run_next_end_at (P := P) w k ⟨l.toArray⟩ p ty hi hp
  refine wl_val (v := _) (w' := w) (fun ρ o hρ ho hty => ?_) hd h
  unfold execOp
  simp only [ho, hty, hρ x _ hx, Sem.run_bind, hrun]
  simp
end
end Go.Proofs.Ytcjiecclmepboaa
