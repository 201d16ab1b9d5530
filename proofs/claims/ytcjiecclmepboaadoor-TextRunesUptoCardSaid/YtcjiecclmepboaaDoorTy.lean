
/-
  The program's facts that the walks use: its slice types, and that each function has a body.
-/
import Derived.Test.YtcjiecclmepboaaDoorRows
import Derived.Test.YtcjiecclmepboaaDoorMem
import Derived.Test.YtcjiecclmepboaaDoorNum
namespace Go.Proofs.YtcjiecclmepboaaDoor
open Go.RowKit
theorem tyB : Row1 Tryd.prog 33 5 (.int .u8 0) 1 := ⟨Tryd.underlying33, by kernel_rfl, rfl, by rw [Tryd.underlying5]⟩
theorem mixed : Tryd.prog.follows .mixedOrders = true := by kernel_rfl

/-- Bytes in a row of the call's own. -/
abbrev OwB (w : World) (base : Nat) (A : Option Addr) (c : Nat) (xs : List UInt8) : Prop := Ow w base 5 A xs.length c (bvs xs)
/-- Bytes that can be read. -/
abbrev RdB (w : World) (A : Option Addr) (xs : List UInt8) : Prop := Rd w A xs.length (bvs xs)
theorem OwB.rd {w : World} {base c : Nat} {A : Option Addr} {xs : List UInt8} (h : OwB w base A c xs) : RdB w A xs := Ow.rd h
theorem RdB.below {w w' : World} {A : Option Addr} {xs : List UInt8} (h : RdB w A xs) (hb : Below w.heap.size w w') : RdB w' A xs := Rd.below h hb
theorem OwB.below {w w' : World} {base c : Nat} {A : Option Addr} {xs : List UInt8} (h : OwB w base A c xs) (hb : Below w.heap.size w w') : OwB w' base A c xs := Ow.below h hb (Nat.le_refl _)
theorem OwB.snoc {w : World} {base c : Nat} {A : Option Addr} {pre : List UInt8} {x : UInt8} {v : Value} (h : Ow w base 5 A (pre.length + 1) c (bvs pre ++ [v])) (hv : bv x = v) : OwB w base A c (pre ++ [x]) := by
  subst hv; simpa [OwB, bvs] using h
theorem OwB.snoc2 {w : World} {base c : Nat} {A : Option Addr} {pre : List UInt8} {x y : UInt8} {v u : Value} (h : Ow w base 5 A (pre.length + 2) c (bvs pre ++ [v, u])) (hv : bv x = v) (hu : bv y = u) : OwB w base A c (pre ++ [x, y]) := by
  subst hv hu; simpa [OwB, bvs] using h
theorem OwB.app {w : World} {base c : Nat} {A : Option Addr} {xs ys : List UInt8} (h : Ow w base 5 A (xs.length + ys.length) c (bvs xs ++ bvs ys)) : OwB w base A c (xs ++ ys) := by
  simpa [OwB, bvs] using h
theorem bvs_set (xs : List UInt8) (k : Nat) (y : UInt8) : (bvs xs).set k (bv y) = bvs (xs.set k y) := by simp [bvs, List.map_set]
theorem OwB.cap {w : World} {base c : Nat} {A : Option Addr} {xs : List UInt8} (h : OwB w base A c xs) : xs.length ≤ c := by
  rcases h.2 with ⟨hv, hn⟩ | ⟨g, cap, cur, hv, _, _, hnc, _⟩
  · omega
  · injection hv with _ _ hc; omega
/-- New bytes are handed back. -/
def RetB (w : World) (xs : List UInt8) (v : Value) (w' : World) : Prop :=
  ∃ A c, v = .slice A xs.length c ∧ OwB w' w.heap.size A c xs ∧ Below w.heap.size w w'
theorem bv_of {n : Nat} (h : n < 256) : bv (UInt8.ofNat n) = .int .u8 (n : Int) := by
  simp [bv, Nat.mod_eq_of_lt h]
theorem bv_toNat (x : UInt8) : bv x = .int .u8 (x.toNat : Int) := rfl

theorem ok_caissonlaw02_TextFolds : CallOk Tryd.prog 3 := callOk Tryd.func3 (by kernel_rfl) rfl
theorem ok_caissonlaw02_TextRunes : CallOk Tryd.prog 4 := callOk Tryd.func4 (by kernel_rfl) rfl
theorem ok_caissonlaw02_awake : CallOk Tryd.prog 5 := callOk Tryd.func5 (by kernel_rfl) rfl
theorem ok_text_Fold : CallOk Tryd.prog 6 := callOk Tryd.func6 (by kernel_rfl) rfl
theorem ok_text_Bad : CallOk Tryd.prog 7 := callOk Tryd.func7 (by kernel_rfl) rfl
theorem ok_caissonref02_Fold : CallOk Tryd.prog 8 := callOk Tryd.func8 (by kernel_rfl) rfl
theorem ok_text_Len : CallOk Tryd.prog 9 := callOk Tryd.func9 (by kernel_rfl) rfl
theorem ok_text_Runes : CallOk Tryd.prog 10 := callOk Tryd.func10 (by kernel_rfl) rfl
theorem ok_caissonref02_Runes : CallOk Tryd.prog 11 := callOk Tryd.func11 (by kernel_rfl) rfl
theorem ok_caissonref02_Wrong : CallOk Tryd.prog 12 := callOk Tryd.func12 (by kernel_rfl) rfl
theorem ok_caissonref02_Put : CallOk Tryd.prog 13 := callOk Tryd.func13 (by kernel_rfl) rfl
theorem ok_text_Of : CallOk Tryd.prog 14 := callOk Tryd.func14 (by kernel_rfl) rfl
theorem ok_text_low : CallOk Tryd.prog 16 := callOk Tryd.func16 (by kernel_rfl) rfl
theorem ok_unicode_utf8_DecodeRuneInString : CallOk Tryd.prog 18 := callOk Tryd.func18 (by kernel_rfl) rfl
theorem ok_caissonref02_Low : CallOk Tryd.prog 19 := callOk Tryd.func19 (by kernel_rfl) rfl
theorem ok_caissonref02_First : CallOk Tryd.prog 20 := callOk Tryd.func20 (by kernel_rfl) rfl
theorem ok_unicode_utf8_AppendRune : CallOk Tryd.prog 22 := callOk Tryd.func22 (by kernel_rfl) rfl
theorem ok_text_between : CallOk Tryd.prog 23 := callOk Tryd.func23 (by kernel_rfl) rfl
theorem ok_unicode_utf8_decodeRuneInStringSlow : CallOk Tryd.prog 24 := callOk Tryd.func24 (by kernel_rfl) rfl
theorem ok_caissonref02_wide : CallOk Tryd.prog 25 := callOk Tryd.func25 (by kernel_rfl) rfl
theorem ok_unicode_utf8_appendRuneNonASCII : CallOk Tryd.prog 27 := callOk Tryd.func27 (by kernel_rfl) rfl
end Go.Proofs.YtcjiecclmepboaaDoor
