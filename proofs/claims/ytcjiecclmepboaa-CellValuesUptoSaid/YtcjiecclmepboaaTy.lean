
/-
  The program's facts that the walks use: its slice types, and that each function has a body.
-/
import Derived.Test.YtcjiecclmepboaaRows
import Derived.Test.YtcjiecclmepboaaMem
import Derived.Test.YtcjiecclmepboaaNum
namespace Go.Proofs.Ytcjiecclmepboaa
open Go.RowKit
theorem tyB : Row1 Try.prog 30 5 (.int .u8 0) 1 := ⟨Try.underlying30, by kernel_rfl, rfl, by rw [Try.underlying5]⟩
theorem tyBB : Row1 Try.prog 90 30 (.slice none 0 0) 24 := ⟨Try.underlying90, by kernel_rfl, rfl, by rw [Try.underlying30]⟩
theorem mixed : Try.prog.follows .mixedOrders = true := by kernel_rfl

/-- Bytes in a row of the call's own. -/
abbrev OwB (w : World) (base : Nat) (A : Option Addr) (c : Nat) (xs : List UInt8) : Prop := Ow w base 5 A xs.length c (bvs xs)
/-- Bytes that can be read. -/
abbrev RdB (w : World) (A : Option Addr) (xs : List UInt8) : Prop := Rd w A xs.length (bvs xs)
theorem OwB.rd {w : World} {base c : Nat} {A : Option Addr} {xs : List UInt8} (h : OwB w base A c xs) : RdB w A xs := Ow.rd h
theorem RdB.below {w w' : World} {A : Option Addr} {xs : List UInt8} (h : RdB w A xs) (hb : Below w.heap.size w w') : RdB w' A xs := Rd.below h hb
theorem OwB.below {w w' : World} {base c : Nat} {A : Option Addr} {xs : List UInt8} (h : OwB w base A c xs) (hb : Below w.heap.size w w') : OwB w' base A c xs := Ow.below h hb (Nat.le_refl _)
theorem OwB.snoc {w : World} {base c : Nat} {A : Option Addr} {pre : List UInt8} {x : UInt8} {v : Value} (h : Ow w base 5 A (pre.length + 1) c (bvs pre ++ [v])) (hv : bv x = v) : OwB w base A c (pre ++ [x]) := by
  subst hv; simpa [OwB, bvs] using h
theorem OwB.snoc2 {w : World} {base c : Nat} {A : Option Addr} {pre : List UInt8} {x y : UInt8} {v u : Value} (h : Ow w base 5 A (pre.length + 2) c (bvs pre ++ [v, u])) (hv : bv x = v) (hu : bv y = u) : OwB w base A c (pre ++ [x, y]) := by
  subst hv hu; simpa [OwB, bvs] using h
theorem OwB.app {w : World} {base c : Nat} {A : Option Addr} {xs ys : List UInt8} (h : Ow w base 5 A (xs.length + ys.length) c (bvs xs ++ bvs ys)) : OwB w base A c (xs ++ ys) := by
  simpa [OwB, bvs] using h
theorem bvs_set (xs : List UInt8) (k : Nat) (y : UInt8) : (bvs xs).set k (bv y) = bvs (xs.set k y) := by simp [bvs, List.map_set]
theorem OwB.cap {w : World} {base c : Nat} {A : Option Addr} {xs : List UInt8} (h : OwB w base A c xs) : xs.length ≤ c := by
  rcases h.2 with ⟨hv, hn⟩ | ⟨g, cap, cur, hv, _, _, hnc, _⟩
  · omega
  · injection hv with _ _ hc; omega
/-- New bytes are handed back. -/
def RetB (w : World) (xs : List UInt8) (v : Value) (w' : World) : Prop :=
  ∃ A c, v = .slice A xs.length c ∧ OwB w' w.heap.size A c xs ∧ Below w.heap.size w w'
theorem bv_of {n : Nat} (h : n < 256) : bv (UInt8.ofNat n) = .int .u8 (n : Int) := by
  simp [bv, Nat.mod_eq_of_lt h]
theorem bv_toNat (x : UInt8) : bv x = .int .u8 (x.toNat : Int) := rfl

theorem ok_caissonlaw02_TextClips : CallOk Try.prog 3 := callOk Try.func3 (by kernel_rfl) rfl
theorem ok_caissonlaw02_TextLikes : CallOk Try.prog 4 := callOk Try.func4 (by kernel_rfl) rfl
theorem ok_caissonlaw02_TextKeys : CallOk Try.prog 5 := callOk Try.func5 (by kernel_rfl) rfl
theorem ok_caissonlaw02_TextWords : CallOk Try.prog 6 := callOk Try.func6 (by kernel_rfl) rfl
theorem ok_caissonlaw06_CellTotals : CallOk Try.prog 7 := callOk Try.func7 (by kernel_rfl) rfl
theorem ok_caissonlaw06_CellValues : CallOk Try.prog 8 := callOk Try.func8 (by kernel_rfl) rfl
theorem ok_caissonlaw06_CellOrders : CallOk Try.prog 9 := callOk Try.func9 (by kernel_rfl) rfl
theorem ok_caissonlaw06_CellKeys : CallOk Try.prog 10 := callOk Try.func10 (by kernel_rfl) rfl
theorem ok_caissonlaw06_CellCodes : CallOk Try.prog 11 := callOk Try.func11 (by kernel_rfl) rfl
theorem ok_caissonlaw06_CellKeeps : CallOk Try.prog 12 := callOk Try.func12 (by kernel_rfl) rfl
theorem ok_caissonlaw02_awake : CallOk Try.prog 13 := callOk Try.func13 (by kernel_rfl) rfl
theorem ok_caissonref02_Runes : CallOk Try.prog 14 := callOk Try.func14 (by kernel_rfl) rfl
theorem ok_text_Clip : CallOk Try.prog 15 := callOk Try.func15 (by kernel_rfl) rfl
theorem ok_text_Like : CallOk Try.prog 16 := callOk Try.func16 (by kernel_rfl) rfl
theorem ok_caissonref02_Like : CallOk Try.prog 17 := callOk Try.func17 (by kernel_rfl) rfl
theorem ok_text_Fold : CallOk Try.prog 18 := callOk Try.func18 (by kernel_rfl) rfl
theorem ok_text_Key : CallOk Try.prog 19 := callOk Try.func19 (by kernel_rfl) rfl
theorem ok_text_FromKey : CallOk Try.prog 20 := callOk Try.func20 (by kernel_rfl) rfl
theorem ok_caissonref01_Equal : CallOk Try.prog 21 := callOk Try.func21 (by kernel_rfl) rfl
theorem ok_caissonref02_Key : CallOk Try.prog 22 := callOk Try.func22 (by kernel_rfl) rfl
theorem ok_caissonref01_Cmp : CallOk Try.prog 23 := callOk Try.func23 (by kernel_rfl) rfl
theorem ok_caissonref02_Fold : CallOk Try.prog 24 := callOk Try.func24 (by kernel_rfl) rfl
theorem ok_caissonref01_Copy : CallOk Try.prog 25 := callOk Try.func25 (by kernel_rfl) rfl
theorem ok_caissonref02_FromKey : CallOk Try.prog 26 := callOk Try.func26 (by kernel_rfl) rfl
theorem ok_codec_Cmp : CallOk Try.prog 27 := callOk Try.func27 (by kernel_rfl) rfl
theorem ok_text_Words : CallOk Try.prog 28 := callOk Try.func28 (by kernel_rfl) rfl
theorem ok_caissonref02_Words : CallOk Try.prog 29 := callOk Try.func29 (by kernel_rfl) rfl
theorem ok_text_Count : CallOk Try.prog 30 := callOk Try.func30 (by kernel_rfl) rfl
theorem ok_caissonlaw06_good : CallOk Try.prog 31 := callOk Try.func31 (by kernel_rfl) rfl
theorem ok_caissonlaw06_awake : CallOk Try.prog 32 := callOk Try.func32 (by kernel_rfl) rfl
theorem ok_cell_Total : CallOk Try.prog 33 := callOk Try.func33 (by kernel_rfl) rfl
theorem ok_caissonlaw06_twin : CallOk Try.prog 34 := callOk Try.func34 (by kernel_rfl) rfl
theorem ok_cell_Of : CallOk Try.prog 35 := callOk Try.func35 (by kernel_rfl) rfl
theorem ok_caissonref06_Good : CallOk Try.prog 36 := callOk Try.func36 (by kernel_rfl) rfl
theorem ok_caissonref01_Over : CallOk Try.prog 37 := callOk Try.func37 (by kernel_rfl) rfl
theorem ok_cell_Cell : CallOk Try.prog 38 := callOk Try.func38 (by kernel_rfl) rfl
theorem ok_cell_Kind : CallOk Try.prog 39 := callOk Try.func39 (by kernel_rfl) rfl
theorem ok_cell_IntOf : CallOk Try.prog 40 := callOk Try.func40 (by kernel_rfl) rfl
theorem ok_cell_TextOf : CallOk Try.prog 41 := callOk Try.func41 (by kernel_rfl) rfl
theorem ok_cell_BoolOf : CallOk Try.prog 42 := callOk Try.func42 (by kernel_rfl) rfl
theorem ok_cell_BytesOf : CallOk Try.prog 43 := callOk Try.func43 (by kernel_rfl) rfl
theorem ok_caissonref06_Same : CallOk Try.prog 44 := callOk Try.func44 (by kernel_rfl) rfl
theorem ok_cell_MustInt : CallOk Try.prog 45 := callOk Try.func45 (by kernel_rfl) rfl
theorem ok_cell_MustText : CallOk Try.prog 46 := callOk Try.func46 (by kernel_rfl) rfl
theorem ok_cell_Compare : CallOk Try.prog 47 := callOk Try.func47 (by kernel_rfl) rfl
theorem ok_caissonref06_Compare : CallOk Try.prog 48 := callOk Try.func48 (by kernel_rfl) rfl
theorem ok_cell_Key : CallOk Try.prog 49 := callOk Try.func49 (by kernel_rfl) rfl
theorem ok_cell_FromKey : CallOk Try.prog 50 := callOk Try.func50 (by kernel_rfl) rfl
theorem ok_caissonref06_Key : CallOk Try.prog 51 := callOk Try.func51 (by kernel_rfl) rfl
theorem ok_caissonref06_SameList : CallOk Try.prog 52 := callOk Try.func52 (by kernel_rfl) rfl
theorem ok_caissonlaw06_told : CallOk Try.prog 53 := callOk Try.func53 (by kernel_rfl) rfl
theorem ok_caissonref06_FromKey : CallOk Try.prog 54 := callOk Try.func54 (by kernel_rfl) rfl
theorem ok_cell_Encode : CallOk Try.prog 55 := callOk Try.func55 (by kernel_rfl) rfl
theorem ok_cell_Decode : CallOk Try.prog 56 := callOk Try.func56 (by kernel_rfl) rfl
theorem ok_caissonref06_Encode : CallOk Try.prog 57 := callOk Try.func57 (by kernel_rfl) rfl
theorem ok_caissonref06_Decode : CallOk Try.prog 58 := callOk Try.func58 (by kernel_rfl) rfl
theorem ok_caissonref01_Spare : CallOk Try.prog 59 := callOk Try.func59 (by kernel_rfl) rfl
theorem ok_caissonref01_Kept : CallOk Try.prog 60 := callOk Try.func60 (by kernel_rfl) rfl
theorem ok_caissonref01_Apart : CallOk Try.prog 61 := callOk Try.func61 (by kernel_rfl) rfl
theorem ok_text_Len : CallOk Try.prog 62 := callOk Try.func62 (by kernel_rfl) rfl
theorem ok_caissonref02_First : CallOk Try.prog 63 := callOk Try.func63 (by kernel_rfl) rfl
theorem ok_text_Runes : CallOk Try.prog 64 := callOk Try.func64 (by kernel_rfl) rfl
theorem ok_text_low : CallOk Try.prog 65 := callOk Try.func65 (by kernel_rfl) rfl
theorem ok_caissonref02_Low : CallOk Try.prog 66 := callOk Try.func66 (by kernel_rfl) rfl
theorem ok_codec_OrdText : CallOk Try.prog 69 := callOk Try.func69 (by kernel_rfl) rfl
theorem ok_codec_GetOrdText : CallOk Try.prog 70 := callOk Try.func70 (by kernel_rfl) rfl
theorem ok_caissonref01_OrdText : CallOk Try.prog 71 := callOk Try.func71 (by kernel_rfl) rfl
theorem ok_caissonref02_Put : CallOk Try.prog 72 := callOk Try.func72 (by kernel_rfl) rfl
theorem ok_caissonref01_GetOrdText : CallOk Try.prog 73 := callOk Try.func73 (by kernel_rfl) rfl
theorem ok_bytes_Compare : CallOk Try.prog 74 := callOk Try.func74 (by kernel_rfl) rfl
theorem ok_strings_FieldsFunc : CallOk Try.prog 75 := callOk Try.func75 (by kernel_rfl) rfl
theorem ok_text_Words_1 : CallOk Try.prog 76 := callOk Try.func76 (by kernel_rfl) rfl
theorem ok_text_inWord : CallOk Try.prog 77 := callOk Try.func77 (by kernel_rfl) rfl
theorem ok_cell_Total_1 : CallOk Try.prog 78 := callOk Try.func78 (by kernel_rfl) rfl
theorem ok_bytes_Clone : CallOk Try.prog 79 := callOk Try.func79 (by kernel_rfl) rfl
theorem ok_cmp_Compare_int : CallOk Try.prog 80 := callOk Try.func80 (by kernel_rfl) rfl
theorem ok_cell_truth : CallOk Try.prog 81 := callOk Try.func81 (by kernel_rfl) rfl
theorem ok_cmp_Compare_int64 : CallOk Try.prog 82 := callOk Try.func82 (by kernel_rfl) rfl
theorem ok_caissonref06_less : CallOk Try.prog 83 := callOk Try.func83 (by kernel_rfl) rfl
theorem ok_codec_OrdI : CallOk Try.prog 84 := callOk Try.func84 (by kernel_rfl) rfl
theorem ok_cell_one : CallOk Try.prog 85 := callOk Try.func85 (by kernel_rfl) rfl
theorem ok_caissonref01_OrdI : CallOk Try.prog 86 := callOk Try.func86 (by kernel_rfl) rfl
theorem ok_caissonref01_GetOrdU : CallOk Try.prog 87 := callOk Try.func87 (by kernel_rfl) rfl
theorem ok_codec_Frame : CallOk Try.prog 88 := callOk Try.func88 (by kernel_rfl) rfl
theorem ok_codec_Parts : CallOk Try.prog 89 := callOk Try.func89 (by kernel_rfl) rfl
theorem ok_cell_part : CallOk Try.prog 90 := callOk Try.func90 (by kernel_rfl) rfl
theorem ok_caissonref01_Frame : CallOk Try.prog 91 := callOk Try.func91 (by kernel_rfl) rfl
theorem ok_caissonref01_Parts : CallOk Try.prog 92 := callOk Try.func92 (by kernel_rfl) rfl
theorem ok_caissonref01_mark : CallOk Try.prog 93 := callOk Try.func93 (by kernel_rfl) rfl
theorem ok_caissonref02_wide : CallOk Try.prog 94 := callOk Try.func94 (by kernel_rfl) rfl
theorem ok_text_between : CallOk Try.prog 95 := callOk Try.func95 (by kernel_rfl) rfl
theorem ok_unicode_utf8_AppendRune : CallOk Try.prog 97 := callOk Try.func97 (by kernel_rfl) rfl
theorem ok_codec_inside : CallOk Try.prog 98 := callOk Try.func98 (by kernel_rfl) rfl
theorem ok_cmp_isNaN_int : CallOk Try.prog 100 := callOk Try.func100 (by kernel_rfl) rfl
theorem ok_cmp_isNaN_int64 : CallOk Try.prog 101 := callOk Try.func101 (by kernel_rfl) rfl
theorem ok_codec_OrdU : CallOk Try.prog 102 := callOk Try.func102 (by kernel_rfl) rfl
theorem ok_cell_some_int64 : CallOk Try.prog 103 := callOk Try.func103 (by kernel_rfl) rfl
theorem ok_codec_GetOrdI : CallOk Try.prog 104 := callOk Try.func104 (by kernel_rfl) rfl
theorem ok_cell_some_string : CallOk Try.prog 105 := callOk Try.func105 (by kernel_rfl) rfl
theorem ok_caissonref01_OrdU : CallOk Try.prog 106 := callOk Try.func106 (by kernel_rfl) rfl
theorem ok_codec_PutU : CallOk Try.prog 107 := callOk Try.func107 (by kernel_rfl) rfl
theorem ok_codec_GetU : CallOk Try.prog 108 := callOk Try.func108 (by kernel_rfl) rfl
theorem ok_caissonref01_PutU : CallOk Try.prog 109 := callOk Try.func109 (by kernel_rfl) rfl
theorem ok_caissonref01_GetU : CallOk Try.prog 110 := callOk Try.func110 (by kernel_rfl) rfl
theorem ok_unicode_utf8_appendRuneNonASCII : CallOk Try.prog 112 := callOk Try.func112 (by kernel_rfl) rfl
theorem ok_codec_GetOrdU : CallOk Try.prog 113 := callOk Try.func113 (by kernel_rfl) rfl
end Go.Proofs.Ytcjiecclmepboaa
