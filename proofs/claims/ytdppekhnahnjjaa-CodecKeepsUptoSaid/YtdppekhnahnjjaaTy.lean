/-
  The program's facts that the walks use: its slice types, and that each function has a body.
-/
import Derived.Test.YtdppekhnahnjjaaRows
import Derived.Test.YtdppekhnahnjjaaMem
import Derived.Test.YtdppekhnahnjjaaNum
namespace Go.Proofs.Ytdppekhnahnjjaa
open Go.RowKit
theorem tyB : Row1 Try.prog 24 5 (.int .u8 0) 1 := ⟨Try.underlying24, by kernel_rfl, rfl, by rw [Try.underlying5]⟩
theorem tyBB : Row1 Try.prog 22 24 (.slice none 0 0) 24 := ⟨Try.underlying22, by kernel_rfl, rfl, by rw [Try.underlying24]⟩
theorem mixed : Try.prog.follows .mixedOrders = true := by kernel_rfl

/-- Bytes in a row of the call's own. -/
abbrev OwB (w : World) (base : Nat) (A : Option Addr) (c : Nat) (xs : List UInt8) : Prop := Ow w base 5 A xs.length c (bvs xs)
/-- Bytes that can be read. -/
abbrev RdB (w : World) (A : Option Addr) (xs : List UInt8) : Prop := Rd w A xs.length (bvs xs)
theorem OwB.rd {w : World} {base c : Nat} {A : Option Addr} {xs : List UInt8} (h : OwB w base A c xs) : RdB w A xs := Ow.rd h
theorem RdB.below {w w' : World} {A : Option Addr} {xs : List UInt8} (h : RdB w A xs) (hb : Below w.heap.size w w') : RdB w' A xs := Rd.below h hb
theorem OwB.below {w w' : World} {base c : Nat} {A : Option Addr} {xs : List UInt8} (h : OwB w base A c xs) (hb : Below w.heap.size w w') : OwB w' base A c xs := Ow.below h hb (Nat.le_refl _)
theorem OwB.snoc {w : World} {base c : Nat} {A : Option Addr} {pre : List UInt8} {x : UInt8} {v : Value} (h : Ow w base 5 A (pre.length + 1) c (bvs pre ++ [v])) (hv : bv x = v) : OwB w base A c (pre ++ [x]) := by
  subst hv; simpa [OwB, bvs] using h
theorem OwB.snoc2 {w : World} {base c : Nat} {A : Option Addr} {pre : List UInt8} {x y : UInt8} {v u : Value} (h : Ow w base 5 A (pre.length + 2) c (bvs pre ++ [v, u])) (hv : bv x = v) (hu : bv y = u) : OwB w base A c (pre ++ [x, y]) := by
  subst hv hu; simpa [OwB, bvs] using h
theorem OwB.app {w : World} {base c : Nat} {A : Option Addr} {xs ys : List UInt8} (h : Ow w base 5 A (xs.length + ys.length) c (bvs xs ++ bvs ys)) : OwB w base A c (xs ++ ys) := by
  simpa [OwB, bvs] using h
theorem bvs_set (xs : List UInt8) (k : Nat) (y : UInt8) : (bvs xs).set k (bv y) = bvs (xs.set k y) := by simp [bvs, List.map_set]
theorem OwB.cap {w : World} {base c : Nat} {A : Option Addr} {xs : List UInt8} (h : OwB w base A c xs) : xs.length ≤ c := by
  rcases h.2 with ⟨hv, hn⟩ | ⟨g, cap, cur, hv, _, _, hnc, _⟩
  · omega
  · injection hv with _ _ hc; omega
/-- New bytes are handed back. -/
def RetB (w : World) (xs : List UInt8) (v : Value) (w' : World) : Prop :=
  ∃ A c, v = .slice A xs.length c ∧ OwB w' w.heap.size A c xs ∧ Below w.heap.size w w'
theorem bv_of {n : Nat} (h : n < 256) : bv (UInt8.ofNat n) = .int .u8 (n : Int) := by
  simp [bv, Nat.mod_eq_of_lt h]
theorem bv_toNat (x : UInt8) : bv x = .int .u8 (x.toNat : Int) := rfl

theorem ok_caissonlaw01_CodecTuples : CallOk Try.prog 3 := callOk Try.func3 (by kernel_rfl) rfl
theorem ok_caissonlaw03_CrcSums : CallOk Try.prog 4 := callOk Try.func4 (by kernel_rfl) rfl
theorem ok_caissonlaw01_CodecNumbers : CallOk Try.prog 5 := callOk Try.func5 (by kernel_rfl) rfl
theorem ok_caissonlaw01_CodecNext : CallOk Try.prog 6 := callOk Try.func6 (by kernel_rfl) rfl
theorem ok_caissonlaw01_CodecTexts : CallOk Try.prog 7 := callOk Try.func7 (by kernel_rfl) rfl
theorem ok_caissonlaw01_CodecOrders : CallOk Try.prog 8 := callOk Try.func8 (by kernel_rfl) rfl
theorem ok_caissonlaw01_CodecFrames : CallOk Try.prog 9 := callOk Try.func9 (by kernel_rfl) rfl
theorem ok_caissonlaw03_CrcAll : CallOk Try.prog 10 := callOk Try.func10 (by kernel_rfl) rfl
theorem ok_caissonlaw03_CrcSeals : CallOk Try.prog 11 := callOk Try.func11 (by kernel_rfl) rfl
theorem ok_caissonlaw03_CrcBursts : CallOk Try.prog 12 := callOk Try.func12 (by kernel_rfl) rfl
theorem ok_caissonlaw01_CodecKeeps : CallOk Try.prog 13 := callOk Try.func13 (by kernel_rfl) rfl
theorem ok_caissonlaw03_CrcKeeps : CallOk Try.prog 14 := callOk Try.func14 (by kernel_rfl) rfl
theorem ok_caissonlaw01_awake : CallOk Try.prog 15 := callOk Try.func15 (by kernel_rfl) rfl
theorem ok_codec_OrdText : CallOk Try.prog 16 := callOk Try.func16 (by kernel_rfl) rfl
theorem ok_caissonref01_Copy : CallOk Try.prog 17 := callOk Try.func17 (by kernel_rfl) rfl
theorem ok_caissonref01_Cmp : CallOk Try.prog 18 := callOk Try.func18 (by kernel_rfl) rfl
theorem ok_codec_Cmp : CallOk Try.prog 19 := callOk Try.func19 (by kernel_rfl) rfl
theorem ok_caissonlaw03_awake : CallOk Try.prog 20 := callOk Try.func20 (by kernel_rfl) rfl
theorem ok_crc_Table : CallOk Try.prog 21 := callOk Try.func21 (by kernel_rfl) rfl
theorem ok_crc_Sum : CallOk Try.prog 22 := callOk Try.func22 (by kernel_rfl) rfl
theorem ok_caissonref01_Copies : CallOk Try.prog 23 := callOk Try.func23 (by kernel_rfl) rfl
theorem ok_caissonref03_Sum : CallOk Try.prog 24 := callOk Try.func24 (by kernel_rfl) rfl
theorem ok_caissonlaw03_join : CallOk Try.prog 25 := callOk Try.func25 (by kernel_rfl) rfl
theorem ok_caissonref03_One : CallOk Try.prog 26 := callOk Try.func26 (by kernel_rfl) rfl
theorem ok_codec_PutU : CallOk Try.prog 27 := callOk Try.func27 (by kernel_rfl) rfl
theorem ok_codec_GetU : CallOk Try.prog 28 := callOk Try.func28 (by kernel_rfl) rfl
theorem ok_caissonref01_Equal : CallOk Try.prog 29 := callOk Try.func29 (by kernel_rfl) rfl
theorem ok_caissonref01_PutU : CallOk Try.prog 30 := callOk Try.func30 (by kernel_rfl) rfl
theorem ok_caissonref01_GetU : CallOk Try.prog 31 := callOk Try.func31 (by kernel_rfl) rfl
theorem ok_codec_Next : CallOk Try.prog 32 := callOk Try.func32 (by kernel_rfl) rfl
theorem ok_caissonref01_Next : CallOk Try.prog 33 := callOk Try.func33 (by kernel_rfl) rfl
theorem ok_codec_GetOrdText : CallOk Try.prog 34 := callOk Try.func34 (by kernel_rfl) rfl
theorem ok_caissonref01_OrdText : CallOk Try.prog 35 := callOk Try.func35 (by kernel_rfl) rfl
theorem ok_caissonref01_GetOrdText : CallOk Try.prog 36 := callOk Try.func36 (by kernel_rfl) rfl
theorem ok_codec_OrdU : CallOk Try.prog 37 := callOk Try.func37 (by kernel_rfl) rfl
theorem ok_codec_OrdI : CallOk Try.prog 38 := callOk Try.func38 (by kernel_rfl) rfl
theorem ok_caissonref01_OrdU : CallOk Try.prog 39 := callOk Try.func39 (by kernel_rfl) rfl
theorem ok_caissonref01_OrdI : CallOk Try.prog 40 := callOk Try.func40 (by kernel_rfl) rfl
theorem ok_codec_GetOrdU : CallOk Try.prog 41 := callOk Try.func41 (by kernel_rfl) rfl
theorem ok_caissonref01_GetOrdU : CallOk Try.prog 42 := callOk Try.func42 (by kernel_rfl) rfl
theorem ok_codec_GetOrdI : CallOk Try.prog 43 := callOk Try.func43 (by kernel_rfl) rfl
theorem ok_codec_Frame : CallOk Try.prog 44 := callOk Try.func44 (by kernel_rfl) rfl
theorem ok_codec_Parts : CallOk Try.prog 45 := callOk Try.func45 (by kernel_rfl) rfl
theorem ok_caissonref01_Frame : CallOk Try.prog 46 := callOk Try.func46 (by kernel_rfl) rfl
theorem ok_caissonref01_Equals : CallOk Try.prog 47 := callOk Try.func47 (by kernel_rfl) rfl
theorem ok_caissonref01_Parts : CallOk Try.prog 48 := callOk Try.func48 (by kernel_rfl) rfl
theorem ok_crc_OpenAll : CallOk Try.prog 49 := callOk Try.func49 (by kernel_rfl) rfl
theorem ok_caissonref03_OpenAll : CallOk Try.prog 50 := callOk Try.func50 (by kernel_rfl) rfl
theorem ok_crc_Seal : CallOk Try.prog 51 := callOk Try.func51 (by kernel_rfl) rfl
theorem ok_caissonref03_Seal : CallOk Try.prog 52 := callOk Try.func52 (by kernel_rfl) rfl
theorem ok_crc_Open : CallOk Try.prog 53 := callOk Try.func53 (by kernel_rfl) rfl
theorem ok_caissonref03_Open : CallOk Try.prog 54 := callOk Try.func54 (by kernel_rfl) rfl
theorem ok_caissonref01_Spare : CallOk Try.prog 55 := callOk Try.func55 (by kernel_rfl) rfl
theorem ok_caissonref01_Kept : CallOk Try.prog 56 := callOk Try.func56 (by kernel_rfl) rfl
theorem ok_caissonref01_Over : CallOk Try.prog 57 := callOk Try.func57 (by kernel_rfl) rfl
theorem ok_caissonref01_Apart : CallOk Try.prog 58 := callOk Try.func58 (by kernel_rfl) rfl
theorem ok_bytes_Compare : CallOk Try.prog 59 := callOk Try.func59 (by kernel_rfl) rfl
theorem ok_crc_eight : CallOk Try.prog 60 := callOk Try.func60 (by kernel_rfl) rfl
theorem ok_codec_inside : CallOk Try.prog 61 := callOk Try.func61 (by kernel_rfl) rfl
theorem ok_bytes_Clone : CallOk Try.prog 62 := callOk Try.func62 (by kernel_rfl) rfl
theorem ok_bytes_Join : CallOk Try.prog 63 := callOk Try.func63 (by kernel_rfl) rfl
theorem ok_crc_put : CallOk Try.prog 64 := callOk Try.func64 (by kernel_rfl) rfl
theorem ok_caissonref03_four : CallOk Try.prog 65 := callOk Try.func65 (by kernel_rfl) rfl
theorem ok_crc_get : CallOk Try.prog 66 := callOk Try.func66 (by kernel_rfl) rfl
theorem ok_caissonref01_mark : CallOk Try.prog 67 := callOk Try.func67 (by kernel_rfl) rfl
theorem ok_crc_step : CallOk Try.prog 69 := callOk Try.func69 (by kernel_rfl) rfl
end Go.Proofs.Ytdppekhnahnjjaa
