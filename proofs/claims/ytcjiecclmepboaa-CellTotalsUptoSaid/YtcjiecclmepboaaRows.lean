/-
  No cell of these rows narrows 'for every input' (looked for: loops, veiled, ifaces, maps, wideKeys, modest, calm, conditions, laid).
  DERIVED. THE GIVEN ROWS OF THIS SEAT. 10 by the template 'for every input the law returns true; each argument reads behind the call as it read before'; 0 by the template 'total and deterministic' (their statements: YtcjiecclmepboaaTotals.lean).
  GIVEN WITH THE SEED: the statements are not yours to turn. If you find one false, say at which input.
  Laid BY PROGRAM, IN A SANDBOX (cutbox-rows.mjs): the forced cells as the released guide's own fill.sh prints them over the translation 71a337ba9da71c63… (all of the seat's roots in one cut). By AI agents, Wed Nov 11 2026. No macro, syntax, notation, axiom, sorry.
-/
import Derived.Test.YtcjiecclmepboaaChecked
import GoSem.Claim
import GoSem.ClaimJoined
import GoSem.ClaimMapViews
import Derived.JoinedTies
import Derived.KernelRfl
namespace Go.Proofs.Ytcjiecclmepboaa
/- THE CELL 'sum', in the pinned program and in every row, IS THE sha256 OF THE DUMP (.gsa) THAT YtcjiecclmepboaaProg.lean LOADS. Nothing in Lean hashes anything: it is a label: what it is worth is what the hold of that sum in a sandbox is worth. -/
noncomputable def Try.pinned : Pinned := { name := "ytcjiecclmepboaa", sum := "71a337ba9da71c63980a4e41cbcfc422a3b8c98ba090f5fd1562c852a881a3b6", checked := Try.checked }
namespace Rows
def none {H : Type} : Left H := { results := [], args := [] }

/-- 'caissonlaw02.TextClips': WHATEVER THE INPUT: true; the input reads as it did. -/
def textClipsSpec : ChangeSpec := { name := "textClips", fn := fun _ => fun
  | [d1, d2] => { results := [.lit (.bool true)], args := [d1, d2] }
  | _ => none }
def textClipsRow : OpenClaim := { program := "ytcjiecclmepboaa", sum := "71a337ba9da71c63980a4e41cbcfc422a3b8c98ba090f5fd1562c852a881a3b6", func := "caisson/caissonlaw02.TextClips", spec := "textClips", inPlace := ["internal/abi.NoEscape"], apart := false }
def TextClipsSaid : Prop := textClipsRow.holds Try.pinned (OpenSpec.ofChange textClipsSpec)

/-- ITS FALSE NEIGHBOUR: 'it returns false'. Refute it at one input. -/
def textClipsWrong : ChangeSpec := { name := "textClips", fn := fun _ => fun
  | [d1, d2] => { results := [.lit (.bool false)], args := [d1, d2] }
  | _ => none }
def TextClipsWrongFalsely : Prop := textClipsRow.holds Try.pinned (OpenSpec.ofChange textClipsWrong)

/-- 'caissonlaw02.TextLikes': WHATEVER THE INPUT: true; the input reads as it did. -/
def textLikesSpec : ChangeSpec := { name := "textLikes", fn := fun _ => fun
  | [d1, d2] => { results := [.lit (.bool true)], args := [d1, d2] }
  | _ => none }
def textLikesRow : OpenClaim := { program := "ytcjiecclmepboaa", sum := "71a337ba9da71c63980a4e41cbcfc422a3b8c98ba090f5fd1562c852a881a3b6", func := "caisson/caissonlaw02.TextLikes", spec := "textLikes", inPlace := ["internal/abi.NoEscape"], apart := false }
def TextLikesSaid : Prop := textLikesRow.holds Try.pinned (OpenSpec.ofChange textLikesSpec)

/-- ITS FALSE NEIGHBOUR: 'it returns false'. Refute it at one input. -/
def textLikesWrong : ChangeSpec := { name := "textLikes", fn := fun _ => fun
  | [d1, d2] => { results := [.lit (.bool false)], args := [d1, d2] }
  | _ => none }
def TextLikesWrongFalsely : Prop := textLikesRow.holds Try.pinned (OpenSpec.ofChange textLikesWrong)

/-- 'caissonlaw02.TextKeys': WHATEVER THE INPUT: true; the input reads as it did. -/
def textKeysSpec : ChangeSpec := { name := "textKeys", fn := fun _ => fun
  | [d1, d2, d3] => { results := [.lit (.bool true)], args := [d1, d2, d3] }
  | _ => none }
def textKeysRow : OpenClaim := { program := "ytcjiecclmepboaa", sum := "71a337ba9da71c63980a4e41cbcfc422a3b8c98ba090f5fd1562c852a881a3b6", func := "caisson/caissonlaw02.TextKeys", spec := "textKeys", inPlace := ["internal/abi.NoEscape", "internal/bytealg.Compare"], apart := false }
def TextKeysSaid : Prop := textKeysRow.holds Try.pinned (OpenSpec.ofChange textKeysSpec)

/-- ITS FALSE NEIGHBOUR: 'it returns false'. Refute it at one input. -/
def textKeysWrong : ChangeSpec := { name := "textKeys", fn := fun _ => fun
  | [d1, d2, d3] => { results := [.lit (.bool false)], args := [d1, d2, d3] }
  | _ => none }
def TextKeysWrongFalsely : Prop := textKeysRow.holds Try.pinned (OpenSpec.ofChange textKeysWrong)

/-- 'caissonlaw02.TextWords': WHATEVER THE INPUT: true; the input reads as it did. -/
def textWordsSpec : ChangeSpec := { name := "textWords", fn := fun _ => fun
  | [d] => { results := [.lit (.bool true)], args := [d] }
  | _ => none }
def textWordsRow : OpenClaim := { program := "ytcjiecclmepboaa", sum := "71a337ba9da71c63980a4e41cbcfc422a3b8c98ba090f5fd1562c852a881a3b6", func := "caisson/caissonlaw02.TextWords", spec := "textWords", inPlace := ["internal/abi.NoEscape"], unfollowed := true, recurses := true, apart := false }
def TextWordsSaid : Prop := textWordsRow.holds Try.pinned (OpenSpec.ofChange textWordsSpec)

/-- ITS FALSE NEIGHBOUR: 'it returns false'. Refute it at one input. -/
def textWordsWrong : ChangeSpec := { name := "textWords", fn := fun _ => fun
  | [d] => { results := [.lit (.bool false)], args := [d] }
  | _ => none }
def TextWordsWrongFalsely : Prop := textWordsRow.holds Try.pinned (OpenSpec.ofChange textWordsWrong)

/-- 'caissonlaw06.CellTotals': WHATEVER THE INPUT: true; the input reads as it did. -/
def cellTotalsSpec : ChangeSpec := { name := "cellTotals", fn := fun _ => fun
  | [d] => { results := [.lit (.bool true)], args := [d] }
  | _ => none }
def cellTotalsRow : OpenClaim := { program := "ytcjiecclmepboaa", sum := "71a337ba9da71c63980a4e41cbcfc422a3b8c98ba090f5fd1562c852a881a3b6", func := "caisson/caissonlaw06.CellTotals", spec := "cellTotals", inPlace := ["internal/abi.NoEscape"], unfollowed := true, recurses := true, apart := false }
def CellTotalsSaid : Prop := cellTotalsRow.holds Try.pinned (OpenSpec.ofChange cellTotalsSpec)

/-- ITS FALSE NEIGHBOUR: 'it returns false'. Refute it at one input. -/
def cellTotalsWrong : ChangeSpec := { name := "cellTotals", fn := fun _ => fun
  | [d] => { results := [.lit (.bool false)], args := [d] }
  | _ => none }
def CellTotalsWrongFalsely : Prop := cellTotalsRow.holds Try.pinned (OpenSpec.ofChange cellTotalsWrong)

/-- 'caissonlaw06.CellValues': WHATEVER THE INPUT: true; the input reads as it did. -/
def cellValuesSpec : ChangeSpec := { name := "cellValues", fn := fun _ => fun
  | [d] => { results := [.lit (.bool true)], args := [d] }
  | _ => none }
def cellValuesRow : OpenClaim := { program := "ytcjiecclmepboaa", sum := "71a337ba9da71c63980a4e41cbcfc422a3b8c98ba090f5fd1562c852a881a3b6", func := "caisson/caissonlaw06.CellValues", spec := "cellValues", inPlace := ["internal/abi.NoEscape"], apart := false }
def CellValuesSaid : Prop := cellValuesRow.holds Try.pinned (OpenSpec.ofChange cellValuesSpec)

/-- ITS FALSE NEIGHBOUR: 'it returns false'. Refute it at one input. -/
def cellValuesWrong : ChangeSpec := { name := "cellValues", fn := fun _ => fun
  | [d] => { results := [.lit (.bool false)], args := [d] }
  | _ => none }
def CellValuesWrongFalsely : Prop := cellValuesRow.holds Try.pinned (OpenSpec.ofChange cellValuesWrong)

/-- 'caissonlaw06.CellOrders': WHATEVER THE INPUT: true; the input reads as it did. -/
def cellOrdersSpec : ChangeSpec := { name := "cellOrders", fn := fun _ => fun
  | [d1, d2] => { results := [.lit (.bool true)], args := [d1, d2] }
  | _ => none }
def cellOrdersRow : OpenClaim := { program := "ytcjiecclmepboaa", sum := "71a337ba9da71c63980a4e41cbcfc422a3b8c98ba090f5fd1562c852a881a3b6", func := "caisson/caissonlaw06.CellOrders", spec := "cellOrders", inPlace := ["internal/abi.NoEscape", "internal/bytealg.Compare"], apart := false }
def CellOrdersSaid : Prop := cellOrdersRow.holds Try.pinned (OpenSpec.ofChange cellOrdersSpec)

/-- ITS FALSE NEIGHBOUR: 'it returns false'. Refute it at one input. -/
def cellOrdersWrong : ChangeSpec := { name := "cellOrders", fn := fun _ => fun
  | [d1, d2] => { results := [.lit (.bool false)], args := [d1, d2] }
  | _ => none }
def CellOrdersWrongFalsely : Prop := cellOrdersRow.holds Try.pinned (OpenSpec.ofChange cellOrdersWrong)

/-- 'caissonlaw06.CellKeys': WHATEVER THE INPUT: true; the input reads as it did. -/
def cellKeysSpec : ChangeSpec := { name := "cellKeys", fn := fun _ => fun
  | [d1, d2] => { results := [.lit (.bool true)], args := [d1, d2] }
  | _ => none }
def cellKeysRow : OpenClaim := { program := "ytcjiecclmepboaa", sum := "71a337ba9da71c63980a4e41cbcfc422a3b8c98ba090f5fd1562c852a881a3b6", func := "caisson/caissonlaw06.CellKeys", spec := "cellKeys", inPlace := ["internal/abi.NoEscape"], apart := false }
def CellKeysSaid : Prop := cellKeysRow.holds Try.pinned (OpenSpec.ofChange cellKeysSpec)

/-- ITS FALSE NEIGHBOUR: 'it returns false'. Refute it at one input. -/
def cellKeysWrong : ChangeSpec := { name := "cellKeys", fn := fun _ => fun
  | [d1, d2] => { results := [.lit (.bool false)], args := [d1, d2] }
  | _ => none }
def CellKeysWrongFalsely : Prop := cellKeysRow.holds Try.pinned (OpenSpec.ofChange cellKeysWrong)

/-- 'caissonlaw06.CellCodes': WHATEVER THE INPUT: true; the input reads as it did. -/
def cellCodesSpec : ChangeSpec := { name := "cellCodes", fn := fun _ => fun
  | [d1, d2] => { results := [.lit (.bool true)], args := [d1, d2] }
  | _ => none }
def cellCodesRow : OpenClaim := { program := "ytcjiecclmepboaa", sum := "71a337ba9da71c63980a4e41cbcfc422a3b8c98ba090f5fd1562c852a881a3b6", func := "caisson/caissonlaw06.CellCodes", spec := "cellCodes", inPlace := ["internal/abi.NoEscape"], apart := false }
def CellCodesSaid : Prop := cellCodesRow.holds Try.pinned (OpenSpec.ofChange cellCodesSpec)

/-- ITS FALSE NEIGHBOUR: 'it returns false'. Refute it at one input. -/
def cellCodesWrong : ChangeSpec := { name := "cellCodes", fn := fun _ => fun
  | [d1, d2] => { results := [.lit (.bool false)], args := [d1, d2] }
  | _ => none }
def CellCodesWrongFalsely : Prop := cellCodesRow.holds Try.pinned (OpenSpec.ofChange cellCodesWrong)

/-- 'caissonlaw06.CellKeeps': WHATEVER THE INPUT: true; the input reads as it did. -/
def cellKeepsSpec : ChangeSpec := { name := "cellKeeps", fn := fun _ => fun
  | [d1, d2] => { results := [.lit (.bool true)], args := [d1, d2] }
  | _ => none }
def cellKeepsRow : OpenClaim := { program := "ytcjiecclmepboaa", sum := "71a337ba9da71c63980a4e41cbcfc422a3b8c98ba090f5fd1562c852a881a3b6", func := "caisson/caissonlaw06.CellKeeps", spec := "cellKeeps", inPlace := ["internal/abi.NoEscape"], apart := false }
def CellKeepsSaid : Prop := cellKeepsRow.holds Try.pinned (OpenSpec.ofChange cellKeepsSpec)

/-- ITS FALSE NEIGHBOUR: 'it returns false'. Refute it at one input. -/
def cellKeepsWrong : ChangeSpec := { name := "cellKeeps", fn := fun _ => fun
  | [d1, d2] => { results := [.lit (.bool false)], args := [d1, d2] }
  | _ => none }
def CellKeepsWrongFalsely : Prop := cellKeepsRow.holds Try.pinned (OpenSpec.ofChange cellKeepsWrong)

/- THE SECOND FORM. 'bulk': how many values and letters a reading holds, each counted each time it is reached (what is shared counts as often as it is met; a slice's spare places count too). A statement '..UptoSaid' is the law's where the arguments, and the package variables that the reading takes, are together of bulk at most 1048576: NARROWER than '..Said'. Prove '..Said' where nothing that the law and all that it calls make is longer than what came in: it says more and counts as full. Else prove '..UptoSaid'. A law counts once. -/
mutual
def uptoBulk {H : Type} : DataW H → Nat
  | .lit (.string bytes) => bytes.length + 1
  | .lit _ => 1
  | .nil => 1
  | .ptr d => uptoBulk d + 1
  | .slice elems spare => uptoBulkAll elems + uptoBulkAll spare + 1
  | .agg parts => uptoBulkAll parts + 1
  | .iface _ d => uptoBulk d + 1
  | .map entries => uptoBulkEntries entries + 1
  | .held _ => 1
def uptoBulkAll {H : Type} : List (DataW H) → Nat
  | [] => 0
  | d :: r => uptoBulk d + uptoBulkAll r
def uptoBulkEntries {H : Type} : List (Lit × DataW H) → Nat
  | [] => 0
  | x :: r => uptoBulkEntry x + uptoBulkEntries r
def uptoBulkEntry {H : Type} : Lit × DataW H → Nat
  | (.string bytes, d) => bytes.length + uptoBulk d + 1
  | (_, d) => uptoBulk d + 1
 end
def uptoSmall : (H : Type) → List (DataW H) → Bool := fun _ ds => decide (uptoBulkAll ds ≤ 1048576)
def OpenSpec.upto (s : _root_.Go.ChangeSpec) : _root_.Go.OpenSpec := { _root_.Go.OpenSpec.ofChange s with cond := some uptoSmall }

/-- 'caissonlaw02.TextClips', WHERE WHAT IT READS IS OF BULK AT MOST 1048576: true; the input reads as it did. -/
def textClipsUptoRow : OpenClaim := { program := "ytcjiecclmepboaa", sum := "71a337ba9da71c63980a4e41cbcfc422a3b8c98ba090f5fd1562c852a881a3b6", func := "caisson/caissonlaw02.TextClips", spec := "textClips", inPlace := ["internal/abi.NoEscape"], apart := false, narrowed := true }
def TextClipsUptoSaid : Prop := textClipsUptoRow.holds Try.pinned (OpenSpec.upto textClipsSpec)

/-- 'caissonlaw02.TextLikes', WHERE WHAT IT READS IS OF BULK AT MOST 1048576: true; the input reads as it did. -/
def textLikesUptoRow : OpenClaim := { program := "ytcjiecclmepboaa", sum := "71a337ba9da71c63980a4e41cbcfc422a3b8c98ba090f5fd1562c852a881a3b6", func := "caisson/caissonlaw02.TextLikes", spec := "textLikes", inPlace := ["internal/abi.NoEscape"], apart := false, narrowed := true }
def TextLikesUptoSaid : Prop := textLikesUptoRow.holds Try.pinned (OpenSpec.upto textLikesSpec)

/-- 'caissonlaw02.TextKeys', WHERE WHAT IT READS IS OF BULK AT MOST 1048576: true; the input reads as it did. -/
def textKeysUptoRow : OpenClaim := { program := "ytcjiecclmepboaa", sum := "71a337ba9da71c63980a4e41cbcfc422a3b8c98ba090f5fd1562c852a881a3b6", func := "caisson/caissonlaw02.TextKeys", spec := "textKeys", inPlace := ["internal/abi.NoEscape", "internal/bytealg.Compare"], apart := false, narrowed := true }
def TextKeysUptoSaid : Prop := textKeysUptoRow.holds Try.pinned (OpenSpec.upto textKeysSpec)

/-- 'caissonlaw02.TextWords', WHERE WHAT IT READS IS OF BULK AT MOST 1048576: true; the input reads as it did. -/
def textWordsUptoRow : OpenClaim := { program := "ytcjiecclmepboaa", sum := "71a337ba9da71c63980a4e41cbcfc422a3b8c98ba090f5fd1562c852a881a3b6", func := "caisson/caissonlaw02.TextWords", spec := "textWords", inPlace := ["internal/abi.NoEscape"], unfollowed := true, recurses := true, apart := false, narrowed := true }
def TextWordsUptoSaid : Prop := textWordsUptoRow.holds Try.pinned (OpenSpec.upto textWordsSpec)

/-- 'caissonlaw06.CellTotals', WHERE WHAT IT READS IS OF BULK AT MOST 1048576: true; the input reads as it did. -/
def cellTotalsUptoRow : OpenClaim := { program := "ytcjiecclmepboaa", sum := "71a337ba9da71c63980a4e41cbcfc422a3b8c98ba090f5fd1562c852a881a3b6", func := "caisson/caissonlaw06.CellTotals", spec := "cellTotals", inPlace := ["internal/abi.NoEscape"], unfollowed := true, recurses := true, apart := false, narrowed := true }
def CellTotalsUptoSaid : Prop := cellTotalsUptoRow.holds Try.pinned (OpenSpec.upto cellTotalsSpec)

/-- 'caissonlaw06.CellValues', WHERE WHAT IT READS IS OF BULK AT MOST 1048576: true; the input reads as it did. -/
def cellValuesUptoRow : OpenClaim := { program := "ytcjiecclmepboaa", sum := "71a337ba9da71c63980a4e41cbcfc422a3b8c98ba090f5fd1562c852a881a3b6", func := "caisson/caissonlaw06.CellValues", spec := "cellValues", inPlace := ["internal/abi.NoEscape"], apart := false, narrowed := true }
def CellValuesUptoSaid : Prop := cellValuesUptoRow.holds Try.pinned (OpenSpec.upto cellValuesSpec)

/-- 'caissonlaw06.CellOrders', WHERE WHAT IT READS IS OF BULK AT MOST 1048576: true; the input reads as it did. -/
def cellOrdersUptoRow : OpenClaim := { program := "ytcjiecclmepboaa", sum := "71a337ba9da71c63980a4e41cbcfc422a3b8c98ba090f5fd1562c852a881a3b6", func := "caisson/caissonlaw06.CellOrders", spec := "cellOrders", inPlace := ["internal/abi.NoEscape", "internal/bytealg.Compare"], apart := false, narrowed := true }
def CellOrdersUptoSaid : Prop := cellOrdersUptoRow.holds Try.pinned (OpenSpec.upto cellOrdersSpec)

/-- 'caissonlaw06.CellKeys', WHERE WHAT IT READS IS OF BULK AT MOST 1048576: true; the input reads as it did. -/
def cellKeysUptoRow : OpenClaim := { program := "ytcjiecclmepboaa", sum := "71a337ba9da71c63980a4e41cbcfc422a3b8c98ba090f5fd1562c852a881a3b6", func := "caisson/caissonlaw06.CellKeys", spec := "cellKeys", inPlace := ["internal/abi.NoEscape"], apart := false, narrowed := true }
def CellKeysUptoSaid : Prop := cellKeysUptoRow.holds Try.pinned (OpenSpec.upto cellKeysSpec)

/-- 'caissonlaw06.CellCodes', WHERE WHAT IT READS IS OF BULK AT MOST 1048576: true; the input reads as it did. -/
def cellCodesUptoRow : OpenClaim := { program := "ytcjiecclmepboaa", sum := "71a337ba9da71c63980a4e41cbcfc422a3b8c98ba090f5fd1562c852a881a3b6", func := "caisson/caissonlaw06.CellCodes", spec := "cellCodes", inPlace := ["internal/abi.NoEscape"], apart := false, narrowed := true }
def CellCodesUptoSaid : Prop := cellCodesUptoRow.holds Try.pinned (OpenSpec.upto cellCodesSpec)

/-- 'caissonlaw06.CellKeeps', WHERE WHAT IT READS IS OF BULK AT MOST 1048576: true; the input reads as it did. -/
def cellKeepsUptoRow : OpenClaim := { program := "ytcjiecclmepboaa", sum := "71a337ba9da71c63980a4e41cbcfc422a3b8c98ba090f5fd1562c852a881a3b6", func := "caisson/caissonlaw06.CellKeeps", spec := "cellKeeps", inPlace := ["internal/abi.NoEscape"], apart := false, narrowed := true }
def CellKeepsUptoSaid : Prop := cellKeepsUptoRow.holds Try.pinned (OpenSpec.upto cellKeepsSpec)

end Rows
end Go.Proofs.Ytcjiecclmepboaa
