/-
  No cell of these rows narrows 'for every input' (looked for: loops, veiled, ifaces, maps, wideKeys, modest, calm, conditions, laid).
  DERIVED. THE GIVEN ROWS OF THIS SEAT. 12 by the template 'for every input the law returns true; each argument reads behind the call as it read before'; 0 by the template 'total and deterministic' (their statements: YtdppekhnahnjjaaTotals.lean).
  GIVEN WITH THE SEED: the statements are not yours to turn. If you find one false, say at which input.
  Laid BY PROGRAM, IN A SANDBOX (cutbox-rows.mjs): the forced cells as the released guide's own fill.sh prints them over the translation 68fb5a8b18a2fcaf… (all of the seat's roots in one cut). By AI agents, Wed Nov 11 2026. No macro, syntax, notation, axiom, sorry.
-/
import Derived.Test.YtdppekhnahnjjaaChecked
import GoSem.Claim
import GoSem.ClaimJoined
import GoSem.ClaimMapViews
import Derived.JoinedTies
import Derived.KernelRfl
namespace Go.Proofs.Ytdppekhnahnjjaa
/- THE CELL 'sum', in the pinned program and in every row, IS THE sha256 OF THE DUMP (.gsa) THAT YtdppekhnahnjjaaProg.lean LOADS. Nothing in Lean hashes anything: it is a label: what it is worth is what the hold of that sum in a sandbox is worth. -/
noncomputable def Try.pinned : Pinned := { name := "ytdppekhnahnjjaa", sum := "68fb5a8b18a2fcafb77b7d7fbbaf1d92670ffb866f38184a3044d238c6da00d2", checked := Try.checked }
namespace Rows
def none {H : Type} : Left H := { results := [], args := [] }

/-- 'caissonlaw01.CodecTuples': WHATEVER THE INPUT: true; the input reads as it did. -/
def codecTuplesSpec : ChangeSpec := { name := "codecTuples", fn := fun _ => fun
  | [d1, d2] => { results := [.lit (.bool true)], args := [d1, d2] }
  | _ => none }
def codecTuplesRow : OpenClaim := { program := "ytdppekhnahnjjaa", sum := "68fb5a8b18a2fcafb77b7d7fbbaf1d92670ffb866f38184a3044d238c6da00d2", func := "caisson/caissonlaw01.CodecTuples", spec := "codecTuples", inPlace := ["internal/bytealg.Compare"], apart := false }
def CodecTuplesSaid : Prop := codecTuplesRow.holds Try.pinned (OpenSpec.ofChange codecTuplesSpec)

/-- ITS FALSE NEIGHBOUR: 'it returns false'. Refute it at one input. -/
def codecTuplesWrong : ChangeSpec := { name := "codecTuples", fn := fun _ => fun
  | [d1, d2] => { results := [.lit (.bool false)], args := [d1, d2] }
  | _ => none }
def CodecTuplesWrongFalsely : Prop := codecTuplesRow.holds Try.pinned (OpenSpec.ofChange codecTuplesWrong)

/-- 'caissonlaw03.CrcSums': WHATEVER THE INPUT: true; the input reads as it did. -/
def crcSumsSpec : ChangeSpec := { name := "crcSums", fn := fun _ => fun
  | [d1, d2] => { results := [.lit (.bool true)], args := [d1, d2] }
  | _ => none }
def crcSumsRow : OpenClaim := { program := "ytdppekhnahnjjaa", sum := "68fb5a8b18a2fcafb77b7d7fbbaf1d92670ffb866f38184a3044d238c6da00d2", func := "caisson/caissonlaw03.CrcSums", spec := "crcSums", apart := false }
def CrcSumsSaid : Prop := crcSumsRow.holds Try.pinned (OpenSpec.ofChange crcSumsSpec)

/-- ITS FALSE NEIGHBOUR: 'it returns false'. Refute it at one input. -/
def crcSumsWrong : ChangeSpec := { name := "crcSums", fn := fun _ => fun
  | [d1, d2] => { results := [.lit (.bool false)], args := [d1, d2] }
  | _ => none }
def CrcSumsWrongFalsely : Prop := crcSumsRow.holds Try.pinned (OpenSpec.ofChange crcSumsWrong)

/-- 'caissonlaw01.CodecNumbers': WHATEVER THE INPUT: true; the input reads as it did. -/
def codecNumbersSpec : ChangeSpec := { name := "codecNumbers", fn := fun _ => fun
  | [d1, d2, d3] => { results := [.lit (.bool true)], args := [d1, d2, d3] }
  | _ => none }
def codecNumbersRow : OpenClaim := { program := "ytdppekhnahnjjaa", sum := "68fb5a8b18a2fcafb77b7d7fbbaf1d92670ffb866f38184a3044d238c6da00d2", func := "caisson/caissonlaw01.CodecNumbers", spec := "codecNumbers", apart := false }
def CodecNumbersSaid : Prop := codecNumbersRow.holds Try.pinned (OpenSpec.ofChange codecNumbersSpec)

/-- ITS FALSE NEIGHBOUR: 'it returns false'. Refute it at one input. -/
def codecNumbersWrong : ChangeSpec := { name := "codecNumbers", fn := fun _ => fun
  | [d1, d2, d3] => { results := [.lit (.bool false)], args := [d1, d2, d3] }
  | _ => none }
def CodecNumbersWrongFalsely : Prop := codecNumbersRow.holds Try.pinned (OpenSpec.ofChange codecNumbersWrong)

/-- 'caissonlaw01.CodecNext': WHATEVER THE INPUT: true; the input reads as it did. -/
def codecNextSpec : ChangeSpec := { name := "codecNext", fn := fun _ => fun
  | [d1, d2, d3] => { results := [.lit (.bool true)], args := [d1, d2, d3] }
  | _ => none }
def codecNextRow : OpenClaim := { program := "ytdppekhnahnjjaa", sum := "68fb5a8b18a2fcafb77b7d7fbbaf1d92670ffb866f38184a3044d238c6da00d2", func := "caisson/caissonlaw01.CodecNext", spec := "codecNext", inPlace := ["internal/bytealg.Compare"], apart := false }
def CodecNextSaid : Prop := codecNextRow.holds Try.pinned (OpenSpec.ofChange codecNextSpec)

/-- ITS FALSE NEIGHBOUR: 'it returns false'. Refute it at one input. -/
def codecNextWrong : ChangeSpec := { name := "codecNext", fn := fun _ => fun
  | [d1, d2, d3] => { results := [.lit (.bool false)], args := [d1, d2, d3] }
  | _ => none }
def CodecNextWrongFalsely : Prop := codecNextRow.holds Try.pinned (OpenSpec.ofChange codecNextWrong)

/-- 'caissonlaw01.CodecTexts': WHATEVER THE INPUT: true; the input reads as it did. -/
def codecTextsSpec : ChangeSpec := { name := "codecTexts", fn := fun _ => fun
  | [d1, d2, d3] => { results := [.lit (.bool true)], args := [d1, d2, d3] }
  | _ => none }
def codecTextsRow : OpenClaim := { program := "ytdppekhnahnjjaa", sum := "68fb5a8b18a2fcafb77b7d7fbbaf1d92670ffb866f38184a3044d238c6da00d2", func := "caisson/caissonlaw01.CodecTexts", spec := "codecTexts", apart := false }
def CodecTextsSaid : Prop := codecTextsRow.holds Try.pinned (OpenSpec.ofChange codecTextsSpec)

/-- ITS FALSE NEIGHBOUR: 'it returns false'. Refute it at one input. -/
def codecTextsWrong : ChangeSpec := { name := "codecTexts", fn := fun _ => fun
  | [d1, d2, d3] => { results := [.lit (.bool false)], args := [d1, d2, d3] }
  | _ => none }
def CodecTextsWrongFalsely : Prop := codecTextsRow.holds Try.pinned (OpenSpec.ofChange codecTextsWrong)

/-- 'caissonlaw01.CodecOrders': WHATEVER THE INPUT: true; the input reads as it did. -/
def codecOrdersSpec : ChangeSpec := { name := "codecOrders", fn := fun _ => fun
  | [d1, d2, d3] => { results := [.lit (.bool true)], args := [d1, d2, d3] }
  | _ => none }
def codecOrdersRow : OpenClaim := { program := "ytdppekhnahnjjaa", sum := "68fb5a8b18a2fcafb77b7d7fbbaf1d92670ffb866f38184a3044d238c6da00d2", func := "caisson/caissonlaw01.CodecOrders", spec := "codecOrders", apart := false }
def CodecOrdersSaid : Prop := codecOrdersRow.holds Try.pinned (OpenSpec.ofChange codecOrdersSpec)

/-- ITS FALSE NEIGHBOUR: 'it returns false'. Refute it at one input. -/
def codecOrdersWrong : ChangeSpec := { name := "codecOrders", fn := fun _ => fun
  | [d1, d2, d3] => { results := [.lit (.bool false)], args := [d1, d2, d3] }
  | _ => none }
def CodecOrdersWrongFalsely : Prop := codecOrdersRow.holds Try.pinned (OpenSpec.ofChange codecOrdersWrong)

/-- 'caissonlaw01.CodecFrames': WHATEVER THE INPUT: true; the input reads as it did. -/
def codecFramesSpec : ChangeSpec := { name := "codecFrames", fn := fun _ => fun
  | [d1, d2] => { results := [.lit (.bool true)], args := [d1, d2] }
  | _ => none }
def codecFramesRow : OpenClaim := { program := "ytdppekhnahnjjaa", sum := "68fb5a8b18a2fcafb77b7d7fbbaf1d92670ffb866f38184a3044d238c6da00d2", func := "caisson/caissonlaw01.CodecFrames", spec := "codecFrames", apart := false }
def CodecFramesSaid : Prop := codecFramesRow.holds Try.pinned (OpenSpec.ofChange codecFramesSpec)

/-- ITS FALSE NEIGHBOUR: 'it returns false'. Refute it at one input. -/
def codecFramesWrong : ChangeSpec := { name := "codecFrames", fn := fun _ => fun
  | [d1, d2] => { results := [.lit (.bool false)], args := [d1, d2] }
  | _ => none }
def CodecFramesWrongFalsely : Prop := codecFramesRow.holds Try.pinned (OpenSpec.ofChange codecFramesWrong)

/-- 'caissonlaw03.CrcAll': WHATEVER THE INPUT: true; the input reads as it did. -/
def crcAllSpec : ChangeSpec := { name := "crcAll", fn := fun _ => fun
  | [d] => { results := [.lit (.bool true)], args := [d] }
  | _ => none }
def crcAllRow : OpenClaim := { program := "ytdppekhnahnjjaa", sum := "68fb5a8b18a2fcafb77b7d7fbbaf1d92670ffb866f38184a3044d238c6da00d2", func := "caisson/caissonlaw03.CrcAll", spec := "crcAll", apart := false }
def CrcAllSaid : Prop := crcAllRow.holds Try.pinned (OpenSpec.ofChange crcAllSpec)

/-- ITS FALSE NEIGHBOUR: 'it returns false'. Refute it at one input. -/
def crcAllWrong : ChangeSpec := { name := "crcAll", fn := fun _ => fun
  | [d] => { results := [.lit (.bool false)], args := [d] }
  | _ => none }
def CrcAllWrongFalsely : Prop := crcAllRow.holds Try.pinned (OpenSpec.ofChange crcAllWrong)

/-- 'caissonlaw03.CrcSeals': WHATEVER THE INPUT: true; the input reads as it did. -/
def crcSealsSpec : ChangeSpec := { name := "crcSeals", fn := fun _ => fun
  | [d1, d2, d3] => { results := [.lit (.bool true)], args := [d1, d2, d3] }
  | _ => none }
def crcSealsRow : OpenClaim := { program := "ytdppekhnahnjjaa", sum := "68fb5a8b18a2fcafb77b7d7fbbaf1d92670ffb866f38184a3044d238c6da00d2", func := "caisson/caissonlaw03.CrcSeals", spec := "crcSeals", inPlace := ["internal/bytealg.MakeNoZero"], apart := false }
def CrcSealsSaid : Prop := crcSealsRow.holds Try.pinned (OpenSpec.ofChange crcSealsSpec)

/-- ITS FALSE NEIGHBOUR: 'it returns false'. Refute it at one input. -/
def crcSealsWrong : ChangeSpec := { name := "crcSeals", fn := fun _ => fun
  | [d1, d2, d3] => { results := [.lit (.bool false)], args := [d1, d2, d3] }
  | _ => none }
def CrcSealsWrongFalsely : Prop := crcSealsRow.holds Try.pinned (OpenSpec.ofChange crcSealsWrong)

/-- 'caissonlaw03.CrcBursts': WHATEVER THE INPUT: true; the input reads as it did. -/
def crcBurstsSpec : ChangeSpec := { name := "crcBursts", fn := fun _ => fun
  | [d1, d2, d3] => { results := [.lit (.bool true)], args := [d1, d2, d3] }
  | _ => none }
def crcBurstsRow : OpenClaim := { program := "ytdppekhnahnjjaa", sum := "68fb5a8b18a2fcafb77b7d7fbbaf1d92670ffb866f38184a3044d238c6da00d2", func := "caisson/caissonlaw03.CrcBursts", spec := "crcBursts", inPlace := ["internal/bytealg.MakeNoZero"], apart := false }
def CrcBurstsSaid : Prop := crcBurstsRow.holds Try.pinned (OpenSpec.ofChange crcBurstsSpec)

/-- ITS FALSE NEIGHBOUR: 'it returns false'. Refute it at one input. -/
def crcBurstsWrong : ChangeSpec := { name := "crcBursts", fn := fun _ => fun
  | [d1, d2, d3] => { results := [.lit (.bool false)], args := [d1, d2, d3] }
  | _ => none }
def CrcBurstsWrongFalsely : Prop := crcBurstsRow.holds Try.pinned (OpenSpec.ofChange crcBurstsWrong)

/-- 'caissonlaw01.CodecKeeps': WHATEVER THE INPUT: true; the input reads as it did. -/
def codecKeepsSpec : ChangeSpec := { name := "codecKeeps", fn := fun _ => fun
  | [d1, d2] => { results := [.lit (.bool true)], args := [d1, d2] }
  | _ => none }
def codecKeepsRow : OpenClaim := { program := "ytdppekhnahnjjaa", sum := "68fb5a8b18a2fcafb77b7d7fbbaf1d92670ffb866f38184a3044d238c6da00d2", func := "caisson/caissonlaw01.CodecKeeps", spec := "codecKeeps", apart := false }
def CodecKeepsSaid : Prop := codecKeepsRow.holds Try.pinned (OpenSpec.ofChange codecKeepsSpec)

/-- ITS FALSE NEIGHBOUR: 'it returns false'. Refute it at one input. -/
def codecKeepsWrong : ChangeSpec := { name := "codecKeeps", fn := fun _ => fun
  | [d1, d2] => { results := [.lit (.bool false)], args := [d1, d2] }
  | _ => none }
def CodecKeepsWrongFalsely : Prop := codecKeepsRow.holds Try.pinned (OpenSpec.ofChange codecKeepsWrong)

/-- 'caissonlaw03.CrcKeeps': WHATEVER THE INPUT: true; the input reads as it did. -/
def crcKeepsSpec : ChangeSpec := { name := "crcKeeps", fn := fun _ => fun
  | [d1, d2] => { results := [.lit (.bool true)], args := [d1, d2] }
  | _ => none }
def crcKeepsRow : OpenClaim := { program := "ytdppekhnahnjjaa", sum := "68fb5a8b18a2fcafb77b7d7fbbaf1d92670ffb866f38184a3044d238c6da00d2", func := "caisson/caissonlaw03.CrcKeeps", spec := "crcKeeps", inPlace := ["internal/bytealg.MakeNoZero"], apart := false }
def CrcKeepsSaid : Prop := crcKeepsRow.holds Try.pinned (OpenSpec.ofChange crcKeepsSpec)

/-- ITS FALSE NEIGHBOUR: 'it returns false'. Refute it at one input. -/
def crcKeepsWrong : ChangeSpec := { name := "crcKeeps", fn := fun _ => fun
  | [d1, d2] => { results := [.lit (.bool false)], args := [d1, d2] }
  | _ => none }
def CrcKeepsWrongFalsely : Prop := crcKeepsRow.holds Try.pinned (OpenSpec.ofChange crcKeepsWrong)

/- THE SECOND FORM. 'bulk': how many values and letters a reading holds, each counted each time it is reached (what is shared counts as often as it is met; a slice's spare places count too). A statement '..UptoSaid' is the law's where the arguments, and the package variables that the reading takes, are together of bulk at most 1048576: NARROWER than '..Said'. Prove '..Said' where nothing that the law and all that it calls make is longer than what came in: it says more and counts as full. Else prove '..UptoSaid'. A law counts once. -/
mutual
def uptoBulk {H : Type} : DataW H → Nat
  | .lit (.string bytes) => bytes.length + 1
  | .lit _ => 1
  | .nil => 1
  | .ptr d => uptoBulk d + 1
  | .slice elems spare => uptoBulkAll elems + uptoBulkAll spare + 1
  | .agg parts => uptoBulkAll parts + 1
  | .iface _ d => uptoBulk d + 1
  | .map entries => uptoBulkEntries entries + 1
  | .held _ => 1
def uptoBulkAll {H : Type} : List (DataW H) → Nat
  | [] => 0
  | d :: r => uptoBulk d + uptoBulkAll r
def uptoBulkEntries {H : Type} : List (Lit × DataW H) → Nat
  | [] => 0
  | x :: r => uptoBulkEntry x + uptoBulkEntries r
def uptoBulkEntry {H : Type} : Lit × DataW H → Nat
  | (.string bytes, d) => bytes.length + uptoBulk d + 1
  | (_, d) => uptoBulk d + 1
 end
def uptoSmall : (H : Type) → List (DataW H) → Bool := fun _ ds => decide (uptoBulkAll ds ≤ 1048576)
def OpenSpec.upto (s : _root_.Go.ChangeSpec) : _root_.Go.OpenSpec := { _root_.Go.OpenSpec.ofChange s with cond := some uptoSmall }

/-- 'caissonlaw01.CodecTuples', WHERE WHAT IT READS IS OF BULK AT MOST 1048576: true; the input reads as it did. -/
def codecTuplesUptoRow : OpenClaim := { program := "ytdppekhnahnjjaa", sum := "68fb5a8b18a2fcafb77b7d7fbbaf1d92670ffb866f38184a3044d238c6da00d2", func := "caisson/caissonlaw01.CodecTuples", spec := "codecTuples", inPlace := ["internal/bytealg.Compare"], apart := false, narrowed := true }
def CodecTuplesUptoSaid : Prop := codecTuplesUptoRow.holds Try.pinned (OpenSpec.upto codecTuplesSpec)

/-- 'caissonlaw03.CrcSums', WHERE WHAT IT READS IS OF BULK AT MOST 1048576: true; the input reads as it did. -/
def crcSumsUptoRow : OpenClaim := { program := "ytdppekhnahnjjaa", sum := "68fb5a8b18a2fcafb77b7d7fbbaf1d92670ffb866f38184a3044d238c6da00d2", func := "caisson/caissonlaw03.CrcSums", spec := "crcSums", apart := false, narrowed := true }
def CrcSumsUptoSaid : Prop := crcSumsUptoRow.holds Try.pinned (OpenSpec.upto crcSumsSpec)

/-- 'caissonlaw01.CodecNumbers', WHERE WHAT IT READS IS OF BULK AT MOST 1048576: true; the input reads as it did. -/
def codecNumbersUptoRow : OpenClaim := { program := "ytdppekhnahnjjaa", sum := "68fb5a8b18a2fcafb77b7d7fbbaf1d92670ffb866f38184a3044d238c6da00d2", func := "caisson/caissonlaw01.CodecNumbers", spec := "codecNumbers", apart := false, narrowed := true }
def CodecNumbersUptoSaid : Prop := codecNumbersUptoRow.holds Try.pinned (OpenSpec.upto codecNumbersSpec)

/-- 'caissonlaw01.CodecNext', WHERE WHAT IT READS IS OF BULK AT MOST 1048576: true; the input reads as it did. -/
def codecNextUptoRow : OpenClaim := { program := "ytdppekhnahnjjaa", sum := "68fb5a8b18a2fcafb77b7d7fbbaf1d92670ffb866f38184a3044d238c6da00d2", func := "caisson/caissonlaw01.CodecNext", spec := "codecNext", inPlace := ["internal/bytealg.Compare"], apart := false, narrowed := true }
def CodecNextUptoSaid : Prop := codecNextUptoRow.holds Try.pinned (OpenSpec.upto codecNextSpec)

/-- 'caissonlaw01.CodecTexts', WHERE WHAT IT READS IS OF BULK AT MOST 1048576: true; the input reads as it did. -/
def codecTextsUptoRow : OpenClaim := { program := "ytdppekhnahnjjaa", sum := "68fb5a8b18a2fcafb77b7d7fbbaf1d92670ffb866f38184a3044d238c6da00d2", func := "caisson/caissonlaw01.CodecTexts", spec := "codecTexts", apart := false, narrowed := true }
def CodecTextsUptoSaid : Prop := codecTextsUptoRow.holds Try.pinned (OpenSpec.upto codecTextsSpec)

/-- 'caissonlaw01.CodecOrders', WHERE WHAT IT READS IS OF BULK AT MOST 1048576: true; the input reads as it did. -/
def codecOrdersUptoRow : OpenClaim := { program := "ytdppekhnahnjjaa", sum := "68fb5a8b18a2fcafb77b7d7fbbaf1d92670ffb866f38184a3044d238c6da00d2", func := "caisson/caissonlaw01.CodecOrders", spec := "codecOrders", apart := false, narrowed := true }
def CodecOrdersUptoSaid : Prop := codecOrdersUptoRow.holds Try.pinned (OpenSpec.upto codecOrdersSpec)

/-- 'caissonlaw01.CodecFrames', WHERE WHAT IT READS IS OF BULK AT MOST 1048576: true; the input reads as it did. -/
def codecFramesUptoRow : OpenClaim := { program := "ytdppekhnahnjjaa", sum := "68fb5a8b18a2fcafb77b7d7fbbaf1d92670ffb866f38184a3044d238c6da00d2", func := "caisson/caissonlaw01.CodecFrames", spec := "codecFrames", apart := false, narrowed := true }
def CodecFramesUptoSaid : Prop := codecFramesUptoRow.holds Try.pinned (OpenSpec.upto codecFramesSpec)

/-- 'caissonlaw03.CrcAll', WHERE WHAT IT READS IS OF BULK AT MOST 1048576: true; the input reads as it did. -/
def crcAllUptoRow : OpenClaim := { program := "ytdppekhnahnjjaa", sum := "68fb5a8b18a2fcafb77b7d7fbbaf1d92670ffb866f38184a3044d238c6da00d2", func := "caisson/caissonlaw03.CrcAll", spec := "crcAll", apart := false, narrowed := true }
def CrcAllUptoSaid : Prop := crcAllUptoRow.holds Try.pinned (OpenSpec.upto crcAllSpec)

/-- 'caissonlaw03.CrcSeals', WHERE WHAT IT READS IS OF BULK AT MOST 1048576: true; the input reads as it did. -/
def crcSealsUptoRow : OpenClaim := { program := "ytdppekhnahnjjaa", sum := "68fb5a8b18a2fcafb77b7d7fbbaf1d92670ffb866f38184a3044d238c6da00d2", func := "caisson/caissonlaw03.CrcSeals", spec := "crcSeals", inPlace := ["internal/bytealg.MakeNoZero"], apart := false, narrowed := true }
def CrcSealsUptoSaid : Prop := crcSealsUptoRow.holds Try.pinned (OpenSpec.upto crcSealsSpec)

/-- 'caissonlaw03.CrcBursts', WHERE WHAT IT READS IS OF BULK AT MOST 1048576: true; the input reads as it did. -/
def crcBurstsUptoRow : OpenClaim := { program := "ytdppekhnahnjjaa", sum := "68fb5a8b18a2fcafb77b7d7fbbaf1d92670ffb866f38184a3044d238c6da00d2", func := "caisson/caissonlaw03.CrcBursts", spec := "crcBursts", inPlace := ["internal/bytealg.MakeNoZero"], apart := false, narrowed := true }
def CrcBurstsUptoSaid : Prop := crcBurstsUptoRow.holds Try.pinned (OpenSpec.upto crcBurstsSpec)

/-- 'caissonlaw01.CodecKeeps', WHERE WHAT IT READS IS OF BULK AT MOST 1048576: true; the input reads as it did. -/
def codecKeepsUptoRow : OpenClaim := { program := "ytdppekhnahnjjaa", sum := "68fb5a8b18a2fcafb77b7d7fbbaf1d92670ffb866f38184a3044d238c6da00d2", func := "caisson/caissonlaw01.CodecKeeps", spec := "codecKeeps", apart := false, narrowed := true }
def CodecKeepsUptoSaid : Prop := codecKeepsUptoRow.holds Try.pinned (OpenSpec.upto codecKeepsSpec)

/-- 'caissonlaw03.CrcKeeps', WHERE WHAT IT READS IS OF BULK AT MOST 1048576: true; the input reads as it did. -/
def crcKeepsUptoRow : OpenClaim := { program := "ytdppekhnahnjjaa", sum := "68fb5a8b18a2fcafb77b7d7fbbaf1d92670ffb866f38184a3044d238c6da00d2", func := "caisson/caissonlaw03.CrcKeeps", spec := "crcKeeps", inPlace := ["internal/bytealg.MakeNoZero"], apart := false, narrowed := true }
def CrcKeepsUptoSaid : Prop := crcKeepsUptoRow.holds Try.pinned (OpenSpec.upto crcKeepsSpec)

end Rows
end Go.Proofs.Ytdppekhnahnjjaa
