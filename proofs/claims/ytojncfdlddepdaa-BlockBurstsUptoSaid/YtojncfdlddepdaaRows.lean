/-
  No cell of these rows narrows 'for every input' (looked for: loops, veiled, ifaces, maps, wideKeys, modest, calm, conditions, laid).
  DERIVED. THE GIVEN ROWS OF THIS SEAT. 4 by the template 'for every input the law returns true; each argument reads behind the call as it read before'; 0 by the template 'total and deterministic' (their statements: YtojncfdlddepdaaTotals.lean).
  GIVEN WITH THE SEED: the statements are not yours to turn. If you find one false, say at which input.
  Laid BY PROGRAM, IN A SANDBOX (cutbox-rows.mjs): the forced cells as the released guide's own fill.sh prints them over the translation 6ddb76a3687992fb… (all of the seat's roots in one cut). By AI agents, Wed Nov 11 2026. No macro, syntax, notation, axiom, sorry.
-/
import Derived.Test.YtojncfdlddepdaaChecked
import GoSem.Claim
import GoSem.ClaimJoined
import GoSem.ClaimMapViews
import Derived.JoinedTies
import Derived.KernelRfl
namespace Go.Proofs.Ytojncfdlddepdaa
/- THE CELL 'sum', in the pinned program and in every row, IS THE sha256 OF THE DUMP (.gsa) THAT YtojncfdlddepdaaProg.lean LOADS. Nothing in Lean hashes anything: it is a label: what it is worth is what the hold of that sum in a sandbox is worth. -/
noncomputable def Try.pinned : Pinned := { name := "ytojncfdlddepdaa", sum := "6ddb76a3687992fb9050a094d56ba4f85947af601ffe08287d52f80ba1539722", checked := Try.checked }
namespace Rows
def none {H : Type} : Left H := { results := [], args := [] }

/-- 'caissonlaw08.BlockBursts': WHATEVER THE INPUT: true; the input reads as it did. -/
def blockBurstsSpec : ChangeSpec := { name := "blockBursts", fn := fun _ => fun
  | [d1, d2, d3] => { results := [.lit (.bool true)], args := [d1, d2, d3] }
  | _ => none }
def blockBurstsRow : OpenClaim := { program := "ytojncfdlddepdaa", sum := "6ddb76a3687992fb9050a094d56ba4f85947af601ffe08287d52f80ba1539722", func := "caisson/caissonlaw08.BlockBursts", spec := "blockBursts", inPlace := ["internal/bytealg.Compare", "internal/bytealg.MakeNoZero"], apart := false }
def BlockBurstsSaid : Prop := blockBurstsRow.holds Try.pinned (OpenSpec.ofChange blockBurstsSpec)

/-- ITS FALSE NEIGHBOUR: 'it returns false'. Refute it at one input. -/
def blockBurstsWrong : ChangeSpec := { name := "blockBursts", fn := fun _ => fun
  | [d1, d2, d3] => { results := [.lit (.bool false)], args := [d1, d2, d3] }
  | _ => none }
def BlockBurstsWrongFalsely : Prop := blockBurstsRow.holds Try.pinned (OpenSpec.ofChange blockBurstsWrong)

/-- 'caissonlaw08.BlockReads': WHATEVER THE INPUT: true; the input reads as it did. -/
def blockReadsSpec : ChangeSpec := { name := "blockReads", fn := fun _ => fun
  | [d1, d2, d3] => { results := [.lit (.bool true)], args := [d1, d2, d3] }
  | _ => none }
def blockReadsRow : OpenClaim := { program := "ytojncfdlddepdaa", sum := "6ddb76a3687992fb9050a094d56ba4f85947af601ffe08287d52f80ba1539722", func := "caisson/caissonlaw08.BlockReads", spec := "blockReads", inPlace := ["internal/bytealg.Compare", "internal/bytealg.MakeNoZero"], unfollowed := true, recurses := true, apart := false }
def BlockReadsSaid : Prop := blockReadsRow.holds Try.pinned (OpenSpec.ofChange blockReadsSpec)

/-- ITS FALSE NEIGHBOUR: 'it returns false'. Refute it at one input. -/
def blockReadsWrong : ChangeSpec := { name := "blockReads", fn := fun _ => fun
  | [d1, d2, d3] => { results := [.lit (.bool false)], args := [d1, d2, d3] }
  | _ => none }
def BlockReadsWrongFalsely : Prop := blockReadsRow.holds Try.pinned (OpenSpec.ofChange blockReadsWrong)

/-- 'caissonlaw08.BlockSeeks': WHATEVER THE INPUT: true; the input reads as it did. -/
def blockSeeksSpec : ChangeSpec := { name := "blockSeeks", fn := fun _ => fun
  | [d1, d2, d3] => { results := [.lit (.bool true)], args := [d1, d2, d3] }
  | _ => none }
def blockSeeksRow : OpenClaim := { program := "ytojncfdlddepdaa", sum := "6ddb76a3687992fb9050a094d56ba4f85947af601ffe08287d52f80ba1539722", func := "caisson/caissonlaw08.BlockSeeks", spec := "blockSeeks", inPlace := ["internal/bytealg.Compare", "internal/bytealg.MakeNoZero"], unfollowed := true, recurses := true, apart := false }
def BlockSeeksSaid : Prop := blockSeeksRow.holds Try.pinned (OpenSpec.ofChange blockSeeksSpec)

/-- ITS FALSE NEIGHBOUR: 'it returns false'. Refute it at one input. -/
def blockSeeksWrong : ChangeSpec := { name := "blockSeeks", fn := fun _ => fun
  | [d1, d2, d3] => { results := [.lit (.bool false)], args := [d1, d2, d3] }
  | _ => none }
def BlockSeeksWrongFalsely : Prop := blockSeeksRow.holds Try.pinned (OpenSpec.ofChange blockSeeksWrong)

/-- 'caissonlaw08.BlockKeeps': WHATEVER THE INPUT: true; the input reads as it did. -/
def blockKeepsSpec : ChangeSpec := { name := "blockKeeps", fn := fun _ => fun
  | [d1, d2] => { results := [.lit (.bool true)], args := [d1, d2] }
  | _ => none }
def blockKeepsRow : OpenClaim := { program := "ytojncfdlddepdaa", sum := "6ddb76a3687992fb9050a094d56ba4f85947af601ffe08287d52f80ba1539722", func := "caisson/caissonlaw08.BlockKeeps", spec := "blockKeeps", inPlace := ["internal/bytealg.Compare", "internal/bytealg.MakeNoZero"], unfollowed := true, recurses := true, apart := false }
def BlockKeepsSaid : Prop := blockKeepsRow.holds Try.pinned (OpenSpec.ofChange blockKeepsSpec)

/-- ITS FALSE NEIGHBOUR: 'it returns false'. Refute it at one input. -/
def blockKeepsWrong : ChangeSpec := { name := "blockKeeps", fn := fun _ => fun
  | [d1, d2] => { results := [.lit (.bool false)], args := [d1, d2] }
  | _ => none }
def BlockKeepsWrongFalsely : Prop := blockKeepsRow.holds Try.pinned (OpenSpec.ofChange blockKeepsWrong)

/- THE SECOND FORM. 'bulk': how many values and letters a reading holds, each counted each time it is reached (what is shared counts as often as it is met; a slice's spare places count too). A statement '..UptoSaid' is the law's where the arguments, and the package variables that the reading takes, are together of bulk at most 1048576: NARROWER than '..Said'. Prove '..Said' where nothing that the law and all that it calls make is longer than what came in: it says more and counts as full. Else prove '..UptoSaid'. A law counts once. -/
mutual
def uptoBulk {H : Type} : DataW H → Nat
  | .lit (.string bytes) => bytes.length + 1
  | .lit _ => 1
  | .nil => 1
  | .ptr d => uptoBulk d + 1
  | .slice elems spare => uptoBulkAll elems + uptoBulkAll spare + 1
  | .agg parts => uptoBulkAll parts + 1
  | .iface _ d => uptoBulk d + 1
  | .map entries => uptoBulkEntries entries + 1
  | .held _ => 1
def uptoBulkAll {H : Type} : List (DataW H) → Nat
  | [] => 0
  | d :: r => uptoBulk d + uptoBulkAll r
def uptoBulkEntries {H : Type} : List (Lit × DataW H) → Nat
  | [] => 0
  | x :: r => uptoBulkEntry x + uptoBulkEntries r
def uptoBulkEntry {H : Type} : Lit × DataW H → Nat
  | (.string bytes, d) => bytes.length + uptoBulk d + 1
  | (_, d) => uptoBulk d + 1
 end
def uptoSmall : (H : Type) → List (DataW H) → Bool := fun _ ds => decide (uptoBulkAll ds ≤ 1048576)
def OpenSpec.upto (s : _root_.Go.ChangeSpec) : _root_.Go.OpenSpec := { _root_.Go.OpenSpec.ofChange s with cond := some uptoSmall }

/-- 'caissonlaw08.BlockBursts', WHERE WHAT IT READS IS OF BULK AT MOST 1048576: true; the input reads as it did. -/
def blockBurstsUptoRow : OpenClaim := { program := "ytojncfdlddepdaa", sum := "6ddb76a3687992fb9050a094d56ba4f85947af601ffe08287d52f80ba1539722", func := "caisson/caissonlaw08.BlockBursts", spec := "blockBursts", inPlace := ["internal/bytealg.Compare", "internal/bytealg.MakeNoZero"], apart := false, narrowed := true }
def BlockBurstsUptoSaid : Prop := blockBurstsUptoRow.holds Try.pinned (OpenSpec.upto blockBurstsSpec)

/-- 'caissonlaw08.BlockReads', WHERE WHAT IT READS IS OF BULK AT MOST 1048576: true; the input reads as it did. -/
def blockReadsUptoRow : OpenClaim := { program := "ytojncfdlddepdaa", sum := "6ddb76a3687992fb9050a094d56ba4f85947af601ffe08287d52f80ba1539722", func := "caisson/caissonlaw08.BlockReads", spec := "blockReads", inPlace := ["internal/bytealg.Compare", "internal/bytealg.MakeNoZero"], unfollowed := true, recurses := true, apart := false, narrowed := true }
def BlockReadsUptoSaid : Prop := blockReadsUptoRow.holds Try.pinned (OpenSpec.upto blockReadsSpec)

/-- 'caissonlaw08.BlockSeeks', WHERE WHAT IT READS IS OF BULK AT MOST 1048576: true; the input reads as it did. -/
def blockSeeksUptoRow : OpenClaim := { program := "ytojncfdlddepdaa", sum := "6ddb76a3687992fb9050a094d56ba4f85947af601ffe08287d52f80ba1539722", func := "caisson/caissonlaw08.BlockSeeks", spec := "blockSeeks", inPlace := ["internal/bytealg.Compare", "internal/bytealg.MakeNoZero"], unfollowed := true, recurses := true, apart := false, narrowed := true }
def BlockSeeksUptoSaid : Prop := blockSeeksUptoRow.holds Try.pinned (OpenSpec.upto blockSeeksSpec)

/-- 'caissonlaw08.BlockKeeps', WHERE WHAT IT READS IS OF BULK AT MOST 1048576: true; the input reads as it did. -/
def blockKeepsUptoRow : OpenClaim := { program := "ytojncfdlddepdaa", sum := "6ddb76a3687992fb9050a094d56ba4f85947af601ffe08287d52f80ba1539722", func := "caisson/caissonlaw08.BlockKeeps", spec := "blockKeeps", inPlace := ["internal/bytealg.Compare", "internal/bytealg.MakeNoZero"], unfollowed := true, recurses := true, apart := false, narrowed := true }
def BlockKeepsUptoSaid : Prop := blockKeepsUptoRow.holds Try.pinned (OpenSpec.upto blockKeepsSpec)

end Rows
end Go.Proofs.Ytojncfdlddepdaa
