/-
  No cell of these rows narrows 'for every input' (looked for: loops, veiled, ifaces, maps, wideKeys, modest, calm, conditions, laid).
  DERIVED. THE GIVEN ROWS OF THIS SEAT. 4 by the template 'for every input the law returns true; each argument reads behind the call as it read before'; 0 by the template 'total and deterministic' (their statements: YtaacnknniaipmaaTotals.lean).
  GIVEN WITH THE SEED: the statements are not yours to turn. If you find one false, say at which input.
  Laid BY PROGRAM, IN A SANDBOX (cutbox-rows.mjs): the forced cells as the released guide's own fill.sh prints them over the translation 24b4c1367b870efb… (all of the seat's roots in one cut). By AI agents, Wed Nov 11 2026. No macro, syntax, notation, axiom, sorry.
-/
import Derived.Test.YtaacnknniaipmaaChecked
import GoSem.Claim
import GoSem.ClaimJoined
import GoSem.ClaimMapViews
import Derived.JoinedTies
import Derived.KernelRfl
namespace Go.Proofs.Ytaacnknniaipmaa
/- THE CELL 'sum', in the pinned program and in every row, IS THE sha256 OF THE DUMP (.gsa) THAT YtaacnknniaipmaaProg.lean LOADS. Nothing in Lean hashes anything: it is a label: what it is worth is what the hold of that sum in a sandbox is worth. -/
noncomputable def Try.pinned : Pinned := { name := "ytaacnknniaipmaa", sum := "24b4c1367b870efb9970fd1609d1e727d2e340822af170ec498fcbdb9440e47c", checked := Try.checked }
namespace Rows
def none {H : Type} : Left H := { results := [], args := [] }

/-- 'caissonlaw24.SessionClients': WHATEVER THE INPUT: true; the input reads as it did. -/
def sessionClientsSpec : ChangeSpec := { name := "sessionClients", fn := fun _ => fun
  | [d1, d2] => { results := [.lit (.bool true)], args := [d1, d2] }
  | _ => none }
def sessionClientsRow : OpenClaim := { program := "ytaacnknniaipmaa", sum := "24b4c1367b870efb9970fd1609d1e727d2e340822af170ec498fcbdb9440e47c", func := "caisson/caissonlaw24.SessionClients", spec := "sessionClients", unfollowed := true, recurses := true, apart := false }
def SessionClientsSaid : Prop := sessionClientsRow.holds Try.pinned (OpenSpec.ofChange sessionClientsSpec)

/-- ITS FALSE NEIGHBOUR: 'it returns false'. Refute it at one input. -/
def sessionClientsWrong : ChangeSpec := { name := "sessionClients", fn := fun _ => fun
  | [d1, d2] => { results := [.lit (.bool false)], args := [d1, d2] }
  | _ => none }
def SessionClientsWrongFalsely : Prop := sessionClientsRow.holds Try.pinned (OpenSpec.ofChange sessionClientsWrong)

/-- 'caissonlaw24.SessionPackets': WHATEVER THE INPUT: true; the input reads as it did. -/
def sessionPacketsSpec : ChangeSpec := { name := "sessionPackets", fn := fun _ => fun
  | [d1, d2] => { results := [.lit (.bool true)], args := [d1, d2] }
  | _ => none }
def sessionPacketsRow : OpenClaim := { program := "ytaacnknniaipmaa", sum := "24b4c1367b870efb9970fd1609d1e727d2e340822af170ec498fcbdb9440e47c", func := "caisson/caissonlaw24.SessionPackets", spec := "sessionPackets", inPlace := ["internal/bytealg.MakeNoZero"], unfollowed := true, recurses := true, apart := false }
def SessionPacketsSaid : Prop := sessionPacketsRow.holds Try.pinned (OpenSpec.ofChange sessionPacketsSpec)

/-- ITS FALSE NEIGHBOUR: 'it returns false'. Refute it at one input. -/
def sessionPacketsWrong : ChangeSpec := { name := "sessionPackets", fn := fun _ => fun
  | [d1, d2] => { results := [.lit (.bool false)], args := [d1, d2] }
  | _ => none }
def SessionPacketsWrongFalsely : Prop := sessionPacketsRow.holds Try.pinned (OpenSpec.ofChange sessionPacketsWrong)

/-- 'caissonlaw24.SessionBursts': WHATEVER THE INPUT: true; the input reads as it did. -/
def sessionBurstsSpec : ChangeSpec := { name := "sessionBursts", fn := fun _ => fun
  | [d1, d2, d3] => { results := [.lit (.bool true)], args := [d1, d2, d3] }
  | _ => none }
def sessionBurstsRow : OpenClaim := { program := "ytaacnknniaipmaa", sum := "24b4c1367b870efb9970fd1609d1e727d2e340822af170ec498fcbdb9440e47c", func := "caisson/caissonlaw24.SessionBursts", spec := "sessionBursts", inPlace := ["internal/bytealg.MakeNoZero"], unfollowed := true, recurses := true, apart := false }
def SessionBurstsSaid : Prop := sessionBurstsRow.holds Try.pinned (OpenSpec.ofChange sessionBurstsSpec)

/-- ITS FALSE NEIGHBOUR: 'it returns false'. Refute it at one input. -/
def sessionBurstsWrong : ChangeSpec := { name := "sessionBursts", fn := fun _ => fun
  | [d1, d2, d3] => { results := [.lit (.bool false)], args := [d1, d2, d3] }
  | _ => none }
def SessionBurstsWrongFalsely : Prop := sessionBurstsRow.holds Try.pinned (OpenSpec.ofChange sessionBurstsWrong)

/-- 'caissonlaw24.SessionKeeps': WHATEVER THE INPUT: true; the input reads as it did. -/
def sessionKeepsSpec : ChangeSpec := { name := "sessionKeeps", fn := fun _ => fun
  | [d] => { results := [.lit (.bool true)], args := [d] }
  | _ => none }
def sessionKeepsRow : OpenClaim := { program := "ytaacnknniaipmaa", sum := "24b4c1367b870efb9970fd1609d1e727d2e340822af170ec498fcbdb9440e47c", func := "caisson/caissonlaw24.SessionKeeps", spec := "sessionKeeps", inPlace := ["internal/bytealg.MakeNoZero"], unfollowed := true, recurses := true, apart := false }
def SessionKeepsSaid : Prop := sessionKeepsRow.holds Try.pinned (OpenSpec.ofChange sessionKeepsSpec)

/-- ITS FALSE NEIGHBOUR: 'it returns false'. Refute it at one input. -/
def sessionKeepsWrong : ChangeSpec := { name := "sessionKeeps", fn := fun _ => fun
  | [d] => { results := [.lit (.bool false)], args := [d] }
  | _ => none }
def SessionKeepsWrongFalsely : Prop := sessionKeepsRow.holds Try.pinned (OpenSpec.ofChange sessionKeepsWrong)

/- THE SECOND FORM. 'bulk': how many values and letters a reading holds, each counted each time it is reached (what is shared counts as often as it is met; a slice's spare places count too). A statement '..UptoSaid' is the law's where the arguments, and the package variables that the reading takes, are together of bulk at most 1048576: NARROWER than '..Said'. Prove '..Said' where nothing that the law and all that it calls make is longer than what came in: it says more and counts as full. Else prove '..UptoSaid'. A law counts once. -/
mutual
def uptoBulk {H : Type} : DataW H → Nat
  | .lit (.string bytes) => bytes.length + 1
  | .lit _ => 1
  | .nil => 1
  | .ptr d => uptoBulk d + 1
  | .slice elems spare => uptoBulkAll elems + uptoBulkAll spare + 1
  | .agg parts => uptoBulkAll parts + 1
  | .iface _ d => uptoBulk d + 1
  | .map entries => uptoBulkEntries entries + 1
  | .held _ => 1
def uptoBulkAll {H : Type} : List (DataW H) → Nat
  | [] => 0
  | d :: r => uptoBulk d + uptoBulkAll r
def uptoBulkEntries {H : Type} : List (Lit × DataW H) → Nat
  | [] => 0
  | x :: r => uptoBulkEntry x + uptoBulkEntries r
def uptoBulkEntry {H : Type} : Lit × DataW H → Nat
  | (.string bytes, d) => bytes.length + uptoBulk d + 1
  | (_, d) => uptoBulk d + 1
 end
def uptoSmall : (H : Type) → List (DataW H) → Bool := fun _ ds => decide (uptoBulkAll ds ≤ 1048576)
def OpenSpec.upto (s : _root_.Go.ChangeSpec) : _root_.Go.OpenSpec := { _root_.Go.OpenSpec.ofChange s with cond := some uptoSmall }

/-- 'caissonlaw24.SessionClients', WHERE WHAT IT READS IS OF BULK AT MOST 1048576: true; the input reads as it did. -/
def sessionClientsUptoRow : OpenClaim := { program := "ytaacnknniaipmaa", sum := "24b4c1367b870efb9970fd1609d1e727d2e340822af170ec498fcbdb9440e47c", func := "caisson/caissonlaw24.SessionClients", spec := "sessionClients", unfollowed := true, recurses := true, apart := false, narrowed := true }
def SessionClientsUptoSaid : Prop := sessionClientsUptoRow.holds Try.pinned (OpenSpec.upto sessionClientsSpec)

/-- 'caissonlaw24.SessionPackets', WHERE WHAT IT READS IS OF BULK AT MOST 1048576: true; the input reads as it did. -/
def sessionPacketsUptoRow : OpenClaim := { program := "ytaacnknniaipmaa", sum := "24b4c1367b870efb9970fd1609d1e727d2e340822af170ec498fcbdb9440e47c", func := "caisson/caissonlaw24.SessionPackets", spec := "sessionPackets", inPlace := ["internal/bytealg.MakeNoZero"], unfollowed := true, recurses := true, apart := false, narrowed := true }
def SessionPacketsUptoSaid : Prop := sessionPacketsUptoRow.holds Try.pinned (OpenSpec.upto sessionPacketsSpec)

/-- 'caissonlaw24.SessionBursts', WHERE WHAT IT READS IS OF BULK AT MOST 1048576: true; the input reads as it did. -/
def sessionBurstsUptoRow : OpenClaim := { program := "ytaacnknniaipmaa", sum := "24b4c1367b870efb9970fd1609d1e727d2e340822af170ec498fcbdb9440e47c", func := "caisson/caissonlaw24.SessionBursts", spec := "sessionBursts", inPlace := ["internal/bytealg.MakeNoZero"], unfollowed := true, recurses := true, apart := false, narrowed := true }
def SessionBurstsUptoSaid : Prop := sessionBurstsUptoRow.holds Try.pinned (OpenSpec.upto sessionBurstsSpec)

/-- 'caissonlaw24.SessionKeeps', WHERE WHAT IT READS IS OF BULK AT MOST 1048576: true; the input reads as it did. -/
def sessionKeepsUptoRow : OpenClaim := { program := "ytaacnknniaipmaa", sum := "24b4c1367b870efb9970fd1609d1e727d2e340822af170ec498fcbdb9440e47c", func := "caisson/caissonlaw24.SessionKeeps", spec := "sessionKeeps", inPlace := ["internal/bytealg.MakeNoZero"], unfollowed := true, recurses := true, apart := false, narrowed := true }
def SessionKeepsUptoSaid : Prop := sessionKeepsUptoRow.holds Try.pinned (OpenSpec.upto sessionKeepsSpec)

end Rows
end Go.Proofs.Ytaacnknniaipmaa
