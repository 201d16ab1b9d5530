/-
  DERIVED. GIVEN WITH THE SEED: THE CARDS: each row of YtdgagffieobiiaaGreatDoorRows.lean that lists a variable, with what it lists TIED to the program's text (the seventh form; the later family's looks); each row that meets fmt, with fmt's text TOLD by the authors' own Lean function (tested against real Go, not proved from fmt's source: count such statements apart). THE CARD IS WHAT COUNTS. Prove the row's statement (the work); the ties are given (YtdgagffieobiiaaGreatDoorTie.lean); close each card by the builder's one call (the guide's Derived/Test/ToyasCard.lean, 'card_holds'). Laid BY PROGRAM, IN A SANDBOX (cutbox-door.mjs). By AI agents, Wed Nov 11 2026. No macro, syntax, notation, axiom, sorry.
-/
import Derived.Test.YtdgagffieobiiaaGreatDoorRows
import GoSem.ClaimSeven
namespace Go.Proofs.YtdgagffieobiiaaGreatDoor
namespace Rows

/-- THE TIED CARD OF 'caissontop.CaissonTables'. -/
def caissonTablesCard : Claim7 := { stood := { row := caissonTablesRow, standIns := [], harness := (true, "0887d4b9154716c568f4d1fd07d5e01ac13b7fa0b50061f5df072cc8d0c093ae"), looks := false }, kinds := [], alts := [], laidByText := true, laidKinds := [.data, .data], laidTests := true, laidLooks := .later }
def CaissonTablesCardSaid : Prop := Claim7.holds Tryz.pinned (.plain (OpenSpec.ofChange caissonTablesSpec)) caissonTablesCard

/-- THE SECOND FORM's CARD OF 'caissontop.CaissonTables'. -/
def caissonTablesUptoCard : Claim7 := { stood := { row := caissonTablesUptoRow, standIns := [], harness := (true, "0887d4b9154716c568f4d1fd07d5e01ac13b7fa0b50061f5df072cc8d0c093ae"), looks := false }, kinds := [], alts := [], laidByText := true, laidKinds := [.data, .data], laidTests := true, laidLooks := .later }
def CaissonTablesUptoCardSaid : Prop := Claim7.holds Tryz.pinned (.plain (OpenSpec.upto caissonTablesSpec)) caissonTablesUptoCard
end Rows
end Go.Proofs.YtdgagffieobiiaaGreatDoor
