/-
  DERIVED. GIVEN WITH THE SEED: THE CARDS: each row of YtpnckagibkdcpaaDoorRows.lean that lists a variable, with what it lists TIED to the program's text (the seventh form; the later family's looks); each row that meets fmt, with fmt's text TOLD by the authors' own Lean function (tested against real Go, not proved from fmt's source: count such statements apart). THE CARD IS WHAT COUNTS. Prove the row's statement (the work); the ties are given (YtpnckagibkdcpaaDoorTie.lean); close each card by the builder's one call (the guide's Derived/Test/ToyasCard.lean, 'card_holds'). Laid BY PROGRAM, IN A SANDBOX (cutbox-door.mjs). By AI agents, Wed Nov 11 2026. No macro, syntax, notation, axiom, sorry.
-/
import Derived.Test.YtpnckagibkdcpaaDoorRows
import GoSem.ClaimSeven
namespace Go.Proofs.YtpnckagibkdcpaaDoor
namespace Rows

/-- THE TIED CARD OF 'caissontop.CaissonBlocks'. -/
def caissonBlocksCard : Claim7 := { stood := { row := caissonBlocksRow, standIns := [], harness := (true, "00103f0621cf14adce10f4c8e1086e04f29938d19d2cbf01b2f52e3f47896357"), looks := false }, kinds := [], alts := [], laidByText := true, laidKinds := [.data, .data], laidTests := true, laidLooks := .later }
def CaissonBlocksCardSaid : Prop := Claim7.holds Tryd.pinned (.plain (OpenSpec.ofChange caissonBlocksSpec)) caissonBlocksCard

/-- THE TIED CARD OF 'caissonlaw07.MemChecks'. -/
def memChecksCard : Claim7 := { stood := { row := memChecksRow, standIns := [], harness := (true, "00103f0621cf14adce10f4c8e1086e04f29938d19d2cbf01b2f52e3f47896357"), looks := false }, kinds := [], alts := [], laidByText := true, laidKinds := [.data, .data], laidTests := true, laidLooks := .later }
def MemChecksCardSaid : Prop := Claim7.holds Tryd.pinned (.plain (OpenSpec.ofChange memChecksSpec)) memChecksCard

/-- THE TIED CARD OF 'caissonlaw07.MemTables'. -/
def memTablesCard : Claim7 := { stood := { row := memTablesRow, standIns := [], harness := (true, "00103f0621cf14adce10f4c8e1086e04f29938d19d2cbf01b2f52e3f47896357"), looks := false }, kinds := [], alts := [], laidByText := true, laidKinds := [.data, .data], laidTests := true, laidLooks := .later }
def MemTablesCardSaid : Prop := Claim7.holds Tryd.pinned (.plain (OpenSpec.ofChange memTablesSpec)) memTablesCard

/-- THE TIED CARD OF 'caissonlaw07.MemKeeps'. -/
def memKeepsCard : Claim7 := { stood := { row := memKeepsRow, standIns := [], harness := (true, "00103f0621cf14adce10f4c8e1086e04f29938d19d2cbf01b2f52e3f47896357"), looks := false }, kinds := [], alts := [], laidByText := true, laidKinds := [.data, .data], laidTests := true, laidLooks := .later }
def MemKeepsCardSaid : Prop := Claim7.holds Tryd.pinned (.plain (OpenSpec.ofChange memKeepsSpec)) memKeepsCard

/-- THE TIED CARD OF 'caissonlaw07.MemCounts'. -/
def memCountsCard : Claim7 := { stood := { row := memCountsRow, standIns := [], harness := (true, "00103f0621cf14adce10f4c8e1086e04f29938d19d2cbf01b2f52e3f47896357"), looks := false }, kinds := [], alts := [], laidByText := true, laidKinds := [.data, .data], laidTests := true, laidLooks := .later }
def MemCountsCardSaid : Prop := Claim7.holds Tryd.pinned (.plain (OpenSpec.ofChange memCountsSpec)) memCountsCard

/-- THE SECOND FORM's CARD OF 'caissontop.CaissonBlocks'. -/
def caissonBlocksUptoCard : Claim7 := { stood := { row := caissonBlocksUptoRow, standIns := [], harness := (true, "00103f0621cf14adce10f4c8e1086e04f29938d19d2cbf01b2f52e3f47896357"), looks := false }, kinds := [], alts := [], laidByText := true, laidKinds := [.data, .data], laidTests := true, laidLooks := .later }
def CaissonBlocksUptoCardSaid : Prop := Claim7.holds Tryd.pinned (.plain (OpenSpec.upto caissonBlocksSpec)) caissonBlocksUptoCard

/-- THE SECOND FORM's CARD OF 'caissonlaw07.MemChecks'. -/
def memChecksUptoCard : Claim7 := { stood := { row := memChecksUptoRow, standIns := [], harness := (true, "00103f0621cf14adce10f4c8e1086e04f29938d19d2cbf01b2f52e3f47896357"), looks := false }, kinds := [], alts := [], laidByText := true, laidKinds := [.data, .data], laidTests := true, laidLooks := .later }
def MemChecksUptoCardSaid : Prop := Claim7.holds Tryd.pinned (.plain (OpenSpec.upto memChecksSpec)) memChecksUptoCard

/-- THE SECOND FORM's CARD OF 'caissonlaw07.MemTables'. -/
def memTablesUptoCard : Claim7 := { stood := { row := memTablesUptoRow, standIns := [], harness := (true, "00103f0621cf14adce10f4c8e1086e04f29938d19d2cbf01b2f52e3f47896357"), looks := false }, kinds := [], alts := [], laidByText := true, laidKinds := [.data, .data], laidTests := true, laidLooks := .later }
def MemTablesUptoCardSaid : Prop := Claim7.holds Tryd.pinned (.plain (OpenSpec.upto memTablesSpec)) memTablesUptoCard

/-- THE SECOND FORM's CARD OF 'caissonlaw07.MemKeeps'. -/
def memKeepsUptoCard : Claim7 := { stood := { row := memKeepsUptoRow, standIns := [], harness := (true, "00103f0621cf14adce10f4c8e1086e04f29938d19d2cbf01b2f52e3f47896357"), looks := false }, kinds := [], alts := [], laidByText := true, laidKinds := [.data, .data], laidTests := true, laidLooks := .later }
def MemKeepsUptoCardSaid : Prop := Claim7.holds Tryd.pinned (.plain (OpenSpec.upto memKeepsSpec)) memKeepsUptoCard

/-- THE SECOND FORM's CARD OF 'caissonlaw07.MemCounts'. -/
def memCountsUptoCard : Claim7 := { stood := { row := memCountsUptoRow, standIns := [], harness := (true, "00103f0621cf14adce10f4c8e1086e04f29938d19d2cbf01b2f52e3f47896357"), looks := false }, kinds := [], alts := [], laidByText := true, laidKinds := [.data, .data], laidTests := true, laidLooks := .later }
def MemCountsUptoCardSaid : Prop := Claim7.holds Tryd.pinned (.plain (OpenSpec.upto memCountsSpec)) memCountsUptoCard
end Rows
end Go.Proofs.YtpnckagibkdcpaaDoor
