/-
  DERIVED. GIVEN WITH THE SEED: THE CARDS: each row of YtfdfbenejkmnlaaGreatDoorRows.lean that lists a variable, with what it lists TIED to the program's text (the seventh form; the later family's looks); each row that meets fmt, with fmt's text TOLD by the authors' own Lean function (tested against real Go, not proved from fmt's source: count such statements apart). THE CARD IS WHAT COUNTS. Prove the row's statement (the work); the ties are given (YtfdfbenejkmnlaaGreatDoorTie.lean); close each card by the builder's one call (the guide's Derived/Test/ToyasCard.lean, 'card_holds'). Laid BY PROGRAM, IN A SANDBOX (cutbox-door.mjs). By AI agents, Wed Nov 11 2026. No macro, syntax, notation, axiom, sorry.
-/
import Derived.Test.YtfdfbenejkmnlaaGreatDoorRows
import GoSem.ClaimSeven
namespace Go.Proofs.YtfdfbenejkmnlaaGreatDoor
namespace Rows

/-- THE TIED CARD OF 'sherdlaw40.ArchiveOrders'. -/
def archiveOrdersCard : Claim7 := { stood := { row := archiveOrdersRow, standIns := [], harness := (true, "bf936dc5a48a85e3b38007dc70049c8147b800963d79311d36823e90112c15fa"), looks := false }, kinds := [], alts := [], laidByText := true, laidKinds := [.data, .data], laidTests := true, laidLooks := .later }
def ArchiveOrdersCardSaid : Prop := Claim7.holds Tryz.pinned (.plain (OpenSpec.ofChange archiveOrdersSpec)) archiveOrdersCard

/-- THE TIED CARD OF 'sherdlaw40.ArchiveMerges'. -/
def archiveMergesCard : Claim7 := { stood := { row := archiveMergesRow, standIns := [], harness := (true, "bf936dc5a48a85e3b38007dc70049c8147b800963d79311d36823e90112c15fa"), looks := false }, kinds := [], alts := [], laidByText := true, laidKinds := [.data, .data], laidTests := true, laidLooks := .later }
def ArchiveMergesCardSaid : Prop := Claim7.holds Tryz.pinned (.plain (OpenSpec.ofChange archiveMergesSpec)) archiveMergesCard

/-- THE SECOND FORM's CARD OF 'sherdlaw40.ArchiveOrders'. -/
def archiveOrdersUptoCard : Claim7 := { stood := { row := archiveOrdersUptoRow, standIns := [], harness := (true, "bf936dc5a48a85e3b38007dc70049c8147b800963d79311d36823e90112c15fa"), looks := false }, kinds := [], alts := [], laidByText := true, laidKinds := [.data, .data], laidTests := true, laidLooks := .later }
def ArchiveOrdersUptoCardSaid : Prop := Claim7.holds Tryz.pinned (.plain (OpenSpec.upto archiveOrdersSpec)) archiveOrdersUptoCard

/-- THE SECOND FORM's CARD OF 'sherdlaw40.ArchiveMerges'. -/
def archiveMergesUptoCard : Claim7 := { stood := { row := archiveMergesUptoRow, standIns := [], harness := (true, "bf936dc5a48a85e3b38007dc70049c8147b800963d79311d36823e90112c15fa"), looks := false }, kinds := [], alts := [], laidByText := true, laidKinds := [.data, .data], laidTests := true, laidLooks := .later }
def ArchiveMergesUptoCardSaid : Prop := Claim7.holds Tryz.pinned (.plain (OpenSpec.upto archiveMergesSpec)) archiveMergesUptoCard
end Rows
end Go.Proofs.YtfdfbenejkmnlaaGreatDoor
