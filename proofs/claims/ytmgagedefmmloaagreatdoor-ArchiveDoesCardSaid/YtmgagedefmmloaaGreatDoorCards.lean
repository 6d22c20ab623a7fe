/-
  DERIVED. GIVEN WITH THE SEED: THE CARDS: each row of YtmgagedefmmloaaGreatDoorRows.lean that lists a variable, with what it lists TIED to the program's text (the seventh form; the later family's looks); each row that meets fmt, with fmt's text TOLD by the authors' own Lean function (tested against real Go, not proved from fmt's source: count such statements apart). THE CARD IS WHAT COUNTS. Prove the row's statement (the work); the ties are given (YtmgagedefmmloaaGreatDoorTie.lean); close each card by the builder's one call (the guide's Derived/Test/ToyasCard.lean, 'card_holds'). Laid BY PROGRAM, IN A SANDBOX (cutbox-door.mjs). By AI agents, Wed Nov 11 2026. No macro, syntax, notation, axiom, sorry.
-/
import Derived.Test.YtmgagedefmmloaaGreatDoorRows
import GoSem.ClaimSeven
namespace Go.Proofs.YtmgagedefmmloaaGreatDoor
namespace Rows

/-- THE TIED CARD OF 'sherdlaw40.ArchiveMerges'. -/
def archiveMergesCard : Claim7 := { stood := { row := archiveMergesRow, standIns := [], harness := (true, "84b8cb6c6553f08f48084032808c428da610fa281c3284fc001464b2037eb466"), looks := false }, kinds := [], alts := [], laidByText := true, laidKinds := [.data, .data], laidTests := true, laidLooks := .later }
def ArchiveMergesCardSaid : Prop := Claim7.holds Tryz.pinned (.plain (OpenSpec.ofChange archiveMergesSpec)) archiveMergesCard

/-- THE TIED CARD OF 'sherdlaw40.ArchiveChains'. -/
def archiveChainsCard : Claim7 := { stood := { row := archiveChainsRow, standIns := [], harness := (true, "84b8cb6c6553f08f48084032808c428da610fa281c3284fc001464b2037eb466"), looks := false }, kinds := [], alts := [], laidByText := true, laidKinds := [.data, .data, .data], laidTests := true, laidLooks := .later }
def ArchiveChainsCardSaid : Prop := Claim7.holds Tryz.pinned (.plain (OpenSpec.ofChange archiveChainsSpec)) archiveChainsCard

/-- THE TIED CARD OF 'sherdlaw40.ArchiveOrders'. -/
def archiveOrdersCard : Claim7 := { stood := { row := archiveOrdersRow, standIns := [], harness := (true, "84b8cb6c6553f08f48084032808c428da610fa281c3284fc001464b2037eb466"), looks := false }, kinds := [], alts := [], laidByText := true, laidKinds := [.data, .data], laidTests := true, laidLooks := .later }
def ArchiveOrdersCardSaid : Prop := Claim7.holds Tryz.pinned (.plain (OpenSpec.ofChange archiveOrdersSpec)) archiveOrdersCard

/-- THE TIED CARD OF 'sherdlaw40.ArchiveDoes'. -/
def archiveDoesCard : Claim7 := { stood := { row := archiveDoesRow, standIns := [], harness := (true, "84b8cb6c6553f08f48084032808c428da610fa281c3284fc001464b2037eb466"), looks := false }, kinds := [], alts := [], laidByText := true, laidKinds := [.data, .data, .data], laidTests := true, laidLooks := .later }
def ArchiveDoesCardSaid : Prop := Claim7.holds Tryz.pinned (.plain (OpenSpec.ofChange archiveDoesSpec)) archiveDoesCard

/-- THE TIED CARD OF 'sherdlaw40.ArchiveGrows'. -/
def archiveGrowsCard : Claim7 := { stood := { row := archiveGrowsRow, standIns := [], harness := (true, "84b8cb6c6553f08f48084032808c428da610fa281c3284fc001464b2037eb466"), looks := false }, kinds := [], alts := [], laidByText := true, laidKinds := [.data, .data, .data], laidTests := true, laidLooks := .later }
def ArchiveGrowsCardSaid : Prop := Claim7.holds Tryz.pinned (.plain (OpenSpec.ofChange archiveGrowsSpec)) archiveGrowsCard

/-- THE TIED CARD OF 'sherdlaw40.ArchiveCodes'. -/
def archiveCodesCard : Claim7 := { stood := { row := archiveCodesRow, standIns := [], harness := (true, "84b8cb6c6553f08f48084032808c428da610fa281c3284fc001464b2037eb466"), looks := false }, kinds := [], alts := [], laidByText := true, laidKinds := [.data, .data, .data], laidTests := true, laidLooks := .later }
def ArchiveCodesCardSaid : Prop := Claim7.holds Tryz.pinned (.plain (OpenSpec.ofChange archiveCodesSpec)) archiveCodesCard

/-- THE SECOND FORM's CARD OF 'sherdlaw40.ArchiveMerges'. -/
def archiveMergesUptoCard : Claim7 := { stood := { row := archiveMergesUptoRow, standIns := [], harness := (true, "84b8cb6c6553f08f48084032808c428da610fa281c3284fc001464b2037eb466"), looks := false }, kinds := [], alts := [], laidByText := true, laidKinds := [.data, .data], laidTests := true, laidLooks := .later }
def ArchiveMergesUptoCardSaid : Prop := Claim7.holds Tryz.pinned (.plain (OpenSpec.upto archiveMergesSpec)) archiveMergesUptoCard

/-- THE SECOND FORM's CARD OF 'sherdlaw40.ArchiveChains'. -/
def archiveChainsUptoCard : Claim7 := { stood := { row := archiveChainsUptoRow, standIns := [], harness := (true, "84b8cb6c6553f08f48084032808c428da610fa281c3284fc001464b2037eb466"), looks := false }, kinds := [], alts := [], laidByText := true, laidKinds := [.data, .data, .data], laidTests := true, laidLooks := .later }
def ArchiveChainsUptoCardSaid : Prop := Claim7.holds Tryz.pinned (.plain (OpenSpec.upto archiveChainsSpec)) archiveChainsUptoCard

/-- THE SECOND FORM's CARD OF 'sherdlaw40.ArchiveOrders'. -/
def archiveOrdersUptoCard : Claim7 := { stood := { row := archiveOrdersUptoRow, standIns := [], harness := (true, "84b8cb6c6553f08f48084032808c428da610fa281c3284fc001464b2037eb466"), looks := false }, kinds := [], alts := [], laidByText := true, laidKinds := [.data, .data], laidTests := true, laidLooks := .later }
def ArchiveOrdersUptoCardSaid : Prop := Claim7.holds Tryz.pinned (.plain (OpenSpec.upto archiveOrdersSpec)) archiveOrdersUptoCard

/-- THE SECOND FORM's CARD OF 'sherdlaw40.ArchiveDoes'. -/
def archiveDoesUptoCard : Claim7 := { stood := { row := archiveDoesUptoRow, standIns := [], harness := (true, "84b8cb6c6553f08f48084032808c428da610fa281c3284fc001464b2037eb466"), looks := false }, kinds := [], alts := [], laidByText := true, laidKinds := [.data, .data, .data], laidTests := true, laidLooks := .later }
def ArchiveDoesUptoCardSaid : Prop := Claim7.holds Tryz.pinned (.plain (OpenSpec.upto archiveDoesSpec)) archiveDoesUptoCard

/-- THE SECOND FORM's CARD OF 'sherdlaw40.ArchiveGrows'. -/
def archiveGrowsUptoCard : Claim7 := { stood := { row := archiveGrowsUptoRow, standIns := [], harness := (true, "84b8cb6c6553f08f48084032808c428da610fa281c3284fc001464b2037eb466"), looks := false }, kinds := [], alts := [], laidByText := true, laidKinds := [.data, .data, .data], laidTests := true, laidLooks := .later }
def ArchiveGrowsUptoCardSaid : Prop := Claim7.holds Tryz.pinned (.plain (OpenSpec.upto archiveGrowsSpec)) archiveGrowsUptoCard

/-- THE SECOND FORM's CARD OF 'sherdlaw40.ArchiveCodes'. -/
def archiveCodesUptoCard : Claim7 := { stood := { row := archiveCodesUptoRow, standIns := [], harness := (true, "84b8cb6c6553f08f48084032808c428da610fa281c3284fc001464b2037eb466"), looks := false }, kinds := [], alts := [], laidByText := true, laidKinds := [.data, .data, .data], laidTests := true, laidLooks := .later }
def ArchiveCodesUptoCardSaid : Prop := Claim7.holds Tryz.pinned (.plain (OpenSpec.upto archiveCodesSpec)) archiveCodesUptoCard
end Rows
end Go.Proofs.YtmgagedefmmloaaGreatDoor
