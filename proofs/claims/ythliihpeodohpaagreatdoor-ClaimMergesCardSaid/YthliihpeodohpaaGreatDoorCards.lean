/-
  DERIVED. GIVEN WITH THE SEED: THE CARDS: each row of YthliihpeodohpaaGreatDoorRows.lean that lists a variable, with what it lists TIED to the program's text (the seventh form; the later family's looks); each row that meets fmt, with fmt's text TOLD by the authors' own Lean function (tested against real Go, not proved from fmt's source: count such statements apart). THE CARD IS WHAT COUNTS. Prove the row's statement (the work); the ties are given (YthliihpeodohpaaGreatDoorTie.lean); close each card by the builder's one call (the guide's Derived/Test/ToyasCard.lean, 'card_holds'). Laid BY PROGRAM, IN A SANDBOX (cutbox-door.mjs). By AI agents, Wed Nov 11 2026. No macro, syntax, notation, axiom, sorry.
-/
import Derived.Test.YthliihpeodohpaaGreatDoorRows
import GoSem.ClaimSeven
namespace Go.Proofs.YthliihpeodohpaaGreatDoor
namespace Rows

/-- THE TIED CARD OF 'sherdlaw15.ClaimSorts'. -/
def claimSortsCard : Claim7 := { stood := { row := claimSortsRow, standIns := [], harness := (true, "0eef3072f7cb4569ec0b92db9917f4b677cb5486ae0edfedc019196b2953edc7"), looks := false }, kinds := [], alts := [], laidByText := true, laidKinds := [.data], laidTests := true, laidLooks := .later }
def ClaimSortsCardSaid : Prop := Claim7.holds Tryz.pinned (.plain (OpenSpec.ofChange claimSortsSpec)) claimSortsCard

/-- THE TIED CARD OF 'sherdlaw15.ClaimMerges'. -/
def claimMergesCard : Claim7 := { stood := { row := claimMergesRow, standIns := [], harness := (true, "0eef3072f7cb4569ec0b92db9917f4b677cb5486ae0edfedc019196b2953edc7"), looks := false }, kinds := [], alts := [], laidByText := true, laidKinds := [.data], laidTests := true, laidLooks := .later }
def ClaimMergesCardSaid : Prop := Claim7.holds Tryz.pinned (.plain (OpenSpec.ofChange claimMergesSpec)) claimMergesCard

/-- THE SECOND FORM's CARD OF 'sherdlaw15.ClaimSorts'. -/
def claimSortsUptoCard : Claim7 := { stood := { row := claimSortsUptoRow, standIns := [], harness := (true, "0eef3072f7cb4569ec0b92db9917f4b677cb5486ae0edfedc019196b2953edc7"), looks := false }, kinds := [], alts := [], laidByText := true, laidKinds := [.data], laidTests := true, laidLooks := .later }
def ClaimSortsUptoCardSaid : Prop := Claim7.holds Tryz.pinned (.plain (OpenSpec.upto claimSortsSpec)) claimSortsUptoCard

/-- THE SECOND FORM's CARD OF 'sherdlaw15.ClaimMerges'. -/
def claimMergesUptoCard : Claim7 := { stood := { row := claimMergesUptoRow, standIns := [], harness := (true, "0eef3072f7cb4569ec0b92db9917f4b677cb5486ae0edfedc019196b2953edc7"), looks := false }, kinds := [], alts := [], laidByText := true, laidKinds := [.data], laidTests := true, laidLooks := .later }
def ClaimMergesUptoCardSaid : Prop := Claim7.holds Tryz.pinned (.plain (OpenSpec.upto claimMergesSpec)) claimMergesUptoCard
end Rows
end Go.Proofs.YthliihpeodohpaaGreatDoor
