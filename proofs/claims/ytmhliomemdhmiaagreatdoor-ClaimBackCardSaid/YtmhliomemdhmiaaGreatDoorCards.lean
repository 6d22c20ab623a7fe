/-
  DERIVED. GIVEN WITH THE SEED: THE CARDS: each row of YtmhliomemdhmiaaGreatDoorRows.lean that lists a variable, with what it lists TIED to the program's text (the seventh form; the later family's looks); each row that meets fmt, with fmt's text TOLD by the authors' own Lean function (tested against real Go, not proved from fmt's source: count such statements apart). THE CARD IS WHAT COUNTS. Prove the row's statement (the work); the ties are given (YtmhliomemdhmiaaGreatDoorTie.lean); close each card by the builder's one call (the guide's Derived/Test/ToyasCard.lean, 'card_holds'). Laid BY PROGRAM, IN A SANDBOX (cutbox-door.mjs). By AI agents, Wed Nov 11 2026. No macro, syntax, notation, axiom, sorry.
-/
import Derived.Test.YtmhliomemdhmiaaGreatDoorRows
import GoSem.ClaimSeven
namespace Go.Proofs.YtmhliomemdhmiaaGreatDoor
namespace Rows

/-- THE TIED CARD OF 'sherdlaw15.ClaimValid'. -/
def claimValidCard : Claim7 := { stood := { row := claimValidRow, standIns := [], harness := (true, "1acda1eb5a00a5b2d531699abf190c2089e5ff65fc4bf02a2580248d9297927b"), looks := false }, kinds := [], alts := [], laidByText := true, laidKinds := [.data], laidTests := true, laidLooks := .later }
def ClaimValidCardSaid : Prop := Claim7.holds Tryz.pinned (.plain (OpenSpec.ofChange claimValidSpec)) claimValidCard

/-- THE TIED CARD OF 'sherdlaw15.ClaimBelieved'. -/
def claimBelievedCard : Claim7 := { stood := { row := claimBelievedRow, standIns := [], harness := (true, "1acda1eb5a00a5b2d531699abf190c2089e5ff65fc4bf02a2580248d9297927b"), looks := false }, kinds := [], alts := [], laidByText := true, laidKinds := [.data], laidTests := true, laidLooks := .later }
def ClaimBelievedCardSaid : Prop := Claim7.holds Tryz.pinned (.plain (OpenSpec.ofChange claimBelievedSpec)) claimBelievedCard

/-- THE TIED CARD OF 'sherdlaw15.ClaimRefuted'. -/
def claimRefutedCard : Claim7 := { stood := { row := claimRefutedRow, standIns := [], harness := (true, "1acda1eb5a00a5b2d531699abf190c2089e5ff65fc4bf02a2580248d9297927b"), looks := false }, kinds := [], alts := [], laidByText := true, laidKinds := [.data], laidTests := true, laidLooks := .later }
def ClaimRefutedCardSaid : Prop := Claim7.holds Tryz.pinned (.plain (OpenSpec.ofChange claimRefutedSpec)) claimRefutedCard

/-- THE TIED CARD OF 'sherdlaw15.ClaimOrder'. -/
def claimOrderCard : Claim7 := { stood := { row := claimOrderRow, standIns := [], harness := (true, "1acda1eb5a00a5b2d531699abf190c2089e5ff65fc4bf02a2580248d9297927b"), looks := false }, kinds := [], alts := [], laidByText := true, laidKinds := [.data], laidTests := true, laidLooks := .later }
def ClaimOrderCardSaid : Prop := Claim7.holds Tryz.pinned (.plain (OpenSpec.ofChange claimOrderSpec)) claimOrderCard

/-- THE TIED CARD OF 'sherdlaw15.ClaimBack'. -/
def claimBackCard : Claim7 := { stood := { row := claimBackRow, standIns := [], harness := (true, "1acda1eb5a00a5b2d531699abf190c2089e5ff65fc4bf02a2580248d9297927b"), looks := false }, kinds := [], alts := [], laidByText := true, laidKinds := [.data], laidTests := true, laidLooks := .later }
def ClaimBackCardSaid : Prop := Claim7.holds Tryz.pinned (.plain (OpenSpec.ofChange claimBackSpec)) claimBackCard

/-- THE TIED CARD OF 'sherdlaw15.ClaimBytes'. -/
def claimBytesCard : Claim7 := { stood := { row := claimBytesRow, standIns := [], harness := (true, "1acda1eb5a00a5b2d531699abf190c2089e5ff65fc4bf02a2580248d9297927b"), looks := false }, kinds := [], alts := [], laidByText := true, laidKinds := [.data, .data], laidTests := true, laidLooks := .later }
def ClaimBytesCardSaid : Prop := Claim7.holds Tryz.pinned (.plain (OpenSpec.ofChange claimBytesSpec)) claimBytesCard

/-- THE TIED CARD OF 'sherdlaw15.ClaimSorts'. -/
def claimSortsCard : Claim7 := { stood := { row := claimSortsRow, standIns := [], harness := (true, "1acda1eb5a00a5b2d531699abf190c2089e5ff65fc4bf02a2580248d9297927b"), looks := false }, kinds := [], alts := [], laidByText := true, laidKinds := [.data], laidTests := true, laidLooks := .later }
def ClaimSortsCardSaid : Prop := Claim7.holds Tryz.pinned (.plain (OpenSpec.ofChange claimSortsSpec)) claimSortsCard

/-- THE TIED CARD OF 'sherdlaw15.ClaimMerges'. -/
def claimMergesCard : Claim7 := { stood := { row := claimMergesRow, standIns := [], harness := (true, "1acda1eb5a00a5b2d531699abf190c2089e5ff65fc4bf02a2580248d9297927b"), looks := false }, kinds := [], alts := [], laidByText := true, laidKinds := [.data], laidTests := true, laidLooks := .later }
def ClaimMergesCardSaid : Prop := Claim7.holds Tryz.pinned (.plain (OpenSpec.ofChange claimMergesSpec)) claimMergesCard

/-- THE SECOND FORM's CARD OF 'sherdlaw15.ClaimValid'. -/
def claimValidUptoCard : Claim7 := { stood := { row := claimValidUptoRow, standIns := [], harness := (true, "1acda1eb5a00a5b2d531699abf190c2089e5ff65fc4bf02a2580248d9297927b"), looks := false }, kinds := [], alts := [], laidByText := true, laidKinds := [.data], laidTests := true, laidLooks := .later }
def ClaimValidUptoCardSaid : Prop := Claim7.holds Tryz.pinned (.plain (OpenSpec.upto claimValidSpec)) claimValidUptoCard

/-- THE SECOND FORM's CARD OF 'sherdlaw15.ClaimBelieved'. -/
def claimBelievedUptoCard : Claim7 := { stood := { row := claimBelievedUptoRow, standIns := [], harness := (true, "1acda1eb5a00a5b2d531699abf190c2089e5ff65fc4bf02a2580248d9297927b"), looks := false }, kinds := [], alts := [], laidByText := true, laidKinds := [.data], laidTests := true, laidLooks := .later }
def ClaimBelievedUptoCardSaid : Prop := Claim7.holds Tryz.pinned (.plain (OpenSpec.upto claimBelievedSpec)) claimBelievedUptoCard

/-- THE SECOND FORM's CARD OF 'sherdlaw15.ClaimRefuted'. -/
def claimRefutedUptoCard : Claim7 := { stood := { row := claimRefutedUptoRow, standIns := [], harness := (true, "1acda1eb5a00a5b2d531699abf190c2089e5ff65fc4bf02a2580248d9297927b"), looks := false }, kinds := [], alts := [], laidByText := true, laidKinds := [.data], laidTests := true, laidLooks := .later }
def ClaimRefutedUptoCardSaid : Prop := Claim7.holds Tryz.pinned (.plain (OpenSpec.upto claimRefutedSpec)) claimRefutedUptoCard

/-- THE SECOND FORM's CARD OF 'sherdlaw15.ClaimOrder'. -/
def claimOrderUptoCard : Claim7 := { stood := { row := claimOrderUptoRow, standIns := [], harness := (true, "1acda1eb5a00a5b2d531699abf190c2089e5ff65fc4bf02a2580248d9297927b"), looks := false }, kinds := [], alts := [], laidByText := true, laidKinds := [.data], laidTests := true, laidLooks := .later }
def ClaimOrderUptoCardSaid : Prop := Claim7.holds Tryz.pinned (.plain (OpenSpec.upto claimOrderSpec)) claimOrderUptoCard

/-- THE SECOND FORM's CARD OF 'sherdlaw15.ClaimBack'. -/
def claimBackUptoCard : Claim7 := { stood := { row := claimBackUptoRow, standIns := [], harness := (true, "1acda1eb5a00a5b2d531699abf190c2089e5ff65fc4bf02a2580248d9297927b"), looks := false }, kinds := [], alts := [], laidByText := true, laidKinds := [.data], laidTests := true, laidLooks := .later }
def ClaimBackUptoCardSaid : Prop := Claim7.holds Tryz.pinned (.plain (OpenSpec.upto claimBackSpec)) claimBackUptoCard

/-- THE SECOND FORM's CARD OF 'sherdlaw15.ClaimBytes'. -/
def claimBytesUptoCard : Claim7 := { stood := { row := claimBytesUptoRow, standIns := [], harness := (true, "1acda1eb5a00a5b2d531699abf190c2089e5ff65fc4bf02a2580248d9297927b"), looks := false }, kinds := [], alts := [], laidByText := true, laidKinds := [.data, .data], laidTests := true, laidLooks := .later }
def ClaimBytesUptoCardSaid : Prop := Claim7.holds Tryz.pinned (.plain (OpenSpec.upto claimBytesSpec)) claimBytesUptoCard

/-- THE SECOND FORM's CARD OF 'sherdlaw15.ClaimSorts'. -/
def claimSortsUptoCard : Claim7 := { stood := { row := claimSortsUptoRow, standIns := [], harness := (true, "1acda1eb5a00a5b2d531699abf190c2089e5ff65fc4bf02a2580248d9297927b"), looks := false }, kinds := [], alts := [], laidByText := true, laidKinds := [.data], laidTests := true, laidLooks := .later }
def ClaimSortsUptoCardSaid : Prop := Claim7.holds Tryz.pinned (.plain (OpenSpec.upto claimSortsSpec)) claimSortsUptoCard

/-- THE SECOND FORM's CARD OF 'sherdlaw15.ClaimMerges'. -/
def claimMergesUptoCard : Claim7 := { stood := { row := claimMergesUptoRow, standIns := [], harness := (true, "1acda1eb5a00a5b2d531699abf190c2089e5ff65fc4bf02a2580248d9297927b"), looks := false }, kinds := [], alts := [], laidByText := true, laidKinds := [.data], laidTests := true, laidLooks := .later }
def ClaimMergesUptoCardSaid : Prop := Claim7.holds Tryz.pinned (.plain (OpenSpec.upto claimMergesSpec)) claimMergesUptoCard
end Rows
end Go.Proofs.YtmhliomemdhmiaaGreatDoor
