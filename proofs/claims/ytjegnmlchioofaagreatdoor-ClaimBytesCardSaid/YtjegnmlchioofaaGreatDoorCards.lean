/-
  DERIVED. GIVEN WITH THE SEED: THE CARDS: each row of YtjegnmlchioofaaGreatDoorRows.lean that lists a variable, with what it lists TIED to the program's text (the seventh form; the later family's looks); each row that meets fmt, with fmt's text TOLD by the authors' own Lean function (tested against real Go, not proved from fmt's source: count such statements apart). THE CARD IS WHAT COUNTS. Prove the row's statement (the work); the ties are given (YtjegnmlchioofaaGreatDoorTie.lean); close each card by the builder's one call (the guide's Derived/Test/ToyasCard.lean, 'card_holds'). Laid BY PROGRAM, IN A SANDBOX (cutbox-door.mjs). By AI agents, Wed Nov 11 2026. No macro, syntax, notation, axiom, sorry.
-/
import Derived.Test.YtjegnmlchioofaaGreatDoorRows
import GoSem.ClaimSeven
namespace Go.Proofs.YtjegnmlchioofaaGreatDoor
namespace Rows

/-- THE TIED CARD OF 'sherdlaw15.ClaimBytes'. -/
def claimBytesCard : Claim7 := { stood := { row := claimBytesRow, standIns := [], harness := (true, "9ffc71a9db6f4440d5554715b26750695b0139f7d3efcc09287ce958bd36cf12"), looks := false }, kinds := [], alts := [], laidByText := true, laidKinds := [.data, .data], laidTests := true, laidLooks := .later }
def ClaimBytesCardSaid : Prop := Claim7.holds Tryz.pinned (.plain (OpenSpec.ofChange claimBytesSpec)) claimBytesCard

/-- THE SECOND FORM's CARD OF 'sherdlaw15.ClaimBytes'. -/
def claimBytesUptoCard : Claim7 := { stood := { row := claimBytesUptoRow, standIns := [], harness := (true, "9ffc71a9db6f4440d5554715b26750695b0139f7d3efcc09287ce958bd36cf12"), looks := false }, kinds := [], alts := [], laidByText := true, laidKinds := [.data, .data], laidTests := true, laidLooks := .later }
def ClaimBytesUptoCardSaid : Prop := Claim7.holds Tryz.pinned (.plain (OpenSpec.upto claimBytesSpec)) claimBytesUptoCard
end Rows
end Go.Proofs.YtjegnmlchioofaaGreatDoor
