/-
  DERIVED. GIVEN WITH THE SEED: THE CARDS: each row of YtnpdpjfdgialeaaGreatDoorRows.lean that lists a variable, with what it lists TIED to the program's text (the seventh form; the later family's looks); each row that meets fmt, with fmt's text TOLD by the authors' own Lean function (tested against real Go, not proved from fmt's source: count such statements apart). THE CARD IS WHAT COUNTS. Prove the row's statement (the work); the ties are given (YtnpdpjfdgialeaaGreatDoorTie.lean); close each card by the builder's one call (the guide's Derived/Test/ToyasCard.lean, 'card_holds'). Laid BY PROGRAM, IN A SANDBOX (cutbox-door.mjs). By AI agents, Wed Nov 11 2026. No macro, syntax, notation, axiom, sorry.
-/
import Derived.Test.YtnpdpjfdgialeaaGreatDoorRows
import GoSem.ClaimSeven
namespace Go.Proofs.YtnpdpjfdgialeaaGreatDoor
namespace Rows

/-- THE TIED CARD OF 'sherdlaw12.PieceSame'. -/
def pieceSameCard : Claim7 := { stood := { row := pieceSameRow, standIns := [], harness := (true, "1684ca41538bac51b2309b436855112c405d9c8c57dffe4404639d86c9a8cef4"), looks := false }, kinds := [], alts := [], laidByText := true, laidKinds := [.data, .data], laidTests := true, laidLooks := .later }
def PieceSameCardSaid : Prop := Claim7.holds Tryz.pinned (.plain (OpenSpec.ofChange pieceSameSpec)) pieceSameCard

/-- THE SECOND FORM's CARD OF 'sherdlaw12.PieceSame'. -/
def pieceSameUptoCard : Claim7 := { stood := { row := pieceSameUptoRow, standIns := [], harness := (true, "1684ca41538bac51b2309b436855112c405d9c8c57dffe4404639d86c9a8cef4"), looks := false }, kinds := [], alts := [], laidByText := true, laidKinds := [.data, .data], laidTests := true, laidLooks := .later }
def PieceSameUptoCardSaid : Prop := Claim7.holds Tryz.pinned (.plain (OpenSpec.upto pieceSameSpec)) pieceSameUptoCard
end Rows
end Go.Proofs.YtnpdpjfdgialeaaGreatDoor
