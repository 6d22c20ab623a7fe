/-
  No cell of these rows narrows 'for every input' (looked for: loops, veiled, ifaces, maps, wideKeys, modest, calm, conditions, laid).
  DERIVED. THE GIVEN ROWS OF THIS SEAT. 6 by the template 'for every input the law returns true; each argument reads behind the call as it read before'; 0 by the template 'total and deterministic' (their statements: YtlgnagnmoleeiaaGreatTotals.lean).
  GIVEN WITH THE SEED: the statements are not yours to turn. If you find one false, say at which input.
  Laid BY PROGRAM, IN A SANDBOX (cutbox-rows.mjs): the forced cells as the released guide's own fill.sh prints them over the translation 963a3f930d792698… (all of the seat's roots in one cut). By AI agents, Wed Nov 11 2026. No macro, syntax, notation, axiom, sorry.
-/
import Derived.Test.YtlgnagnmoleeiaaGreatChecked
import GoSem.Claim
import GoSem.ClaimJoined
import GoSem.ClaimMapViews
import Derived.JoinedTies
import Derived.KernelRfl
namespace Go.Proofs.YtlgnagnmoleeiaaGreat
/- THE CELL 'sum', in the pinned program and in every row, IS THE sha256 OF THE DUMP (.gsa) THAT YtlgnagnmoleeiaaGreatProg.lean LOADS. Nothing in Lean hashes anything: it is a label: what it is worth is what the hold of that sum in a sandbox is worth. -/
noncomputable def Tryz.pinned : Pinned := { name := "ytlgnagnmoleeiaagreat", sum := "963a3f930d792698e68a3f75bd878c53f063f7d4446e9d8f58d478b55414077d", checked := Tryz.checked }
namespace Rows
def none {H : Type} : Left H := { results := [], args := [] }

/-- 'sherdlaw12.PieceValid': WHATEVER THE INPUT: true; the input reads as it did. -/
def pieceValidSpec : ChangeSpec := { name := "pieceValid", fn := fun _ => fun
  | [d1, d2, d3, d4] => { results := [.lit (.bool true)], args := [d1, d2, d3, d4] }
  | _ => none }
def pieceValidRow : OpenClaim := { program := "ytlgnagnmoleeiaagreat", sum := "963a3f930d792698e68a3f75bd878c53f063f7d4446e9d8f58d478b55414077d", func := "sherd/sherdlaw12.PieceValid", spec := "pieceValid", unfollowed := true, recurses := true, apart := false }
def PieceValidSaid : Prop := pieceValidRow.holds Tryz.pinned (OpenSpec.ofChange pieceValidSpec)

/-- ITS FALSE NEIGHBOUR: 'it returns false'. Refute it at one input. -/
def pieceValidWrong : ChangeSpec := { name := "pieceValid", fn := fun _ => fun
  | [d1, d2, d3, d4] => { results := [.lit (.bool false)], args := [d1, d2, d3, d4] }
  | _ => none }
def PieceValidWrongFalsely : Prop := pieceValidRow.holds Tryz.pinned (OpenSpec.ofChange pieceValidWrong)

/-- 'sherdlaw12.PieceBytes': WHATEVER THE INPUT: true; the input reads as it did. -/
def pieceBytesSpec : ChangeSpec := { name := "pieceBytes", fn := fun _ => fun
  | [d1, d2, d3, d4] => { results := [.lit (.bool true)], args := [d1, d2, d3, d4] }
  | _ => none }
def pieceBytesRow : OpenClaim := { program := "ytlgnagnmoleeiaagreat", sum := "963a3f930d792698e68a3f75bd878c53f063f7d4446e9d8f58d478b55414077d", func := "sherd/sherdlaw12.PieceBytes", spec := "pieceBytes", unfollowed := true, recurses := true, apart := false }
def PieceBytesSaid : Prop := pieceBytesRow.holds Tryz.pinned (OpenSpec.ofChange pieceBytesSpec)

/-- ITS FALSE NEIGHBOUR: 'it returns false'. Refute it at one input. -/
def pieceBytesWrong : ChangeSpec := { name := "pieceBytes", fn := fun _ => fun
  | [d1, d2, d3, d4] => { results := [.lit (.bool false)], args := [d1, d2, d3, d4] }
  | _ => none }
def PieceBytesWrongFalsely : Prop := pieceBytesRow.holds Tryz.pinned (OpenSpec.ofChange pieceBytesWrong)

/-- 'sherdlaw12.PieceParses': WHATEVER THE INPUT: true; the input reads as it did. -/
def pieceParsesSpec : ChangeSpec := { name := "pieceParses", fn := fun _ => fun
  | [d1, d2, d3, d4, d5] => { results := [.lit (.bool true)], args := [d1, d2, d3, d4, d5] }
  | _ => none }
def pieceParsesRow : OpenClaim := { program := "ytlgnagnmoleeiaagreat", sum := "963a3f930d792698e68a3f75bd878c53f063f7d4446e9d8f58d478b55414077d", func := "sherd/sherdlaw12.PieceParses", spec := "pieceParses", unfollowed := true, recurses := true, apart := false }
def PieceParsesSaid : Prop := pieceParsesRow.holds Tryz.pinned (OpenSpec.ofChange pieceParsesSpec)

/-- ITS FALSE NEIGHBOUR: 'it returns false'. Refute it at one input. -/
def pieceParsesWrong : ChangeSpec := { name := "pieceParses", fn := fun _ => fun
  | [d1, d2, d3, d4, d5] => { results := [.lit (.bool false)], args := [d1, d2, d3, d4, d5] }
  | _ => none }
def PieceParsesWrongFalsely : Prop := pieceParsesRow.holds Tryz.pinned (OpenSpec.ofChange pieceParsesWrong)

/-- 'sherdlaw12.PieceMoved': WHATEVER THE INPUT: true; the input reads as it did. -/
def pieceMovedSpec : ChangeSpec := { name := "pieceMoved", fn := fun _ => fun
  | [d1, d2] => { results := [.lit (.bool true)], args := [d1, d2] }
  | _ => none }
def pieceMovedRow : OpenClaim := { program := "ytlgnagnmoleeiaagreat", sum := "963a3f930d792698e68a3f75bd878c53f063f7d4446e9d8f58d478b55414077d", func := "sherd/sherdlaw12.PieceMoved", spec := "pieceMoved", unfollowed := true, recurses := true, apart := false }
def PieceMovedSaid : Prop := pieceMovedRow.holds Tryz.pinned (OpenSpec.ofChange pieceMovedSpec)

/-- ITS FALSE NEIGHBOUR: 'it returns false'. Refute it at one input. -/
def pieceMovedWrong : ChangeSpec := { name := "pieceMoved", fn := fun _ => fun
  | [d1, d2] => { results := [.lit (.bool false)], args := [d1, d2] }
  | _ => none }
def PieceMovedWrongFalsely : Prop := pieceMovedRow.holds Tryz.pinned (OpenSpec.ofChange pieceMovedWrong)

/-- 'sherdlaw12.PieceCells': WHATEVER THE INPUT: true; the input reads as it did. -/
def pieceCellsSpec : ChangeSpec := { name := "pieceCells", fn := fun _ => fun
  | [d1, d2] => { results := [.lit (.bool true)], args := [d1, d2] }
  | _ => none }
def pieceCellsRow : OpenClaim := { program := "ytlgnagnmoleeiaagreat", sum := "963a3f930d792698e68a3f75bd878c53f063f7d4446e9d8f58d478b55414077d", func := "sherd/sherdlaw12.PieceCells", spec := "pieceCells", unfollowed := true, recurses := true, apart := false }
def PieceCellsSaid : Prop := pieceCellsRow.holds Tryz.pinned (OpenSpec.ofChange pieceCellsSpec)

/-- ITS FALSE NEIGHBOUR: 'it returns false'. Refute it at one input. -/
def pieceCellsWrong : ChangeSpec := { name := "pieceCells", fn := fun _ => fun
  | [d1, d2] => { results := [.lit (.bool false)], args := [d1, d2] }
  | _ => none }
def PieceCellsWrongFalsely : Prop := pieceCellsRow.holds Tryz.pinned (OpenSpec.ofChange pieceCellsWrong)

/-- 'sherdlaw12.PieceEdges': WHATEVER THE INPUT: true; the input reads as it did. -/
def pieceEdgesSpec : ChangeSpec := { name := "pieceEdges", fn := fun _ => fun
  | [d1, d2] => { results := [.lit (.bool true)], args := [d1, d2] }
  | _ => none }
def pieceEdgesRow : OpenClaim := { program := "ytlgnagnmoleeiaagreat", sum := "963a3f930d792698e68a3f75bd878c53f063f7d4446e9d8f58d478b55414077d", func := "sherd/sherdlaw12.PieceEdges", spec := "pieceEdges", unfollowed := true, recurses := true, apart := false }
def PieceEdgesSaid : Prop := pieceEdgesRow.holds Tryz.pinned (OpenSpec.ofChange pieceEdgesSpec)

/-- ITS FALSE NEIGHBOUR: 'it returns false'. Refute it at one input. -/
def pieceEdgesWrong : ChangeSpec := { name := "pieceEdges", fn := fun _ => fun
  | [d1, d2] => { results := [.lit (.bool false)], args := [d1, d2] }
  | _ => none }
def PieceEdgesWrongFalsely : Prop := pieceEdgesRow.holds Tryz.pinned (OpenSpec.ofChange pieceEdgesWrong)

/- THE SECOND FORM. 'bulk': how many values and letters a reading holds, each counted each time it is reached (what is shared counts as often as it is met; a slice's spare places count too). A statement '..UptoSaid' is the law's where the arguments, and the package variables that the reading takes, are together of bulk at most 1048576: NARROWER than '..Said'. Prove '..Said' where nothing that the law and all that it calls make is longer than what came in: it says more and counts as full. Else prove '..UptoSaid'. A law counts once. -/
mutual
def uptoBulk {H : Type} : DataW H → Nat
  | .lit (.string bytes) => bytes.length + 1
  | .lit _ => 1
  | .nil => 1
  | .ptr d => uptoBulk d + 1
  | .slice elems spare => uptoBulkAll elems + uptoBulkAll spare + 1
  | .agg parts => uptoBulkAll parts + 1
  | .iface _ d => uptoBulk d + 1
  | .map entries => uptoBulkEntries entries + 1
  | .held _ => 1
def uptoBulkAll {H : Type} : List (DataW H) → Nat
  | [] => 0
  | d :: r => uptoBulk d + uptoBulkAll r
def uptoBulkEntries {H : Type} : List (Lit × DataW H) → Nat
  | [] => 0
  | x :: r => uptoBulkEntry x + uptoBulkEntries r
def uptoBulkEntry {H : Type} : Lit × DataW H → Nat
  | (.string bytes, d) => bytes.length + uptoBulk d + 1
  | (_, d) => uptoBulk d + 1
 end
def uptoSmall : (H : Type) → List (DataW H) → Bool := fun _ ds => decide (uptoBulkAll ds ≤ 1048576)
def OpenSpec.upto (s : _root_.Go.ChangeSpec) : _root_.Go.OpenSpec := { _root_.Go.OpenSpec.ofChange s with cond := some uptoSmall }

/-- 'sherdlaw12.PieceValid', WHERE WHAT IT READS IS OF BULK AT MOST 1048576: true; the input reads as it did. -/
def pieceValidUptoRow : OpenClaim := { program := "ytlgnagnmoleeiaagreat", sum := "963a3f930d792698e68a3f75bd878c53f063f7d4446e9d8f58d478b55414077d", func := "sherd/sherdlaw12.PieceValid", spec := "pieceValid", unfollowed := true, recurses := true, apart := false, narrowed := true }
def PieceValidUptoSaid : Prop := pieceValidUptoRow.holds Tryz.pinned (OpenSpec.upto pieceValidSpec)

/-- 'sherdlaw12.PieceBytes', WHERE WHAT IT READS IS OF BULK AT MOST 1048576: true; the input reads as it did. -/
def pieceBytesUptoRow : OpenClaim := { program := "ytlgnagnmoleeiaagreat", sum := "963a3f930d792698e68a3f75bd878c53f063f7d4446e9d8f58d478b55414077d", func := "sherd/sherdlaw12.PieceBytes", spec := "pieceBytes", unfollowed := true, recurses := true, apart := false, narrowed := true }
def PieceBytesUptoSaid : Prop := pieceBytesUptoRow.holds Tryz.pinned (OpenSpec.upto pieceBytesSpec)

/-- 'sherdlaw12.PieceParses', WHERE WHAT IT READS IS OF BULK AT MOST 1048576: true; the input reads as it did. -/
def pieceParsesUptoRow : OpenClaim := { program := "ytlgnagnmoleeiaagreat", sum := "963a3f930d792698e68a3f75bd878c53f063f7d4446e9d8f58d478b55414077d", func := "sherd/sherdlaw12.PieceParses", spec := "pieceParses", unfollowed := true, recurses := true, apart := false, narrowed := true }
def PieceParsesUptoSaid : Prop := pieceParsesUptoRow.holds Tryz.pinned (OpenSpec.upto pieceParsesSpec)

/-- 'sherdlaw12.PieceMoved', WHERE WHAT IT READS IS OF BULK AT MOST 1048576: true; the input reads as it did. -/
def pieceMovedUptoRow : OpenClaim := { program := "ytlgnagnmoleeiaagreat", sum := "963a3f930d792698e68a3f75bd878c53f063f7d4446e9d8f58d478b55414077d", func := "sherd/sherdlaw12.PieceMoved", spec := "pieceMoved", unfollowed := true, recurses := true, apart := false, narrowed := true }
def PieceMovedUptoSaid : Prop := pieceMovedUptoRow.holds Tryz.pinned (OpenSpec.upto pieceMovedSpec)

/-- 'sherdlaw12.PieceCells', WHERE WHAT IT READS IS OF BULK AT MOST 1048576: true; the input reads as it did. -/
def pieceCellsUptoRow : OpenClaim := { program := "ytlgnagnmoleeiaagreat", sum := "963a3f930d792698e68a3f75bd878c53f063f7d4446e9d8f58d478b55414077d", func := "sherd/sherdlaw12.PieceCells", spec := "pieceCells", unfollowed := true, recurses := true, apart := false, narrowed := true }
def PieceCellsUptoSaid : Prop := pieceCellsUptoRow.holds Tryz.pinned (OpenSpec.upto pieceCellsSpec)

/-- 'sherdlaw12.PieceEdges', WHERE WHAT IT READS IS OF BULK AT MOST 1048576: true; the input reads as it did. -/
def pieceEdgesUptoRow : OpenClaim := { program := "ytlgnagnmoleeiaagreat", sum := "963a3f930d792698e68a3f75bd878c53f063f7d4446e9d8f58d478b55414077d", func := "sherd/sherdlaw12.PieceEdges", spec := "pieceEdges", unfollowed := true, recurses := true, apart := false, narrowed := true }
def PieceEdgesUptoSaid : Prop := pieceEdgesUptoRow.holds Tryz.pinned (OpenSpec.upto pieceEdgesSpec)

end Rows
end Go.Proofs.YtlgnagnmoleeiaaGreat
