/-
  No cell of these rows narrows 'for every input' (looked for: loops, veiled, ifaces, maps, wideKeys, modest, calm, conditions, laid).
  DERIVED. THE GIVEN ROWS OF THIS SEAT. 4 by the template 'for every input the law returns true; each argument reads behind the call as it read before'; 0 by the template 'total and deterministic' (their statements: YtonkbckgbfcnkaaTotals.lean).
  GIVEN WITH THE SEED: the statements are not yours to turn. If you find one false, say at which input.
  Laid BY PROGRAM, IN A SANDBOX (cutbox-rows.mjs): the forced cells as the released guide's own fill.sh prints them over the translation c6cc31303af214b4… (all of the seat's roots in one cut). By AI agents, Wed Nov 11 2026. No macro, syntax, notation, axiom, sorry.
-/
import Derived.Test.YtonkbckgbfcnkaaChecked
import GoSem.Claim
import GoSem.ClaimJoined
import GoSem.ClaimMapViews
import Derived.JoinedTies
import Derived.KernelRfl
namespace Go.Proofs.Ytonkbckgbfcnkaa
/- THE CELL 'sum', in the pinned program and in every row, IS THE sha256 OF THE DUMP (.gsa) THAT YtonkbckgbfcnkaaProg.lean LOADS. Nothing in Lean hashes anything: it is a label: what it is worth is what the hold of that sum in a sandbox is worth. -/
noncomputable def Try.pinned : Pinned := { name := "ytonkbckgbfcnkaa", sum := "c6cc31303af214b453308fcda5082c89a35d0cbab29d308a5dfe9ace96f6db30", checked := Try.checked }
namespace Rows
def none {H : Type} : Left H := { results := [], args := [] }

/-- 'sherdlaw05.PlaneAligns': WHATEVER THE INPUT: true; the input reads as it did. -/
def planeAlignsSpec : ChangeSpec := { name := "planeAligns", fn := fun _ => fun
  | [d1, d2, d3] => { results := [.lit (.bool true)], args := [d1, d2, d3] }
  | _ => none }
def planeAlignsRow : OpenClaim := { program := "ytonkbckgbfcnkaa", sum := "c6cc31303af214b453308fcda5082c89a35d0cbab29d308a5dfe9ace96f6db30", func := "sherd/sherdlaw05.PlaneAligns", spec := "planeAligns", unfollowed := true, recurses := true, apart := false }
def PlaneAlignsSaid : Prop := planeAlignsRow.holds Try.pinned (OpenSpec.ofChange planeAlignsSpec)

/-- ITS FALSE NEIGHBOUR: 'it returns false'. Refute it at one input. -/
def planeAlignsWrong : ChangeSpec := { name := "planeAligns", fn := fun _ => fun
  | [d1, d2, d3] => { results := [.lit (.bool false)], args := [d1, d2, d3] }
  | _ => none }
def PlaneAlignsWrongFalsely : Prop := planeAlignsRow.holds Try.pinned (OpenSpec.ofChange planeAlignsWrong)

/-- 'sherdlaw05.PlaneTurns': WHATEVER THE INPUT: true; the input reads as it did. -/
def planeTurnsSpec : ChangeSpec := { name := "planeTurns", fn := fun _ => fun
  | [d1, d2, d3, d4] => { results := [.lit (.bool true)], args := [d1, d2, d3, d4] }
  | _ => none }
def planeTurnsRow : OpenClaim := { program := "ytonkbckgbfcnkaa", sum := "c6cc31303af214b453308fcda5082c89a35d0cbab29d308a5dfe9ace96f6db30", func := "sherd/sherdlaw05.PlaneTurns", spec := "planeTurns", unfollowed := true, recurses := true, apart := false }
def PlaneTurnsSaid : Prop := planeTurnsRow.holds Try.pinned (OpenSpec.ofChange planeTurnsSpec)

/-- ITS FALSE NEIGHBOUR: 'it returns false'. Refute it at one input. -/
def planeTurnsWrong : ChangeSpec := { name := "planeTurns", fn := fun _ => fun
  | [d1, d2, d3, d4] => { results := [.lit (.bool false)], args := [d1, d2, d3, d4] }
  | _ => none }
def PlaneTurnsWrongFalsely : Prop := planeTurnsRow.holds Try.pinned (OpenSpec.ofChange planeTurnsWrong)

/-- 'sherdlaw05.PlaneGroup': WHATEVER THE INPUT: true; the input reads as it did. -/
def planeGroupSpec : ChangeSpec := { name := "planeGroup", fn := fun _ => fun
  | [d1, d2, d3, d4] => { results := [.lit (.bool true)], args := [d1, d2, d3, d4] }
  | _ => none }
def planeGroupRow : OpenClaim := { program := "ytonkbckgbfcnkaa", sum := "c6cc31303af214b453308fcda5082c89a35d0cbab29d308a5dfe9ace96f6db30", func := "sherd/sherdlaw05.PlaneGroup", spec := "planeGroup", unfollowed := true, recurses := true, apart := false }
def PlaneGroupSaid : Prop := planeGroupRow.holds Try.pinned (OpenSpec.ofChange planeGroupSpec)

/-- ITS FALSE NEIGHBOUR: 'it returns false'. Refute it at one input. -/
def planeGroupWrong : ChangeSpec := { name := "planeGroup", fn := fun _ => fun
  | [d1, d2, d3, d4] => { results := [.lit (.bool false)], args := [d1, d2, d3, d4] }
  | _ => none }
def PlaneGroupWrongFalsely : Prop := planeGroupRow.holds Try.pinned (OpenSpec.ofChange planeGroupWrong)

/-- 'sherdlaw05.PlaneVectors': WHATEVER THE INPUT: true; the input reads as it did. -/
def planeVectorsSpec : ChangeSpec := { name := "planeVectors", fn := fun _ => fun
  | [d1, d2, d3] => { results := [.lit (.bool true)], args := [d1, d2, d3] }
  | _ => none }
def planeVectorsRow : OpenClaim := { program := "ytonkbckgbfcnkaa", sum := "c6cc31303af214b453308fcda5082c89a35d0cbab29d308a5dfe9ace96f6db30", func := "sherd/sherdlaw05.PlaneVectors", spec := "planeVectors", unfollowed := true, recurses := true, apart := false }
def PlaneVectorsSaid : Prop := planeVectorsRow.holds Try.pinned (OpenSpec.ofChange planeVectorsSpec)

/-- ITS FALSE NEIGHBOUR: 'it returns false'. Refute it at one input. -/
def planeVectorsWrong : ChangeSpec := { name := "planeVectors", fn := fun _ => fun
  | [d1, d2, d3] => { results := [.lit (.bool false)], args := [d1, d2, d3] }
  | _ => none }
def PlaneVectorsWrongFalsely : Prop := planeVectorsRow.holds Try.pinned (OpenSpec.ofChange planeVectorsWrong)

/- THE SECOND FORM. 'bulk': how many values and letters a reading holds, each counted each time it is reached (what is shared counts as often as it is met; a slice's spare places count too). A statement '..UptoSaid' is the law's where the arguments, and the package variables that the reading takes, are together of bulk at most 1048576: NARROWER than '..Said'. Prove '..Said' where nothing that the law and all that it calls make is longer than what came in: it says more and counts as full. Else prove '..UptoSaid'. A law counts once. -/
mutual
def uptoBulk {H : Type} : DataW H → Nat
  | .lit (.string bytes) => bytes.length + 1
  | .lit _ => 1
  | .nil => 1
  | .ptr d => uptoBulk d + 1
  | .slice elems spare => uptoBulkAll elems + uptoBulkAll spare + 1
  | .agg parts => uptoBulkAll parts + 1
  | .iface _ d => uptoBulk d + 1
  | .map entries => uptoBulkEntries entries + 1
  | .held _ => 1
def uptoBulkAll {H : Type} : List (DataW H) → Nat
  | [] => 0
  | d :: r => uptoBulk d + uptoBulkAll r
def uptoBulkEntries {H : Type} : List (Lit × DataW H) → Nat
  | [] => 0
  | x :: r => uptoBulkEntry x + uptoBulkEntries r
def uptoBulkEntry {H : Type} : Lit × DataW H → Nat
  | (.string bytes, d) => bytes.length + uptoBulk d + 1
  | (_, d) => uptoBulk d + 1
 end
def uptoSmall : (H : Type) → List (DataW H) → Bool := fun _ ds => decide (uptoBulkAll ds ≤ 1048576)
def OpenSpec.upto (s : _root_.Go.ChangeSpec) : _root_.Go.OpenSpec := { _root_.Go.OpenSpec.ofChange s with cond := some uptoSmall }

/-- 'sherdlaw05.PlaneAligns', WHERE WHAT IT READS IS OF BULK AT MOST 1048576: true; the input reads as it did. -/
def planeAlignsUptoRow : OpenClaim := { program := "ytonkbckgbfcnkaa", sum := "c6cc31303af214b453308fcda5082c89a35d0cbab29d308a5dfe9ace96f6db30", func := "sherd/sherdlaw05.PlaneAligns", spec := "planeAligns", unfollowed := true, recurses := true, apart := false, narrowed := true }
def PlaneAlignsUptoSaid : Prop := planeAlignsUptoRow.holds Try.pinned (OpenSpec.upto planeAlignsSpec)

/-- 'sherdlaw05.PlaneTurns', WHERE WHAT IT READS IS OF BULK AT MOST 1048576: true; the input reads as it did. -/
def planeTurnsUptoRow : OpenClaim := { program := "ytonkbckgbfcnkaa", sum := "c6cc31303af214b453308fcda5082c89a35d0cbab29d308a5dfe9ace96f6db30", func := "sherd/sherdlaw05.PlaneTurns", spec := "planeTurns", unfollowed := true, recurses := true, apart := false, narrowed := true }
def PlaneTurnsUptoSaid : Prop := planeTurnsUptoRow.holds Try.pinned (OpenSpec.upto planeTurnsSpec)

/-- 'sherdlaw05.PlaneGroup', WHERE WHAT IT READS IS OF BULK AT MOST 1048576: true; the input reads as it did. -/
def planeGroupUptoRow : OpenClaim := { program := "ytonkbckgbfcnkaa", sum := "c6cc31303af214b453308fcda5082c89a35d0cbab29d308a5dfe9ace96f6db30", func := "sherd/sherdlaw05.PlaneGroup", spec := "planeGroup", unfollowed := true, recurses := true, apart := false, narrowed := true }
def PlaneGroupUptoSaid : Prop := planeGroupUptoRow.holds Try.pinned (OpenSpec.upto planeGroupSpec)

/-- 'sherdlaw05.PlaneVectors', WHERE WHAT IT READS IS OF BULK AT MOST 1048576: true; the input reads as it did. -/
def planeVectorsUptoRow : OpenClaim := { program := "ytonkbckgbfcnkaa", sum := "c6cc31303af214b453308fcda5082c89a35d0cbab29d308a5dfe9ace96f6db30", func := "sherd/sherdlaw05.PlaneVectors", spec := "planeVectors", unfollowed := true, recurses := true, apart := false, narrowed := true }
def PlaneVectorsUptoSaid : Prop := planeVectorsUptoRow.holds Try.pinned (OpenSpec.upto planeVectorsSpec)

end Rows
end Go.Proofs.Ytonkbckgbfcnkaa
