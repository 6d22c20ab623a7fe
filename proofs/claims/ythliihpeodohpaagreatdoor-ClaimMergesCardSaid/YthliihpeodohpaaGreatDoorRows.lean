/-
  NARROWER THAN 'FOR EVERY INPUT', by the rows' own cells (each row's printed sentence says how): ClaimSorts: laid · ClaimMerges: laid.
  DERIVED. THE GIVEN ROWS OF THIS SEAT. 2 by the template 'for every input the law returns true; each argument reads behind the call as it read before'; 0 by the template 'total and deterministic' (their statements: YthliihpeodohpaaGreatDoorTotals.lean).
  GIVEN WITH THE SEED: the statements are not yours to turn. If you find one false, say at which input.
  Laid BY PROGRAM, IN A SANDBOX (cutbox-rows.mjs): the forced cells as the released guide's own fill.sh prints them over the translation 0644a3995f0f3b48… (all of the seat's roots in one cut). By AI agents, Wed Nov 11 2026. No macro, syntax, notation, axiom, sorry.
-/
import Derived.Test.YthliihpeodohpaaGreatDoorChecked
import GoSem.Claim
import GoSem.ClaimJoined
import GoSem.ClaimMapViews
import Derived.JoinedTies
import Derived.KernelRfl
namespace Go.Proofs.YthliihpeodohpaaGreatDoor
/- THE CELL 'sum', in the pinned program and in every row, IS THE sha256 OF THE DUMP (.gsa) THAT YthliihpeodohpaaGreatDoorProg.lean LOADS. Nothing in Lean hashes anything: it is a label: what it is worth is what the hold of that sum in a sandbox is worth. -/
noncomputable def Tryz.pinned : Pinned := { name := "ythliihpeodohpaagreatdoor", sum := "0644a3995f0f3b48e8c6720d00002f0090e0a920f6df5bfde365b92c244c0fc4", checked := Tryz.checked }
namespace Rows
def none {H : Type} : Left H := { results := [], args := [] }

/- WHAT THE LISTED PACKAGE-LEVEL VARIABLES READ AS WHEN THE CALL BEGINS. Each datum BY PROGRAM (the guide's laid-datum.mjs) off the statement by which the dump's own 'gosem.cut.vars' lays the variable. In a bare row this is a premise. The card (YthliihpeodohpaaGreatDoorCards.lean) ties it to the program's text. -/
def laid_sherd_claim_needs {H : Type} : DataW H := .agg [.agg [.lit (.int .i64 0), .lit (.int .i64 0), .lit (.bool false), .lit (.bool true)], .agg [.lit (.int .i64 1), .lit (.int .i64 16), .lit (.bool true), .lit (.bool false)], .agg [.lit (.int .i64 2), .lit (.int .i64 16), .lit (.bool false), .lit (.bool false)], .agg [.lit (.int .i64 1), .lit (.int .i64 16), .lit (.bool false), .lit (.bool false)]]

/-- 'sherdlaw15.ClaimSorts': WHATEVER THE INPUT: true; the input reads as it did. -/
def claimSortsSpec : ChangeSpec := { name := "claimSorts", fn := fun _ => fun
  | [d1, d2, d3] => { results := [.lit (.bool true)], args := [d1, d2, d3] }
  | _ => none }
def claimSortsRow : OpenClaim := { program := "ythliihpeodohpaagreatdoor", sum := "0644a3995f0f3b48e8c6720d00002f0090e0a920f6df5bfde365b92c244c0fc4", func := "sherd/sherdlaw15.ClaimSorts", spec := "claimSorts", inPlace := ["internal/bytealg.Compare"], unfollowed := true, recurses := true, named := ["sherd/claim.needs"], apart := false, laid := [("sherd/claim.needs", laid_sherd_claim_needs)] }
def ClaimSortsSaid : Prop := claimSortsRow.holds Tryz.pinned (OpenSpec.ofChange claimSortsSpec)

/-- ITS FALSE NEIGHBOUR: 'it returns false'. Refute it at one input. -/
def claimSortsWrong : ChangeSpec := { name := "claimSorts", fn := fun _ => fun
  | [d1, d2, d3] => { results := [.lit (.bool false)], args := [d1, d2, d3] }
  | _ => none }
def ClaimSortsWrongFalsely : Prop := claimSortsRow.holds Tryz.pinned (OpenSpec.ofChange claimSortsWrong)

/-- 'sherdlaw15.ClaimMerges': WHATEVER THE INPUT: true; the input reads as it did. -/
def claimMergesSpec : ChangeSpec := { name := "claimMerges", fn := fun _ => fun
  | [d1, d2, d3] => { results := [.lit (.bool true)], args := [d1, d2, d3] }
  | _ => none }
def claimMergesRow : OpenClaim := { program := "ythliihpeodohpaagreatdoor", sum := "0644a3995f0f3b48e8c6720d00002f0090e0a920f6df5bfde365b92c244c0fc4", func := "sherd/sherdlaw15.ClaimMerges", spec := "claimMerges", inPlace := ["internal/bytealg.Compare"], unfollowed := true, recurses := true, named := ["sherd/claim.needs"], apart := false, laid := [("sherd/claim.needs", laid_sherd_claim_needs)] }
def ClaimMergesSaid : Prop := claimMergesRow.holds Tryz.pinned (OpenSpec.ofChange claimMergesSpec)

/-- ITS FALSE NEIGHBOUR: 'it returns false'. Refute it at one input. -/
def claimMergesWrong : ChangeSpec := { name := "claimMerges", fn := fun _ => fun
  | [d1, d2, d3] => { results := [.lit (.bool false)], args := [d1, d2, d3] }
  | _ => none }
def ClaimMergesWrongFalsely : Prop := claimMergesRow.holds Tryz.pinned (OpenSpec.ofChange claimMergesWrong)

/- THE SECOND FORM. 'bulk': how many values and letters a reading holds, each counted each time it is reached (what is shared counts as often as it is met; a slice's spare places count too). A statement '..UptoSaid' is the law's where the arguments, and the package variables that the reading takes, are together of bulk at most 1048576: NARROWER than '..Said'. Prove '..Said' where nothing that the law and all that it calls make is longer than what came in: it says more and counts as full. Else prove '..UptoSaid'. A law counts once. -/
mutual
def uptoBulk {H : Type} : DataW H → Nat
  | .lit (.string bytes) => bytes.length + 1
  | .lit _ => 1
  | .nil => 1
  | .ptr d => uptoBulk d + 1
  | .slice elems spare => uptoBulkAll elems + uptoBulkAll spare + 1
  | .agg parts => uptoBulkAll parts + 1
  | .iface _ d => uptoBulk d + 1
  | .map entries => uptoBulkEntries entries + 1
  | .held _ => 1
def uptoBulkAll {H : Type} : List (DataW H) → Nat
  | [] => 0
  | d :: r => uptoBulk d + uptoBulkAll r
def uptoBulkEntries {H : Type} : List (Lit × DataW H) → Nat
  | [] => 0
  | x :: r => uptoBulkEntry x + uptoBulkEntries r
def uptoBulkEntry {H : Type} : Lit × DataW H → Nat
  | (.string bytes, d) => bytes.length + uptoBulk d + 1
  | (_, d) => uptoBulk d + 1
 end
def uptoSmall : (H : Type) → List (DataW H) → Bool := fun _ ds => decide (uptoBulkAll ds ≤ 1048576)
def OpenSpec.upto (s : _root_.Go.ChangeSpec) : _root_.Go.OpenSpec := { _root_.Go.OpenSpec.ofChange s with cond := some uptoSmall }

/-- 'sherdlaw15.ClaimSorts', WHERE WHAT IT READS IS OF BULK AT MOST 1048576: true; the input reads as it did. -/
def claimSortsUptoRow : OpenClaim := { program := "ythliihpeodohpaagreatdoor", sum := "0644a3995f0f3b48e8c6720d00002f0090e0a920f6df5bfde365b92c244c0fc4", func := "sherd/sherdlaw15.ClaimSorts", spec := "claimSorts", inPlace := ["internal/bytealg.Compare"], unfollowed := true, recurses := true, named := ["sherd/claim.needs"], apart := false, laid := [("sherd/claim.needs", laid_sherd_claim_needs)], narrowed := true }
def ClaimSortsUptoSaid : Prop := claimSortsUptoRow.holds Tryz.pinned (OpenSpec.upto claimSortsSpec)

/-- 'sherdlaw15.ClaimMerges', WHERE WHAT IT READS IS OF BULK AT MOST 1048576: true; the input reads as it did. -/
def claimMergesUptoRow : OpenClaim := { program := "ythliihpeodohpaagreatdoor", sum := "0644a3995f0f3b48e8c6720d00002f0090e0a920f6df5bfde365b92c244c0fc4", func := "sherd/sherdlaw15.ClaimMerges", spec := "claimMerges", inPlace := ["internal/bytealg.Compare"], unfollowed := true, recurses := true, named := ["sherd/claim.needs"], apart := false, laid := [("sherd/claim.needs", laid_sherd_claim_needs)], narrowed := true }
def ClaimMergesUptoSaid : Prop := claimMergesUptoRow.holds Tryz.pinned (OpenSpec.upto claimMergesSpec)

end Rows
end Go.Proofs.YthliihpeodohpaaGreatDoor
