/-
  No cell of these rows narrows 'for every input' (looked for: loops, veiled, ifaces, maps, wideKeys, modest, calm, conditions, laid).
  DERIVED. THE GIVEN ROWS OF THIS SEAT. 8 by the template 'for every input the law returns true; each argument reads behind the call as it read before'; 0 by the template 'total and deterministic' (their statements: YtcfejkpadcccbaaGreatTotals.lean).
  GIVEN WITH THE SEED: the statements are not yours to turn. If you find one false, say at which input.
  Laid BY PROGRAM, IN A SANDBOX (cutbox-rows.mjs): the forced cells as the released guide's own fill.sh prints them over the translation 82cb85810af63d3c… (all of the seat's roots in one cut). By AI agents, Wed Nov 11 2026. No macro, syntax, notation, axiom, sorry.
-/
import Derived.Test.YtcfejkpadcccbaaGreatChecked
import GoSem.Claim
import GoSem.ClaimJoined
import GoSem.ClaimMapViews
import Derived.JoinedTies
import Derived.KernelRfl
namespace Go.Proofs.YtcfejkpadcccbaaGreat
/- THE CELL 'sum', in the pinned program and in every row, IS THE sha256 OF THE DUMP (.gsa) THAT YtcfejkpadcccbaaGreatProg.lean LOADS. Nothing in Lean hashes anything: it is a label: what it is worth is what the hold of that sum in a sandbox is worth. -/
noncomputable def Tryz.pinned : Pinned := { name := "ytcfejkpadcccbaagreat", sum := "82cb85810af63d3cf7fba93df945c926b4cc3617bee198211643d89c894838ef", checked := Tryz.checked }
namespace Rows
def none {H : Type} : Left H := { results := [], args := [] }

/-- 'sherdlaw06.PolygonValid': WHATEVER THE INPUT: true; the input reads as it did. -/
def polygonValidSpec : ChangeSpec := { name := "polygonValid", fn := fun _ => fun
  | [d1, d2, d3, d4] => { results := [.lit (.bool true)], args := [d1, d2, d3, d4] }
  | _ => none }
def polygonValidRow : OpenClaim := { program := "ytcfejkpadcccbaagreat", sum := "82cb85810af63d3cf7fba93df945c926b4cc3617bee198211643d89c894838ef", func := "sherd/sherdlaw06.PolygonValid", spec := "polygonValid", unfollowed := true, recurses := true, apart := false }
def PolygonValidSaid : Prop := polygonValidRow.holds Tryz.pinned (OpenSpec.ofChange polygonValidSpec)

/-- ITS FALSE NEIGHBOUR: 'it returns false'. Refute it at one input. -/
def polygonValidWrong : ChangeSpec := { name := "polygonValid", fn := fun _ => fun
  | [d1, d2, d3, d4] => { results := [.lit (.bool false)], args := [d1, d2, d3, d4] }
  | _ => none }
def PolygonValidWrongFalsely : Prop := polygonValidRow.holds Tryz.pinned (OpenSpec.ofChange polygonValidWrong)

/-- 'sherdlaw06.PolygonMeasures': WHATEVER THE INPUT: true; the input reads as it did. -/
def polygonMeasuresSpec : ChangeSpec := { name := "polygonMeasures", fn := fun _ => fun
  | [d1, d2, d3, d4] => { results := [.lit (.bool true)], args := [d1, d2, d3, d4] }
  | _ => none }
def polygonMeasuresRow : OpenClaim := { program := "ytcfejkpadcccbaagreat", sum := "82cb85810af63d3cf7fba93df945c926b4cc3617bee198211643d89c894838ef", func := "sherd/sherdlaw06.PolygonMeasures", spec := "polygonMeasures", unfollowed := true, recurses := true, apart := false }
def PolygonMeasuresSaid : Prop := polygonMeasuresRow.holds Tryz.pinned (OpenSpec.ofChange polygonMeasuresSpec)

/-- ITS FALSE NEIGHBOUR: 'it returns false'. Refute it at one input. -/
def polygonMeasuresWrong : ChangeSpec := { name := "polygonMeasures", fn := fun _ => fun
  | [d1, d2, d3, d4] => { results := [.lit (.bool false)], args := [d1, d2, d3, d4] }
  | _ => none }
def PolygonMeasuresWrongFalsely : Prop := polygonMeasuresRow.holds Tryz.pinned (OpenSpec.ofChange polygonMeasuresWrong)

/-- 'sherdlaw06.PolygonHas': WHATEVER THE INPUT: true; the input reads as it did. -/
def polygonHasSpec : ChangeSpec := { name := "polygonHas", fn := fun _ => fun
  | [d1, d2] => { results := [.lit (.bool true)], args := [d1, d2] }
  | _ => none }
def polygonHasRow : OpenClaim := { program := "ytcfejkpadcccbaagreat", sum := "82cb85810af63d3cf7fba93df945c926b4cc3617bee198211643d89c894838ef", func := "sherd/sherdlaw06.PolygonHas", spec := "polygonHas", unfollowed := true, recurses := true, apart := false }
def PolygonHasSaid : Prop := polygonHasRow.holds Tryz.pinned (OpenSpec.ofChange polygonHasSpec)

/-- ITS FALSE NEIGHBOUR: 'it returns false'. Refute it at one input. -/
def polygonHasWrong : ChangeSpec := { name := "polygonHas", fn := fun _ => fun
  | [d1, d2] => { results := [.lit (.bool false)], args := [d1, d2] }
  | _ => none }
def PolygonHasWrongFalsely : Prop := polygonHasRow.holds Tryz.pinned (OpenSpec.ofChange polygonHasWrong)

/-- 'sherdlaw06.PolygonMeets': WHATEVER THE INPUT: true; the input reads as it did. -/
def polygonMeetsSpec : ChangeSpec := { name := "polygonMeets", fn := fun _ => fun
  | [d1, d2] => { results := [.lit (.bool true)], args := [d1, d2] }
  | _ => none }
def polygonMeetsRow : OpenClaim := { program := "ytcfejkpadcccbaagreat", sum := "82cb85810af63d3cf7fba93df945c926b4cc3617bee198211643d89c894838ef", func := "sherd/sherdlaw06.PolygonMeets", spec := "polygonMeets", unfollowed := true, recurses := true, apart := false }
def PolygonMeetsSaid : Prop := polygonMeetsRow.holds Tryz.pinned (OpenSpec.ofChange polygonMeetsSpec)

/-- ITS FALSE NEIGHBOUR: 'it returns false'. Refute it at one input. -/
def polygonMeetsWrong : ChangeSpec := { name := "polygonMeets", fn := fun _ => fun
  | [d1, d2] => { results := [.lit (.bool false)], args := [d1, d2] }
  | _ => none }
def PolygonMeetsWrongFalsely : Prop := polygonMeetsRow.holds Tryz.pinned (OpenSpec.ofChange polygonMeetsWrong)

/-- 'sherdlaw06.PolygonParts': WHATEVER THE INPUT: true; the input reads as it did. -/
def polygonPartsSpec : ChangeSpec := { name := "polygonParts", fn := fun _ => fun
  | [d1, d2, d3, d4, d5] => { results := [.lit (.bool true)], args := [d1, d2, d3, d4, d5] }
  | _ => none }
def polygonPartsRow : OpenClaim := { program := "ytcfejkpadcccbaagreat", sum := "82cb85810af63d3cf7fba93df945c926b4cc3617bee198211643d89c894838ef", func := "sherd/sherdlaw06.PolygonParts", spec := "polygonParts", unfollowed := true, recurses := true, apart := false }
def PolygonPartsSaid : Prop := polygonPartsRow.holds Tryz.pinned (OpenSpec.ofChange polygonPartsSpec)

/-- ITS FALSE NEIGHBOUR: 'it returns false'. Refute it at one input. -/
def polygonPartsWrong : ChangeSpec := { name := "polygonParts", fn := fun _ => fun
  | [d1, d2, d3, d4, d5] => { results := [.lit (.bool false)], args := [d1, d2, d3, d4, d5] }
  | _ => none }
def PolygonPartsWrongFalsely : Prop := polygonPartsRow.holds Tryz.pinned (OpenSpec.ofChange polygonPartsWrong)

/-- 'sherdlaw06.PolygonBegins': WHATEVER THE INPUT: true; the input reads as it did. -/
def polygonBeginsSpec : ChangeSpec := { name := "polygonBegins", fn := fun _ => fun
  | [d1, d2, d3] => { results := [.lit (.bool true)], args := [d1, d2, d3] }
  | _ => none }
def polygonBeginsRow : OpenClaim := { program := "ytcfejkpadcccbaagreat", sum := "82cb85810af63d3cf7fba93df945c926b4cc3617bee198211643d89c894838ef", func := "sherd/sherdlaw06.PolygonBegins", spec := "polygonBegins", unfollowed := true, recurses := true, apart := false }
def PolygonBeginsSaid : Prop := polygonBeginsRow.holds Tryz.pinned (OpenSpec.ofChange polygonBeginsSpec)

/-- ITS FALSE NEIGHBOUR: 'it returns false'. Refute it at one input. -/
def polygonBeginsWrong : ChangeSpec := { name := "polygonBegins", fn := fun _ => fun
  | [d1, d2, d3] => { results := [.lit (.bool false)], args := [d1, d2, d3] }
  | _ => none }
def PolygonBeginsWrongFalsely : Prop := polygonBeginsRow.holds Tryz.pinned (OpenSpec.ofChange polygonBeginsWrong)

/-- 'sherdlaw06.PolygonInside': WHATEVER THE INPUT: true; the input reads as it did. -/
def polygonInsideSpec : ChangeSpec := { name := "polygonInside", fn := fun _ => fun
  | [d1, d2] => { results := [.lit (.bool true)], args := [d1, d2] }
  | _ => none }
def polygonInsideRow : OpenClaim := { program := "ytcfejkpadcccbaagreat", sum := "82cb85810af63d3cf7fba93df945c926b4cc3617bee198211643d89c894838ef", func := "sherd/sherdlaw06.PolygonInside", spec := "polygonInside", unfollowed := true, recurses := true, apart := false }
def PolygonInsideSaid : Prop := polygonInsideRow.holds Tryz.pinned (OpenSpec.ofChange polygonInsideSpec)

/-- ITS FALSE NEIGHBOUR: 'it returns false'. Refute it at one input. -/
def polygonInsideWrong : ChangeSpec := { name := "polygonInside", fn := fun _ => fun
  | [d1, d2] => { results := [.lit (.bool false)], args := [d1, d2] }
  | _ => none }
def PolygonInsideWrongFalsely : Prop := polygonInsideRow.holds Tryz.pinned (OpenSpec.ofChange polygonInsideWrong)

/-- 'sherdlaw06.PolygonMoved': WHATEVER THE INPUT: true; the input reads as it did. -/
def polygonMovedSpec : ChangeSpec := { name := "polygonMoved", fn := fun _ => fun
  | [d1, d2, d3, d4] => { results := [.lit (.bool true)], args := [d1, d2, d3, d4] }
  | _ => none }
def polygonMovedRow : OpenClaim := { program := "ytcfejkpadcccbaagreat", sum := "82cb85810af63d3cf7fba93df945c926b4cc3617bee198211643d89c894838ef", func := "sherd/sherdlaw06.PolygonMoved", spec := "polygonMoved", unfollowed := true, recurses := true, apart := false }
def PolygonMovedSaid : Prop := polygonMovedRow.holds Tryz.pinned (OpenSpec.ofChange polygonMovedSpec)

/-- ITS FALSE NEIGHBOUR: 'it returns false'. Refute it at one input. -/
def polygonMovedWrong : ChangeSpec := { name := "polygonMoved", fn := fun _ => fun
  | [d1, d2, d3, d4] => { results := [.lit (.bool false)], args := [d1, d2, d3, d4] }
  | _ => none }
def PolygonMovedWrongFalsely : Prop := polygonMovedRow.holds Tryz.pinned (OpenSpec.ofChange polygonMovedWrong)

/- THE SECOND FORM. 'bulk': how many values and letters a reading holds, each counted each time it is reached (what is shared counts as often as it is met; a slice's spare places count too). A statement '..UptoSaid' is the law's where the arguments, and the package variables that the reading takes, are together of bulk at most 1048576: NARROWER than '..Said'. Prove '..Said' where nothing that the law and all that it calls make is longer than what came in: it says more and counts as full. Else prove '..UptoSaid'. A law counts once. -/
mutual
def uptoBulk {H : Type} : DataW H → Nat
  | .lit (.string bytes) => bytes.length + 1
  | .lit _ => 1
  | .nil => 1
  | .ptr d => uptoBulk d + 1
  | .slice elems spare => uptoBulkAll elems + uptoBulkAll spare + 1
  | .agg parts => uptoBulkAll parts + 1
  | .iface _ d => uptoBulk d + 1
  | .map entries => uptoBulkEntries entries + 1
  | .held _ => 1
def uptoBulkAll {H : Type} : List (DataW H) → Nat
  | [] => 0
  | d :: r => uptoBulk d + uptoBulkAll r
def uptoBulkEntries {H : Type} : List (Lit × DataW H) → Nat
  | [] => 0
  | x :: r => uptoBulkEntry x + uptoBulkEntries r
def uptoBulkEntry {H : Type} : Lit × DataW H → Nat
  | (.string bytes, d) => bytes.length + uptoBulk d + 1
  | (_, d) => uptoBulk d + 1
 end
def uptoSmall : (H : Type) → List (DataW H) → Bool := fun _ ds => decide (uptoBulkAll ds ≤ 1048576)
def OpenSpec.upto (s : _root_.Go.ChangeSpec) : _root_.Go.OpenSpec := { _root_.Go.OpenSpec.ofChange s with cond := some uptoSmall }

/-- 'sherdlaw06.PolygonValid', WHERE WHAT IT READS IS OF BULK AT MOST 1048576: true; the input reads as it did. -/
def polygonValidUptoRow : OpenClaim := { program := "ytcfejkpadcccbaagreat", sum := "82cb85810af63d3cf7fba93df945c926b4cc3617bee198211643d89c894838ef", func := "sherd/sherdlaw06.PolygonValid", spec := "polygonValid", unfollowed := true, recurses := true, apart := false, narrowed := true }
def PolygonValidUptoSaid : Prop := polygonValidUptoRow.holds Tryz.pinned (OpenSpec.upto polygonValidSpec)

/-- 'sherdlaw06.PolygonMeasures', WHERE WHAT IT READS IS OF BULK AT MOST 1048576: true; the input reads as it did. -/
def polygonMeasuresUptoRow : OpenClaim := { program := "ytcfejkpadcccbaagreat", sum := "82cb85810af63d3cf7fba93df945c926b4cc3617bee198211643d89c894838ef", func := "sherd/sherdlaw06.PolygonMeasures", spec := "polygonMeasures", unfollowed := true, recurses := true, apart := false, narrowed := true }
def PolygonMeasuresUptoSaid : Prop := polygonMeasuresUptoRow.holds Tryz.pinned (OpenSpec.upto polygonMeasuresSpec)

/-- 'sherdlaw06.PolygonHas', WHERE WHAT IT READS IS OF BULK AT MOST 1048576: true; the input reads as it did. -/
def polygonHasUptoRow : OpenClaim := { program := "ytcfejkpadcccbaagreat", sum := "82cb85810af63d3cf7fba93df945c926b4cc3617bee198211643d89c894838ef", func := "sherd/sherdlaw06.PolygonHas", spec := "polygonHas", unfollowed := true, recurses := true, apart := false, narrowed := true }
def PolygonHasUptoSaid : Prop := polygonHasUptoRow.holds Tryz.pinned (OpenSpec.upto polygonHasSpec)

/-- 'sherdlaw06.PolygonMeets', WHERE WHAT IT READS IS OF BULK AT MOST 1048576: true; the input reads as it did. -/
def polygonMeetsUptoRow : OpenClaim := { program := "ytcfejkpadcccbaagreat", sum := "82cb85810af63d3cf7fba93df945c926b4cc3617bee198211643d89c894838ef", func := "sherd/sherdlaw06.PolygonMeets", spec := "polygonMeets", unfollowed := true, recurses := true, apart := false, narrowed := true }
def PolygonMeetsUptoSaid : Prop := polygonMeetsUptoRow.holds Tryz.pinned (OpenSpec.upto polygonMeetsSpec)

/-- 'sherdlaw06.PolygonParts', WHERE WHAT IT READS IS OF BULK AT MOST 1048576: true; the input reads as it did. -/
def polygonPartsUptoRow : OpenClaim := { program := "ytcfejkpadcccbaagreat", sum := "82cb85810af63d3cf7fba93df945c926b4cc3617bee198211643d89c894838ef", func := "sherd/sherdlaw06.PolygonParts", spec := "polygonParts", unfollowed := true, recurses := true, apart := false, narrowed := true }
def PolygonPartsUptoSaid : Prop := polygonPartsUptoRow.holds Tryz.pinned (OpenSpec.upto polygonPartsSpec)

/-- 'sherdlaw06.PolygonBegins', WHERE WHAT IT READS IS OF BULK AT MOST 1048576: true; the input reads as it did. -/
def polygonBeginsUptoRow : OpenClaim := { program := "ytcfejkpadcccbaagreat", sum := "82cb85810af63d3cf7fba93df945c926b4cc3617bee198211643d89c894838ef", func := "sherd/sherdlaw06.PolygonBegins", spec := "polygonBegins", unfollowed := true, recurses := true, apart := false, narrowed := true }
def PolygonBeginsUptoSaid : Prop := polygonBeginsUptoRow.holds Tryz.pinned (OpenSpec.upto polygonBeginsSpec)

/-- 'sherdlaw06.PolygonInside', WHERE WHAT IT READS IS OF BULK AT MOST 1048576: true; the input reads as it did. -/
def polygonInsideUptoRow : OpenClaim := { program := "ytcfejkpadcccbaagreat", sum := "82cb85810af63d3cf7fba93df945c926b4cc3617bee198211643d89c894838ef", func := "sherd/sherdlaw06.PolygonInside", spec := "polygonInside", unfollowed := true, recurses := true, apart := false, narrowed := true }
def PolygonInsideUptoSaid : Prop := polygonInsideUptoRow.holds Tryz.pinned (OpenSpec.upto polygonInsideSpec)

/-- 'sherdlaw06.PolygonMoved', WHERE WHAT IT READS IS OF BULK AT MOST 1048576: true; the input reads as it did. -/
def polygonMovedUptoRow : OpenClaim := { program := "ytcfejkpadcccbaagreat", sum := "82cb85810af63d3cf7fba93df945c926b4cc3617bee198211643d89c894838ef", func := "sherd/sherdlaw06.PolygonMoved", spec := "polygonMoved", unfollowed := true, recurses := true, apart := false, narrowed := true }
def PolygonMovedUptoSaid : Prop := polygonMovedUptoRow.holds Tryz.pinned (OpenSpec.upto polygonMovedSpec)

end Rows
end Go.Proofs.YtcfejkpadcccbaaGreat
