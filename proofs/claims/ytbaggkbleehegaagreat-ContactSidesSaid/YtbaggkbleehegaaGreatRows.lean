/-
  No cell of these rows narrows 'for every input' (looked for: loops, veiled, ifaces, maps, wideKeys, modest, calm, conditions, laid).
  DERIVED. THE GIVEN ROWS OF THIS SEAT. 7 by the template 'for every input the law returns true; each argument reads behind the call as it read before'; 0 by the template 'total and deterministic' (their statements: YtbaggkbleehegaaGreatTotals.lean).
  GIVEN WITH THE SEED: the statements are not yours to turn. If you find one false, say at which input.
  Laid BY PROGRAM, IN A SANDBOX (cutbox-rows.mjs): the forced cells as the released guide's own fill.sh prints them over the translation 75ba6c0b65bb389e… (all of the seat's roots in one cut). By AI agents, Wed Nov 11 2026. No macro, syntax, notation, axiom, sorry.
-/
import Derived.Test.YtbaggkbleehegaaGreatChecked
import GoSem.Claim
import GoSem.ClaimJoined
import GoSem.ClaimMapViews
import Derived.JoinedTies
import Derived.KernelRfl
namespace Go.Proofs.YtbaggkbleehegaaGreat
/- THE CELL 'sum', in the pinned program and in every row, IS THE sha256 OF THE DUMP (.gsa) THAT YtbaggkbleehegaaGreatProg.lean LOADS. Nothing in Lean hashes anything: it is a label: what it is worth is what the hold of that sum in a sandbox is worth. -/
noncomputable def Tryz.pinned : Pinned := { name := "ytbaggkbleehegaagreat", sum := "75ba6c0b65bb389e90b01af302a0a28e2ff4004ea46073306eb780180ab5e691", checked := Tryz.checked }
namespace Rows
def none {H : Type} : Left H := { results := [], args := [] }

/-- 'sherdlaw21.ContactOn': WHATEVER THE INPUT: true; the input reads as it did. -/
def contactOnSpec : ChangeSpec := { name := "contactOn", fn := fun _ => fun
  | [d1, d2, d3] => { results := [.lit (.bool true)], args := [d1, d2, d3] }
  | _ => none }
def contactOnRow : OpenClaim := { program := "ytbaggkbleehegaagreat", sum := "75ba6c0b65bb389e90b01af302a0a28e2ff4004ea46073306eb780180ab5e691", func := "sherd/sherdlaw21.ContactOn", spec := "contactOn", unfollowed := true, recurses := true, apart := false }
def ContactOnSaid : Prop := contactOnRow.holds Tryz.pinned (OpenSpec.ofChange contactOnSpec)

/-- ITS FALSE NEIGHBOUR: 'it returns false'. Refute it at one input. -/
def contactOnWrong : ChangeSpec := { name := "contactOn", fn := fun _ => fun
  | [d1, d2, d3] => { results := [.lit (.bool false)], args := [d1, d2, d3] }
  | _ => none }
def ContactOnWrongFalsely : Prop := contactOnRow.holds Tryz.pinned (OpenSpec.ofChange contactOnWrong)

/-- 'sherdlaw21.ContactTouches': WHATEVER THE INPUT: true; the input reads as it did. -/
def contactTouchesSpec : ChangeSpec := { name := "contactTouches", fn := fun _ => fun
  | [d1, d2] => { results := [.lit (.bool true)], args := [d1, d2] }
  | _ => none }
def contactTouchesRow : OpenClaim := { program := "ytbaggkbleehegaagreat", sum := "75ba6c0b65bb389e90b01af302a0a28e2ff4004ea46073306eb780180ab5e691", func := "sherd/sherdlaw21.ContactTouches", spec := "contactTouches", unfollowed := true, recurses := true, apart := false }
def ContactTouchesSaid : Prop := contactTouchesRow.holds Tryz.pinned (OpenSpec.ofChange contactTouchesSpec)

/-- ITS FALSE NEIGHBOUR: 'it returns false'. Refute it at one input. -/
def contactTouchesWrong : ChangeSpec := { name := "contactTouches", fn := fun _ => fun
  | [d1, d2] => { results := [.lit (.bool false)], args := [d1, d2] }
  | _ => none }
def ContactTouchesWrongFalsely : Prop := contactTouchesRow.holds Tryz.pinned (OpenSpec.ofChange contactTouchesWrong)

/-- 'sherdlaw21.ContactBodies': WHATEVER THE INPUT: true; the input reads as it did. -/
def contactBodiesSpec : ChangeSpec := { name := "contactBodies", fn := fun _ => fun
  | [d1, d2, d3] => { results := [.lit (.bool true)], args := [d1, d2, d3] }
  | _ => none }
def contactBodiesRow : OpenClaim := { program := "ytbaggkbleehegaagreat", sum := "75ba6c0b65bb389e90b01af302a0a28e2ff4004ea46073306eb780180ab5e691", func := "sherd/sherdlaw21.ContactBodies", spec := "contactBodies", unfollowed := true, recurses := true, apart := false }
def ContactBodiesSaid : Prop := contactBodiesRow.holds Tryz.pinned (OpenSpec.ofChange contactBodiesSpec)

/-- ITS FALSE NEIGHBOUR: 'it returns false'. Refute it at one input. -/
def contactBodiesWrong : ChangeSpec := { name := "contactBodies", fn := fun _ => fun
  | [d1, d2, d3] => { results := [.lit (.bool false)], args := [d1, d2, d3] }
  | _ => none }
def ContactBodiesWrongFalsely : Prop := contactBodiesRow.holds Tryz.pinned (OpenSpec.ofChange contactBodiesWrong)

/-- 'sherdlaw21.ContactMoved': WHATEVER THE INPUT: true; the input reads as it did. -/
def contactMovedSpec : ChangeSpec := { name := "contactMoved", fn := fun _ => fun
  | [d1, d2, d3, d4] => { results := [.lit (.bool true)], args := [d1, d2, d3, d4] }
  | _ => none }
def contactMovedRow : OpenClaim := { program := "ytbaggkbleehegaagreat", sum := "75ba6c0b65bb389e90b01af302a0a28e2ff4004ea46073306eb780180ab5e691", func := "sherd/sherdlaw21.ContactMoved", spec := "contactMoved", unfollowed := true, recurses := true, apart := false }
def ContactMovedSaid : Prop := contactMovedRow.holds Tryz.pinned (OpenSpec.ofChange contactMovedSpec)

/-- ITS FALSE NEIGHBOUR: 'it returns false'. Refute it at one input. -/
def contactMovedWrong : ChangeSpec := { name := "contactMoved", fn := fun _ => fun
  | [d1, d2, d3, d4] => { results := [.lit (.bool false)], args := [d1, d2, d3, d4] }
  | _ => none }
def ContactMovedWrongFalsely : Prop := contactMovedRow.holds Tryz.pinned (OpenSpec.ofChange contactMovedWrong)

/-- 'sherdlaw21.ContactWeights': WHATEVER THE INPUT: true; the input reads as it did. -/
def contactWeightsSpec : ChangeSpec := { name := "contactWeights", fn := fun _ => fun
  | [d1, d2, d3, d4] => { results := [.lit (.bool true)], args := [d1, d2, d3, d4] }
  | _ => none }
def contactWeightsRow : OpenClaim := { program := "ytbaggkbleehegaagreat", sum := "75ba6c0b65bb389e90b01af302a0a28e2ff4004ea46073306eb780180ab5e691", func := "sherd/sherdlaw21.ContactWeights", spec := "contactWeights", unfollowed := true, recurses := true, apart := false }
def ContactWeightsSaid : Prop := contactWeightsRow.holds Tryz.pinned (OpenSpec.ofChange contactWeightsSpec)

/-- ITS FALSE NEIGHBOUR: 'it returns false'. Refute it at one input. -/
def contactWeightsWrong : ChangeSpec := { name := "contactWeights", fn := fun _ => fun
  | [d1, d2, d3, d4] => { results := [.lit (.bool false)], args := [d1, d2, d3, d4] }
  | _ => none }
def ContactWeightsWrongFalsely : Prop := contactWeightsRow.holds Tryz.pinned (OpenSpec.ofChange contactWeightsWrong)

/-- 'sherdlaw21.ContactSupports': WHATEVER THE INPUT: true; the input reads as it did. -/
def contactSupportsSpec : ChangeSpec := { name := "contactSupports", fn := fun _ => fun
  | [d1, d2, d3] => { results := [.lit (.bool true)], args := [d1, d2, d3] }
  | _ => none }
def contactSupportsRow : OpenClaim := { program := "ytbaggkbleehegaagreat", sum := "75ba6c0b65bb389e90b01af302a0a28e2ff4004ea46073306eb780180ab5e691", func := "sherd/sherdlaw21.ContactSupports", spec := "contactSupports", unfollowed := true, recurses := true, apart := false }
def ContactSupportsSaid : Prop := contactSupportsRow.holds Tryz.pinned (OpenSpec.ofChange contactSupportsSpec)

/-- ITS FALSE NEIGHBOUR: 'it returns false'. Refute it at one input. -/
def contactSupportsWrong : ChangeSpec := { name := "contactSupports", fn := fun _ => fun
  | [d1, d2, d3] => { results := [.lit (.bool false)], args := [d1, d2, d3] }
  | _ => none }
def ContactSupportsWrongFalsely : Prop := contactSupportsRow.holds Tryz.pinned (OpenSpec.ofChange contactSupportsWrong)

/-- 'sherdlaw21.ContactSides': WHATEVER THE INPUT: true; the input reads as it did. -/
def contactSidesSpec : ChangeSpec := { name := "contactSides", fn := fun _ => fun
  | [d] => { results := [.lit (.bool true)], args := [d] }
  | _ => none }
def contactSidesRow : OpenClaim := { program := "ytbaggkbleehegaagreat", sum := "75ba6c0b65bb389e90b01af302a0a28e2ff4004ea46073306eb780180ab5e691", func := "sherd/sherdlaw21.ContactSides", spec := "contactSides", unfollowed := true, recurses := true, apart := false }
def ContactSidesSaid : Prop := contactSidesRow.holds Tryz.pinned (OpenSpec.ofChange contactSidesSpec)

/-- ITS FALSE NEIGHBOUR: 'it returns false'. Refute it at one input. -/
def contactSidesWrong : ChangeSpec := { name := "contactSides", fn := fun _ => fun
  | [d] => { results := [.lit (.bool false)], args := [d] }
  | _ => none }
def ContactSidesWrongFalsely : Prop := contactSidesRow.holds Tryz.pinned (OpenSpec.ofChange contactSidesWrong)

/- THE SECOND FORM. 'bulk': how many values and letters a reading holds, each counted each time it is reached (what is shared counts as often as it is met; a slice's spare places count too). A statement '..UptoSaid' is the law's where the arguments, and the package variables that the reading takes, are together of bulk at most 1048576: NARROWER than '..Said'. Prove '..Said' where nothing that the law and all that it calls make is longer than what came in: it says more and counts as full. Else prove '..UptoSaid'. A law counts once. -/
mutual
def uptoBulk {H : Type} : DataW H → Nat
  | .lit (.string bytes) => bytes.length + 1
  | .lit _ => 1
  | .nil => 1
  | .ptr d => uptoBulk d + 1
  | .slice elems spare => uptoBulkAll elems + uptoBulkAll spare + 1
  | .agg parts => uptoBulkAll parts + 1
  | .iface _ d => uptoBulk d + 1
  | .map entries => uptoBulkEntries entries + 1
  | .held _ => 1
def uptoBulkAll {H : Type} : List (DataW H) → Nat
  | [] => 0
  | d :: r => uptoBulk d + uptoBulkAll r
def uptoBulkEntries {H : Type} : List (Lit × DataW H) → Nat
  | [] => 0
  | x :: r => uptoBulkEntry x + uptoBulkEntries r
def uptoBulkEntry {H : Type} : Lit × DataW H → Nat
  | (.string bytes, d) => bytes.length + uptoBulk d + 1
  | (_, d) => uptoBulk d + 1
 end
def uptoSmall : (H : Type) → List (DataW H) → Bool := fun _ ds => decide (uptoBulkAll ds ≤ 1048576)
def OpenSpec.upto (s : _root_.Go.ChangeSpec) : _root_.Go.OpenSpec := { _root_.Go.OpenSpec.ofChange s with cond := some uptoSmall }

/-- 'sherdlaw21.ContactOn', WHERE WHAT IT READS IS OF BULK AT MOST 1048576: true; the input reads as it did. -/
def contactOnUptoRow : OpenClaim := { program := "ytbaggkbleehegaagreat", sum := "75ba6c0b65bb389e90b01af302a0a28e2ff4004ea46073306eb780180ab5e691", func := "sherd/sherdlaw21.ContactOn", spec := "contactOn", unfollowed := true, recurses := true, apart := false, narrowed := true }
def ContactOnUptoSaid : Prop := contactOnUptoRow.holds Tryz.pinned (OpenSpec.upto contactOnSpec)

/-- 'sherdlaw21.ContactTouches', WHERE WHAT IT READS IS OF BULK AT MOST 1048576: true; the input reads as it did. -/
def contactTouchesUptoRow : OpenClaim := { program := "ytbaggkbleehegaagreat", sum := "75ba6c0b65bb389e90b01af302a0a28e2ff4004ea46073306eb780180ab5e691", func := "sherd/sherdlaw21.ContactTouches", spec := "contactTouches", unfollowed := true, recurses := true, apart := false, narrowed := true }
def ContactTouchesUptoSaid : Prop := contactTouchesUptoRow.holds Tryz.pinned (OpenSpec.upto contactTouchesSpec)

/-- 'sherdlaw21.ContactBodies', WHERE WHAT IT READS IS OF BULK AT MOST 1048576: true; the input reads as it did. -/
def contactBodiesUptoRow : OpenClaim := { program := "ytbaggkbleehegaagreat", sum := "75ba6c0b65bb389e90b01af302a0a28e2ff4004ea46073306eb780180ab5e691", func := "sherd/sherdlaw21.ContactBodies", spec := "contactBodies", unfollowed := true, recurses := true, apart := false, narrowed := true }
def ContactBodiesUptoSaid : Prop := contactBodiesUptoRow.holds Tryz.pinned (OpenSpec.upto contactBodiesSpec)

/-- 'sherdlaw21.ContactMoved', WHERE WHAT IT READS IS OF BULK AT MOST 1048576: true; the input reads as it did. -/
def contactMovedUptoRow : OpenClaim := { program := "ytbaggkbleehegaagreat", sum := "75ba6c0b65bb389e90b01af302a0a28e2ff4004ea46073306eb780180ab5e691", func := "sherd/sherdlaw21.ContactMoved", spec := "contactMoved", unfollowed := true, recurses := true, apart := false, narrowed := true }
def ContactMovedUptoSaid : Prop := contactMovedUptoRow.holds Tryz.pinned (OpenSpec.upto contactMovedSpec)

/-- 'sherdlaw21.ContactWeights', WHERE WHAT IT READS IS OF BULK AT MOST 1048576: true; the input reads as it did. -/
def contactWeightsUptoRow : OpenClaim := { program := "ytbaggkbleehegaagreat", sum := "75ba6c0b65bb389e90b01af302a0a28e2ff4004ea46073306eb780180ab5e691", func := "sherd/sherdlaw21.ContactWeights", spec := "contactWeights", unfollowed := true, recurses := true, apart := false, narrowed := true }
def ContactWeightsUptoSaid : Prop := contactWeightsUptoRow.holds Tryz.pinned (OpenSpec.upto contactWeightsSpec)

/-- 'sherdlaw21.ContactSupports', WHERE WHAT IT READS IS OF BULK AT MOST 1048576: true; the input reads as it did. -/
def contactSupportsUptoRow : OpenClaim := { program := "ytbaggkbleehegaagreat", sum := "75ba6c0b65bb389e90b01af302a0a28e2ff4004ea46073306eb780180ab5e691", func := "sherd/sherdlaw21.ContactSupports", spec := "contactSupports", unfollowed := true, recurses := true, apart := false, narrowed := true }
def ContactSupportsUptoSaid : Prop := contactSupportsUptoRow.holds Tryz.pinned (OpenSpec.upto contactSupportsSpec)

/-- 'sherdlaw21.ContactSides', WHERE WHAT IT READS IS OF BULK AT MOST 1048576: true; the input reads as it did. -/
def contactSidesUptoRow : OpenClaim := { program := "ytbaggkbleehegaagreat", sum := "75ba6c0b65bb389e90b01af302a0a28e2ff4004ea46073306eb780180ab5e691", func := "sherd/sherdlaw21.ContactSides", spec := "contactSides", unfollowed := true, recurses := true, apart := false, narrowed := true }
def ContactSidesUptoSaid : Prop := contactSidesUptoRow.holds Tryz.pinned (OpenSpec.upto contactSidesSpec)

end Rows
end Go.Proofs.YtbaggkbleehegaaGreat
