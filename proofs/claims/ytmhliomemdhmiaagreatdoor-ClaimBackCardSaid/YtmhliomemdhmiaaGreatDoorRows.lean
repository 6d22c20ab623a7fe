/-
  NARROWER THAN 'FOR EVERY INPUT', by the rows' own cells (each row's printed sentence says how): ClaimValid: laid · ClaimBelieved: laid · ClaimRefuted: laid · ClaimOrder: laid · ClaimBack: laid · ClaimBytes: laid · ClaimSorts: laid · ClaimMerges: laid.
  DERIVED. THE GIVEN ROWS OF THIS SEAT. 8 by the template 'for every input the law returns true; each argument reads behind the call as it read before'; 0 by the template 'total and deterministic' (their statements: YtmhliomemdhmiaaGreatDoorTotals.lean).
  GIVEN WITH THE SEED: the statements are not yours to turn. If you find one false, say at which input.
  Laid BY PROGRAM, IN A SANDBOX (cutbox-rows.mjs): the forced cells as the released guide's own fill.sh prints them over the translation c17e8f480f7f5b7f… (all of the seat's roots in one cut). By AI agents, Wed Nov 11 2026. No macro, syntax, notation, axiom, sorry.
-/
import Derived.Test.YtmhliomemdhmiaaGreatDoorChecked
import GoSem.Claim
import GoSem.ClaimJoined
import GoSem.ClaimMapViews
import Derived.JoinedTies
import Derived.KernelRfl
namespace Go.Proofs.YtmhliomemdhmiaaGreatDoor
/- THE CELL 'sum', in the pinned program and in every row, IS THE sha256 OF THE DUMP (.gsa) THAT YtmhliomemdhmiaaGreatDoorProg.lean LOADS. Nothing in Lean hashes anything: it is a label: what it is worth is what the hold of that sum in a sandbox is worth. -/
noncomputable def Tryz.pinned : Pinned := { name := "ytmhliomemdhmiaagreatdoor", sum := "c17e8f480f7f5b7f3c01b18724c9d6fefd1081475a81e011474b819cc958f736", checked := Tryz.checked }
namespace Rows
def none {H : Type} : Left H := { results := [], args := [] }

/- WHAT THE LISTED PACKAGE-LEVEL VARIABLES READ AS WHEN THE CALL BEGINS. Each datum BY PROGRAM (the guide's laid-datum.mjs) off the statement by which the dump's own 'gosem.cut.vars' lays the variable. In a bare row this is a premise. The card (YtmhliomemdhmiaaGreatDoorCards.lean) ties it to the program's text. -/
def laid_sherd_claim_needs {H : Type} : DataW H := .agg [.agg [.lit (.int .i64 0), .lit (.int .i64 0), .lit (.bool false), .lit (.bool true)], .agg [.lit (.int .i64 1), .lit (.int .i64 16), .lit (.bool true), .lit (.bool false)], .agg [.lit (.int .i64 2), .lit (.int .i64 16), .lit (.bool false), .lit (.bool false)], .agg [.lit (.int .i64 1), .lit (.int .i64 16), .lit (.bool false), .lit (.bool false)]]
def laid_sherd_hash_constants {H : Type} : DataW H := .agg [.lit (.int .u32 1116352408), .lit (.int .u32 1899447441), .lit (.int .u32 3049323471), .lit (.int .u32 3921009573), .lit (.int .u32 961987163), .lit (.int .u32 1508970993), .lit (.int .u32 2453635748), .lit (.int .u32 2870763221), .lit (.int .u32 3624381080), .lit (.int .u32 310598401), .lit (.int .u32 607225278), .lit (.int .u32 1426881987), .lit (.int .u32 1925078388), .lit (.int .u32 2162078206), .lit (.int .u32 2614888103), .lit (.int .u32 3248222580), .lit (.int .u32 3835390401), .lit (.int .u32 4022224774), .lit (.int .u32 264347078), .lit (.int .u32 604807628), .lit (.int .u32 770255983), .lit (.int .u32 1249150122), .lit (.int .u32 1555081692), .lit (.int .u32 1996064986), .lit (.int .u32 2554220882), .lit (.int .u32 2821834349), .lit (.int .u32 2952996808), .lit (.int .u32 3210313671), .lit (.int .u32 3336571891), .lit (.int .u32 3584528711), .lit (.int .u32 113926993), .lit (.int .u32 338241895), .lit (.int .u32 666307205), .lit (.int .u32 773529912), .lit (.int .u32 1294757372), .lit (.int .u32 1396182291), .lit (.int .u32 1695183700), .lit (.int .u32 1986661051), .lit (.int .u32 2177026350), .lit (.int .u32 2456956037), .lit (.int .u32 2730485921), .lit (.int .u32 2820302411), .lit (.int .u32 3259730800), .lit (.int .u32 3345764771), .lit (.int .u32 3516065817), .lit (.int .u32 3600352804), .lit (.int .u32 4094571909), .lit (.int .u32 275423344), .lit (.int .u32 430227734), .lit (.int .u32 506948616), .lit (.int .u32 659060556), .lit (.int .u32 883997877), .lit (.int .u32 958139571), .lit (.int .u32 1322822218), .lit (.int .u32 1537002063), .lit (.int .u32 1747873779), .lit (.int .u32 1955562222), .lit (.int .u32 2024104815), .lit (.int .u32 2227730452), .lit (.int .u32 2361852424), .lit (.int .u32 2428436474), .lit (.int .u32 2756734187), .lit (.int .u32 3204031479), .lit (.int .u32 3329325298)]

/-- 'sherdlaw15.ClaimValid': WHATEVER THE INPUT: true; the input reads as it did. -/
def claimValidSpec : ChangeSpec := { name := "claimValid", fn := fun _ => fun
  | [d1, d2, d3, d4, d5, d6] => { results := [.lit (.bool true)], args := [d1, d2, d3, d4, d5, d6] }
  | _ => none }
def claimValidRow : OpenClaim := { program := "ytmhliomemdhmiaagreatdoor", sum := "c17e8f480f7f5b7f3c01b18724c9d6fefd1081475a81e011474b819cc958f736", func := "sherd/sherdlaw15.ClaimValid", spec := "claimValid", unfollowed := true, recurses := true, named := ["sherd/claim.needs"], apart := false, laid := [("sherd/claim.needs", laid_sherd_claim_needs)] }
def ClaimValidSaid : Prop := claimValidRow.holds Tryz.pinned (OpenSpec.ofChange claimValidSpec)

/-- ITS FALSE NEIGHBOUR: 'it returns false'. Refute it at one input. -/
def claimValidWrong : ChangeSpec := { name := "claimValid", fn := fun _ => fun
  | [d1, d2, d3, d4, d5, d6] => { results := [.lit (.bool false)], args := [d1, d2, d3, d4, d5, d6] }
  | _ => none }
def ClaimValidWrongFalsely : Prop := claimValidRow.holds Tryz.pinned (OpenSpec.ofChange claimValidWrong)

/-- 'sherdlaw15.ClaimBelieved': WHATEVER THE INPUT: true; the input reads as it did. -/
def claimBelievedSpec : ChangeSpec := { name := "claimBelieved", fn := fun _ => fun
  | [d1, d2] => { results := [.lit (.bool true)], args := [d1, d2] }
  | _ => none }
def claimBelievedRow : OpenClaim := { program := "ytmhliomemdhmiaagreatdoor", sum := "c17e8f480f7f5b7f3c01b18724c9d6fefd1081475a81e011474b819cc958f736", func := "sherd/sherdlaw15.ClaimBelieved", spec := "claimBelieved", unfollowed := true, recurses := true, named := ["sherd/claim.needs"], apart := false, laid := [("sherd/claim.needs", laid_sherd_claim_needs)] }
def ClaimBelievedSaid : Prop := claimBelievedRow.holds Tryz.pinned (OpenSpec.ofChange claimBelievedSpec)

/-- ITS FALSE NEIGHBOUR: 'it returns false'. Refute it at one input. -/
def claimBelievedWrong : ChangeSpec := { name := "claimBelieved", fn := fun _ => fun
  | [d1, d2] => { results := [.lit (.bool false)], args := [d1, d2] }
  | _ => none }
def ClaimBelievedWrongFalsely : Prop := claimBelievedRow.holds Tryz.pinned (OpenSpec.ofChange claimBelievedWrong)

/-- 'sherdlaw15.ClaimRefuted': WHATEVER THE INPUT: true; the input reads as it did. -/
def claimRefutedSpec : ChangeSpec := { name := "claimRefuted", fn := fun _ => fun
  | [d1, d2] => { results := [.lit (.bool true)], args := [d1, d2] }
  | _ => none }
def claimRefutedRow : OpenClaim := { program := "ytmhliomemdhmiaagreatdoor", sum := "c17e8f480f7f5b7f3c01b18724c9d6fefd1081475a81e011474b819cc958f736", func := "sherd/sherdlaw15.ClaimRefuted", spec := "claimRefuted", unfollowed := true, recurses := true, named := ["sherd/claim.needs"], apart := false, laid := [("sherd/claim.needs", laid_sherd_claim_needs)] }
def ClaimRefutedSaid : Prop := claimRefutedRow.holds Tryz.pinned (OpenSpec.ofChange claimRefutedSpec)

/-- ITS FALSE NEIGHBOUR: 'it returns false'. Refute it at one input. -/
def claimRefutedWrong : ChangeSpec := { name := "claimRefuted", fn := fun _ => fun
  | [d1, d2] => { results := [.lit (.bool false)], args := [d1, d2] }
  | _ => none }
def ClaimRefutedWrongFalsely : Prop := claimRefutedRow.holds Tryz.pinned (OpenSpec.ofChange claimRefutedWrong)

/-- 'sherdlaw15.ClaimOrder': WHATEVER THE INPUT: true; the input reads as it did. -/
def claimOrderSpec : ChangeSpec := { name := "claimOrder", fn := fun _ => fun
  | [d1, d2, d3] => { results := [.lit (.bool true)], args := [d1, d2, d3] }
  | _ => none }
def claimOrderRow : OpenClaim := { program := "ytmhliomemdhmiaagreatdoor", sum := "c17e8f480f7f5b7f3c01b18724c9d6fefd1081475a81e011474b819cc958f736", func := "sherd/sherdlaw15.ClaimOrder", spec := "claimOrder", unfollowed := true, recurses := true, named := ["sherd/claim.needs"], apart := false, laid := [("sherd/claim.needs", laid_sherd_claim_needs)] }
def ClaimOrderSaid : Prop := claimOrderRow.holds Tryz.pinned (OpenSpec.ofChange claimOrderSpec)

/-- ITS FALSE NEIGHBOUR: 'it returns false'. Refute it at one input. -/
def claimOrderWrong : ChangeSpec := { name := "claimOrder", fn := fun _ => fun
  | [d1, d2, d3] => { results := [.lit (.bool false)], args := [d1, d2, d3] }
  | _ => none }
def ClaimOrderWrongFalsely : Prop := claimOrderRow.holds Tryz.pinned (OpenSpec.ofChange claimOrderWrong)

/-- 'sherdlaw15.ClaimBack': WHATEVER THE INPUT: true; the input reads as it did. -/
def claimBackSpec : ChangeSpec := { name := "claimBack", fn := fun _ => fun
  | [d1, d2, d3, d4] => { results := [.lit (.bool true)], args := [d1, d2, d3, d4] }
  | _ => none }
def claimBackRow : OpenClaim := { program := "ytmhliomemdhmiaagreatdoor", sum := "c17e8f480f7f5b7f3c01b18724c9d6fefd1081475a81e011474b819cc958f736", func := "sherd/sherdlaw15.ClaimBack", spec := "claimBack", unfollowed := true, recurses := true, named := ["sherd/claim.needs"], apart := false, laid := [("sherd/claim.needs", laid_sherd_claim_needs)] }
def ClaimBackSaid : Prop := claimBackRow.holds Tryz.pinned (OpenSpec.ofChange claimBackSpec)

/-- ITS FALSE NEIGHBOUR: 'it returns false'. Refute it at one input. -/
def claimBackWrong : ChangeSpec := { name := "claimBack", fn := fun _ => fun
  | [d1, d2, d3, d4] => { results := [.lit (.bool false)], args := [d1, d2, d3, d4] }
  | _ => none }
def ClaimBackWrongFalsely : Prop := claimBackRow.holds Tryz.pinned (OpenSpec.ofChange claimBackWrong)

/-- 'sherdlaw15.ClaimBytes': WHATEVER THE INPUT: true; the input reads as it did. -/
def claimBytesSpec : ChangeSpec := { name := "claimBytes", fn := fun _ => fun
  | [d1, d2, d3, d4] => { results := [.lit (.bool true)], args := [d1, d2, d3, d4] }
  | _ => none }
def claimBytesRow : OpenClaim := { program := "ytmhliomemdhmiaagreatdoor", sum := "c17e8f480f7f5b7f3c01b18724c9d6fefd1081475a81e011474b819cc958f736", func := "sherd/sherdlaw15.ClaimBytes", spec := "claimBytes", unfollowed := true, recurses := true, named := ["sherd/hash.constants", "sherd/claim.needs"], apart := false, laid := [("sherd/hash.constants", laid_sherd_hash_constants), ("sherd/claim.needs", laid_sherd_claim_needs)] }
def ClaimBytesSaid : Prop := claimBytesRow.holds Tryz.pinned (OpenSpec.ofChange claimBytesSpec)

/-- ITS FALSE NEIGHBOUR: 'it returns false'. Refute it at one input. -/
def claimBytesWrong : ChangeSpec := { name := "claimBytes", fn := fun _ => fun
  | [d1, d2, d3, d4] => { results := [.lit (.bool false)], args := [d1, d2, d3, d4] }
  | _ => none }
def ClaimBytesWrongFalsely : Prop := claimBytesRow.holds Tryz.pinned (OpenSpec.ofChange claimBytesWrong)

/-- 'sherdlaw15.ClaimSorts': WHATEVER THE INPUT: true; the input reads as it did. -/
def claimSortsSpec : ChangeSpec := { name := "claimSorts", fn := fun _ => fun
  | [d1, d2, d3] => { results := [.lit (.bool true)], args := [d1, d2, d3] }
  | _ => none }
def claimSortsRow : OpenClaim := { program := "ytmhliomemdhmiaagreatdoor", sum := "c17e8f480f7f5b7f3c01b18724c9d6fefd1081475a81e011474b819cc958f736", func := "sherd/sherdlaw15.ClaimSorts", spec := "claimSorts", inPlace := ["internal/bytealg.Compare"], unfollowed := true, recurses := true, named := ["sherd/claim.needs"], apart := false, laid := [("sherd/claim.needs", laid_sherd_claim_needs)] }
def ClaimSortsSaid : Prop := claimSortsRow.holds Tryz.pinned (OpenSpec.ofChange claimSortsSpec)

/-- ITS FALSE NEIGHBOUR: 'it returns false'. Refute it at one input. -/
def claimSortsWrong : ChangeSpec := { name := "claimSorts", fn := fun _ => fun
  | [d1, d2, d3] => { results := [.lit (.bool false)], args := [d1, d2, d3] }
  | _ => none }
def ClaimSortsWrongFalsely : Prop := claimSortsRow.holds Tryz.pinned (OpenSpec.ofChange claimSortsWrong)

/-- 'sherdlaw15.ClaimMerges': WHATEVER THE INPUT: true; the input reads as it did. -/
def claimMergesSpec : ChangeSpec := { name := "claimMerges", fn := fun _ => fun
  | [d1, d2, d3] => { results := [.lit (.bool true)], args := [d1, d2, d3] }
  | _ => none }
def claimMergesRow : OpenClaim := { program := "ytmhliomemdhmiaagreatdoor", sum := "c17e8f480f7f5b7f3c01b18724c9d6fefd1081475a81e011474b819cc958f736", func := "sherd/sherdlaw15.ClaimMerges", spec := "claimMerges", inPlace := ["internal/bytealg.Compare"], unfollowed := true, recurses := true, named := ["sherd/claim.needs"], apart := false, laid := [("sherd/claim.needs", laid_sherd_claim_needs)] }
def ClaimMergesSaid : Prop := claimMergesRow.holds Tryz.pinned (OpenSpec.ofChange claimMergesSpec)

/-- ITS FALSE NEIGHBOUR: 'it returns false'. Refute it at one input. -/
def claimMergesWrong : ChangeSpec := { name := "claimMerges", fn := fun _ => fun
  | [d1, d2, d3] => { results := [.lit (.bool false)], args := [d1, d2, d3] }
  | _ => none }
def ClaimMergesWrongFalsely : Prop := claimMergesRow.holds Tryz.pinned (OpenSpec.ofChange claimMergesWrong)

/- THE SECOND FORM. 'bulk': how many values and letters a reading holds, each counted each time it is reached (what is shared counts as often as it is met; a slice's spare places count too). A statement '..UptoSaid' is the law's where the arguments, and the package variables that the reading takes, are together of bulk at most 1048576: NARROWER than '..Said'. Prove '..Said' where nothing that the law and all that it calls make is longer than what came in: it says more and counts as full. Else prove '..UptoSaid'. A law counts once. -/
mutual
def uptoBulk {H : Type} : DataW H → Nat
  | .lit (.string bytes) => bytes.length + 1
  | .lit _ => 1
  | .nil => 1
  | .ptr d => uptoBulk d + 1
  | .slice elems spare => uptoBulkAll elems + uptoBulkAll spare + 1
  | .agg parts => uptoBulkAll parts + 1
  | .iface _ d => uptoBulk d + 1
  | .map entries => uptoBulkEntries entries + 1
  | .held _ => 1
def uptoBulkAll {H : Type} : List (DataW H) → Nat
  | [] => 0
  | d :: r => uptoBulk d + uptoBulkAll r
def uptoBulkEntries {H : Type} : List (Lit × DataW H) → Nat
  | [] => 0
  | x :: r => uptoBulkEntry x + uptoBulkEntries r
def uptoBulkEntry {H : Type} : Lit × DataW H → Nat
  | (.string bytes, d) => bytes.length + uptoBulk d + 1
  | (_, d) => uptoBulk d + 1
 end
def uptoSmall : (H : Type) → List (DataW H) → Bool := fun _ ds => decide (uptoBulkAll ds ≤ 1048576)
def OpenSpec.upto (s : _root_.Go.ChangeSpec) : _root_.Go.OpenSpec := { _root_.Go.OpenSpec.ofChange s with cond := some uptoSmall }

/-- 'sherdlaw15.ClaimValid', WHERE WHAT IT READS IS OF BULK AT MOST 1048576: true; the input reads as it did. -/
def claimValidUptoRow : OpenClaim := { program := "ytmhliomemdhmiaagreatdoor", sum := "c17e8f480f7f5b7f3c01b18724c9d6fefd1081475a81e011474b819cc958f736", func := "sherd/sherdlaw15.ClaimValid", spec := "claimValid", unfollowed := true, recurses := true, named := ["sherd/claim.needs"], apart := false, laid := [("sherd/claim.needs", laid_sherd_claim_needs)], narrowed := true }
def ClaimValidUptoSaid : Prop := claimValidUptoRow.holds Tryz.pinned (OpenSpec.upto claimValidSpec)

/-- 'sherdlaw15.ClaimBelieved', WHERE WHAT IT READS IS OF BULK AT MOST 1048576: true; the input reads as it did. -/
def claimBelievedUptoRow : OpenClaim := { program := "ytmhliomemdhmiaagreatdoor", sum := "c17e8f480f7f5b7f3c01b18724c9d6fefd1081475a81e011474b819cc958f736", func := "sherd/sherdlaw15.ClaimBelieved", spec := "claimBelieved", unfollowed := true, recurses := true, named := ["sherd/claim.needs"], apart := false, laid := [("sherd/claim.needs", laid_sherd_claim_needs)], narrowed := true }
def ClaimBelievedUptoSaid : Prop := claimBelievedUptoRow.holds Tryz.pinned (OpenSpec.upto claimBelievedSpec)

/-- 'sherdlaw15.ClaimRefuted', WHERE WHAT IT READS IS OF BULK AT MOST 1048576: true; the input reads as it did. -/
def claimRefutedUptoRow : OpenClaim := { program := "ytmhliomemdhmiaagreatdoor", sum := "c17e8f480f7f5b7f3c01b18724c9d6fefd1081475a81e011474b819cc958f736", func := "sherd/sherdlaw15.ClaimRefuted", spec := "claimRefuted", unfollowed := true, recurses := true, named := ["sherd/claim.needs"], apart := false, laid := [("sherd/claim.needs", laid_sherd_claim_needs)], narrowed := true }
def ClaimRefutedUptoSaid : Prop := claimRefutedUptoRow.holds Tryz.pinned (OpenSpec.upto claimRefutedSpec)

/-- 'sherdlaw15.ClaimOrder', WHERE WHAT IT READS IS OF BULK AT MOST 1048576: true; the input reads as it did. -/
def claimOrderUptoRow : OpenClaim := { program := "ytmhliomemdhmiaagreatdoor", sum := "c17e8f480f7f5b7f3c01b18724c9d6fefd1081475a81e011474b819cc958f736", func := "sherd/sherdlaw15.ClaimOrder", spec := "claimOrder", unfollowed := true, recurses := true, named := ["sherd/claim.needs"], apart := false, laid := [("sherd/claim.needs", laid_sherd_claim_needs)], narrowed := true }
def ClaimOrderUptoSaid : Prop := claimOrderUptoRow.holds Tryz.pinned (OpenSpec.upto claimOrderSpec)

/-- 'sherdlaw15.ClaimBack', WHERE WHAT IT READS IS OF BULK AT MOST 1048576: true; the input reads as it did. -/
def claimBackUptoRow : OpenClaim := { program := "ytmhliomemdhmiaagreatdoor", sum := "c17e8f480f7f5b7f3c01b18724c9d6fefd1081475a81e011474b819cc958f736", func := "sherd/sherdlaw15.ClaimBack", spec := "claimBack", unfollowed := true, recurses := true, named := ["sherd/claim.needs"], apart := false, laid := [("sherd/claim.needs", laid_sherd_claim_needs)], narrowed := true }
def ClaimBackUptoSaid : Prop := claimBackUptoRow.holds Tryz.pinned (OpenSpec.upto claimBackSpec)

/-- 'sherdlaw15.ClaimBytes', WHERE WHAT IT READS IS OF BULK AT MOST 1048576: true; the input reads as it did. -/
def claimBytesUptoRow : OpenClaim := { program := "ytmhliomemdhmiaagreatdoor", sum := "c17e8f480f7f5b7f3c01b18724c9d6fefd1081475a81e011474b819cc958f736", func := "sherd/sherdlaw15.ClaimBytes", spec := "claimBytes", unfollowed := true, recurses := true, named := ["sherd/hash.constants", "sherd/claim.needs"], apart := false, laid := [("sherd/hash.constants", laid_sherd_hash_constants), ("sherd/claim.needs", laid_sherd_claim_needs)], narrowed := true }
def ClaimBytesUptoSaid : Prop := claimBytesUptoRow.holds Tryz.pinned (OpenSpec.upto claimBytesSpec)

/-- 'sherdlaw15.ClaimSorts', WHERE WHAT IT READS IS OF BULK AT MOST 1048576: true; the input reads as it did. -/
def claimSortsUptoRow : OpenClaim := { program := "ytmhliomemdhmiaagreatdoor", sum := "c17e8f480f7f5b7f3c01b18724c9d6fefd1081475a81e011474b819cc958f736", func := "sherd/sherdlaw15.ClaimSorts", spec := "claimSorts", inPlace := ["internal/bytealg.Compare"], unfollowed := true, recurses := true, named := ["sherd/claim.needs"], apart := false, laid := [("sherd/claim.needs", laid_sherd_claim_needs)], narrowed := true }
def ClaimSortsUptoSaid : Prop := claimSortsUptoRow.holds Tryz.pinned (OpenSpec.upto claimSortsSpec)

/-- 'sherdlaw15.ClaimMerges', WHERE WHAT IT READS IS OF BULK AT MOST 1048576: true; the input reads as it did. -/
def claimMergesUptoRow : OpenClaim := { program := "ytmhliomemdhmiaagreatdoor", sum := "c17e8f480f7f5b7f3c01b18724c9d6fefd1081475a81e011474b819cc958f736", func := "sherd/sherdlaw15.ClaimMerges", spec := "claimMerges", inPlace := ["internal/bytealg.Compare"], unfollowed := true, recurses := true, named := ["sherd/claim.needs"], apart := false, laid := [("sherd/claim.needs", laid_sherd_claim_needs)], narrowed := true }
def ClaimMergesUptoSaid : Prop := claimMergesUptoRow.holds Tryz.pinned (OpenSpec.upto claimMergesSpec)

end Rows
end Go.Proofs.YtmhliomemdhmiaaGreatDoor
