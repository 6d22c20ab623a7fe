/-
  NARROWER THAN 'FOR EVERY INPUT', by the rows' own cells (each row's printed sentence says how): ArchiveOrders: laid · ArchiveMerges: laid.
  DERIVED. THE GIVEN ROWS OF THIS SEAT. 2 by the template 'for every input the law returns true; each argument reads behind the call as it read before'; 0 by the template 'total and deterministic' (their statements: YtfdfbenejkmnlaaGreatDoorTotals.lean).
  GIVEN WITH THE SEED: the statements are not yours to turn. If you find one false, say at which input.
  Laid BY PROGRAM, IN A SANDBOX (cutbox-rows.mjs): the forced cells as the released guide's own fill.sh prints them over the translation bfc18e429c3b16a5… (all of the seat's roots in one cut). By AI agents, Wed Nov 11 2026. No macro, syntax, notation, axiom, sorry.
-/
import Derived.Test.YtfdfbenejkmnlaaGreatDoorChecked
import GoSem.Claim
import GoSem.ClaimJoined
import GoSem.ClaimMapViews
import Derived.JoinedTies
import Derived.KernelRfl
namespace Go.Proofs.YtfdfbenejkmnlaaGreatDoor
/- THE CELL 'sum', in the pinned program and in every row, IS THE sha256 OF THE DUMP (.gsa) THAT YtfdfbenejkmnlaaGreatDoorProg.lean LOADS. Nothing in Lean hashes anything: it is a label: what it is worth is what the hold of that sum in a sandbox is worth. -/
noncomputable def Tryz.pinned : Pinned := { name := "ytfdfbenejkmnlaagreatdoor", sum := "bfc18e429c3b16a52294b0bcac6c4aacfe70a158b799bcdd4965bee17eae56c3", checked := Tryz.checked }
namespace Rows
def none {H : Type} : Left H := { results := [], args := [] }

/- WHAT THE LISTED PACKAGE-LEVEL VARIABLES READ AS WHEN THE CALL BEGINS. Each datum BY PROGRAM (the guide's laid-datum.mjs) off the statement by which the dump's own 'gosem.cut.vars' lays the variable. In a bare row this is a premise. The card (YtfdfbenejkmnlaaGreatDoorCards.lean) ties it to the program's text. -/
def laid_sherd_hash_constants {H : Type} : DataW H := .agg [.lit (.int .u32 1116352408), .lit (.int .u32 1899447441), .lit (.int .u32 3049323471), .lit (.int .u32 3921009573), .lit (.int .u32 961987163), .lit (.int .u32 1508970993), .lit (.int .u32 2453635748), .lit (.int .u32 2870763221), .lit (.int .u32 3624381080), .lit (.int .u32 310598401), .lit (.int .u32 607225278), .lit (.int .u32 1426881987), .lit (.int .u32 1925078388), .lit (.int .u32 2162078206), .lit (.int .u32 2614888103), .lit (.int .u32 3248222580), .lit (.int .u32 3835390401), .lit (.int .u32 4022224774), .lit (.int .u32 264347078), .lit (.int .u32 604807628), .lit (.int .u32 770255983), .lit (.int .u32 1249150122), .lit (.int .u32 1555081692), .lit (.int .u32 1996064986), .lit (.int .u32 2554220882), .lit (.int .u32 2821834349), .lit (.int .u32 2952996808), .lit (.int .u32 3210313671), .lit (.int .u32 3336571891), .lit (.int .u32 3584528711), .lit (.int .u32 113926993), .lit (.int .u32 338241895), .lit (.int .u32 666307205), .lit (.int .u32 773529912), .lit (.int .u32 1294757372), .lit (.int .u32 1396182291), .lit (.int .u32 1695183700), .lit (.int .u32 1986661051), .lit (.int .u32 2177026350), .lit (.int .u32 2456956037), .lit (.int .u32 2730485921), .lit (.int .u32 2820302411), .lit (.int .u32 3259730800), .lit (.int .u32 3345764771), .lit (.int .u32 3516065817), .lit (.int .u32 3600352804), .lit (.int .u32 4094571909), .lit (.int .u32 275423344), .lit (.int .u32 430227734), .lit (.int .u32 506948616), .lit (.int .u32 659060556), .lit (.int .u32 883997877), .lit (.int .u32 958139571), .lit (.int .u32 1322822218), .lit (.int .u32 1537002063), .lit (.int .u32 1747873779), .lit (.int .u32 1955562222), .lit (.int .u32 2024104815), .lit (.int .u32 2227730452), .lit (.int .u32 2361852424), .lit (.int .u32 2428436474), .lit (.int .u32 2756734187), .lit (.int .u32 3204031479), .lit (.int .u32 3329325298)]
def laid_sherd_claim_needs {H : Type} : DataW H := .agg [.agg [.lit (.int .i64 0), .lit (.int .i64 0), .lit (.bool false), .lit (.bool true)], .agg [.lit (.int .i64 1), .lit (.int .i64 16), .lit (.bool true), .lit (.bool false)], .agg [.lit (.int .i64 2), .lit (.int .i64 16), .lit (.bool false), .lit (.bool false)], .agg [.lit (.int .i64 1), .lit (.int .i64 16), .lit (.bool false), .lit (.bool false)]]

/-- 'sherdlaw40.ArchiveOrders': WHATEVER THE INPUT: true; the input reads as it did. -/
def archiveOrdersSpec : ChangeSpec := { name := "archiveOrders", fn := fun _ => fun
  | [d1, d2] => { results := [.lit (.bool true)], args := [d1, d2] }
  | _ => none }
def archiveOrdersRow : OpenClaim := { program := "ytfdfbenejkmnlaagreatdoor", sum := "bfc18e429c3b16a52294b0bcac6c4aacfe70a158b799bcdd4965bee17eae56c3", func := "sherd/sherdlaw40.ArchiveOrders", spec := "archiveOrders", inPlace := ["internal/bytealg.Compare"], unfollowed := true, recurses := true, named := ["sherd/claim.needs", "sherd/hash.constants"], plainKeys := false, apart := false, laid := [("sherd/hash.constants", laid_sherd_hash_constants), ("sherd/claim.needs", laid_sherd_claim_needs)] }
def ArchiveOrdersSaid : Prop := archiveOrdersRow.holds Tryz.pinned (OpenSpec.ofChange archiveOrdersSpec)

/-- ITS FALSE NEIGHBOUR: 'it returns false'. Refute it at one input. -/
def archiveOrdersWrong : ChangeSpec := { name := "archiveOrders", fn := fun _ => fun
  | [d1, d2] => { results := [.lit (.bool false)], args := [d1, d2] }
  | _ => none }
def ArchiveOrdersWrongFalsely : Prop := archiveOrdersRow.holds Tryz.pinned (OpenSpec.ofChange archiveOrdersWrong)

/-- 'sherdlaw40.ArchiveMerges': WHATEVER THE INPUT: true; the input reads as it did. -/
def archiveMergesSpec : ChangeSpec := { name := "archiveMerges", fn := fun _ => fun
  | [d1, d2, d3] => { results := [.lit (.bool true)], args := [d1, d2, d3] }
  | _ => none }
def archiveMergesRow : OpenClaim := { program := "ytfdfbenejkmnlaagreatdoor", sum := "bfc18e429c3b16a52294b0bcac6c4aacfe70a158b799bcdd4965bee17eae56c3", func := "sherd/sherdlaw40.ArchiveMerges", spec := "archiveMerges", inPlace := ["internal/bytealg.Compare"], unfollowed := true, recurses := true, named := ["sherd/claim.needs", "sherd/hash.constants"], plainKeys := false, apart := false, laid := [("sherd/hash.constants", laid_sherd_hash_constants), ("sherd/claim.needs", laid_sherd_claim_needs)] }
def ArchiveMergesSaid : Prop := archiveMergesRow.holds Tryz.pinned (OpenSpec.ofChange archiveMergesSpec)

/-- ITS FALSE NEIGHBOUR: 'it returns false'. Refute it at one input. -/
def archiveMergesWrong : ChangeSpec := { name := "archiveMerges", fn := fun _ => fun
  | [d1, d2, d3] => { results := [.lit (.bool false)], args := [d1, d2, d3] }
  | _ => none }
def ArchiveMergesWrongFalsely : Prop := archiveMergesRow.holds Tryz.pinned (OpenSpec.ofChange archiveMergesWrong)

/- THE SECOND FORM. 'bulk': how many values and letters a reading holds, each counted each time it is reached (what is shared counts as often as it is met; a slice's spare places count too). A statement '..UptoSaid' is the law's where the arguments, and the package variables that the reading takes, are together of bulk at most 1048576: NARROWER than '..Said'. Prove '..Said' where nothing that the law and all that it calls make is longer than what came in: it says more and counts as full. Else prove '..UptoSaid'. A law counts once. -/
mutual
def uptoBulk {H : Type} : DataW H → Nat
  | .lit (.string bytes) => bytes.length + 1
  | .lit _ => 1
  | .nil => 1
  | .ptr d => uptoBulk d + 1
  | .slice elems spare => uptoBulkAll elems + uptoBulkAll spare + 1
  | .agg parts => uptoBulkAll parts + 1
  | .iface _ d => uptoBulk d + 1
  | .map entries => uptoBulkEntries entries + 1
  | .held _ => 1
def uptoBulkAll {H : Type} : List (DataW H) → Nat
  | [] => 0
  | d :: r => uptoBulk d + uptoBulkAll r
def uptoBulkEntries {H : Type} : List (Lit × DataW H) → Nat
  | [] => 0
  | x :: r => uptoBulkEntry x + uptoBulkEntries r
def uptoBulkEntry {H : Type} : Lit × DataW H → Nat
  | (.string bytes, d) => bytes.length + uptoBulk d + 1
  | (_, d) => uptoBulk d + 1
 end
def uptoSmall : (H : Type) → List (DataW H) → Bool := fun _ ds => decide (uptoBulkAll ds ≤ 1048576)
def OpenSpec.upto (s : _root_.Go.ChangeSpec) : _root_.Go.OpenSpec := { _root_.Go.OpenSpec.ofChange s with cond := some uptoSmall }

/-- 'sherdlaw40.ArchiveOrders', WHERE WHAT IT READS IS OF BULK AT MOST 1048576: true; the input reads as it did. -/
def archiveOrdersUptoRow : OpenClaim := { program := "ytfdfbenejkmnlaagreatdoor", sum := "bfc18e429c3b16a52294b0bcac6c4aacfe70a158b799bcdd4965bee17eae56c3", func := "sherd/sherdlaw40.ArchiveOrders", spec := "archiveOrders", inPlace := ["internal/bytealg.Compare"], unfollowed := true, recurses := true, named := ["sherd/claim.needs", "sherd/hash.constants"], plainKeys := false, apart := false, laid := [("sherd/hash.constants", laid_sherd_hash_constants), ("sherd/claim.needs", laid_sherd_claim_needs)], narrowed := true }
def ArchiveOrdersUptoSaid : Prop := archiveOrdersUptoRow.holds Tryz.pinned (OpenSpec.upto archiveOrdersSpec)

/-- 'sherdlaw40.ArchiveMerges', WHERE WHAT IT READS IS OF BULK AT MOST 1048576: true; the input reads as it did. -/
def archiveMergesUptoRow : OpenClaim := { program := "ytfdfbenejkmnlaagreatdoor", sum := "bfc18e429c3b16a52294b0bcac6c4aacfe70a158b799bcdd4965bee17eae56c3", func := "sherd/sherdlaw40.ArchiveMerges", spec := "archiveMerges", inPlace := ["internal/bytealg.Compare"], unfollowed := true, recurses := true, named := ["sherd/claim.needs", "sherd/hash.constants"], plainKeys := false, apart := false, laid := [("sherd/hash.constants", laid_sherd_hash_constants), ("sherd/claim.needs", laid_sherd_claim_needs)], narrowed := true }
def ArchiveMergesUptoSaid : Prop := archiveMergesUptoRow.holds Tryz.pinned (OpenSpec.upto archiveMergesSpec)

end Rows
end Go.Proofs.YtfdfbenejkmnlaaGreatDoor
