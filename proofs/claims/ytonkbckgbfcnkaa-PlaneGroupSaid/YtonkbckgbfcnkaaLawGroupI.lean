/-
 THE LAW PlaneGroup, its arguments as they come in.
-/
import Derived.Test.YtonkbckgbfcnkaaLawGroup
import Derived.Test.YtonkbckgbfcnkaaOpenI
namespace Go.Proofs.Ytonkbckgbfcnkaa
open Go.RowKit
theorem law_group (A : Option Addr) (len cap : Nat) (l : List Int) (n m k : Int) (w : World) (hs : IsI w A len cap l) (hn : W.Is64 n) (hm : W.Is64 m) (hk : W.Is64 k) :
  Calls Try.prog 5 #[.slice A len cap, .int .i64 n, .int .i64 m, .int .i64 k] w fun e w' => e = .returned (.bool true) ∧ Below w.heap.size w w' :=
 group_walk _ l n m k w ⟨A, len, cap, rfl, hs.2.1, hs.2.2.1, hs.2.2.2.1, hs.1⟩ hs.2.2.2.2 hn hm hk
end Go.Proofs.Ytonkbckgbfcnkaa
