/-
 THE LAW PolygonMeets, its arguments as they come in.
-/
import Derived.Test.YtcfejkpadcccbaaGreatLawE
import Derived.Test.YtcfejkpadcccbaaGreatEnY
namespace Go.Proofs.YtcfejkpadcccbaaGreat
open Go.RowKit
theorem law_mts (A0 : Option Addr) (len0 cap0 : Nat) (l0 : List Int) (A1 : Option Addr) (len1 cap1 : Nat) (l1 : List Int) (w : World) (h0 : IsI w A0 len0 cap0 l0) (h1 : IsI w A1 len1 cap1 l1) :
  Calls Tryz.prog 6 #[.slice A0 len0 cap0, .slice A1 len1 cap1] w fun e w' => e = .returned (.bool true) ∧ Below w.heap.size w w' :=
 E.law2 h0 h1 E.l_meets
end Go.Proofs.YtcfejkpadcccbaaGreat
