/-
 THE LAW PolygonParts, its arguments as they come in.
-/
import Derived.Test.YtcfejkpadcccbaaGreatLawE
import Derived.Test.YtcfejkpadcccbaaGreatEnPt
namespace Go.Proofs.YtcfejkpadcccbaaGreat
open Go.RowKit
theorem law_pts (A0 : Option Addr) (len0 cap0 : Nat) (l0 : List Int) (n1 : Int) (n2 : Int) (n3 : Int) (n4 : Int) (w : World) (h0 : IsI w A0 len0 cap0 l0) (h1 : W.Is64 n1) (h2 : W.Is64 n2) (h3 : W.Is64 n3) (h4 : W.Is64 n4) :
  Calls Tryz.prog 7 #[.slice A0 len0 cap0, .int .i64 n1, .int .i64 n2, .int .i64 n3, .int .i64 n4] w fun e w' => e = .returned (.bool true) ∧ Below w.heap.size w w' :=
 E.lawG (us := [.slice A0 len0 cap0, .int .i64 n1, .int .i64 n2, .int .i64 n3, .int .i64 n4]) (E.l_parts h0.2.2.2.2 h1 h2 h3 h4) rfl (E.all5 (E.rep_zl h0) (.k _ _) (.k _ _) (.k _ _) (.k _ _))
end Go.Proofs.YtcfejkpadcccbaaGreat
