/-
 THE LAW PolygonBegins, its arguments as they come in.
-/
import Derived.Test.YtcfejkpadcccbaaGreatLawE
import Derived.Test.YtcfejkpadcccbaaGreatEnBg
namespace Go.Proofs.YtcfejkpadcccbaaGreat
open Go.RowKit
theorem law_bgn (A0 : Option Addr) (len0 cap0 : Nat) (l0 : List Int) (A1 : Option Addr) (len1 cap1 : Nat) (l1 : List Int) (n2 : Int) (w : World) (h0 : IsI w A0 len0 cap0 l0) (h1 : IsI w A1 len1 cap1 l1) (h2 : W.Is64 n2) :
  Calls Tryz.prog 8 #[.slice A0 len0 cap0, .slice A1 len1 cap1, .int .i64 n2] w fun e w' => e = .returned (.bool true) ∧ Below w.heap.size w w' :=
 E.lawG (us := [.slice A0 len0 cap0, .slice A1 len1 cap1, .int .i64 n2]) (E.l_begins h0.2.2.2.2 h1.2.2.2.2 h2) rfl (E.all3 (E.rep_zl h0) (E.rep_zl h1) (.k _ _))
end Go.Proofs.YtcfejkpadcccbaaGreat
