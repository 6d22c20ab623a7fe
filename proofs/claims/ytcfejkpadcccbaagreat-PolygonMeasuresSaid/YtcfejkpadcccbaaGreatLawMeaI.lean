/-
 THE LAW PolygonMeasures, its arguments as they come in.
-/
import Derived.Test.YtcfejkpadcccbaaGreatLawE
import Derived.Test.YtcfejkpadcccbaaGreatEnMs
namespace Go.Proofs.YtcfejkpadcccbaaGreat
open Go.RowKit
theorem law_mea (A0 : Option Addr) (len0 cap0 : Nat) (l0 : List Int) (A1 : Option Addr) (len1 cap1 : Nat) (l1 : List Int) (n2 : Int) (n3 : Int) (w : World) (h0 : IsI w A0 len0 cap0 l0) (h1 : IsI w A1 len1 cap1 l1) (h2 : W.Is64 n2) (h3 : W.Is64 n3) :
  Calls Tryz.prog 4 #[.slice A0 len0 cap0, .slice A1 len1 cap1, .int .i64 n2, .int .i64 n3] w fun e w' => e = .returned (.bool true) ∧ Below w.heap.size w w' :=
 E.lawG (us := [.slice A0 len0 cap0, .slice A1 len1 cap1, .int .i64 n2, .int .i64 n3]) (E.l_measures h0.2.2.2.2 h1.2.2.2.2 h2 h3) rfl (E.all4 (E.rep_zl h0) (E.rep_zl h1) (.k _ _) (.k _ _))
end Go.Proofs.YtcfejkpadcccbaaGreat
