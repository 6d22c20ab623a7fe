/-
  A region that draws its order and holds calls that make memory, but reads nothing that they make: one walk in the order of the text, at the class 'as the first world was below its heap'.
-/
import Derived.Test.YthgpgdpndionjaaMem
import Derived.Deep.QuietTactic
import Derived.BigQuiet
namespace Go.Proofs.Ythgpgdpndionjaa
open Go.RowKit

section
variable {P : Program}
/-- Nothing that was there has turned. -/
def Bel (w w' : World) : Prop := Below w.heap.size w w'
theorem Bel.out {w w' : World} (h : Bel w w') : Below w.heap.size w w' := h
theorem wp_region_quiet_bel (w : World) {id : Nat} {Q : Exit → Act → World → Prop} {a : Act} {w0 : World} {l : List Oper} (hw : Below w.heap.size w w0) (hm : P.follows .mixedOrders = true) (hB : Region.lexB .any l.toArray = true)
    (h : wpQuiet P l.toArray (Bel w) (fun a' => ∀ w', Bel w w' → Q .normal a' w') l a) : (Code.region id l.toArray true).wp P Q a w0 :=
  wp_region_quiet (C := Bel w) hm hB (show Below w.heap.size w _ from hw.drew) (by simpa using h)
theorem bel_one {w : World} {K : Act → Prop} {f : Value → Act} (v : Value) (h : K (f v)) : ∃ v', (∀ w', Bel w w' → v = v') ∧ K (f v') := ⟨v, fun _ _ => rfl, h⟩
end
end Go.Proofs.Ythgpgdpndionjaa
