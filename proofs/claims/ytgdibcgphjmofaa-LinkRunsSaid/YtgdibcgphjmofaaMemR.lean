/-
 RATIONAL NUMBERS IN MEMORY: four cells; Lean's own Rat.
-/
import Derived.Test.YtgdibcgphjmofaaRowI
namespace Go.Proofs.Ytgdibcgphjmofaa
open Go.RowKit
/-- The denominator as it is kept: 0 where it is 1. -/
def dq (r : Rat) : Int := if r.den = 1 then 0 else r.den
theorem dq_one {r : Rat} (h : r.den = 1) : dq r = 0 := by unfold dq; rw [if_pos h]
theorem dq_more {r : Rat} (h : r.den ≠ 1) : dq r = r.den := by unfold dq; rw [if_neg h]
theorem dq_zero {r : Rat} : dq r = 0 ↔ r.den = 1 := by
 have := r.den_nz
 unfold dq
 split <;> omega
theorem dq_nonneg (r : Rat) : 0 ≤ dq r := by
 unfold dq
 split <;> omega
/-- A rational in its canonical form. -/
def RatV (w : World) (a b c d : Value) (r : Rat) : Prop := IntV w a b r.num ∧ IntV w c d (dq r)
section
variable {w w' : World} {a b c d : Value} {r : Rat}
theorem RatV.kp (h : RatV w a b c d r) (k : Kp w w') : RatV w' a b c d r := ⟨h.1.kp k, h.2.kp k⟩
theorem RatV.below (h : RatV w a b c d r) (hb : Below w.heap.size w w') : RatV w' a b c d r := h.kp (.of hb)
theorem RatV.one0 (h : RatV w a b c d r) : a.oneCell' = true := h.1.one0
theorem RatV.one1 (h : RatV w a b c d r) : b.oneCell' = true := h.1.one1
theorem RatV.one2 (h : RatV w a b c d r) : c.oneCell' = true := h.2.one0
theorem RatV.one3 (h : RatV w a b c d r) : d.oneCell' = true := h.2.one1
end
/-- What returns a rational, and only makes memory. -/
def RR (r : Rat) (w : World) (e : Ending) (w' : World) : Prop := ∃ a b c d, e = .returned (.agg #[a, b, c, d]) ∧ RatV w' a b c d r ∧ Below w.heap.size w w'
/-- Bits of a rational. -/
def Bq (k : Nat) (r : Rat) : Prop := I.Bd k r.num ∧ I.Bd k r.den
theorem RatV.ones {w : World} {a0 a1 a2 a3 : Value} {x : Rat} (H : RatV w a0 a1 a2 a3 x) : a0.oneCell' = true ∧ a1.oneCell' = true ∧ a2.oneCell' = true ∧ a3.oneCell' = true := ⟨H.one0, H.one1, H.one2, H.one3⟩
end Go.Proofs.Ytgdibcgphjmofaa
