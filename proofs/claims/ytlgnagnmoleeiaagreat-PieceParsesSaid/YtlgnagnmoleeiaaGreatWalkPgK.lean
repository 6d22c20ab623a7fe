/-
 THE WALK of the reference's Center.
-/
import Derived.Test.YtlgnagnmoleeiaaGreatWalkPgE
import Derived.Test.YtlgnagnmoleeiaaGreatEpN
namespace Go.Proofs.YtlgnagnmoleeiaaGreat
open Go.RowKit
set_option linter.unusedSimpArgs false
/-- Twice the area of a triangle. -/
def Pg.cr (a b c : Rat × Rat) : Rat := vcrs (vsub b a) (vsub c a)
theorem Pg.radon (a b c d n : Rat × Rat) : Pg.cr a b d * vdot n c - Pg.cr a b c * vdot n d = Pg.cr c d a * vdot n b - Pg.cr c d b * vdot n a := by
 unfold Pg.cr vcrs vsub vdot; grind
theorem Pg.tri_ (x : Rat) : x < 0 ∨ x = 0 ∨ 0 < x := by grind
theorem Pg.neg_of {x y : Rat} (h : x * y < 0) : (x < 0 ∧ 0 < y) ∨ (0 < x ∧ y < 0) := by
 rcases Pg.tri_ x with hx | hx | hx
 ·rcases Pg.tri_ y with hy | hy | hy
  ·have := Rat.mul_pos (a := -x) (b := -y) (by grind) (by grind); grind
  ·subst hy; grind
  ·exact .inl ⟨hx, hy⟩
 ·subst hx; grind
 ·rcases Pg.tri_ y with hy | hy | hy
  ·exact .inr ⟨hx, hy⟩
  ·subst hy; grind
  ·have := Rat.mul_pos hx hy; grind
theorem Pg.mul_neg {x y : Rat} (h : x < 0) (g : 0 < y) : x * y < 0 := by
 have := Rat.mul_pos (a := -x) (b := y) (by grind) g; grind
theorem Pg.mul_nn {x y : Rat} (h : x < 0) (g : y < 0) : 0 < x * y := by
 have := Rat.mul_pos (a := -x) (b := -y) (by grind) (by grind); grind
theorem Pg.sq_nonneg (x : Rat) : 0 ≤ x * x := by
 rcases Pg.tri_ x with h | h | h
 ·have := Pg.mul_nn h h; grind
 ·subst h; grind
 ·have := Rat.mul_pos h h; grind
theorem Pg.sq_zero {x : Rat} (h : x * x ≤ 0) : x = 0 := by
 rcases Pg.tri_ x with g | g | g
 ·have := Pg.mul_nn g g; grind
 ·exact g
 ·have := Rat.mul_pos g g; grind
def Pg.Less (n a b c d : Rat × Rat) : Prop := vdot n a < vdot n c ∧ vdot n a < vdot n d ∧ vdot n b < vdot n c ∧ vdot n b < vdot n d
/-- A direction has the first two points on one side of the others. -/
def Pg.Btw (n a b c d : Rat × Rat) : Prop := Pg.Less n a b c d ∨ Pg.Less n c d a b
def Pg.On (a b p : Rat × Rat) : Prop := Pg.cr a b p = 0 ∧ vdot (vsub a p) (vsub b p) ≤ 0
def Pg.Meet (a b c d : Rat × Rat) : Prop := (Pg.cr a b c * Pg.cr a b d < 0 ∧ Pg.cr c d a * Pg.cr c d b < 0) ∨ Pg.On a b c ∨ Pg.On a b d ∨ Pg.On c d a ∨ Pg.On c d b
theorem Pg.diff (a b c d : Rat × Rat) : Pg.cr a b d - Pg.cr a b c = Pg.cr c d a - Pg.cr c d b := by unfold Pg.cr vcrs vsub; grind
theorem Pg.three {x y z : Rat} (hx : 0 < x) (hy : 0 < y) (hz : 0 ≤ z) (h : x + y + z = 0) : False := by grind
theorem Pg.cross_not {a b c d n : Rat × Rat} (h1 : Pg.cr a b c < 0) (h2 : 0 < Pg.cr a b d) (h3 : 0 < Pg.cr c d a) (h4 : Pg.cr c d b < 0) : ¬ Pg.Less n a b c d ∧ ¬ Pg.Less n c d a b := by
 have e := Pg.radon a b c d n
 have f := Pg.diff a b c d
 generalize Pg.cr a b c = s1 at *
 generalize Pg.cr a b d = s2 at *
 generalize Pg.cr c d a = s3 at *
 generalize Pg.cr c d b = s4 at *
 unfold Pg.Less
 generalize vdot n a = p at *
 generalize vdot n b = q at *
 generalize vdot n c = r at *
 generalize vdot n d = s at *
 constructor
 ·rintro ⟨g1, g2, g3, g4⟩
  by_cases hp : p ≤ q
  ·exact Pg.three (Rat.mul_pos h2 (show 0 < r - q by grind)) (Rat.mul_pos (show 0 < -s1 by grind) (show 0 < s - q by grind)) (Rat.mul_nonneg (show 0 ≤ -s4 by grind) (show 0 ≤ q - p by grind)) (by grind)
  ·exact Pg.three (Rat.mul_pos h2 (show 0 < r - p by grind)) (Rat.mul_pos (show 0 < -s1 by grind) (show 0 < s - p by grind)) (Rat.mul_nonneg (show 0 ≤ s3 by grind) (show 0 ≤ p - q by grind)) (by grind)
 ·rintro ⟨g1, g2, g3, g4⟩
  by_cases hp : p ≤ q
  ·exact Pg.three (Rat.mul_pos h2 (show 0 < p - r by grind)) (Rat.mul_pos (show 0 < -s1 by grind) (show 0 < p - s by grind)) (Rat.mul_nonneg (show 0 ≤ s3 by grind) (show 0 ≤ q - p by grind)) (by grind)
  ·exact Pg.three (Rat.mul_pos h2 (show 0 < q - r by grind)) (Rat.mul_pos (show 0 < -s1 by grind) (show 0 < q - s by grind)) (Rat.mul_nonneg (show 0 ≤ -s4 by grind) (show 0 ≤ p - q by grind)) (by grind)
theorem Pg.less_comm {n a b c d : Rat × Rat} (h : Pg.Less n a b c d) : Pg.Less n a b d c := ⟨h.2.1, h.1, h.2.2.2, h.2.2.1⟩
/-- A point of a segment is between its ends. -/
theorem Pg.on_mid {a b p : Rat × Rat} (h : Pg.On a b p) (n : Rat × Rat) : (vdot n a - vdot n p) * (vdot n b - vdot n p) ≤ 0 := by
 obtain ⟨h1, h2⟩ := h
 have e1 : vdot n a - vdot n p = vdot n (vsub a p) := by unfold vdot vsub; grind
 have e2 : vdot n b - vdot n p = vdot n (vsub b p) := by unfold vdot vsub; grind
 have h3 : vcrs (vsub a p) (vsub b p) = 0 := by unfold Pg.cr vcrs vsub at *; grind
 rw [e1, e2]
 generalize vsub a p = u at *
 generalize vsub b p = v at *
 have k : vdot n v * vdot u u = vdot n u * vdot u v + (u.1 * n.2 - u.2 * n.1) * vcrs u v := by unfold vdot vcrs; grind
 rw [h3] at k
 have k2 : vdot n u * vdot n v * vdot u u = vdot n u * vdot n u * vdot u v := by grind
 have k3 := Rat.mul_nonneg (Pg.sq_nonneg (vdot n u)) (show 0 ≤ - vdot u v by grind)
 rcases Pg.tri_ (vdot n u * vdot n v) with g | g | g
 ·grind
 ·grind
 ·rcases Pg.tri_ (vdot u u) with g2 | g2 | g2
  ·have := Pg.sq_nonneg u.1; have := Pg.sq_nonneg u.2; unfold vdot at g2; grind
  ·have h5 : u.1 = 0 := Pg.sq_zero (by have := Pg.sq_nonneg u.2; unfold vdot at g2; grind)
   have h6 : u.2 = 0 := Pg.sq_zero (by have := Pg.sq_nonneg u.1; unfold vdot at g2; grind)
   have : vdot n u = 0 := by unfold vdot; rw [h5, h6]; grind
   rw [this] at g; grind
  ·have := Rat.mul_pos g g2; grind
theorem Pg.on_not {a b p n : Rat × Rat} (h : Pg.On a b p) : ¬ (vdot n a < vdot n p ∧ vdot n b < vdot n p) ∧ ¬ (vdot n p < vdot n a ∧ vdot n p < vdot n b) := by
 have := Pg.on_mid h n
 constructor
 ·rintro ⟨g1, g2⟩
  have := Pg.mul_nn (x := vdot n a - vdot n p) (y := vdot n b - vdot n p) (by grind) (by grind)
  grind
 ·rintro ⟨g1, g2⟩
  have := Rat.mul_pos (a := vdot n a - vdot n p) (b := vdot n b - vdot n p) (by grind) (by grind)
  grind
theorem Pg.meet_not {a b c d n : Rat × Rat} (h : Pg.Meet a b c d) : ¬ Pg.Btw n a b c d := by
 rcases h with ⟨h1, h2⟩ | h | h | h | h
 ·rcases Pg.neg_of h1 with ⟨g1, g2⟩ | ⟨g1, g2⟩
  ·have f := Pg.diff a b c d
   rcases Pg.neg_of h2 with ⟨g3, g4⟩ | ⟨g3, g4⟩
   ·grind
   ·have := Pg.cross_not (n := n) g1 g2 g3 g4
    rintro (h | h)
    ·exact this.1 h
    ·exact this.2 h
  ·have f := Pg.diff a b c d
   rcases Pg.neg_of h2 with ⟨g3, g4⟩ | ⟨g3, g4⟩
   ·have sw : ∀ x y z : Rat × Rat, Pg.cr x y z = - Pg.cr y x z := fun x y z => by unfold Pg.cr vcrs vsub; grind
    have := Pg.cross_not (n := n) (a := a) (b := b) (c := d) (d := c) g2 g1 (by rw [sw]; grind) (by rw [sw]; grind)
    rintro (h | h)
    ·exact this.1 (Pg.less_comm h)
    ·exact this.2 ⟨h.2.2.1, h.2.2.2, h.1, h.2.1⟩
   ·grind
 ·have := Pg.on_not (n := n) h; unfold Pg.Btw Pg.Less; grind
 ·have := Pg.on_not (n := n) h; unfold Pg.Btw Pg.Less; grind
 ·have := Pg.on_not (n := n) h; unfold Pg.Btw Pg.Less; grind
 ·have := Pg.on_not (n := n) h; unfold Pg.Btw Pg.Less; grind
theorem Pg.cr_swap (a b c : Rat × Rat) : Pg.cr a b c = - Pg.cr b a c := by unfold Pg.cr vcrs vsub; grind
theorem Pg.turn_dot (a b c : Rat × Rat) : vdot (Pg.turn (vsub b a)) c - vdot (Pg.turn (vsub b a)) a = Pg.cr a b c := by unfold Pg.cr vcrs vsub vdot Pg.turn; grind
theorem Pg.cr_aab (a b : Rat × Rat) : Pg.cr a b b = 0 := by unfold Pg.cr vcrs vsub; grind
/-- Both points strictly on one side. -/
theorem Pg.pos_of {s t : Rat} (h : 0 < s * t) : (0 < s ∧ 0 < t) ∨ (s < 0 ∧ t < 0) := by
 rcases Pg.tri_ s with hs | hs | hs
 ·rcases Pg.tri_ t with ht | ht | ht
  ·exact .inr ⟨hs, ht⟩
  ·subst ht; grind
  ·have := Pg.mul_neg hs ht; grind
 ·subst hs; grind
 ·rcases Pg.tri_ t with ht | ht | ht
  ·have := Pg.mul_neg ht hs; grind
  ·subst ht; grind
  ·exact .inl ⟨hs, ht⟩
theorem Pg.sep_turn {a b c d : Rat × Rat} (h : 0 < Pg.cr a b c * Pg.cr a b d) : Pg.Btw (Pg.turn (vsub b a)) a b c d := by
 have e1 := Pg.turn_dot a b c
 have e2 := Pg.turn_dot a b d
 have e3 := Pg.turn_dot a b b
 rw [Pg.cr_aab] at e3
 rcases Pg.pos_of h with ⟨g1, g2⟩ | ⟨g1, g2⟩
 ·left; unfold Pg.Less; grind
 ·right; unfold Pg.Less; grind
theorem Pg.ext {a b : Rat × Rat} (h1 : a.1 = b.1) (h2 : a.2 = b.2) : a = b := Prod.ext h1 h2
theorem Pg.dot_self {u : Rat × Rat} (h : vdot u u ≤ 0) : u.1 = 0 ∧ u.2 = 0 := by
 have h1 := Pg.sq_nonneg u.1; have h2 := Pg.sq_nonneg u.2
 unfold vdot at h
 exact ⟨Pg.sq_zero (by grind), Pg.sq_zero (by grind)⟩
theorem Pg.eq_of_sq {a b : Rat × Rat} (h : vdot (vsub a b) (vsub a b) ≤ 0) : a = b := by
 obtain ⟨h1, h2⟩ := Pg.dot_self h
 unfold vsub at h1 h2
 exact Pg.ext (by grind) (by grind)
theorem Pg.not_le {x : Rat} (h : ¬ x ≤ 0) : 0 < x := by grind
theorem Pg.pos_div {x y z : Rat} (hx : 0 < x) (h : z * x = y) (hy : 0 < y) : 0 < z := by
 rcases Pg.tri_ z with g | g | g
 ·have := Pg.mul_neg g hx; grind
 ·subst g; grind
 ·exact g
theorem Pg.zero_div {x z : Rat} (hx : x ≠ 0) (h : z * x = 0) : z = 0 := by
 rcases Rat.mul_eq_zero.1 h with g | g
 ·exact g
 ·exact absurd g hx
/-- On the line but not on the segment. -/
theorem Pg.off_line {a b p : Rat × Rat} (h : Pg.cr a b p = 0) (hn : ¬ Pg.On a b p) (hab : a ≠ b) : 0 < (vdot (vsub b a) a - vdot (vsub b a) p) * (vdot (vsub b a) b - vdot (vsub b a) p) := by
 have h2 : 0 < vdot (vsub a p) (vsub b p) := Pg.not_le (fun g => hn ⟨h, g⟩)
 have hx : 0 < vdot (vsub b a) (vsub b a) := Pg.not_le (fun g => hab (Pg.eq_of_sq g).symm)
 have k := Rat.mul_pos h2 hx
 have e : (vdot (vsub b a) a - vdot (vsub b a) p) * (vdot (vsub b a) b - vdot (vsub b a) p) = vdot (vsub a p) (vsub b p) * vdot (vsub b a) (vsub b a) - Pg.cr a b p * Pg.cr a b p := by unfold Pg.cr vcrs vsub vdot; grind
 rw [e, h]
 grind
theorem Pg.side_line {a b c d : Rat × Rat} (h : Pg.cr a b c = 0) (hn : ¬ Pg.On a b c) (hd : Pg.cr a b d ≠ 0) : 0 < Pg.cr c d a * Pg.cr c d b := by
 have h2 : 0 < vdot (vsub a c) (vsub b c) := Pg.not_le (fun g => hn ⟨h, g⟩)
 have f := Pg.diff a b c d
 have hu : 0 < vdot (vsub a c) (vsub a c) := Pg.not_le (fun g => by
  obtain ⟨u1, u2⟩ := Pg.dot_self g
  unfold vdot at h2
  rw [u1, u2] at h2
  grind)
 have e : Pg.cr c d b * vdot (vsub a c) (vsub a c) = Pg.cr c d a * vdot (vsub a c) (vsub b c) + vdot (vsub d c) (vsub a c) * Pg.cr a b c := by unfold Pg.cr vcrs vsub vdot; grind
 rw [h] at e
 have h3 : Pg.cr c d a ≠ 0 := fun g => by
  rw [g] at e
  have h4 := Pg.zero_div (x := vdot (vsub a c) (vsub a c)) (by grind) (z := Pg.cr c d b) (by grind)
  grind
 have h5 : 0 < Pg.cr c d a * Pg.cr c d a := Pg.not_le (fun g => h3 (Pg.sq_zero g))
 have h6 := Rat.mul_pos h5 h2
 exact Pg.pos_div hu (by grind) h6
theorem Pg.on_far {a b c d : Rat × Rat} (h1 : Pg.cr a b c = 0) (h2 : Pg.cr a b d = 0) (hab : a ≠ b) (h : (vdot (vsub b a) c - vdot (vsub b a) a) * (vdot (vsub b a) d - vdot (vsub b a) a) ≤ 0) : Pg.On c d a := by
 have hx : 0 < vdot (vsub b a) (vsub b a) := Pg.not_le (fun g => hab (Pg.eq_of_sq g).symm)
 have e1 : (vdot (vsub b a) c - vdot (vsub b a) a) * (vdot (vsub b a) d - vdot (vsub b a) a) = vdot (vsub c a) (vsub d a) * vdot (vsub b a) (vsub b a) - Pg.cr a b c * Pg.cr a b d := by unfold Pg.cr vcrs vsub vdot; grind
 have e2 : Pg.cr c d a * vdot (vsub b a) (vsub b a) = (vdot (vsub b a) c - vdot (vsub b a) a) * Pg.cr a b d - Pg.cr a b c * (vdot (vsub b a) d - vdot (vsub b a) a) := by unfold Pg.cr vcrs vsub vdot; grind
 refine ⟨Pg.zero_div (x := vdot (vsub b a) (vsub b a)) (by grind) (by rw [e2, h1, h2]; grind), ?_⟩
 rcases Pg.tri_ (vdot (vsub c a) (vsub d a)) with g | g | g
 ·grind
 ·grind
 ·have := Rat.mul_pos g hx
  rw [h1] at e1
  grind
/-- The five directions. -/
def Pg.Sep (a b c d : Rat × Rat) : Prop := Pg.Btw (Pg.turn (vsub b a)) a b c d ∨ Pg.Btw (Pg.turn (vsub d c)) a b c d ∨ Pg.Btw (vsub b a) a b c d ∨ Pg.Btw (vsub d c) a b c d ∨ Pg.Btw (vsub c a) a b c d
theorem Pg.Btw.symm {n a b c d : Rat × Rat} (h : Pg.Btw n a b c d) : Pg.Btw n c d a b := Or.symm h
theorem Pg.less_diff {n a b c d : Rat × Rat} (h1 : 0 < (vdot n a - vdot n c) * (vdot n b - vdot n c)) (h2 : 0 < (vdot n a - vdot n d) * (vdot n b - vdot n d)) (h3 : vdot n a < vdot n b) : Pg.Btw n a b c d ∨ (vdot n c - vdot n a) * (vdot n d - vdot n a) ≤ 0 := by
 rcases Pg.pos_of h1 with ⟨g1, g2⟩ | ⟨g1, g2⟩ <;> rcases Pg.pos_of h2 with ⟨g3, g4⟩ | ⟨g3, g4⟩
 ·exact .inl (.inr ⟨by grind, by grind, by grind, by grind⟩)
 ·have := Pg.mul_neg (x := vdot n c - vdot n a) (y := vdot n d - vdot n a) (by grind) (by grind)
  exact .inr (by grind)
 ·have := Pg.mul_neg (x := vdot n d - vdot n a) (y := vdot n c - vdot n a) (by grind) (by grind)
  exact .inr (by grind)
 ·exact .inl (.inl ⟨by grind, by grind, by grind, by grind⟩)
theorem Pg.sep_of {a b c d : Rat × Rat} (h : ¬ Pg.Meet a b c d) : Pg.Sep a b c d := by
 have n0 : ¬ (Pg.cr a b c * Pg.cr a b d < 0 ∧ Pg.cr c d a * Pg.cr c d b < 0) := fun g => h (.inl g)
 have n1 : ¬ Pg.On a b c := fun g => h (.inr (.inl g))
 have n2 : ¬ Pg.On a b d := fun g => h (.inr (.inr (.inl g)))
 have n3 : ¬ Pg.On c d a := fun g => h (.inr (.inr (.inr (.inl g))))
 have n4 : ¬ Pg.On c d b := fun g => h (.inr (.inr (.inr (.inr g))))
 have f := Pg.diff a b c d
 by_cases p1 : 0 < Pg.cr a b c * Pg.cr a b d
 ·exact .inl (Pg.sep_turn p1)
 by_cases p2 : 0 < Pg.cr c d a * Pg.cr c d b
 ·exact .inr (.inl (Pg.sep_turn p2).symm)
 by_cases z1 : Pg.cr a b c = 0
 ·by_cases z2 : Pg.cr a b d = 0
  ·by_cases hab : a = b
   ·subst hab
    by_cases hcd : c = d
    ·subst hcd
     have g : 0 < vdot (vsub a c) (vsub a c) := Pg.not_le (fun g => n1 ⟨z1, g⟩)
     have e : vdot (vsub c a) c - vdot (vsub c a) a = vdot (vsub a c) (vsub a c) := by unfold vdot vsub; grind
     exact .inr (.inr (.inr (.inr (.inl ⟨by grind, by grind, by grind, by grind⟩))))
    ·by_cases z3 : Pg.cr c d a = 0
     ·have k := Pg.off_line z3 n3 hcd
      rcases Pg.pos_of k with ⟨g1, g2⟩ | ⟨g1, g2⟩
      ·exact .inr (.inr (.inr (.inl (.inl ⟨by grind, by grind, by grind, by grind⟩))))
      ·exact .inr (.inr (.inr (.inl (.inr ⟨by grind, by grind, by grind, by grind⟩))))
     ·exact absurd (Pg.not_le (fun g => z3 (Pg.sq_zero g))) p2
   ·have hx : 0 < vdot (vsub b a) (vsub b a) := Pg.not_le (fun g => hab (Pg.eq_of_sq g).symm)
    have e : vdot (vsub b a) b - vdot (vsub b a) a = vdot (vsub b a) (vsub b a) := by unfold vdot vsub; grind
    rcases Pg.less_diff (Pg.off_line z1 n1 hab) (Pg.off_line z2 n2 hab) (by grind) with g | g
    ·exact .inr (.inr (.inl g))
    ·exact absurd (Pg.on_far z1 z2 hab g) n3
  ·exact absurd (Pg.side_line z1 n1 z2) p2
 ·by_cases z2 : Pg.cr a b d = 0
  ·have k := Pg.side_line (d := c) z2 n2 z1
   rw [Pg.cr_swap d c a, Pg.cr_swap d c b] at k
   exact absurd (by grind) p2
  ·have m1 : Pg.cr a b c * Pg.cr a b d < 0 := by
    rcases Pg.tri_ (Pg.cr a b c * Pg.cr a b d) with g | g | g
    ·exact g
    ·rcases Rat.mul_eq_zero.1 g with g | g
     ·exact absurd g z1
     ·exact absurd g z2
    ·exact absurd g p1
   by_cases z3 : Pg.cr c d a = 0
   ·by_cases z4 : Pg.cr c d b = 0
    ·have := Pg.sq_nonneg (Pg.cr a b c)
     have e : Pg.cr a b d = Pg.cr a b c := by grind
     rw [e] at m1
     grind
    ·exact absurd (Pg.side_line z3 n3 z4) p1
   ·by_cases z4 : Pg.cr c d b = 0
    ·have k := Pg.side_line (d := a) z4 n4 z3
     rw [Pg.cr_swap b a c, Pg.cr_swap b a d] at k
     exact absurd (by grind) p1
    ·have m2 : Pg.cr c d a * Pg.cr c d b < 0 := by
      rcases Pg.tri_ (Pg.cr c d a * Pg.cr c d b) with g | g | g
      ·exact g
      ·rcases Rat.mul_eq_zero.1 g with g | g
       ·exact absurd g z3
       ·exact absurd g z4
      ·exact absurd g p2
     exact absurd ⟨m1, m2⟩ n0
theorem Pg.meet_iff (a b c d : Rat × Rat) : Pg.Meet a b c d ↔ ¬ Pg.Sep a b c d := by
 constructor
 ·intro h g
  rcases g with g | g | g | g | g <;> exact Pg.meet_not h g
 ·intro g
  exact Classical.byContradiction fun h => g (Pg.sep_of h)
theorem sgn_of (r : Rat) : sgnZ r.num = cmpQ r 0 := by
 unfold sgnZ cmpZ cmpQ
 have h1 : r.num < 0 ↔ r < 0 := by rw [Rat.lt_iff]; simp
 have h2 : 0 < r.num ↔ 0 < r := by rw [Rat.lt_iff]; simp
 simp only [h1, h2]
theorem cmpQ_cases (r t : Rat) : (cmpQ r t = -1 ∧ r < t) ∨ (cmpQ r t = 0 ∧ r = t) ∨ (cmpQ r t = 1 ∧ t < r) := by
 unfold cmpQ
 by_cases h : r < t
 ·exact .inl ⟨by rw [if_pos h], h⟩
 ·by_cases g : t < r
  ·exact .inr (.inr ⟨by rw [if_neg h, if_pos g], g⟩)
  ·exact .inr (.inl ⟨by rw [if_neg h, if_neg g], by grind⟩)
theorem vside_cr (a b c : Rat × Rat) : vside a b c = cmpQ (Pg.cr a b c) 0 := sgn_of _
theorem Pg.neg_mul (x y : Rat) : x * y < 0 ↔ (x < 0 ∧ 0 < y) ∨ (0 < x ∧ y < 0) := by
 constructor
 ·exact Pg.neg_of
 ·rintro (⟨h, g⟩ | ⟨h, g⟩)
  ·exact Pg.mul_neg h g
  ·have := Pg.mul_neg g h; grind
theorem vside_mul (a b c d e f : Rat × Rat) : vside a b c * vside d e f < 0 ↔ Pg.cr a b c * Pg.cr d e f < 0 := by
 rw [vside_cr, vside_cr, Pg.neg_mul]
 rcases cmpQ_cases (Pg.cr a b c) 0 with ⟨h, g⟩ | ⟨h, g⟩ | ⟨h, g⟩ <;> rcases cmpQ_cases (Pg.cr d e f) 0 with ⟨h2, g2⟩ | ⟨h2, g2⟩ | ⟨h2, g2⟩ <;> rw [h, h2] <;> constructor <;> intro k <;> first | omega | grind
theorem on_iff (a b p : Rat × Rat) : Pg.on a b p = true ↔ Pg.On a b p := by
 unfold Pg.on Pg.On
 rw [Bool.and_eq_true, decide_eq_true_eq, decide_eq_true_eq, vside_cr, sgn_of]
 rcases cmpQ_cases (Pg.cr a b p) 0 with ⟨h, g⟩ | ⟨h, g⟩ | ⟨h, g⟩ <;> rcases cmpQ_cases (vdot (vsub a p) (vsub b p)) 0 with ⟨h2, g2⟩ | ⟨h2, g2⟩ | ⟨h2, g2⟩ <;> rw [h, h2] <;> constructor <;> rintro ⟨k, l⟩ <;> first | omega | grind
theorem meets_iff (a b c d : Rat × Rat) : Pg.meets a b c d = true ↔ Pg.Meet a b c d := by
 unfold Pg.meets Pg.Meet
 simp only [Bool.or_eq_true, Bool.and_eq_true, decide_eq_true_eq, on_iff, vside_mul]
 constructor
 ·rintro ((((h | h) | h) | h) | h)
  ·exact .inl h
  ·exact .inr (.inl h)
  ·exact .inr (.inr (.inl h))
  ·exact .inr (.inr (.inr (.inl h)))
  ·exact .inr (.inr (.inr (.inr h)))
 ·rintro (h | h | h | h | h)
  ·exact .inl (.inl (.inl (.inl h)))
  ·exact .inl (.inl (.inl (.inr h)))
  ·exact .inl (.inl (.inr h))
  ·exact .inl (.inr h)
  ·exact .inr h
theorem btw_iff (n a b c d : Rat × Rat) : Pg.btw n a b c d = true ↔ Pg.Btw n a b c d := by
 unfold Pg.btw Pg.Btw Pg.Less
 simp only [cmpQ_lt, cmpQ_gt, Bool.or_eq_true, Bool.and_eq_true, decide_eq_true_eq]
 constructor
 ·rintro (⟨⟨⟨h1, h2⟩, h3⟩, h4⟩ | ⟨⟨⟨h1, h2⟩, h3⟩, h4⟩)
  ·exact .inl ⟨h1, h2, h3, h4⟩
  ·exact .inr ⟨h1, h3, h2, h4⟩
 ·rintro (⟨h1, h2, h3, h4⟩ | ⟨h1, h2, h3, h4⟩)
  ·exact .inl ⟨⟨⟨h1, h2⟩, h3⟩, h4⟩
  ·exact .inr ⟨⟨⟨h1, h3⟩, h2⟩, h4⟩
theorem meets6_iff (a b c d : Rat × Rat) : Pg.meets6 a b c d = true ↔ Pg.Meet a b c d := by
 rw [Pg.meet_iff]
 unfold Pg.meets6 Pg.dirs Pg.Sep
 simp only [List.all_cons, List.all_nil, Bool.and_true, Bool.and_eq_true, Bool.not_eq_true', ← Bool.not_eq_true, btw_iff]
 constructor
 ·rintro ⟨h1, h2, h3, h4, h5⟩ (h | h | h | h | h)
  ·exact h1 h
  ·exact h2 h
  ·exact h3 h
  ·exact h4 h
  ·exact h5 h
 ·intro h
  exact ⟨fun g => h (.inl g), fun g => h (.inr (.inl g)), fun g => h (.inr (.inr (.inl g))), fun g => h (.inr (.inr (.inr (.inl g)))), fun g => h (.inr (.inr (.inr (.inr g))))⟩
end Go.Proofs.YtlgnagnmoleeiaaGreat
namespace Go.Proofs.YtlgnagnmoleeiaaGreat
set_option maxHeartbeats 4000000
open Go.RowKit
attribute [local go_sem] run_store_one
set_option linter.unusedVariables false
set_option linter.unusedSimpArgs false
theorem tr_bits {L : List (Rat × Rat)} {k : Nat} (hb : ∀ a ∈ L, Bv k a) (hn : L.length ≤ 100) (i : Nat) : Bq ((4 * k + 3) * 100 + 1) (Pg.sum (fun a b => (a.1 - b.1) * (a.2 + b.2)) ((Pg.sides L).take i)) := by
 refine (Pg.sum_bits (k := 4 * k + 2) _ (fun p hp => ?_)).mono ?_
 ·have h1 := List.mem_of_mem_take hp
  unfold Pg.sides at h1
  have h2 := List.of_mem_zip h1
  have h3 : p.2 ∈ L := by
   have := h2.2
   cases L with
   | nil => simp [Pg.rot] at this
   | cons a t => simp only [Pg.rot, List.mem_append, List.mem_singleton] at this; rcases this with h | h <;> simp [h]
  exact (((hb _ h2.1).1.sub (hb _ h3).1).mul ((hb _ h2.1).2.add (hb _ h3).2)).mono (by omega)
 ·have : ((Pg.sides L).take i).length ≤ 100 := by rw [List.length_take, Pg.sides_len]; omega
  exact Nat.add_le_add_right (Nat.mul_le_mul_left _ this) 1
theorem sides_at {L : List (Rat × Rat)} {n i : Nat} (hl : n = L.length) (hi : i < n) : (Pg.sides L)[i]? = some (L.getD i (0, 0), L.getD ((i + 1) % n) (0, 0)) := by
 subst hl
 have h3 : (i + 1) % L.length < L.length := Nat.mod_lt _ (by omega)
 exact Pg.sides_get L i _ _ (by simp [List.getElem?_eq_getElem hi, List.getD_eq_getElem?_getD]) (by simp [List.getElem?_eq_getElem h3, List.getD_eq_getElem?_getD])
theorem sum_take {f : Rat × Rat → Rat × Rat → Rat} {L : List (Rat × Rat)} {n i : Nat} (hl : n = L.length) (hi : i < n) : Pg.sum f ((Pg.sides L).take (i + 1)) = Pg.sum f ((Pg.sides L).take i) + f (L.getD i (0, 0)) (L.getD ((i + 1) % n) (0, 0)) := by
 have h1 := List.getElem?_eq_some_iff.1 (sides_at hl hi)
 rw [List.take_succ_eq_append_getElem h1.1, Pg.sum_snoc, h1.2]
end Go.Proofs.YtlgnagnmoleeiaaGreat
namespace Go.Proofs.YtlgnagnmoleeiaaGreat
set_option maxHeartbeats 4000000
open Go.RowKit
attribute [local go_sem] run_store_one
set_option linter.unusedVariables false
set_option linter.unusedSimpArgs false
def Pg.cor (L : List (Rat × Rat)) (i : Nat) : Rat × Rat := L.getD (i % L.length) (0, 0)
def Pg.p6 (L : List (Rat × Rat)) (i k : Nat) : Bool := (decide ((1 : Int) < (((k + L.length - i) % L.length : Nat) : Int)) && decide ((((k + L.length - i) % L.length : Nat) : Int) < ((L.length - 1 : Nat) : Int))) && Pg.meets6 (L.getD i (0, 0)) (Pg.cor L (i + 1)) (L.getD k (0, 0)) (Pg.cor L (k + 1))
def Pg.flat (L : List (Rat × Rat)) (i : Nat) : Bool := vside (L.getD i (0, 0)) (Pg.cor L (i + 1)) (Pg.cor L (i + 2)) == 0
def Pg.bad6 (L : List (Rat × Rat)) (i : Nat) : Bool := Pg.flat L i || (List.range L.length).any (Pg.p6 L i)
/-- A polygon is right. -/
def Pg.valid6 (L : List (Rat × Rat)) : Bool := decide (3 ≤ L.length) && decide (L.length ≤ 12) && !(List.range L.length).any (Pg.bad6 L) && decide (0 < sgnZ (Pg.area L).num)
theorem any_false {n : Nat} {p : Nat → Bool} (h : ∀ i, i < n → p i = false) : (List.range n).any p = false := by
 rw [List.any_eq_false]
 intro i hi
 rw [h i (List.mem_range.1 hi)]
 simp
theorem any_true {n i : Nat} {p : Nat → Bool} (hi : i < n) (h : p i = true) : (List.range n).any p = true := by
 rw [List.any_eq_true]
 exact ⟨i, List.mem_range.2 hi, h⟩
end Go.Proofs.YtlgnagnmoleeiaaGreat
namespace Go.Proofs.YtlgnagnmoleeiaaGreat
set_option maxHeartbeats 4000000
open Go.RowKit
attribute [local go_sem] run_store_one
set_option linter.unusedVariables false
set_option linter.unusedSimpArgs false
def Pg.q (L : List (Rat × Rat)) (i k : Nat) : Bool := ((((k + 1) % L.length : Nat) : Int) != (i : Int)) && Pg.meets (Pg.cor L i) (Pg.cor L (i + 1)) (Pg.cor L k) (Pg.cor L (k + 1))
def Pg.flatp (L : List (Rat × Rat)) (i : Nat) : Bool := vside (Pg.cor L i) (Pg.cor L (i + 1)) (Pg.cor L (i + 2)) == 0
def Pg.bad (L : List (Rat × Rat)) (i : Nat) : Bool := Pg.flatp L i || (List.range L.length).any (fun k => decide (i + 2 ≤ k) && Pg.q L i k)
/-- A polygon is right, as the program finds it. -/
def Pg.valid (L : List (Rat × Rat)) : Bool := decide (3 ≤ L.length) && decide (L.length ≤ 12) && !(List.range L.length).any (Pg.bad L) && decide (0 < sgnZ (Pg.area L).num)
end Go.Proofs.YtlgnagnmoleeiaaGreat
namespace Go.Proofs.YtlgnagnmoleeiaaGreat
set_option maxHeartbeats 4000000
open Go.RowKit
attribute [local go_sem] run_store_one
set_option linter.unusedVariables false
set_option linter.unusedSimpArgs false
end Go.Proofs.YtlgnagnmoleeiaaGreat
namespace Go.Proofs.YtlgnagnmoleeiaaGreat
set_option maxHeartbeats 4000000
open Go.RowKit
attribute [local go_sem] run_store_one
set_option linter.unusedVariables false
set_option linter.unusedSimpArgs false
theorem getD_bv {k : Nat} {L : List (Rat × Rat)} (h : ∀ a ∈ L, Bv k a) (i : Nat) (hi : i < L.length) : Bv k (L.getD i (0, 0)) := by
 refine h _ ?_
 rw [List.getD_eq_getElem?_getD, List.getElem?_eq_getElem hi]
 exact List.getElem_mem _
end Go.Proofs.YtlgnagnmoleeiaaGreat
namespace Go.Proofs.YtlgnagnmoleeiaaGreat
set_option maxHeartbeats 4000000
open Go.RowKit
attribute [local go_sem] run_store_one
set_option linter.unusedVariables false
set_option linter.unusedSimpArgs false
end Go.Proofs.YtlgnagnmoleeiaaGreat
