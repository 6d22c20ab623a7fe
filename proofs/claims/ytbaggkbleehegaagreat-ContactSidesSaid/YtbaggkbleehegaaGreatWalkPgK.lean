/-
 THE WALK of the reference's Center.
-/
import Derived.Test.YtbaggkbleehegaaGreatPgO
import Derived.Deep.LoopGhost
import Derived.Test.YtbaggkbleehegaaGreatRef5D
namespace Go.Proofs.YtbaggkbleehegaaGreat
set_option maxHeartbeats 1000000
open Go.RowKit
attribute [local go_sem] run_store_one
set_option linter.unusedVariables false
set_option linter.unusedSimpArgs false
theorem PV.bel {w w' : World} {n₀ : Nat} {A : Option Addr} {n c : Nat} {cs : Nat → Nat → Value} {L : List (Rat × Rat)} (h : PV w n₀ A n c cs L) (hb : Below w.heap.size w w') (hn : n₀ ≤ w.heap.size) : PV w' n₀ A n c cs L := by
 refine ⟨h.len, h.small, h.cap, h.mx, h.one, fun hp => ?_, fun i a ha => (h.v i a ha).below hb⟩
 obtain ⟨b, o, h1, h2, h3⟩ := h.at_ hp
 exact ⟨b, o, h1, h2, fun i hi j hj => (hb.cell (p := ⟨b, o + i * 8 + j, none⟩) (Nat.lt_of_lt_of_le h2 hn)).trans (h3 i hi j hj)⟩
theorem PV.up {w : World} {n₀ n₁ : Nat} {A : Option Addr} {n c : Nat} {cs : Nat → Nat → Value} {L : List (Rat × Rat)} (h : PV w n₀ A n c cs L) (hn : n₀ ≤ n₁) : PV w n₁ A n c cs L := by
 refine ⟨h.len, h.small, h.cap, h.mx, h.one, fun hp => ?_, h.v⟩
 obtain ⟨b, o, h1, h2, h3⟩ := h.at_ hp
 exact ⟨b, o, h1, Nat.lt_of_lt_of_le h2 hn, h3⟩
/-- A row at a later world, below that world's size. -/
theorem PV.now {w w' : World} {A : Option Addr} {n c : Nat} {cs : Nat → Nat → Value} {L : List (Rat × Rat)} (h : PV w w.heap.size A n c cs L) (hb : Below w.heap.size w w') : PV w' w'.heap.size A n c cs L :=
 (h.bel hb (Nat.le_refl _)).up hb.size
theorem PV.el {w : World} {n₀ b o n c i : Nat} {cs : Nat → Nat → Value} {L : List (Rat × Rat)} (h : PV w n₀ (some ⟨b, o, none⟩) n c cs L) (hn : n₀ ≤ w.heap.size) (hi : i < n) :
  Cr w b (o + i * 8) [cs i 0, cs i 1, cs i 2, cs i 3, cs i 4, cs i 5, cs i 6, cs i 7] ∧ VecV w (cs i 0) (cs i 1) (cs i 2) (cs i 3) (cs i 4) (cs i 5) (cs i 6) (cs i 7) (L.getD i (0, 0)) := by
 obtain ⟨b', o', h1, h2, h3⟩ := h.at_ (by omega)
 injection h1 with h1
 injection h1 with e1 e2
 subst e1; subst e2
 have hl := h.len
 refine ⟨⟨Nat.lt_of_lt_of_le h2 hn, fun j x hx => ?_⟩, h.v i _ (by rw [List.getD_eq_getElem?_getD, List.getElem?_eq_getElem (by omega)]; rfl)⟩
 match j, hx with
 | 0, hx => injection hx with hx; subst hx; exact h3 i hi 0 (by omega)
 | 1, hx => injection hx with hx; subst hx; exact h3 i hi 1 (by omega)
 | 2, hx => injection hx with hx; subst hx; exact h3 i hi 2 (by omega)
 | 3, hx => injection hx with hx; subst hx; exact h3 i hi 3 (by omega)
 | 4, hx => injection hx with hx; subst hx; exact h3 i hi 4 (by omega)
 | 5, hx => injection hx with hx; subst hx; exact h3 i hi 5 (by omega)
 | 6, hx => injection hx with hx; subst hx; exact h3 i hi 6 (by omega)
 | 7, hx => injection hx with hx; subst hx; exact h3 i hi 7 (by omega)
 | j + 8, hx => simp at hx
/-- A row of vectors that the region made. -/
def SPV (W : World) (L : List (Rat × Rat)) : Sp := fun w v => ∃ b cs, v = .slice (some ⟨b, 0, none⟩) L.length L.length ∧ W.heap.size ≤ b ∧ PV w w.heap.size (some ⟨b, 0, none⟩) L.length L.length cs L
theorem SPV.mono (W : World) (L : List (Rat × Rat)) : Mono (SPV W L) := fun _ _ _ ⟨b, cs, h1, h2, h3⟩ hb => ⟨b, cs, h1, h2, h3.now hb⟩
theorem five_pv {w w' : World} {a0 a1 a2 a3 a4 a5 a6 a7 b0 b1 b2 b3 b4 b5 b6 b7 c0 c1 c2 c3 c4 c5 c6 c7 d0 d1 d2 d3 d4 d5 d6 d7 e0 e1 e2 e3 e4 e5 e6 e7 : Value} {va vb vc vd ve : Rat × Rat} (hva : VecV w a0 a1 a2 a3 a4 a5 a6 a7 va) (hvb : VecV w b0 b1 b2 b3 b4 b5 b6 b7 vb) (hvc : VecV w c0 c1 c2 c3 c4 c5 c6 c7 vc) (hvd : VecV w d0 d1 d2 d3 d4 d5 d6 d7 vd) (hve : VecV w e0 e1 e2 e3 e4 e5 e6 e7 ve) (hb : Below w.heap.size w w') (hx : Bx w' w.heap.size 43 [a0, a1, a2, a3, a4, a5, a6, a7, b0, b1, b2, b3, b4, b5, b6, b7, c0, c1, c2, c3, c4, c5, c6, c7, d0, d1, d2, d3, d4, d5, d6, d7, e0, e1, e2, e3, e4, e5, e6, e7]) :
  PV w' w'.heap.size (some ⟨w.heap.size, 0, none⟩) 5 5 (fun i j => [a0, a1, a2, a3, a4, a5, a6, a7, b0, b1, b2, b3, b4, b5, b6, b7, c0, c1, c2, c3, c4, c5, c6, c7, d0, d1, d2, d3, d4, d5, d6, d7, e0, e1, e2, e3, e4, e5, e6, e7].getD (i * 8 + j) (.bool false)) [va, vb, vc, vd, ve] := by
 refine ⟨rfl, by omega, Nat.le_refl _, by decide, fun i j => ?_, fun _ => ⟨_, _, rfl, hx.lt, fun i hi j hj => ?_⟩, fun i a ha => ?_⟩
 ·have hall : ∀ u ∈ [a0, a1, a2, a3, a4, a5, a6, a7, b0, b1, b2, b3, b4, b5, b6, b7, c0, c1, c2, c3, c4, c5, c6, c7, d0, d1, d2, d3, d4, d5, d6, d7, e0, e1, e2, e3, e4, e5, e6, e7], u.oneCell' = true := by
   simp only [List.mem_cons, List.not_mem_nil, or_false]
   rintro u (rfl | rfl | rfl | rfl | rfl | rfl | rfl | rfl | rfl | rfl | rfl | rfl | rfl | rfl | rfl | rfl | rfl | rfl | rfl | rfl | rfl | rfl | rfl | rfl | rfl | rfl | rfl | rfl | rfl | rfl | rfl | rfl | rfl | rfl | rfl | rfl | rfl | rfl | rfl | rfl)
   ·exact hva.one0
   ·exact hva.one1
   ·exact hva.one2
   ·exact hva.one3
   ·exact hva.one4
   ·exact hva.one5
   ·exact hva.one6
   ·exact hva.one7
   ·exact hvb.one0
   ·exact hvb.one1
   ·exact hvb.one2
   ·exact hvb.one3
   ·exact hvb.one4
   ·exact hvb.one5
   ·exact hvb.one6
   ·exact hvb.one7
   ·exact hvc.one0
   ·exact hvc.one1
   ·exact hvc.one2
   ·exact hvc.one3
   ·exact hvc.one4
   ·exact hvc.one5
   ·exact hvc.one6
   ·exact hvc.one7
   ·exact hvd.one0
   ·exact hvd.one1
   ·exact hvd.one2
   ·exact hvd.one3
   ·exact hvd.one4
   ·exact hvd.one5
   ·exact hvd.one6
   ·exact hvd.one7
   ·exact hve.one0
   ·exact hve.one1
   ·exact hve.one2
   ·exact hve.one3
   ·exact hve.one4
   ·exact hve.one5
   ·exact hve.one6
   ·exact hve.one7
  rw [List.getD_eq_getElem?_getD]
  cases h : [a0, a1, a2, a3, a4, a5, a6, a7, b0, b1, b2, b3, b4, b5, b6, b7, c0, c1, c2, c3, c4, c5, c6, c7, d0, d1, d2, d3, d4, d5, d6, d7, e0, e1, e2, e3, e4, e5, e6, e7][i * 8 + j]? with
  | none => rfl
  | some x => exact hall x (List.mem_of_getElem? h)
 ·have hlt : i * 8 + j < 40 := by omega
  refine hx.cell ?_
  rw [List.getD_eq_getElem?_getD, Nat.zero_add, List.getElem?_eq_getElem (by simpa using hlt)]
  rfl
 ·match i, ha with
  | 0, ha => injection ha with ha; subst ha; exact hva.below hb
  | 1, ha => injection ha with ha; subst ha; exact hvb.below hb
  | 2, ha => injection ha with ha; subst ha; exact hvc.below hb
  | 3, ha => injection ha with ha; subst ha; exact hvd.below hb
  | 4, ha => injection ha with ha; subst ha; exact hve.below hb
  | i + 5, ha => simp at ha
theorem Does.five {o : Oper} {a : Act} {wx W : World} {a0 a1 a2 a3 a4 a5 a6 a7 b0 b1 b2 b3 b4 b5 b6 b7 c0 c1 c2 c3 c4 c5 c6 c7 d0 d1 d2 d3 d4 d5 d6 d7 e0 e1 e2 e3 e4 e5 e6 e7 : Value} {va vb vc vd ve : Rat × Rat} (hr : (execOp a.eval o).run Tryz.prog wx = .ok (.value (.slice (some ⟨wx.heap.size, 0, none⟩) 5 5)) (wx.alloc (.cells #[a0, a1, a2, a3, a4, a5, a6, a7, b0, b1, b2, b3, b4, b5, b6, b7, c0, c1, c2, c3, c4, c5, c6, c7, d0, d1, d2, d3, d4, d5, d6, d7, e0, e1, e2, e3, e4, e5, e6, e7] 43))) (hva : VecV wx a0 a1 a2 a3 a4 a5 a6 a7 va) (hvb : VecV wx b0 b1 b2 b3 b4 b5 b6 b7 vb) (hvc : VecV wx c0 c1 c2 c3 c4 c5 c6 c7 vc) (hvd : VecV wx d0 d1 d2 d3 d4 d5 d6 d7 vd) (hve : VecV wx e0 e1 e2 e3 e4 e5 e6 e7 ve) (hW : W.heap.size ≤ wx.heap.size) : Does Tryz.prog o (SPV W [va, vb, vc, vd, ve]) false a wx := by
 have hb : Below wx.heap.size wx (wx.alloc (.cells #[a0, a1, a2, a3, a4, a5, a6, a7, b0, b1, b2, b3, b4, b5, b6, b7, c0, c1, c2, c3, c4, c5, c6, c7, d0, d1, d2, d3, d4, d5, d6, d7, e0, e1, e2, e3, e4, e5, e6, e7] 43)) := (Below.refl _ _).alloc (Nat.le_refl _) _
 exact .inl ⟨_, _, hr, hb, ⟨_, _, rfl, hW, five_pv hva hvb hvc hvd hve hb (Bx.new _ _ _)⟩, fun h => by cases h⟩
end Go.Proofs.YtbaggkbleehegaaGreat
namespace Go.Proofs.YtbaggkbleehegaaGreat
set_option maxHeartbeats 4000000
open Go.RowKit
attribute [local go_sem] run_store_one
set_option linter.unusedVariables false
set_option linter.unusedSimpArgs false
/-- The five directions. -/
def Pg.dirs (a b c d : Rat × Rat) : List (Rat × Rat) := [Pg.turn (vsub b a), Pg.turn (vsub d c), vsub b a, vsub d c, vsub c a]
/-- No direction separates the segments. -/
def Pg.meets6 (a b c d : Rat × Rat) : Bool := (Pg.dirs a b c d).all fun n => !Pg.btw n a b c d
theorem Bv.turn {k : Nat} {v : Rat × Rat} (h : Bv k v) : Bv k (Pg.turn v) := ⟨h.2.neg, h.1⟩
end Go.Proofs.YtbaggkbleehegaaGreat
namespace Go.Proofs.YtbaggkbleehegaaGreat
open Go.RowKit
set_option linter.unusedSimpArgs false
/-- Twice the area of a triangle. -/
def Pg.cr (a b c : Rat × Rat) : Rat := vcrs (vsub b a) (vsub c a)
theorem Pg.tri_ (x : Rat) : x < 0 ∨ x = 0 ∨ 0 < x := by grind
theorem Pg.neg_of {x y : Rat} (h : x * y < 0) : (x < 0 ∧ 0 < y) ∨ (0 < x ∧ y < 0) := by
 rcases Pg.tri_ x with hx | hx | hx
 ·rcases Pg.tri_ y with hy | hy | hy
  ·have := Rat.mul_pos (a := -x) (b := -y) (by grind) (by grind); grind
  ·subst hy; grind
  ·exact .inl ⟨hx, hy⟩
 ·subst hx; grind
 ·rcases Pg.tri_ y with hy | hy | hy
  ·exact .inr ⟨hx, hy⟩
  ·subst hy; grind
  ·have := Rat.mul_pos hx hy; grind
theorem Pg.mul_neg {x y : Rat} (h : x < 0) (g : 0 < y) : x * y < 0 := by
 have := Rat.mul_pos (a := -x) (b := y) (by grind) g; grind
theorem Pg.mul_nn {x y : Rat} (h : x < 0) (g : y < 0) : 0 < x * y := by
 have := Rat.mul_pos (a := -x) (b := -y) (by grind) (by grind); grind
theorem Pg.sq_nonneg (x : Rat) : 0 ≤ x * x := by
 rcases Pg.tri_ x with h | h | h
 ·have := Pg.mul_nn h h; grind
 ·subst h; grind
 ·have := Rat.mul_pos h h; grind
theorem Pg.sq_zero {x : Rat} (h : x * x ≤ 0) : x = 0 := by
 rcases Pg.tri_ x with g | g | g
 ·have := Pg.mul_nn g g; grind
 ·exact g
 ·have := Rat.mul_pos g g; grind
def Pg.Less (n a b c d : Rat × Rat) : Prop := vdot n a < vdot n c ∧ vdot n a < vdot n d ∧ vdot n b < vdot n c ∧ vdot n b < vdot n d
/-- A direction has the first two points on one side of the others. -/
def Pg.Btw (n a b c d : Rat × Rat) : Prop := Pg.Less n a b c d ∨ Pg.Less n c d a b
def Pg.On (a b p : Rat × Rat) : Prop := Pg.cr a b p = 0 ∧ vdot (vsub a p) (vsub b p) ≤ 0
def Pg.Meet (a b c d : Rat × Rat) : Prop := (Pg.cr a b c * Pg.cr a b d < 0 ∧ Pg.cr c d a * Pg.cr c d b < 0) ∨ Pg.On a b c ∨ Pg.On a b d ∨ Pg.On c d a ∨ Pg.On c d b
theorem Pg.three {x y z : Rat} (hx : 0 < x) (hy : 0 < y) (hz : 0 ≤ z) (h : x + y + z = 0) : False := by grind
theorem Pg.less_comm {n a b c d : Rat × Rat} (h : Pg.Less n a b c d) : Pg.Less n a b d c := ⟨h.2.1, h.1, h.2.2.2, h.2.2.1⟩
/-- A point of a segment is between its ends. -/
theorem Pg.on_mid {a b p : Rat × Rat} (h : Pg.On a b p) (n : Rat × Rat) : (vdot n a - vdot n p) * (vdot n b - vdot n p) ≤ 0 := by
 obtain ⟨h1, h2⟩ := h
 have e1 : vdot n a - vdot n p = vdot n (vsub a p) := by unfold vdot vsub; grind
 have e2 : vdot n b - vdot n p = vdot n (vsub b p) := by unfold vdot vsub; grind
 have h3 : vcrs (vsub a p) (vsub b p) = 0 := by unfold Pg.cr vcrs vsub at *; grind
 rw [e1, e2]
 generalize vsub a p = u at *
 generalize vsub b p = v at *
 have k : vdot n v * vdot u u = vdot n u * vdot u v + (u.1 * n.2 - u.2 * n.1) * vcrs u v := by unfold vdot vcrs; grind
 rw [h3] at k
 have k2 : vdot n u * vdot n v * vdot u u = vdot n u * vdot n u * vdot u v := by grind
 have k3 := Rat.mul_nonneg (Pg.sq_nonneg (vdot n u)) (show 0 ≤ - vdot u v by grind)
 rcases Pg.tri_ (vdot n u * vdot n v) with g | g | g
 ·grind
 ·grind
 ·rcases Pg.tri_ (vdot u u) with g2 | g2 | g2
  ·have := Pg.sq_nonneg u.1; have := Pg.sq_nonneg u.2; unfold vdot at g2; grind
  ·have h5 : u.1 = 0 := Pg.sq_zero (by have := Pg.sq_nonneg u.2; unfold vdot at g2; grind)
   have h6 : u.2 = 0 := Pg.sq_zero (by have := Pg.sq_nonneg u.1; unfold vdot at g2; grind)
   have : vdot n u = 0 := by unfold vdot; rw [h5, h6]; grind
   rw [this] at g; grind
  ·have := Rat.mul_pos g g2; grind
theorem Pg.cr_swap (a b c : Rat × Rat) : Pg.cr a b c = - Pg.cr b a c := by unfold Pg.cr vcrs vsub; grind
theorem Pg.ext {a b : Rat × Rat} (h1 : a.1 = b.1) (h2 : a.2 = b.2) : a = b := Prod.ext h1 h2
theorem Pg.Btw.symm {n a b c d : Rat × Rat} (h : Pg.Btw n a b c d) : Pg.Btw n c d a b := Or.symm h
/-- Whether a vector lies to the left of a direction. -/
def Pg.H (d u : Rat × Rat) : Bool := decide (0 < vcrs d u)
/-- Whether the ray from p in a direction is met by a side, its ends told apart by the line of the ray. -/
def Pg.X (d p a b : Rat × Rat) : Bool := (Pg.H d (vsub a p) != Pg.H d (vsub b p)) && (decide (0 < Pg.cr p a b) == Pg.H d (vsub b p))
theorem Pg.nn {x y : Rat} (hx : x ≤ 0) (hy : y ≤ 0) : 0 ≤ x * y := by have := Rat.mul_nonneg (a := -x) (b := -y) (by grind) (by grind); grind
theorem sgn_of (r : Rat) : sgnZ r.num = cmpQ r 0 := by
 unfold sgnZ cmpZ cmpQ
 have h1 : r.num < 0 ↔ r < 0 := by rw [Rat.lt_iff]; simp
 have h2 : 0 < r.num ↔ 0 < r := by rw [Rat.lt_iff]; simp
 simp only [h1, h2]
theorem cmpQ_cases (r t : Rat) : (cmpQ r t = -1 ∧ r < t) ∨ (cmpQ r t = 0 ∧ r = t) ∨ (cmpQ r t = 1 ∧ t < r) := by
 unfold cmpQ
 by_cases h : r < t
 ·exact .inl ⟨by rw [if_pos h], h⟩
 ·by_cases g : t < r
  ·exact .inr (.inr ⟨by rw [if_neg h, if_pos g], g⟩)
  ·exact .inr (.inl ⟨by rw [if_neg h, if_neg g], by grind⟩)
theorem vside_cr (a b c : Rat × Rat) : vside a b c = cmpQ (Pg.cr a b c) 0 := sgn_of _
theorem Pg.neg_mul (x y : Rat) : x * y < 0 ↔ (x < 0 ∧ 0 < y) ∨ (0 < x ∧ y < 0) := by
 constructor
 ·exact Pg.neg_of
 ·rintro (⟨h, g⟩ | ⟨h, g⟩)
  ·exact Pg.mul_neg h g
  ·have := Pg.mul_neg g h; grind
theorem vside_mul (a b c d e f : Rat × Rat) : vside a b c * vside d e f < 0 ↔ Pg.cr a b c * Pg.cr d e f < 0 := by
 rw [vside_cr, vside_cr, Pg.neg_mul]
 rcases cmpQ_cases (Pg.cr a b c) 0 with ⟨h, g⟩ | ⟨h, g⟩ | ⟨h, g⟩ <;> rcases cmpQ_cases (Pg.cr d e f) 0 with ⟨h2, g2⟩ | ⟨h2, g2⟩ | ⟨h2, g2⟩ <;> rw [h, h2] <;> constructor <;> intro k <;> first | omega | grind
theorem on_iff (a b p : Rat × Rat) : Pg.on a b p = true ↔ Pg.On a b p := by
 unfold Pg.on Pg.On
 rw [Bool.and_eq_true, decide_eq_true_eq, decide_eq_true_eq, vside_cr, sgn_of]
 rcases cmpQ_cases (Pg.cr a b p) 0 with ⟨h, g⟩ | ⟨h, g⟩ | ⟨h, g⟩ <;> rcases cmpQ_cases (vdot (vsub a p) (vsub b p)) 0 with ⟨h2, g2⟩ | ⟨h2, g2⟩ | ⟨h2, g2⟩ <;> rw [h, h2] <;> constructor <;> rintro ⟨k, l⟩ <;> first | omega | grind
theorem meets_iff (a b c d : Rat × Rat) : Pg.meets a b c d = true ↔ Pg.Meet a b c d := by
 unfold Pg.meets Pg.Meet
 simp only [Bool.or_eq_true, Bool.and_eq_true, decide_eq_true_eq, on_iff, vside_mul]
 constructor
 ·rintro ((((h | h) | h) | h) | h)
  ·exact .inl h
  ·exact .inr (.inl h)
  ·exact .inr (.inr (.inl h))
  ·exact .inr (.inr (.inr (.inl h)))
  ·exact .inr (.inr (.inr (.inr h)))
 ·rintro (h | h | h | h | h)
  ·exact .inl (.inl (.inl (.inl h)))
  ·exact .inl (.inl (.inl (.inr h)))
  ·exact .inl (.inl (.inr h))
  ·exact .inl (.inr h)
  ·exact .inr h
end Go.Proofs.YtbaggkbleehegaaGreat
namespace Go.Proofs.YtbaggkbleehegaaGreat
set_option maxHeartbeats 4000000
open Go.RowKit
attribute [local go_sem] run_store_one
set_option linter.unusedVariables false
set_option linter.unusedSimpArgs false
theorem PV.bv {w : World} {n₀ k : Nat} {A : Option Addr} {n c i : Nat} {cs : Nat → Nat → Value} {L : List (Rat × Rat)} (h : PV w n₀ A n c cs L) (hb : ∀ a ∈ L, Bv k a) (hi : i < n) : Bv k (L.getD i (0, 0)) := by
 have hl := h.len
 refine hb _ ?_
 rw [List.getD_eq_getElem?_getD, List.getElem?_eq_getElem (by omega)]
 exact List.getElem_mem _
theorem tr_bits {L : List (Rat × Rat)} {k : Nat} (hb : ∀ a ∈ L, Bv k a) (hn : L.length ≤ 100) (i : Nat) : Bq ((4 * k + 3) * 100 + 1) (Pg.sum (fun a b => (a.1 - b.1) * (a.2 + b.2)) ((Pg.sides L).take i)) := by
 refine (Pg.sum_bits (k := 4 * k + 2) _ (fun p hp => ?_)).mono ?_
 ·have h1 := List.mem_of_mem_take hp
  unfold Pg.sides at h1
  have h2 := List.of_mem_zip h1
  have h3 : p.2 ∈ L := by
   have := h2.2
   cases L with
   | nil => simp [Pg.rot] at this
   | cons a t => simp only [Pg.rot, List.mem_append, List.mem_singleton] at this; rcases this with h | h <;> simp [h]
  exact (((hb _ h2.1).1.sub (hb _ h3).1).mul ((hb _ h2.1).2.add (hb _ h3).2)).mono (by omega)
 ·have : ((Pg.sides L).take i).length ≤ 100 := by rw [List.length_take, Pg.sides_len]; omega
  exact Nat.add_le_add_right (Nat.mul_le_mul_left _ this) 1
theorem sides_at {L : List (Rat × Rat)} {n i : Nat} (hl : n = L.length) (hi : i < n) : (Pg.sides L)[i]? = some (L.getD i (0, 0), L.getD ((i + 1) % n) (0, 0)) := by
 subst hl
 have h3 : (i + 1) % L.length < L.length := Nat.mod_lt _ (by omega)
 exact Pg.sides_get L i _ _ (by simp [List.getElem?_eq_getElem hi, List.getD_eq_getElem?_getD]) (by simp [List.getElem?_eq_getElem h3, List.getD_eq_getElem?_getD])
theorem sum_take {f : Rat × Rat → Rat × Rat → Rat} {L : List (Rat × Rat)} {n i : Nat} (hl : n = L.length) (hi : i < n) : Pg.sum f ((Pg.sides L).take (i + 1)) = Pg.sum f ((Pg.sides L).take i) + f (L.getD i (0, 0)) (L.getD ((i + 1) % n) (0, 0)) := by
 have h1 := List.getElem?_eq_some_iff.1 (sides_at hl hi)
 rw [List.take_succ_eq_append_getElem h1.1, Pg.sum_snoc, h1.2]
end Go.Proofs.YtbaggkbleehegaaGreat
namespace Go.Proofs.YtbaggkbleehegaaGreat
set_option maxHeartbeats 4000000
open Go.RowKit
attribute [local go_sem] run_store_one
set_option linter.unusedVariables false
set_option linter.unusedSimpArgs false
def Pg.cor (L : List (Rat × Rat)) (i : Nat) : Rat × Rat := L.getD (i % L.length) (0, 0)
def Pg.p6 (L : List (Rat × Rat)) (i k : Nat) : Bool := (decide ((1 : Int) < (((k + L.length - i) % L.length : Nat) : Int)) && decide ((((k + L.length - i) % L.length : Nat) : Int) < ((L.length - 1 : Nat) : Int))) && Pg.meets6 (L.getD i (0, 0)) (Pg.cor L (i + 1)) (L.getD k (0, 0)) (Pg.cor L (k + 1))
def Pg.flat (L : List (Rat × Rat)) (i : Nat) : Bool := vside (L.getD i (0, 0)) (Pg.cor L (i + 1)) (Pg.cor L (i + 2)) == 0
def Pg.bad6 (L : List (Rat × Rat)) (i : Nat) : Bool := Pg.flat L i || (List.range L.length).any (Pg.p6 L i)
/-- A polygon is right. -/
def Pg.valid6 (L : List (Rat × Rat)) : Bool := decide (3 ≤ L.length) && decide (L.length ≤ 12) && !(List.range L.length).any (Pg.bad6 L) && decide (0 < sgnZ (Pg.area L).num)
theorem any_false {n : Nat} {p : Nat → Bool} (h : ∀ i, i < n → p i = false) : (List.range n).any p = false := by
 rw [List.any_eq_false]
 intro i hi
 rw [h i (List.mem_range.1 hi)]
 simp
theorem any_true {n i : Nat} {p : Nat → Bool} (hi : i < n) (h : p i = true) : (List.range n).any p = true := by
 rw [List.any_eq_true]
 exact ⟨i, List.mem_range.2 hi, h⟩
end Go.Proofs.YtbaggkbleehegaaGreat
namespace Go.Proofs.YtbaggkbleehegaaGreat
set_option maxHeartbeats 4000000
open Go.RowKit
attribute [local go_sem] run_store_one
set_option linter.unusedVariables false
set_option linter.unusedSimpArgs false
def Pg.q (L : List (Rat × Rat)) (i k : Nat) : Bool := ((((k + 1) % L.length : Nat) : Int) != (i : Int)) && Pg.meets (Pg.cor L i) (Pg.cor L (i + 1)) (Pg.cor L k) (Pg.cor L (k + 1))
def Pg.flatp (L : List (Rat × Rat)) (i : Nat) : Bool := vside (Pg.cor L i) (Pg.cor L (i + 1)) (Pg.cor L (i + 2)) == 0
def Pg.bad (L : List (Rat × Rat)) (i : Nat) : Bool := Pg.flatp L i || (List.range L.length).any (fun k => decide (i + 2 ≤ k) && Pg.q L i k)
theorem PV.blt {w : World} {n₀ b o n c : Nat} {cs : Nat → Nat → Value} {L : List (Rat × Rat)} (h : PV w n₀ (some ⟨b, o, none⟩) n c cs L) (hn : 0 < n) : b < n₀ := by
 obtain ⟨b', o', h1, h2, -⟩ := h.at_ hn
 injection h1 with h1
 injection h1 with e1 e2
 rw [e1]; exact h2
end Go.Proofs.YtbaggkbleehegaaGreat
namespace Go.Proofs.YtbaggkbleehegaaGreat
set_option maxHeartbeats 4000000
open Go.RowKit
attribute [local go_sem] run_store_one
set_option linter.unusedVariables false
set_option linter.unusedSimpArgs false
end Go.Proofs.YtbaggkbleehegaaGreat
namespace Go.Proofs.YtbaggkbleehegaaGreat
set_option maxHeartbeats 4000000
open Go.RowKit
attribute [local go_sem] run_store_one
set_option linter.unusedVariables false
set_option linter.unusedSimpArgs false
def Pg.lo2 (u v : Rat × Rat) : Rat × Rat := (Pg.less u.1 v.1, Pg.less u.2 v.2)
def Pg.hi2 (u v : Rat × Rat) : Rat × Rat := (Pg.more u.1 v.1, Pg.more u.2 v.2)
/-- The least coordinates of the first corners. -/
def Pg.lo (L : List (Rat × Rat)) : Nat → Rat × Rat
 | 0 => L.getD 0 (0, 0)
 | i + 1 => Pg.lo2 (Pg.lo L i) (L.getD i (0, 0))
def Pg.hi (L : List (Rat × Rat)) : Nat → Rat × Rat
 | 0 => L.getD 0 (0, 0)
 | i + 1 => Pg.hi2 (Pg.hi L i) (L.getD i (0, 0))
theorem less_bits {k : Nat} {r t : Rat} (h : Bq k r) (g : Bq k t) : Bq k (Pg.less r t) := by unfold Pg.less; split <;> assumption
theorem more_bits {k : Nat} {r t : Rat} (h : Bq k r) (g : Bq k t) : Bq k (Pg.more r t) := by unfold Pg.more; split <;> assumption
theorem lo_bits {k : Nat} {L : List (Rat × Rat)} (h : ∀ i, i < L.length → Bv k (L.getD i (0, 0))) (h0 : 0 < L.length) : ∀ i, i ≤ L.length → Bv k (Pg.lo L i)
 | 0, _ => h 0 h0
 | i + 1, hi => ⟨less_bits (lo_bits h h0 i (by omega)).1 (h i (by omega)).1, less_bits (lo_bits h h0 i (by omega)).2 (h i (by omega)).2⟩
theorem hi_bits {k : Nat} {L : List (Rat × Rat)} (h : ∀ i, i < L.length → Bv k (L.getD i (0, 0))) (h0 : 0 < L.length) : ∀ i, i ≤ L.length → Bv k (Pg.hi L i)
 | 0, _ => h 0 h0
 | i + 1, hi => ⟨more_bits (hi_bits h h0 i (by omega)).1 (h i (by omega)).1, more_bits (hi_bits h h0 i (by omega)).2 (h i (by omega)).2⟩
theorem getD_bv {k : Nat} {L : List (Rat × Rat)} (h : ∀ a ∈ L, Bv k a) (i : Nat) (hi : i < L.length) : Bv k (L.getD i (0, 0)) := by
 refine h _ ?_
 rw [List.getD_eq_getElem?_getD, List.getElem?_eq_getElem hi]
 exact List.getElem_mem _
/-- The box: of an empty list two zeros. -/
def Pg.box (L : List (Rat × Rat)) : (Rat × Rat) × (Rat × Rat) := if L.length = 0 then ((0, 0), (0, 0)) else (Pg.lo L L.length, Pg.hi L L.length)
end Go.Proofs.YtbaggkbleehegaaGreat
namespace Go.Proofs.YtbaggkbleehegaaGreat
set_option maxHeartbeats 4000000
open Go.RowKit
attribute [local go_sem] run_store_one
set_option linter.unusedVariables false
set_option linter.unusedSimpArgs false
/-- The sums of the triangles up to a corner. -/
def Pg.fs (L : List (Rat × Rat)) (i : Nat) : Rat × Rat := (Pg.sum (fun a b => ((L.headD (0, 0)).1 + a.1 + b.1) * Pg.tri (L.headD (0, 0)) a b) ((Pg.fan L).take (i - 1)), Pg.sum (fun a b => ((L.headD (0, 0)).2 + a.2 + b.2) * Pg.tri (L.headD (0, 0)) a b) ((Pg.fan L).take (i - 1)))
end Go.Proofs.YtbaggkbleehegaaGreat
