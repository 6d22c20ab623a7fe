/-
 THE WALK of the reference's Center.
-/
import Derived.Test.YtnpdpjfdgialeaaGreatDoorEmY
import Derived.Test.YtnpdpjfdgialeaaGreatDoorEoR
import Derived.Test.YtnpdpjfdgialeaaGreatDoorEpN
import Derived.Test.YtnpdpjfdgialeaaGreatDoorFlowR
import Derived.RangeFuncNested
import Derived.RangeFuncBound
import Derived.RangeFuncCalls
import Derived.RangeFuncLeaves
import Derived.Shelf.Abstract
import Derived.Shelf.RegionOpen
import Derived.TacticsInMore
import Derived.LoopNIn
import Derived.LoopIn
import Derived.Deep.LoopGhost
namespace Go.Proofs.YtnpdpjfdgialeaaGreatDoor
open Go.RowKit
/-- The list that begins at the second corner. -/
def Pg.rot : List (Rat × Rat) → List (Rat × Rat)
 | [] => []
 | a :: t => t ++ [a]
theorem Pg.rot_len (l : List (Rat × Rat)) : (Pg.rot l).length = l.length := by cases l <;> simp [Pg.rot]
/-- The sides, in order. -/
def Pg.sides (l : List (Rat × Rat)) : List ((Rat × Rat) × (Rat × Rat)) := l.zip (Pg.rot l)
theorem Pg.sides_len (l : List (Rat × Rat)) : (Pg.sides l).length = l.length := by unfold Pg.sides; rw [List.length_zip, Pg.rot_len]; omega
theorem Pg.rot_get (l : List (Rat × Rat)) (i : Nat) (hi : i < l.length) : (Pg.rot l)[i]? = l[(i + 1) % l.length]? := by
 cases l with
 | nil => simp at hi
 | cons a t =>
  simp only [Pg.rot, List.length_cons] at hi ⊢
  by_cases h : i < t.length
  ·rw [List.getElem?_append_left h, Nat.mod_eq_of_lt (by omega), List.getElem?_cons_succ]
  ·have : i = t.length := by omega
   subst this
   rw [List.getElem?_append_right (Nat.le_refl _), Nat.sub_self, Nat.mod_self]
   rfl
theorem Pg.sides_get (l : List (Rat × Rat)) (i : Nat) (a b : Rat × Rat) (ha : l[i]? = some a) (hb : l[(i + 1) % l.length]? = some b) : (Pg.sides l)[i]? = some (a, b) := by
 have hi := (List.getElem?_eq_some_iff.1 ha).1
 unfold Pg.sides
 rw [List.getElem?_zip_eq_some]
 exact ⟨ha, by rw [Pg.rot_get l i hi]; exact hb⟩
/-- A sum over sides. -/
def Pg.sum (f : Rat × Rat → Rat × Rat → Rat) (ps : List ((Rat × Rat) × (Rat × Rat))) : Rat := ps.foldl (fun s p => s + f p.1 p.2) 0
theorem Pg.foldl_add {α : Type} (f : α → Rat) : ∀ (l : List α) (s : Rat), l.foldl (fun s x => s + f x) s = s + l.foldl (fun s x => s + f x) 0
 | [], s => by simp [Rat.add_zero]
 | x :: t, s => by
  rw [List.foldl_cons, List.foldl_cons, Pg.foldl_add f t (s + f x), Pg.foldl_add f t (0 + f x)]
  grind
theorem Pg.sum_cons (f : Rat × Rat → Rat × Rat → Rat) (p : (Rat × Rat) × (Rat × Rat)) (ps : List ((Rat × Rat) × (Rat × Rat))) : Pg.sum f (p :: ps) = f p.1 p.2 + Pg.sum f ps := by
 unfold Pg.sum
 rw [List.foldl_cons, Pg.foldl_add (fun p : (Rat × Rat) × (Rat × Rat) => f p.1 p.2)]
 grind
theorem Pg.sum_nil (f : Rat × Rat → Rat × Rat → Rat) : Pg.sum f [] = 0 := rfl
theorem Pg.sum_snoc (f : Rat × Rat → Rat × Rat → Rat) (ps : List ((Rat × Rat) × (Rat × Rat))) (p : (Rat × Rat) × (Rat × Rat)) : Pg.sum f (ps ++ [p]) = Pg.sum f ps + f p.1 p.2 := by
 unfold Pg.sum
 rw [List.foldl_append]
 rfl
theorem Pg.sum_add (f g : Rat × Rat → Rat × Rat → Rat) : ∀ ps, Pg.sum (fun a b => f a b + g a b) ps = Pg.sum f ps + Pg.sum g ps
 | [] => by simp [Pg.sum_nil, Rat.add_zero]
 | p :: t => by rw [Pg.sum_cons, Pg.sum_cons, Pg.sum_cons, Pg.sum_add f g t]; grind
theorem Pg.sum_congr {f g : Rat × Rat → Rat × Rat → Rat} (h : ∀ a b, f a b = g a b) (ps) : Pg.sum f ps = Pg.sum g ps := by
 rw [show f = g from funext fun a => funext fun b => h a b]
/-- Along a chain what is added and taken away goes. -/
theorem Pg.sum_chain (g : Rat × Rat → Rat) : ∀ (t : List (Rat × Rat)) (a c : Rat × Rat), Pg.sum (fun a b => g a - g b) ((a :: t).zip (t ++ [c])) = g a - g c
 | [], a, c => by simp [Pg.sum_cons, Pg.sum_nil, Rat.add_zero]
 | b :: t, a, c => by
  rw [List.cons_append, List.zip_cons_cons, Pg.sum_cons, Pg.sum_chain g t b c]
  grind
theorem Pg.sum_round (g : Rat × Rat → Rat) (l : List (Rat × Rat)) : Pg.sum (fun a b => g a - g b) (Pg.sides l) = 0 := by
 cases l with
 | nil => rfl
 | cons a t =>
  have := Pg.sum_chain g t a a
  unfold Pg.sides Pg.rot
  rw [this]
  grind
/-- The area. -/
def Pg.area (l : List (Rat × Rat)) : Rat := Pg.sum vcrs (Pg.sides l) * Rat.divInt 1 2
/-- The area by trapezoids. -/
def Pg.area6 (l : List (Rat × Rat)) : Rat := Pg.sum (fun a b => (a.1 - b.1) * (a.2 + b.2)) (Pg.sides l) * Rat.divInt 1 2
theorem Pg.area_eq (l : List (Rat × Rat)) : Pg.area6 l = Pg.area l := by
 unfold Pg.area6 Pg.area
 have h : Pg.sum (fun a b => (a.1 - b.1) * (a.2 + b.2)) (Pg.sides l) = Pg.sum (fun a b => vcrs a b + (a.1 * a.2 - b.1 * b.2)) (Pg.sides l) := Pg.sum_congr (fun a b => by unfold vcrs; grind) _
 rw [h, Pg.sum_add, Pg.sum_round (fun a => a.1 * a.2)]
 congr 1
 grind
/-- What one side gives to the centroid. -/
def Pg.fx (a b : Rat × Rat) : Rat := (a.1 + b.1) * vcrs a b
def Pg.fy (a b : Rat × Rat) : Rat := (a.2 + b.2) * vcrs a b
/-- The centroid. -/
def Pg.center (l : List (Rat × Rat)) : Rat × Rat := vsca (Pg.sum Pg.fx (Pg.sides l), Pg.sum Pg.fy (Pg.sides l)) (Rat.divInt 1 3 / Pg.sum vcrs (Pg.sides l))
end Go.Proofs.YtnpdpjfdgialeaaGreatDoor
namespace Go.Proofs.YtnpdpjfdgialeaaGreatDoor
set_option maxHeartbeats 4000000
open Go.RowKit
attribute [local go_sem] run_store_one
set_option linter.unusedVariables false
set_option linter.unusedSimpArgs false
/-- Whether a point lies on a segment. -/
def Pg.on (a b p : Rat × Rat) : Bool := decide (vside a b p = 0) && decide (sgnZ (vdot (vsub a p) (vsub b p)).num ≤ 0)
/-- Whether two segments have a point in common. -/
def Pg.meets (a b c d : Rat × Rat) : Bool := (decide (vside a b c * vside a b d < 0) && decide (vside c d a * vside c d b < 0)) || Pg.on a b c || Pg.on a b d || Pg.on c d a || Pg.on c d b
theorem side_rng (a b c : Rat × Rat) : vside a b c = -1 ∨ vside a b c = 0 ∨ vside a b c = 1 := by
 unfold vside sgnZ cmpZ
 split
 ·exact .inl rfl
 ·split
  ·exact .inr (.inr rfl)
  ·exact .inr (.inl rfl)
theorem side_mul64 (a b c d e f : Rat × Rat) : W.Is64 (vside a b c * vside d e f) := by
 rcases side_rng a b c with h | h | h <;> rcases side_rng d e f with g | g | g <;> rw [h, g] <;> exact ⟨by omega, by omega⟩
end Go.Proofs.YtnpdpjfdgialeaaGreatDoor
namespace Go.Proofs.YtnpdpjfdgialeaaGreatDoor
set_option maxHeartbeats 4000000
open Go.RowKit
attribute [local go_sem] run_store_one
set_option linter.unusedVariables false
/-- Turned by a quarter. -/
def Pg.turn (a : Rat × Rat) : Rat × Rat := (-a.2, a.1)
end Go.Proofs.YtnpdpjfdgialeaaGreatDoor
namespace Go.Proofs.YtnpdpjfdgialeaaGreatDoor.E
open Go.RowKit
set_option linter.unusedVariables false
def dL (L : List (Rat × Rat)) : V := .sl (L.map dV)
section
variable {k : Nat}
variable {a b c d p : Rat × Rat} {r q x : Rat} {j : Nat}
theorem wr_side (a b c d e f : Rat × Rat) : IntKind.i64.wrap (Go.Proofs.YtnpdpjfdgialeaaGreatDoor.vside a b c * Go.Proofs.YtnpdpjfdgialeaaGreatDoor.vside d e f) = Go.Proofs.YtnpdpjfdgialeaaGreatDoor.vside a b c * Go.Proofs.YtnpdpjfdgialeaaGreatDoor.vside d e f := by
 have := side_mul64 a b c d e f
 unfold W.Is64 at this
 rw [IntKind.wrap_i64]
 omega
theorem e_on (ba : Bv k a) (bb : Bv k b) (bp : Bv k p) (hk : 100 * k + 1000 ≤ 800000000000) : Pure PP 154 [.ag (dV a), .ag (dV b), .ag (dV p)] (bo (Pg.on a b p)) := by
 by_cases h : Go.Proofs.YtnpdpjfdgialeaaGreatDoor.vside a b p = 0
 · rw [show Pg.on a b p = decide (sgnZ (vdot (vsub a p) (vsub b p)).num ≤ 0) by unfold Pg.on; rw [decide_eq_true h, Bool.true_and]]
   exact tr [cl (e_side ba bb bp hk), ye (t := Go.Proofs.YtnpdpjfdgialeaaGreatDoor.vside a b p == 0) (by simp [h]), cl (e_vsub ba bp (by omega)), cl (e_vsub bb bp (by omega)), cl (e_vdot (ba.sub bp) (bb.sub bp) (by omega)), cl (e_rsign (vdot (vsub a p) (vsub b p)))] (by kernel_rfl)
 · rw [show Pg.on a b p = false by unfold Pg.on; rw [decide_eq_false h, Bool.false_and]]
   exact tr [cl (e_side ba bb bp hk), na (t := Go.Proofs.YtnpdpjfdgialeaaGreatDoor.vside a b p == 0) (by simp [h])] (by kernel_rfl)
/-- The product of two sides. -/
def pr (a b c d e f : Rat × Rat) : Bool := decide (IntKind.i64.wrap (Go.Proofs.YtnpdpjfdgialeaaGreatDoor.vside a b c * Go.Proofs.YtnpdpjfdgialeaaGreatDoor.vside d e f) < 0)
theorem pr_eq (a b c d e f : Rat × Rat) : pr a b c d e f = decide (Go.Proofs.YtnpdpjfdgialeaaGreatDoor.vside a b c * Go.Proofs.YtnpdpjfdgialeaaGreatDoor.vside d e f < 0) := by unfold pr; rw [wr_side]
theorem e_meets (ba : Bv k a) (bb : Bv k b) (bc : Bv k c) (bd : Bv k d) (hk : 100 * k + 1000 ≤ 800000000000) : Pure PP 117 [.ag (dV a), .ag (dV b), .ag (dV c), .ag (dV d)] (bo (Pg.meets a b c d)) := by
 have hm : Pg.meets a b c d = ((pr a b c a b d && pr c d a c d b) || Pg.on a b c || Pg.on a b d || Pg.on c d a || Pg.on c d b) := by rw [pr_eq, pr_eq]; rfl
 rw [hm]
 let s1 : List F_ := [cl (e_side ba bb bc hk), cl (e_side ba bb bd hk)]
 let s2 : List F_ := [cl (e_side bc bd ba hk), cl (e_side bc bd bb hk)]
 let q1 : F_ := cl (e_on ba bb bc hk)
 let q2 : F_ := cl (e_on ba bb bd hk)
 let q3 : F_ := cl (e_on bc bd ba hk)
 let q4 : F_ := cl (e_on bc bd bb hk)
 cases h1 : pr a b c a b d with
 | true =>
   cases h2 : pr c d a c d b with
   | true => exact tr (s1 ++ ye (t := pr a b c a b d) h1 :: s2 ++ [ye (t := pr c d a c d b) h2]) (by kernel_rfl)
   | false =>
     cases g1 : Pg.on a b c with
     | true => exact tr (s1 ++ ye (t := pr a b c a b d) h1 :: s2 ++ [na (t := pr c d a c d b) h2, q1, ye g1, yt, yt]) (by kernel_rfl)
     | false =>
       cases g2 : Pg.on a b d with
       | true => exact tr (s1 ++ ye (t := pr a b c a b d) h1 :: s2 ++ [na (t := pr c d a c d b) h2, q1, na g1, q2, ye g2, yt]) (by kernel_rfl)
       | false =>
         cases g3 : Pg.on c d a with
         | true => exact tr (s1 ++ ye (t := pr a b c a b d) h1 :: s2 ++ [na (t := pr c d a c d b) h2, q1, na g1, q2, na g2, q3, ye g3]) (by kernel_rfl)
         | false => exact tr (s1 ++ ye (t := pr a b c a b d) h1 :: s2 ++ [na (t := pr c d a c d b) h2, q1, na g1, q2, na g2, q3, na g3, q4]) (by kernel_rfl)
 | false =>
   cases g1 : Pg.on a b c with
   | true => exact tr (s1 ++ [na (t := pr a b c a b d) h1, nf, q1, ye g1, yt, yt]) (by kernel_rfl)
   | false =>
     cases g2 : Pg.on a b d with
     | true => exact tr (s1 ++ [na (t := pr a b c a b d) h1, nf, q1, na g1, q2, ye g2, yt]) (by kernel_rfl)
     | false =>
       cases g3 : Pg.on c d a with
       | true => exact tr (s1 ++ [na (t := pr a b c a b d) h1, nf, q1, na g1, q2, na g2, q3, ye g3]) (by kernel_rfl)
       | false => exact tr (s1 ++ [na (t := pr a b c a b d) h1, nf, q1, na g1, q2, na g2, q3, na g3, q4]) (by kernel_rfl)
theorem half_bits : Bq 2 (Rat.divInt 1 2) := Bq.divInt (by unfold I.Bd; decide) (by unfold I.Bd; decide) (by omega)
theorem e_turn (a : Rat × Rat) : Pure PP 131 [.ag (dV a)] (.ag (dV (Pg.turn a))) := tr [cl (e_neg4 a.2)] (by kernel_rfl)
end
end Go.Proofs.YtnpdpjfdgialeaaGreatDoor.E
namespace Go.Proofs.YtnpdpjfdgialeaaGreatDoor
set_option maxHeartbeats 4000000
open Go.RowKit
attribute [local go_sem] run_store_one
set_option linter.unusedVariables false
set_option linter.unusedSimpArgs false
end Go.Proofs.YtnpdpjfdgialeaaGreatDoor
namespace Go.Proofs.YtnpdpjfdgialeaaGreatDoor
set_option maxHeartbeats 4000000
open Go.RowKit
attribute [local go_sem] run_store_one
set_option linter.unusedVariables false
set_option linter.unusedSimpArgs false
def Pg.btw (n a b c d : Rat × Rat) : Bool :=
 (decide (cmpQ (vdot n a) (vdot n c) < 0) && decide (cmpQ (vdot n a) (vdot n d) < 0) && decide (cmpQ (vdot n b) (vdot n c) < 0) && decide (cmpQ (vdot n b) (vdot n d) < 0)) ||
 (decide (0 < cmpQ (vdot n a) (vdot n c)) && decide (0 < cmpQ (vdot n a) (vdot n d)) && decide (0 < cmpQ (vdot n b) (vdot n c)) && decide (0 < cmpQ (vdot n b) (vdot n d)))
end Go.Proofs.YtnpdpjfdgialeaaGreatDoor
namespace Go.Proofs.YtnpdpjfdgialeaaGreatDoor
set_option maxHeartbeats 2000000
open Go.RowKit Go.Shelf
attribute [local go_sem] Oper.semAt_some
attribute [local go_sem] run_store_one
set_option linter.unusedVariables false
def Pg.ag (cs : Nat → Nat → Value) (i : Nat) : Value := .agg #[cs i 0, cs i 1, cs i 2, cs i 3, cs i 4, cs i 5, cs i 6, cs i 7]
end Go.Proofs.YtnpdpjfdgialeaaGreatDoor
namespace Go.Proofs.YtnpdpjfdgialeaaGreatDoor
set_option maxHeartbeats 4000000
open Go.RowKit Go.Shelf
attribute [local go_sem] Oper.semAt_some
attribute [local go_sem] run_store_one
set_option linter.unusedVariables false
/-- The side that begins at a corner. -/
def Pg.at_ (L : List (Rat × Rat)) (n i : Nat) : (Rat × Rat) × (Rat × Rat) := (L.getD i (0, 0), L.getD ((i + 1) % n) (0, 0))
theorem Pg.at_all (L : List (Rat × Rat)) (n : Nat) (hn : n = L.length) : (List.finRange n).map (fun x => Pg.at_ L n x.1) = Pg.sides L := by
 subst hn
 apply List.ext_getElem?
 intro i
 by_cases hi : i < L.length
 ·have h1 : L[i]? = some (L.getD i (0, 0)) := by simp [List.getElem?_eq_getElem hi, List.getD_eq_getElem?_getD]
  have h3 : (i + 1) % L.length < L.length := Nat.mod_lt _ (by omega)
  have h2 : L[(i + 1) % L.length]? = some (L.getD ((i + 1) % L.length) (0, 0)) := by simp [List.getElem?_eq_getElem h3, List.getD_eq_getElem?_getD]
  rw [Pg.sides_get L i _ _ h1 h2]
  simp [hi, Pg.at_]
 ·rw [List.getElem?_eq_none (by simp; omega), List.getElem?_eq_none (by rw [Pg.sides_len]; omega)]
theorem Pg.sum_bits {f : Rat × Rat → Rat × Rat → Rat} {k : Nat} : ∀ (ps : List ((Rat × Rat) × (Rat × Rat))), (∀ p ∈ ps, Bq k (f p.1 p.2)) → Bq ((k + 1) * ps.length + 1) (Pg.sum f ps)
 | [], _ => by
  rw [Pg.sum_nil]
  exact (show Bq 1 0 from ⟨by unfold I.Bd; decide, by unfold I.Bd; decide⟩).mono (by omega)
 | p :: t, h => by
  rw [Pg.sum_cons]
  exact ((h p (by simp)).add (Pg.sum_bits t (fun q hq => h q (by simp [hq])))).mono (by rw [List.length_cons, Nat.mul_add]; omega)
end Go.Proofs.YtnpdpjfdgialeaaGreatDoor
namespace Go.Proofs.YtnpdpjfdgialeaaGreatDoor
set_option maxHeartbeats 1000000
open Go.RowKit
attribute [local go_sem] run_store_one
set_option linter.unusedVariables false
end Go.Proofs.YtnpdpjfdgialeaaGreatDoor
namespace Go.Proofs.YtnpdpjfdgialeaaGreatDoor
set_option maxHeartbeats 1000000
open Go.RowKit
attribute [local go_sem] run_store_one
set_option linter.unusedVariables false
set_option linter.unusedSimpArgs false
end Go.Proofs.YtnpdpjfdgialeaaGreatDoor
namespace Go.Proofs.YtnpdpjfdgialeaaGreatDoor
set_option maxHeartbeats 4000000
open Go.RowKit
attribute [local go_sem] run_store_one
set_option linter.unusedVariables false
set_option linter.unusedSimpArgs false
/-- The five directions. -/
def Pg.dirs (a b c d : Rat × Rat) : List (Rat × Rat) := [Pg.turn (vsub b a), Pg.turn (vsub d c), vsub b a, vsub d c, vsub c a]
/-- No direction separates the segments. -/
def Pg.meets6 (a b c d : Rat × Rat) : Bool := (Pg.dirs a b c d).all fun n => !Pg.btw n a b c d
theorem Bv.turn {k : Nat} {v : Rat × Rat} (h : Bv k v) : Bv k (Pg.turn v) := ⟨h.2.neg, h.1⟩
end Go.Proofs.YtnpdpjfdgialeaaGreatDoor

namespace Go.Proofs.YtnpdpjfdgialeaaGreatDoor
set_option maxHeartbeats 4000000
open Go.RowKit
attribute [local go_sem] run_store_one
set_option linter.unusedVariables false
set_option linter.unusedSimpArgs false
theorem tr_bits {L : List (Rat × Rat)} {k : Nat} (hb : ∀ a ∈ L, Bv k a) (hn : L.length ≤ 100) (i : Nat) : Bq ((4 * k + 3) * 100 + 1) (Pg.sum (fun a b => (a.1 - b.1) * (a.2 + b.2)) ((Pg.sides L).take i)) := by
 refine (Pg.sum_bits (k := 4 * k + 2) _ (fun p hp => ?_)).mono ?_
 ·have h1 := List.mem_of_mem_take hp
  unfold Pg.sides at h1
  have h2 := List.of_mem_zip h1
  have h3 : p.2 ∈ L := by
   have := h2.2
   cases L with
   | nil => simp [Pg.rot] at this
   | cons a t => simp only [Pg.rot, List.mem_append, List.mem_singleton] at this; rcases this with h | h <;> simp [h]
  exact (((hb _ h2.1).1.sub (hb _ h3).1).mul ((hb _ h2.1).2.add (hb _ h3).2)).mono (by omega)
 ·have : ((Pg.sides L).take i).length ≤ 100 := by rw [List.length_take, Pg.sides_len]; omega
  exact Nat.add_le_add_right (Nat.mul_le_mul_left _ this) 1
theorem sides_at {L : List (Rat × Rat)} {n i : Nat} (hl : n = L.length) (hi : i < n) : (Pg.sides L)[i]? = some (L.getD i (0, 0), L.getD ((i + 1) % n) (0, 0)) := by
 subst hl
 have h3 : (i + 1) % L.length < L.length := Nat.mod_lt _ (by omega)
 exact Pg.sides_get L i _ _ (by simp [List.getElem?_eq_getElem hi, List.getD_eq_getElem?_getD]) (by simp [List.getElem?_eq_getElem h3, List.getD_eq_getElem?_getD])
theorem sum_take {f : Rat × Rat → Rat × Rat → Rat} {L : List (Rat × Rat)} {n i : Nat} (hl : n = L.length) (hi : i < n) : Pg.sum f ((Pg.sides L).take (i + 1)) = Pg.sum f ((Pg.sides L).take i) + f (L.getD i (0, 0)) (L.getD ((i + 1) % n) (0, 0)) := by
 have h1 := List.getElem?_eq_some_iff.1 (sides_at hl hi)
 rw [List.take_succ_eq_append_getElem h1.1, Pg.sum_snoc, h1.2]
end Go.Proofs.YtnpdpjfdgialeaaGreatDoor
namespace Go.Proofs.YtnpdpjfdgialeaaGreatDoor
set_option maxHeartbeats 4000000
open Go.RowKit
attribute [local go_sem] run_store_one
set_option linter.unusedVariables false
set_option linter.unusedSimpArgs false
def Pg.cor (L : List (Rat × Rat)) (i : Nat) : Rat × Rat := L.getD (i % L.length) (0, 0)
def Pg.p6 (L : List (Rat × Rat)) (i k : Nat) : Bool := (decide ((1 : Int) < (((k + L.length - i) % L.length : Nat) : Int)) && decide ((((k + L.length - i) % L.length : Nat) : Int) < ((L.length - 1 : Nat) : Int))) && Pg.meets6 (L.getD i (0, 0)) (Pg.cor L (i + 1)) (L.getD k (0, 0)) (Pg.cor L (k + 1))
def Pg.flat (L : List (Rat × Rat)) (i : Nat) : Bool := vside (L.getD i (0, 0)) (Pg.cor L (i + 1)) (Pg.cor L (i + 2)) == 0
def Pg.bad6 (L : List (Rat × Rat)) (i : Nat) : Bool := Pg.flat L i || (List.range L.length).any (Pg.p6 L i)
/-- A polygon is right. -/
def Pg.valid6 (L : List (Rat × Rat)) : Bool := decide (3 ≤ L.length) && decide (L.length ≤ 12) && !(List.range L.length).any (Pg.bad6 L) && decide (0 < sgnZ (Pg.area L).num)
theorem any_false {n : Nat} {p : Nat → Bool} (h : ∀ i, i < n → p i = false) : (List.range n).any p = false := by
 rw [List.any_eq_false]
 intro i hi
 rw [h i (List.mem_range.1 hi)]
 simp
theorem any_true {n i : Nat} {p : Nat → Bool} (hi : i < n) (h : p i = true) : (List.range n).any p = true := by
 rw [List.any_eq_true]
 exact ⟨i, List.mem_range.2 hi, h⟩
end Go.Proofs.YtnpdpjfdgialeaaGreatDoor
namespace Go.Proofs.YtnpdpjfdgialeaaGreatDoor
set_option maxHeartbeats 4000000
open Go.RowKit
attribute [local go_sem] run_store_one
set_option linter.unusedVariables false
set_option linter.unusedSimpArgs false
def Pg.q (L : List (Rat × Rat)) (i k : Nat) : Bool := ((((k + 1) % L.length : Nat) : Int) != (i : Int)) && Pg.meets (Pg.cor L i) (Pg.cor L (i + 1)) (Pg.cor L k) (Pg.cor L (k + 1))
def Pg.flatp (L : List (Rat × Rat)) (i : Nat) : Bool := vside (Pg.cor L i) (Pg.cor L (i + 1)) (Pg.cor L (i + 2)) == 0
def Pg.bad (L : List (Rat × Rat)) (i : Nat) : Bool := Pg.flatp L i || (List.range L.length).any (fun k => decide (i + 2 ≤ k) && Pg.q L i k)
/-- A polygon is right, as the program finds it. -/
def Pg.valid (L : List (Rat × Rat)) : Bool := decide (3 ≤ L.length) && decide (L.length ≤ 12) && !(List.range L.length).any (Pg.bad L) && decide (0 < sgnZ (Pg.area L).num)
end Go.Proofs.YtnpdpjfdgialeaaGreatDoor
namespace Go.Proofs.YtnpdpjfdgialeaaGreatDoor
set_option maxHeartbeats 4000000
open Go.RowKit
attribute [local go_sem] run_store_one
set_option linter.unusedVariables false
set_option linter.unusedSimpArgs false
end Go.Proofs.YtnpdpjfdgialeaaGreatDoor
namespace Go.Proofs.YtnpdpjfdgialeaaGreatDoor
set_option maxHeartbeats 4000000
open Go.RowKit
attribute [local go_sem] run_store_one
set_option linter.unusedVariables false
set_option linter.unusedSimpArgs false
theorem getD_bv {k : Nat} {L : List (Rat × Rat)} (h : ∀ a ∈ L, Bv k a) (i : Nat) (hi : i < L.length) : Bv k (L.getD i (0, 0)) := by
 refine h _ ?_
 rw [List.getD_eq_getElem?_getD, List.getElem?_eq_getElem hi]
 exact List.getElem_mem _
end Go.Proofs.YtnpdpjfdgialeaaGreatDoor
namespace Go.Proofs.YtnpdpjfdgialeaaGreatDoor
set_option maxHeartbeats 4000000
open Go.RowKit
attribute [local go_sem] run_store_one
set_option linter.unusedVariables false
set_option linter.unusedSimpArgs false
end Go.Proofs.YtnpdpjfdgialeaaGreatDoor
