/-
 THE WALKS of the reference's Valid, Convex.
-/
import Derived.Test.YtbaggkbleehegaaGreatEoP
import Derived.Test.YtbaggkbleehegaaGreatWalkUns
import Derived.Test.YtbaggkbleehegaaGreatRef5A
import Derived.Test.YtbaggkbleehegaaGreatWalkPlF
import Derived.Test.YtbaggkbleehegaaGreatFlowR
import Derived.RangeFuncNested
import Derived.RangeFuncBound
import Derived.RangeFuncCalls
import Derived.RangeFuncLeaves
import Derived.Shelf.Abstract
import Derived.Shelf.RegionOpen
import Derived.TacticsInMore
import Derived.LoopNIn
import Derived.LoopIn
import Derived.Deep.LoopGhost
namespace Go.Proofs.YtbaggkbleehegaaGreat.E
open Go.RowKit
set_option linter.unusedVariables false
section
variable {n : Int} {l : List Int} {i m : Nat} {P : Program}
theorem tmod_ (i m : Nat) : ((i : Int).tmod (m : Int)) = ((i % m : Nat) : Int) := (Int.ofNat_tmod i m).symm
theorem inc2_ {i : Nat} (h : i < 9223372036854775806) : IntKind.i64.wrap ((i : Int) + 2) = ((i + 2 : Nat) : Int) := by rw [IntKind.wrap_i64]; omega
def inc2 {P : Program} (t i : Nat) (h : i < 9223372036854775806) : Fa P := .eqv t (ni (IntKind.i64.wrap ((i : Int) + 2))) (ni ((i + 2 : Nat) : Int)) (by rw [inc2_ h])
def eq64 (t : Nat) (x : Int) (h : W.Is64 x) : Fa P := .eqv t (ni (IntKind.i64.wrap x)) (ni x) (by rw [wr_ h])
def rnd (n : Int) (m : Nat) : Int := (if n < 0 then -(n + 1) else n).tmod ((m + 1 : Nat) : Int)
theorem rnd_in (n : Int) (m : Nat) : 0 ≤ rnd n m ∧ rnd n m ≤ m := by
 unfold rnd
 have h : ∀ x : Int, 0 ≤ x → 0 ≤ x.tmod ((m + 1 : Nat) : Int) ∧ x.tmod ((m + 1 : Nat) : Int) ≤ m := fun x hx => ⟨Int.tmod_nonneg _ hx, by have := Int.tmod_lt_of_pos x (b := ((m + 1 : Nat) : Int)) (by omega); omega⟩
 split <;> exact h _ (by omega)
theorem e_around (hn : W.Is64 n) (m : Nat) : Pure PP 68 [ni n, ni ((m + 1 : Nat) : Int)] (ni (rnd n m)) := by
 have h64 := hn
 unfold W.Is64 at hn
 unfold rnd
 by_cases h : n < 0
 · rw [if_pos h]
   exact tr [ye (t := decide (n < 0)) (decide_eq_true h), eq64 8 (n + 1) (by unfold W.Is64; omega), .eqv 9 (ni (IntKind.i64.wrap (0 - (n + 1)))) (ni (-(n + 1))) (by rw [wr_ (by unfold W.Is64; omega), Int.zero_sub])] (by kernel_rfl)
 · rw [if_neg h]
   exact tr [na (t := decide (n < 0)) (decide_eq_false h)] (by kernel_rfl)
def atz (l : List Int) (i m : Nat) : Int := if i < l.length then rnd (l.getD i 0) m else 0
theorem atz_in (l : List Int) (i m : Nat) : 0 ≤ atz l i m ∧ atz l i m ≤ m := by
 unfold atz
 split
 · exact rnd_in _ _
 · omega
theorem e_at (hl : ∀ x ∈ l, W.Is64 x) (i m : Nat) : Pure PP 58 [zl l, ni i, ni ((m + 1 : Nat) : Int)] (ni (atz l i m)) := by
 have hz : (zs l).length = l.length := List.length_map ..
 unfold atz
 by_cases h : i < l.length
 · rw [if_pos h]
   have hx : W.Is64 (l.getD i 0) := hl _ (by rw [List.getD_eq_getElem?_getD, List.getElem?_eq_getElem h]; exact List.getElem_mem _)
   exact tr [na (t := decide ((i : Int) < 0)) (decide_eq_false (by omega)), na (t := decide (((zs l).length : Int) ≤ (i : Int))) (decide_eq_false (by omega)), .sel _ i _ (zs_el h), cl (e_around hx m)] (by kernel_rfl)
 · rw [if_neg h]
   exact tr [na (t := decide ((i : Int) < 0)) (decide_eq_false (by omega)), ye (t := decide (((zs l).length : Int) ≤ (i : Int))) (decide_eq_true (by omega))] (by kernel_rfl)
theorem i64 {x : Int} (h : -1000 ≤ x ∧ x ≤ 1000) : W.Is64 x := by unfold W.Is64; omega
theorem bq7 {r : Rat} (h : decide (r.num.natAbs < 2 ^ 7) = true) (g : decide (r.den < 2 ^ 7) = true) : Bq 7 r := ⟨by unfold I.Bd; simpa using h, by unfold I.Bd; simpa using g⟩
theorem lit_bits {L : List (Rat × Rat)} (h : L.all (fun a => decide (a.1.num.natAbs < 2 ^ 7) && decide (a.1.den < 2 ^ 7) && (decide (a.2.num.natAbs < 2 ^ 7) && decide (a.2.den < 2 ^ 7))) = true) : ∀ a ∈ L, Bv 7 a := fun a ha => by
 have := List.all_eq_true.1 h a ha
 simp only [Bool.and_eq_true] at this
 exact ⟨bq7 this.1.1 this.1.2, bq7 this.2.1 this.2.2⟩
end
end Go.Proofs.YtbaggkbleehegaaGreat.E
namespace Go.Proofs.YtbaggkbleehegaaGreat
open Go.RowKit
/-- The list that begins at the second corner. -/
def Pg.rot : List (Rat × Rat) → List (Rat × Rat)
 | [] => []
 | a :: t => t ++ [a]
theorem Pg.rot_len (l : List (Rat × Rat)) : (Pg.rot l).length = l.length := by cases l <;> simp [Pg.rot]
/-- The sides, in order. -/
def Pg.sides (l : List (Rat × Rat)) : List ((Rat × Rat) × (Rat × Rat)) := l.zip (Pg.rot l)
theorem Pg.sides_len (l : List (Rat × Rat)) : (Pg.sides l).length = l.length := by unfold Pg.sides; rw [List.length_zip, Pg.rot_len]; omega
theorem Pg.rot_get (l : List (Rat × Rat)) (i : Nat) (hi : i < l.length) : (Pg.rot l)[i]? = l[(i + 1) % l.length]? := by
 cases l with
 | nil => simp at hi
 | cons a t =>
  simp only [Pg.rot, List.length_cons] at hi ⊢
  by_cases h : i < t.length
  ·rw [List.getElem?_append_left h, Nat.mod_eq_of_lt (by omega), List.getElem?_cons_succ]
  ·have : i = t.length := by omega
   subst this
   rw [List.getElem?_append_right (Nat.le_refl _), Nat.sub_self, Nat.mod_self]
   rfl
theorem Pg.sides_get (l : List (Rat × Rat)) (i : Nat) (a b : Rat × Rat) (ha : l[i]? = some a) (hb : l[(i + 1) % l.length]? = some b) : (Pg.sides l)[i]? = some (a, b) := by
 have hi := (List.getElem?_eq_some_iff.1 ha).1
 unfold Pg.sides
 rw [List.getElem?_zip_eq_some]
 exact ⟨ha, by rw [Pg.rot_get l i hi]; exact hb⟩
/-- A sum over sides. -/
def Pg.sum (f : Rat × Rat → Rat × Rat → Rat) (ps : List ((Rat × Rat) × (Rat × Rat))) : Rat := ps.foldl (fun s p => s + f p.1 p.2) 0
theorem Pg.foldl_add {α : Type} (f : α → Rat) : ∀ (l : List α) (s : Rat), l.foldl (fun s x => s + f x) s = s + l.foldl (fun s x => s + f x) 0
 | [], s => by simp [Rat.add_zero]
 | x :: t, s => by
  rw [List.foldl_cons, List.foldl_cons, Pg.foldl_add f t (s + f x), Pg.foldl_add f t (0 + f x)]
  grind
theorem Pg.sum_cons (f : Rat × Rat → Rat × Rat → Rat) (p : (Rat × Rat) × (Rat × Rat)) (ps : List ((Rat × Rat) × (Rat × Rat))) : Pg.sum f (p :: ps) = f p.1 p.2 + Pg.sum f ps := by
 unfold Pg.sum
 rw [List.foldl_cons, Pg.foldl_add (fun p : (Rat × Rat) × (Rat × Rat) => f p.1 p.2)]
 grind
theorem Pg.sum_nil (f : Rat × Rat → Rat × Rat → Rat) : Pg.sum f [] = 0 := rfl
theorem Pg.sum_snoc (f : Rat × Rat → Rat × Rat → Rat) (ps : List ((Rat × Rat) × (Rat × Rat))) (p : (Rat × Rat) × (Rat × Rat)) : Pg.sum f (ps ++ [p]) = Pg.sum f ps + f p.1 p.2 := by
 unfold Pg.sum
 rw [List.foldl_append]
 rfl
theorem Pg.sum_add (f g : Rat × Rat → Rat × Rat → Rat) : ∀ ps, Pg.sum (fun a b => f a b + g a b) ps = Pg.sum f ps + Pg.sum g ps
 | [] => by simp [Pg.sum_nil, Rat.add_zero]
 | p :: t => by rw [Pg.sum_cons, Pg.sum_cons, Pg.sum_cons, Pg.sum_add f g t]; grind
theorem Pg.sum_congr {f g : Rat × Rat → Rat × Rat → Rat} (h : ∀ a b, f a b = g a b) (ps) : Pg.sum f ps = Pg.sum g ps := by
 rw [show f = g from funext fun a => funext fun b => h a b]
/-- Along a chain what is added and taken away goes. -/
theorem Pg.sum_chain (g : Rat × Rat → Rat) : ∀ (t : List (Rat × Rat)) (a c : Rat × Rat), Pg.sum (fun a b => g a - g b) ((a :: t).zip (t ++ [c])) = g a - g c
 | [], a, c => by simp [Pg.sum_cons, Pg.sum_nil, Rat.add_zero]
 | b :: t, a, c => by
  rw [List.cons_append, List.zip_cons_cons, Pg.sum_cons, Pg.sum_chain g t b c]
  grind
theorem Pg.sum_round (g : Rat × Rat → Rat) (l : List (Rat × Rat)) : Pg.sum (fun a b => g a - g b) (Pg.sides l) = 0 := by
 cases l with
 | nil => rfl
 | cons a t =>
  have := Pg.sum_chain g t a a
  unfold Pg.sides Pg.rot
  rw [this]
  grind
/-- The area. -/
def Pg.area (l : List (Rat × Rat)) : Rat := Pg.sum vcrs (Pg.sides l) * Rat.divInt 1 2
/-- The area by trapezoids. -/
def Pg.area6 (l : List (Rat × Rat)) : Rat := Pg.sum (fun a b => (a.1 - b.1) * (a.2 + b.2)) (Pg.sides l) * Rat.divInt 1 2
theorem Pg.area_eq (l : List (Rat × Rat)) : Pg.area6 l = Pg.area l := by
 unfold Pg.area6 Pg.area
 have h : Pg.sum (fun a b => (a.1 - b.1) * (a.2 + b.2)) (Pg.sides l) = Pg.sum (fun a b => vcrs a b + (a.1 * a.2 - b.1 * b.2)) (Pg.sides l) := Pg.sum_congr (fun a b => by unfold vcrs; grind) _
 rw [h, Pg.sum_add, Pg.sum_round (fun a => a.1 * a.2)]
 congr 1
 grind
/-- What one side gives to the centroid. -/
def Pg.fx (a b : Rat × Rat) : Rat := (a.1 + b.1) * vcrs a b
def Pg.fy (a b : Rat × Rat) : Rat := (a.2 + b.2) * vcrs a b
/-- The centroid. -/
def Pg.center (l : List (Rat × Rat)) : Rat × Rat := vsca (Pg.sum Pg.fx (Pg.sides l), Pg.sum Pg.fy (Pg.sides l)) (Rat.divInt 1 3 / Pg.sum vcrs (Pg.sides l))
/-- The triangles at the first corner. -/
def Pg.fan (l : List (Rat × Rat)) : List ((Rat × Rat) × (Rat × Rat)) := match l with
 | _ :: t => t.zip t.tail
 | [] => []
def Pg.tri (o a b : Rat × Rat) : Rat := vcrs (vsub a o) (vsub b o) * Rat.divInt 1 6
/-- A closed chain, seen from its first corner. -/
theorem Pg.sum_fan (F : Rat × Rat → Rat × Rat → Rat) (o : Rat × Rat) (hF : ∀ a b, F a b = - F b a) : ∀ (t : List (Rat × Rat)) (a : Rat × Rat),
  F o a + Pg.sum F ((a :: t).zip (t ++ [o])) = Pg.sum (fun a b => F o a + F a b + F b o) ((a :: t).zip t)
 | [], a => by
  simp only [List.nil_append, List.zip_cons_cons, List.zip_nil_right, Pg.sum_cons, Pg.sum_nil]
  have := hF o a
  grind
 | b :: t, a => by
  rw [List.cons_append, List.zip_cons_cons, List.zip_cons_cons, Pg.sum_cons, Pg.sum_cons]
  have h := Pg.sum_fan F o hF t b
  have h1 := hF o b
  grind
theorem Pg.div11 : (Rat.divInt 1 1 : Rat) = 1 := by decide +kernel
end Go.Proofs.YtbaggkbleehegaaGreat
namespace Go.Proofs.YtbaggkbleehegaaGreat
set_option maxHeartbeats 4000000
open Go.RowKit
attribute [local go_sem] run_store_one
set_option linter.unusedVariables false
set_option linter.unusedSimpArgs false
/-- Whether a point lies on a segment. -/
def Pg.on (a b p : Rat × Rat) : Bool := decide (vside a b p = 0) && decide (sgnZ (vdot (vsub a p) (vsub b p)).num ≤ 0)
/-- Whether two segments have a point in common. -/
def Pg.meets (a b c d : Rat × Rat) : Bool := (decide (vside a b c * vside a b d < 0) && decide (vside c d a * vside c d b < 0)) || Pg.on a b c || Pg.on a b d || Pg.on c d a || Pg.on c d b
end Go.Proofs.YtbaggkbleehegaaGreat
namespace Go.Proofs.YtbaggkbleehegaaGreat
set_option maxHeartbeats 4000000
open Go.RowKit
attribute [local go_sem] run_store_one
set_option linter.unusedVariables false
/-- The middle of two points. -/
def Pg.mid (a b : Rat × Rat) : Rat × Rat := vsca (vadd a b) (Rat.divInt 1 2)
/-- Turned by a quarter. -/
def Pg.turn (a : Rat × Rat) : Rat × Rat := (-a.2, a.1)
def Pg.less (r t : Rat) : Rat := if r < t then r else t
def Pg.more (r t : Rat) : Rat := if t < r then r else t
theorem half_bits : Bq 2 (Rat.divInt 1 2) := Bq.divInt (by unfold I.Bd; decide) (by unfold I.Bd; decide) (by omega)
end Go.Proofs.YtbaggkbleehegaaGreat
namespace Go.Proofs.YtbaggkbleehegaaGreat.E
open Go.RowKit
set_option linter.unusedVariables false
def dL (L : List (Rat × Rat)) : V := .sl (L.map dV)
section
variable {k : Nat}
variable {a b c d p : Rat × Rat} {r q x : Rat} {j : Nat}
theorem e_on (ba : Bv k a) (bb : Bv k b) (bp : Bv k p) (hk : 100 * k + 1000 ≤ 800000000000) : Pure PP 111 [.ag (dV a), .ag (dV b), .ag (dV p)] (bo (Pg.on a b p)) := by
 by_cases h : Go.Proofs.YtbaggkbleehegaaGreat.vside a b p = 0
 · rw [show Pg.on a b p = decide (sgnZ (vdot (vsub a p) (vsub b p)).num ≤ 0) by unfold Pg.on; rw [decide_eq_true h, Bool.true_and]]
   exact tr [cl (e_side ba bb bp hk), ye (t := Go.Proofs.YtbaggkbleehegaaGreat.vside a b p == 0) (by simp [h]), cl (e_vsub ba bp (by omega)), cl (e_vsub bb bp (by omega)), cl (e_vdot (ba.sub bp) (bb.sub bp) (by omega)), cl (e_rsign (vdot (vsub a p) (vsub b p)))] (by kernel_rfl)
 · rw [show Pg.on a b p = false by unfold Pg.on; rw [decide_eq_false h, Bool.false_and]]
   exact tr [cl (e_side ba bb bp hk), na (t := Go.Proofs.YtbaggkbleehegaaGreat.vside a b p == 0) (by simp [h])] (by kernel_rfl)
/-- The product of two sides. -/
def pr (a b c d e f : Rat × Rat) : Bool := decide (IntKind.i64.wrap (Go.Proofs.YtbaggkbleehegaaGreat.vside a b c * Go.Proofs.YtbaggkbleehegaaGreat.vside d e f) < 0)
theorem half_bits : Bq 2 (Rat.divInt 1 2) := Bq.divInt (by unfold I.Bd; decide) (by unfold I.Bd; decide) (by omega)
theorem e_turn (a : Rat × Rat) : Pure PP 159 [.ag (dV a)] (.ag (dV (Pg.turn a))) := tr [cl (e_neg4 a.2)] (by kernel_rfl)
theorem cmpQ_neg (r t : Rat) : decide (cmpQ r t < 0) = decide (r < t) := by
 unfold cmpQ
 split
 · simp [*]
 · split <;> simp [*]
theorem cmpQ_pos (r t : Rat) : decide (0 < cmpQ r t) = decide (t < r) := by
 unfold cmpQ
 split
 · rename_i h
   have : ¬ t < r := fun g => by grind
   simp [this]
 · split <;> simp [*]
end
end Go.Proofs.YtbaggkbleehegaaGreat.E
namespace Go.Proofs.YtbaggkbleehegaaGreat
set_option maxHeartbeats 4000000
open Go.RowKit
attribute [local go_sem] run_store_one
set_option linter.unusedVariables false
set_option linter.unusedSimpArgs false
end Go.Proofs.YtbaggkbleehegaaGreat
namespace Go.Proofs.YtbaggkbleehegaaGreat
set_option maxHeartbeats 4000000
open Go.RowKit
attribute [local go_sem] run_store_one
set_option linter.unusedVariables false
set_option linter.unusedSimpArgs false
def Pg.btw (n a b c d : Rat × Rat) : Bool :=
 (decide (cmpQ (vdot n a) (vdot n c) < 0) && decide (cmpQ (vdot n a) (vdot n d) < 0) && decide (cmpQ (vdot n b) (vdot n c) < 0) && decide (cmpQ (vdot n b) (vdot n d) < 0)) ||
 (decide (0 < cmpQ (vdot n a) (vdot n c)) && decide (0 < cmpQ (vdot n a) (vdot n d)) && decide (0 < cmpQ (vdot n b) (vdot n c)) && decide (0 < cmpQ (vdot n b) (vdot n d)))
end Go.Proofs.YtbaggkbleehegaaGreat
namespace Go.Proofs.YtbaggkbleehegaaGreat
set_option maxHeartbeats 2000000
open Go.RowKit Go.Shelf
attribute [local go_sem] Oper.semAt_some
attribute [local go_sem] run_store_one
set_option linter.unusedVariables false
/-- What a round keeps: what lies below n₀, and the box of the slice. -/
def K2 (n₀ Bs : Nat) (W W' : World) : Prop := Below n₀ W W' ∧ ∀ (cs : Array Value) (T : Nat) (fr : Nat × Nat), W.heap[Bs]? = some (.cells cs T fr) → W'.heap[Bs]? = some (.cells cs T fr)
theorem K2.trans {n₀ Bs : Nat} {A B C : World} (h : K2 n₀ Bs A B) (g : K2 n₀ Bs B C) : K2 n₀ Bs A C := ⟨h.1.trans g.1, fun cs T fr e => g.2 cs T fr (h.2 cs T fr e)⟩
theorem K2.put {n₀ Bs : Nat} {w : World} (hm : n₀ ≤ w.heap.size) (W : World) (l : Nat) (o o' : Obj) (hl : w.heap.size ≤ l) (ho : W.heap[l]? = some o) (hc : o.isCells = false) (hw : o.isWalk = false) : K2 n₀ Bs W (W.putObj l o') := by
 refine ⟨belowK_b (w := w) hm W l o o' hl ho hc hw, fun cs T fr e => ?_⟩
 by_cases hb : Bs = l
 ·subst hb
  rw [ho] at e
  injection e with e
  subst e
  cases hc
 ·rw [World.putObj_heap_other hb]; exact e
def Pg.ag (cs : Nat → Nat → Value) (i : Nat) : Value := .agg #[cs i 0, cs i 1, cs i 2, cs i 3, cs i 4, cs i 5, cs i 6, cs i 7]
/-- A row of vectors: its cells, and what they stand for. -/
structure PV (w : World) (n₀ : Nat) (A : Option Addr) (n c : Nat) (cs : Nat → Nat → Value) (L : List (Rat × Rat)) : Prop where
 len : n = L.length
 small : n ≤ 1000
 cap : n ≤ c
 mx : c ≤ maxLen
 one : ∀ i j, (cs i j).oneCell' = true
 at_ : 0 < n → ∃ b o, A = some ⟨b, o, none⟩ ∧ b < n₀ ∧ ∀ i, i < n → ∀ j, j < 8 → w.cell? ⟨b, o + i * 8 + j, none⟩ = some (cs i j)
 v : ∀ i a, L[i]? = some a → VecV w (cs i 0) (cs i 1) (cs i 2) (cs i 3) (cs i 4) (cs i 5) (cs i 6) (cs i 7) a
end Go.Proofs.YtbaggkbleehegaaGreat
namespace Go.Proofs.YtbaggkbleehegaaGreat
set_option maxHeartbeats 4000000
open Go.RowKit Go.Shelf
attribute [local go_sem] Oper.semAt_some
attribute [local go_sem] run_store_one
set_option linter.unusedVariables false
theorem PV.below {w w' : World} {A : Option Addr} {n c : Nat} {cs : Nat → Nat → Value} {L : List (Rat × Rat)} (h : PV w w.heap.size A n c cs L) (hb : Below w.heap.size w w') : PV w' w.heap.size A n c cs L := by
 refine ⟨h.len, h.small, h.cap, h.mx, h.one, fun hn => ?_, fun i a ha => (h.v i a ha).below hb⟩
 obtain ⟨b, o, h1, h2, h3⟩ := h.at_ hn
 exact ⟨b, o, h1, h2, fun i hi j hj => (hb.cell (p := ⟨b, o + i * 8 + j, none⟩) h2).trans (h3 i hi j hj)⟩
/-- The side that begins at a corner. -/
def Pg.at_ (L : List (Rat × Rat)) (n i : Nat) : (Rat × Rat) × (Rat × Rat) := (L.getD i (0, 0), L.getD ((i + 1) % n) (0, 0))
theorem Pg.at_all (L : List (Rat × Rat)) (n : Nat) (hn : n = L.length) : (List.finRange n).map (fun x => Pg.at_ L n x.1) = Pg.sides L := by
 subst hn
 apply List.ext_getElem?
 intro i
 by_cases hi : i < L.length
 ·have h1 : L[i]? = some (L.getD i (0, 0)) := by simp [List.getElem?_eq_getElem hi, List.getD_eq_getElem?_getD]
  have h3 : (i + 1) % L.length < L.length := Nat.mod_lt _ (by omega)
  have h2 : L[(i + 1) % L.length]? = some (L.getD ((i + 1) % L.length) (0, 0)) := by simp [List.getElem?_eq_getElem h3, List.getD_eq_getElem?_getD]
  rw [Pg.sides_get L i _ _ h1 h2]
  simp [hi, Pg.at_]
 ·rw [List.getElem?_eq_none (by simp; omega), List.getElem?_eq_none (by rw [Pg.sides_len]; omega)]
theorem Pg.sum_bits {f : Rat × Rat → Rat × Rat → Rat} {k : Nat} : ∀ (ps : List ((Rat × Rat) × (Rat × Rat))), (∀ p ∈ ps, Bq k (f p.1 p.2)) → Bq ((k + 1) * ps.length + 1) (Pg.sum f ps)
 | [], _ => by
  rw [Pg.sum_nil]
  exact (show Bq 1 0 from ⟨by unfold I.Bd; decide, by unfold I.Bd; decide⟩).mono (by omega)
 | p :: t, h => by
  rw [Pg.sum_cons]
  exact ((h p (by simp)).add (Pg.sum_bits t (fun q hq => h q (by simp [hq])))).mono (by rw [List.length_cons, Nat.mul_add]; omega)
end Go.Proofs.YtbaggkbleehegaaGreat
namespace Go.Proofs.YtbaggkbleehegaaGreat
set_option maxHeartbeats 1000000
open Go.RowKit
attribute [local go_sem] run_store_one
set_option linter.unusedVariables false
end Go.Proofs.YtbaggkbleehegaaGreat
namespace Go.Proofs.YtbaggkbleehegaaGreat
set_option maxHeartbeats 1000000
open Go.RowKit
attribute [local go_sem] run_store_one
set_option linter.unusedVariables false
set_option linter.unusedSimpArgs false
theorem PV.bel {w w' : World} {n₀ : Nat} {A : Option Addr} {n c : Nat} {cs : Nat → Nat → Value} {L : List (Rat × Rat)} (h : PV w n₀ A n c cs L) (hb : Below w.heap.size w w') (hn : n₀ ≤ w.heap.size) : PV w' n₀ A n c cs L := by
 refine ⟨h.len, h.small, h.cap, h.mx, h.one, fun hp => ?_, fun i a ha => (h.v i a ha).below hb⟩
 obtain ⟨b, o, h1, h2, h3⟩ := h.at_ hp
 exact ⟨b, o, h1, h2, fun i hi j hj => (hb.cell (p := ⟨b, o + i * 8 + j, none⟩) (Nat.lt_of_lt_of_le h2 hn)).trans (h3 i hi j hj)⟩
theorem PV.up {w : World} {n₀ n₁ : Nat} {A : Option Addr} {n c : Nat} {cs : Nat → Nat → Value} {L : List (Rat × Rat)} (h : PV w n₀ A n c cs L) (hn : n₀ ≤ n₁) : PV w n₁ A n c cs L := by
 refine ⟨h.len, h.small, h.cap, h.mx, h.one, fun hp => ?_, h.v⟩
 obtain ⟨b, o, h1, h2, h3⟩ := h.at_ hp
 exact ⟨b, o, h1, Nat.lt_of_lt_of_le h2 hn, h3⟩
/-- A row at a later world, below that world's size. -/
theorem PV.now {w w' : World} {A : Option Addr} {n c : Nat} {cs : Nat → Nat → Value} {L : List (Rat × Rat)} (h : PV w w.heap.size A n c cs L) (hb : Below w.heap.size w w') : PV w' w'.heap.size A n c cs L :=
 (h.bel hb (Nat.le_refl _)).up hb.size
theorem PV.el {w : World} {n₀ b o n c i : Nat} {cs : Nat → Nat → Value} {L : List (Rat × Rat)} (h : PV w n₀ (some ⟨b, o, none⟩) n c cs L) (hn : n₀ ≤ w.heap.size) (hi : i < n) :
  Cr w b (o + i * 8) [cs i 0, cs i 1, cs i 2, cs i 3, cs i 4, cs i 5, cs i 6, cs i 7] ∧ VecV w (cs i 0) (cs i 1) (cs i 2) (cs i 3) (cs i 4) (cs i 5) (cs i 6) (cs i 7) (L.getD i (0, 0)) := by
 obtain ⟨b', o', h1, h2, h3⟩ := h.at_ (by omega)
 injection h1 with h1
 injection h1 with e1 e2
 subst e1; subst e2
 have hl := h.len
 refine ⟨⟨Nat.lt_of_lt_of_le h2 hn, fun j x hx => ?_⟩, h.v i _ (by rw [List.getD_eq_getElem?_getD, List.getElem?_eq_getElem (by omega)]; rfl)⟩
 match j, hx with
 | 0, hx => injection hx with hx; subst hx; exact h3 i hi 0 (by omega)
 | 1, hx => injection hx with hx; subst hx; exact h3 i hi 1 (by omega)
 | 2, hx => injection hx with hx; subst hx; exact h3 i hi 2 (by omega)
 | 3, hx => injection hx with hx; subst hx; exact h3 i hi 3 (by omega)
 | 4, hx => injection hx with hx; subst hx; exact h3 i hi 4 (by omega)
 | 5, hx => injection hx with hx; subst hx; exact h3 i hi 5 (by omega)
 | 6, hx => injection hx with hx; subst hx; exact h3 i hi 6 (by omega)
 | 7, hx => injection hx with hx; subst hx; exact h3 i hi 7 (by omega)
 | j + 8, hx => simp at hx
/-- A row of vectors that the region made. -/
def SPV (W : World) (L : List (Rat × Rat)) : Sp := fun w v => ∃ b cs, v = .slice (some ⟨b, 0, none⟩) L.length L.length ∧ W.heap.size ≤ b ∧ PV w w.heap.size (some ⟨b, 0, none⟩) L.length L.length cs L
theorem SPV.mono (W : World) (L : List (Rat × Rat)) : Mono (SPV W L) := fun _ _ _ ⟨b, cs, h1, h2, h3⟩ hb => ⟨b, cs, h1, h2, h3.now hb⟩
theorem five_pv {w w' : World} {a0 a1 a2 a3 a4 a5 a6 a7 b0 b1 b2 b3 b4 b5 b6 b7 c0 c1 c2 c3 c4 c5 c6 c7 d0 d1 d2 d3 d4 d5 d6 d7 e0 e1 e2 e3 e4 e5 e6 e7 : Value} {va vb vc vd ve : Rat × Rat} (hva : VecV w a0 a1 a2 a3 a4 a5 a6 a7 va) (hvb : VecV w b0 b1 b2 b3 b4 b5 b6 b7 vb) (hvc : VecV w c0 c1 c2 c3 c4 c5 c6 c7 vc) (hvd : VecV w d0 d1 d2 d3 d4 d5 d6 d7 vd) (hve : VecV w e0 e1 e2 e3 e4 e5 e6 e7 ve) (hb : Below w.heap.size w w') (hx : Bx w' w.heap.size 43 [a0, a1, a2, a3, a4, a5, a6, a7, b0, b1, b2, b3, b4, b5, b6, b7, c0, c1, c2, c3, c4, c5, c6, c7, d0, d1, d2, d3, d4, d5, d6, d7, e0, e1, e2, e3, e4, e5, e6, e7]) :
  PV w' w'.heap.size (some ⟨w.heap.size, 0, none⟩) 5 5 (fun i j => [a0, a1, a2, a3, a4, a5, a6, a7, b0, b1, b2, b3, b4, b5, b6, b7, c0, c1, c2, c3, c4, c5, c6, c7, d0, d1, d2, d3, d4, d5, d6, d7, e0, e1, e2, e3, e4, e5, e6, e7].getD (i * 8 + j) (.bool false)) [va, vb, vc, vd, ve] := by
 refine ⟨rfl, by omega, Nat.le_refl _, by decide, fun i j => ?_, fun _ => ⟨_, _, rfl, hx.lt, fun i hi j hj => ?_⟩, fun i a ha => ?_⟩
 ·have hall : ∀ u ∈ [a0, a1, a2, a3, a4, a5, a6, a7, b0, b1, b2, b3, b4, b5, b6, b7, c0, c1, c2, c3, c4, c5, c6, c7, d0, d1, d2, d3, d4, d5, d6, d7, e0, e1, e2, e3, e4, e5, e6, e7], u.oneCell' = true := by
   simp only [List.mem_cons, List.not_mem_nil, or_false]
   rintro u (rfl | rfl | rfl | rfl | rfl | rfl | rfl | rfl | rfl | rfl | rfl | rfl | rfl | rfl | rfl | rfl | rfl | rfl | rfl | rfl | rfl | rfl | rfl | rfl | rfl | rfl | rfl | rfl | rfl | rfl | rfl | rfl | rfl | rfl | rfl | rfl | rfl | rfl | rfl | rfl)
   ·exact hva.one0
   ·exact hva.one1
   ·exact hva.one2
   ·exact hva.one3
   ·exact hva.one4
   ·exact hva.one5
   ·exact hva.one6
   ·exact hva.one7
   ·exact hvb.one0
   ·exact hvb.one1
   ·exact hvb.one2
   ·exact hvb.one3
   ·exact hvb.one4
   ·exact hvb.one5
   ·exact hvb.one6
   ·exact hvb.one7
   ·exact hvc.one0
   ·exact hvc.one1
   ·exact hvc.one2
   ·exact hvc.one3
   ·exact hvc.one4
   ·exact hvc.one5
   ·exact hvc.one6
   ·exact hvc.one7
   ·exact hvd.one0
   ·exact hvd.one1
   ·exact hvd.one2
   ·exact hvd.one3
   ·exact hvd.one4
   ·exact hvd.one5
   ·exact hvd.one6
   ·exact hvd.one7
   ·exact hve.one0
   ·exact hve.one1
   ·exact hve.one2
   ·exact hve.one3
   ·exact hve.one4
   ·exact hve.one5
   ·exact hve.one6
   ·exact hve.one7
  rw [List.getD_eq_getElem?_getD]
  cases h : [a0, a1, a2, a3, a4, a5, a6, a7, b0, b1, b2, b3, b4, b5, b6, b7, c0, c1, c2, c3, c4, c5, c6, c7, d0, d1, d2, d3, d4, d5, d6, d7, e0, e1, e2, e3, e4, e5, e6, e7][i * 8 + j]? with
  | none => rfl
  | some x => exact hall x (List.mem_of_getElem? h)
 ·have hlt : i * 8 + j < 40 := by omega
  refine hx.cell ?_
  rw [List.getD_eq_getElem?_getD, Nat.zero_add, List.getElem?_eq_getElem (by simpa using hlt)]
  rfl
 ·match i, ha with
  | 0, ha => injection ha with ha; subst ha; exact hva.below hb
  | 1, ha => injection ha with ha; subst ha; exact hvb.below hb
  | 2, ha => injection ha with ha; subst ha; exact hvc.below hb
  | 3, ha => injection ha with ha; subst ha; exact hvd.below hb
  | 4, ha => injection ha with ha; subst ha; exact hve.below hb
  | i + 5, ha => simp at ha
theorem Does.five {o : Oper} {a : Act} {wx W : World} {a0 a1 a2 a3 a4 a5 a6 a7 b0 b1 b2 b3 b4 b5 b6 b7 c0 c1 c2 c3 c4 c5 c6 c7 d0 d1 d2 d3 d4 d5 d6 d7 e0 e1 e2 e3 e4 e5 e6 e7 : Value} {va vb vc vd ve : Rat × Rat} (hr : (execOp a.eval o).run Tryz.prog wx = .ok (.value (.slice (some ⟨wx.heap.size, 0, none⟩) 5 5)) (wx.alloc (.cells #[a0, a1, a2, a3, a4, a5, a6, a7, b0, b1, b2, b3, b4, b5, b6, b7, c0, c1, c2, c3, c4, c5, c6, c7, d0, d1, d2, d3, d4, d5, d6, d7, e0, e1, e2, e3, e4, e5, e6, e7] 43))) (hva : VecV wx a0 a1 a2 a3 a4 a5 a6 a7 va) (hvb : VecV wx b0 b1 b2 b3 b4 b5 b6 b7 vb) (hvc : VecV wx c0 c1 c2 c3 c4 c5 c6 c7 vc) (hvd : VecV wx d0 d1 d2 d3 d4 d5 d6 d7 vd) (hve : VecV wx e0 e1 e2 e3 e4 e5 e6 e7 ve) (hW : W.heap.size ≤ wx.heap.size) : Does Tryz.prog o (SPV W [va, vb, vc, vd, ve]) false a wx := by
 have hb : Below wx.heap.size wx (wx.alloc (.cells #[a0, a1, a2, a3, a4, a5, a6, a7, b0, b1, b2, b3, b4, b5, b6, b7, c0, c1, c2, c3, c4, c5, c6, c7, d0, d1, d2, d3, d4, d5, d6, d7, e0, e1, e2, e3, e4, e5, e6, e7] 43)) := (Below.refl _ _).alloc (Nat.le_refl _) _
 exact .inl ⟨_, _, hr, hb, ⟨_, _, rfl, hW, five_pv hva hvb hvc hvd hve hb (Bx.new _ _ _)⟩, fun h => by cases h⟩
end Go.Proofs.YtbaggkbleehegaaGreat
namespace Go.Proofs.YtbaggkbleehegaaGreat
set_option maxHeartbeats 4000000
open Go.RowKit
attribute [local go_sem] run_store_one
set_option linter.unusedVariables false
set_option linter.unusedSimpArgs false
/-- The five directions. -/
def Pg.dirs (a b c d : Rat × Rat) : List (Rat × Rat) := [Pg.turn (vsub b a), Pg.turn (vsub d c), vsub b a, vsub d c, vsub c a]
/-- No direction separates the segments. -/
def Pg.meets6 (a b c d : Rat × Rat) : Bool := (Pg.dirs a b c d).all fun n => !Pg.btw n a b c d
theorem Bv.turn {k : Nat} {v : Rat × Rat} (h : Bv k v) : Bv k (Pg.turn v) := ⟨h.2.neg, h.1⟩
end Go.Proofs.YtbaggkbleehegaaGreat
namespace Go.Proofs.YtbaggkbleehegaaGreat
open Go.RowKit
set_option linter.unusedSimpArgs false
/-- Twice the area of a triangle. -/
def Pg.cr (a b c : Rat × Rat) : Rat := vcrs (vsub b a) (vsub c a)
theorem Pg.tri_ (x : Rat) : x < 0 ∨ x = 0 ∨ 0 < x := by grind
theorem Pg.neg_of {x y : Rat} (h : x * y < 0) : (x < 0 ∧ 0 < y) ∨ (0 < x ∧ y < 0) := by
 rcases Pg.tri_ x with hx | hx | hx
 ·rcases Pg.tri_ y with hy | hy | hy
  ·have := Rat.mul_pos (a := -x) (b := -y) (by grind) (by grind); grind
  ·subst hy; grind
  ·exact .inl ⟨hx, hy⟩
 ·subst hx; grind
 ·rcases Pg.tri_ y with hy | hy | hy
  ·exact .inr ⟨hx, hy⟩
  ·subst hy; grind
  ·have := Rat.mul_pos hx hy; grind
theorem Pg.mul_neg {x y : Rat} (h : x < 0) (g : 0 < y) : x * y < 0 := by
 have := Rat.mul_pos (a := -x) (b := y) (by grind) g; grind
def Pg.Less (n a b c d : Rat × Rat) : Prop := vdot n a < vdot n c ∧ vdot n a < vdot n d ∧ vdot n b < vdot n c ∧ vdot n b < vdot n d
/-- A direction has the first two points on one side of the others. -/
def Pg.Btw (n a b c d : Rat × Rat) : Prop := Pg.Less n a b c d ∨ Pg.Less n c d a b
def Pg.On (a b p : Rat × Rat) : Prop := Pg.cr a b p = 0 ∧ vdot (vsub a p) (vsub b p) ≤ 0
def Pg.Meet (a b c d : Rat × Rat) : Prop := (Pg.cr a b c * Pg.cr a b d < 0 ∧ Pg.cr c d a * Pg.cr c d b < 0) ∨ Pg.On a b c ∨ Pg.On a b d ∨ Pg.On c d a ∨ Pg.On c d b
theorem Pg.three {x y z : Rat} (hx : 0 < x) (hy : 0 < y) (hz : 0 ≤ z) (h : x + y + z = 0) : False := by grind
theorem Pg.less_comm {n a b c d : Rat × Rat} (h : Pg.Less n a b c d) : Pg.Less n a b d c := ⟨h.2.1, h.1, h.2.2.2, h.2.2.1⟩
theorem Pg.cr_swap (a b c : Rat × Rat) : Pg.cr a b c = - Pg.cr b a c := by unfold Pg.cr vcrs vsub; grind
theorem Pg.ext {a b : Rat × Rat} (h1 : a.1 = b.1) (h2 : a.2 = b.2) : a = b := Prod.ext h1 h2
theorem Pg.Btw.symm {n a b c d : Rat × Rat} (h : Pg.Btw n a b c d) : Pg.Btw n c d a b := Or.symm h
/-- Whether a vector lies to the left of a direction. -/
def Pg.H (d u : Rat × Rat) : Bool := decide (0 < vcrs d u)
/-- Whether the ray from p in a direction is met by a side, its ends told apart by the line of the ray. -/
def Pg.X (d p a b : Rat × Rat) : Bool := (Pg.H d (vsub a p) != Pg.H d (vsub b p)) && (decide (0 < Pg.cr p a b) == Pg.H d (vsub b p))
theorem Pg.nn {x y : Rat} (hx : x ≤ 0) (hy : y ≤ 0) : 0 ≤ x * y := by have := Rat.mul_nonneg (a := -x) (b := -y) (by grind) (by grind); grind
theorem Pg.neg_mul (x y : Rat) : x * y < 0 ↔ (x < 0 ∧ 0 < y) ∨ (0 < x ∧ y < 0) := by
 constructor
 ·exact Pg.neg_of
 ·rintro (⟨h, g⟩ | ⟨h, g⟩)
  ·exact Pg.mul_neg h g
  ·have := Pg.mul_neg g h; grind
end Go.Proofs.YtbaggkbleehegaaGreat
namespace Go.Proofs.YtbaggkbleehegaaGreat
set_option maxHeartbeats 4000000
open Go.RowKit
attribute [local go_sem] run_store_one
set_option linter.unusedVariables false
set_option linter.unusedSimpArgs false
theorem PV.bv {w : World} {n₀ k : Nat} {A : Option Addr} {n c i : Nat} {cs : Nat → Nat → Value} {L : List (Rat × Rat)} (h : PV w n₀ A n c cs L) (hb : ∀ a ∈ L, Bv k a) (hi : i < n) : Bv k (L.getD i (0, 0)) := by
 have hl := h.len
 refine hb _ ?_
 rw [List.getD_eq_getElem?_getD, List.getElem?_eq_getElem (by omega)]
 exact List.getElem_mem _
theorem tr_bits {L : List (Rat × Rat)} {k : Nat} (hb : ∀ a ∈ L, Bv k a) (hn : L.length ≤ 100) (i : Nat) : Bq ((4 * k + 3) * 100 + 1) (Pg.sum (fun a b => (a.1 - b.1) * (a.2 + b.2)) ((Pg.sides L).take i)) := by
 refine (Pg.sum_bits (k := 4 * k + 2) _ (fun p hp => ?_)).mono ?_
 ·have h1 := List.mem_of_mem_take hp
  unfold Pg.sides at h1
  have h2 := List.of_mem_zip h1
  have h3 : p.2 ∈ L := by
   have := h2.2
   cases L with
   | nil => simp [Pg.rot] at this
   | cons a t => simp only [Pg.rot, List.mem_append, List.mem_singleton] at this; rcases this with h | h <;> simp [h]
  exact (((hb _ h2.1).1.sub (hb _ h3).1).mul ((hb _ h2.1).2.add (hb _ h3).2)).mono (by omega)
 ·have : ((Pg.sides L).take i).length ≤ 100 := by rw [List.length_take, Pg.sides_len]; omega
  exact Nat.add_le_add_right (Nat.mul_le_mul_left _ this) 1
theorem sides_at {L : List (Rat × Rat)} {n i : Nat} (hl : n = L.length) (hi : i < n) : (Pg.sides L)[i]? = some (L.getD i (0, 0), L.getD ((i + 1) % n) (0, 0)) := by
 subst hl
 have h3 : (i + 1) % L.length < L.length := Nat.mod_lt _ (by omega)
 exact Pg.sides_get L i _ _ (by simp [List.getElem?_eq_getElem hi, List.getD_eq_getElem?_getD]) (by simp [List.getElem?_eq_getElem h3, List.getD_eq_getElem?_getD])
theorem sum_take {f : Rat × Rat → Rat × Rat → Rat} {L : List (Rat × Rat)} {n i : Nat} (hl : n = L.length) (hi : i < n) : Pg.sum f ((Pg.sides L).take (i + 1)) = Pg.sum f ((Pg.sides L).take i) + f (L.getD i (0, 0)) (L.getD ((i + 1) % n) (0, 0)) := by
 have h1 := List.getElem?_eq_some_iff.1 (sides_at hl hi)
 rw [List.take_succ_eq_append_getElem h1.1, Pg.sum_snoc, h1.2]
end Go.Proofs.YtbaggkbleehegaaGreat
namespace Go.Proofs.YtbaggkbleehegaaGreat
set_option maxHeartbeats 4000000
open Go.RowKit
attribute [local go_sem] run_store_one
set_option linter.unusedVariables false
set_option linter.unusedSimpArgs false
def Pg.cor (L : List (Rat × Rat)) (i : Nat) : Rat × Rat := L.getD (i % L.length) (0, 0)
def Pg.p6 (L : List (Rat × Rat)) (i k : Nat) : Bool := (decide ((1 : Int) < (((k + L.length - i) % L.length : Nat) : Int)) && decide ((((k + L.length - i) % L.length : Nat) : Int) < ((L.length - 1 : Nat) : Int))) && Pg.meets6 (L.getD i (0, 0)) (Pg.cor L (i + 1)) (L.getD k (0, 0)) (Pg.cor L (k + 1))
def Pg.flat (L : List (Rat × Rat)) (i : Nat) : Bool := vside (L.getD i (0, 0)) (Pg.cor L (i + 1)) (Pg.cor L (i + 2)) == 0
def Pg.bad6 (L : List (Rat × Rat)) (i : Nat) : Bool := Pg.flat L i || (List.range L.length).any (Pg.p6 L i)
/-- A polygon is right. -/
def Pg.valid6 (L : List (Rat × Rat)) : Bool := decide (3 ≤ L.length) && decide (L.length ≤ 12) && !(List.range L.length).any (Pg.bad6 L) && decide (0 < sgnZ (Pg.area L).num)
theorem any_false {n : Nat} {p : Nat → Bool} (h : ∀ i, i < n → p i = false) : (List.range n).any p = false := by
 rw [List.any_eq_false]
 intro i hi
 rw [h i (List.mem_range.1 hi)]
 simp
theorem any_true {n i : Nat} {p : Nat → Bool} (hi : i < n) (h : p i = true) : (List.range n).any p = true := by
 rw [List.any_eq_true]
 exact ⟨i, List.mem_range.2 hi, h⟩
end Go.Proofs.YtbaggkbleehegaaGreat
