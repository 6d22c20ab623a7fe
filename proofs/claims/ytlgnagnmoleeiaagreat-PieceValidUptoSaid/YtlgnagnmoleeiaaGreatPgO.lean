/-
 THE WALKS of the reference's Next and corner.
-/
import Derived.Test.YtlgnagnmoleeiaaGreatRef5D
import Derived.Test.YtlgnagnmoleeiaaGreatWalkPlF
import Derived.Test.YtlgnagnmoleeiaaGreatRef5G
import Derived.Test.YtlgnagnmoleeiaaGreatEmY
import Derived.Test.YtlgnagnmoleeiaaGreatFlowR
import Derived.RangeFuncNested
import Derived.RangeFuncBound
import Derived.RangeFuncCalls
import Derived.RangeFuncLeaves
import Derived.Shelf.Abstract
import Derived.Shelf.RegionOpen
import Derived.TacticsInMore
import Derived.LoopNIn
import Derived.LoopIn
namespace Go.Proofs.YtlgnagnmoleeiaaGreat.E
open Go.RowKit
set_option linter.unusedVariables false
section
variable {r t : Rat} {j k : Nat} {u v : Rat × Rat}
theorem sel_map {α β : Type} {f : α → β} {l : List α} {i : Nat} {x : α} (h : l[i]? = some x) : (l.map f)[i]? = some (f x) := by rw [List.getElem?_map, h]; rfl
theorem Bq.rsum {L : List Rat} (hb : ∀ r ∈ L, Bq k r) : ∀ i, i ≤ L.length → Bq ((i + 1) * (k + 1)) (rsum (L.take i))
 | 0, _ => by rw [List.take_zero]; exact (Bq.zero (by omega) : Bq ((0 + 1) * (k + 1)) 0)
 | i + 1, hi => by
  have h := List.getElem?_eq_getElem (l := L) (i := i) (by omega)
  rw [rsum_take h]
  refine ((Bq.rsum hb i (by omega)).add (hb _ (List.getElem_mem _))).mono ?_
  simp only [Nat.succ_mul]
  omega
def z4 : List V := [.k (.bool false), .nl, .k (.bool false), .nl]
theorem e_psum {L : List Rat} (hb : ∀ r ∈ L, Bq k r) (hk : (L.length + 2) * (k + 2) ≤ 1000000000000) : Pure PP 115 [.sl (L.map dR)] (.ag (dR (rsum L))) := by
 let X : Nat × List V → St := fun x => at_ (fnOf PP 115) [(2, .lp 0 0), (3, .lp 1 0), (6, .sl (L.map dR)), (7, ni (L.map dR).length), (8, ni x.1)] [.bx 28 z4, .bx 28 x.2]
 have hl : (L.map dR).length = L.length := List.length_map ..
 have hL : L.length * 2 ≤ (L.length + 2) * (k + 2) := Nat.mul_le_mul (by omega) (by omega)
 refine pf (by kernel_rfl) (.to mo_ [.wk 1] [2, 3, 6, 7, 8] [0, 1] 2 [] (td' := lp (fnOf PP 115) 0) (σ' := X (0, [bo false, .sl [], bo false, .sl []])) ?_ (by kernel_rfl))
 refine Gd.loop X (fun x => x.1 ≤ L.length ∧ x.2 = dR (rsum (L.take x.1))) (fun x => L.length - x.1) ?_ _ ⟨Nat.zero_le _, dR_0.symm⟩
 rintro ⟨i, cs⟩ ⟨hi, hcs⟩ ih
 simp only at hi hcs
 subst hcs
 by_cases h : i < L.length
 · have hr := List.getElem?_eq_getElem h
   have hbits : (i + 1) * (k + 1) + k + 1 ≤ (L.length + 2) * (k + 2) := by
    have := Nat.mul_le_mul (show i + 2 ≤ L.length + 2 by omega) (show k + 1 ≤ k + 2 by omega)
    rw [Nat.add_mul] at this ⊢
    omega
   exact .to mo_ [] [2, 3, 6, 7, 8] [0, 1] 2 [ye (t := decide ((i : Int) < ((L.map dR).length : Int))) (decide_eq_true (by omega)), .sel (L.map dR) i (dR L[i]) (sel_map hr), cl (e_radd (Bq.rsum hb i hi) (hb _ (List.getElem_mem h)) (by omega)), inc 15 i (by omega)]
    (ih (i + 1, dR (rsum (L.take i) + L[i])) ⟨h, by rw [rsum_take hr]⟩ (by simp only; omega)) (by kernel_rfl)
 · rw [show rsum L = rsum (L.take i) by rw [List.take_of_length_le (by omega)]]
   exact fi [na (t := decide ((i : Int) < ((L.map dR).length : Int))) (decide_eq_false (by omega))] (by kernel_rfl) (by kernel_rfl)
theorem e_sum2 (hr : Bq k r) (ht : Bq k t) (hk : 4 * k + 8 ≤ 1000000000000) : Pure PP 115 [.sl [dR r, dR t]] (.ag (dR (r + t))) := by
 rw [← rsum_two]
 exact e_psum (k := k) (L := [r, t]) (by simp [hr, ht]) (by simp; omega)
abbrev Li (j k : Nat) : Prop := 10 * (j + k) + 100 ≤ 800000000000
theorem e_vadd (bv : Bv j v) (bu : Bv k u) (hk : Li j k) : Pure PP 45 [.ag (dV v), .ag (dV u)] (.ag (dV (vadd v u))) :=
 tr [cl (e_radd bv.1 bu.1 (by omega)), cl (e_radd bv.2 bu.2 (by omega))] (by kernel_rfl)
theorem e_vsub (bv : Bv j v) (bu : Bv k u) (hk : Li j k) : Pure PP 168 [.ag (dV v), .ag (dV u)] (.ag (dV (vsub v u))) :=
 tr [cl (e_rsub bv.1 bu.1 (by omega)), cl (e_rsub bv.2 bu.2 (by omega))] (by kernel_rfl)
theorem e_vsca (bv : Bv j v) (br : Bq k r) (hk : Li j k) : Pure PP 46 [.ag (dV v), .ag (dR r)] (.ag (dV (vsca v r))) :=
 tr [cl (e_rmul bv.1 br (by omega)), cl (e_rmul bv.2 br (by omega))] (by kernel_rfl)
theorem e_vdot (bv : Bv j v) (bu : Bv k u) (hk : Li j k) : Pure PP 52 [.ag (dV v), .ag (dV u)] (.ag (dR (vdot v u))) :=
 tr [cl (e_rmul bv.1 bu.1 (by omega)), cl (e_rmul bv.2 bu.2 (by omega)), cl (e_sum2 (bv.1.mul bu.1) (bv.2.mul bu.2) (by omega))] (by kernel_rfl)
theorem e_vcrs (bv : Bv j v) (bu : Bv k u) (hk : Li j k) : Pure PP 109 [.ag (dV v), .ag (dV u)] (.ag (dR (vcrs v u))) := by
 unfold vcrs
 rw [Rat.sub_eq_add_neg]
 exact tr [cl (e_rmul bv.1 bu.2 (by omega)), cl (e_rmul bv.2 bu.1 (by omega)), cl (e_rneg (v.2 * u.1)), cl (e_sum2 (bv.1.mul bu.2) (bv.2.mul bu.1).neg (by omega))] (by kernel_rfl)
theorem e_vrot (bv : Bv j v) (bu : Bv k u) (hk : Li j k) : Pure PP 156 [.ag (dV v), .ag (dV u)] (.ag (dV (vrot v u))) := by
 rw [show vrot v u = (v.1 * u.1 + -(v.2 * u.2), v.2 * u.1 + v.1 * u.2) by unfold vrot; rw [Rat.sub_eq_add_neg]]
 exact tr [cl (e_rmul bv.1 bu.1 (by omega)), cl (e_rmul bv.2 bu.2 (by omega)), cl (e_rneg (v.2 * u.2)), cl (e_sum2 (bv.1.mul bu.1) (bv.2.mul bu.2).neg (by omega)), cl (e_rmul bv.2 bu.1 (by omega)), cl (e_rmul bv.1 bu.2 (by omega)), cl (e_sum2 (bv.2.mul bu.1) (bv.1.mul bu.2) (by omega))] (by kernel_rfl)
theorem e_vof {x y : Int} (hx : W.Is64 x) (hy : W.Is64 y) : Pure PP 76 [ni x, ni y] (.ag (dV (Rat.divInt x 1, Rat.divInt y 1))) :=
 tr [cl (e_of4 hx (y := 1) ⟨by decide, by decide⟩), cl (e_of4 hy (y := 1) ⟨by decide, by decide⟩)] (by kernel_rfl)
theorem e_vsub5 (bv : Bv j v) (bu : Bv k u) (hk : Li j k) : Pure PP 117 [.ag (dV v), .ag (dV u)] (.ag (dV (vsub v u))) :=
 tr [cl (e_sub4 bv.1 bu.1 (by omega)), cl (e_sub4 bv.2 bu.2 (by omega))] (by kernel_rfl)
theorem e_vdot5 (bv : Bv j v) (bu : Bv k u) (hk : Li j k) : Pure PP 119 [.ag (dV v), .ag (dV u)] (.ag (dR (vdot v u))) :=
 tr [cl (e_mul4 bv.1 bu.1 (by omega)), cl (e_mul4 bv.2 bu.2 (by omega)), cl (e_add4 (bv.1.mul bu.1) (bv.2.mul bu.2) (by omega))] (by kernel_rfl)
theorem e_vcrs5 (bv : Bv j v) (bu : Bv k u) (hk : Li j k) : Pure PP 161 [.ag (dV v), .ag (dV u)] (.ag (dR (vcrs v u))) :=
 tr [cl (e_mul4 bv.1 bu.2 (by omega)), cl (e_mul4 bv.2 bu.1 (by omega)), cl (e_sub4 (bv.1.mul bu.2) (bv.2.mul bu.1) (by omega))] (by kernel_rfl)
theorem e_side {a b c : Rat × Rat} (ba : Bv k a) (bb : Bv k b) (bc : Bv k c) (hk : 100 * k + 1000 ≤ 800000000000) : Pure PP 103 [.ag (dV a), .ag (dV b), .ag (dV c)] (ni (Go.Proofs.YtlgnagnmoleeiaaGreat.vside a b c)) :=
 tr [cl (e_vsub bb ba (by omega)), cl (e_vsub bc ba (by omega)), cl (e_vcrs (bb.sub ba) (bc.sub ba) (by omega)), cl (e_rsign (vcrs (vsub b a) (vsub c a)))] (by kernel_rfl)
theorem e_side5 {a b c : Rat × Rat} (ba : Bv k a) (bb : Bv k b) (bc : Bv k c) (hk : 100 * k + 1000 ≤ 800000000000) : Pure PP 133 [.ag (dV a), .ag (dV b), .ag (dV c)] (ni (Go.Proofs.YtlgnagnmoleeiaaGreat.vside a b c)) :=
 tr [cl (e_vsub5 bb ba (by omega)), cl (e_vsub5 bc ba (by omega)), cl (e_vcrs5 (bb.sub ba) (bc.sub ba) (by omega)), cl (e_sign4 (vcrs (vsub b a) (vsub c a)))] (by kernel_rfl)
def dPl (p : Pl) : List V := dV p.1 ++ dV p.2
theorem e_mover (p : Pl) : Pure PP 96 [.ag (dPl p)] (.v (.cl 157 [.ip (dPl p)])) := tr [] (by kernel_rfl)
theorem e_mover1 {p : Pl} (b1 : Bv j p.1) (b2 : Bv j p.2) (bu : Bv k u) (hk : 40 * (j + k) + 100 ≤ 800000000000) : Pure PP 157 [.ag (dV u), .ip (dPl p)] (.ag (dV (vput p u))) :=
 tr [cl (e_vrot b1 bu (by omega)), cl (e_vadd (b1.rot bu) b2 (by omega))] (by kernel_rfl)
theorem e_put {p : Pl} (b1 : Bv j p.1) (b2 : Bv j p.2) (bu : Bv k u) (hk : 40 * (j + k) + 100 ≤ 800000000000) : Pure PP 37 [.ag (dPl p), .ag (dV u)] (.ag (dV (vput p u))) :=
 tr [cl (e_mover p), cl (e_mover1 b1 b2 bu hk)] (by kernel_rfl)
theorem dq_inj {r t : Rat} (h : r.num = t.num) (g : dq r = dq t) : r = t := by
 have : r.den = t.den := by
  have h1 := r.den_nz
  have h2 := t.den_nz
  unfold dq at g
  split at g <;> split at g <;> omega
 exact Rat.ext h this
theorem e_same4 (r t : Rat) : Pure PP 48 [.ag (dR r), .ag (dR t)] (bo (decide (r = t))) := by
 by_cases h : r.num = t.num
 · rw [show decide (r = t) = decide (dq r = dq t) from decide_eq_decide.2 ⟨fun e => by rw [e], dq_inj h⟩]
   exact tr [cl (e_same3 r.num t.num), ye (decide_eq_true h), cl (e_same3 (dq r) (dq t))] (by kernel_rfl)
 · rw [show decide (r = t) = false from decide_eq_false fun e => h (by rw [e])]
   exact tr [cl (e_same3 r.num t.num), na (decide_eq_false h)] (by kernel_rfl)
theorem e_vsame5 (v u : Rat × Rat) : Pure PP 31 [.ag (dV v), .ag (dV u)] (bo (decide (v = u))) := by
 by_cases h : v.1 = u.1
 · rw [show decide (v = u) = decide (v.2 = u.2) from decide_eq_decide.2 ⟨fun e => by rw [e], fun e => Prod.ext h e⟩]
   exact tr [cl (e_same4 v.1 u.1), ye (decide_eq_true h), cl (e_same4 v.2 u.2)] (by kernel_rfl)
 · rw [show decide (v = u) = false from decide_eq_false fun e => h (by rw [e])]
   exact tr [cl (e_same4 v.1 u.1), na (decide_eq_false h)] (by kernel_rfl)
end
end Go.Proofs.YtlgnagnmoleeiaaGreat.E
namespace Go.Proofs.YtlgnagnmoleeiaaGreat.E
open Go.RowKit
set_option linter.unusedVariables false
section
variable {n : Int} {l : List Int} {i m : Nat} {P : Program}
theorem tmod_ (i m : Nat) : ((i : Int).tmod (m : Int)) = ((i % m : Nat) : Int) := (Int.ofNat_tmod i m).symm
theorem inc2_ {i : Nat} (h : i < 9223372036854775806) : IntKind.i64.wrap ((i : Int) + 2) = ((i + 2 : Nat) : Int) := by rw [IntKind.wrap_i64]; omega
def inc2 {P : Program} (t i : Nat) (h : i < 9223372036854775806) : Fa P := .eqv t (ni (IntKind.i64.wrap ((i : Int) + 2))) (ni ((i + 2 : Nat) : Int)) (by rw [inc2_ h])
def eq64 (t : Nat) (x : Int) (h : W.Is64 x) : Fa P := .eqv t (ni (IntKind.i64.wrap x)) (ni x) (by rw [wr_ h])
def rnd (n : Int) (m : Nat) : Int := (if n < 0 then -(n + 1) else n).tmod ((m + 1 : Nat) : Int)
theorem rnd_in (n : Int) (m : Nat) : 0 ≤ rnd n m ∧ rnd n m ≤ m := by
 unfold rnd
 have h : ∀ x : Int, 0 ≤ x → 0 ≤ x.tmod ((m + 1 : Nat) : Int) ∧ x.tmod ((m + 1 : Nat) : Int) ≤ m := fun x hx => ⟨Int.tmod_nonneg _ hx, by have := Int.tmod_lt_of_pos x (b := ((m + 1 : Nat) : Int)) (by omega); omega⟩
 split <;> exact h _ (by omega)
theorem e_around (hn : W.Is64 n) (m : Nat) : Pure PP 22 [ni n, ni ((m + 1 : Nat) : Int)] (ni (rnd n m)) := by
 have h64 := hn
 unfold W.Is64 at hn
 unfold rnd
 by_cases h : n < 0
 · rw [if_pos h]
   exact tr [ye (t := decide (n < 0)) (decide_eq_true h), eq64 8 (n + 1) (by unfold W.Is64; omega), .eqv 9 (ni (IntKind.i64.wrap (0 - (n + 1)))) (ni (-(n + 1))) (by rw [wr_ (by unfold W.Is64; omega), Int.zero_sub])] (by kernel_rfl)
 · rw [if_neg h]
   exact tr [na (t := decide (n < 0)) (decide_eq_false h)] (by kernel_rfl)
def atz (l : List Int) (i m : Nat) : Int := if i < l.length then rnd (l.getD i 0) m else 0
theorem atz_in (l : List Int) (i m : Nat) : 0 ≤ atz l i m ∧ atz l i m ≤ m := by
 unfold atz
 split
 · exact rnd_in _ _
 · omega
theorem e_at (hl : ∀ x ∈ l, W.Is64 x) (i m : Nat) : Pure PP 27 [zl l, ni i, ni ((m + 1 : Nat) : Int)] (ni (atz l i m)) := by
 have hz : (zs l).length = l.length := List.length_map ..
 unfold atz
 by_cases h : i < l.length
 · rw [if_pos h]
   have hx : W.Is64 (l.getD i 0) := hl _ (by rw [List.getD_eq_getElem?_getD, List.getElem?_eq_getElem h]; exact List.getElem_mem _)
   exact tr [na (t := decide ((i : Int) < 0)) (decide_eq_false (by omega)), na (t := decide (((zs l).length : Int) ≤ (i : Int))) (decide_eq_false (by omega)), .sel _ i _ (zs_el h), cl (e_around hx m)] (by kernel_rfl)
 · rw [if_neg h]
   exact tr [na (t := decide ((i : Int) < 0)) (decide_eq_false (by omega)), ye (t := decide (((zs l).length : Int) ≤ (i : Int))) (decide_eq_true (by omega))] (by kernel_rfl)
theorem i64 {x : Int} (h : -1000 ≤ x ∧ x ≤ 1000) : W.Is64 x := by unfold W.Is64; omega
theorem ei {f : FuncId} {ds : List V} {x y : Int} (h : Pure PP f ds (ni x)) (e : x = y) : Pure PP f ds (ni y) := e ▸ h
end
end Go.Proofs.YtlgnagnmoleeiaaGreat.E
namespace Go.Proofs.YtlgnagnmoleeiaaGreat
open Go.RowKit
/-- The list that begins at the second corner. -/
def Pg.rot : List (Rat × Rat) → List (Rat × Rat)
 | [] => []
 | a :: t => t ++ [a]
theorem Pg.rot_len (l : List (Rat × Rat)) : (Pg.rot l).length = l.length := by cases l <;> simp [Pg.rot]
/-- The sides, in order. -/
def Pg.sides (l : List (Rat × Rat)) : List ((Rat × Rat) × (Rat × Rat)) := l.zip (Pg.rot l)
theorem Pg.sides_len (l : List (Rat × Rat)) : (Pg.sides l).length = l.length := by unfold Pg.sides; rw [List.length_zip, Pg.rot_len]; omega
theorem Pg.rot_get (l : List (Rat × Rat)) (i : Nat) (hi : i < l.length) : (Pg.rot l)[i]? = l[(i + 1) % l.length]? := by
 cases l with
 | nil => simp at hi
 | cons a t =>
  simp only [Pg.rot, List.length_cons] at hi ⊢
  by_cases h : i < t.length
  ·rw [List.getElem?_append_left h, Nat.mod_eq_of_lt (by omega), List.getElem?_cons_succ]
  ·have : i = t.length := by omega
   subst this
   rw [List.getElem?_append_right (Nat.le_refl _), Nat.sub_self, Nat.mod_self]
   rfl
theorem Pg.sides_get (l : List (Rat × Rat)) (i : Nat) (a b : Rat × Rat) (ha : l[i]? = some a) (hb : l[(i + 1) % l.length]? = some b) : (Pg.sides l)[i]? = some (a, b) := by
 have hi := (List.getElem?_eq_some_iff.1 ha).1
 unfold Pg.sides
 rw [List.getElem?_zip_eq_some]
 exact ⟨ha, by rw [Pg.rot_get l i hi]; exact hb⟩
/-- A sum over sides. -/
def Pg.sum (f : Rat × Rat → Rat × Rat → Rat) (ps : List ((Rat × Rat) × (Rat × Rat))) : Rat := ps.foldl (fun s p => s + f p.1 p.2) 0
theorem Pg.foldl_add {α : Type} (f : α → Rat) : ∀ (l : List α) (s : Rat), l.foldl (fun s x => s + f x) s = s + l.foldl (fun s x => s + f x) 0
 | [], s => by simp [Rat.add_zero]
 | x :: t, s => by
  rw [List.foldl_cons, List.foldl_cons, Pg.foldl_add f t (s + f x), Pg.foldl_add f t (0 + f x)]
  grind
theorem Pg.sum_cons (f : Rat × Rat → Rat × Rat → Rat) (p : (Rat × Rat) × (Rat × Rat)) (ps : List ((Rat × Rat) × (Rat × Rat))) : Pg.sum f (p :: ps) = f p.1 p.2 + Pg.sum f ps := by
 unfold Pg.sum
 rw [List.foldl_cons, Pg.foldl_add (fun p : (Rat × Rat) × (Rat × Rat) => f p.1 p.2)]
 grind
theorem Pg.sum_nil (f : Rat × Rat → Rat × Rat → Rat) : Pg.sum f [] = 0 := rfl
theorem Pg.sum_snoc (f : Rat × Rat → Rat × Rat → Rat) (ps : List ((Rat × Rat) × (Rat × Rat))) (p : (Rat × Rat) × (Rat × Rat)) : Pg.sum f (ps ++ [p]) = Pg.sum f ps + f p.1 p.2 := by
 unfold Pg.sum
 rw [List.foldl_append]
 rfl
theorem Pg.sum_add (f g : Rat × Rat → Rat × Rat → Rat) : ∀ ps, Pg.sum (fun a b => f a b + g a b) ps = Pg.sum f ps + Pg.sum g ps
 | [] => by simp [Pg.sum_nil, Rat.add_zero]
 | p :: t => by rw [Pg.sum_cons, Pg.sum_cons, Pg.sum_cons, Pg.sum_add f g t]; grind
theorem Pg.sum_congr {f g : Rat × Rat → Rat × Rat → Rat} (h : ∀ a b, f a b = g a b) (ps) : Pg.sum f ps = Pg.sum g ps := by
 rw [show f = g from funext fun a => funext fun b => h a b]
/-- Along a chain what is added and taken away goes. -/
theorem Pg.sum_chain (g : Rat × Rat → Rat) : ∀ (t : List (Rat × Rat)) (a c : Rat × Rat), Pg.sum (fun a b => g a - g b) ((a :: t).zip (t ++ [c])) = g a - g c
 | [], a, c => by simp [Pg.sum_cons, Pg.sum_nil, Rat.add_zero]
 | b :: t, a, c => by
  rw [List.cons_append, List.zip_cons_cons, Pg.sum_cons, Pg.sum_chain g t b c]
  grind
theorem Pg.sum_round (g : Rat × Rat → Rat) (l : List (Rat × Rat)) : Pg.sum (fun a b => g a - g b) (Pg.sides l) = 0 := by
 cases l with
 | nil => rfl
 | cons a t =>
  have := Pg.sum_chain g t a a
  unfold Pg.sides Pg.rot
  rw [this]
  grind
/-- The area. -/
def Pg.area (l : List (Rat × Rat)) : Rat := Pg.sum vcrs (Pg.sides l) * Rat.divInt 1 2
/-- The area by trapezoids. -/
def Pg.area6 (l : List (Rat × Rat)) : Rat := Pg.sum (fun a b => (a.1 - b.1) * (a.2 + b.2)) (Pg.sides l) * Rat.divInt 1 2
theorem Pg.area_eq (l : List (Rat × Rat)) : Pg.area6 l = Pg.area l := by
 unfold Pg.area6 Pg.area
 have h : Pg.sum (fun a b => (a.1 - b.1) * (a.2 + b.2)) (Pg.sides l) = Pg.sum (fun a b => vcrs a b + (a.1 * a.2 - b.1 * b.2)) (Pg.sides l) := Pg.sum_congr (fun a b => by unfold vcrs; grind) _
 rw [h, Pg.sum_add, Pg.sum_round (fun a => a.1 * a.2)]
 congr 1
 grind
/-- What one side gives to the centroid. -/
def Pg.fx (a b : Rat × Rat) : Rat := (a.1 + b.1) * vcrs a b
def Pg.fy (a b : Rat × Rat) : Rat := (a.2 + b.2) * vcrs a b
/-- The centroid. -/
def Pg.center (l : List (Rat × Rat)) : Rat × Rat := vsca (Pg.sum Pg.fx (Pg.sides l), Pg.sum Pg.fy (Pg.sides l)) (Rat.divInt 1 3 / Pg.sum vcrs (Pg.sides l))
/-- The triangles at the first corner. -/
def Pg.fan (l : List (Rat × Rat)) : List ((Rat × Rat) × (Rat × Rat)) := match l with
 | _ :: t => t.zip t.tail
 | [] => []
def Pg.tri (o a b : Rat × Rat) : Rat := vcrs (vsub a o) (vsub b o) * Rat.divInt 1 6
/-- A closed chain, seen from its first corner. -/
theorem Pg.sum_fan (F : Rat × Rat → Rat × Rat → Rat) (o : Rat × Rat) (hF : ∀ a b, F a b = - F b a) : ∀ (t : List (Rat × Rat)) (a : Rat × Rat),
  F o a + Pg.sum F ((a :: t).zip (t ++ [o])) = Pg.sum (fun a b => F o a + F a b + F b o) ((a :: t).zip t)
 | [], a => by
  simp only [List.nil_append, List.zip_cons_cons, List.zip_nil_right, Pg.sum_cons, Pg.sum_nil]
  have := hF o a
  grind
 | b :: t, a => by
  rw [List.cons_append, List.zip_cons_cons, List.zip_cons_cons, Pg.sum_cons, Pg.sum_cons]
  have h := Pg.sum_fan F o hF t b
  have h1 := hF o b
  grind
end Go.Proofs.YtlgnagnmoleeiaaGreat
namespace Go.Proofs.YtlgnagnmoleeiaaGreat
set_option maxHeartbeats 4000000
open Go.RowKit
attribute [local go_sem] run_store_one
set_option linter.unusedVariables false
set_option linter.unusedSimpArgs false
/-- Whether a point lies on a segment. -/
def Pg.on (a b p : Rat × Rat) : Bool := decide (vside a b p = 0) && decide (sgnZ (vdot (vsub a p) (vsub b p)).num ≤ 0)
/-- Whether two segments have a point in common. -/
def Pg.meets (a b c d : Rat × Rat) : Bool := (decide (vside a b c * vside a b d < 0) && decide (vside c d a * vside c d b < 0)) || Pg.on a b c || Pg.on a b d || Pg.on c d a || Pg.on c d b
theorem side_rng (a b c : Rat × Rat) : vside a b c = -1 ∨ vside a b c = 0 ∨ vside a b c = 1 := by
 unfold vside sgnZ cmpZ
 split
 ·exact .inl rfl
 ·split
  ·exact .inr (.inr rfl)
  ·exact .inr (.inl rfl)
theorem side_mul64 (a b c d e f : Rat × Rat) : W.Is64 (vside a b c * vside d e f) := by
 rcases side_rng a b c with h | h | h <;> rcases side_rng d e f with g | g | g <;> rw [h, g] <;> exact ⟨by omega, by omega⟩
end Go.Proofs.YtlgnagnmoleeiaaGreat
namespace Go.Proofs.YtlgnagnmoleeiaaGreat
set_option maxHeartbeats 4000000
open Go.RowKit
attribute [local go_sem] run_store_one
set_option linter.unusedVariables false
/-- The middle of two points. -/
def Pg.mid (a b : Rat × Rat) : Rat × Rat := vsca (vadd a b) (Rat.divInt 1 2)
/-- Turned by a quarter. -/
def Pg.turn (a : Rat × Rat) : Rat × Rat := (-a.2, a.1)
def Pg.less (r t : Rat) : Rat := if r < t then r else t
def Pg.more (r t : Rat) : Rat := if t < r then r else t
theorem cmpQ_lt (r t : Rat) : decide (cmpQ r t < 0) = decide (r < t) := by
 unfold cmpQ
 by_cases h : r < t
 ·simp [h]
 ·by_cases g : t < r <;> simp [h, g]
theorem cmpQ_gt (r t : Rat) : decide (0 < cmpQ r t) = decide (t < r) := by
 unfold cmpQ
 by_cases h : r < t
 ·have : ¬ t < r := by grind
  simp [h, this]
 ·by_cases g : t < r <;> simp [h, g]
theorem half_bits : Bq 2 (Rat.divInt 1 2) := Bq.divInt (by unfold I.Bd; decide) (by unfold I.Bd; decide) (by omega)
end Go.Proofs.YtlgnagnmoleeiaaGreat
namespace Go.Proofs.YtlgnagnmoleeiaaGreat.E
open Go.RowKit
set_option linter.unusedVariables false
def dL (L : List (Rat × Rat)) : V := .sl (L.map dV)
section
variable {k : Nat}
variable {a b c d p : Rat × Rat} {r q x : Rat} {j : Nat}
theorem wr_side (a b c d e f : Rat × Rat) : IntKind.i64.wrap (Go.Proofs.YtlgnagnmoleeiaaGreat.vside a b c * Go.Proofs.YtlgnagnmoleeiaaGreat.vside d e f) = Go.Proofs.YtlgnagnmoleeiaaGreat.vside a b c * Go.Proofs.YtlgnagnmoleeiaaGreat.vside d e f := by
 have := side_mul64 a b c d e f
 unfold W.Is64 at this
 rw [IntKind.wrap_i64]
 omega
theorem e_on (ba : Bv k a) (bb : Bv k b) (bp : Bv k p) (hk : 100 * k + 1000 ≤ 800000000000) : Pure PP 188 [.ag (dV a), .ag (dV b), .ag (dV p)] (bo (Pg.on a b p)) := by
 by_cases h : Go.Proofs.YtlgnagnmoleeiaaGreat.vside a b p = 0
 · rw [show Pg.on a b p = decide (sgnZ (vdot (vsub a p) (vsub b p)).num ≤ 0) by unfold Pg.on; rw [decide_eq_true h, Bool.true_and]]
   exact tr [cl (e_side ba bb bp hk), ye (t := Go.Proofs.YtlgnagnmoleeiaaGreat.vside a b p == 0) (by simp [h]), cl (e_vsub ba bp (by omega)), cl (e_vsub bb bp (by omega)), cl (e_vdot (ba.sub bp) (bb.sub bp) (by omega)), cl (e_rsign (vdot (vsub a p) (vsub b p)))] (by kernel_rfl)
 · rw [show Pg.on a b p = false by unfold Pg.on; rw [decide_eq_false h, Bool.false_and]]
   exact tr [cl (e_side ba bb bp hk), na (t := Go.Proofs.YtlgnagnmoleeiaaGreat.vside a b p == 0) (by simp [h])] (by kernel_rfl)
/-- The product of two sides. -/
def pr (a b c d e f : Rat × Rat) : Bool := decide (IntKind.i64.wrap (Go.Proofs.YtlgnagnmoleeiaaGreat.vside a b c * Go.Proofs.YtlgnagnmoleeiaaGreat.vside d e f) < 0)
theorem pr_eq (a b c d e f : Rat × Rat) : pr a b c d e f = decide (Go.Proofs.YtlgnagnmoleeiaaGreat.vside a b c * Go.Proofs.YtlgnagnmoleeiaaGreat.vside d e f < 0) := by unfold pr; rw [wr_side]
theorem e_meets (ba : Bv k a) (bb : Bv k b) (bc : Bv k c) (bd : Bv k d) (hk : 100 * k + 1000 ≤ 800000000000) : Pure PP 131 [.ag (dV a), .ag (dV b), .ag (dV c), .ag (dV d)] (bo (Pg.meets a b c d)) := by
 have hm : Pg.meets a b c d = ((pr a b c a b d && pr c d a c d b) || Pg.on a b c || Pg.on a b d || Pg.on c d a || Pg.on c d b) := by rw [pr_eq, pr_eq]; rfl
 rw [hm]
 let s1 : List F_ := [cl (e_side ba bb bc hk), cl (e_side ba bb bd hk)]
 let s2 : List F_ := [cl (e_side bc bd ba hk), cl (e_side bc bd bb hk)]
 let q1 : F_ := cl (e_on ba bb bc hk)
 let q2 : F_ := cl (e_on ba bb bd hk)
 let q3 : F_ := cl (e_on bc bd ba hk)
 let q4 : F_ := cl (e_on bc bd bb hk)
 cases h1 : pr a b c a b d with
 | true =>
   cases h2 : pr c d a c d b with
   | true => exact tr (s1 ++ ye (t := pr a b c a b d) h1 :: s2 ++ [ye (t := pr c d a c d b) h2]) (by kernel_rfl)
   | false =>
     cases g1 : Pg.on a b c with
     | true => exact tr (s1 ++ ye (t := pr a b c a b d) h1 :: s2 ++ [na (t := pr c d a c d b) h2, q1, ye g1, yt, yt]) (by kernel_rfl)
     | false =>
       cases g2 : Pg.on a b d with
       | true => exact tr (s1 ++ ye (t := pr a b c a b d) h1 :: s2 ++ [na (t := pr c d a c d b) h2, q1, na g1, q2, ye g2, yt]) (by kernel_rfl)
       | false =>
         cases g3 : Pg.on c d a with
         | true => exact tr (s1 ++ ye (t := pr a b c a b d) h1 :: s2 ++ [na (t := pr c d a c d b) h2, q1, na g1, q2, na g2, q3, ye g3]) (by kernel_rfl)
         | false => exact tr (s1 ++ ye (t := pr a b c a b d) h1 :: s2 ++ [na (t := pr c d a c d b) h2, q1, na g1, q2, na g2, q3, na g3, q4]) (by kernel_rfl)
 | false =>
   cases g1 : Pg.on a b c with
   | true => exact tr (s1 ++ [na (t := pr a b c a b d) h1, nf, q1, ye g1, yt, yt]) (by kernel_rfl)
   | false =>
     cases g2 : Pg.on a b d with
     | true => exact tr (s1 ++ [na (t := pr a b c a b d) h1, nf, q1, na g1, q2, ye g2, yt]) (by kernel_rfl)
     | false =>
       cases g3 : Pg.on c d a with
       | true => exact tr (s1 ++ [na (t := pr a b c a b d) h1, nf, q1, na g1, q2, na g2, q3, ye g3]) (by kernel_rfl)
       | false => exact tr (s1 ++ [na (t := pr a b c a b d) h1, nf, q1, na g1, q2, na g2, q3, na g3, q4]) (by kernel_rfl)
theorem half_bits : Bq 2 (Rat.divInt 1 2) := Bq.divInt (by unfold I.Bd; decide) (by unfold I.Bd; decide) (by omega)
theorem e_turn (a : Rat × Rat) : Pure PP 189 [.ag (dV a)] (.ag (dV (Pg.turn a))) := tr [cl (e_neg4 a.2)] (by kernel_rfl)
end
end Go.Proofs.YtlgnagnmoleeiaaGreat.E
namespace Go.Proofs.YtlgnagnmoleeiaaGreat
set_option maxHeartbeats 4000000
open Go.RowKit
attribute [local go_sem] run_store_one
set_option linter.unusedVariables false
set_option linter.unusedSimpArgs false
end Go.Proofs.YtlgnagnmoleeiaaGreat
namespace Go.Proofs.YtlgnagnmoleeiaaGreat
set_option maxHeartbeats 4000000
open Go.RowKit
attribute [local go_sem] run_store_one
set_option linter.unusedVariables false
set_option linter.unusedSimpArgs false
def Pg.btw (n a b c d : Rat × Rat) : Bool :=
 (decide (cmpQ (vdot n a) (vdot n c) < 0) && decide (cmpQ (vdot n a) (vdot n d) < 0) && decide (cmpQ (vdot n b) (vdot n c) < 0) && decide (cmpQ (vdot n b) (vdot n d) < 0)) ||
 (decide (0 < cmpQ (vdot n a) (vdot n c)) && decide (0 < cmpQ (vdot n a) (vdot n d)) && decide (0 < cmpQ (vdot n b) (vdot n c)) && decide (0 < cmpQ (vdot n b) (vdot n d)))
end Go.Proofs.YtlgnagnmoleeiaaGreat
namespace Go.Proofs.YtlgnagnmoleeiaaGreat
set_option maxHeartbeats 2000000
open Go.RowKit Go.Shelf
attribute [local go_sem] Oper.semAt_some
attribute [local go_sem] run_store_one
set_option linter.unusedVariables false
/-- What a round keeps: what lies below n₀, and the box of the slice. -/
def K2 (n₀ Bs : Nat) (W W' : World) : Prop := Below n₀ W W' ∧ ∀ (cs : Array Value) (T : Nat) (fr : Nat × Nat), W.heap[Bs]? = some (.cells cs T fr) → W'.heap[Bs]? = some (.cells cs T fr)
theorem K2.trans {n₀ Bs : Nat} {A B C : World} (h : K2 n₀ Bs A B) (g : K2 n₀ Bs B C) : K2 n₀ Bs A C := ⟨h.1.trans g.1, fun cs T fr e => g.2 cs T fr (h.2 cs T fr e)⟩
theorem K2.put {n₀ Bs : Nat} {w : World} (hm : n₀ ≤ w.heap.size) (W : World) (l : Nat) (o o' : Obj) (hl : w.heap.size ≤ l) (ho : W.heap[l]? = some o) (hc : o.isCells = false) (hw : o.isWalk = false) : K2 n₀ Bs W (W.putObj l o') := by
 refine ⟨belowK_b (w := w) hm W l o o' hl ho hc hw, fun cs T fr e => ?_⟩
 by_cases hb : Bs = l
 ·subst hb
  rw [ho] at e
  injection e with e
  subst e
  cases hc
 ·rw [World.putObj_heap_other hb]; exact e
def Pg.ag (cs : Nat → Nat → Value) (i : Nat) : Value := .agg #[cs i 0, cs i 1, cs i 2, cs i 3, cs i 4, cs i 5, cs i 6, cs i 7]
/-- A row of vectors: its cells, and what they stand for. -/
structure PV (w : World) (n₀ : Nat) (A : Option Addr) (n c : Nat) (cs : Nat → Nat → Value) (L : List (Rat × Rat)) : Prop where
 len : n = L.length
 small : n ≤ 1000
 cap : n ≤ c
 mx : c ≤ maxLen
 one : ∀ i j, (cs i j).oneCell' = true
 at_ : 0 < n → ∃ b o, A = some ⟨b, o, none⟩ ∧ b < n₀ ∧ ∀ i, i < n → ∀ j, j < 8 → w.cell? ⟨b, o + i * 8 + j, none⟩ = some (cs i j)
 v : ∀ i a, L[i]? = some a → VecV w (cs i 0) (cs i 1) (cs i 2) (cs i 3) (cs i 4) (cs i 5) (cs i 6) (cs i 7) a
end Go.Proofs.YtlgnagnmoleeiaaGreat
namespace Go.Proofs.YtlgnagnmoleeiaaGreat
set_option maxHeartbeats 4000000
open Go.RowKit Go.Shelf
attribute [local go_sem] Oper.semAt_some
attribute [local go_sem] run_store_one
set_option linter.unusedVariables false
theorem PV.below {w w' : World} {A : Option Addr} {n c : Nat} {cs : Nat → Nat → Value} {L : List (Rat × Rat)} (h : PV w w.heap.size A n c cs L) (hb : Below w.heap.size w w') : PV w' w.heap.size A n c cs L := by
 refine ⟨h.len, h.small, h.cap, h.mx, h.one, fun hn => ?_, fun i a ha => (h.v i a ha).below hb⟩
 obtain ⟨b, o, h1, h2, h3⟩ := h.at_ hn
 exact ⟨b, o, h1, h2, fun i hi j hj => (hb.cell (p := ⟨b, o + i * 8 + j, none⟩) h2).trans (h3 i hi j hj)⟩
/-- The side that begins at a corner. -/
def Pg.at_ (L : List (Rat × Rat)) (n i : Nat) : (Rat × Rat) × (Rat × Rat) := (L.getD i (0, 0), L.getD ((i + 1) % n) (0, 0))
theorem Pg.at_all (L : List (Rat × Rat)) (n : Nat) (hn : n = L.length) : (List.finRange n).map (fun x => Pg.at_ L n x.1) = Pg.sides L := by
 subst hn
 apply List.ext_getElem?
 intro i
 by_cases hi : i < L.length
 ·have h1 : L[i]? = some (L.getD i (0, 0)) := by simp [List.getElem?_eq_getElem hi, List.getD_eq_getElem?_getD]
  have h3 : (i + 1) % L.length < L.length := Nat.mod_lt _ (by omega)
  have h2 : L[(i + 1) % L.length]? = some (L.getD ((i + 1) % L.length) (0, 0)) := by simp [List.getElem?_eq_getElem h3, List.getD_eq_getElem?_getD]
  rw [Pg.sides_get L i _ _ h1 h2]
  simp [hi, Pg.at_]
 ·rw [List.getElem?_eq_none (by simp; omega), List.getElem?_eq_none (by rw [Pg.sides_len]; omega)]
theorem Pg.sum_bits {f : Rat × Rat → Rat × Rat → Rat} {k : Nat} : ∀ (ps : List ((Rat × Rat) × (Rat × Rat))), (∀ p ∈ ps, Bq k (f p.1 p.2)) → Bq ((k + 1) * ps.length + 1) (Pg.sum f ps)
 | [], _ => by
  rw [Pg.sum_nil]
  exact (show Bq 1 0 from ⟨by unfold I.Bd; decide, by unfold I.Bd; decide⟩).mono (by omega)
 | p :: t, h => by
  rw [Pg.sum_cons]
  exact ((h p (by simp)).add (Pg.sum_bits t (fun q hq => h q (by simp [hq])))).mono (by rw [List.length_cons, Nat.mul_add]; omega)
end Go.Proofs.YtlgnagnmoleeiaaGreat
namespace Go.Proofs.YtlgnagnmoleeiaaGreat
set_option maxHeartbeats 1000000
open Go.RowKit
attribute [local go_sem] run_store_one
set_option linter.unusedVariables false
end Go.Proofs.YtlgnagnmoleeiaaGreat
