/-
 POLYGONS that are moved, and parted: plain.
-/
import Derived.Test.YtcfejkpadcccbaaGreatPgR
namespace Go.Proofs.YtcfejkpadcccbaaGreat
open Go.RowKit
set_option linter.unusedVariables false
set_option linter.unusedSimpArgs false
/-- A place whose turn has the length 1. -/
def Pg.Unit (p : Pl) : Prop := p.1.1 * p.1.1 + p.1.2 * p.1.2 = 1
theorem Pg.vput_motion {p : Pl} (hu : Pg.Unit p) : Pg.Motion (vput p) := by
 unfold Pg.Unit at hu
 refine ⟨fun a b c => ?_, fun a b c => ?_⟩
 · have h : Pg.cr (vput p a) (vput p b) (vput p c) = (p.1.1 * p.1.1 + p.1.2 * p.1.2) * Pg.cr a b c := by unfold Pg.cr vcrs vsub vput vadd vrot; grind
   rw [h, hu, Rat.one_mul]
 · have h : vdot (vsub (vput p a) (vput p c)) (vsub (vput p b) (vput p c)) = (p.1.1 * p.1.1 + p.1.2 * p.1.2) * vdot (vsub a c) (vsub b c) := by unfold vdot vsub vput vadd vrot; grind
   rw [h, hu, Rat.one_mul]
theorem Pg.inv_put {p : Pl} (hu : Pg.Unit p) (a : Rat × Rat) : vput (vinv p) (vput p a) = a := by
 unfold Pg.Unit at hu
 have hm : (Rat.divInt (-1) 1 : Rat) = -1 := by decide +kernel
 unfold vput vinv vbak vrot vadd vsca
 simp only [hm]
 refine Prod.ext ?_ ?_ <;> grind
theorem Pg.vrot_ne {t : Rat × Rat} (hu : t.1 * t.1 + t.2 * t.2 = 1) : vrot t (1, 0) ≠ (0, 0) := by
 intro e
 have h1 := congrArg Prod.fst e
 have h2 := congrArg Prod.snd e
 unfold vrot at h1 h2
 simp only at h1 h2
 grind
theorem Pg.X_put {p : Pl} (hu : Pg.Unit p) (d x a b : Rat × Rat) : Pg.X (vrot p.1 d) (vput p x) (vput p a) (vput p b) = Pg.X d x a b := by
 have hc : ∀ u v : Rat × Rat, vcrs (vrot p.1 u) (vrot p.1 v) = vcrs u v := by
  intro u v
  unfold Pg.Unit at hu
  have h : vcrs (vrot p.1 u) (vrot p.1 v) = (p.1.1 * p.1.1 + p.1.2 * p.1.2) * vcrs u v := by unfold vcrs vrot; grind
  rw [h, hu, Rat.one_mul]
 have hs : ∀ u v : Rat × Rat, vsub (vput p u) (vput p v) = vrot p.1 (vsub u v) := by
  intro u v
  unfold vsub vput vadd vrot
  refine Prod.ext ?_ ?_ <;> grind
 unfold Pg.X Pg.H
 rw [hs, hs, hc, hc, (Pg.vput_motion hu).cr]
theorem Pg.sides_map (g : Rat × Rat → Rat × Rat) (L : List (Rat × Rat)) : Pg.sides (L.map g) = (Pg.sides L).map fun x => (g x.1, g x.2) := by
 unfold Pg.sides
 have : Pg.rot (L.map g) = (Pg.rot L).map g := by cases L <;> simp [Pg.rot]
 rw [this, List.zip_map]
 rfl
theorem Pg.parS_map (f : Rat × Rat → Rat × Rat → Bool) (g : Rat × Rat → Rat × Rat) : ∀ ps, Pg.parS f (ps.map fun x => (g x.1, g x.2)) = Pg.parS (fun a b => f (g a) (g b)) ps
 | [] => rfl
 | x :: t => by rw [List.map_cons, Pg.parS, Pg.parS, Pg.parS_map f g t]
theorem Pg.has_put {p : Pl} (hu : Pg.Unit p) (L : List (Rat × Rat)) (x : Rat × Rat) : Pg.has (L.map (vput p)) (vput p x) = Pg.has L x := by
 rw [Pg.has_D, Pg.has_D, Pg.hasD_any (e := vrot p.1 (1, 0)) _ _ (by decide) (Pg.vrot_ne hu)]
 unfold Pg.hasD
 rw [Pg.sides_map, Pg.parS_map, List.any_map]
 have h1 : ((fun x_1 : (Rat × Rat) × (Rat × Rat) => Pg.on x_1.1 x_1.2 (vput p x)) ∘ fun x : (Rat × Rat) × (Rat × Rat) => (vput p x.1, vput p x.2)) = fun y => Pg.on y.1 y.2 x := by
  funext y
  show Pg.on (vput p y.1) (vput p y.2) (vput p x) = _
  rw [Bool.eq_iff_iff, on_iff, on_iff, (Pg.vput_motion hu).on]
 have h2 : (fun a b => Pg.X (vrot p.1 (1, 0)) (vput p x) (vput p a) (vput p b)) = Pg.X (1, 0) x := by
  funext a b
  exact Pg.X_put hu _ _ _ _
 rw [h1, h2]
theorem Pg.one_div {x : Rat} (h : x ≠ 0) : x * (Rat.divInt 1 1 / x) = 1 := by rw [Pg.div11, Rat.div_def, Rat.one_mul, Rat.mul_inv_cancel _ h]
theorem Pg.center_put {p : Pl} (hu : Pg.Unit p) {L : List (Rat × Rat)} (ha : Pg.area L ≠ 0) : Pg.center (L.map (vput p)) = vput p (Pg.center L) := by
 have hM := Pg.vput_motion hu
 cases L with
 | nil => exact absurd (show Pg.area [] = 0 by decide +kernel) ha
 | cons o t =>
   have hA := hM.area (o :: t)
   rw [← Pg.center_eq, ← Pg.center_eq]
   unfold Pg.center6
   rw [Pg.area_eq, Pg.area_eq, hA, if_neg ha, if_neg ha]
   have h3 : Pg.sum (Pg.tri o) (t.zip t.tail) * 3 = Pg.area (o :: t) := by
    rw [Pg.area_fan, Pg.sum_congr (f := Pg.tri o) (g := fun a b => Pg.cr o a b * Rat.divInt 1 6) (fun a b => rfl), Pg.sum_smul, Pg.div16, Pg.div12]
    grind
   have ht : ∀ a b, Pg.tri (vput p o) (vput p a) (vput p b) = Pg.tri o a b := fun a b => by
    show Pg.cr (vput p o) (vput p a) (vput p b) * _ = Pg.cr o a b * _
    rw [hM.cr]
   have h1 := Pg.one_div ha
   generalize Rat.divInt 1 1 / Pg.area (o :: t) = q at h1
   rw [List.map_cons]
   show vsca (Pg.sum (fun a b => ((vput p o).1 + a.1 + b.1) * Pg.tri (vput p o) a b) ((t.map (vput p)).zip (t.map (vput p)).tail), Pg.sum (fun a b => ((vput p o).2 + a.2 + b.2) * Pg.tri (vput p o) a b) ((t.map (vput p)).zip (t.map (vput p)).tail)) q = vput p (vsca (Pg.sum (fun a b => (o.1 + a.1 + b.1) * Pg.tri o a b) (t.zip t.tail), Pg.sum (fun a b => (o.2 + a.2 + b.2) * Pg.tri o a b) (t.zip t.tail)) q)
   rw [← List.map_tail, Pg.sum_map, Pg.sum_map]
   generalize hps : t.zip t.tail = ps at h3
   have hx : Pg.sum (fun a b => ((vput p o).1 + (vput p a).1 + (vput p b).1) * Pg.tri (vput p o) (vput p a) (vput p b)) ps = Pg.sum (fun a b => (o.1 + a.1 + b.1) * Pg.tri o a b) ps * p.1.1 + (Pg.sum (fun a b => (o.2 + a.2 + b.2) * Pg.tri o a b) ps * -p.1.2 + Pg.sum (Pg.tri o) ps * (3 * p.2.1)) := by
    rw [← Pg.sum_smul, ← Pg.sum_smul, ← Pg.sum_smul, ← Pg.sum_add, ← Pg.sum_add]
    refine Pg.sum_congr (fun a b => ?_) _
    rw [ht]
    unfold vput vadd vrot
    grind
   have hy : Pg.sum (fun a b => ((vput p o).2 + (vput p a).2 + (vput p b).2) * Pg.tri (vput p o) (vput p a) (vput p b)) ps = Pg.sum (fun a b => (o.1 + a.1 + b.1) * Pg.tri o a b) ps * p.1.2 + (Pg.sum (fun a b => (o.2 + a.2 + b.2) * Pg.tri o a b) ps * p.1.1 + Pg.sum (Pg.tri o) ps * (3 * p.2.2)) := by
    rw [← Pg.sum_smul, ← Pg.sum_smul, ← Pg.sum_smul, ← Pg.sum_add, ← Pg.sum_add]
    refine Pg.sum_congr (fun a b => ?_) _
    rw [ht]
    unfold vput vadd vrot
    grind
   rw [hx, hy]
   generalize Pg.sum (fun a b => (o.1 + a.1 + b.1) * Pg.tri o a b) ps = u
   generalize Pg.sum (fun a b => (o.2 + a.2 + b.2) * Pg.tri o a b) ps = v
   generalize Pg.sum (Pg.tri o) ps = s at h3
   rw [← h3] at h1
   unfold vsca vput vadd vrot
   refine Prod.ext ?_ ?_ <;> grind
/-- The two parts of a chain. -/
theorem Pg.sum_append (f : Rat × Rat → Rat × Rat → Rat) : ∀ ps qs, Pg.sum f (ps ++ qs) = Pg.sum f ps + Pg.sum f qs
 | [], qs => by rw [List.nil_append, Pg.sum_nil, Rat.zero_add]
 | x :: t, qs => by rw [List.cons_append, Pg.sum_cons, Pg.sum_cons, Pg.sum_append f t qs]; grind
theorem Pg.chn_append (b c : Rat × Rat) (v : List (Rat × Rat)) : ∀ (u : List (Rat × Rat)) (a : Rat × Rat), Pg.chn a (u ++ b :: v) c = Pg.chn a u b ++ Pg.chn b v c
 | [], a => rfl
 | x :: u, a => by
  show (a, x) :: Pg.chn x (u ++ b :: v) c = (a, x) :: (Pg.chn x u b ++ Pg.chn b v c)
  rw [Pg.chn_append b c v u x]
theorem Pg.sum_parts {f : Rat × Rat → Rat × Rat → Rat} (hf : ∀ a b, f a b = - f b a) (a b : Rat × Rat) (u v : List (Rat × Rat)) : Pg.sum f (Pg.sides (a :: u ++ [b])) + Pg.sum f (Pg.sides (b :: v ++ [a])) = Pg.sum f (Pg.sides (a :: u ++ b :: v)) := by
 show Pg.sum f (Pg.chn a (u ++ [b]) a) + Pg.sum f (Pg.chn b (v ++ [a]) b) = Pg.sum f (Pg.chn a (u ++ b :: v) a)
 rw [Pg.chn_append b a v u a, Pg.chn_snoc a b a u, Pg.chn_snoc b a b v, Pg.sum_snoc, Pg.sum_snoc, Pg.sum_append]
 have := hf a b
 grind
theorem Pg.sum_same {f : Rat × Rat → Rat × Rat → Rat} (hf : ∀ a b, f a b = - f b a) (a : Rat × Rat) (v : List (Rat × Rat)) : Pg.sum f (Pg.sides [a]) + Pg.sum f (Pg.sides (a :: v ++ [a])) = Pg.sum f (Pg.sides (a :: v)) := by
 show Pg.sum f [(a, a)] + Pg.sum f (Pg.chn a (v ++ [a]) a) = Pg.sum f (Pg.chn a v a)
 rw [Pg.chn_snoc, Pg.sum_snoc, Pg.sum_cons, Pg.sum_nil]
 have := hf a a
 grind
/-- The parts at the corners i and j. -/
def Pg.px (L : List (Rat × Rat)) (i j : Nat) : List (Rat × Rat) := (L.take (j + 1)).drop i
def Pg.py (L : List (Rat × Rat)) (i j : Nat) : List (Rat × Rat) := L.drop j ++ L.take (i + 1)
theorem Pg.sum_pxy {f : Rat × Rat → Rat × Rat → Rat} (hf : ∀ a b, f a b = - f b a) {L : List (Rat × Rat)} {i j : Nat} (hij : i ≤ j) (hj : j < L.length) : Pg.sum f (Pg.sides (Pg.px L i j)) + Pg.sum f (Pg.sides (Pg.py L i j)) = Pg.sum f (Pg.sides L) := by
 rw [← Pg.from_inv (F := fun L => Pg.sum f (Pg.sides L)) (Pg.sum_rot f) L i (by omega)]
 have ha : L.drop i = L[i] :: L.drop (i + 1) := List.drop_eq_getElem_cons (by omega)
 have hb : L.drop j = L[j] :: L.drop (j + 1) := List.drop_eq_getElem_cons hj
 have ht : L.take (i + 1) = L.take i ++ [L[i]] := List.take_succ_eq_append_getElem (by omega)
 unfold Pg.px Pg.py Pg.from_
 by_cases e : i = j
 · subst e
   have : (L.take (i + 1)).drop i = [L[i]] := by
    rw [ht, List.drop_append, List.length_take, List.drop_of_length_le (by rw [List.length_take]; omega), show i - min i L.length = 0 by omega]; rfl
   rw [this, ht, ha, ← List.append_assoc]
   exact Pg.sum_same hf _ (L.drop (i + 1) ++ L.take i)
 · have hx : (L.take (j + 1)).drop i = L[i] :: (L.take j).drop (i + 1) ++ [L[j]] := by
    rw [List.take_succ_eq_append_getElem hj, List.drop_append, List.length_take, show i - min j L.length = 0 by omega, List.drop_zero, List.drop_eq_getElem_cons (by rw [List.length_take]; omega), List.getElem_take]
   have hd : L.drop (i + 1) = (L.take j).drop (i + 1) ++ L[j] :: L.drop (j + 1) := by
    rw [← hb]
    conv => lhs; rw [← List.take_append_drop j L]
    rw [List.drop_append, List.length_take, show i + 1 - min j L.length = 0 by omega, List.drop_zero]
   rw [hx, hb, ht, ha, hd]
   have := Pg.sum_parts hf L[i] L[j] ((L.take j).drop (i + 1)) (L.drop (j + 1) ++ L.take i)
   simp only [List.cons_append, List.append_assoc] at this ⊢
   exact this
theorem Pg.area_pxy {L : List (Rat × Rat)} {i j : Nat} (hij : i ≤ j) (hj : j < L.length) : Pg.area (Pg.px L i j) + Pg.area (Pg.py L i j) = Pg.area L := by
 unfold Pg.area
 rw [← Pg.sum_pxy Pg.vcrs_odd hij hj]
 grind
theorem Pg.center_area {L : List (Rat × Rat)} (h : Pg.area L ≠ 0) : vsca (Pg.center L) (Pg.area L) = (Pg.sum Pg.fx (Pg.sides L) * Rat.divInt 1 6, Pg.sum Pg.fy (Pg.sides L) * Rat.divInt 1 6) := by
 unfold Pg.area at h ⊢
 unfold Pg.center
 generalize Pg.sum vcrs (Pg.sides L) = s at h ⊢
 have hs : s ≠ 0 := fun e => h (by rw [e, Rat.zero_mul])
 have h1 : s * (Rat.divInt 1 3 / s) = Rat.divInt 1 3 := by rw [Rat.div_def, Rat.mul_comm, Rat.mul_assoc, Rat.inv_mul_cancel _ hs, Rat.mul_one]
 rw [Pg.div13] at h1
 rw [Pg.div12, Pg.div13, Pg.div16]
 generalize (1 / 3 : Rat) / s = q at h1
 unfold vsca
 refine Prod.ext ?_ ?_ <;> grind
theorem Pg.center_pxy {L : List (Rat × Rat)} {i j : Nat} (hij : i ≤ j) (hj : j < L.length) (h1 : Pg.area (Pg.px L i j) ≠ 0) (h2 : Pg.area (Pg.py L i j) ≠ 0) (h3 : Pg.area L ≠ 0) :
    vadd (vsca (Pg.center (Pg.px L i j)) (Pg.area (Pg.px L i j))) (vsca (Pg.center (Pg.py L i j)) (Pg.area (Pg.py L i j))) = vsca (Pg.center L) (Pg.area L) := by
 rw [Pg.center_area h1, Pg.center_area h2, Pg.center_area h3, ← Pg.sum_pxy Pg.fx_odd hij hj, ← Pg.sum_pxy Pg.fy_odd hij hj]
 unfold vadd
 refine Prod.ext ?_ ?_ <;> grind
end Go.Proofs.YtcfejkpadcccbaaGreat
