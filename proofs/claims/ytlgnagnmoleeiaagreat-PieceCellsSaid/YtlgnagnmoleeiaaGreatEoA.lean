/-
 AN ITERATOR of package polygon, for the second engine.
-/
import Derived.Test.YtlgnagnmoleeiaaGreatPgR
import Derived.Test.YtlgnagnmoleeiaaGreatEyB
import Derived.Test.YtlgnagnmoleeiaaGreatEuB
import Derived.Test.YtlgnagnmoleeiaaGreatPgO
namespace Go.Proofs.YtlgnagnmoleeiaaGreat
open Go.RowKit
set_option linter.unusedVariables false
set_option linter.unusedSimpArgs false
/-- A place whose turn has the length 1. -/
def Pg.Unit (p : Pl) : Prop := p.1.1 * p.1.1 + p.1.2 * p.1.2 = 1
theorem Pg.vput_motion {p : Pl} (hu : Pg.Unit p) : Pg.Motion (vput p) := by
 unfold Pg.Unit at hu
 refine ⟨fun a b c => ?_, fun a b c => ?_⟩
 · have h : Pg.cr (vput p a) (vput p b) (vput p c) = (p.1.1 * p.1.1 + p.1.2 * p.1.2) * Pg.cr a b c := by unfold Pg.cr vcrs vsub vput vadd vrot; grind
   rw [h, hu, Rat.one_mul]
 · have h : vdot (vsub (vput p a) (vput p c)) (vsub (vput p b) (vput p c)) = (p.1.1 * p.1.1 + p.1.2 * p.1.2) * vdot (vsub a c) (vsub b c) := by unfold vdot vsub vput vadd vrot; grind
   rw [h, hu, Rat.one_mul]
theorem Pg.one_div {x : Rat} (h : x ≠ 0) : x * (Rat.divInt 1 1 / x) = 1 := by rw [Pg.div11, Rat.div_def, Rat.one_mul, Rat.mul_inv_cancel _ h]
theorem Pg.center_put {p : Pl} (hu : Pg.Unit p) {L : List (Rat × Rat)} (ha : Pg.area L ≠ 0) : Pg.center (L.map (vput p)) = vput p (Pg.center L) := by
 have hM := Pg.vput_motion hu
 cases L with
 | nil => exact absurd (show Pg.area [] = 0 by decide +kernel) ha
 | cons o t =>
   have hA := hM.area (o :: t)
   rw [← Pg.center_eq, ← Pg.center_eq]
   unfold Pg.center6
   rw [Pg.area_eq, Pg.area_eq, hA, if_neg ha, if_neg ha]
   have h3 : Pg.sum (Pg.tri o) (t.zip t.tail) * 3 = Pg.area (o :: t) := by
    rw [Pg.area_fan, Pg.sum_congr (f := Pg.tri o) (g := fun a b => Pg.cr o a b * Rat.divInt 1 6) (fun a b => rfl), Pg.sum_smul, Pg.div16, Pg.div12]
    grind
   have ht : ∀ a b, Pg.tri (vput p o) (vput p a) (vput p b) = Pg.tri o a b := fun a b => by
    show Pg.cr (vput p o) (vput p a) (vput p b) * _ = Pg.cr o a b * _
    rw [hM.cr]
   have h1 := Pg.one_div ha
   generalize Rat.divInt 1 1 / Pg.area (o :: t) = q at h1
   rw [List.map_cons]
   show vsca (Pg.sum (fun a b => ((vput p o).1 + a.1 + b.1) * Pg.tri (vput p o) a b) ((t.map (vput p)).zip (t.map (vput p)).tail), Pg.sum (fun a b => ((vput p o).2 + a.2 + b.2) * Pg.tri (vput p o) a b) ((t.map (vput p)).zip (t.map (vput p)).tail)) q = vput p (vsca (Pg.sum (fun a b => (o.1 + a.1 + b.1) * Pg.tri o a b) (t.zip t.tail), Pg.sum (fun a b => (o.2 + a.2 + b.2) * Pg.tri o a b) (t.zip t.tail)) q)
   rw [← List.map_tail, Pg.sum_map, Pg.sum_map]
   generalize hps : t.zip t.tail = ps at h3
   have hx : Pg.sum (fun a b => ((vput p o).1 + (vput p a).1 + (vput p b).1) * Pg.tri (vput p o) (vput p a) (vput p b)) ps = Pg.sum (fun a b => (o.1 + a.1 + b.1) * Pg.tri o a b) ps * p.1.1 + (Pg.sum (fun a b => (o.2 + a.2 + b.2) * Pg.tri o a b) ps * -p.1.2 + Pg.sum (Pg.tri o) ps * (3 * p.2.1)) := by
    rw [← Pg.sum_smul, ← Pg.sum_smul, ← Pg.sum_smul, ← Pg.sum_add, ← Pg.sum_add]
    refine Pg.sum_congr (fun a b => ?_) _
    rw [ht]
    unfold vput vadd vrot
    grind
   have hy : Pg.sum (fun a b => ((vput p o).2 + (vput p a).2 + (vput p b).2) * Pg.tri (vput p o) (vput p a) (vput p b)) ps = Pg.sum (fun a b => (o.1 + a.1 + b.1) * Pg.tri o a b) ps * p.1.2 + (Pg.sum (fun a b => (o.2 + a.2 + b.2) * Pg.tri o a b) ps * p.1.1 + Pg.sum (Pg.tri o) ps * (3 * p.2.2)) := by
    rw [← Pg.sum_smul, ← Pg.sum_smul, ← Pg.sum_smul, ← Pg.sum_add, ← Pg.sum_add]
    refine Pg.sum_congr (fun a b => ?_) _
    rw [ht]
    unfold vput vadd vrot
    grind
   rw [hx, hy]
   generalize Pg.sum (fun a b => (o.1 + a.1 + b.1) * Pg.tri o a b) ps = u
   generalize Pg.sum (fun a b => (o.2 + a.2 + b.2) * Pg.tri o a b) ps = v
   generalize Pg.sum (Pg.tri o) ps = s at h3
   rw [← h3] at h1
   unfold vsca vput vadd vrot
   refine Prod.ext ?_ ?_ <;> grind
/-- The two parts of a chain. -/
theorem Pg.sum_append (f : Rat × Rat → Rat × Rat → Rat) : ∀ ps qs, Pg.sum f (ps ++ qs) = Pg.sum f ps + Pg.sum f qs
 | [], qs => by rw [List.nil_append, Pg.sum_nil, Rat.zero_add]
 | x :: t, qs => by rw [List.cons_append, Pg.sum_cons, Pg.sum_cons, Pg.sum_append f t qs]; grind
theorem Pg.chn_append (b c : Rat × Rat) (v : List (Rat × Rat)) : ∀ (u : List (Rat × Rat)) (a : Rat × Rat), Pg.chn a (u ++ b :: v) c = Pg.chn a u b ++ Pg.chn b v c
 | [], a => rfl
 | x :: u, a => by
  show (a, x) :: Pg.chn x (u ++ b :: v) c = (a, x) :: (Pg.chn x u b ++ Pg.chn b v c)
  rw [Pg.chn_append b c v u x]
theorem Pg.sum_parts {f : Rat × Rat → Rat × Rat → Rat} (hf : ∀ a b, f a b = - f b a) (a b : Rat × Rat) (u v : List (Rat × Rat)) : Pg.sum f (Pg.sides (a :: u ++ [b])) + Pg.sum f (Pg.sides (b :: v ++ [a])) = Pg.sum f (Pg.sides (a :: u ++ b :: v)) := by
 show Pg.sum f (Pg.chn a (u ++ [b]) a) + Pg.sum f (Pg.chn b (v ++ [a]) b) = Pg.sum f (Pg.chn a (u ++ b :: v) a)
 rw [Pg.chn_append b a v u a, Pg.chn_snoc a b a u, Pg.chn_snoc b a b v, Pg.sum_snoc, Pg.sum_snoc, Pg.sum_append]
 have := hf a b
 grind
def Pg.py (L : List (Rat × Rat)) (i j : Nat) : List (Rat × Rat) := L.drop j ++ L.take (i + 1)
end Go.Proofs.YtlgnagnmoleeiaaGreat
namespace Go.Proofs.YtlgnagnmoleeiaaGreat.E.Pc
open Go.RowKit
set_option linter.unusedVariables false
set_option linter.unusedSimpArgs false
/-- A sum around the corners that remain. -/
def sS (f : Vc → Vc → Rat) (L : List Vc) (R : List Nat) : Rat := Pg.sum f (Pg.sides (R.map (ld L)))
def totS (f : Vc → Vc → Rat) (L : List Vc) (T : List (List Nat)) : Rat := (T.map (sS f L)).foldr (· + ·) 0
section
variable {L : List Vc} {R : List Nat} {b p q m n i j : Nat} {f : Vc → Vc → Rat}
theorem rest_get (hp : p < R.length) (hi : i + 1 < R.length) : (R.drop (p + 1) ++ R.take p)[i]? = some (cyc R (p + 1 + i)) := by
 have hm : ∀ k, k < R.length → R[k]? = some (md R k) := fun k hk => by unfold md; rw [List.getD_eq_getElem?_getD, List.getElem?_eq_getElem hk]; rfl
 unfold cyc
 show _ = some (md R _)
 rcases Nat.lt_or_ge i (R.length - (p + 1)) with h | h
 · rw [List.getElem?_append_left (by rw [List.length_drop]; exact h), List.getElem?_drop, Nat.mod_eq_of_lt (by omega)]
   exact hm _ (by omega)
 · rw [List.getElem?_append_right (by rw [List.length_drop]; exact h), List.length_drop, List.getElem?_take_of_lt (by omega)]
   have : (p + 1 + i) % R.length = i - (R.length - (p + 1)) := by
    rw [Nat.mod_eq_sub_mod (by omega), Nat.mod_eq_of_lt (by omega)]
    omega
   rw [this]
   exact hm _ (by omega)
theorem sum_from (f : Vc → Vc → Rat) (l : List Vc) (hi : i ≤ l.length) : Pg.sum f (Pg.sides (l.drop i ++ l.take i)) = Pg.sum f (Pg.sides l) := Pg.from_inv (F := fun L => Pg.sum f (Pg.sides L)) (Pg.sum_rot f) l i (by omega)
theorem drop_app {X : List Nat} (hp : p ≤ R.length) : (R.take p ++ X).drop p = X := by
 have : (R.take p).length = p := by rw [List.length_take]; omega
 exact List.drop_left' this
theorem take_app {X : List Nat} (hp : p ≤ R.length) : (R.take p ++ X).take p = R.take p := by
 have : (R.take p).length = p := by rw [List.length_take]; omega
 exact List.take_left' this
/-- A corner is cut off. -/
theorem erase_sum (hf : ∀ a b, f a b = - f b a) (hp : p < R.length) (h3 : 3 ≤ R.length) : sS f L [pv R p, md R p, nx R p] + sS f L (R.eraseIdx p) = sS f L R := by
 have h0 := rest_get (i := 0) hp (by omega)
 have h1 := rest_get (i := R.length - 2) hp (by omega)
 have hnx : cyc R (p + 1 + 0) = nx R p := by
  unfold nx cyc
  rw [Nat.add_mod_right]
 have hpv : cyc R (p + 1 + (R.length - 2)) = pv R p := by
  unfold pv
  rw [show p + 1 + (R.length - 2) = p + R.length - 1 by omega]
 rw [hnx] at h0
 rw [hpv] at h1
 have hsp : R = R.take p ++ md R p :: R.drop (p + 1) := by
  have : md R p = R[p] := by unfold md; rw [List.getD_eq_getElem?_getD, List.getElem?_eq_getElem hp]; rfl
  rw [this, ← List.drop_eq_getElem_cons hp, List.take_append_drop]
 have hlen : (R.drop (p + 1) ++ R.take p).length = R.length - 1 := by rw [List.length_append, List.length_drop, List.length_take]; omega
 have e1 : sS f L (R.eraseIdx p) = sS f L (R.drop (p + 1) ++ R.take p) := by
  unfold sS
  rw [List.eraseIdx_eq_take_drop_succ]
  have := sum_from f ((R.take p ++ R.drop (p + 1)).map (ld L)) (i := p) (by rw [List.length_map, List.length_append, List.length_take, List.length_drop]; omega)
  rw [← this, ← List.map_drop, ← List.map_take, drop_app (by omega), take_app (by omega), List.map_append]
 have e2 : sS f L R = sS f L (md R p :: (R.drop (p + 1) ++ R.take p)) := by
  unfold sS
  rw [← sum_from f (R.map (ld L)) (i := p) (by rw [List.length_map]; omega), ← List.map_drop, ← List.map_take]
  have : R.drop p = md R p :: R.drop (p + 1) := by
   conv => lhs; rw [hsp]
   exact drop_app (by omega)
  rw [this, ← List.map_append]
  rfl
 rw [e1, e2]
 generalize R.drop (p + 1) ++ R.take p = K at *
 obtain ⟨x, r, rfl⟩ : ∃ x r, K = x :: r := by
  cases K with
  | nil => simp at hlen; omega
  | cons x r => exact ⟨x, r, rfl⟩
 obtain ⟨mid, y, rfl⟩ : ∃ mid y, r = mid ++ [y] := by
  have : r ≠ [] := fun e => by subst e; simp at hlen; omega
  exact ⟨r.dropLast, r.getLast this, (List.dropLast_concat_getLast this).symm⟩
 simp only [List.getElem?_cons_zero, Option.some.injEq] at h0
 have hl2 : R.length - 2 = mid.length + 1 := by simp at hlen; omega
 rw [hl2, List.getElem?_cons_succ, List.getElem?_append_right (Nat.le_refl _), Nat.sub_self] at h1
 simp only [List.getElem?_cons_zero, Option.some.injEq] at h1
 subst h0
 subst h1
 have hq := Pg.sum_parts hf (ld L (pv R p)) (ld L (nx R p)) [ld L (md R p)] (mid.map (ld L))
 have e3 : sS f L (md R p :: nx R p :: (mid ++ [pv R p])) = Pg.sum f (Pg.sides (ld L (pv R p) :: [ld L (md R p)] ++ ld L (nx R p) :: mid.map (ld L))) := by
  unfold sS
  have := Pg.sum_rot f (ld L (pv R p) :: ld L (md R p) :: ld L (nx R p) :: mid.map (ld L))
  rw [show (md R p :: nx R p :: (mid ++ [pv R p])).map (ld L) = Pg.rot (ld L (pv R p) :: ld L (md R p) :: ld L (nx R p) :: mid.map (ld L)) by simp [Pg.rot]]
  exact this
 rw [e3, ← hq]
 unfold sS
 simp only [List.map_cons, List.map_append, List.map_nil, List.cons_append, List.nil_append]
/-- Of a flat triangle. -/
def Flat0 (f : Vc → Vc → Rat) : Prop := ∀ a b c : Vc, vside a b c = 0 → Pg.sum f (Pg.sides [a, b, c]) = 0
theorem flat_sd (h : flatP L R = some p) : vside (ld L (pv R p)) (ld L (md R p)) (ld L (nx R p)) = 0 := by
 have := List.find?_some h
 unfold flatB at this
 exact beq_iff_eq.1 this
theorem clear_sum (hf : ∀ a b, f a b = - f b a) (h0 : Flat0 f) : ∀ (n : Nat) (R : List Nat), sS f L (clearF L n R) = sS f L R
 | 0, R => rfl
 | n + 1, R => by
  unfold clearF
  split
  · rename_i h3
    split
    · rename_i p hp
      have := erase_sum (L := L) hf (flat_lt hp) (by omega)
      rw [clear_sum hf h0 n, ← this]
      have z : sS f L [pv R p, md R p, nx R p] = 0 := h0 _ _ _ (flat_sd hp)
      rw [z, Rat.zero_add]
    · rfl
  · rfl
theorem totS_cons (t : List Nat) (T : List (List Nat)) : totS f L (t :: T) = sS f L t + totS f L T := rfl
theorem cut_sum (hf : ∀ a b, f a b = - f b a) (h0 : Flat0 f) : ∀ (n : Nat) (R : List Nat), totS f L (cutF L n R) = sS f L R
 | 0, R => by show sS f L R + 0 = _; rw [Rat.add_zero]
 | n + 1, R => by
  unfold cutF
  split
  · rename_i h3
    rw [totS_cons, cut_sum hf h0 n]
    unfold clearR
    rw [clear_sum hf h0]
    exact erase_sum hf (earP_lt (by omega)) (by omega)
  · show sS f L R + 0 = _
    rw [Rat.add_zero]
theorem vside_0 {a b c : Vc} (h : vside a b c = 0) : Pg.cr a b c = 0 := (vside_zero a b c).1 (by rw [h]; rfl)
theorem flat_crs : Flat0 vcrs := fun a b c h => by
 have := vside_0 h
 unfold Pg.sides Pg.rot
 simp only [List.cons_append, List.nil_append, List.zip_cons_cons, List.zip_nil_right, Pg.sum_cons, Pg.sum_nil]
 unfold Pg.cr vcrs vsub at *
 grind
theorem flat_fx : Flat0 Pg.fx := fun a b c h => by
 have := vside_0 h
 have e : Pg.sum Pg.fx (Pg.sides [a, b, c]) = (a.1 + b.1 + c.1) * Pg.cr a b c := by
  unfold Pg.sides Pg.rot
  simp only [List.cons_append, List.nil_append, List.zip_cons_cons, List.zip_nil_right, Pg.sum_cons, Pg.sum_nil]
  unfold Pg.fx Pg.cr vcrs vsub at *
  grind
 rw [e, this, Rat.mul_zero]
theorem flat_fy : Flat0 Pg.fy := fun a b c h => by
 have := vside_0 h
 have e : Pg.sum Pg.fy (Pg.sides [a, b, c]) = (a.2 + b.2 + c.2) * Pg.cr a b c := by
  unfold Pg.sides Pg.rot
  simp only [List.cons_append, List.nil_append, List.zip_cons_cons, List.zip_nil_right, Pg.sum_cons, Pg.sum_nil]
  unfold Pg.fy Pg.cr vcrs vsub at *
  grind
 rw [e, this, Rat.mul_zero]
theorem all_ld (L : List Vc) : (List.range L.length).map (ld L) = L := by
 apply List.ext_getElem?
 intro i
 rw [List.getElem?_map]
 rcases Nat.lt_or_ge i L.length with h | h
 · rw [List.getElem?_range h, List.getElem?_eq_getElem h]
   unfold ld
   rw [Option.map_some, List.getD_eq_getElem?_getD, List.getElem?_eq_getElem h]
   rfl
 · rw [List.getElem?_eq_none (by simpa using h), List.getElem?_eq_none h]
   rfl
/-- The triangles' sums are the polygon's. -/
theorem cut_tot (hf : ∀ a b, f a b = - f b a) (h0 : Flat0 f) (L : List Vc) : ((cutT L).map fun K => Pg.sum f (Pg.sides K)).foldr (· + ·) 0 = Pg.sum f (Pg.sides L) := by
 have := cut_sum (L := L) hf h0 L.length (List.range L.length)
 unfold totS sS at this
 rw [all_ld] at this
 unfold cutT
 rw [List.map_map]
 exact this
end
end Go.Proofs.YtlgnagnmoleeiaaGreat.E.Pc
namespace Go.Proofs.YtlgnagnmoleeiaaGreat.E
open Go.RowKit
set_option linter.unusedVariables false
section
variable {a b c d n p : Rat × Rat} {r q x : Rat} {i j k : Nat} {L : List (Rat × Rat)}
def z8 : List V := [bo false, .nl, bo false, .nl, bo false, .nl, bo false, .nl]
theorem dV_0 : dV (0, 0) = [bo false, .sl [], bo false, .sl [], bo false, .sl [], bo false, .sl []] := by
 unfold dV; simp only [dR_0]; rfl
theorem less_comm (r x : Rat) : Pg.less x r = Pg.less r x := by unfold Pg.less; split <;> split <;> grind
end
end Go.Proofs.YtlgnagnmoleeiaaGreat.E
namespace Go.Proofs.YtlgnagnmoleeiaaGreat.E
open Go.RowKit
set_option linter.unusedVariables false
section
variable {n : Int} {l : List Int} {i m : Nat} {P : Program}
def spot (l : List Int) (a : Nat) : Rat × Rat := if atz l (a + 2) 1 = 0 then (Rat.divInt (atz l a 16 - 8) 1, Rat.divInt (atz l (a + 1) 16 - 8) 1) else (Rat.divInt (atz l a 32 - 16) 2, Rat.divInt (atz l (a + 1) 32 - 16) 2)
theorem spot_bits (l : List Int) (a : Nat) : Bv 7 (spot l a) := by
 have h1 := atz_in l a 16
 have h2 := atz_in l (a + 1) 16
 have h3 := atz_in l a 32
 have h4 := atz_in l (a + 1) 32
 unfold spot
 split <;> exact bv7 (by omega) (by omega) (by omega)
theorem e_spot (hl : ∀ x ∈ l, W.Is64 x) (a : Nat) (ha : a ≤ 1000000) : Pure PP 94 [zl l, ni a] (.ag (dV (spot l a))) := by
 have h0 := atz_in l (a + 2) 1
 have h1 := atz_in l a 16
 have h2 := atz_in l (a + 1) 16
 have h3 := atz_in l a 32
 have h4 := atz_in l (a + 1) 32
 have hq := e_at hl (a + 2) 1
 unfold spot
 by_cases g : atz l (a + 2) 1 = 0
 · rw [if_pos g]
   rw [g] at hq
   exact tr [inc2 8 a (by omega), cl hq, cl (e_at hl a 16), eq64 19 (atz l a 16 - 8) (i64 (by omega)), cl (e_of4 (x := atz l a 16 - 8) (y := 1) (i64 (by omega)) (i64 (by omega))), inc 24 a (by omega), cl (e_at hl (a + 1) 16), eq64 31 (atz l (a + 1) 16 - 8) (i64 (by omega)), cl (e_of4 (x := atz l (a + 1) 16 - 8) (y := 1) (i64 (by omega)) (i64 (by omega)))] (by kernel_rfl)
 · rw [if_neg g]
   rw [show atz l (a + 2) 1 = 1 by omega] at hq
   exact tr [inc2 8 a (by omega), cl hq, cl (e_at hl a 32), eq64 19 (atz l a 32 - 16) (i64 (by omega)), cl (e_of4 (x := atz l a 32 - 16) (y := 2) (i64 (by omega)) (i64 (by omega))), inc 24 a (by omega), cl (e_at hl (a + 1) 32), eq64 31 (atz l (a + 1) 32 - 16) (i64 (by omega)), cl (e_of4 (x := atz l (a + 1) 32 - 16) (y := 2) (i64 (by omega)) (i64 (by omega)))] (by kernel_rfl)
/-- The directions. -/
def wy : List (Int × Int) := [(4, 0), (4, 2), (3, 3), (2, 4), (0, 4), (-2, 4), (-3, 3), (-4, 2), (-4, 0), (-4, -2), (-3, -3), (-2, -4), (0, -4), (2, -4), (3, -3), (4, -2)]
def ways : List (List V) := wy.map fun p => [ni p.1, ni p.2]
end
end Go.Proofs.YtlgnagnmoleeiaaGreat.E
namespace Go.Proofs.YtlgnagnmoleeiaaGreat
set_option maxHeartbeats 2000000
open Go.RowKit Go.Shelf
open E (KpG)
attribute [local go_sem] Oper.semAt_some
attribute [local go_sem] run_store_one
set_option linter.unusedVariables false
theorem cell_lt {w : World} {b o : Nat} {v : Value} (h : w.cell? ⟨b, o, none⟩ = some v) : b < w.heap.size := by
  unfold World.cell? at h
  split at h
  · rename_i hb
    exact (Array.getElem?_eq_some_iff.1 hb).1
  · cases h
set_option maxRecDepth 100000 in
theorem sides1K (nf : Nat) (hn : 1 ≤ nf) (l Bs q b o n c : Nat) (cs : Nat → Nat → Value) (hlen : n ≤ 1000) {G : Nat → Prop} (hGs : G Bs) (hGb : G b) (J Jx : List (Fin n) → World → Prop) (hone : ∀ i j, (cs i j).oneCell' = true)
    (hY : ∀ pre (x : Fin n) W, J pre W → pre.length < n → YieldAt Fence.wide (nf - 1) Tryz.prog l #[Pg.ag cs x.1, Pg.ag cs ((x.1 + 1) % n)] W fun e W' => (e = .returned (.bool true) ∧ J (pre ++ [x]) W' ∧ KpG G W W') ∨ (e = .returned (.bool false) ∧ Jx (pre ++ [x]) W'))
    (W : World) (hBc : W.cell? ⟨Bs, q, none⟩ = some (.slice (some ⟨b, o, none⟩) n c)) (hc : ∀ i, i < n → ∀ j, j < 8 → W.cell? ⟨b, o + i * 8 + j, none⟩ = some (cs i j)) (hJ : AbidesFrom W.heap.size J) (h0 : J [] W) :
    CallsIn Fence.wide nf Tryz.prog 177 #[.func (.yield l) #[] #[], .pointer (some ⟨Bs, q, none⟩)] W fun e W' => (∃ v, e = .returned v) ∧ (J (List.finRange n) W' ∨ ∃ k, k ≤ n ∧ Jx ((List.finRange n).take k) W') := by
  refine callsIn_of_wp Tryz.func177 rfl trivial ?_ rfl
  simp only [Tryz.ntmps177, List.size_toArray, List.length_cons, List.length_nil, Nat.reduceAdd, Nat.reduceSub, Array.replicate_succ, Array.replicate_zero, List.push_toArray, List.append_toArray, List.nil_append, List.cons_append]
  have HY := Lib.hid hY; have HC := Lib.hid hc; have HJ := Lib.hid hJ; have HBC := Lib.hid hBc
  have cB := hBc
  clear hY hc hJ hBc
  gi_wp2
  gi_loopw [7] (fun i wr => ∃ k : Nat, k ≤ n ∧ i = .int .i64 k ∧ J ((List.finRange n).take k) wr ∧ Hid (wr.cell? ⟨Bs, q, none⟩ = some (.slice (some ⟨b, o, none⟩) n c)) ∧ Hid (∀ i, i < n → ∀ j, j < 8 → wr.cell? ⟨b, o + i * 8 + j, none⟩ = some (cs i j))) (fun i _ => n - (intOf i).toNat)
  case atStart => exact ⟨0, Nat.zero_le _, rfl, by simpa using h0, HBC, HC⟩
  case round =>
    obtain ⟨k, hk, rfl, hJs, HBX, HCX⟩ := hrel
    clear cB
    by_cases hlt : k < n
    · have hcx : ∀ j, j < 8 → wr.cell? ⟨b, o + k * 8 + j, none⟩ = some (cs k j) := fun j hj => HCX.out k hlt j hj
      have c0 : wr.cell? ⟨b, o + k * 8, none⟩ = some (cs k 0) := hcx 0 (by omega); have c1 := hcx 1 (by omega); have c2 := hcx 2 (by omega); have c3 := hcx 3 (by omega); have c4 := hcx 4 (by omega); have c5 := hcx 5 (by omega); have c6 := hcx 6 (by omega); have c7 := hcx 7 (by omega)
      have q0 := hone k 0; have q1 := hone k 1; have q2 := hone k 2; have q3 := hone k 3; have q4 := hone k 4; have q5 := hone k 5; have q6 := hone k 6; have q7 := hone k 7
      clear hcx
      gi_wp2
      -- REGION 3
      have hm := HC.out
      obtain ⟨g, hg⟩ : ∃ g, g = wr.heap.size := ⟨_, rfl⟩
      obtain ⟨k1, hk1e⟩ : ∃ k1 : Nat, k1 = k + 1 := ⟨_, rfl⟩
      have hk1 : IntKind.i64.wrap ((k : Int) + 1) = (k1 : Int) := by rw [IntKind.wrap_i64]; omega
      obtain ⟨m, hme⟩ : ∃ m : Nat, m = k1 % n := ⟨_, rfl⟩
      have hmn : m < n := by rw [hme]; exact Nat.mod_lt _ (by omega)
      have hm1 : Int.tmod (k1 : Int) (n : Int) = (m : Int) := by rw [Int.tmod_eq_emod_of_nonneg (by omega), hme]; simp
      have hm3 : (m : Int) < (n : Int) := by omega
      have hm4 : (0 : Int) ≤ (m : Int) := by omega
      have hnz : ¬ n = 0 := by omega
      generalize hW3 : wr.alloc (.cells _ 58) = w3
      obtain ⟨hx3, k2⟩ := box1 hW3
      rw [← hg] at hx3 ⊢
      have hbs : Bs < wr.heap.size := cell_lt HBX.out
      have hbb : 0 < n → b < wr.heap.size := fun h => cell_lt (HCX.out 0 h 0 (by omega))
      have HX3 := Lib.hid (show w3.cell? ⟨Bs, q, none⟩ = some (.slice (some ⟨b, o, none⟩) n c) from (k2.cell (p := ⟨Bs, q, none⟩) hbs).trans HBX.out)
      have HCX3 := Lib.hid (show ∀ i, i < n → ∀ j, j < 8 → w3.cell? ⟨b, o + i * 8 + j, none⟩ = some (cs i j) from fun i hi j hj => (k2.cell (p := ⟨b, o + i * 8 + j, none⟩) (hbb (by omega))).trans (HCX.out i hi j hj))
      have hb3s := k2.size
      have hbs3 : Bs < w3.heap.size := by omega
      have hbb3 : 0 < n → b < w3.heap.size := fun h => by have := hbb h; omega
      have HS := Lib.hid (show ∀ wx, Below w3.heap.size w3 wx → wx.cell? ⟨Bs, q, none⟩ = some (.slice (some ⟨b, o, none⟩) n c) from fun wx h => (h.cell (p := ⟨Bs, q, none⟩) hbs3).trans HX3.out)
      have HG := Lib.hid (show ∀ wx, Below w3.heap.size w3 wx → wx.cell? ⟨g, 0, none⟩ = some (cs k 0) ∧ wx.cell? ⟨g, 1, none⟩ = some (cs k 1) ∧ wx.cell? ⟨g, 2, none⟩ = some (cs k 2) ∧ wx.cell? ⟨g, 3, none⟩ = some (cs k 3) ∧ wx.cell? ⟨g, 4, none⟩ = some (cs k 4) ∧ wx.cell? ⟨g, 5, none⟩ = some (cs k 5) ∧ wx.cell? ⟨g, 6, none⟩ = some (cs k 6) ∧ wx.cell? ⟨g, 7, none⟩ = some (cs k 7) from fun wx h => by
        have hx := hx3.below h
        exact ⟨hx.cell rfl, hx.cell rfl, hx.cell rfl, hx.cell rfl, hx.cell rfl, hx.cell rfl, hx.cell rfl, hx.cell rfl⟩)
      have HM := Lib.hid (show ∀ wx, Below w3.heap.size w3 wx → wx.cell? ⟨b, o + m * 8, none⟩ = some (cs m 0) ∧ wx.cell? ⟨b, o + m * 8 + 1, none⟩ = some (cs m 1) ∧ wx.cell? ⟨b, o + m * 8 + 2, none⟩ = some (cs m 2) ∧ wx.cell? ⟨b, o + m * 8 + 3, none⟩ = some (cs m 3) ∧ wx.cell? ⟨b, o + m * 8 + 4, none⟩ = some (cs m 4) ∧ wx.cell? ⟨b, o + m * 8 + 5, none⟩ = some (cs m 5) ∧ wx.cell? ⟨b, o + m * 8 + 6, none⟩ = some (cs m 6) ∧ wx.cell? ⟨b, o + m * 8 + 7, none⟩ = some (cs m 7) from fun wx h => by
        have hcx : ∀ j, j < 8 → wx.cell? ⟨b, o + m * 8 + j, none⟩ = some (cs m j) := fun j hj => (h.cell (p := ⟨b, o + m * 8 + j, none⟩) (hbb3 (by omega))).trans (HCX3.out m hmn j hj)
        exact ⟨hcx 0 (by omega), hcx 1 (by omega), hcx 2 (by omega), hcx 3 (by omega), hcx 4 (by omega), hcx 5 (by omega), hcx 6 (by omega), hcx 7 (by omega)⟩)
      have HJ3 := Lib.hid hJs; have k3 := Lib.hid k2
      have HCW := Lib.hid (show ∀ wx, Below w3.heap.size w3 wx → ∀ i, i < n → ∀ j, j < 8 → wx.cell? ⟨b, o + i * 8 + j, none⟩ = some (cs i j) from fun wx h i hi j hj => (h.cell (p := ⟨b, o + i * 8 + j, none⟩) (hbb3 (by omega))).trans (HCX3.out i hi j hj))
      have HME := Lib.hid (show m = (k + 1) % n by rw [hme, hk1e])
      clear hm c0 c1 c2 c3 c4 c5 c6 c7 hx3 hJs k2 hW3 hme hk1e hb3s
      generalize hW_3 : w3.drew = W_3
      refine gen_actI ?_
      intro F_ hF_
      have ev0 : F_.eval (.tmp 0) = .func (.yield l) #[] #[] := by rw [← hF_]; rfl
      have ev1 : F_.eval (.tmp 1) = .pointer (some ⟨Bs, q, none⟩) := by rw [← hF_]; rfl
      have ev3 : F_.eval (.tmp 3) = .int .i64 (k : Int) := by rw [← hF_]; rfl
      have ev4 : F_.eval (.tmp 4) = .pointer (some ⟨g, 0, none⟩) := by rw [← hF_]; rfl
      have hsz_ : ∀ d ∈ ([(12, []), (13, []), (14, []), (15, []), (16, [3]), (17, []), (18, [5]), (19, [4, 6]), (20, [2, 7]), (21, [8])] : List (Nat × List Nat)).map (·.1), d < F_.tmps.size := by rw [← hF_]; simp
      have HF_ := Lib.hid hF_; clear hF_
      refine wp_flow_tabGI (Fx := Fence.wide) (nf := nf) true hW_3 10 [(12, []), (13, []), (14, []), (15, []), (16, [3]), (17, []), (18, [5]), (19, [4, 6]), (20, [2, 7]), (21, [8])] [SC (.func (.yield l) #[] #[]), SC (.agg #[cs k 0, cs k 1, cs k 2, cs k 3, cs k 4, cs k 5, cs k 6, cs k 7]), SC (.slice (some ⟨b, o, none⟩) n c), SC (.int .i64 (k : Int)), SC (.int .i64 (k1 : Int)), SC (.slice (some ⟨b, o, none⟩) n c), SC (.int .i64 ((n : Nat) : Int)), SC (.int .i64 (m : Int)), SC (.pointer (some ⟨b, o + m * 8, none⟩)), SC (.agg #[cs m 0, cs m 1, cs m 2, cs m 3, cs m 4, cs m 5, cs m 6, cs m 7])] [false, false, false, false, false, false, false, false, false, false] (by kernel_rfl) WideF.wide (by kernel_rfl) (by kernel_rfl) (by kernel_rfl) (by kernel_rfl) (by kernel_rfl) hsz_ ⟨SC.mono _, SC.mono _, SC.mono _, SC.mono _, SC.mono _, SC.mono _, SC.mono _, SC.mono _, SC.mono _, SC.mono _, trivial⟩ ?_ ?_
      · intro kq hkq a wx hB hp hs
        have hBo : Below w3.heap.size w3 wx := dB hW_3 hB
        have hcase : kq = 0 ∨ kq = 1 ∨ kq = 2 ∨ kq = 3 ∨ kq = 4 ∨ kq = 5 ∨ kq = 6 ∨ kq = 7 ∨ kq = 8 ∨ kq = 9 := by omega
        rcases hcase with rfl | rfl | rfl | rfl | rfl | rfl | rfl | rfl | rfl | rfl
        · clear hp
          exact ⟨_, rfl, .inl ⟨wanted_none rfl, op_mv (s := SC _) rfl ((hs 0 rfl).trans ev0)⟩⟩
        · clear hp
          obtain ⟨g0, g1, g2, g3, g4, g5, g6, g7⟩ := HG.out wx hBo
          have b4 := (hs 4 rfl).trans ev4
          simp [Act.eval] at b4
          exact ⟨_, rfl, .inl ⟨wanted_none rfl, Does.val (by simp [execOp, Act.eval, b4, go_sem, g0, g1, g2, g3, g4, g5, g6, g7]) rfl⟩⟩
        · clear hp
          have b1 := (hs 1 rfl).trans ev1
          simp [Act.eval] at b1
          exact ⟨_, rfl, .inl ⟨wanted_none rfl, Does.val (by simp [execOp, Act.eval, b1, go_sem, HS.out wx hBo]) rfl⟩⟩
        · clear hp
          exact ⟨_, rfl, .inl ⟨wanted_none rfl, op_mv (s := SC _) rfl ((hs 3 rfl).trans ev3)⟩⟩
        · obtain ⟨k0, -⟩ := hp
          have e0 : a.eval (.tmp 15) = .int .i64 (k : Int) := k0
          simp [Act.eval] at e0
          exact ⟨_, rfl, .inl ⟨wanted_none rfl, Does.val (by simp [execOp, Act.eval, e0, go_sem, hk1]) rfl⟩⟩
        · clear hp
          have b1 := (hs 1 rfl).trans ev1
          simp [Act.eval] at b1
          exact ⟨_, rfl, .inl ⟨wanted_none rfl, Does.val (by simp [execOp, Act.eval, b1, go_sem, HS.out wx hBo]) rfl⟩⟩
        · obtain ⟨k0, -⟩ := hp
          have e0 : a.eval (.tmp 17) = .slice (some ⟨b, o, none⟩) n c := k0
          simp [Act.eval] at e0
          exact ⟨_, rfl, .inl ⟨wanted_none rfl, Does.val (by simp [execOp, Act.eval, e0, go_sem]) rfl⟩⟩
        · obtain ⟨k0, k4, -⟩ := hp
          have e0 : a.eval (.tmp 16) = .int .i64 (k1 : Int) := k0
          simp [Act.eval] at e0
          have e1 : a.eval (.tmp 18) = .int .i64 ((n : Nat) : Int) := k4
          simp [Act.eval] at e1
          exact ⟨_, rfl, .inl ⟨wanted_none rfl, Does.val (by simp [execOp, Act.eval, e0, e1, go_sem, hm1, hnz]) rfl⟩⟩
        · obtain ⟨k0, k4, -⟩ := hp
          have e0 : a.eval (.tmp 14) = .slice (some ⟨b, o, none⟩) n c := k0
          simp [Act.eval] at e0
          have e1 : a.eval (.tmp 19) = .int .i64 (m : Int) := k4
          simp [Act.eval] at e1
          exact ⟨_, rfl, .inl ⟨wanted_none rfl, Does.val (by simp [execOp, Act.eval, e0, e1, go_sem, hm3, hm4]) rfl⟩⟩
        · obtain ⟨k0, -⟩ := hp
          obtain ⟨g0, g1, g2, g3, g4, g5, g6, g7⟩ := HM.out wx hBo
          have e0 : a.eval (.tmp 20) = .pointer (some ⟨b, o + m * 8, none⟩) := k0
          simp [Act.eval] at e0
          exact ⟨_, rfl, .inl ⟨wanted_none rfl, Does.val (by simp [execOp, Act.eval, e0, go_sem, g0, g1, g2, g3, g4, g5, g6, g7]) rfl⟩⟩
      · intro val wx hB hsp hdis
        have hBo : Below w3.heap.size w3 wx := dB hW_3 hB
        have e0 : val 0 = .func (.yield l) #[] #[] := hsp 0 (by omega)
        have e1 : val 1 = .agg #[cs k 0, cs k 1, cs k 2, cs k 3, cs k 4, cs k 5, cs k 6, cs k 7] := hsp 1 (by omega)
        have e9 : val 9 = .agg #[cs m 0, cs m 1, cs m 2, cs m 3, cs m 4, cs m 5, cs m 6, cs m 7] := hsp 9 (by omega)
        rw [← HF_.out]
        change wpListIn _ _ _ _ _ [_, _] _ _
        simp only [puts_consT, puts_nilm, vals, List.map_cons, List.map_nil, Nat.zero_add, Nat.reduceAdd, e0, e1, e9, List.setIfInBounds_toArray, List.set_cons_succ, List.set_cons_zero]
        clear hsp hdis HF_ hsz_ hB hW_3 e0 e1 e9 ev0 ev1 ev3 ev4
        have HBO := Lib.hid hBo
        obtain ⟨fn, tmps, assign, body, hy, hR⟩ := HY.out _ ⟨k, hlt⟩ wx (HJ.out _ wr wx none HJ3.out (below_grown0 (k3.out.trans (hBo.mono k3.out.size))) (fun r e => by cases e)) (by rw [List.length_take, List.length_finRange]; omega)
        simp only [← HME.out, Pg.ag] at hy
        have HTK := Lib.hid (show (List.finRange n).take (k + 1) = (List.finRange n).take k ++ [⟨k, hlt⟩] from by
          rw [List.take_succ_eq_append_getElem (by simp; exact hlt)]
          simp)
        have HX4 := Lib.hid (HS.out wx hBo)
        have HC4 := Lib.hid (HCW.out wx hBo)
        have HGS := Lib.hid hGs; have HGB := Lib.hid hGb
        clear hBo HX3 HBX k3 HG HM HS HJ3 hk1 hm1 hm3 hm4 hmn hnz HCX HCX3 HCW hbs hbb hbs3 hbb3
        gi_wp2
        refine hR.mono ?_
        rintro e W4 (⟨rfl, k5, hk4⟩ | ⟨rfl, hJx4⟩)
        · have HJ4 := Lib.hid k5; have HK4 := Lib.hid hk4
          clear k5 hk4
          gi_wp2
          go_roundw
          case rel => exact ⟨k + 1, by omega, by simp, by rw [HTK.out]; exact HJ4.out, Lib.hid ((World.cell?_of_block (a := ⟨Bs, q, none⟩) (HK4.out Bs HGS.out)).trans HX4.out), Lib.hid fun i hi j hj => (World.cell?_of_block (a := ⟨b, o + i * 8 + j, none⟩) (HK4.out b HGB.out)).trans (HC4.out i hi j hj)⟩
          case measure => simp [intOf]; omega
        · gi_wp2
          refine bodyPost_ret (results_none rfl _ _ _) rfl ?_
          exact ⟨⟨_, rfl⟩, .inr ⟨k + 1, by omega, by rw [HTK.out]; exact hJx4⟩⟩
    · obtain rfl : k = n := by omega
      gi_wp2
      go_end0
      rw [List.take_of_length_le (by simp)] at hJs
      exact ⟨⟨_, rfl⟩, .inl hJs⟩
set_option maxRecDepth 100000 in
theorem sides1Kn (nf : Nat) (l Bs q : Nat) (A : Option Addr) (c : Nat) (J : List (Fin 0) → World → Prop) (W : World) (hBc : W.cell? ⟨Bs, q, none⟩ = some (.slice A 0 c)) (h0 : J [] W) :
    CallsIn Fence.wide nf Tryz.prog 177 #[.func (.yield l) #[] #[], .pointer (some ⟨Bs, q, none⟩)] W fun e W' => (∃ v, e = .returned v) ∧ J [] W' := by
  refine callsIn_of_wp Tryz.func177 rfl trivial ?_ rfl
  simp only [Tryz.ntmps177, List.size_toArray, List.length_cons, List.length_nil, Nat.reduceAdd, Nat.reduceSub, Array.replicate_succ, Array.replicate_zero, List.push_toArray, List.append_toArray, List.nil_append, List.cons_append]
  gi_wp2
  gi_loopw [7] (fun i wr => i = .int .i64 0 ∧ J [] wr) (fun _ _ => 0)
  case atStart => exact ⟨rfl, h0⟩
  case round =>
    obtain ⟨rfl, hJs⟩ := hrel
    gi_wp2
    go_end0
    exact ⟨⟨_, rfl⟩, hJs⟩
end Go.Proofs.YtlgnagnmoleeiaaGreat
