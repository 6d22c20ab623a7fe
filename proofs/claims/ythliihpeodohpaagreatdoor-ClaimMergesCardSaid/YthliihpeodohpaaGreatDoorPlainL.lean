/-
 PLAIN: the long division of digits (guess, subtract, add back); nothing of the program.
-/
import Derived.Test.YthliihpeodohpaaGreatDoorMemR
namespace Go.Proofs.YthliihpeodohpaaGreatDoor.I
/-- One step of taking away g times a number. -/
theorem sub_step {v L U : List Int} {j k : Nat} {g c e y c' : Int} (hy : L[j + k]? = some y) (he : v[k]? = some e)
  (h : val L + g * val (v.take k) * pw j = val U + c * pw (j + k)) :
  val (L.set (j + k) (y - g * e - c + c' * 1000000000)) + g * val (v.take (k + 1)) * pw j = val U + c' * pw (j + (k + 1)) := by
 rw [val_set _ hy, val_take_succ he, show j + (k + 1) = (j + k) + 1 from rfl, pw_succ]
 have h1 := pw_add j k
 rw [h1] at h ⊢
 grind
/-- One step of adding a number. -/
theorem back_step {v L : List Int} {j k : Nat} {R c e y : Int} (hy : L[j + k]? = some y) (he : v[k]? = some e)
  (h : val L + c * pw (j + k) = R + val (v.take k) * pw j) :
  val (L.set (j + k) ((y + e + c) % 1000000000)) + (y + e + c) / 1000000000 * pw (j + (k + 1)) = R + val (v.take (k + 1)) * pw j := by
 rw [val_set _ hy, val_take_succ he, show j + (k + 1) = (j + k) + 1 from rfl, pw_succ]
 have h1 := pw_add j k
 have h2 := Int.mul_ediv_add_emod (y + e + c) 1000000000
 rw [h1] at h ⊢
 generalize (y + e + c) % 1000000000 = a at *
 generalize (y + e + c) / 1000000000 = b at *
 grind
/-- Where a round of the long division stands: the row U, the divisor v (m + 2 digits), the place j. -/
structure LD (U v : List Int) (m j : Nat) : Prop where
 dU : Dig U
 dv : Dig v
 hn : v.length = m + 2
 hj : j + m + 2 < U.length
 hv : pw (m + 1) ≤ val v
 top : val (U.drop (j + 1)) < val v
/-- A round: the value X of the row from the place on, that of the divisor V, and the top digits. -/
structure Rd (X V p d1 d2 d3 v1 v2 : Int) : Prop where
 p0 : 0 < p
 x : p * (d3 + 1000000000 * (d2 + 1000000000 * d1)) ≤ X
 x1 : X < p * (d3 + 1000000000 * (d2 + 1000000000 * d1) + 1)
 v : p * (v2 + 1000000000 * v1) ≤ V
 v1_ : V < p * (v2 + 1000000000 * v1 + 1)
 vp : 1000000000 * p ≤ V
 xv : X < 1000000000 * V
 d1_ : d1 ≤ v1
 v1p : 1 ≤ v1
theorem LD.zero {U v : List Int} {m j : Nat} (h : LD U v m j) : val (U.drop (j + m + 3)) = 0 := by
 have h1 := val_lt h.dv
 rw [h.hn] at h1
 have h2 := h.top
 have h3 := val_split (U.drop (j + 1)) (k := m + 2) (by have := h.hj; simp; omega)
 rw [List.drop_drop, show j + 1 + (m + 2) = j + m + 3 from by omega] at h3
 have h4 := val_nonneg ((h.dU.drop (j + 1)).take (m + 2))
 have h5 := val_nonneg (h.dU.drop (j + m + 3))
 have h6 := pw_pos (m + 2)
 by_cases h7 : 1 ≤ val (U.drop (j + m + 3))
 ·have h8 : pw (m + 2) * 1 ≤ pw (m + 2) * val (U.drop (j + m + 3)) := Int.mul_le_mul_of_nonneg_left h7 (by omega)
  omega
 ·omega
theorem LD.digits {U v : List Int} {m j : Nat} (h : LD U v m j) : ∃ d1 d2 d3 v1 v2, U[j + m + 2]? = some d1 ∧ U[j + m + 1]? = some d2 ∧ U[j + m]? = some d3 ∧ v[m + 1]? = some v1 ∧ v[m]? = some v2 ∧
  Rd (val (U.drop j)) (val v) (pw m) d1 d2 d3 v1 v2 := by
 have hj := h.hj
 have hn := h.hn
 refine ⟨U[j + m + 2], U[j + m + 1], U[j + m], v[m + 1], v[m], List.getElem?_eq_getElem _, List.getElem?_eq_getElem _, List.getElem?_eq_getElem _, List.getElem?_eq_getElem _, List.getElem?_eq_getElem _, ?_⟩
 have hz := h.zero
 have e1 := val_drop_succ (List.getElem?_eq_getElem (show j + m + 2 < U.length from hj))
 have e2 := val_drop_succ (List.getElem?_eq_getElem (show j + m + 1 < U.length by omega))
 have e3 := val_drop_succ (List.getElem?_eq_getElem (show j + m < U.length by omega))
 rw [show j + m + 2 + 1 = j + m + 3 from rfl, hz] at e1
 rw [show j + m + 1 + 1 = j + m + 2 from rfl] at e2
 have f1 := val_drop_succ (List.getElem?_eq_getElem (show m + 1 < v.length by omega))
 have f2 := val_drop_succ (List.getElem?_eq_getElem (show m < v.length by omega))
 rw [List.drop_eq_nil_of_le (show v.length ≤ m + 1 + 1 by omega)] at f1
 have s1 := val_split (U.drop j) (k := m) (by simp; omega)
 have s2 := val_split v (k := m) (by omega)
 rw [List.drop_drop] at s1
 have b1 := val_nonneg ((h.dU.drop j).take m)
 have b2 := val_lt ((h.dU.drop j).take m)
 have b3 := val_nonneg (h.dv.take m)
 have b4 := val_lt (h.dv.take m)
 rw [List.length_take, List.length_drop, Nat.min_eq_left (by omega)] at b2
 rw [List.length_take, Nat.min_eq_left (by omega)] at b4
 have s3 := val_drop_succ (List.getElem?_eq_getElem (show j < U.length by omega))
 have dd := h.dU.get (List.getElem?_eq_getElem (show j < U.length by omega))
 have d1b := h.dU.get (List.getElem?_eq_getElem (show j + m + 2 < U.length by omega))
 have d2b := h.dU.get (List.getElem?_eq_getElem (show j + m + 1 < U.length by omega))
 have v1b := h.dv.get (List.getElem?_eq_getElem (show m + 1 < v.length by omega))
 have v2b := h.dv.get (List.getElem?_eq_getElem (show m < v.length by omega))
 have ht := h.top
 have hv := h.hv
 have p0 := pw_pos m
 have t1 := val_split (U.drop (j + 1)) (k := m) (by simp; omega)
 rw [List.drop_drop, show j + 1 + m = j + m + 1 from by omega] at t1
 have b5 := val_nonneg ((h.dU.drop (j + 1)).take m)
 rw [pw_succ] at hv
 generalize U[j + m + 2] = d1 at *
 generalize U[j + m + 1] = d2 at *
 generalize U[j + m] = d3 at *
 generalize v[m + 1] = v1 at *
 generalize v[m] = v2 at *
 generalize U[j] = d0 at *
 simp only [val] at f1
 rw [e1] at e2
 rw [e2] at e3 t1
 rw [e3] at s1
 rw [f1] at f2
 rw [f2] at s2
 generalize pw m = p at *
 have v1p : 1 ≤ v1 := by
  by_cases hc : 1 ≤ v1
  ·exact hc
  ·have : v1 = 0 := by omega
   subst this
   have h9 : p * (v2 + 1000000000 * (0 + 1000000000 * 0)) ≤ p * 999999999 := Int.mul_le_mul_of_nonneg_left (by omega) (by omega)
   omega
 have hd1 : d1 ≤ v1 := by
  by_cases hc : d1 ≤ v1
  ·exact hc
  ·have h9 : p * (v2 + 1000000000 * (v1 + 1000000000 * 0) + 1) ≤ p * (d2 + 1000000000 * (d1 + 1000000000 * 0)) := Int.mul_le_mul_of_nonneg_left (by omega) (by omega)
   rw [Int.mul_add, Int.mul_one] at h9
   omega
 refine ⟨p0, ?_, ?_, ?_, ?_, hv, by omega, hd1, v1p⟩
 ·rw [Int.mul_zero, Int.add_zero] at s1; omega
 ·rw [Int.mul_zero, Int.add_zero] at s1; rw [Int.mul_add p _ 1]; omega
 ·rw [Int.mul_zero, Int.add_zero] at s2; omega
 ·rw [Int.mul_zero, Int.add_zero] at s2; rw [Int.mul_add p _ 1]; omega
/-- A guess of the quotient's digit, and the rest of the two top digits. -/
structure Gs (X V d1 d2 v1 g r : Int) : Prop where
 g0 : 0 ≤ g
 g1 : g ≤ 2000000000
 r0 : 0 ≤ r
 e : g * v1 + r = d1 * 1000000000 + d2
 x : X < (g + 1) * V
/-- A guess that is right, or one too many. -/
structure Gd (X V g : Int) : Prop where
 g0 : 0 ≤ g
 g1 : g < 1000000000
 x : X < (g + 1) * V
 v : g * V ≤ X + V
section
variable {X V p d1 d2 d3 v1 v2 g r : Int}
theorem Rd.start (h : Rd X V p d1 d2 d3 v1 v2) (h1 : 0 ≤ d1) (h1' : d1 < 1000000000) (h2 : 0 ≤ d2) (h2' : d2 < 1000000000) (h3' : d3 < 1000000000) (h4 : 0 ≤ v2) :
  Gs X V d1 d2 v1 ((d1 * 1000000000 + d2) / v1) ((d1 * 1000000000 + d2) % v1) ∧ (d1 * 1000000000 + d2) % v1 < v1 := by
 have hv1 := h.v1p
 have e1 := Int.mul_ediv_add_emod (d1 * 1000000000 + d2) v1
 have e2 := Int.emod_nonneg (d1 * 1000000000 + d2) (show v1 ≠ 0 by omega)
 have e3 := Int.emod_lt_of_pos (d1 * 1000000000 + d2) (show 0 < v1 by omega)
 have e4 : 0 ≤ (d1 * 1000000000 + d2) / v1 := Int.ediv_nonneg (by omega) (by omega)
 generalize (d1 * 1000000000 + d2) % v1 = r at *
 generalize (d1 * 1000000000 + d2) / v1 = g at *
 have hd := h.d1_
 refine ⟨⟨e4, ?_, e2, by rw [Int.mul_comm]; exact e1, ?_⟩, e3⟩
 ·by_cases hc : g ≤ 2000000000
  ·exact hc
  ·have : v1 * 2000000001 ≤ v1 * g := Int.mul_le_mul_of_nonneg_left (by omega) (by omega)
   omega
 ·have k1 : (g + 1) * (v2 + 1000000000 * v1) ≥ 1000000000 * (d1 * 1000000000 + d2 + 1) := by
   have : (g + 1) * (v2 + 1000000000 * v1) = g * v2 + v2 + 1000000000 * (v1 * g + v1) := by grind
   have : 0 ≤ g * v2 := Int.mul_nonneg e4 h4
   omega
  have k2 : p * (d3 + 1000000000 * (d2 + 1000000000 * d1) + 1) ≤ p * ((g + 1) * (v2 + 1000000000 * v1)) := Int.mul_le_mul_of_nonneg_left (by omega) (by have := h.p0; omega)
  have k3 : (g + 1) * (p * (v2 + 1000000000 * v1)) ≤ (g + 1) * V := Int.mul_le_mul_of_nonneg_left h.v (by omega)
  have k4 : (g + 1) * (p * (v2 + 1000000000 * v1)) = p * ((g + 1) * (v2 + 1000000000 * v1)) := by grind
  have := h.x1
  omega
theorem Rd.less (h : Rd X V p d1 d2 d3 v1 v2) (hg : Gs X V d1 d2 v1 g r) (hd2 : d2 < 1000000000) (h3 : 0 ≤ d3) (hr : r < 1000000000)
  (hc : 1000000000 ≤ g ∨ r * 1000000000 + d3 < g * v2) : Gs X V d1 d2 v1 (g - 1) (r + v1) ∧ (1000000000 ≤ r + v1 → g - 1 < 1000000000) := by
 have hg1 : 1 ≤ g := by
  have := hg.g0; have := hg.r0
  rcases hc with hc | hc
  ·omega
  ·by_cases h0 : g = 0
   ·subst h0; omega
   ·omega
 have hv1 := h.v1p
 have e := hg.e
 have hx : X < g * V := by
  rcases hc with hc | hc
  ·have h5 := h.xv
   have h6 : 1000000000 * V ≤ g * V := Int.mul_le_mul_of_nonneg_right hc (by have := h.vp; have := h.p0; omega)
   omega
  ·have k1 : d3 + 1000000000 * (d2 + 1000000000 * d1) + 1 ≤ g * (v2 + 1000000000 * v1) := by
    have : g * (v2 + 1000000000 * v1) = g * v2 + 1000000000 * (g * v1) := by grind
    omega
   have k2 : p * (d3 + 1000000000 * (d2 + 1000000000 * d1) + 1) ≤ p * (g * (v2 + 1000000000 * v1)) := Int.mul_le_mul_of_nonneg_left k1 (by have := h.p0; omega)
   have k3 : g * (p * (v2 + 1000000000 * v1)) ≤ g * V := Int.mul_le_mul_of_nonneg_left h.v (by omega)
   have k4 : g * (p * (v2 + 1000000000 * v1)) = p * (g * (v2 + 1000000000 * v1)) := by grind
   have := h.x1
   omega
 refine ⟨⟨by omega, by have := hg.g1; omega, by have := hg.r0; omega, by rw [Int.sub_mul, Int.one_mul]; omega, by rw [Int.sub_add_cancel]; exact hx⟩, fun hb => ?_⟩
 by_cases k0 : g - 1 < 1000000000
 ·exact k0
 ·have h5 : 1000000001 * v1 ≤ g * v1 := Int.mul_le_mul_of_nonneg_right (by omega) (by omega)
  have := h.d1_
  have := hg.r0
  omega
theorem Rd.done (h : Rd X V p d1 d2 d3 v1 v2) (hg : Gs X V d1 d2 v1 g r) (hv2 : v2 < 1000000000) (h3 : 0 ≤ d3) (hb : g < 1000000000) (hc : 1000000000 ≤ r ∨ g * v2 ≤ r * 1000000000 + d3) : Gd X V g := by
 have g0 := hg.g0
 have k0 : g * v2 ≤ r * 1000000000 + d3 := by
  rcases hc with hc | hc
  ·have h5 : g * v2 ≤ g * 999999999 := Int.mul_le_mul_of_nonneg_left (by omega) g0
   omega
  ·exact hc
 have e := hg.e
 have k1 : g * (v2 + 1000000000 * v1) ≤ d3 + 1000000000 * (d2 + 1000000000 * d1) := by
  have : g * (v2 + 1000000000 * v1) = g * v2 + 1000000000 * (g * v1) := by grind
  omega
 have p0 := h.p0
 have k2 : p * (g * (v2 + 1000000000 * v1)) ≤ p * (d3 + 1000000000 * (d2 + 1000000000 * d1)) := Int.mul_le_mul_of_nonneg_left k1 (by omega)
 have k3 : g * V ≤ g * (p * (v2 + 1000000000 * v1 + 1)) := Int.mul_le_mul_of_nonneg_left (by have := h.v1_; omega) g0
 have k4 : g * (p * (v2 + 1000000000 * v1 + 1)) = p * (g * (v2 + 1000000000 * v1)) + g * p := by grind
 have k5 : g * p ≤ 1000000000 * p := Int.mul_le_mul_of_nonneg_right (by omega) (by omega)
 have := h.x
 have := h.vp
 exact ⟨g0, hb, hg.x, by omega⟩
end
/-- The end of a round: g digits taken away (g right, or one too many), and what the digit above keeps. -/
theorem LD.sign {U v M : List Int} {m j : Nat} {g c d1 : Int} (h : LD U v m j) (hM : Dig M) (hl : M.length = U.length) (ht : M.take j = U.take j) (hd : M.drop (j + m + 2) = U.drop (j + m + 2)) (h1 : U[j + m + 2]? = some d1)
  (hv : val M + g * val v * pw j = val U + c * pw (j + m + 2)) :
  ∃ low, 0 ≤ low ∧ low < pw (m + 2) ∧ val ((M.set (j + m + 2) (d1 - c)).drop j) = val (U.drop j) - g * val v ∧ val (U.drop j) - g * val v = low + pw (m + 2) * (d1 - c) := by
 have hj := h.hj
 have hM1 : M[j + m + 2]? = some d1 := by
  have := congrArg (fun l => l[0]?) hd
  simpa [h1] using this
 have hz := h.zero
 refine ⟨val ((M.drop j).take (m + 2)), val_nonneg ((hM.drop j).take _), ?_, ?_, ?_⟩
 ·have := val_lt ((hM.drop j).take (m + 2))
  rwa [List.length_take, List.length_drop, Nat.min_eq_left (by omega)] at this
 ·have e1 := val_set (l := M) (d1 - c) hM1
  have e2 := val_split (M.set (j + m + 2) (d1 - c)) (k := j) (by simp; omega)
  have e3 := val_split U (k := j) (by omega)
  rw [List.take_set_of_le (by omega), ht] at e2
  have hp := pw_pos j
  rw [e1] at e2
  have e4 : pw j * val ((M.set (j + m + 2) (d1 - c)).drop j) = pw j * (val (U.drop j) - g * val v) := by grind
  exact Int.eq_of_mul_eq_mul_left (by omega) e4
 ·have e2 := val_split M (k := j) (by omega)
  have e3 := val_split U (k := j) (by omega)
  have e5 := val_split (M.drop j) (k := m + 2) (by simp; omega)
  have e6 := val_drop_succ h1
  rw [show j + m + 2 + 1 = j + m + 3 from rfl, hz] at e6
  rw [List.drop_drop, show j + (m + 2) = j + m + 2 from by omega, hd, e6] at e5
  rw [ht] at e2
  have hp := pw_pos j
  have hpa : pw (j + m + 2) = pw j * pw (m + 2) := by rw [← pw_add]; rfl
  rw [hpa] at hv
  have e4 : pw j * (val (U.drop j) - g * val v) = pw j * (val ((M.drop j).take (m + 2)) + pw (m + 2) * (d1 - c)) := by grind
  exact Int.eq_of_mul_eq_mul_left (by omega) e4
/-- A round that took the right digit. -/
theorem LD.next {U v M : List Int} {m j : Nat} {g c d1 : Int} (h : LD U v m j) (hM : Dig M) (hl : M.length = U.length) (ht : M.take j = U.take j) (hd : M.drop (j + m + 2) = U.drop (j + m + 2)) (h1 : U[j + m + 2]? = some d1)
  (hv : val M + g * val v * pw j = val U + c * pw (j + m + 2)) (h0 : g * val v ≤ val (U.drop j)) (h2 : val (U.drop j) < (g + 1) * val v) :
  d1 - c = 0 ∧ Dig (M.set (j + m + 2) (d1 - c)) ∧ (M.set (j + m + 2) (d1 - c)).length = U.length ∧ val (M.set (j + m + 2) (d1 - c)) + g * val v * pw j = val U ∧ val ((M.set (j + m + 2) (d1 - c)).drop j) < val v := by
 obtain ⟨low, hl0, hl1, he, hx⟩ := h.sign hM hl ht hd h1 hv
 have hV := val_lt h.dv
 rw [h.hn] at hV
 have hM1 : M[j + m + 2]? = some d1 := by
  have := congrArg (fun l => l[0]?) hd
  simpa [h1] using this
 rw [Int.add_mul, Int.one_mul] at h2
 have hp := pw_pos (m + 2)
 have h3 : d1 - c = 0 := by
  by_cases ha : 1 ≤ d1 - c
  ·have : pw (m + 2) * 1 ≤ pw (m + 2) * (d1 - c) := Int.mul_le_mul_of_nonneg_left ha (by omega)
   omega
  ·by_cases hb : d1 - c ≤ -1
   ·have : pw (m + 2) * (d1 - c) ≤ pw (m + 2) * (-1) := Int.mul_le_mul_of_nonneg_left hb (by omega)
    omega
   ·omega
 refine ⟨h3, hM.set (by omega) (by omega), by rw [List.length_set]; exact hl, ?_, by rw [he]; omega⟩
 rw [val_set _ hM1]
 grind
/-- The digit above is less than 0 exactly if too much was taken. -/
theorem LD.neg {U v M : List Int} {m j : Nat} {g c d1 : Int} (h : LD U v m j) (hM : Dig M) (hl : M.length = U.length) (ht : M.take j = U.take j) (hd : M.drop (j + m + 2) = U.drop (j + m + 2)) (h1 : U[j + m + 2]? = some d1)
  (hv : val M + g * val v * pw j = val U + c * pw (j + m + 2)) : d1 - c < 0 ↔ val (U.drop j) < g * val v := by
 obtain ⟨low, hl0, hl1, he, hx⟩ := h.sign hM hl ht hd h1 hv
 have hp := pw_pos (m + 2)
 constructor
 ·intro ha
  have : pw (m + 2) * (d1 - c) ≤ pw (m + 2) * (-1) := Int.mul_le_mul_of_nonneg_left (by omega) (by omega)
  omega
 ·intro ha
  by_cases hb : d1 - c < 0
  ·exact hb
  ·have : 0 ≤ pw (m + 2) * (d1 - c) := Int.mul_nonneg (by omega) (by omega)
   omega
/-- The scale makes the divisor's digits no more, and the beginning. -/
theorem scale_ok {b : List Int} {n : Nat} {t : Int} (cb : Can b) (hn : b.length = n + 1) (ht : b[n]? = some t) :
  1 ≤ t ∧ t < 1000000000 ∧ 1 ≤ 1000000000 / (t + 1) ∧ 1000000000 / (t + 1) < 1000000000 ∧ val b * (1000000000 / (t + 1)) < pw (n + 1) ∧ pw n ≤ val b * (1000000000 / (t + 1)) := by
 have htb := cb.1.get ht
 have ht0 : t ≠ 0 := cb.2 t (by rw [List.getLast?_eq_getElem?, hn]; exact ht)
 have hs1 : 1 ≤ 1000000000 / (t + 1) := (Int.le_ediv_iff_mul_le (by omega)).2 (by omega)
 have hs2 : 1000000000 / (t + 1) < 1000000000 := Int.ediv_lt_of_lt_mul (by omega) (by omega)
 have hs3 := Int.ediv_mul_le 1000000000 (show t + 1 ≠ 0 by omega)
 refine ⟨by omega, htb.2, hs1, hs2, ?_, ?_⟩
 ·have h1 := val_take_succ ht
  rw [val_take_over (by omega)] at h1
  have h2 := val_lt (cb.1.take n)
  rw [List.length_take, Nat.min_eq_left (by omega)] at h2
  generalize 1000000000 / (t + 1) = s at *
  have hp := pw_pos n
  have h3 : val b + 1 ≤ pw n * (t + 1) := by rw [Int.mul_add]; omega
  have h4 : (val b + 1) * s ≤ pw n * (t + 1) * s := Int.mul_le_mul_of_nonneg_right h3 (by omega)
  have h5 : pw n * (t + 1) * s = pw n * (s * (t + 1)) := by grind
  have h6 : pw n * (s * (t + 1)) ≤ pw n * 1000000000 := Int.mul_le_mul_of_nonneg_left hs3 (by omega)
  rw [pw_succ]
  rw [Int.add_mul] at h4
  omega
 ·have h1 := cb.pos (by intro h; rw [h] at hn; simp at hn)
  rw [hn, Nat.add_sub_cancel] at h1
  generalize 1000000000 / (t + 1) = s at *
  have hp := pw_pos n
  have h2 : val b * 1 ≤ val b * s := Int.mul_le_mul_of_nonneg_left hs1 (by omega)
  omega
/-- Digits of so small a value: the last one is 0. -/
theorem take_low {l : List Int} {n : Nat} (hd : Dig l) (hl : l.length = n + 1) (h : val l < pw n) : val (l.take n) = val l := by
 obtain ⟨x, hx⟩ : ∃ x, l[n]? = some x := ⟨_, List.getElem?_eq_getElem (by omega)⟩
 have h1 := val_take_succ hx
 rw [val_take_over (by omega)] at h1
 have hb := hd.get hx
 have h2 := val_nonneg (hd.take n)
 have hp := pw_pos n
 have : x = 0 := by
  by_cases hc : 1 ≤ x
  ·have : pw n * 1 ≤ pw n * x := Int.mul_le_mul_of_nonneg_left hc (by omega)
   omega
  ·omega
 subst this
 omega
/-- Digits of a value below the power: what lies behind is 0. -/
theorem take_lowN {l : List Int} {n : Nat} (hd : Dig l) (hl : n ≤ l.length) (h : val l < pw n) : val (l.take n) = val l := by
 have h1 := val_split l hl
 have h2 := val_nonneg (hd.take n)
 have h3 := val_nonneg (hd.drop n)
 have hp := pw_pos n
 by_cases hc : 1 ≤ val (l.drop n)
 ·have : pw n * 1 ≤ pw n * val (l.drop n) := Int.mul_le_mul_of_nonneg_left hc (by omega)
  omega
 ·have h4 : val (l.drop n) = 0 := by omega
  rw [h4] at h1
  omega
/-- The first round. -/
theorem LD.first {a b ua vb : List Int} {m : Nat} {s : Int} (da : Dig a) (du : Dig ua) (dv : Dig vb) (hba : m + 2 ≤ a.length) (hlu : ua.length = a.length + 1) (hlv : vb.length = m + 2) (hu : val ua = val a * s) (hv : val vb = val b * s) (hs : 1 ≤ s) (hp : pw (m + 1) ≤ val b) (hp2 : pw (m + 1) ≤ val vb) :
  LD ua vb m (a.length - (m + 2)) := by
 refine ⟨du, dv, hlv, by omega, hp2, ?_⟩
 obtain ⟨k, hk⟩ : ∃ k, a.length = k + (m + 2) := ⟨a.length - (m + 2), by omega⟩
 rw [show a.length - (m + 2) + 1 = k + 1 from by omega]
 have h1 := val_split ua (k := k + 1) (by omega)
 have h2 := val_nonneg (du.take (k + 1))
 have h3 := val_lt da
 rw [hk, show k + (m + 2) = (k + 1) + (m + 1) from by omega, pw_add] at h3
 have h4 : val a * s < pw (k + 1) * pw (m + 1) * s := Int.mul_lt_mul_of_pos_right h3 (by omega)
 have hpk := pw_pos (k + 1)
 have h5 : pw (k + 1) * val (ua.drop (k + 1)) < pw (k + 1) * (pw (m + 1) * s) := by
  rw [← Int.mul_assoc]; omega
 have h6 := Int.lt_of_mul_lt_mul_left h5 (by omega)
 have h7 : pw (m + 1) * s ≤ val b * s := Int.mul_le_mul_of_nonneg_right hp (by omega)
 omega
/-- After the last round: the rest, divided by the scale. -/
theorem last_rest {A Bv Q Uv V s q rest : Int} (hs : 1 ≤ s) (hV : V = Bv * s) (hU : A * s = Uv + Q * V) (hU1 : Uv < V) (hq : Uv = q * s + rest) (h0 : 0 ≤ rest) (h1 : rest < s) : rest = 0 ∧ A = Q * Bv + q ∧ q < Bv := by
 subst hV
 have e1 : s * (A - Q * Bv - q) = rest := by grind
 have h2 : A - Q * Bv - q = 0 := by
  by_cases ha : 1 ≤ A - Q * Bv - q
  ·have : s * 1 ≤ s * (A - Q * Bv - q) := Int.mul_le_mul_of_nonneg_left ha (by omega)
   omega
  ·by_cases hb : A - Q * Bv - q ≤ -1
   ·have : s * (A - Q * Bv - q) ≤ s * (-1) := Int.mul_le_mul_of_nonneg_left hb (by omega)
    omega
   ·omega
 rw [h2, Int.mul_zero] at e1
 refine ⟨e1.symm, by omega, ?_⟩
 have h3 : q * s < Bv * s := by omega
 exact Int.lt_of_mul_lt_mul_right h3 (by omega)
end Go.Proofs.YthliihpeodohpaaGreatDoor.I
