/-
 THE LAWS by the engine, their arguments as they come in.
-/
import Derived.Test.YtcfejkpadcccbaaGreatPgI
import Derived.Test.YtcfejkpadcccbaaGreatEmY
import Derived.Test.YtcfejkpadcccbaaGreatEoZ
import Derived.Test.YtcfejkpadcccbaaGreatFlow
import Derived.OpenShut
namespace Go.Proofs.YtcfejkpadcccbaaGreat
open Go.RowKit
set_option linter.unusedSimpArgs false
set_option linter.unusedVariables false
theorem Pg.comb1 {b i j k l : Rat × Rat} (hjk : 0 < vcrs (vsub j b) (vsub k b)) (hik : 0 < vcrs (vsub i b) (vsub k b)) (hkl : 0 < vcrs (vsub k b) (vsub l b)) (h1 : 0 < Pg.cr i j k) (h2 : 0 < Pg.cr j k l) : 0 < Pg.cr i k l := by
 have e : Pg.cr i k l * vcrs (vsub j b) (vsub k b) = vcrs (vsub i b) (vsub k b) * Pg.cr j k l + vcrs (vsub k b) (vsub l b) * Pg.cr i j k := by unfold Pg.cr vcrs vsub; grind
 have m1 := Rat.mul_pos hik h2
 have m2 := Rat.mul_pos hkl h1
 exact Pg.pos_div hjk e (by grind)
theorem Pg.comb2 {b i j k l : Rat × Rat} (hjk : 0 < vcrs (vsub j b) (vsub k b)) (hij : 0 < vcrs (vsub i b) (vsub j b)) (hjl : 0 < vcrs (vsub j b) (vsub l b)) (h1 : 0 < Pg.cr i j k) (h2 : 0 < Pg.cr j k l) : 0 < Pg.cr i j l := by
 have e : Pg.cr i j l * vcrs (vsub j b) (vsub k b) = vcrs (vsub i b) (vsub j b) * Pg.cr j k l + vcrs (vsub j b) (vsub l b) * Pg.cr i j k := by unfold Pg.cr vcrs vsub; grind
 have m1 := Rat.mul_pos hij h2
 have m2 := Rat.mul_pos hjl h1
 exact Pg.pos_div hjk e (by grind)
section
variable {C : Nat → Rat × Rat} {A : Nat → Nat} {b : Rat × Rat} {n : Nat}
theorem Pg.rising (h1 : ∀ i, A i < A (i + 1)) : ∀ {i j}, i < j → A i < A j := by
 intro i j h
 induction j with
 | zero => omega
 | succ j ih =>
  have := h1 j
  by_cases e : i = j
  · subst e; exact this
  · have := ih (by omega); omega
/-- Within half a turn. -/
theorem Pg.window (h1 : ∀ i, A i < A (i + 1)) (pos : ∀ i j, i < j → A j < A i + 8 → 0 < vcrs (vsub (C i) b) (vsub (C j) b)) (loc : ∀ i, 0 < Pg.cr (C i) (C (i + 1)) (C (i + 2))) :
  ∀ d i j k, i < j → j < k → k - i = d → A k ≤ A i + 8 → 0 < Pg.cr (C i) (C j) (C k) := by
 intro d
 induction d using Nat.strongRecOn with
 | _ d ih =>
  intro i j k hij hjk hd hA
  have r := @Pg.rising A h1
  by_cases hj : i + 1 < j
  · have a1 := r (show i < i + 1 by omega)
    have a2 := r hj
    have a3 := r hjk
    have d1 := ih (j - i) (by omega) i (i + 1) j (by omega) hj rfl (by omega)
    have d2 := ih (k - (i + 1)) (by omega) (i + 1) j k hj hjk rfl (by omega)
    exact Pg.comb1 (b := b) (pos _ _ hj (by omega)) (pos _ _ hij (by omega)) (pos _ _ hjk (by omega)) d1 d2
  · obtain rfl : j = i + 1 := by omega
    by_cases hk : k = i + 2
    · subst hk; exact loc i
    · obtain ⟨m, rfl⟩ : ∃ m, k = m + 1 := ⟨k - 1, by omega⟩
      have a1 := r hij
      have a2 := r (show i + 1 < m by omega)
      have a3 := r (show m < m + 1 by omega)
      have d1 := ih (m - i) (by omega) i (i + 1) m (by omega) (by omega) rfl (by omega)
      have d2 := ih (m + 1 - (i + 1)) (by omega) (i + 1) m (m + 1) (by omega) (by omega) rfl (by omega)
      exact Pg.comb2 (b := b) (pos _ _ (by omega) (by omega)) (pos _ _ hij (by omega)) (pos _ _ (by omega) (by omega)) d1 d2
theorem Pg.star (hC : ∀ i, C (i + n) = C i) (h1 : ∀ i, A i < A (i + 1)) (h2 : ∀ i, A (i + n) = A i + 16) (pos : ∀ i j, i < j → A j < A i + 8 → 0 < vcrs (vsub (C i) b) (vsub (C j) b)) (loc : ∀ i, 0 < Pg.cr (C i) (C (i + 1)) (C (i + 2)))
  (i d : Nat) (hd : 2 ≤ d) (hn : d < n) : 0 < Pg.cr (C i) (C (i + 1)) (C (i + d)) := by
 have r := @Pg.rising A h1
 have win := fun i j k hij hjk hA => Pg.window h1 pos loc (k - i) i j k hij hjk rfl hA
 have a1 := r (show i < i + 1 by omega)
 have a2 := r (show i + 1 < i + d by omega)
 have a3 := r (show i + d < i + n by omega)
 have p1 := h2 i
 have p2 := h2 (i + 1)
 by_cases g0 : A i + 8 ≤ A (i + 1)
 · have := win (i + 1) (i + d) (i + n) (by omega) (by omega) (by omega)
   rw [hC, Pg.cr_rot, Pg.cr_rot] at this
   exact this
 by_cases g1 : A (i + d) ≤ A i + 8
 · exact win i (i + 1) (i + d) (by omega) (by omega) g1
 by_cases g2 : A (i + 1) + 16 ≤ A (i + d) + 8
 · have := win (i + d) (i + n) (i + 1 + n) (by omega) (by omega) (by omega)
   rw [hC, hC, Pg.cr_rot] at this
   exact this
 have c1 := pos i (i + 1) (by omega) (by omega)
 have c2 := pos (i + 1) (i + d) (by omega) (by omega)
 have c3 := pos (i + d) (i + n) (by omega) (by omega)
 rw [hC] at c3
 have e : Pg.cr (C i) (C (i + 1)) (C (i + d)) = vcrs (vsub (C i) b) (vsub (C (i + 1)) b) + vcrs (vsub (C (i + 1)) b) (vsub (C (i + d)) b) + vcrs (vsub (C (i + d)) b) (vsub (C i) b) := by unfold Pg.cr vcrs vsub; grind
 rw [e]
 grind
end
/-- A polygon that is convex turns to the left at each corner. -/
theorem Pg.left_of {L : List (Rat × Rat)} (h : Pg.convex L = true) : 3 ≤ L.length ∧ ∀ i, 0 < Pg.cr (Pg.cor L i) (Pg.cor L (i + 1)) (Pg.cor L (i + 2)) := by
 unfold Pg.convex at h
 rw [Bool.and_eq_true] at h
 have hr := (valid_iff L).1 h.1
 have hn : 0 < L.length := by have := hr.1; omega
 refine ⟨hr.1, fun i => ?_⟩
 have h1 := (Pg.bent_all hn).1 hr.2.2.1 i
 have h2 := (Pg.dent_all hn).1 h.2 i
 unfold Pg.bentA at h1
 unfold Pg.denA at h2
 rw [vside_cr] at h2
 rcases cmpQ_cases (Pg.cr (Pg.cor L i) (Pg.cor L (i + 1)) (Pg.cor L (i + 2))) 0 with ⟨e, g⟩ | ⟨e, g⟩ | ⟨e, g⟩
 · rw [e] at h2; exact absurd (by decide) h2
 · exact absurd g h1
 · exact g
namespace E
/-- The corners of a polygon are at rising numbers. -/
theorem pol_is (f : Nat → Int) (b : Rat × Rat) : ∀ (n i : Nat) (M : List (Rat × Rat)), ∃ js : List Nat, pol f b n i M = M ++ js.map (fun j => pnt b (wy.getD j (0, 0)) (f j)) ∧ js.Pairwise (· < ·) ∧ ∀ j ∈ js, i ≤ j ∧ j < i + n ∧ 0 < f j ∧ f j < 4
 | 0, i, M => ⟨[], by simp [pol], List.Pairwise.nil, by simp⟩
 | n + 1, i, M => by
  unfold pol
  split
  · split
    · rename_i hf
      obtain ⟨js, h1, h2, h3⟩ := pol_is f b n (i + 1) (M ++ [pnt b (wy.getD i (0, 0)) (f i)])
      refine ⟨i :: js, by rw [h1]; simp, List.Pairwise.cons (fun j hj => by have := (h3 j hj).1; omega) h2, fun j hj => ?_⟩
      rcases List.mem_cons.1 hj with rfl | hj
      · exact ⟨Nat.le_refl _, by omega, hf.1, hf.2⟩
      · obtain ⟨k1, k2, k3⟩ := h3 j hj
        exact ⟨by omega, by omega, k3⟩
    · obtain ⟨js, h1, h2, h3⟩ := pol_is f b n (i + 1) M
      refine ⟨js, h1, h2, fun j hj => ?_⟩
      obtain ⟨k1, k2, k3⟩ := h3 j hj
      exact ⟨by omega, by omega, k3⟩
  · exact ⟨[], by simp, List.Pairwise.nil, by simp⟩
def icr (p q : Int × Int) : Int := p.1 * q.2 - p.2 * q.1
theorem wy_crs : ∀ a, a < 16 → ∀ c, c < 16 → (c < a + 8 ∧ a < c ∨ c + 8 < a) → 0 < icr (wy.getD a (0, 0)) (wy.getD c (0, 0)) := by decide +kernel
theorem pnt_crs (b : Rat × Rat) (p q : Int × Int) {f g : Int} (hf : 0 < f) (hg : 0 < g) (h : 0 < icr p q) : 0 < vcrs (vsub (pnt b p f) b) (vsub (pnt b q g) b) := by
 have e : vcrs (vsub (pnt b p f) b) (vsub (pnt b q g) b) = ((icr p q * (f * g) : Int) : Rat) * (1 / 4) := by
  unfold vcrs vsub pnt vadd icr
  simp only [Rat.divInt_eq_div, Rat.intCast_mul, Rat.intCast_sub]
  grind
 have h2 : 0 < icr p q * (f * g) := Int.mul_pos h (Int.mul_pos hf hg)
 have h3 : (0 : Rat) < ((icr p q * (f * g) : Int) : Rat) := by exact_mod_cast h2
 rw [e]
 grind
theorem polO_gc {l : List Int} (h : Pg.convex (polO l) = true) : Pg.Gc (polO l) := by
 obtain ⟨hn, hl⟩ := Pg.left_of h
 obtain ⟨js, h1, h2, h3⟩ := pol_is (fun i => atz l i 5) (ctr l) 16 0 []
 have hL : polO l = js.map (fun j => pnt (ctr l) (wy.getD j (0, 0)) (atz l j 5)) := h1
 have hlen : (polO l).length = js.length := by rw [hL, List.length_map]
 generalize polO l = L at hn hl hL hlen
 have hj : ∀ i, i < js.length → js.getD i 0 < 16 ∧ 0 < atz l (js.getD i 0) 5 := fun i hi => by
  have hm : js.getD i 0 ∈ js := by rw [List.getD_eq_getElem?_getD, List.getElem?_eq_getElem hi]; exact List.getElem_mem hi
  obtain ⟨_, k1, k2, _⟩ := h3 _ hm
  exact ⟨by omega, k2⟩
 have hrise : ∀ i, i + 1 < js.length → js.getD i 0 < js.getD (i + 1) 0 := fun i hi => by
  rw [List.getD_eq_getElem?_getD, List.getElem?_eq_getElem (by omega), List.getD_eq_getElem?_getD, List.getElem?_eq_getElem hi]
  exact List.pairwise_iff_getElem.1 h2 i (i + 1) (by omega) hi (by omega)
 have hcor : ∀ i, i < js.length → Pg.cor L i = pnt (ctr l) (wy.getD (js.getD i 0) (0, 0)) (atz l (js.getD i 0) 5) := fun i hi => by
  have e : js.getD i 0 = js[i] := by rw [List.getD_eq_getElem?_getD, List.getElem?_eq_getElem hi]; rfl
  rw [e, ← Pg.cor_lt (by omega), hL, List.getD_eq_getElem?_getD, List.getElem?_map, List.getElem?_eq_getElem hi]; rfl
 have hn0 : 0 < js.length := by omega
 let A : Nat → Nat := fun i => 16 * (i / js.length) + js.getD (i % js.length) 0
 have hm : ∀ i, i % js.length < js.length := fun i => Nat.mod_lt _ hn0
 have hA1 : ∀ i, A i < A (i + 1) := fun i => by
  simp only [A]
  have hmi := hm i
  by_cases e : i % js.length + 1 < js.length
  · have e1 : (i + 1) % js.length = i % js.length + 1 := by rw [← Nat.mod_add_mod, Nat.mod_eq_of_lt e]
    have e2 : (i + 1) / js.length = i / js.length := by
     have d1 := Nat.div_add_mod i js.length
     have d2 := Nat.div_add_mod (i + 1) js.length
     rw [e1] at d2
     have d3 : js.length * ((i + 1) / js.length) = js.length * (i / js.length) := by omega
     exact Nat.eq_of_mul_eq_mul_left hn0 d3
    rw [e1, e2]
    have := hrise _ e
    omega
  · have e1 : (i + 1) % js.length = 0 := by rw [← Nat.mod_add_mod, show i % js.length + 1 = js.length by omega, Nat.mod_self]
    have e2 : (i + 1) / js.length = i / js.length + 1 := by
     have d1 := Nat.div_add_mod i js.length
     have d2 := Nat.div_add_mod (i + 1) js.length
     rw [e1] at d2
     have d3 : js.length * ((i + 1) / js.length) = js.length * (i / js.length + 1) := by rw [Nat.mul_add]; omega
     exact Nat.eq_of_mul_eq_mul_left hn0 d3
    rw [e1, e2]
    have := (hj _ hmi).1
    omega
 have hA2 : ∀ i, A (i + js.length) = A i + 16 := fun i => by
  simp only [A]
  rw [Nat.add_mod_right, Nat.add_div_right _ hn0]
  omega
 have hC : ∀ i, Pg.cor L (i + js.length) = Pg.cor L i := fun i => by rw [← hlen, Pg.cor_n]
 have hcm : ∀ i, Pg.cor L i = Pg.cor L (i % js.length) := fun i => Pg.cor_eq (by rw [hlen, Nat.mod_mod])
 have pos : ∀ i j, i < j → A j < A i + 8 → 0 < vcrs (vsub (Pg.cor L i) (ctr l)) (vsub (Pg.cor L j) (ctr l)) := fun i j hij hA => by
  have hr := Pg.rising hA1 hij
  rw [hcm i, hcm j, hcor _ (hm i), hcor _ (hm j)]
  have k1 := hj _ (hm i)
  have k2 := hj _ (hm j)
  refine pnt_crs _ _ _ k1.2 k2.2 (wy_crs _ k1.1 _ k2.1 ?_)
  simp only [A] at hA hr
  omega
 have hst := Pg.star hC hA1 hA2 pos hl
 intro i s hs1 hs2
 rw [hlen] at hs1 hs2
 have hmi := hm i
 have hms := hm s
 let d := (s % js.length + js.length - i % js.length) % js.length
 have hd : d < js.length := Nat.mod_lt _ hn0
 have hds : (i + d) % js.length = s % js.length := by
  rw [← Nat.mod_add_mod]
  simp only [d]
  rw [Nat.add_mod_mod, show i % js.length + (s % js.length + js.length - i % js.length) = s % js.length + js.length by omega, Nat.add_mod_right, Nat.mod_mod]
 have hcs : Pg.cor L s = Pg.cor L (i + d) := Pg.cor_eq (by rw [hlen, hds])
 rw [hcs]
 refine hst i d ?_ hd
 by_cases h0 : d = 0
 · rw [h0, Nat.add_zero] at hds; exact absurd hds.symm hs1
 · by_cases h1 : d = 1
   · rw [h1] at hds; exact absurd hds.symm hs2
   · omega
theorem kite_dent (b : Rat × Rat) {m : Int} (h0 : 0 ≤ m) (h1 : m < 2) : Pg.convex (Pg.kite b m) = false := by
 have e : Pg.kite b m = ([(0, 0), (Rat.divInt 4 1, Rat.divInt 0 1), (Rat.divInt (1 + m) 1, Rat.divInt 3 1), (Rat.divInt 1 1, Rat.divInt 1 1)] : List (Rat × Rat)).map (vadd b) := by
   unfold Pg.kite
   simp only [List.map_cons, List.map_nil]
   congr 1
   exact Pg.ext (by unfold vadd; grind) (by unfold vadd; grind)
 rw [e, (Pg.motion_add b).convex]
 have hm : m = 0 ∨ m = 1 := by omega
 rcases hm with rfl | rfl <;> decide +kernel
theorem polL_gc {l : List Int} (h : Pg.convex (polL l) = true) : Pg.Gc (polL l) := by
 have h1 := atz_in l 0 1
 unfold polL at h ⊢
 split
 · rename_i g
   rw [if_pos g] at h
   exact polO_gc h
 · rename_i g
   rw [if_neg g, kite_dent _ h1.1 (by omega)] at h
   cases h
end E
end Go.Proofs.YtcfejkpadcccbaaGreat
namespace Go.Proofs.YtcfejkpadcccbaaGreat.E
open Go.RowKit
set_option linter.unusedVariables false
noncomputable abbrev fpi : Func := fnOf PP 9
theorem has_rng (L : List (Rat × Rat)) (p : Rat × Rat) : Pg.has L p = -1 ∨ Pg.has L p = 0 ∨ Pg.has L p = 1 := by
 rw [Pg.has_D]
 unfold Pg.hasD
 split
 · exact .inr (.inl rfl)
 · split
   · exact .inr (.inr rfl)
   · exact .inl rfl
theorem cmp_ge {r t : Rat} (h : t ≤ r) : decide (cmpQ r t ≥ 0) = true := by
 refine decide_eq_true ?_
 unfold cmpQ
 rw [if_neg (by grind)]
 split <;> decide
theorem cmp_le {r t : Rat} (h : r ≤ t) : decide (cmpQ r t ≤ 0) = true := by
 refine decide_eq_true ?_
 unfold cmpQ
 split
 · decide
 · rw [if_neg (by grind)]; decide
/-- The first of those of which something holds. -/
theorem first_of {f : Nat → Bool} : ∀ n, (∃ i, i < n ∧ f i = true) → ∃ i, i < n ∧ f i = true ∧ ∀ t, t < i → f t = false
 | 0, ⟨i, hi, _⟩ => absurd hi (Nat.not_lt_zero i)
 | n + 1, h => by
  by_cases g : ∃ i, i < n ∧ f i = true
  · obtain ⟨i, h1, h2, h3⟩ := first_of n g
    exact ⟨i, by omega, h2, h3⟩
  · obtain ⟨i, h1, h2⟩ := h
    have e : i = n := by
     by_cases e : i < n
     · exact absurd ⟨i, e, h2⟩ g
     · omega
    subst e
    exact ⟨i, h1, h2, fun t ht => by
     cases hf : f t with
     | false => rfl
     | true => exact absurd ⟨t, ht, hf⟩ g⟩
section
variable {p S : List (Rat × Rat)} {K i k : Nat} {c : Bool}
/-- What stays through the loops. -/
def inS (p S : List (Rat × Rat)) (c : Bool) (i : Nat) (r : List (Nat × V)) : List (Nat × V) := (5, dL p) :: (6, .lp 0 0) :: (7, .lp 1 0) :: (8, dL S) :: (10, bo c) :: (11, ni i) :: r
noncomputable def inH (p : List (Rat × Rat)) : List HO := [.bx 35 (dV (Pg.box p).1), .bx 35 (dV (Pg.box p).2)]
noncomputable def X1 (p S : List (Rat × Rat)) (c : Bool) (i : Nat) : St := at_ fpi (inS p S c i []) (inH p)
noncomputable def X2 (p S : List (Rat × Rat)) (c : Bool) (i k : Nat) : St := at_ fpi (inS p S c i [(12, ni (Pg.has p (S.getD i (0, 0)))), (14, ni k)]) (inH p)
noncomputable def X3 (p S : List (Rat × Rat)) (c : Bool) (i k j : Nat) (b : Bool) : St := at_ fpi (inS p S c i [(12, ni (Pg.has p (S.getD i (0, 0)))), (14, ni k), (16, bo b), (17, ni j)]) (inH p)
abbrev GI (td : List Item) (σ : St) : Prop := Gd PP 9 (bo true) td σ
abbrev sl1 : List Nat := [5, 6, 7, 8, 10, 11]
/-- A pair whose way meets a side, or need not. -/
theorem in_pair (hp : ∀ a ∈ p, Bv K a) (hS : ∀ a ∈ S, Bv K a) (hn : p.length ≤ 100) (hK : K ≤ 100000) (hi : i < S.length) (hk : k < S.length) (hs : S.length ≤ 1000) (next : GI (lp fpi 2) (X2 p S c i (k + 1))) :
  0 ≤ Pg.has p (S.getD i (0, 0)) * Pg.has p (S.getD k (0, 0)) ∨ (¬ 0 ≤ Pg.has p (S.getD i (0, 0)) * Pg.has p (S.getD k (0, 0)) ∧ GI (lp fpi 3) (X3 p S c i k 0 false)) := by
 by_cases h : 0 ≤ Pg.has p (S.getD i (0, 0)) * Pg.has p (S.getD k (0, 0))
 · exact .inl h
 · refine .inr ⟨h, ?_⟩
   obtain ⟨j1, hj1, hm⟩ := Pg.way_out (L := p) (x := S.getD i (0, 0)) (y := S.getD k (0, 0)) (by omega)
   let f : Nat → Bool := fun j => Pg.meets (S.getD i (0, 0)) (S.getD k (0, 0)) (p.getD j (0, 0)) (Pg.cor p (j + 1))
   obtain ⟨j0, h0, h1, h2⟩ := first_of (f := f) p.length ⟨j1, hj1, (meets_iff _ _ _ _).2 hm⟩
   refine Gd.loop (fun j => X3 p S c i k j false) (fun j => j ≤ j0) (fun j => p.length - j) ?_ 0 (Nat.zero_le _)
   intro j hj ih
   have hjp : j < p.length := by omega
   have hnx := e_next hjp (by omega : p.length ≤ 1000)
   have hme := e_meets (bel hS hi) (bel hS hk) (bel hp hjp) (bco hp (by omega) (j + 1)) (by omega)
   have hfj : Pg.meets (S.getD i (0, 0)) (S.getD k (0, 0)) (p.getD j (0, 0)) (Pg.cor p (j + 1)) = f j := rfl
   rw [hfj] at hme
   cases hb : f j with
   | false =>
    rw [hb] at hme
    have hlt : j < j0 := by
     by_cases e : j = j0
     · subst e; rw [h1] at hb; cases hb
     · omega
    exact .to mo_ [] [5, 6, 7, 8, 10, 11, 12, 14, 16, 17] [0, 1] 2 [ye (t := il_ j p) (il_t hjp), yt, .sel _ _ _ (el hi), .sel _ _ _ (el hk), .sel _ _ _ (el hjp), cl hnx, cl hme, inc 175 j (by omega)] (ih (j + 1) hlt (by omega)) (by kernel_rfl)
   | true =>
    rw [hb] at hme
    refine .to mo_ [] [5, 6, 7, 8, 10, 11, 12, 14, 16, 17] [0, 1] 2 [ye (t := il_ j p) (il_t hjp), yt, .sel _ _ _ (el hi), .sel _ _ _ (el hk), .sel _ _ _ (el hjp), cl hnx, cl hme, inc 175 j (by omega)] (td' := lp fpi 3) (σ' := X3 p S c i k (j + 1) true) ?_ (by kernel_rfl)
    by_cases g : j + 1 < p.length
    · exact .to mo_ [] [5, 6, 7, 8, 10, 11, 12, 14] [0, 1] 2 [ye (t := il_ (j + 1) p) (il_t g), nf, nf, inc 132 k (by omega)] next (by kernel_rfl)
    · exact .to mo_ [] [5, 6, 7, 8, 10, 11, 12, 14] [0, 1] 2 [na (t := il_ (j + 1) p) (il_f g), nf, nf, inc 132 k (by omega)] next (by kernel_rfl)
theorem in_rng (x y : Rat × Rat) : W.Is64 (Pg.has p x * Pg.has p y) := by
 have hxy : -1 ≤ Pg.has p x * Pg.has p y ∧ Pg.has p x * Pg.has p y ≤ 1 := by
  rcases has_rng p x with e | e | e <;> rcases has_rng p y with f | f | f <;> rw [e, f] <;> decide
 exact i64 (by omega)
/-- All pairs of a point. -/
theorem in_pairs (hp : ∀ a ∈ p, Bv K a) (hS : ∀ a ∈ S, Bv K a) (hn : 3 ≤ p.length ∧ p.length ≤ 100) (hK : K ≤ 100000) (hg : c = true → Pg.Gc p) (hi : i < S.length) (hs : S.length ≤ 1000) (next : GI (lp fpi 1) (X1 p S c (i + 1))) : GI (lp fpi 2) (X2 p S c i 0) := by
 refine Gd.loop (X2 p S c i) (fun k => k ≤ i) (fun k => i - k) ?_ 0 (Nat.zero_le _)
 intro k hk ih
 by_cases h1 : k < i
 · by_cases h2 : k < 5
   · have hkS : k < S.length := by omega
     have hpp : ∀ a ∈ p, Bv (K + K + 3) a := fun a ha => (hp a ha).mono (by omega)
     have pr := in_pair (c := c) hp hS hn.2 hK hi hkS hs (ih (k + 1) h1 (by omega))
     have hy := e_has hp (bel hS hkS) (by omega) (by omega)
     let E : F_ := eq64 164 (Pg.has p (S.getD i (0, 0)) * Pg.has p (S.getD k (0, 0))) (in_rng _ _)
     let F : List F_ := [ye (t := decide ((k : Int) < (i : Int))) (decide_eq_true (by omega)), ye (t := decide ((k : Int) < 5)) (decide_eq_true (by omega)), .sel _ _ _ (el hkS), cl hy]
     cases c with
     | false =>
      rcases pr with pr | ⟨pn, pr⟩
      · exact .to mo_ [] [5, 6, 7, 8, 10, 11, 12, 14] [0, 1] 2 (F ++ [nf, nf, nf, nf] ++ [E, ye (t := decide (Pg.has p (S.getD i (0, 0)) * Pg.has p (S.getD k (0, 0)) ≥ 0)) (decide_eq_true pr), inc 132 k (by omega)]) (ih (k + 1) h1 (by omega)) (by kernel_rfl)
      · exact .to mo_ [] [5, 6, 7, 8, 10, 11, 12, 14, 16, 17] [0, 1] 2 (F ++ [nf, nf, nf, nf] ++ [E, na (t := decide (Pg.has p (S.getD i (0, 0)) * Pg.has p (S.getD k (0, 0)) ≥ 0)) (decide_eq_false pn)]) pr (by kernel_rfl)
     | true =>
      by_cases hx0 : 0 ≤ Pg.has p (S.getD i (0, 0))
      · by_cases hy0 : 0 ≤ Pg.has p (S.getD k (0, 0))
        · have hm := (hg rfl).middle hn.1 hx0 hy0
          have hmi := e_mid (bel hS hi) (bel hS hkS) (by omega)
          have hhm := e_has hpp (mid_bv (bel hS hi) (bel hS hkS)) (by omega) (by omega)
          rcases pr with pr | ⟨pn, pr⟩
          · exact .to mo_ [] [5, 6, 7, 8, 10, 11, 12, 14] [0, 1] 2 (F ++ [yt, ye (t := decide (Pg.has p (S.getD i (0, 0)) ≥ 0)) (decide_eq_true hx0), ye (t := decide (Pg.has p (S.getD k (0, 0)) ≥ 0)) (decide_eq_true hy0), .sel _ _ _ (el hi), .sel _ _ _ (el hkS), cl hmi, cl hhm, na (t := decide (Pg.has p (Pg.mid (S.getD i (0, 0)) (S.getD k (0, 0))) < 0)) (decide_eq_false (by omega))] ++ [E, ye (t := decide (Pg.has p (S.getD i (0, 0)) * Pg.has p (S.getD k (0, 0)) ≥ 0)) (decide_eq_true pr), inc 132 k (by omega)]) (ih (k + 1) h1 (by omega)) (by kernel_rfl)
          · exact .to mo_ [] [5, 6, 7, 8, 10, 11, 12, 14, 16, 17] [0, 1] 2 (F ++ [yt, ye (t := decide (Pg.has p (S.getD i (0, 0)) ≥ 0)) (decide_eq_true hx0), ye (t := decide (Pg.has p (S.getD k (0, 0)) ≥ 0)) (decide_eq_true hy0), .sel _ _ _ (el hi), .sel _ _ _ (el hkS), cl hmi, cl hhm, na (t := decide (Pg.has p (Pg.mid (S.getD i (0, 0)) (S.getD k (0, 0))) < 0)) (decide_eq_false (by omega))] ++ [E, na (t := decide (Pg.has p (S.getD i (0, 0)) * Pg.has p (S.getD k (0, 0)) ≥ 0)) (decide_eq_false pn)]) pr (by kernel_rfl)
        ·
          rcases pr with pr | ⟨pn, pr⟩
          · exact .to mo_ [] [5, 6, 7, 8, 10, 11, 12, 14] [0, 1] 2 (F ++ [yt, ye (t := decide (Pg.has p (S.getD i (0, 0)) ≥ 0)) (decide_eq_true hx0), na (t := decide (Pg.has p (S.getD k (0, 0)) ≥ 0)) (decide_eq_false hy0), nf] ++ [E, ye (t := decide (Pg.has p (S.getD i (0, 0)) * Pg.has p (S.getD k (0, 0)) ≥ 0)) (decide_eq_true pr), inc 132 k (by omega)]) (ih (k + 1) h1 (by omega)) (by kernel_rfl)
          · exact .to mo_ [] [5, 6, 7, 8, 10, 11, 12, 14, 16, 17] [0, 1] 2 (F ++ [yt, ye (t := decide (Pg.has p (S.getD i (0, 0)) ≥ 0)) (decide_eq_true hx0), na (t := decide (Pg.has p (S.getD k (0, 0)) ≥ 0)) (decide_eq_false hy0), nf] ++ [E, na (t := decide (Pg.has p (S.getD i (0, 0)) * Pg.has p (S.getD k (0, 0)) ≥ 0)) (decide_eq_false pn)]) pr (by kernel_rfl)
      ·
        rcases pr with pr | ⟨pn, pr⟩
        · exact .to mo_ [] [5, 6, 7, 8, 10, 11, 12, 14] [0, 1] 2 (F ++ [yt, na (t := decide (Pg.has p (S.getD i (0, 0)) ≥ 0)) (decide_eq_false hx0), nf, nf] ++ [E, ye (t := decide (Pg.has p (S.getD i (0, 0)) * Pg.has p (S.getD k (0, 0)) ≥ 0)) (decide_eq_true pr), inc 132 k (by omega)]) (ih (k + 1) h1 (by omega)) (by kernel_rfl)
        · exact .to mo_ [] [5, 6, 7, 8, 10, 11, 12, 14, 16, 17] [0, 1] 2 (F ++ [yt, na (t := decide (Pg.has p (S.getD i (0, 0)) ≥ 0)) (decide_eq_false hx0), nf, nf] ++ [E, na (t := decide (Pg.has p (S.getD i (0, 0)) * Pg.has p (S.getD k (0, 0)) ≥ 0)) (decide_eq_false pn)]) pr (by kernel_rfl)
   · exact .to mo_ [] sl1 [0, 1] 2 [ye (t := decide ((k : Int) < (i : Int))) (decide_eq_true (by omega)), na (t := decide ((k : Int) < 5)) (decide_eq_false (by omega)), inc 69 i (by omega)] next (by kernel_rfl)
 · exact .to mo_ [] sl1 [0, 1] 2 [na (t := decide ((k : Int) < (i : Int))) (decide_eq_false (by omega)), nf, inc 69 i (by omega)] next (by kernel_rfl)
theorem box_bv (hp : ∀ a ∈ p, Bv K a) (hn : 0 < p.length) : Bv K (Pg.box p).1 ∧ Bv K (Pg.box p).2 := by
 obtain ⟨_, ⟨a, ha, e1⟩, ⟨b, hb, e2⟩, ⟨c, hc, e3⟩, d, hd, e4⟩ := Pg.box_spec hn
 exact ⟨⟨by rw [e1]; exact (hp a ha).1, by rw [e2]; exact (hp b hb).2⟩, ⟨by rw [e3]; exact (hp c hc).1, by rw [e4]; exact (hp d hd).2⟩⟩
/-- All points. -/
theorem in_points (hp : ∀ a ∈ p, Bv K a) (hS : ∀ a ∈ S, Bv K a) (hn : 3 ≤ p.length ∧ p.length ≤ 100) (hK : K ≤ 100000) (hg : c = true → Pg.Gc p) (hs : S.length ≤ 1000) : GI (lp fpi 1) (X1 p S c 0) := by
 obtain ⟨blo, bhi⟩ := box_bv hp (by omega)
 refine Gd.loop (X1 p S c) (fun i => i ≤ S.length) (fun i => S.length - i) ?_ 0 (Nat.zero_le _)
 intro i hi ih
 by_cases h : i < S.length
 · have hx := bel hS h
   have pr := in_pairs (c := c) hp hS hn hK hg h hs (ih (i + 1) h (by omega))
   have hh := e_has hp hx (by omega) (by omega)
   have c1 := e_rcmp hx.1 blo.1 (by omega)
   have c2 := e_rcmp hx.1 bhi.1 (by omega)
   have c3 := e_rcmp hx.2 blo.2 (by omega)
   have c4 := e_rcmp hx.2 bhi.2 (by omega)
   have e := el h
   let F : List F_ := [ye (t := il_ i S) (il_t h), .sel _ _ _ e, cl hh, .sel _ _ _ e, cl c1]
   by_cases hx0 : 0 ≤ Pg.has p (S.getD i (0, 0))
   · obtain ⟨b1, b2, b3, b4⟩ := Pg.has_box (by omega) hx0
     have t4 := cmp_le b4
     exact .to mo_ [] [5, 6, 7, 8, 10, 11, 12, 14] [0, 1] 2 (F ++ [ye (cmp_ge b1), .sel _ _ _ e, cl c2, ye (cmp_le b2), .sel _ _ _ e, cl c3, ye (cmp_ge b3), .sel _ _ _ e, cl c4, ye (t := decide (Pg.has p (S.getD i (0, 0)) ≥ 0)) (decide_eq_true hx0), na (t := !decide (cmpQ (S.getD i (0, 0)).2 (Pg.box p).2.2 ≤ 0)) (by rw [t4]; rfl)]) (td' := lp fpi 2) pr (by kernel_rfl)
   · let G : List F_ := [na (t := decide (Pg.has p (S.getD i (0, 0)) ≥ 0)) (decide_eq_false hx0), nf]
     cases t1 : decide (cmpQ (S.getD i (0, 0)).1 (Pg.box p).1.1 ≥ 0) with
     | false => exact .to mo_ [] [5, 6, 7, 8, 10, 11, 12, 14] [0, 1] 2 (F ++ [na t1, nf, nf] ++ G) (td' := lp fpi 2) pr (by kernel_rfl)
     | true =>
      cases t2 : decide (cmpQ (S.getD i (0, 0)).1 (Pg.box p).2.1 ≤ 0) with
      | false => exact .to mo_ [] [5, 6, 7, 8, 10, 11, 12, 14] [0, 1] 2 (F ++ [ye t1, .sel _ _ _ e, cl c2, na t2, nf] ++ G) (td' := lp fpi 2) pr (by kernel_rfl)
      | true =>
       cases t3 : decide (cmpQ (S.getD i (0, 0)).2 (Pg.box p).1.2 ≥ 0) with
       | false => exact .to mo_ [] [5, 6, 7, 8, 10, 11, 12, 14] [0, 1] 2 (F ++ [ye t1, .sel _ _ _ e, cl c2, ye t2, .sel _ _ _ e, cl c3, na t3] ++ G) (td' := lp fpi 2) pr (by kernel_rfl)
       | true => exact .to mo_ [] [5, 6, 7, 8, 10, 11, 12, 14] [0, 1] 2 (F ++ [ye t1, .sel _ _ _ e, cl c2, ye t2, .sel _ _ _ e, cl c3, ye t3, .sel _ _ _ e, cl c4] ++ G) (td' := lp fpi 2) pr (by kernel_rfl)
 · exact fi [na (t := il_ i S) (il_f h), cl e_lives] (by kernel_rfl) (by kernel_rfl)
theorem l_inside {l m : List Int} (hl : ∀ x ∈ l, W.Is64 x) (hm : ∀ x ∈ m, W.Is64 x) : Pure PP 9 [zl l, zl m] (bo true) := by
 have hb := (polL_ok l).2
 have hv := (polL_ok l).1
 have hn := polL_len l
 have hgc : Pg.convex (polL l) = true → Pg.Gc (polL l) := polL_gc
 have hpoly := e_polygon hl
 generalize polL l = p at hb hv hn hpoly hgc
 have hs := spsL_bits m hb (by omega)
 have hsl : (spsL p m).length ≤ 100 := by unfold spsL; rw [sps_len]; omega
 have hsp := e_spots hb (by omega) (by omega) hm
 have hcb := cen_bits hb (by omega)
 generalize hSe : spsL p m = S at hs hsl hsp
 have k0 : ∀ a ∈ p, Bv (1010 * 15 + 1000) a := fun a ha => (hb a ha).mono (by omega)
 have hbx := e_box hb (by omega) (by omega)
 have hcv := e_convex hb (by omega) (by omega)
 have hpts := in_points (c := Pg.convex p) k0 hs (by omega) (by omega) hgc (by omega)
 let X : Nat → St := fun i => at_ fpi [(5, dL p), (6, .lp 0 0), (7, .lp 1 0), (8, dL S), (9, ni i)] (inH p)
 refine pf (by kernel_rfl) (.to mo_ [] [5, 6, 7, 8, 9] [0, 1] 2 [cl hpoly, cl hbx, cl hsp] (td' := lp fpi 0) (σ' := X 0) ?_ (by kernel_rfl))
 refine Gd.loop X (fun i => i ≤ p.length) (fun i => p.length - i) ?_ 0 (Nat.zero_le _)
 intro i hi ih
 by_cases h : i < p.length
 · have ba := bel hb h
   have bb := bco hb (by omega) (i + 1)
   have z1 : Pure PP 30 [dL p, .ag (dV (p.getD i (0, 0)))] (ni 0) := ei (e_has hb ba (by omega) (by omega)) (Pg.has_on h (Pg.on_fst _ _))
   have z2 : Pure PP 30 [dL p, .ag (dV (Pg.mid (p.getD i (0, 0)) (Pg.cor p (i + 1))))] (ni 0) := ei (e_has k0 ((mid_bv ba bb).mono (by omega)) (by omega) (by omega)) (Pg.has_on h (Pg.on_middle _ _))
   exact .to mo_ [] [5, 6, 7, 8, 9] [0, 1] 2 [ye (t := il_ i p) (il_t h), .sel _ _ _ (el h), cl z1, nf, .sel _ _ _ (el h), cl (e_next h (by omega)), cl (e_mid ba bb (by omega)), cl z2, nf, inc 33 i (by omega)] (ih (i + 1) h (by omega)) (by kernel_rfl)
 · cases hc : Pg.convex p with
   | false =>
    rw [hc] at hcv hpts
    exact .to mo_ [] sl1 [0, 1] 2 [na (t := il_ i p) (il_f h), cl hcv, nf, nf] (td' := lp fpi 1) hpts (by kernel_rfl)
   | true =>
    have hce : Pg.has p (Pg.center p) = 1 := (hgc hc).center hn.1 ((valid_iff p).1 hv).2.2.2.2
    rw [hc] at hcv hpts
    have z3 : Pure PP 30 [dL p, .ag (dV (Pg.center p))] (ni 1) := ei (e_has k0 (hcb.mono (by omega)) (by omega) (by omega)) hce
    exact .to mo_ [] sl1 [0, 1] 2 [na (t := il_ i p) (il_f h), cl hcv, yt, cl (e_center hb (by omega) (by omega)), cl z3, nf] (td' := lp fpi 1) hpts (by kernel_rfl)
end
end Go.Proofs.YtcfejkpadcccbaaGreat.E
namespace Go.Proofs.YtcfejkpadcccbaaGreat
open Go.RowKit
theorem is64_of {n : Int} (h : (Lit.int .i64 n).wf = true) : W.Is64 n := by
 have := bounds_i64 h
 unfold W.Is64
 omega
end Go.Proofs.YtcfejkpadcccbaaGreat
namespace Go.Proofs.YtcfejkpadcccbaaGreat.E
open Go.RowKit
set_option linter.unusedVariables false
theorem cb_of {w : World} {b o : Nat} {v : Value} (h : w.cell? ⟨b, o, none⟩ = some v) : CB w b := by
 unfold World.cell? at h
 split at h
 · rename_i cs T fr hb
   exact ⟨cs, T, fr, hb⟩
 · cases h
def Rt (X : World → Value → Prop) (w : World) (e : Ending) (w' : World) : Prop := ∃ v, e = .returned v ∧ X w' v ∧ Below w.heap.size w w'
theorem back {P : Program} {f : FuncId} {ds : List V} {d : V} (h : Pure P f ds d) {w : World} {args : Array Value} (ha : Reps w (fun _ => False) no args ds) : Calls P f args w (Rt (fun w v => Rep w (fun _ => False) no v d) w) :=
 (h.2 w (fun _ => False) args (fun _ h => h.elim) ha).mono fun e w' h => h
theorem to_tt {w w' : World} {e : Ending} (h : Rt (fun w v => Rep w (fun _ => False) no v (bo true)) w e w') : e = .returned (.bool true) ∧ Below w.heap.size w w' := by
 obtain ⟨v, rfl, h1, h2⟩ := h
 exact ⟨by rw [Rep.k_inv h1], h2⟩
/-- A law of any arguments. -/
theorem lawG {f : FuncId} {us : List Value} {ds : List V} {w : World} (h : Pure PP f ds (bo true)) (hl : us.length = ds.length) (hr : ∀ j, j < ds.length → Rep w (fun _ => False) no (us.getD j undef) (ds.getD j .un)) :
    Calls PP f us.toArray w fun e w' => e = .returned (.bool true) ∧ Below w.heap.size w w' :=
 (back h (reps_of hl hr)).mono fun _ _ => to_tt
theorem all2 {p : Nat → Prop} (h0 : p 0) (h1 : p 1) : ∀ j, j < 2 → p j := fun j hj => by
 match j, hj with
 | 0, _ => exact h0
 | 1, _ => exact h1
end Go.Proofs.YtcfejkpadcccbaaGreat.E
