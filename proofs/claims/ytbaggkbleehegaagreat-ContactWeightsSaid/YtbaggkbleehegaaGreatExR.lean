/-
 CONTACT: sums over bodies, the boxes of their centers (plain).
-/
import Derived.Test.YtbaggkbleehegaaGreatExQ
namespace Go.Proofs.YtbaggkbleehegaaGreat.E.Ct
open Go.RowKit
set_option linter.unusedVariables false
set_option linter.unusedSimpArgs false
/-- What is in the set, added up. -/
def sumS (p : Nat → Bool) (f : Nat → Rat) : Nat → Rat
 | 0 => 0
 | k + 1 => if p k = true then sumS p f k + f k else sumS p f k
def sumR : List Rat → Rat
 | [] => 0
 | x :: l => x + sumR l
/-- The centers of a body's pieces. -/
def ceL (s : Sc) (rt : Nat → Int) (j k : Nat) : List Vc := ((List.range k).filter fun m => decide (rt m = (j : Int))).map fun m => cenV (s.pi m) (s.pl m)
section
variable {s : Sc} {st gl : Int} {l : List Ft} {rt : Nat → Int} {i j k n m r : Nat} {p : Nat → Bool} {f : Nat → Rat}
theorem sumR_one {L : List Nat} {g h : Nat → Rat} {x : Rat} (hp : L.Pairwise (· < ·)) (hr : r ∈ L) (h1 : g r = h r + x) (h2 : ∀ j, j ≠ r → g j = h j) : sumR (L.map g) = sumR (L.map h) + x := by
 induction L with
 | nil => cases hr
 | cons a L ih =>
  rw [List.pairwise_cons] at hp
  rw [List.map_cons, List.map_cons]
  show g a + sumR (L.map g) = h a + sumR (L.map h) + x
  by_cases e : a = r
  · subst e
    have : L.map g = L.map h := List.map_congr_left fun y hy => h2 y (by have := hp.1 y hy; omega)
    rw [h1, this]
    grind
  · have hr2 : r ∈ L := (List.mem_cons.1 hr).resolve_left fun e2 => e e2.symm
    rw [h2 a e, ih hp.2 hr2]
    grind
theorem sumR_zero {L : List Nat} {g : Nat → Rat} (h : ∀ j ∈ L, g j = 0) : sumR (L.map g) = 0 := by
 induction L with
 | nil => rfl
 | cons a L ih =>
  show g a + sumR (L.map g) = 0
  rw [h a (List.mem_cons_self ..), ih fun j hj => h j (List.mem_cons_of_mem _ hj)]
  grind
theorem rts_pair : (rts rt k).Pairwise (· < ·) := List.Pairwise.filter _ List.pairwise_lt_range
/-- All that is added to bodies is what the set's pieces have. -/
theorem sum_bod (hrt : RtOk rt n) {fld : Ac → Rat} {g : Nat → Rat} (h0 : ∀ j, fld (ac0 s j) = 0) (hs : ∀ x k, fld (acS s x k) = fld x + g k) (hp : ∀ k, k < n → (p k = true ↔ rt k ≠ -1)) : ∀ k, k ≤ n → sumR ((rts rt n).map fun j => fld (acc s rt j k)) = sumS p g k
 | 0, _ => sumR_zero fun j _ => h0 j
 | k + 1, hk => by
  have ih := sum_bod hrt h0 hs hp k (by omega)
  have hpk := hp k (by omega)
  unfold sumS
  rcases hrt.ge k (by omega) with h | ⟨r, h1, h2, h3⟩
  · rw [if_neg (by rw [hpk]; simp [h]), ← ih]
    congr 1
    exact List.map_congr_left fun j _ => by rw [acc_ne (by omega)]
  · rw [if_pos (hpk.2 (by omega)), ← ih]
    refine sumR_one (r := r) rts_pair (mem_rts.2 ⟨by omega, h3⟩) ?_ fun j hj => ?_
    · rw [acc_eq h1, hs]
    · rw [acc_ne (by omega)]
theorem sumR_app (L : List Rat) (x : Rat) : sumR (L ++ [x]) = sumR L + x := by
 induction L with
 | nil => show x + 0 = 0 + x; grind
 | cons a L ih =>
  show a + sumR (L ++ [x]) = a + sumR L + x
  rw [ih]
  grind
theorem gt0_iff {a b : Rat} : gt0 a b = true ↔ b < a := by
 unfold gt0 cmpQ
 rw [decide_eq_true_iff]
 by_cases h1 : a < b
 · rw [if_pos h1]
   exact ⟨fun h => by omega, fun h => by grind⟩
 · rw [if_neg h1]
   by_cases h2 : b < a
   · rw [if_pos h2]
     exact ⟨fun _ => h2, fun _ => by decide⟩
   · rw [if_neg h2]
     exact ⟨fun h => by omega, fun h => absurd h h2⟩
theorem lsr_le (a b : Rat) : lsr a b ≤ a ∧ lsr a b ≤ b := by
 unfold lsr
 split
 · rename_i h
   have h := gt0_iff.1 h
   exact ⟨Rat.le_of_lt h, Rat.le_refl⟩
 · rename_i h
   rw [gt0_iff] at h
   exact ⟨Rat.le_refl, by grind⟩
theorem acc_str_le : ∀ k m, m < k → rt m = (j : Int) → (acc s rt j k).str ≤ (s.pi m).str
 | 0, _, h, _ => by omega
 | k + 1, m, h, hm => by
  by_cases e : m = k
  · subst e
    rw [acc_eq hm]
    exact (lsr_le _ _).2
  · have ih := acc_str_le k m (by omega) hm
    by_cases h2 : rt k = (j : Int)
    · rw [acc_eq h2]
      exact Rat.le_trans (lsr_le _ _).1 ih
    · rw [acc_ne h2]
      exact ih
theorem cmp_le {a b : Rat} (h : a ≤ b) : decide (cmpQ a b > 0) = false := by
 refine decide_eq_false fun e => ?_
 unfold cmpQ at e
 split at e
 · omega
 · split at e
   · rename_i h1 h2
     grind
   · omega
theorem cmp_ge {a b : Rat} (h : b ≤ a) : decide (cmpQ a b < 0) = false := by
 refine decide_eq_false fun e => ?_
 unfold cmpQ at e
 split at e
 · rename_i h1
   grind
 · split at e <;> omega
theorem ceL_succ : ceL s rt j (k + 1) = ceL s rt j k ++ (if rt k = (j : Int) then [cenV (s.pi k) (s.pl k)] else []) := by
 unfold ceL
 rw [List.range_succ, List.filter_append, List.map_append]
 congr 1
 by_cases h : rt k = (j : Int) <;> simp [h]
/-- What lies between bounds has its weighted sum between them. -/
theorem acc_box (hp : s.Pos) {a b c d : Rat} : ∀ k, k ≤ s.L.length → (∀ v ∈ ceL s rt j k, a ≤ v.1 ∧ v.1 ≤ b ∧ c ≤ v.2 ∧ v.2 ≤ d) → a * (acc s rt j k).w ≤ (acc s rt j k).c.1 ∧ (acc s rt j k).c.1 ≤ b * (acc s rt j k).w ∧ c * (acc s rt j k).w ≤ (acc s rt j k).c.2 ∧ (acc s rt j k).c.2 ≤ d * (acc s rt j k).w
 | 0, _, _ => by
  show a * 0 ≤ 0 ∧ 0 ≤ b * 0 ∧ c * 0 ≤ 0 ∧ 0 ≤ d * 0
  simp only [Rat.mul_zero]
  exact ⟨Rat.le_refl, Rat.le_refl, Rat.le_refl, Rat.le_refl⟩
 | k + 1, hk, h => by
  rw [ceL_succ] at h
  obtain ⟨i1, i2, i3, i4⟩ := acc_box hp k (by omega) fun v hv => h v (List.mem_append.2 (.inl hv))
  by_cases e : rt k = (j : Int)
  · rw [if_pos e] at h
    obtain ⟨h1, h2, h3, h4⟩ := h _ (List.mem_append.2 (.inr (List.mem_singleton.2 rfl)))
    have hw := hp k (by omega)
    rw [acc_eq e]
    unfold acS cw vadd vsca
    simp only
    generalize cenV (s.pi k) (s.pl k) = v at *
    generalize wt s k = w at *
    generalize acc s rt j k = A at *
    have g1 := Rat.mul_le_mul_of_nonneg_right h1 (Rat.le_of_lt hw)
    have g2 := Rat.mul_le_mul_of_nonneg_right h2 (Rat.le_of_lt hw)
    have g3 := Rat.mul_le_mul_of_nonneg_right h3 (Rat.le_of_lt hw)
    have g4 := Rat.mul_le_mul_of_nonneg_right h4 (Rat.le_of_lt hw)
    rw [Rat.mul_add, Rat.mul_add, Rat.mul_add, Rat.mul_add]
    exact ⟨by grind, by grind, by grind, by grind⟩
  · rw [acc_ne e]
    exact ⟨i1, i2, i3, i4⟩
theorem div_le {a c w : Rat} (hw : 0 < w) : (a * w ≤ c → a ≤ c / w) ∧ (c ≤ a * w → c / w ≤ a) := by
 have hi : 0 < w⁻¹ := Rat.inv_pos.2 hw
 have h1 : w * w⁻¹ = 1 := Rat.mul_inv_cancel w (by grind)
 constructor
 · intro h
   have := Rat.mul_le_mul_of_nonneg_right h (Rat.le_of_lt hi)
   rw [Rat.mul_assoc, h1, Rat.mul_one] at this
   rwa [Rat.div_def]
 · intro h
   have := Rat.mul_le_mul_of_nonneg_right h (Rat.le_of_lt hi)
   rw [Rat.mul_assoc, h1, Rat.mul_one] at this
   rwa [Rat.div_def]
/-- The least and the greatest coordinates bound the points. -/
theorem less_le (r t : Rat) : Pg.less r t ≤ r ∧ Pg.less r t ≤ t := by
 unfold Pg.less
 split <;> (constructor <;> grind)
theorem more_ge (r t : Rat) : r ≤ Pg.more r t ∧ t ≤ Pg.more r t := by
 unfold Pg.more
 split <;> (constructor <;> grind)
theorem lo_le (L : List Vc) : ∀ n i, i < n → (Pg.lo L n).1 ≤ (L.getD i (0, 0)).1 ∧ (Pg.lo L n).2 ≤ (L.getD i (0, 0)).2
 | 0, _, h => by omega
 | n + 1, i, h => by
  have l1 := less_le (Pg.lo L n).1 (L.getD n (0, 0)).1
  have l2 := less_le (Pg.lo L n).2 (L.getD n (0, 0)).2
  show Pg.less _ _ ≤ _ ∧ Pg.less _ _ ≤ _
  by_cases e : i = n
  · subst e; exact ⟨l1.2, l2.2⟩
  · have ih := lo_le L n i (by omega)
    exact ⟨Rat.le_trans l1.1 ih.1, Rat.le_trans l2.1 ih.2⟩
theorem hi_ge (L : List Vc) : ∀ n i, i < n → (L.getD i (0, 0)).1 ≤ (Pg.hi L n).1 ∧ (L.getD i (0, 0)).2 ≤ (Pg.hi L n).2
 | 0, _, h => by omega
 | n + 1, i, h => by
  have l1 := more_ge (Pg.hi L n).1 (L.getD n (0, 0)).1
  have l2 := more_ge (Pg.hi L n).2 (L.getD n (0, 0)).2
  show _ ≤ Pg.more _ _ ∧ _ ≤ Pg.more _ _
  by_cases e : i = n
  · subst e; exact ⟨l1.2, l2.2⟩
  · have ih := hi_ge L n i (by omega)
    exact ⟨Rat.le_trans ih.1 l1.1, Rat.le_trans ih.2 l2.1⟩
theorem box_in {L : List Vc} : ∀ v ∈ L, (Pg.box L).1.1 ≤ v.1 ∧ v.1 ≤ (Pg.box L).2.1 ∧ (Pg.box L).1.2 ≤ v.2 ∧ v.2 ≤ (Pg.box L).2.2 := fun v hv => by
 obtain ⟨i, hi⟩ := List.getElem?_of_mem hv
 have hl := (List.getElem?_eq_some_iff.1 hi).1
 have hg : L.getD i (0, 0) = v := by rw [List.getD_eq_getElem?_getD, hi]; rfl
 have h1 := lo_le L L.length i hl
 have h2 := hi_ge L L.length i hl
 rw [hg] at h1 h2
 unfold Pg.box
 rw [if_neg (by omega)]
 exact ⟨h1.1, h2.1, h1.2, h2.2⟩
/-- A body's center lies in the box of its pieces' centers. -/
theorem fin_box (hp : s.Pos) (hj : rt j = (j : Int)) (hjn : j < s.L.length) : let c := (acc s rt j s.L.length).fin.c; let B := Pg.box (ceL s rt j s.L.length); B.1.1 ≤ c.1 ∧ c.1 ≤ B.2.1 ∧ B.1.2 ≤ c.2 ∧ c.2 ≤ B.2.2 := by
 have hw := (acc_pos hp hj s.L.length (Nat.le_refl _)).2 hjn
 obtain ⟨h1, h2, h3, h4⟩ := acc_box (j := j) (rt := rt) hp s.L.length (Nat.le_refl _) fun v hv => box_in v hv
 show _ ≤ (acc s rt j s.L.length).c.1 / _ ∧ _ ∧ _ ∧ _
 exact ⟨(div_le hw).1 h1, (div_le hw).2 h2, (div_le hw).1 h3, (div_le hw).2 h4⟩
theorem ceL_ne (hj : rt j = (j : Int)) (h : j < k) : 0 < (ceL s rt j k).length := by
 unfold ceL
 rw [List.length_map]
 exact List.length_pos_of_mem (List.mem_filter.2 ⟨List.mem_range.2 h, decide_eq_true hj⟩)
/-- More glue: no more bodies. -/
theorem rts_more {gl' : Int} (h : ∀ i, i < l.length → inB gl' i = true → inB gl i = true) : (rts (rtB st gl l) n).length ≤ (rts (rtB st gl' l) n).length := by
 refine filter_len _ fun j _ hj => ?_
 have hj := of_decide_eq_true hj
 refine decide_eq_true ?_
 unfold rtB rtF at hj ⊢
 split
 · rename_i hin
   rw [if_pos hin] at hj
   have hc : cls (acts st gl l l.length) j = j := by omega
   have := cls_sub (E' := acts st gl' l l.length) (E := acts st gl l l.length) (fun e he => ?_) hc
   · omega
   · obtain ⟨i, hi, h2⟩ := List.mem_flatMap.1 he
     refine List.mem_flatMap.2 ⟨i, hi, ?_⟩
     have hil := List.mem_range.1 hi
     unfold act1 at h2 ⊢
     cases hx : l[i]? with
     | none => rw [hx] at h2; cases h2
     | some f =>
      rw [hx] at h2
      simp only at h2 ⊢
      split at h2
      · rename_i k0
        simp only [Bool.and_eq_true] at k0
        rw [if_pos (by simp only [Bool.and_eq_true]; exact ⟨h i hil k0.1, k0.2⟩)]
        exact h2
      · cases h2
 · rename_i hin
   rw [if_neg hin] at hj
   omega
/-- Without glue each piece of the set is a body. -/
theorem rts_alone (hl : l.length ≤ 60) : rts (rtB st 0 l) n = (List.range n).filter (inB st) := by
 have ha : acts st 0 l l.length = [] := by
  unfold acts
  rw [List.flatMap_eq_nil_iff]
  intro i hi
  have hi := List.mem_range.1 hi
  unfold act1
  split
  · rw [zero_bit (by omega), if_neg (by simp)]
  · rfl
 unfold rts
 refine List.filter_congr fun j _ => ?_
 unfold rtB rtF
 rw [ha]
 show decide ((if inB st j = true then ((j : Nat) : Int) else -1) = (j : Int)) = inB st j
 cases h : inB st j with
 | true => rw [if_pos rfl]; exact decide_eq_true rfl
 | false => rw [if_neg (by simp)]; exact decide_eq_false (by omega)
end
end Go.Proofs.YtbaggkbleehegaaGreat.E.Ct
