/-
 CLAIMS: what Good makes is valid (plain).
-/
import Derived.Test.YtmhliomemdhmiaaGreatDoorCaQ
import Derived.Test.YtmhliomemdhmiaaGreatDoorWalkUns
namespace Go.Proofs.YtmhliomemdhmiaaGreatDoor.E.Ca
open Go.RowKit
set_option linter.unusedVariables false
set_option linter.unusedSimpArgs false
section
variable {cv : Int → Int → Int} {xs : List Int} {i j n : Nat} {L : List CM}
theorem swp_at (h : j + 1 < xs.length) (a : Nat) : (swp xs j).getD a 0 = if a = j then xs.getD (j + 1) 0 else if a = j + 1 then xs.getD j 0 else xs.getD a 0 := by
 unfold swp
 simp only [List.getD_eq_getElem?_getD]
 by_cases e1 : a = j
 · subst e1
   rw [if_pos rfl, List.getElem?_set_self (by simp; omega)]
   rfl
 · rw [if_neg e1, List.getElem?_set_ne (fun e => e1 e.symm)]
   by_cases e2 : a = j + 1
   · subst e2
     rw [if_pos rfl, List.getElem?_set_self h]
     rfl
   · rw [if_neg e2, List.getElem?_set_ne (fun e => e2 e.symm)]
/-- A comparison that orders. -/
structure Wk (cv : Int → Int → Int) : Prop where
 asym : ∀ x y, cv x y < 0 → ¬ cv y x < 0
 nt : ∀ x y z, ¬ cv y x < 0 → ¬ cv z y < 0 → ¬ cv z x < 0
def Sp (cv : Int → Int → Int) (xs : List Int) (i : Nat) : Prop := ∀ a b, a < b → b < i → ¬ cv (xs.getD b 0) (xs.getD a 0) < 0
theorem ins_sp (hw : Wk cv) : ∀ (j : Nat) (xs : List Int), j ≤ i → i < xs.length → (∀ a b, a < b → b ≤ i → a ≠ j → b ≠ j → ¬ cv (xs.getD b 0) (xs.getD a 0) < 0) → (∀ b, j < b → b ≤ i → ¬ cv (xs.getD b 0) (xs.getD j 0) < 0) → Sp cv (insJ cv j xs) (i + 1)
 | 0, xs, hj, hi, h1, h2 => fun a b hab hb => by
  show ¬ cv (xs.getD b 0) (xs.getD a 0) < 0
  by_cases e : a = 0
  · subst e; exact h2 b hab (by omega)
  · exact h1 a b hab (by omega) e (by omega)
 | j + 1, xs, hj, hi, h1, h2 => by
  unfold insJ
  by_cases h : cv (xs.getD (j + 1) 0) (xs.getD j 0) < 0
  · rw [if_pos h]
    refine ins_sp hw j (swp xs j) (by omega) (by rw [swp_len]; exact hi) (fun a b hab hb ha hb2 => ?_) (fun b hb1 hb2 => ?_)
    · rw [swp_at (by omega), swp_at (by omega), if_neg ha, if_neg hb2]
      by_cases ea : a = j + 1
      · rw [if_pos ea, if_neg (by omega)]
        exact h1 j b (by omega) hb (by omega) (by omega)
      · rw [if_neg ea]
        by_cases eb : b = j + 1
        · rw [if_pos eb]
          exact h1 a j (by omega) (by omega) (by omega) (by omega)
        · rw [if_neg eb]
          exact h1 a b hab hb ea eb
    · rw [swp_at (by omega), swp_at (by omega), if_neg (by omega), if_pos rfl]
      by_cases eb : b = j + 1
      · rw [if_pos eb]; exact hw.asym _ _ h
      · rw [if_neg eb]; exact h2 b (by omega) hb2
  · rw [if_neg h]
    intro a b hab hb
    by_cases ea : a = j + 1
    · subst ea; exact h2 b hab (by omega)
    · by_cases eb : b = j + 1
      · subst eb
        by_cases e : a = j
        · subst e; exact h
        · exact hw.nt _ _ _ (h1 a j (by omega) (by omega) ea (by omega)) h
      · exact h1 a b hab (by omega) ea eb
theorem isF_sp (hw : Wk cv) (xs : List Int) : ∀ i, i ≤ xs.length → Sp cv (isF cv xs i) i
 | 0, _ => fun a b _ hb => absurd hb (Nat.not_lt_zero b)
 | i + 1, hi => by
  have ih := isF_sp hw xs i (by omega)
  unfold isF
  exact ins_sp hw i _ (Nat.le_refl _) (by rw [isF_len]; omega) (fun a b hab hb ha hb2 => ih a b hab (by omega)) (fun b h1 h2 => by omega)
/-- No element twice. -/
def Inj (xs : List Int) : Prop := ∀ a b, a < b → b < xs.length → xs.getD a 0 ≠ xs.getD b 0
theorem swp_inj (h : j + 1 < xs.length) (hI : Inj xs) : Inj (swp xs j) := fun a b hab hb => by
 rw [swp_len] at hb
 rw [swp_at h, swp_at h]
 by_cases a1 : a = j
 · rw [if_pos a1]
   by_cases b2 : b = j + 1
   · rw [if_neg (by omega), if_pos b2]; exact (hI j (j + 1) (by omega) h).symm
   · rw [if_neg (by omega), if_neg b2]; exact hI (j + 1) b (by omega) hb
 · rw [if_neg a1]
   by_cases a2 : a = j + 1
   · rw [if_pos a2, if_neg (by omega), if_neg (by omega)]; exact hI j b (by omega) hb
   · rw [if_neg a2]
     by_cases b1 : b = j
     · rw [if_pos b1]; exact hI a (j + 1) (by omega) h
     · rw [if_neg b1]
       by_cases b2 : b = j + 1
       · rw [if_pos b2]; exact hI a j (by omega) (by omega)
       · rw [if_neg b2]; exact hI a b hab hb
theorem insJ_inj : ∀ (j : Nat) {xs : List Int}, j < xs.length → Inj xs → Inj (insJ cv j xs)
 | 0, xs, _, h => h
 | j + 1, xs, hj, h => by
  unfold insJ
  split
  · exact insJ_inj j (by rw [swp_len]; omega) (swp_inj hj h)
  · exact h
theorem isF_inj : ∀ i, i ≤ xs.length → Inj xs → Inj (isF cv xs i)
 | 0, _, h => h
 | i + 1, hi, h => insJ_inj i (by rw [isF_len]; omega) (isF_inj i (by omega) h)
/-- Every index stands in it. -/
def All (n : Nat) (xs : List Int) : Prop := ∀ k : Nat, k < n → ∃ a, a < xs.length ∧ xs.getD a 0 = (k : Int)
theorem swp_all (h : j + 1 < xs.length) (hA : All n xs) : All n (swp xs j) := fun k hk => by
 obtain ⟨a, ha, e⟩ := hA k hk
 by_cases a1 : a = j
 · exact ⟨j + 1, by rw [swp_len]; exact h, by rw [swp_at h, if_neg (by omega), if_pos rfl, ← a1]; exact e⟩
 · by_cases a2 : a = j + 1
   · exact ⟨j, by rw [swp_len]; omega, by rw [swp_at h, if_pos rfl, ← a2]; exact e⟩
   · exact ⟨a, by rw [swp_len]; exact ha, by rw [swp_at h, if_neg a1, if_neg a2]; exact e⟩
theorem insJ_all : ∀ (j : Nat) {xs : List Int}, j < xs.length → All n xs → All n (insJ cv j xs)
 | 0, xs, _, h => h
 | j + 1, xs, hj, h => by
  unfold insJ
  split
  · exact insJ_all j (by rw [swp_len]; omega) (swp_all hj h)
  · exact h
theorem isF_all : ∀ i, i ≤ xs.length → All n xs → All n (isF cv xs i)
 | 0, _, h => h
 | i + 1, hi, h => insJ_all i (by rw [isF_len]; omega) (isF_all i (by omega) h)
theorem iota_at {k : Nat} (h : k < n) : (iota n).getD k 0 = (k : Int) := by
 unfold iota
 rw [List.getD_eq_getElem?_getD, List.getElem?_map, List.getElem?_range h]; rfl
theorem cv_iff (x y : Int) : cvL L x y < 0 ↔ befB (L.getD y.toNat c0) (L.getD x.toNat c0) = true := by unfold cvL befB; simp
theorem cvL_wk (L : List CM) : Wk (cvL L) where
 asym x y h := by
  rw [cv_iff] at *
  rw [bef_iff] at *
  omega
 nt x y z h g := by
  rw [cv_iff] at *
  rw [bef_iff] at *
  omega
theorem ord_sp (L : List CM) : Sp (cvL L) (ordB L) L.length := by
 have h := isF_sp (cvL_wk L) (iota L.length) L.length (by rw [iota_len]; exact Nat.le_refl _)
 exact h
theorem ord_inj (L : List CM) : Inj (ordB L) := isF_inj _ (by rw [iota_len]; exact Nat.le_refl _) fun a b hab hb => by
 rw [iota_len] at hb
 rw [iota_at (by omega), iota_at hb]
 omega
theorem ord_all (L : List CM) : All L.length (ordB L) := isF_all _ (by rw [iota_len]; exact Nat.le_refl _) fun k hk => ⟨k, by rw [iota_len]; exact hk, iota_at hk⟩
/-- The a-th claim in that order. -/
def od (L : List CM) (a : Nat) : Nat := ((ordB L).getD a 0).toNat
theorem od_lt {a : Nat} (h : a < L.length) : od L a < L.length := by
 have := ordB_in L _ (dmem (xs := ordB L) (i := a) (by rw [ordB_len]; exact h))
 unfold od
 omega
theorem od_eq {a : Nat} (h : a < L.length) : ((od L a : Nat) : Int) = (ordB L).getD a 0 := by
 have := ordB_in L _ (dmem (xs := ordB L) (i := a) (by rw [ordB_len]; exact h))
 unfold od
 omega
theorem od_ne {a b : Nat} (hab : a < b) (hb : b < L.length) : od L a ≠ od L b := fun e => by
 have := ord_inj L a b hab (by rw [ordB_len]; exact hb)
 rw [← od_eq (by omega), ← od_eq hb, e] at this
 exact this rfl
theorem od_ex {k : Nat} (h : k < L.length) : ∃ a, a < L.length ∧ od L a = k := by
 obtain ⟨a, ha, e⟩ := ord_all L k h
 rw [ordB_len] at ha
 refine ⟨a, ha, ?_⟩
 unfold od
 rw [e]; rfl
/-- A claim that stands later in the order is not after one that stands earlier. -/
theorem od_bef {a b : Nat} (hab : a < b) (hb : b < L.length) : befB (L.getD (od L a) c0) (L.getD (od L b) c0) = false := by
 have := ord_sp L a b hab hb
 rw [cv_iff] at this
 exact Bool.eq_false_iff.2 this
/-- A claim after the a-th stands ahead of it. -/
theorem od_after {a b : Nat} (ha : a < L.length) (hb : b < L.length) (h : befB (L.getD (od L a) c0) (L.getD (od L b) c0) = true) : b < a := by
 by_cases e : b = a
 · subst e
   rw [bef_iff] at h
   omega
 · by_cases g : a < b
   · rw [od_bef g hb] at h; cases h
   · omega
/-- The values that were set stay. -/
theorem bel_keep {a : Nat} (ha : a < L.length) : ∀ j, a + 1 + j ≤ L.length → (belF L (a + 1 + j)).getD (od L a) false = (belF L (a + 1)).getD (od L a) false
 | 0, _ => rfl
 | j + 1, h => by
  have ih := bel_keep ha j (by omega)
  have hne := od_ne (L := L) (a := a) (b := a + 1 + j) (by omega) (by omega)
  show (nxt L (a + 1 + j) (belF L (a + 1 + j))).getD (od L a) false = _
  unfold nxt
  have e0 : ((ordB L).getD (a + 1 + j) 0).toNat = od L (a + 1 + j) := rfl
  rw [e0, List.getD_eq_getElem?_getD, List.getElem?_set_ne (fun e => hne e.symm), ← List.getD_eq_getElem?_getD]
  exact ih
theorem bel_at {a k : Nat} (ha : a < k) (hk : k ≤ L.length) : (belF L k).getD (od L a) false = (believedL L).getD (od L a) false := by
 have h1 := bel_keep (L := L) (a := a) (by omega) (k - (a + 1)) (by omega)
 have h2 := bel_keep (L := L) (a := a) (by omega) (L.length - (a + 1)) (by omega)
 rw [show a + 1 + (k - (a + 1)) = k by omega] at h1
 rw [show a + 1 + (L.length - (a + 1)) = L.length by omega] at h2
 unfold believedL
 rw [h1, h2]
/-- Does k, if it is believed, refute i? -/
def rfB (L : List CM) (i k : Nat) : Bool := (L.getD k c0).kind == 3 && befB (L.getD i c0) (L.getD k c0) && ((L.getD k c0).refs.any fun q => decide ((L.getD i c0).nm = q))
theorem bel2_eq (bs : List Bool) (i k : Nat) : bel2 L bs i k = (rfB L i k && bs.getD k false) := by
 unfold bel2 rfB
 generalize bs.getD k false = x
 cases x <;> simp
/-- **What Believed answers**: the only answer that fits. -/
theorem believed_fix {a : Nat} (ha : a < L.length) : (believedL L).getD (od L a) false = !(List.range L.length).any fun k => rfB L (od L a) k && (believedL L).getD k false := by
 have h1 := bel_at (L := L) (a := a) (k := a + 1) (by omega) (by omega)
 rw [← h1]
 show (nxt L a (belF L a)).getD (od L a) false = _
 have hset : (nxt L a (belF L a)).getD (od L a) false = !((ordB L).take a).any fun x => bel2 L (belF L a) (od L a) x.toNat := by
  unfold nxt
  rw [List.getD_eq_getElem?_getD]
  have : ((ordB L).getD a 0).toNat = od L a := rfl
  rw [this, List.getElem?_set_self (by rw [belF_len]; exact od_lt ha)]
  rfl
 rw [hset]
 congr 1
 rw [Bool.eq_iff_iff, List.any_eq_true, List.any_eq_true]
 constructor
 · rintro ⟨x, hx, hb⟩
   obtain ⟨b, hbx⟩ := List.getElem?_of_mem hx
   rw [List.getElem?_take] at hbx
   split at hbx
   · rename_i hba
     have ex : x = (ordB L).getD b 0 := by rw [List.getD_eq_getElem?_getD, hbx]; rfl
     have ex2 : x.toNat = od L b := by rw [ex]; rfl
     refine ⟨od L b, List.mem_range.2 (od_lt (by omega)), ?_⟩
     rw [ex2, bel2_eq, bel_at (k := a) hba (by omega)] at hb
     exact hb
   · cases hbx
 · rintro ⟨k, hk, hb⟩
   have hk := List.mem_range.1 hk
   obtain ⟨b, hbl, rfl⟩ := od_ex hk
   have hbef : befB (L.getD (od L a) c0) (L.getD (od L b) c0) = true := by
    unfold rfB at hb
    simp only [Bool.and_eq_true] at hb
    exact hb.1.1.2
   have hba := od_after ha hbl hbef
   refine ⟨(ordB L).getD b 0, ?_, ?_⟩
   · have e : ((ordB L).take a)[b]? = some ((ordB L).getD b 0) := by
      rw [List.getElem?_take, if_pos hba, List.getD_eq_getElem?_getD, List.getElem?_eq_getElem (by rw [ordB_len]; omega)]; rfl
     exact List.mem_of_getElem? e
   · have e : ((ordB L).getD b 0).toNat = od L b := rfl
     rw [e, bel2_eq, bel_at (k := a) hba (by omega)]
     exact hb
end
end Go.Proofs.YtmhliomemdhmiaaGreatDoor.E.Ca
namespace Go.Proofs.YtmhliomemdhmiaaGreatDoor.E
open Go.RowKit
set_option linter.unusedVariables false
theorem Pure.ro {P : Program} {f : FuncId} {ds : List V} {T z : Nat} {l : List (List V)} (h : Pure P f ds (.o T z l)) : Pure P f ds (.v (.sl l)) :=
 ⟨h.1, fun w M args hM hr => (h.2 w M args hM hr).mono fun e w' ⟨v, e1, ok, bel⟩ => ⟨v, e1, by
  obtain ⟨q1, xs, q2, q3, q4⟩ := ok
  show Rep w' M no v (.sl l)
  have hxl : xs.length = l.flatten.length := by rw [q2.1, flat_len q1]
  rcases q2.2 with ⟨rfl, e0⟩ | ⟨g, cap, cur, rfl, hB, hh, hnc, hcm, hcs', htk⟩
  · have h0 : l = [] := List.length_eq_zero_iff.1 e0
    subst h0
    exact .sl _ none 0 0 0 z [] (fun _ _ => undef) (Nat.le_refl _) (Nat.zero_le _) (fun h => by simp at h) (fun _ h => by simp at h) (fun i j cs x h => by simp at h) (fun i j cs x h => by simp at h)
  · refine .sl _ _ g 0 cap z l (fun i j => xs.getD (i * z + j) undef) hnc hcm (fun _ => ⟨rfl, fun hA => hB (hM g hA), ⟨cur, T, (0, 0), hh⟩⟩) q1 (fun i j cs x hi hj => ?_) (fun i j cs x hi hj => ?_)
    · have e1 := flat_get q1 hi hj
      have e2 := (List.getElem?_eq_some_iff.1 e1).1
      have e3 : xs[i * z + j]? = some (xs.getD (i * z + j) undef) := by rw [List.getD_eq_getElem?_getD, List.getElem?_eq_getElem (by omega)]; rfl
      have := row_cell q2 rfl e3
      rwa [show 0 + i * z + j = i * z + j by omega]
    · exact (q4 _ x (flat_get q1 hi hj)).mo ⟨Nat.le_refl _, fun _ _ _ => rfl, fun g e => .inl (.inl e), fun _ _ e => e⟩, bel⟩⟩
end Go.Proofs.YtmhliomemdhmiaaGreatDoor.E
namespace Go.Proofs.YtmhliomemdhmiaaGreatDoor.E.Ca
open Go.RowKit
set_option linter.unusedVariables false
set_option linter.unusedSimpArgs false
section
variable {L : List CM} {i k j : Nat} {c : CM} {p : Int × Int}
/-- Is claim i believed? -/
def bvB (L : List CM) (i : Nat) : Bool := (believedL L).getD i false
end
end Go.Proofs.YtmhliomemdhmiaaGreatDoor.E.Ca
namespace Go.Proofs.YtmhliomemdhmiaaGreatDoor.E.Ca
open Go.RowKit
set_option linter.unusedVariables false
set_option linter.unusedSimpArgs false
section
variable {L C : List CM} {i k : Nat} {l : List Int} {turn : Int}
end
end Go.Proofs.YtmhliomemdhmiaaGreatDoor.E.Ca
namespace Go.Proofs.YtmhliomemdhmiaaGreatDoor.E.Ca
open Go.RowKit
set_option linter.unusedVariables false
set_option linter.unusedSimpArgs false
section
variable {p q r : Int × Int} {o : List (Int × Int)} {n : Int × Int} {L : List CM} {bits : Int} {i k : Nat} {l : List Int}
theorem less_iff : lessN p q = true ↔ (p.1 < q.1 ∨ p.1 = q.1 ∧ p.2 < q.2) := by
 unfold lessN
 simp
theorem less_no : lessN p q = false ↔ ¬ (p.1 < q.1 ∨ p.1 = q.1 ∧ p.2 < q.2) := by
 rw [← less_iff]; simp
theorem less_trans (h : lessN p q = true) (g : lessN q r = true) : lessN p r = true := by
 rw [less_iff] at *; omega
theorem less_of (h : lessN p q = false) (g : q ≠ p) : lessN q p = true := by
 rw [less_no] at h
 rw [less_iff]
 have : ¬ (q.1 = p.1 ∧ q.2 = p.2) := fun e => g (Prod.ext e.1 e.2)
 omega
/-- Increasing. -/
def Srt (o : List (Int × Int)) : Prop := o.Pairwise fun x y => lessN x y = true
theorem posN_hi : ∀ (k : Nat) (j : Nat), posN o n k ≤ j → j < k → lessN n (o.getD j (0, 0)) = true
 | 0, j, _, h => absurd h (Nat.not_lt_zero j)
 | k + 1, j, h1, h2 => by
  unfold posN at h1
  split at h1
  · rename_i hb
    by_cases e : j = k
    · subst e; exact hb
    · exact posN_hi k j h1 (by omega)
  · omega
theorem posN_lo : ∀ (k : Nat), 0 < posN o n k → lessN n (o.getD (posN o n k - 1) (0, 0)) = false
 | 0, h => absurd h (Nat.lt_irrefl 0)
 | k + 1, h => by
  unfold posN at h ⊢
  split
  · rename_i hb
    rw [if_pos hb] at h
    exact posN_lo k h
  · rename_i hb
    simpa using hb
theorem getD_mem {α : Type} {l : List α} {i : Nat} {d : α} (h : i < l.length) : l.getD i d ∈ l := by rw [List.getD_eq_getElem?_getD, List.getElem?_eq_getElem h]; exact List.getElem_mem _
theorem srt_at (h : Srt o) {a b : Nat} (hab : a < b) (hb : b < o.length) : lessN (o.getD a (0, 0)) (o.getD b (0, 0)) = true := by
 have := List.pairwise_iff_getElem.1 h a b (by omega) hb hab
 rw [List.getD_eq_getElem?_getD, List.getD_eq_getElem?_getD, List.getElem?_eq_getElem (by omega), List.getElem?_eq_getElem hb]
 exact this
theorem ins_srt (h : Srt o) (hn : n ∉ o) : Srt (insN o n) := by
 have hle := posN_le (o := o) (n := n) o.length
 have hhi := posN_hi (o := o) (n := n) o.length
 have hlo := posN_lo (o := o) (n := n) o.length
 unfold insN Srt
 generalize posN o n o.length = k at *
 have t1 : ∀ x ∈ o.take k, lessN x n = true := fun x hx => by
  obtain ⟨j, hj⟩ := List.getElem?_of_mem hx
  rw [List.getElem?_take] at hj
  split at hj
  · rename_i hjk
    have hl := (List.getElem?_eq_some_iff.1 hj).1
    have ex : x = o.getD j (0, 0) := by rw [List.getD_eq_getElem?_getD, hj]; rfl
    have hk1 : lessN (o.getD (k - 1) (0, 0)) n = true := less_of (hlo (by omega)) fun e => hn (e ▸ getD_mem (by omega))
    by_cases e : j = k - 1
    · rw [ex, e]; exact hk1
    · rw [ex]; exact less_trans (srt_at h (by omega : j < k - 1) (by omega)) hk1
  · cases hj
 have t2 : ∀ y ∈ o.drop k, lessN n y = true := fun y hy => by
  obtain ⟨j, hj⟩ := List.getElem?_of_mem hy
  rw [List.getElem?_drop] at hj
  have hl := (List.getElem?_eq_some_iff.1 hj).1
  have ey : y = o.getD (k + j) (0, 0) := by rw [List.getD_eq_getElem?_getD, hj]; rfl
  rw [ey]
  exact hhi (k + j) (by omega) hl
 rw [List.pairwise_append, List.pairwise_append]
 refine ⟨⟨h.sublist (List.take_sublist k o), List.pairwise_singleton _ _, fun x hx y hy => ?_⟩, h.sublist (List.drop_sublist k o), fun x hx y hy => ?_⟩
 · rw [List.mem_singleton] at hy
   subst hy
   exact t1 x hx
 · rcases List.mem_append.1 hx with h1 | h1
   · exact less_trans (t1 x h1) (t2 y hy)
   · rw [List.mem_singleton] at h1
     subst h1
     exact t2 y hy
theorem mem_ins {x : Int × Int} (h : x ∈ insN o n) : x = n ∨ x ∈ o := by
 unfold insN at h
 simp only [List.mem_append, List.mem_singleton] at h
 rcases h with (h | h) | h
 · exact .inr (List.mem_of_mem_take h)
 · exact .inl h
 · exact .inr (List.mem_of_mem_drop h)
theorem mem_refs {x : Int × Int} : ∀ i, x ∈ refsF L bits i → ∃ k, k < i ∧ x = (L.getD k c0).nm
 | 0, h => by cases h
 | i + 1, h => by
  unfold refsF at h
  split at h
  · rcases mem_ins h with e | h
    · exact ⟨i, by omega, e⟩
    · obtain ⟨k, hk, e⟩ := mem_refs i h
      exact ⟨k, by omega, e⟩
  · obtain ⟨k, hk, e⟩ := mem_refs i h
    exact ⟨k, by omega, e⟩
theorem refs_srt (hd : ∀ a b, a < b → b < L.length → (L.getD a c0).nm ≠ (L.getD b c0).nm) : ∀ i, i ≤ L.length → Srt (refsF L bits i)
 | 0, _ => List.Pairwise.nil
 | i + 1, hi => by
  have ih := refs_srt hd i (by omega)
  unfold refsF
  split
  · refine ins_srt ih fun h => ?_
    obtain ⟨k, hk, e⟩ := mem_refs i h
    exact hd k i hk (by omega) e.symm
  · exact ih
theorem refers_of {p : Int × Int} {rf : List (Int × Int)} (h1 : ∀ x ∈ rf, possB x = true ∧ x ≠ p) (h2 : Srt rf) : refersB p rf = true := by
 refine refers_yes (n := rf.length) (Nat.lt_irrefl _) fun t ht => ?_
 have hm := h1 _ (getD_mem (d := ((0 : Int), (0 : Int))) ht)
 unfold badAt
 rw [hm.1, decide_eq_false hm.2]
 by_cases h0 : t = 0
 · subst h0; rfl
 · rw [ord_ge, srt_at h2 (by omega : t - 1 < t) ht]
   simp
/-- What is true of all that was made so far. -/
structure GI (L : List CM) : Prop where
 by_ : ∀ c ∈ L, 0 ≤ c.by_ ∧ c.by_ ≤ 2
 seq : ∀ k, k < L.length → (L.getD k c0).seq = (seqG L (L.getD k c0).by_ k : Int)
 ok : ∀ c ∈ L, validI c = 0
theorem seq_mono (b : Int) : ∀ j k, k + j ≤ L.length → seqG L b k ≤ seqG L b (k + j)
 | 0, k, _ => Nat.le_refl _
 | j + 1, k, h => by
  have h1 := seq_mono b j k (by omega)
  have h2 := seq_step (L := L) (k := k + j) (by omega) b
  rw [show k + (j + 1) = k + j + 1 by omega, h2]
  split <;> omega
theorem GI.ne (h : GI L) : ∀ a b, a < b → b < L.length → (L.getD a c0).nm ≠ (L.getD b c0).nm := fun a b hab hb e => by
 unfold CM.nm at e
 injection e with e1 e2
 have sa := h.seq a (by omega)
 have sb := h.seq b hb
 rw [← e1] at sb
 have st := seq_step (L := L) (k := a) (by omega) (L.getD a c0).by_
 rw [if_pos (by simp)] at st
 have mo := seq_mono (L := L) (L.getD a c0).by_ (b - (a + 1)) (a + 1) (by omega)
 rw [show a + 1 + (b - (a + 1)) = b by omega] at mo
 omega
theorem GI.own (h : GI L) {b : Int} (k : Nat) (hk : k < L.length) : (L.getD k c0).nm ≠ (b, (seqG L b L.length : Int)) := fun e => by
 unfold CM.nm at e
 injection e with e1 e2
 have sa := h.seq k hk
 rw [e1] at sa
 have st := seq_step (L := L) (k := k) hk b
 rw [if_pos (by rw [e1]; simp)] at st
 have mo := seq_mono (L := L) b (L.length - (k + 1)) (k + 1) (by omega)
 rw [show k + 1 + (L.length - (k + 1)) = L.length by omega] at mo
 omega
theorem GI.poss (h : GI L) (hL : L.length ≤ 10) (k : Nat) (hk : k < L.length) : possB (L.getD k c0).nm = true := by
 have h1 := h.by_ _ (getD_mem (d := c0) hk)
 have h2 := h.seq k hk
 have h3 := seq_le L (L.getD k c0).by_ k
 generalize L.getD k c0 = c at *
 unfold possB CM.nm
 simp
 omega
theorem getD_app {c : CM} (hk : k < L.length) : (L ++ [c]).getD k c0 = L.getD k c0 := by
 rw [List.getD_eq_getElem?_getD, List.getD_eq_getElem?_getD, List.getElem?_append_left hk]
theorem seq_app {c : CM} (b : Int) (hk : k ≤ L.length) : seqG (L ++ [c]) b k = seqG L b k := by
 unfold seqG
 rw [List.take_append_of_le_length hk]
theorem GI.add (h : GI L) {c : CM} (h1 : 0 ≤ c.by_ ∧ c.by_ ≤ 2) (h2 : c.seq = (seqG L c.by_ L.length : Int)) (h3 : validI c = 0) : GI (L ++ [c]) where
 by_ d hd := by
  rcases List.mem_append.1 hd with g | g
  · exact h.by_ d g
  · rw [List.mem_singleton] at g; subst g; exact h1
 seq k hk := by
  rw [List.length_append, List.length_singleton] at hk
  by_cases g : k < L.length
  · rw [getD_app g, seq_app _ (by omega)]
    exact h.seq k g
  · have e : k = L.length := by omega
    subst e
    have e2 : (L ++ [c]).getD L.length c0 = c := by rw [List.getD_eq_getElem?_getD, List.getElem?_append_right (Nat.le_refl _)]; simp
    rw [e2, seq_app _ (Nat.le_refl _)]
    exact h2
 ok d hd := by
  rcases List.mem_append.1 hd with g | g
  · exact h.ok d g
  · rw [List.mem_singleton] at g; subst g; exact h3
/-- A claim of a kind is valid. -/
theorem clG_ok {b s t : Int} {rf : List (Int × Int)} {kd : Int} (hp : possB (b, s) = true) (ht : 0 ≤ t ∧ t ≤ 1000) (hk : kd = 0 ∨ kd = 1 ∨ kd = 2 ∨ kd = 3) (hr : refersB (b, s) rf = true) (hl : rf.length ≤ 10) : validI (clG l i b s t rf (kd2 kd rf)) = 0 := by
 have h8 := atz_in l (5 * i + 4) 8
 have hrl := rfs_len rf
 have r0 : refersB (b, s) [] = true := rfl
 have t1 : decide (t < 0) = false := decide_eq_false (by omega)
 have t2 : decide (t > 1048576) = false := decide_eq_false (by omega)
 have z0 : validI (clG l i b s t rf 0) = 0 := by
  have hV := v_0 (rf := []) (b := b) (s := s) (t := t) (ft := zF) (w := 1 + atz l (5 * i + 4) 8) rfl (by simp only [headB, CM.nm, hp, t1, t2, r0]; rfl)
  show validI ⟨b, s, t, 0, [], zF, 1 + atz l (5 * i + 4) 8⟩ = 0
  rw [hV, zF_ok]
  unfold bodyP
  rw [show decide (1 + atz l (5 * i + 4) 8 < 1) = false from decide_eq_false (by omega), show decide (1 + atz l (5 * i + 4) 8 > 1024) = false from decide_eq_false (by omega)]
  rfl
 have hlong : decide (((rfs rf).length : Int) > 16) = false := decide_eq_false (by omega)
 unfold kd2
 split
 · exact z0
 · rename_i hn
   have hpos : 0 < rf.length := by omega
   have g2 : decide (((rfs rf).length : Int) > 16) = false := hlong
   rcases hk with rfl | rfl | rfl | rfl
   · exact z0
   · have hV := v_1 (rf := rf) (b := b) (s := s) (t := t) (ft := (fitQ l (5 * i + 2)).fm) (w := 0) hlong (by simp only [headB, CM.nm, hp, t1, t2, hr]; rfl)
     show validI ⟨b, s, t, 1, rf, (fitQ l (5 * i + 2)).fm, 0⟩ = 0
     rw [hV, fit_ok]
     unfold bodyP
     rw [g2, show decide (((rfs rf).length : Int) < 1) = false from decide_eq_false (by omega)]
     rfl
   · have hV := v_2 (rf := rf) (b := b) (s := s) (t := t) (ft := zF) (w := 0) hlong (by simp only [headB, CM.nm, hp, t1, t2, hr]; rfl)
     show validI ⟨b, s, t, 2, rf, zF, 0⟩ = 0
     rw [hV, zF_ok]
     unfold bodyP
     rw [g2, show decide (((rfs rf).length : Int) < 2) = false from decide_eq_false (by omega)]
     rfl
   · have hV := v_3 (rf := rf) (b := b) (s := s) (t := t) (ft := zF) (w := 0) hlong (by simp only [headB, CM.nm, hp, t1, t2, hr]; rfl)
     show validI ⟨b, s, t, 3, rf, zF, 0⟩ = 0
     rw [hV, zF_ok]
     unfold bodyP
     rw [g2, show decide (((rfs rf).length : Int) < 1) = false from decide_eq_false (by omega)]
     rfl
theorem clG_by {b s t : Int} {rf : List (Int × Int)} {kd : Int} : (clG l i b s t rf kd).by_ = b ∧ (clG l i b s t rf kd).seq = s := by
 unfold clG
 split <;> exact ⟨rfl, rfl⟩
theorem good_gi : ∀ i, i ≤ 10 → GI (goodF l i).1
 | 0, _ => ⟨fun c h => (by cases h), fun k h => absurd h (Nat.not_lt_zero k), fun c h => (by cases h)⟩
 | i + 1, hi => by
  have ih := good_gi i (by omega)
  have hlen := good_len (l := l) i
  have htk := good_tick (l := l) i
  have hb := atz_in l (5 * i) 2
  have h2 := atz_in l (5 * i + 2) 1
  have hs := seq_le (goodF l i).1 (byG l i) (goodF l i).1.length
  have hrl := refsF_len (L := (goodF l i).1) (bits := bitsG l i) (goodF l i).1.length
  show GI ((goodF l i).1 ++ [_])
  refine ih.add ?_ ?_ ?_
  · rw [clG_by.1]; unfold byG; omega
  · rw [clG_by.1, clG_by.2]
  · refine clG_ok ?_ ?_ (kdG_in l i) ?_ (by unfold rfG; omega)
    · unfold possB byG
      unfold byG at hs
      simp
      omega
    · unfold tkG; omega
    · refine refers_of (fun x hx => ?_) (refs_srt ih.ne _ (Nat.le_refl _))
      obtain ⟨k, hk, rfl⟩ := mem_refs _ hx
      exact ⟨ih.poss (by omega) k hk, ih.own k hk⟩
end
end Go.Proofs.YtmhliomemdhmiaaGreatDoor.E.Ca
