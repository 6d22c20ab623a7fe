/-
 THE LAWS by the engine, their arguments as they come in.
-/
import Derived.Test.YtmhliomemdhmiaaGreatDoorCaQ
import Derived.Test.YtmhliomemdhmiaaGreatDoorWalkMul
import Derived.Test.YtmhliomemdhmiaaGreatDoorMemI
import Derived.OpenShut
import Derived.Test.YtmhliomemdhmiaaGreatDoorEqA
namespace Go.Proofs.YtmhliomemdhmiaaGreatDoor.E.Ca
open Go.RowKit
set_option linter.unusedVariables false
set_option linter.unusedSimpArgs false
section
variable {cv : Int → Int → Int} {xs : List Int} {i j n : Nat} {L : List CM}
theorem swp_at (h : j + 1 < xs.length) (a : Nat) : (swp xs j).getD a 0 = if a = j then xs.getD (j + 1) 0 else if a = j + 1 then xs.getD j 0 else xs.getD a 0 := by
 unfold swp
 simp only [List.getD_eq_getElem?_getD]
 by_cases e1 : a = j
 · subst e1
   rw [if_pos rfl, List.getElem?_set_self (by simp; omega)]
   rfl
 · rw [if_neg e1, List.getElem?_set_ne (fun e => e1 e.symm)]
   by_cases e2 : a = j + 1
   · subst e2
     rw [if_pos rfl, List.getElem?_set_self h]
     rfl
   · rw [if_neg e2, List.getElem?_set_ne (fun e => e2 e.symm)]
/-- A comparison that orders. -/
structure Wk (cv : Int → Int → Int) : Prop where
 asym : ∀ x y, cv x y < 0 → ¬ cv y x < 0
 nt : ∀ x y z, ¬ cv y x < 0 → ¬ cv z y < 0 → ¬ cv z x < 0
def Sp (cv : Int → Int → Int) (xs : List Int) (i : Nat) : Prop := ∀ a b, a < b → b < i → ¬ cv (xs.getD b 0) (xs.getD a 0) < 0
theorem ins_sp (hw : Wk cv) : ∀ (j : Nat) (xs : List Int), j ≤ i → i < xs.length → (∀ a b, a < b → b ≤ i → a ≠ j → b ≠ j → ¬ cv (xs.getD b 0) (xs.getD a 0) < 0) → (∀ b, j < b → b ≤ i → ¬ cv (xs.getD b 0) (xs.getD j 0) < 0) → Sp cv (insJ cv j xs) (i + 1)
 | 0, xs, hj, hi, h1, h2 => fun a b hab hb => by
  show ¬ cv (xs.getD b 0) (xs.getD a 0) < 0
  by_cases e : a = 0
  · subst e; exact h2 b hab (by omega)
  · exact h1 a b hab (by omega) e (by omega)
 | j + 1, xs, hj, hi, h1, h2 => by
  unfold insJ
  by_cases h : cv (xs.getD (j + 1) 0) (xs.getD j 0) < 0
  · rw [if_pos h]
    refine ins_sp hw j (swp xs j) (by omega) (by rw [swp_len]; exact hi) (fun a b hab hb ha hb2 => ?_) (fun b hb1 hb2 => ?_)
    · rw [swp_at (by omega), swp_at (by omega), if_neg ha, if_neg hb2]
      by_cases ea : a = j + 1
      · rw [if_pos ea, if_neg (by omega)]
        exact h1 j b (by omega) hb (by omega) (by omega)
      · rw [if_neg ea]
        by_cases eb : b = j + 1
        · rw [if_pos eb]
          exact h1 a j (by omega) (by omega) (by omega) (by omega)
        · rw [if_neg eb]
          exact h1 a b hab hb ea eb
    · rw [swp_at (by omega), swp_at (by omega), if_neg (by omega), if_pos rfl]
      by_cases eb : b = j + 1
      · rw [if_pos eb]; exact hw.asym _ _ h
      · rw [if_neg eb]; exact h2 b (by omega) hb2
  · rw [if_neg h]
    intro a b hab hb
    by_cases ea : a = j + 1
    · subst ea; exact h2 b hab (by omega)
    · by_cases eb : b = j + 1
      · subst eb
        by_cases e : a = j
        · subst e; exact h
        · exact hw.nt _ _ _ (h1 a j (by omega) (by omega) ea (by omega)) h
      · exact h1 a b hab (by omega) ea eb
theorem isF_sp (hw : Wk cv) (xs : List Int) : ∀ i, i ≤ xs.length → Sp cv (isF cv xs i) i
 | 0, _ => fun a b _ hb => absurd hb (Nat.not_lt_zero b)
 | i + 1, hi => by
  have ih := isF_sp hw xs i (by omega)
  unfold isF
  exact ins_sp hw i _ (Nat.le_refl _) (by rw [isF_len]; omega) (fun a b hab hb ha hb2 => ih a b hab (by omega)) (fun b h1 h2 => by omega)
/-- No element twice. -/
def Inj (xs : List Int) : Prop := ∀ a b, a < b → b < xs.length → xs.getD a 0 ≠ xs.getD b 0
theorem swp_inj (h : j + 1 < xs.length) (hI : Inj xs) : Inj (swp xs j) := fun a b hab hb => by
 rw [swp_len] at hb
 rw [swp_at h, swp_at h]
 by_cases a1 : a = j
 · rw [if_pos a1]
   by_cases b2 : b = j + 1
   · rw [if_neg (by omega), if_pos b2]; exact (hI j (j + 1) (by omega) h).symm
   · rw [if_neg (by omega), if_neg b2]; exact hI (j + 1) b (by omega) hb
 · rw [if_neg a1]
   by_cases a2 : a = j + 1
   · rw [if_pos a2, if_neg (by omega), if_neg (by omega)]; exact hI j b (by omega) hb
   · rw [if_neg a2]
     by_cases b1 : b = j
     · rw [if_pos b1]; exact hI a (j + 1) (by omega) h
     · rw [if_neg b1]
       by_cases b2 : b = j + 1
       · rw [if_pos b2]; exact hI a j (by omega) (by omega)
       · rw [if_neg b2]; exact hI a b hab hb
theorem insJ_inj : ∀ (j : Nat) {xs : List Int}, j < xs.length → Inj xs → Inj (insJ cv j xs)
 | 0, xs, _, h => h
 | j + 1, xs, hj, h => by
  unfold insJ
  split
  · exact insJ_inj j (by rw [swp_len]; omega) (swp_inj hj h)
  · exact h
theorem isF_inj : ∀ i, i ≤ xs.length → Inj xs → Inj (isF cv xs i)
 | 0, _, h => h
 | i + 1, hi, h => insJ_inj i (by rw [isF_len]; omega) (isF_inj i (by omega) h)
/-- Every index stands in it. -/
def All (n : Nat) (xs : List Int) : Prop := ∀ k : Nat, k < n → ∃ a, a < xs.length ∧ xs.getD a 0 = (k : Int)
theorem swp_all (h : j + 1 < xs.length) (hA : All n xs) : All n (swp xs j) := fun k hk => by
 obtain ⟨a, ha, e⟩ := hA k hk
 by_cases a1 : a = j
 · exact ⟨j + 1, by rw [swp_len]; exact h, by rw [swp_at h, if_neg (by omega), if_pos rfl, ← a1]; exact e⟩
 · by_cases a2 : a = j + 1
   · exact ⟨j, by rw [swp_len]; omega, by rw [swp_at h, if_pos rfl, ← a2]; exact e⟩
   · exact ⟨a, by rw [swp_len]; exact ha, by rw [swp_at h, if_neg a1, if_neg a2]; exact e⟩
theorem insJ_all : ∀ (j : Nat) {xs : List Int}, j < xs.length → All n xs → All n (insJ cv j xs)
 | 0, xs, _, h => h
 | j + 1, xs, hj, h => by
  unfold insJ
  split
  · exact insJ_all j (by rw [swp_len]; omega) (swp_all hj h)
  · exact h
theorem isF_all : ∀ i, i ≤ xs.length → All n xs → All n (isF cv xs i)
 | 0, _, h => h
 | i + 1, hi, h => insJ_all i (by rw [isF_len]; omega) (isF_all i (by omega) h)
theorem iota_at {k : Nat} (h : k < n) : (iota n).getD k 0 = (k : Int) := by
 unfold iota
 rw [List.getD_eq_getElem?_getD, List.getElem?_map, List.getElem?_range h]; rfl
theorem cv_iff (x y : Int) : cvL L x y < 0 ↔ befB (L.getD y.toNat c0) (L.getD x.toNat c0) = true := by unfold cvL befB; simp
theorem cvL_wk (L : List CM) : Wk (cvL L) where
 asym x y h := by
  rw [cv_iff] at *
  rw [bef_iff] at *
  omega
 nt x y z h g := by
  rw [cv_iff] at *
  rw [bef_iff] at *
  omega
theorem ord_sp (L : List CM) : Sp (cvL L) (ordB L) L.length := by
 have h := isF_sp (cvL_wk L) (iota L.length) L.length (by rw [iota_len]; exact Nat.le_refl _)
 exact h
theorem ord_inj (L : List CM) : Inj (ordB L) := isF_inj _ (by rw [iota_len]; exact Nat.le_refl _) fun a b hab hb => by
 rw [iota_len] at hb
 rw [iota_at (by omega), iota_at hb]
 omega
theorem ord_all (L : List CM) : All L.length (ordB L) := isF_all _ (by rw [iota_len]; exact Nat.le_refl _) fun k hk => ⟨k, by rw [iota_len]; exact hk, iota_at hk⟩
/-- The a-th claim in that order. -/
def od (L : List CM) (a : Nat) : Nat := ((ordB L).getD a 0).toNat
theorem od_lt {a : Nat} (h : a < L.length) : od L a < L.length := by
 have := ordB_in L _ (dmem (xs := ordB L) (i := a) (by rw [ordB_len]; exact h))
 unfold od
 omega
theorem od_eq {a : Nat} (h : a < L.length) : ((od L a : Nat) : Int) = (ordB L).getD a 0 := by
 have := ordB_in L _ (dmem (xs := ordB L) (i := a) (by rw [ordB_len]; exact h))
 unfold od
 omega
theorem od_ne {a b : Nat} (hab : a < b) (hb : b < L.length) : od L a ≠ od L b := fun e => by
 have := ord_inj L a b hab (by rw [ordB_len]; exact hb)
 rw [← od_eq (by omega), ← od_eq hb, e] at this
 exact this rfl
theorem od_ex {k : Nat} (h : k < L.length) : ∃ a, a < L.length ∧ od L a = k := by
 obtain ⟨a, ha, e⟩ := ord_all L k h
 rw [ordB_len] at ha
 refine ⟨a, ha, ?_⟩
 unfold od
 rw [e]; rfl
/-- A claim that stands later in the order is not after one that stands earlier. -/
theorem od_bef {a b : Nat} (hab : a < b) (hb : b < L.length) : befB (L.getD (od L a) c0) (L.getD (od L b) c0) = false := by
 have := ord_sp L a b hab hb
 rw [cv_iff] at this
 exact Bool.eq_false_iff.2 this
/-- A claim after the a-th stands ahead of it. -/
theorem od_after {a b : Nat} (ha : a < L.length) (hb : b < L.length) (h : befB (L.getD (od L a) c0) (L.getD (od L b) c0) = true) : b < a := by
 by_cases e : b = a
 · subst e
   rw [bef_iff] at h
   omega
 · by_cases g : a < b
   · rw [od_bef g hb] at h; cases h
   · omega
/-- The values that were set stay. -/
theorem bel_keep {a : Nat} (ha : a < L.length) : ∀ j, a + 1 + j ≤ L.length → (belF L (a + 1 + j)).getD (od L a) false = (belF L (a + 1)).getD (od L a) false
 | 0, _ => rfl
 | j + 1, h => by
  have ih := bel_keep ha j (by omega)
  have hne := od_ne (L := L) (a := a) (b := a + 1 + j) (by omega) (by omega)
  show (nxt L (a + 1 + j) (belF L (a + 1 + j))).getD (od L a) false = _
  unfold nxt
  have e0 : ((ordB L).getD (a + 1 + j) 0).toNat = od L (a + 1 + j) := rfl
  rw [e0, List.getD_eq_getElem?_getD, List.getElem?_set_ne (fun e => hne e.symm), ← List.getD_eq_getElem?_getD]
  exact ih
theorem bel_at {a k : Nat} (ha : a < k) (hk : k ≤ L.length) : (belF L k).getD (od L a) false = (believedL L).getD (od L a) false := by
 have h1 := bel_keep (L := L) (a := a) (by omega) (k - (a + 1)) (by omega)
 have h2 := bel_keep (L := L) (a := a) (by omega) (L.length - (a + 1)) (by omega)
 rw [show a + 1 + (k - (a + 1)) = k by omega] at h1
 rw [show a + 1 + (L.length - (a + 1)) = L.length by omega] at h2
 unfold believedL
 rw [h1, h2]
/-- Does k, if it is believed, refute i? -/
def rfB (L : List CM) (i k : Nat) : Bool := (L.getD k c0).kind == 3 && befB (L.getD i c0) (L.getD k c0) && ((L.getD k c0).refs.any fun q => decide ((L.getD i c0).nm = q))
theorem bel2_eq (bs : List Bool) (i k : Nat) : bel2 L bs i k = (rfB L i k && bs.getD k false) := by
 unfold bel2 rfB
 generalize bs.getD k false = x
 cases x <;> simp
/-- **What Believed answers**: the only answer that fits. -/
theorem believed_fix {a : Nat} (ha : a < L.length) : (believedL L).getD (od L a) false = !(List.range L.length).any fun k => rfB L (od L a) k && (believedL L).getD k false := by
 have h1 := bel_at (L := L) (a := a) (k := a + 1) (by omega) (by omega)
 rw [← h1]
 show (nxt L a (belF L a)).getD (od L a) false = _
 have hset : (nxt L a (belF L a)).getD (od L a) false = !((ordB L).take a).any fun x => bel2 L (belF L a) (od L a) x.toNat := by
  unfold nxt
  rw [List.getD_eq_getElem?_getD]
  have : ((ordB L).getD a 0).toNat = od L a := rfl
  rw [this, List.getElem?_set_self (by rw [belF_len]; exact od_lt ha)]
  rfl
 rw [hset]
 congr 1
 rw [Bool.eq_iff_iff, List.any_eq_true, List.any_eq_true]
 constructor
 · rintro ⟨x, hx, hb⟩
   obtain ⟨b, hbx⟩ := List.getElem?_of_mem hx
   rw [List.getElem?_take] at hbx
   split at hbx
   · rename_i hba
     have ex : x = (ordB L).getD b 0 := by rw [List.getD_eq_getElem?_getD, hbx]; rfl
     have ex2 : x.toNat = od L b := by rw [ex]; rfl
     refine ⟨od L b, List.mem_range.2 (od_lt (by omega)), ?_⟩
     rw [ex2, bel2_eq, bel_at (k := a) hba (by omega)] at hb
     exact hb
   · cases hbx
 · rintro ⟨k, hk, hb⟩
   have hk := List.mem_range.1 hk
   obtain ⟨b, hbl, rfl⟩ := od_ex hk
   have hbef : befB (L.getD (od L a) c0) (L.getD (od L b) c0) = true := by
    unfold rfB at hb
    simp only [Bool.and_eq_true] at hb
    exact hb.1.1.2
   have hba := od_after ha hbl hbef
   refine ⟨(ordB L).getD b 0, ?_, ?_⟩
   · have e : ((ordB L).take a)[b]? = some ((ordB L).getD b 0) := by
      rw [List.getElem?_take, if_pos hba, List.getD_eq_getElem?_getD, List.getElem?_eq_getElem (by rw [ordB_len]; omega)]; rfl
     exact List.mem_of_getElem? e
   · have e : ((ordB L).getD b 0).toNat = od L b := rfl
     rw [e, bel2_eq, bel_at (k := a) hba (by omega)]
     exact hb
end
end Go.Proofs.YtmhliomemdhmiaaGreatDoor.E.Ca
namespace Go.Proofs.YtmhliomemdhmiaaGreatDoor.E
open Go.RowKit
set_option linter.unusedVariables false
theorem Pure.ro {P : Program} {f : FuncId} {ds : List V} {T z : Nat} {l : List (List V)} (h : Pure P f ds (.o T z l)) : Pure P f ds (.v (.sl l)) :=
 ⟨h.1, fun w M args hM hr => (h.2 w M args hM hr).mono fun e w' ⟨v, e1, ok, bel⟩ => ⟨v, e1, by
  obtain ⟨q1, xs, q2, q3, q4⟩ := ok
  show Rep w' M no v (.sl l)
  have hxl : xs.length = l.flatten.length := by rw [q2.1, flat_len q1]
  rcases q2.2 with ⟨rfl, e0⟩ | ⟨g, cap, cur, rfl, hB, hh, hnc, hcm, hcs', htk⟩
  · have h0 : l = [] := List.length_eq_zero_iff.1 e0
    subst h0
    exact .sl _ none 0 0 0 z [] (fun _ _ => undef) (Nat.le_refl _) (Nat.zero_le _) (fun h => by simp at h) (fun _ h => by simp at h) (fun i j cs x h => by simp at h) (fun i j cs x h => by simp at h)
  · refine .sl _ _ g 0 cap z l (fun i j => xs.getD (i * z + j) undef) hnc hcm (fun _ => ⟨rfl, fun hA => hB (hM g hA), ⟨cur, T, (0, 0), hh⟩⟩) q1 (fun i j cs x hi hj => ?_) (fun i j cs x hi hj => ?_)
    · have e1 := flat_get q1 hi hj
      have e2 := (List.getElem?_eq_some_iff.1 e1).1
      have e3 : xs[i * z + j]? = some (xs.getD (i * z + j) undef) := by rw [List.getD_eq_getElem?_getD, List.getElem?_eq_getElem (by omega)]; rfl
      have := row_cell q2 rfl e3
      rwa [show 0 + i * z + j = i * z + j by omega]
    · exact (q4 _ x (flat_get q1 hi hj)).mo ⟨Nat.le_refl _, fun _ _ _ => rfl, fun g e => .inl (.inl e), fun _ _ e => e⟩, bel⟩⟩
end Go.Proofs.YtmhliomemdhmiaaGreatDoor.E
namespace Go.Proofs.YtmhliomemdhmiaaGreatDoor.E.Ca
open Go.RowKit
set_option linter.unusedVariables false
set_option linter.unusedSimpArgs false
section
variable {L : List CM} {i k j : Nat} {c : CM} {p : Int × Int}
noncomputable abbrev fnm : Func := fnOf PP 129
theorem e_names (c : CM) (p : Int × Int) : Pure PP 129 [.ag (dC c), .ag (nm p)] (bo (c.refs.any fun q => decide (p = q))) := by
 refine .lenA 0 4 (l := rfs c.refs) (by kernel_rfl) rfl rfl fun hm => ?_
 rw [rfs_len] at hm
 unfold maxLen at hm
 let X : Nat → St := fun i => at_ fnm [(2, .lp 0 0), (3, .lp 1 0), (5, ni i)] [.bx 37 (dC c), .bx 52 (nm p)]
 refine pf (by kernel_rfl) (.to mo_ [] [2, 3, 5] [0, 1] 2 [] (td' := lp fnm 0) (σ' := X 0) ?_ (by kernel_rfl))
 refine Gd.loop X (fun i => i ≤ c.refs.length ∧ ∀ t, t < i → c.refs.getD t (0, 0) ≠ p) (fun i => c.refs.length - i) ?_ 0 ⟨Nat.zero_le _, fun t h => absurd h (Nat.not_lt_zero t)⟩
 intro i ⟨hi, hI⟩ ih
 by_cases h : i < c.refs.length
 · have hlt : decide ((i : Int) < ((rfs c.refs).length : Int)) = true := decide_eq_true (by rw [rfs_len]; omega)
   have e := el_n h
   have hmem : c.refs.getD i (0, 0) ∈ c.refs := by rw [List.getD_eq_getElem?_getD, List.getElem?_eq_getElem h]; exact List.getElem_mem _
   have yes : c.refs.getD i (0, 0) = p → (c.refs.any fun q => decide (p = q)) = true := fun e => List.any_eq_true.2 ⟨_, hmem, decide_eq_true e.symm⟩
   have next : c.refs.getD i (0, 0) ≠ p → Gd PP 129 (bo (c.refs.any fun q => decide (p = q))) (lp fnm 0) (X (i + 1)) := fun hne => ih (i + 1) ⟨h, fun t ht => by
     by_cases e : t = i
     · subst e; exact hne
     · exact hI t (by omega)⟩ (by omega)
   generalize c.refs.getD i (0, 0) = q at e yes next
   cases h1 : (q.1 == p.1) with
   | false => exact .to mo_ [] [2, 3, 5] [0, 1] 2 [ye hlt, .sel _ _ _ e, na (t := q.1 == p.1) h1, nf, inc 12 i (by omega)] (next fun e => by rw [e] at h1; simp at h1) (by kernel_rfl)
   | true =>
    cases h2 : (q.2 == p.2) with
    | false => exact .to mo_ [] [2, 3, 5] [0, 1] 2 [ye hlt, .sel _ _ _ e, ye (t := q.1 == p.1) h1, .sel _ _ _ e, na (t := q.2 == p.2) h2, inc 12 i (by omega)] (next fun e => by rw [e] at h2; simp at h2) (by kernel_rfl)
    | true =>
     rw [yes (Prod.ext (by simpa using h1) (by simpa using h2))]
     exact fi [ye hlt, .sel _ _ _ e, ye (t := q.1 == p.1) h1, .sel _ _ _ e, ye (t := q.2 == p.2) h2] (by kernel_rfl) (by kernel_rfl)
 · rw [show (c.refs.any fun q => decide (p = q)) = false from List.any_eq_false.2 fun q hq => by
    obtain ⟨t, ht⟩ := List.getElem?_of_mem hq
    have hl := (List.getElem?_eq_some_iff.1 ht).1
    have := hI t (by omega)
    rw [List.getD_eq_getElem?_getD, ht] at this
    simp at this
    simpa using fun e => this e.symm]
   exact fi [na (t := decide ((i : Int) < ((rfs c.refs).length : Int))) (decide_eq_false (by rw [rfs_len]; omega))] (by kernel_rfl) (by kernel_rfl)
noncomputable abbrev fbv : Func := fnOf PP 63
/-- Is claim i believed? -/
def bvB (L : List CM) (i : Nat) : Bool := (believedL L).getD i false
theorem e_believes (hL : L.length ≤ 1000) : ∀ (r a : Nat), a < r → a < L.length → Pure PP 63 [.sl (L.map dC), ni (od L a : Nat)] (bo (bvB L (od L a)))
 | 0, a, h, _ => absurd h (Nat.not_lt_zero a)
 | r + 1, a, har, ha => by
  have hrec := fun b hb hbl => e_believes hL r b hb hbl
  have hfix := believed_fix ha
  have hi := od_lt ha
  generalize hI : od L a = i at hfix hi
  have ei := elC hi
  let X : Nat → St := fun k => at_ fbv [(0, .sl (L.map dC)), (1, ni i), (5, ni k)] []
  refine pf (by kernel_rfl) (.to mo_ [] [0, 1, 5] [] 0 [] (td' := lp fbv 0) (σ' := X 0) ?_ (by kernel_rfl))
  refine Gd.loop X (fun k => k ≤ L.length ∧ ∀ t, t < k → (rfB L i t && bvB L t) = false) (fun k => L.length - k) ?_ 0 ⟨Nat.zero_le _, fun t h => absurd h (Nat.not_lt_zero t)⟩
  intro k ⟨hk, hT⟩ ih
  by_cases h : k < L.length
  · have ek := elC h
    have next : (rfB L i k && bvB L k) = false → Gd PP 63 (bo (bvB L i)) (lp fbv 0) (X (k + 1)) := fun hne => ih (k + 1) ⟨h, fun t ht => by
      by_cases e : t = k
      · subst e; exact hne
      · exact hT t (by omega)⟩ (by omega)
    have stop : (rfB L i k && bvB L k) = true → bvB L i = false := fun hb => by
      unfold bvB
      rw [hfix, List.any_eq_true.2 ⟨k, List.mem_range.2 h, hb⟩]; rfl
    have hcall : befB (L.getD i c0) (L.getD k c0) = true → Pure PP 63 [.sl (L.map dC), ni (k : Int)] (bo (bvB L k)) := fun hb => by
      obtain ⟨b, hbl, hbk⟩ := od_ex h
      have hba : b < a := od_after ha hbl (by rw [hI, hbk]; exact hb)
      have := hrec b (by omega) hbl
      rw [hbk] at this
      exact this
    have hrf : rfB L i k = ((L.getD k c0).kind == 3 && befB (L.getD i c0) (L.getD k c0) && ((L.getD k c0).refs.any fun q => decide ((L.getD i c0).nm = q))) := rfl
    generalize L.getD i c0 = c at ei hrf hcall
    generalize L.getD k c0 = d at ek hrf hcall
    let F : List F_ := [ye (t := ltS L k) (ltS_t h), .sel _ _ _ ek]
    cases h1 : (d.kind == 3) with
    | false =>
     rw [h1] at hrf
     exact .to mo_ [] [0, 1, 5] [] 0 (F ++ [na (t := d.kind == 3) h1, nf, nf, nf, inc 11 k (by omega)]) (next (by rw [hrf]; rfl)) (by kernel_rfl)
    | true =>
     have b6 := e_before6 c d
     cases h2 : befB c d with
     | false =>
      rw [h2] at b6
      rw [h1, h2] at hrf
      exact .to mo_ [] [0, 1, 5] [] 0 (F ++ [ye (t := d.kind == 3) h1, .sel _ _ _ ei, .sel _ _ _ ek, cl b6, nf, nf, nf, inc 11 k (by omega)]) (next (by rw [hrf]; rfl)) (by kernel_rfl)
     | true =>
      rw [h2] at b6
      have hn := e_names d c.nm
      have hc := hcall h2
      rw [h1, h2] at hrf
      cases h3 : (d.refs.any fun q => decide (c.nm = q)) with
      | false =>
       rw [h3] at hn hrf
       exact .to mo_ [] [0, 1, 5] [] 0 (F ++ [ye (t := d.kind == 3) h1, .sel _ _ _ ei, .sel _ _ _ ek, cl b6, yt, .sel _ _ _ ek, .sel _ _ _ ei, .sel _ _ _ ei, cl hn, nf, nf, inc 11 k (by omega)]) (next (by rw [hrf]; rfl)) (by kernel_rfl)
      | true =>
       rw [h3] at hn hrf
       cases h4 : bvB L k with
       | false =>
        rw [h4] at hc
        exact .to mo_ [] [0, 1, 5] [] 0 (F ++ [ye (t := d.kind == 3) h1, .sel _ _ _ ei, .sel _ _ _ ek, cl b6, yt, .sel _ _ _ ek, .sel _ _ _ ei, .sel _ _ _ ei, cl hn, yt, cl hc, nf, inc 11 k (by omega)]) (next (by rw [h4, Bool.and_false])) (by kernel_rfl)
       | true =>
        rw [h4] at hc
        rw [stop (by rw [hrf, h4]; rfl)]
        exact fi (F ++ [ye (t := d.kind == 3) h1, .sel _ _ _ ei, .sel _ _ _ ek, cl b6, yt, .sel _ _ _ ek, .sel _ _ _ ei, .sel _ _ _ ei, cl hn, yt, cl hc, yt]) (by kernel_rfl) (by kernel_rfl)
  · have hb : bvB L i = true := by
     unfold bvB
     rw [hfix, List.any_eq_false.2 fun t ht => by
      have := hT t (by have := List.mem_range.1 ht; omega)
      unfold bvB at this
      rw [this]
      exact Bool.false_ne_true]
     rfl
    rw [hb]
    exact fi [na (t := ltS L k) (ltS_f h)] (by kernel_rfl) (by kernel_rfl)
end
end Go.Proofs.YtmhliomemdhmiaaGreatDoor.E.Ca
namespace Go.Proofs.YtmhliomemdhmiaaGreatDoor.E.Ca
open Go.RowKit
set_option linter.unusedVariables false
set_option linter.unusedSimpArgs false
section
variable {L C : List CM} {i k : Nat} {l : List Int} {turn : Int}
def pre6 (L : List CM) (i : Nat) : List Bool := (List.range i).map (bvB L)
theorem pre6_succ (L : List CM) (i : Nat) : pre6 L i ++ [bvB L i] = pre6 L (i + 1) := by unfold pre6; rw [List.range_succ, List.map_append]; rfl
theorem pre6_all (L : List CM) : pre6 L L.length = believedL L := by
 unfold pre6
 apply List.ext_getElem?
 intro q
 have hl := belF_len L L.length
 by_cases hq : q < L.length
 · rw [List.getElem?_map, List.getElem?_range hq]
   show some (bvB L q) = _
   unfold bvB believedL
   rw [List.getD_eq_getElem?_getD, List.getElem?_eq_getElem (by omega)]; rfl
 · rw [List.getElem?_eq_none (by simp; omega), List.getElem?_eq_none (by unfold believedL; omega)]
theorem bV_app (a b : List Bool) : bV a ++ bV b = bV (a ++ b) := List.map_append.symm
noncomputable abbrev fb6 : Func := fnOf PP 21
theorem e_believed6 (hL : L.length ≤ 1000) : Pure PP 21 [.sl (L.map dC)] (.o 4 1 (bV (believedL L))) := by
 let X : Nat → St := fun i => at_ fb6 [(0, .sl (L.map dC)), (3, .ow 0), (4, ni i)] [.rw 4 1 (bV (pre6 L i))]
 refine pf (by kernel_rfl) (.to mo_ [.ow 3 (.rw 4 1 [])] [0, 3, 4] [0] 1 [] (td' := lp fb6 0) (σ' := X 0) ?_ (by kernel_rfl))
 refine Gd.loop X (fun i => i ≤ L.length) (fun i => L.length - i) ?_ 0 (Nat.zero_le _)
 intro i hi ih
 by_cases h : i < L.length
 · obtain ⟨a, ha, e⟩ := od_ex h
   have hb := e_believes hL (a + 1) a (by omega) ha
   rw [e] at hb
   have hl : (pre6 L i).length = i := by simp [pre6]
   exact .to mo_ [.mv 0 2] [0, 3, 4] [0] 1 [ye (t := ltS L i) (ltS_t h), cl hb, .app (bV (pre6 L i)) (bV [bvB L i]) (bV (pre6 L (i + 1))) 2000 (by rw [bV_app, pre6_succ]) (by simp [bV]) (by simp [bV, pre6]; omega), inc 10 i (by omega)] (ih (i + 1) h (by omega)) (by kernel_rfl)
 · have e : i = L.length := by omega
   subst e
   rw [← pre6_all]
   exact fi [na (t := ltS L L.length) (ltS_f (by omega))] (by kernel_rfl) (by kernel_rfl)
noncomputable abbrev fcb : Func := fnOf PP 4
def liV (A : List (List CM)) : List (List V) := A.map fun C => [.sl (C.map dC)]
noncomputable def XL (turn : Int) (A : List (List CM)) (i : Nat) : St := at_ fcb [(1, ni turn), (5, .sl (liV A)), (6, ni i)] []
noncomputable def YL (turn : Int) (A : List (List CM)) (i : Nat) (T : List CM) : St := at_ fcb [(1, ni turn), (5, .sl (liV A)), (6, ni i), (8, .sl (T.map dC))] []
theorem dget_mem {α : Type} {l : List (List α)} {i : Nat} (h : i < l.length) : l.getD i [] ∈ l := by rw [List.getD_eq_getElem?_getD, List.getElem?_eq_getElem h]; exact List.getElem_mem _
theorem li_at {A : List (List CM)} (h : i < A.length) : (liV A)[i]? = some [.sl ((A.getD i []).map dC)] := by
 unfold liV
 rw [List.getElem?_map, List.getD_eq_getElem?_getD, List.getElem?_eq_getElem h]; rfl
theorem dC_len (C : List CM) : ∀ cs ∈ C.map dC, cs.length = 35 := fun cs h => (dC_ok _ cs h).1
theorem eO2 {f : FuncId} {ds : List V} {b : Bool} {x : Bool} (h : Pure PP f ds (bo x)) (e : x = b) : Pure PP f ds (bo b) := e ▸ h
theorem l_believed (hl : ∀ x ∈ l, W.Is64 x) (ht : W.Is64 turn) : Pure PP 4 [zl l, ni turn] (bo true) := by
 let A : List (List CM) := [someL l, goodL l]
 have hA : ∀ C ∈ A, C.length ≤ 10 := fun C hC => by
  simp only [A, List.mem_cons, List.not_mem_nil, or_false] at hC
  rcases hC with rfl | rfl
  · exact someL_len l
  · exact goodL_len l
 refine pf (by kernel_rfl) (.to mo_ [.fz 5] [1, 5, 6] [] 0 [cl (Pure.ro (e_some hl)), cl (Pure.ro (e_good hl))] (td' := lp fcb 0) (σ' := XL turn A 0) ?_ (by kernel_rfl))
 have hlen : A.length = 2 := rfl
 generalize A = A at hA hlen
 refine Gd.loop (XL turn A) (fun i => i ≤ 2) (fun i => 2 - i) ?_ 0 (Nat.zero_le _)
 intro i hi ih
 by_cases h : i < 2
 · have nx := ih (i + 1) h (by omega)
   have e := li_at (A := A) (i := i) (by omega)
   have hC := hA _ (dget_mem (l := A) (i := i) (by omega))
   generalize A.getD i [] = C at e hC
   have ha := e_around ht C.length
   have hr := rnd_in turn C.length
   obtain ⟨k, hk⟩ := Int.eq_ofNat_of_zero_le hr.1
   rw [hk] at ha
   have hkl : k ≤ C.length := by omega
   have hcl : (C.map dC).length = C.length := List.length_map ..
   let T : List CM := C.drop k ++ C.take k
   have hT : T.length ≤ 10 := by simp [T]; omega
   have bC := e_believed (L := C) (by omega)
   have b6 := e_believed6 (L := C) (by omega)
   have bT := e_believed (L := T) (by omega)
   have bT6 := e_believed6 (L := T) (by omega)
   have lC : (believedL C).length ≤ 1000 := by unfold believedL; rw [belF_len]; omega
   have lT : (believedL T).length ≤ 1000 := by unfold believedL; rw [belF_len]; omega
   have sC := eO2 (e_sameB (believedL C) (believedL C) lC) (b := true) (decide_eq_true rfl)
   have sT := eO2 (e_sameB (believedL T) (believedL T) lT) (b := true) (decide_eq_true rfl)
   have hd : ((C.map dC).take (C.map dC).length).drop k = (C.drop k).map dC := by rw [List.take_length, List.map_drop]
   have htk : ((C.map dC).take k).drop 0 = (C.take k).map dC := by rw [List.map_take]; rfl
   have mid : Gd PP 4 (bo true) (rg fcb 7) (YL turn A i T) := .to mo_ [] [1, 5, 6] [] 0 [.sel _ _ _ e, cl bC, .sel _ _ _ e, cl b6, cl sC, nf, cl bT, cl bT6, cl sT, nf, inc 17 i (by omega)] nx (by kernel_rfl)
   let F : List F_ := [ye (t := decide ((i : Int) < 2)) (decide_eq_true (by omega)), .sel _ _ _ e, .eqv 23 (ni ((C.map dC).length : Int)) (ni (C.length : Int)) (by rw [hcl]), inc 24 C.length (by omega), cl ha, .sel _ _ _ e, .slc (C.map dC) k (C.map dC).length 35 ((C.drop k).map dC) hd ⟨by omega, Nat.le_refl _⟩ (dC_len C)]
   let S : F_ := .slc (C.map dC) 0 k 35 ((C.take k).map dC) htk ⟨Nat.zero_le _, by omega⟩ (dC_len C)
   by_cases h1 : C.drop k = []
   · have d0 : (C.drop k).map dC = [] := by rw [h1]; rfl
     by_cases h2 : C.take k = []
     · have t0 : (C.take k).map dC = [] := by rw [h2]; rfl
       have hT0 : T = [] := by simp [T, h1, h2]
       rw [hT0] at mid
       exact .to mo_ [.fz 8] [1, 5, 6, 8] [] 0 (F ++ [.ape _ d0, .sel _ _ _ e, S, .ape _ t0]) mid (by kernel_rfl)
     · have t0 : 0 < ((C.take k).map dC).length := by rw [List.length_map]; exact List.length_pos_iff.2 h2
       have hT0 : T = C.take k := by simp [T, h1]
       rw [hT0] at mid
       exact .to mo_ [.fz 8] [1, 5, 6, 8] [] 0 (F ++ [.ape _ d0, .sel _ _ _ e, S, .aps [] _ ((C.take k).map dC) 2000 35 rfl t0 (by rw [List.length_map, List.length_take]; omega) (dC_ok _)]) mid (by kernel_rfl)
   · have d0 : 0 < ((C.drop k).map dC).length := by rw [List.length_map]; exact List.length_pos_iff.2 h1
     let P : F_ := .aps [] ((C.drop k).map dC) ((C.drop k).map dC) 2000 35 rfl d0 (by rw [List.length_map, List.length_drop]; omega) (dC_ok _)
     by_cases h2 : C.take k = []
     · have t0 : (C.take k).map dC = [] := by rw [h2]; rfl
       have hT0 : T = C.drop k := by simp [T, h2]
       rw [hT0] at mid
       exact .to mo_ [.fz 8] [1, 5, 6, 8] [] 0 (F ++ [P, .sel _ _ _ e, S, .ape _ t0]) mid (by kernel_rfl)
     · have t0 : 0 < ((C.take k).map dC).length := by rw [List.length_map]; exact List.length_pos_iff.2 h2
       exact .to mo_ [.fz 8] [1, 5, 6, 8] [] 0 (F ++ [P, .sel _ _ _ e, S, .aps ((C.drop k).map dC) ((C.take k).map dC) (T.map dC) 2000 35 (by simp [T]) t0 (by rw [List.length_map]; omega) (dC_ok _)]) mid (by kernel_rfl)
 · exact fi [na (t := decide ((i : Int) < 2)) (decide_eq_false (by omega)), cl e_lives15] (by kernel_rfl) (by kernel_rfl)
end
end Go.Proofs.YtmhliomemdhmiaaGreatDoor.E.Ca
namespace Go.Proofs.YtmhliomemdhmiaaGreatDoor
open Go.RowKit
theorem is64_of {n : Int} (h : (Lit.int .i64 n).wf = true) : W.Is64 n := by
 have := bounds_i64 h
 unfold W.Is64
 omega
end Go.Proofs.YtmhliomemdhmiaaGreatDoor
namespace Go.Proofs.YtmhliomemdhmiaaGreatDoor.E
open Go.RowKit
set_option linter.unusedVariables false
theorem cb_of {w : World} {b o : Nat} {v : Value} (h : w.cell? ⟨b, o, none⟩ = some v) : CB w b := by
 unfold World.cell? at h
 split at h
 · rename_i cs T fr hb
   exact ⟨cs, T, fr, hb⟩
 · cases h
def Rt (X : World → Value → Prop) (w : World) (e : Ending) (w' : World) : Prop := ∃ v, e = .returned v ∧ X w' v ∧ Below w.heap.size w w'
theorem back {P : Program} {f : FuncId} {ds : List V} {d : V} (h : Pure P f ds d) {w : World} {args : Array Value} (ha : Reps w (fun _ => False) no args ds) : Calls P f args w (Rt (fun w v => Rep w (fun _ => False) no v d) w) :=
 (h.2 w (fun _ => False) args (fun _ h => h.elim) ha).mono fun e w' h => h
theorem to_tt {w w' : World} {e : Ending} (h : Rt (fun w v => Rep w (fun _ => False) no v (bo true)) w e w') : e = .returned (.bool true) ∧ Below w.heap.size w w' := by
 obtain ⟨v, rfl, h1, h2⟩ := h
 exact ⟨by rw [Rep.k_inv h1], h2⟩
/-- A law of any arguments. -/
theorem lawG {f : FuncId} {us : List Value} {ds : List V} {w : World} (h : Pure PP f ds (bo true)) (hg : Glo w (fun _ => False)) (hl : us.length = ds.length) (hr : ∀ j, j < ds.length → Rep w (fun _ => False) no (us.getD j undef) (ds.getD j .un)) :
    Calls PP f us.toArray w fun e w' => e = .returned (.bool true) ∧ Below w.heap.size w w' :=
 (back h (reps_of hl hg hr)).mono fun _ _ => to_tt
theorem all2 {p : Nat → Prop} (h0 : p 0) (h1 : p 1) : ∀ j, j < 2 → p j := fun j hj => by
 match j, hj with
 | 0, _ => exact h0
 | 1, _ => exact h1
end Go.Proofs.YtmhliomemdhmiaaGreatDoor.E
