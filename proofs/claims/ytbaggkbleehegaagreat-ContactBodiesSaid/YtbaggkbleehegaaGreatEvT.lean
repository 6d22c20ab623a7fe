/-
 RULES TOLD FROM OUTSIDE: a call to which objects are lent, and which of them it turns; a row in a box by its length; nil checks.
-/
import Derived.Test.YtbaggkbleehegaaGreatEvP
import Derived.Test.YtbaggkbleehegaaGreatEuF
namespace Go.Proofs.YtbaggkbleehegaaGreat.E.Ct
open Go.RowKit
set_option linter.unusedVariables false
set_option linter.unusedSimpArgs false
def tq (p : Int × Int) : Nat → Int × Int
 | 0 => p
 | k + 1 => (-(tq p k).2, (tq p k).1)
def Sm_ (b : Int) (p : Int × Int) : Prop := -b ≤ p.1 ∧ p.1 ≤ b ∧ -b ≤ p.2 ∧ p.2 ≤ b
theorem tq_sm {p : Int × Int} {b : Int} (h : Sm_ b p) : ∀ k, Sm_ b (tq p k)
 | 0 => h
 | k + 1 => by
  have ih := tq_sm h k
  unfold Sm_ at ih ⊢
  simp only [tq]
  omega
noncomputable abbrev ftq : Func := fnOf PP 104
theorem e_turned {p : Int × Int} (h : Sm_ 1000 p) (q : Nat) (hq : q ≤ 100) : Pure PP 104 [.ag [ni p.1, ni p.2], ni q] (.ag [ni (tq p q).1, ni (tq p q).2]) := by
 let X : Nat → St := fun k => at_ ftq [(1, ni (q : Int)), (2, .lp 0 0), (4, .lp 1 0), (5, ni (k : Int))] [.bx 145 [ni (tq p k).1, ni (tq p k).2], .bx 145 [ni 0, ni 0]]
 refine pf (by kernel_rfl) (.to mo_ [] [1, 2, 4, 5] [0, 1] 2 [] (td' := lp ftq 0) (σ' := X 0) ?_ (by kernel_rfl))
 refine Gd.loop X (fun k => k ≤ q) (fun k => q - k) ?_ 0 (Nat.zero_le _)
 intro k hk ih
 by_cases g : k < q
 · have hs := tq_sm h k
   unfold Sm_ at hs
   exact .to mo_ [] [1, 2, 4, 5] [0, 1] 2 [ye (t := decide ((k : Int) < (q : Int))) (decide_eq_true (by omega)), wq 13 (0 - (tq p k).2) (-(tq p k).2) (by omega), inc 10 k (by omega)] (ih (k + 1) g (by omega)) (by kernel_rfl)
 · have e : k = q := by omega
   subst e
   exact fi [na (t := decide ((k : Int) < (k : Int))) (decide_eq_false (by omega))] (by kernel_rfl) (by kernel_rfl)
end Go.Proofs.YtbaggkbleehegaaGreat.E.Ct
namespace Go.Proofs.YtbaggkbleehegaaGreat.E.Ct
open Go.RowKit
set_option linter.unusedVariables false
set_option linter.unusedSimpArgs false
def ro (R : List Nat) (k : Nat) : Nat := if h : R.getD k k < k then ro R (R.getD k k) else k
termination_by k
/-- The way to the root, made short. -/
def fnd (R : List Nat) (k : Nat) : List Nat × Nat := if h : R.getD k k < k then ((fnd R (R.getD k k)).1.set k (fnd R (R.getD k k)).2, (fnd R (R.getD k k)).2) else (R, k)
termination_by k
structure Dn (R : List Nat) : Prop where
 le : ∀ i, R.getD i i ≤ i
section
variable {R : List Nat} {j k a b : Nat}
theorem getD_set (R : List Nat) (k x i d : Nat) : (R.set k x).getD i d = if i = k ∧ k < R.length then x else R.getD i d := by
 rw [List.getD_eq_getElem?_getD, List.getElem?_set, List.getD_eq_getElem?_getD]
 by_cases h : k = i
 · subst h
   by_cases hk : k < R.length
   · simp [hk]
   · simp [hk]
 · rw [if_neg h, if_neg (by omega)]
theorem ro_lt (h : R.getD k k < k) : ro R k = ro R (R.getD k k) := by rw [ro, dif_pos h]
theorem ro_ge (h : ¬ R.getD k k < k) : ro R k = k := by rw [ro, dif_neg h]
theorem fnd_lt (h : R.getD k k < k) : fnd R k = ((fnd R (R.getD k k)).1.set k (fnd R (R.getD k k)).2, (fnd R (R.getD k k)).2) := by rw [fnd, dif_pos h]
theorem fnd_ge (h : ¬ R.getD k k < k) : fnd R k = (R, k) := by rw [fnd, dif_neg h]
theorem fnd_2 (R : List Nat) (k : Nat) : (fnd R k).2 = ro R k := by
 induction k using Nat.strongRecOn with
 | _ k ih =>
  by_cases h : R.getD k k < k
  · rw [fnd_lt h, ro_lt h]; exact ih _ h
  · rw [fnd_ge h, ro_ge h]
theorem ro_le (R : List Nat) (k : Nat) : ro R k ≤ k := by
 induction k using Nat.strongRecOn with
 | _ k ih =>
  by_cases h : R.getD k k < k
  · rw [ro_lt h]; have := ih _ h; omega
  · rw [ro_ge h]; omega
theorem ro_root (hD : Dn R) (k : Nat) : R.getD (ro R k) (ro R k) = ro R k := by
 induction k using Nat.strongRecOn with
 | _ k ih =>
  by_cases h : R.getD k k < k
  · rw [ro_lt h]; exact ih _ h
  · rw [ro_ge h]; have := hD.le k; omega
theorem ro_of (h : R.getD k k = k) : ro R k = k := ro_ge (by omega)
theorem ro_ro (hD : Dn R) (k : Nat) : ro R (ro R k) = ro R k := ro_of (ro_root hD k)
theorem Dn.set (hD : Dn R) (h : b ≤ a) : Dn (R.set a b) := ⟨fun i => by
 rw [getD_set]
 split
 · omega
 · exact hD.le i⟩
/-- A way made short. -/
theorem ro_set (hD : Dn R) (k j : Nat) : ro (R.set k (ro R k)) j = ro R j := by
 induction j using Nat.strongRecOn with
 | _ j ih =>
  have hg := getD_set R k (ro R k) j j
  by_cases e : j = k ∧ k < R.length
  · rw [if_pos e] at hg
    obtain ⟨rfl, hk⟩ := e
    by_cases h : ro R j < j
    · rw [ro_lt (by rw [hg]; exact h), hg, ih _ h, ro_ro hD]
    · have h1 := ro_le R j
      rw [ro_ge (by rw [hg]; exact h)]
      omega
  · rw [if_neg e] at hg
    by_cases h : R.getD j j < j
    · rw [ro_lt (by rw [hg]; exact h), hg, ih _ h, ro_lt h]
    · rw [ro_ge (by rw [hg]; exact h), ro_ge h]
structure Sp (R R' : List Nat) : Prop where
 dn : Dn R'
 len : R'.length = R.length
 ro : ∀ j, ro R' j = ro R j
theorem fnd_sp (hD : Dn R) (k : Nat) : Sp R (fnd R k).1 := by
 induction k using Nat.strongRecOn with
 | _ k ih =>
  by_cases h : R.getD k k < k
  · have s := ih _ h
    rw [fnd_lt h]
    have e : (fnd R (R.getD k k)).2 = Ct.ro (fnd R (R.getD k k)).1 k := by rw [fnd_2, s.ro, ro_lt h]
    refine ⟨s.dn.set (by rw [e]; exact ro_le _ _), by rw [List.length_set]; exact s.len, fun j => ?_⟩
    rw [e, ro_set s.dn, s.ro]
  · rw [fnd_ge h]
    exact ⟨hD, rfl, fun j => rfl⟩
theorem ro_uni (hD : Dn R) (ha : R.getD a a = a) (hb : R.getD b b = b) (h : b ≤ a) (hl : a < R.length) (j : Nat) : ro (R.set a b) j = if ro R j = a then b else ro R j := by
 induction j using Nat.strongRecOn with
 | _ j ih =>
  have hg := getD_set R a b j j
  have hbb : ro R b = b := ro_of hb
  by_cases e : j = a ∧ a < R.length
  · rw [if_pos e] at hg
    obtain ⟨rfl, _⟩ := e
    rw [if_pos (ro_of ha)]
    by_cases h2 : b < j
    · rw [ro_lt (by rw [hg]; exact h2), hg, ih _ h2, hbb, if_neg (by omega)]
    · rw [ro_ge (by rw [hg]; exact h2)]; omega
  · rw [if_neg e] at hg
    by_cases h2 : R.getD j j < j
    · rw [ro_lt (by rw [hg]; exact h2), hg, ih _ h2, ← ro_lt h2]
    · rw [ro_ge (by rw [hg]; exact h2), ro_ge h2, if_neg (by omega)]
end
/-- Two classes become one. -/
def mrg (ρ : Nat → Nat) (e : Nat × Nat) : Nat → Nat := fun j => if ρ j = max (ρ e.1) (ρ e.2) then min (ρ e.1) (ρ e.2) else ρ j
def cls (E : List (Nat × Nat)) : Nat → Nat := E.foldl mrg id
theorem cls_app (E : List (Nat × Nat)) (e : Nat × Nat) : cls (E ++ [e]) = mrg (cls E) e := by unfold cls; rw [List.foldl_append]; rfl
/-- A forest that stands for classes. -/
structure Fo (n : Nat) (ρ : Nat → Nat) (R : List Nat) : Prop where
 dn : Dn R
 len : R.length = n
 ro : ∀ j, j < n → ro R j = ρ j
section
variable {R : List Nat} {n j k a b : Nat} {ρ : Nat → Nat} {p : Nat → Bool}
theorem Fo.fnd (h : Fo n ρ R) (k : Nat) : Fo n ρ (Ct.fnd R k).1 := by
 have s := fnd_sp h.dn k
 exact ⟨s.dn, s.len.trans h.len, fun j hj => (s.ro j).trans (h.ro j hj)⟩
theorem Fo.two (h : Fo n ρ R) (hk : k < n) : (Ct.fnd R k).2 = ρ k := by rw [fnd_2, h.ro k hk]
theorem Fo.le (h : Fo n ρ R) (hk : k < n) : ρ k ≤ k := by rw [← h.ro k hk]; exact ro_le R k
theorem Fo.idem (h : Fo n ρ R) (hk : k < n) : ρ (ρ k) = ρ k := by
 have h1 := h.le hk
 have h2 := ro_ro h.dn k
 rw [h.ro k hk, h.ro (ρ k) (by omega)] at h2
 exact h2
theorem Fo.uni (h : Fo n ρ R) (ha : a < n) (hb : b < n) : Fo n (mrg ρ (a, b)) (R.set (max (ρ a) (ρ b)) (min (ρ a) (ρ b))) := by
 have h1 := h.le ha
 have h2 := h.le hb
 have r1 := ro_root h.dn a
 have r2 := ro_root h.dn b
 rw [h.ro a ha] at r1
 rw [h.ro b hb] at r2
 refine ⟨h.dn.set (by omega), by rw [List.length_set]; exact h.len, fun j hj => ?_⟩
 have hu := ro_uni (a := max (ρ a) (ρ b)) (b := min (ρ a) (ρ b)) h.dn (by rcases Nat.le_total (ρ a) (ρ b) with g | g <;> simp only [Nat.max_eq_right, Nat.max_eq_left, g] <;> assumption) (by rcases Nat.le_total (ρ a) (ρ b) with g | g <;> simp only [Nat.min_eq_right, Nat.min_eq_left, g] <;> assumption) (by omega) (by rw [h.len]; omega) j
 rw [h.ro j hj] at hu
 exact hu
/-- What is in the set is with what is in the set. -/
theorem mrg_in (h : ∀ j, p j = true → p (ρ j) = true) (ha : p a = true) (hb : p b = true) : ∀ j, p j = true → p (mrg ρ (a, b) j) = true := fun j hj => by
 unfold mrg
 split
 · rcases Nat.le_total (ρ a) (ρ b) with g | g
   · simp only [Nat.min_eq_left g]; exact h a ha
   · simp only [Nat.min_eq_right g]; exact h b hb
 · exact h j hj
end
/-- The least of a class, by rounds. -/
def mp1 (o : List Nat) (e : Nat × Nat) : List Nat := (o.set e.1 (min (o.getD e.1 0) (o.getD e.2 0))).set e.2 (min (o.getD e.1 0) (o.getD e.2 0))
def mpR (E : List (Nat × Nat)) (o : List Nat) : Nat → List Nat
 | 0 => o
 | r + 1 => E.foldl mp1 (mpR E o r)
def mp (n : Nat) (E : List (Nat × Nat)) : List Nat := mpR E (List.range n) n
def listsTo (l : List (Nat × Nat)) : Nat → List (List (Nat × Nat))
 | 0 => [[]]
 | m + 1 => [] :: l.flatMap fun x => (listsTo l m).map (x :: ·)
theorem mem_listsTo {l : List (Nat × Nat)} : ∀ (m : Nat) {E : List (Nat × Nat)}, E.length ≤ m → (∀ x ∈ E, x ∈ l) → E ∈ listsTo l m
 | 0, E, h, _ => by
  have : E = [] := List.length_eq_zero_iff.1 (by omega)
  subst this
  exact List.mem_singleton.2 rfl
 | m + 1, [], _, _ => List.mem_cons_self ..
 | m + 1, x :: E, h, hx => by
  refine List.mem_cons_of_mem _ (List.mem_flatMap.2 ⟨x, hx x (List.mem_cons_self ..), List.mem_map.2 ⟨E, ?_, rfl⟩⟩)
  exact mem_listsTo m (by simpa using h) fun y hy => hx y (List.mem_cons_of_mem _ hy)
def prs_ (n : Nat) : List (Nat × Nat) := (List.range n).flatMap fun i => (List.range n).map fun j => (i, j)
theorem mem_prs {n i j : Nat} (hi : i < n) (hj : j < n) : (i, j) ∈ prs_ n := List.mem_flatMap.2 ⟨i, List.mem_range.2 hi, List.mem_map.2 ⟨j, List.mem_range.2 hj, rfl⟩⟩
def mpGood (n : Nat) (E : List (Nat × Nat)) : Bool := (List.range n).all fun k => Nat.beq ((mp n E).getD k 0) (cls E k)
theorem mp_all : ((List.range 4).all fun n => (listsTo (prs_ n) 3).all (mpGood n)) = true := by decide +kernel
theorem mp_cls {n k : Nat} {E : List (Nat × Nat)} (hn : n ≤ 3) (hE : E.length ≤ 3) (he : ∀ x ∈ E, x.1 < n ∧ x.2 < n) (hk : k < n) : (mp n E).getD k 0 = cls E k := by
 have h := List.all_eq_true.1 (List.all_eq_true.1 mp_all n (List.mem_range.2 (by omega))) E (mem_listsTo 3 hE fun x hx => mem_prs (he x hx).1 (he x hx).2)
 exact Nat.eq_of_beq_eq_true (List.all_eq_true.1 h k (List.mem_range.2 hk))
end Go.Proofs.YtbaggkbleehegaaGreat.E.Ct
namespace Go.Proofs.YtbaggkbleehegaaGreat.E.Ct
open Go.RowKit
set_option linter.unusedVariables false
set_option linter.unusedSimpArgs false
def cenV (p : Pi) (pl : Pl) : Vc := vput pl (Pg.center p.rimV)
def wt (s : Sc) (k : Nat) : Rat := (s.pi k).light + (s.pi k).heavy
def cw (s : Sc) (k : Nat) : Vc := vsca (cenV (s.pi k) (s.pl k)) (wt s k)
/-- What is added up for a body. -/
structure Ac where
 c : Vc
 light : Rat
 heavy : Rat
 str : Rat
 w : Rat
def ac0 (s : Sc) (j : Nat) : Ac := ⟨(0, 0), 0, 0, (s.pi j).str, 0⟩
def acS (s : Sc) (x : Ac) (k : Nat) : Ac := ⟨vadd x.c (cw s k), x.light + (s.pi k).light, x.heavy + (s.pi k).heavy, lsr x.str (s.pi k).str, x.w + wt s k⟩
def acc (s : Sc) (rt : Nat → Int) (j : Nat) : Nat → Ac
 | 0 => ac0 s j
 | k + 1 => if rt k = (j : Int) then acS s (acc s rt j k) k else acc s rt j k
def rts (rt : Nat → Int) (k : Nat) : List Nat := (List.range k).filter fun j => decide (rt j = (j : Int))
def pos (rt : Nat → Int) (j : Nat) : Nat := (rts rt j).length
def owF (rt : Nat → Int) (i : Nat) : Int := if rt i < 0 then -1 else (pos rt (rt i).toNat : Int)
def Ac.bo (x : Ac) : Bo := ⟨x.c, x.light, x.heavy, x.str⟩
def Ac.fin (x : Ac) : Bo := ⟨(x.c.1 / x.w, x.c.2 / x.w), x.light, x.heavy, x.str⟩
def rtF (p : Nat → Bool) (ρ : Nat → Nat) (k : Nat) : Int := if p k = true then (ρ k : Int) else -1
section
variable {s : Sc} {rt : Nat → Int} {j k i b : Nat} {r : Nat}
theorem rts_succ (rt : Nat → Int) (k : Nat) : rts rt (k + 1) = rts rt k ++ (if rt k = (k : Int) then [k] else []) := by
 unfold rts
 rw [List.range_succ, List.filter_append]
 congr 1
 by_cases h : rt k = (k : Int) <;> simp [h]
theorem mem_rts : j ∈ rts rt k ↔ j < k ∧ rt j = (j : Int) := by unfold rts; simp
theorem rts_len (rt : Nat → Int) (k : Nat) : (rts rt k).length ≤ k := by
 have := List.length_filter_le (fun j => decide (rt j = (j : Int))) (List.range k)
 rw [List.length_range] at this
 exact this
theorem rts_at (hr : rt r = (r : Int)) : ∀ k, r < k → (rts rt k)[pos rt r]? = some r
 | 0, h => by omega
 | k + 1, h => by
  rw [rts_succ]
  by_cases e : r = k
  · subst e
    rw [if_pos hr]
    unfold pos
    rw [List.getElem?_append_right (Nat.le_refl _), Nat.sub_self]
    rfl
  · have ih := rts_at hr k (by omega)
    rw [List.getElem?_append_left (List.getElem?_eq_some_iff.1 ih).1]
    exact ih
theorem rts_inj {i i' : Nat} (h : (rts rt k)[i]? = some r) (h' : (rts rt k)[i']? = some r) : i = i' := by
 have hp : (rts rt k).Pairwise (· < ·) := List.Pairwise.filter _ List.pairwise_lt_range
 rw [List.pairwise_iff_getElem] at hp
 obtain ⟨a1, a2⟩ := List.getElem?_eq_some_iff.1 h
 obtain ⟨b1, b2⟩ := List.getElem?_eq_some_iff.1 h'
 rcases Nat.lt_trichotomy i i' with g | g | g
 · have := hp i i' a1 b1 g; omega
 · exact g
 · have := hp i' i b1 a1 g; omega
/-- One of the roots' words turns. -/
theorem map_set {α : Type} {f g : Nat → α} (hr : rt r = (r : Int)) (h : r < k) (hg : ∀ j, j ≠ r → g j = f j) : ((rts rt k).map f).set (pos rt r) (g r) = (rts rt k).map g := by
 apply List.ext_getElem?
 intro i
 have ha := rts_at hr k h
 have hl := (List.getElem?_eq_some_iff.1 ha).1
 rw [List.getElem?_set, List.getElem?_map, List.getElem?_map, List.length_map]
 by_cases e : pos rt r = i
 · subst e
   rw [if_pos rfl, if_pos hl, ha]
   rfl
 · rw [if_neg e]
   cases hx : (rts rt k)[i]? with
   | none => rfl
   | some j =>
    have : j ≠ r := fun e2 => e (by subst e2; exact rts_inj ha hx)
    simp only [Option.map_some, hg j this]
theorem acc_ne (h : rt k ≠ (j : Int)) : acc s rt j (k + 1) = acc s rt j k := if_neg h
theorem acc_eq (h : rt k = (j : Int)) : acc s rt j (k + 1) = acS s (acc s rt j k) k := if_pos h
/-- Nothing is with a root before it. -/
theorem acc_0 (hle : ∀ i, i < k → rt i ≤ (i : Int)) : ∀ m, m ≤ k → acc s rt k m = ac0 s k
 | 0, _ => rfl
 | m + 1, h => by
  rw [acc_ne (by have := hle m (by omega); omega)]
  exact acc_0 hle m (by omega)
theorem lsr_self (a : Rat) : lsr a a = a := by unfold lsr; split <;> rfl
theorem acc_new (hle : ∀ i, i < k → rt i ≤ (i : Int)) (h : rt k = (k : Int)) : acc s rt k (k + 1) = ⟨cw s k, (s.pi k).light, (s.pi k).heavy, (s.pi k).str, wt s k⟩ := by
 rw [acc_eq h, acc_0 hle k (Nat.le_refl _)]
 unfold acS ac0 vadd
 simp only [Rat.zero_add, lsr_self]
/-- A step with a new root. -/
theorem map_new {α : Type} {f g : Nat → α} (h : rt k = (k : Int)) (hg : ∀ j, j < k → g j = f j) : (rts rt k).map f ++ [g k] = (rts rt (k + 1)).map g := by
 rw [rts_succ, if_pos h, List.map_append]
 congr 1
 exact List.map_congr_left fun j hj => (hg j (mem_rts.1 hj).1).symm
theorem map_old {α : Type} {f g : Nat → α} (h : rt k ≠ (k : Int)) (hg : ∀ j, j < k → g j = f j) : (rts rt (k + 1)).map g = (rts rt k).map f := by
 rw [rts_succ, if_neg h, List.append_nil]
 exact List.map_congr_left fun j hj => hg j (mem_rts.1 hj).1
structure PiB (s : Sc) (M k : Nat) : Prop where
 c : Bv M (cw s k)
 light : Bq M (s.pi k).light
 heavy : Bq M (s.pi k).heavy
 str : Bq M (s.pi k).str
 w : Bq M (wt s k)
structure AcB (x : Ac) (K M : Nat) : Prop where
 c : Bv K x.c
 light : Bq K x.light
 heavy : Bq K x.heavy
 str : Bq M x.str
 w : Bq K x.w
theorem lsr_bits {a b : Rat} (h : Bq k a) (g : Bq k b) : Bq k (lsr a b) := by unfold lsr; split <;> assumption
theorem acc_bits {M : Nat} (hj : Bq M (s.pi j).str) : ∀ k, (∀ i, i < k → PiB s M i) → AcB (acc s rt j k) ((M + 1) * k + 1) M
 | 0, _ => ⟨⟨Bq.zero (by omega), Bq.zero (by omega)⟩, Bq.zero (by omega), Bq.zero (by omega), hj, Bq.zero (by omega)⟩
 | k + 1, h => by
  have ih := acc_bits hj k fun i hi => h i (by omega)
  have hk := h k (by omega)
  have e : (M + 1) * (k + 1) + 1 = ((M + 1) * k + 1) + M + 1 := by rw [Nat.mul_succ]; omega
  rw [e]
  unfold acc
  split
  · exact ⟨ih.c.add hk.c, ih.light.add hk.light, ih.heavy.add hk.heavy, lsr_bits ih.str hk.str, ih.w.add hk.w⟩
  · exact ⟨ih.c.mono (by omega), ih.light.mono (by omega), ih.heavy.mono (by omega), ih.str, ih.w.mono (by omega)⟩
theorem cen_bits {k : Nat} {L : List Vc} (hb : ∀ a ∈ L, Bv k a) (hn : L.length ≤ 100) : Bv ((6 * k + 3) * 100 + 1 + (2 + ((4 * k + 2) * 100 + 1))) (Pg.center L) := by
 have h1 := pre_bits (n := L.length) (fun a b ha hb => (fx_bits (k := k) ha hb).1) rfl hb (List.finRange _) (by rw [List.length_finRange]; exact hn)
 have h2 := pre_bits (n := L.length) (fun a b ha hb => (fx_bits (k := k) ha hb).2) rfl hb (List.finRange _) (by rw [List.length_finRange]; exact hn)
 have h3 := pre_bits (n := L.length) (fun a b ha hb => crs_bits (k := k) ha hb) rfl hb (List.finRange _) (by rw [List.length_finRange]; exact hn)
 rw [Pg.at_all L _ rfl] at h1 h2 h3
 exact Bv.sca (v := (Pg.sum Pg.fx (Pg.sides L), Pg.sum Pg.fy (Pg.sides L))) ⟨h1, h2⟩ (third_bits.div h3 (by omega))
/-- The bits of pieces. -/
def piM (b : Nat) : Nat := 3000 * b + 5000
theorem Pi.Good.cen {p : Pi} {pl : Pl} (h : p.Good pl b) : Bv (1010 * b + 1000) (Pg.center p.rimV) := (cen_bits h.r (by have := h.n; unfold Pi.rimV; rw [List.length_map]; omega)).mono (by omega)
theorem Pi.Good.cenV {p : Pi} {pl : Pl} (h : p.Good pl b) : Bv (2024 * b + 2002) (cenV p pl) := ((h.t.rot h.cen).add h.a).mono (by omega)
theorem Sc.Ok.pib (h : s.Ok b) (hk : k < s.L.length) : PiB s (piM b) k := by
 have g := h.g k hk
 have hw : Bq (b + b + 1) (wt s k) := g.ok.light.add g.ok.heavy
 unfold piM
 exact ⟨(g.cenV.sca hw).mono (by omega), g.ok.light.mono (by omega), g.ok.heavy.mono (by omega), g.ok.str.mono (by omega), hw.mono (by omega)⟩
end
section
variable {p : Pi} {pl : Pl} {b : Nat}
theorem e_pcen (h : p.Good pl b) : Pure PP 42 [.ag p.v, .ag (dPl pl)] (.ag (dV (cenV p pl))) := by
 have hk := h.k
 have hn : p.rimV.length ≤ 100 := by have := h.n; unfold Pi.rimV; rw [List.length_map]; omega
 exact tr [cl (e_rim h.ok), cl (e_center h.r hn h.k), cl (e_put h.t h.a h.cen (by omega))] (by kernel_rfl)
theorem e_pcen12 (h : p.Good pl b) : Pure PP 85 [.ag p.v, .ag (dPl pl)] (.ag (dV (cenV p pl))) := by
 have hk := h.k
 have hn : p.rimV.length ≤ 100 := by have := h.n; unfold Pi.rimV; rw [List.length_map]; omega
 exact tr [cl (e_rim12 h.ok), cl (e_center6 h.r hn h.k), cl (e_put5 h.t h.a h.cen (by omega))] (by kernel_rfl)
end
end Go.Proofs.YtbaggkbleehegaaGreat.E.Ct
namespace Go.Proofs.YtbaggkbleehegaaGreat.E
open Go.RowKit
set_option linter.unusedVariables false
set_option linter.unusedSimpArgs false
theorem renV_id : ∀ (n : Nat) (x : V), renV (fun j => j) n x = x
 | 0, x => rfl
 | n + 1, x => by
  have hm : ∀ l : List V, l.map (renV (fun j => j) n) = l := fun l => by
   rw [show renV (fun j => j) n = id from funext fun y => renV_id n y, List.map_id]
  cases x <;> simp only [renV, hm]
theorem renH_id (x : HO) : renH (fun j => j) x = x := by
 cases x <;> simp only [renH]
 rename_i l
 rw [show renV (fun j => j) 5 = id from funext fun y => renV_id 5 y, List.map_id]
def mkC1 (ts : Array TypeId) (xs : List Operand) : Op := .call ⟨.value (xs.getD 0 (.tmp 0)), #[xs.getD 1 (.tmp 0)], ts⟩
def lrd : List HO → Nat → List (Nat × HO)
 | [], _ => []
 | x :: r, i => (i, x) :: lrd r (i + 1)
theorem lrd_mem : ∀ {l : List HO} {i j : Nat}, j < l.length → (i + j, l.getD j .dead) ∈ lrd l i
 | [], _, _, h => by simp at h
 | x :: r, i, 0, _ => List.mem_cons_self ..
 | x :: r, i, j + 1, h => by
  refine List.mem_cons_of_mem _ ?_
  have := lrd_mem (l := r) (i := i + 1) (j := j) (by simpa using h)
  rw [show i + 1 + j = i + (j + 1) by omega] at this
  exact this
def lendC (hs hs1 : List HO) (ds : List V) (d : V) : Bool := (hs.all HO.own && hs.all (okH fun b => Nat.blt b hs.length)) && (ds.all (okV (fun b => Nat.blt b hs.length) 5) && (hs1.all (okH fun b => Nat.blt b hs1.length) && okV (fun b => Nat.blt b hs1.length) 5 d))
/-- A call to which objects are lent; those that it turns are told. -/
theorem x_lend {P : Program} {f : FuncId} {ts : Array TypeId} {hs hs1 : List HO} {a1 : V} {caps : List V} {d : V} {ws : List (Nat × HO)} (hp : PureT P f hs (a1 :: caps) (.io hs.length hs1 d)) (hl : hs1.length = hs.length) (hc : lendC hs hs1 (a1 :: caps) d = true)
 (hw : ∀ h : Nat → HO, (∀ j, j < hs.length → h j = hs.getD j .dead) → upds h ws = upds h (lws (fun j => j) hs1)) : Ext P (mkC1 ts) [.cl f caps, a1] (lrd hs 0) ws d := by
 intro B M h m w a o xs ho K hxl hr hrd _
 obtain ⟨x0, x1, rfl⟩ := two_of hxl
 have r0 := hr 0 x0 _ rfl rfl
 have r1 := hr 1 x1 _ rfl rfl
 simp only [mkC1, List.getD_cons_zero, List.getD_cons_succ] at ho
 obtain ⟨cs, hce, hcs, hcr⟩ : ∃ cs : Array Value, a.eval x0 = .func (.func f) #[] cs ∧ cs.size = caps.length ∧ ∀ j x, caps[j]? = some x → Rep w (Av M h m) m (cs.getD j undef) x := by
  generalize a.eval x0 = u at r0
  cases r0 with
  | cl _ _ cs _ h1 h2 => exact ⟨cs, rfl, h1, h2⟩
 unfold lendC at hc
 simp only [Bool.and_eq_true, List.all_eq_true] at hc
 obtain ⟨⟨c6, c7⟩, c8, c9, c10⟩ := hc
 have hh : ∀ j, j < hs.length → h j = hs.getD j .dead := fun j hj => by
  have := hrd _ (lrd_mem (i := 0) hj)
  simpa using this
 have hget : ∀ j, j < hs.length → hs.getD j .dead ∈ hs := fun j hj => by
  rw [List.getD_eq_getElem?_getD, List.getElem?_eq_getElem hj]
  exact List.getElem_mem hj
 have L : Lend B M h m w (fun j => j) hs.length hs := ⟨K, rfl, fun j hj => by rw [renH_id]; exact hh j hj, fun j hj => c6 _ (hget j hj), fun j hj => c7 _ (hget j hj), fun i j _ _ e => e⟩
 have hmo : Mo w (Av M h m) no w (Av (Av M (rest h (fun j => j) hs.length) m) (fun b => hs.getD b .dead) (mLent m (fun j => j) hs.length)) no := ⟨Nat.le_refl _, fun _ _ _ => rfl, fun g e => .inl (L.av e), fun _ _ e => e⟩
 have hlent : ∀ b, Nat.blt b hs.length = true → mLent m (fun j => j) hs.length b = m b := fun b hb => if_pos (by simpa using hb)
 have down : ∀ y u, okV (fun b => Nat.blt b hs.length) 5 y = true → Rep w (Av M h m) m u y → Rep w (Av (Av M (rest h (fun j => j) hs.length) m) (fun b => hs.getD b .dead) (mLent m (fun j => j) hs.length)) (mLent m (fun j => j) hs.length) u y := fun y u hy hu => by
  refine ren_down (r := fun j => j) (p := fun b => Nat.blt b hs.length) hlent hmo 5 y u hy ?_
  rw [renV_id]
  exact hu
 have hargs : Reps w (Av (Av M (rest h (fun j => j) hs.length) m) (fun b => hs.getD b .dead) (mLent m (fun j => j) hs.length)) (mLent m (fun j => j) hs.length) (#[a.eval x1] ++ cs) (a1 :: caps) := by
  refine ⟨by simp [hcs]; omega, fun j y hy => ?_, K.gl.mo hmo⟩
  have hy8 := c8 y (List.mem_of_getElem? hy)
  refine down y _ hy8 ?_
  cases j with
  | zero =>
   simp only [List.getElem?_cons_zero, Option.some.injEq] at hy
   subst hy
   rw [Array.getD_eq_getD_getElem?, Array.getElem?_append_left (by simp)]
   exact r1
  | succ j =>
   simp only [List.getElem?_cons_succ] at hy
   have := hcr j y hy
   rw [Array.getD_eq_getD_getElem?, Array.getElem?_append_right (by simp)]
   simpa [Array.getD_eq_getD_getElem?] using this
 have hlive : ∀ j, j < hs.length → m j ≠ none := fun j hj => by
  have hlv := L.live hj
  cases hx : h j with
  | bx T l => obtain ⟨g, cs, q, _⟩ := K.bx _ T l hx; rw [q]; intro e; cases e
  | rw T z l => obtain ⟨v, xs, q, _⟩ := K.rw _ T z l hx; rw [q]; intro e; cases e
  | dead => simp only [hx] at hlv; cases hlv
  | fz x => simp only [hx] at hlv; cases hlv
 have hcall := hp.2 w (NLent w m (fun j => j) hs.length) (Av M (rest h (fun j => j) hs.length) m) (mLent m (fun j => j) hs.length) _ L.give (fun b hb => by
  rcases Nat.lt_or_ge b hs.length with h1 | h1
  · exact h1
  · exact absurd (if_neg (by omega)) hb) (fun b hb => by
  have hb : b < hs.length := hb
  show (if _ then _ else _) ≠ _
  rw [if_pos hb]
  exact hlive b hb) hargs
 refine .inr (.inr ⟨f, #[a.eval x1] ++ cs, ?_, hcall.mono fun e w' he => ?_⟩)
 · have := hp.1 (#[a.eval x1] ++ cs) w
   simp [execOp, ho, resolve, hce, Deferred.ofValue, invoke] at this ⊢
   exact this
 · obtain ⟨v, rfl, ⟨h', m', K', q1, q2, q3⟩, hb⟩ := he
   obtain ⟨m2, t1, t2, t3, t4, t5⟩ := L.take (n := hs.length) (hs1 := hs1) (by omega) (fun j hj => by omega) (fun j hj => hj) (fun j hj => by
     rw [List.getD_eq_getElem?_getD, List.getElem?_eq_getElem hj]
     exact c9 _ (List.getElem_mem hj)) (fun j hj hj2 => by omega) K' hb q1 q2
   rw [← hw h hh] at t1 t2 t4
   have t6 := t4 v d c10 q3
   rw [renV_id] at t6
   refine ⟨v, rfl, m2, t1, t6, t2, t3, fun b hbn => (t5 b hbn).elim .inl fun hm => .inl ?_⟩
   unfold lws at hm
   rw [List.map_map, List.mem_map] at hm
   obtain ⟨j, hj, rfl⟩ := hm
   exact hlive j (by have := List.mem_range.1 hj; omega)
section
variable {P : Program}
def mkIA (T : TypeId) (xs : List Operand) : Op := .indexAddr T (xs.getD 0 (.tmp 0)) (xs.getD 1 (.tmp 0))
/-- An element's address in a row of which the length is told. -/
theorem x_ios {T e : TypeId} (hT : P.underlying T = some (.slice e)) {z : Nat} (hs : szT P e = some z) {b n k : Nat} (hk : k < n) : Ext P (mkIA T) [.os b z 0 n, .k (.int .i64 (k : Int))] [] [] (.rp b z k 0) := by
 intro B M h m w a o xs ho K hl hr _ _
 obtain ⟨x, y, rfl⟩ := two_of hl
 have hx := hr 0 x _ rfl rfl
 have hy := Rep.k_inv (hr 1 y _ rfl rfl)
 generalize hu : a.eval x = u at hx
 cases hx with
 | os _ _ _ _ _ g n' c hm h1 h2 =>
  simp only [mkIA, List.getD_cons_zero, List.getD_cons_succ] at ho
  have hu2 : a.eval x = .slice (some ⟨g, 0, none⟩) n c := by
   rw [hu]
   simp only [Nat.zero_mul, ite_self, Nat.sub_zero]
  refine Exec.val (u := .pointer (some ⟨g, k * z + 0, none⟩)) (w' := w) ?_ (.same K (.rp _ b z k 0 g _ _ hm))
  simp [execOp, ho, Instr.indexAt, hu2, hy, asIntOf, run_under hT, run_size hs, hk, Addr.add_lit]
def mkNC (xs : List Operand) : Op := .nilCheck (xs.getD 0 (.tmp 0))
theorem x_nilc {b z i j : Nat} : Ext P mkNC [.rp b z i j] [] [] (.rp b z i j) := by
 intro B M h m w a o xs ho K hl hr _ _
 obtain ⟨x, rfl⟩ : ∃ x, xs = [x] := by
  match xs, hl with
  | [x], _ => exact ⟨x, rfl⟩
 have hx := hr 0 x _ rfl rfl
 generalize hu : a.eval x = u at hx
 simp only [mkNC, List.getD_cons_zero] at ho
 refine Exec.val (u := u) (w' := w) ?_ (.same K hx)
 cases hx with
 | rp _ _ _ _ _ g n' c hm => simp [execOp, ho, hu]
end
/-- A row in a box is told by its length. -/
theorem Gd.os {P : Program} {f : FuncId} {d : RD} {td : List Item} {σ : St} {b c T U z : Nat} {l : List (List V)} (hb : σ.ho b = .bx T [.ow c]) (hc : σ.ho c = .rw U z l) (h0 : 0 < l.length) (g : Gd P f d td ⟨σ.t, σ.h.set b (.bx T [.os c z 0 l.length])⟩) : Gd P f d td σ := by
 intro w0 B M m0 fb a m w cs hf hk hM H
 have hlt := ho_lt (σ := σ) (b := b) (by rw [hb]; intro e; cases e)
 obtain ⟨v, xs, h1, h2, h3, h4, h5⟩ := H.K.rw c U z l hc
 obtain ⟨gg, cap, hv, _⟩ := own_pos h3.kit h0
 obtain ⟨k1, k2⟩ := H.K.tell (l' := [.os c z 0 l.length]) hb rfl (fun u j x hx hy => by
  match j with
  | 0 =>
   simp only [List.getElem?_cons_zero, Option.some.injEq] at hx
   subst hx
   have hu := hy (.ow c) rfl
   cases hu with
   | ow _ _ ad n cc hm =>
    rw [h1] at hm
    injection hm with hm
    rw [hv] at hm
    injection hm with e1 e2 e3
    subst e1; subst e2; subst e3
    have := Rep.os (w := w) (A := Av M σ.ho m) m c z 0 l.length gg l.length cap (by rw [h1, hv]) (Nat.zero_le _) (Nat.le_refl _)
    simpa only [Nat.zero_mul, ite_self, Nat.sub_zero] using this
  | j + 1 => simp at hx)
 have he : (⟨σ.t, σ.h.set b (.bx T [.os c z 0 l.length])⟩ : St).ho = upd σ.ho b (.bx T [.os c z 0 l.length]) := set_ho hlt
 exact g w0 B M m0 fb a m w cs hf hk hM ⟨by rw [he]; exact k1, H.sz, by rw [he]; exact H.df.mo k2, fun i x hx => by rw [he]; exact (H.tm i x hx).mo k2, fun c hc => by simpa using H.nm c hc, H.bl⟩
/-- As refH, for boxes that hold functions, too. -/
def refHC (p : Nat → Bool) : HO → Bool
 | .bx _ l => l.all (refs p)
 | _ => true
def trimC (n : Nat) (σ : St) : St := match σ.t.all (refs fun b => Nat.blt b n) && ((σ.h.take n).all (refHC fun b => Nat.blt b n) && (σ.h.drop n).all isDead) with
 | true => ⟨σ.t, σ.h.take n⟩
 | false => σ
section
variable {B : Nat → Prop} {M : Nat → Prop} {w0 w : World} {σ : St} {a : Act} {m m' : Nat → Option Value} {A A' : Nat → Prop}
theorem trimC_ok (H : SOk B M w0 σ a m w) (n : Nat) : ∃ m', (∀ b, b < n → m' b = m b) ∧ Mo w (Av M σ.ho m) no w (Av M (trimC n σ).ho m') no ∧ SOk B M w0 (trimC n σ) a m' w := by
 unfold trimC
 split
 · rename_i hc
   simp only [Bool.and_eq_true, List.all_eq_true] at hc
   obtain ⟨c1, c2, c3⟩ := hc
   have hho : ∀ b, (⟨σ.t, σ.h.take n⟩ : St).ho b = σ.ho b := fun b => by
    show (σ.h.take n).getD b .dead = σ.h.getD b .dead
    simp only [List.getD_eq_getElem?_getD, List.getElem?_take]
    split
    · rfl
    · rename_i hb
      cases hx : σ.h[b]? with
      | none => rfl
      | some x =>
        have hd : (σ.h.drop n)[b - n]? = some x := by rw [List.getElem?_drop, show n + (b - n) = b by omega]; exact hx
        have := c3 x (List.mem_of_getElem? hd)
        cases x <;> simp [isDead] at this
        rfl
   have hlive : ∀ b, σ.ho b ≠ .dead → b < n := fun b hb => by
    rw [← hho b] at hb
    have := ho_lt (σ := ⟨σ.t, σ.h.take n⟩) hb
    simp at this
    omega
   let m' : Nat → Option Value := fun b => if b < n then m b else none
   have hm : ∀ b, b < n → m' b = m b := fun b hb => if_pos hb
   have hav : ∀ g, Av M (⟨σ.t, σ.h.take n⟩ : St).ho m' g → Av M σ.ho m g := by
    rintro g (e | ⟨b, v, h1, h2, h3⟩)
    · exact .inl e
    · rw [hho b] at h1
      rw [hm b (hlive b (own_ne h1))] at h2
      exact .inr ⟨b, v, h1, h2, h3⟩
   have g : Mo w (Av M σ.ho m) no w (Av M (⟨σ.t, σ.h.take n⟩ : St).ho m') no := ⟨Nat.le_refl _, fun _ _ _ => rfl, fun g e => .inl (hav g e), fun _ _ e => e⟩
   refine ⟨m', hm, g, ⟨⟨fun b T l e => ?_, fun b T z l e => ?_, fun b x e => ?_, fun c c' v v' g' h1 h2 h3 h4 h5 h6 => ?_, H.K.mb, H.K.bs, H.K.gl.mo g⟩, H.sz, H.df.mo g, fun i x hx => ?_, fun b hb => ?_, H.bl⟩⟩
   · rw [hho b] at e
     have hbn := hlive b (by rw [e]; intro e; cases e)
     obtain ⟨g', cs, h1, h2, h3, h4, h5⟩ := H.K.bx b T l e
     refine ⟨g', cs, (hm b hbn).trans h1, h2, h3, h4, fun j x hx => refs_ok (p := fun b => Nat.blt b n) (fun b hb => hm b (by simpa using hb)) g (h5 j x hx) ?_⟩
     have k0 : (σ.h.take n)[b]? = some (.bx T l) := by
      rw [List.getElem?_take, if_pos hbn]
      have hbl := ho_lt (σ := σ) (b := b) (by rw [e]; intro e; cases e)
      have : σ.h.getD b .dead = .bx T l := e
      rw [List.getD_eq_getElem?_getD, List.getElem?_eq_getElem hbl] at this
      rw [List.getElem?_eq_getElem hbl]
      exact congrArg some this
     have := c2 _ (List.mem_of_getElem? k0)
     simp only [refHC, List.all_eq_true] at this
     exact this x (List.mem_of_getElem? hx)
   · rw [hho b] at e
     have hbn := hlive b (by rw [e]; intro e; cases e)
     obtain ⟨v, xs, h1, h2, h3, h0, h4⟩ := H.K.rw b T z l e
     exact ⟨v, xs, (hm b hbn).trans h1, h2, h3, h0, fun j x hx => (h4 j x hx).mo g⟩
   · rw [hho b] at e
     have hbn := hlive b (by rw [e]; intro e; cases e)
     obtain ⟨v, h1, h3⟩ := H.K.fz b x e
     exact ⟨v, (hm b hbn).trans h1, h3.mo g⟩
   · rw [hho] at h1 h2
     rw [hm _ (hlive _ (own_ne h1))] at h3
     rw [hm _ (hlive _ (own_ne h2))] at h4
     exact H.K.inj c c' v v' g' h1 h2 h3 h4 h5 h6
   · exact refs_ok (p := fun b => Nat.blt b n) (fun b hb => hm b (by simpa using hb)) g (H.tm i x hx) (c1 x (List.mem_of_getElem? hx))
   · have hbn : b < n := by
      rcases Nat.lt_or_ge b n with h | h
      · exact h
      · exact absurd (if_neg (by omega)) hb
     have hmb : m b ≠ none := by rw [← hm b hbn]; exact hb
     have := H.nm b hmb
     simp; omega
 · exact ⟨m, fun _ _ => rfl, ⟨Nat.le_refl _, fun _ _ _ => rfl, fun g e => .inl e, fun _ _ e => e⟩, H⟩
end
noncomputable def metC0 {P : Program} (gs : List Gh) (ts bs : List Nat) (n : Nat) : Out P → Bool × List (List V) × List Item × St
 | .at_ td σ [] ks => (gs.all (ghK 0), ks.map (·.1), td, trimC n (keep ts bs (gs.foldl gh σ)))
 | _ => (false, [], [], ⟨[], []⟩)
theorem Gd.to0 {P : Program} {f : FuncId} {d : RD} (hd : d.n = 0) (hm : P.follows .mixedOrders = true) {td td' : List Item} {σ σ' : St} (gs : List Gh) (ts bs : List Nat) (n : Nat) (sc : List (Fa P)) (h : Gd P f d td' σ') (e : metC0 gs ts bs n (run P 5000 td σ sc) = toldL td' σ' (run P 5000 td σ sc)) : Gd P f d td σ := by
 cases hr : run P 5000 td σ sc with
 | bad => rw [hr] at e; cases e
 | at_ td2 σ2 sc2 ks =>
   rw [hr] at e
   cases sc2 with
   | nil =>
     simp only [metC0, toldL, Prod.mk.injEq] at e
     obtain ⟨e0, e1, rfl, rfl⟩ := e
     refine run_ok hm _ _ _ _ _ _ _ _ hr (ks_ok e1) fun w0 B M m0 b a m w cs h1 h2 h3 H => ?_
     rw [← hd] at e0
     obtain ⟨m', H', g1⟩ := ghs_ok gs e0 H
     obtain ⟨m2, g2, _, H2⟩ := trimC_ok (H'.keep ts bs) n
     exact h w0 B M m0 b a m2 w cs h1 h2 (fun j hj => by omega) H2
   | cons => cases e
theorem Gd.os3 {P : Program} {f : FuncId} {d : RD} {td : List Item} {T : List V} {U Tb z : Nat} {l : List (List V)} {x : HO} (h0 : 0 < l.length) (g : Gd P f d td ⟨T, [.rw U z l, .bx Tb [.os 0 z 0 l.length], x]⟩) : Gd P f d td ⟨T, [.rw U z l, .bx Tb [.ow 0], x]⟩ := Gd.os (b := 1) (c := 0) rfl rfl h0 g
end Go.Proofs.YtbaggkbleehegaaGreat.E
