/-
 POLYGONS, PLAINLY: what is inside of a convex one; what is outside of the box; a way out meets a side.
-/
import Derived.Test.YtcfejkpadcccbaaGreatPgZ
import Derived.Test.YtcfejkpadcccbaaGreatEoZ
namespace Go.Proofs.YtcfejkpadcccbaaGreat
open Go.RowKit
set_option linter.unusedVariables false
set_option linter.unusedSimpArgs false
/-- Corners are counted around. -/
theorem Pg.cor_mod (L : List (Rat × Rat)) (i j : Nat) : Pg.cor L (i % L.length + j) = Pg.cor L (i + j) := by
 unfold Pg.cor; rw [Nat.mod_add_mod]
theorem Pg.cor_n (L : List (Rat × Rat)) (i : Nat) : Pg.cor L (i + L.length) = Pg.cor L i := by unfold Pg.cor; rw [Nat.add_mod_right]
theorem Pg.below {n : Nat} (hn : 0 < n) {p : Nat → Prop} (hp : ∀ i, p (i % n) ↔ p i) : (∀ i, i < n → p i) ↔ ∀ i, p i :=
 ⟨fun h i => (hp i).1 (h _ (Nat.mod_lt _ hn)), fun h i _ => h i⟩
def Pg.bentA (L : List (Rat × Rat)) (i : Nat) : Prop := Pg.cr (Pg.cor L i) (Pg.cor L (i + 1)) (Pg.cor L (i + 2)) ≠ 0
theorem Pg.bent_all {L : List (Rat × Rat)} (hn : 0 < L.length) : Pg.Bent L ↔ ∀ i, Pg.bentA L i :=
 Pg.below (p := Pg.bentA L) hn fun i => by
  unfold Pg.bentA
  have h0 := Pg.cor_mod L i 0
  simp only [Nat.add_zero] at h0
  rw [h0, Pg.cor_mod, Pg.cor_mod]
def Pg.denA (L : List (Rat × Rat)) (i : Nat) : Prop := ¬ vside (Pg.cor L i) (Pg.cor L (i + 1)) (Pg.cor L (i + 2)) < 0
theorem Pg.dent_all {L : List (Rat × Rat)} (hn : 0 < L.length) : (!(List.range L.length).any (Pg.dent L)) = true ↔ ∀ i, Pg.denA L i := by
 rw [not_any, ← Pg.below (p := Pg.denA L) hn]
 · refine forall_congr' fun i => forall_congr' fun hi => ?_
   unfold Pg.dent Pg.denA
   rw [Pg.cor_lt hi, decide_eq_false_iff_not]
 · intro i
   unfold Pg.denA
   have h0 := Pg.cor_mod L i 0
   simp only [Nat.add_zero] at h0
   rw [h0, Pg.cor_mod, Pg.cor_mod]
/-- What only depends on which corners there are. -/
theorem Pg.less_le (r t : Rat) : Pg.less r t ≤ r ∧ Pg.less r t ≤ t ∧ (Pg.less r t = r ∨ Pg.less r t = t) := by unfold Pg.less; split <;> grind
theorem Pg.more_le (r t : Rat) : r ≤ Pg.more r t ∧ t ≤ Pg.more r t ∧ (Pg.more r t = r ∨ Pg.more r t = t) := by unfold Pg.more; split <;> grind
theorem Pg.lo_spec (L : List (Rat × Rat)) : ∀ i, ((∀ j, j < i → (Pg.lo L i).1 ≤ (L.getD j (0, 0)).1) ∧ ∃ j, (j = 0 ∨ j < i) ∧ (Pg.lo L i).1 = (L.getD j (0, 0)).1) ∧ (∀ j, j < i → (Pg.lo L i).2 ≤ (L.getD j (0, 0)).2) ∧ ∃ j, (j = 0 ∨ j < i) ∧ (Pg.lo L i).2 = (L.getD j (0, 0)).2
 | 0 => ⟨⟨fun j h => by omega, 0, .inl rfl, rfl⟩, fun j h => by omega, 0, .inl rfl, rfl⟩
 | i + 1 => by
  obtain ⟨⟨h1, j1, h2, h3⟩, h4, j2, h5, h6⟩ := Pg.lo_spec L i
  obtain ⟨a1, a2, a3⟩ := Pg.less_le (Pg.lo L i).1 (L.getD i (0, 0)).1
  obtain ⟨b1, b2, b3⟩ := Pg.less_le (Pg.lo L i).2 (L.getD i (0, 0)).2
  refine ⟨⟨fun j hj => ?_, ?_⟩, fun j hj => ?_, ?_⟩
  · show Pg.less _ _ ≤ _
    by_cases e : j = i
    · subst e; exact a2
    · exact Rat.le_trans a1 (h1 j (by omega))
  · show ∃ j, _ ∧ Pg.less _ _ = _
    rcases a3 with e | e
    · exact ⟨j1, by omega, by rw [e, h3]⟩
    · exact ⟨i, .inr (by omega), e⟩
  · show Pg.less _ _ ≤ _
    by_cases e : j = i
    · subst e; exact b2
    · exact Rat.le_trans b1 (h4 j (by omega))
  · show ∃ j, _ ∧ Pg.less _ _ = _
    rcases b3 with e | e
    · exact ⟨j2, by omega, by rw [e, h6]⟩
    · exact ⟨i, .inr (by omega), e⟩
theorem Pg.hi_spec (L : List (Rat × Rat)) : ∀ i, ((∀ j, j < i → (L.getD j (0, 0)).1 ≤ (Pg.hi L i).1) ∧ ∃ j, (j = 0 ∨ j < i) ∧ (Pg.hi L i).1 = (L.getD j (0, 0)).1) ∧ (∀ j, j < i → (L.getD j (0, 0)).2 ≤ (Pg.hi L i).2) ∧ ∃ j, (j = 0 ∨ j < i) ∧ (Pg.hi L i).2 = (L.getD j (0, 0)).2
 | 0 => ⟨⟨fun j h => by omega, 0, .inl rfl, rfl⟩, fun j h => by omega, 0, .inl rfl, rfl⟩
 | i + 1 => by
  obtain ⟨⟨h1, j1, h2, h3⟩, h4, j2, h5, h6⟩ := Pg.hi_spec L i
  obtain ⟨a1, a2, a3⟩ := Pg.more_le (Pg.hi L i).1 (L.getD i (0, 0)).1
  obtain ⟨b1, b2, b3⟩ := Pg.more_le (Pg.hi L i).2 (L.getD i (0, 0)).2
  refine ⟨⟨fun j hj => ?_, ?_⟩, fun j hj => ?_, ?_⟩
  · show _ ≤ Pg.more _ _
    by_cases e : j = i
    · subst e; exact a2
    · exact Rat.le_trans (h1 j (by omega)) a1
  · show ∃ j, _ ∧ Pg.more _ _ = _
    rcases a3 with e | e
    · exact ⟨j1, by omega, by rw [e, h3]⟩
    · exact ⟨i, .inr (by omega), e⟩
  · show _ ≤ Pg.more _ _
    by_cases e : j = i
    · subst e; exact b2
    · exact Rat.le_trans (h4 j (by omega)) b1
  · show ∃ j, _ ∧ Pg.more _ _ = _
    rcases b3 with e | e
    · exact ⟨j2, by omega, by rw [e, h6]⟩
    · exact ⟨i, .inr (by omega), e⟩
theorem Pg.getD_mem {L : List (Rat × Rat)} {i : Nat} (h : i < L.length) : L.getD i (0, 0) ∈ L := by
 rw [List.getD_eq_getElem?_getD, List.getElem?_eq_getElem h]; exact List.getElem_mem h
theorem Pg.mem_getD {L : List (Rat × Rat)} {a : Rat × Rat} (h : a ∈ L) : ∃ i, i < L.length ∧ L.getD i (0, 0) = a := by
 obtain ⟨i, hi, e⟩ := List.getElem_of_mem h
 exact ⟨i, hi, by rw [List.getD_eq_getElem?_getD, List.getElem?_eq_getElem hi, e]; rfl⟩
theorem Pg.box_spec {L : List (Rat × Rat)} (hn : 0 < L.length) : ((∀ a ∈ L, (Pg.box L).1.1 ≤ a.1 ∧ (Pg.box L).1.2 ≤ a.2 ∧ a.1 ≤ (Pg.box L).2.1 ∧ a.2 ≤ (Pg.box L).2.2) ∧
   (∃ a ∈ L, (Pg.box L).1.1 = a.1) ∧ (∃ a ∈ L, (Pg.box L).1.2 = a.2) ∧ (∃ a ∈ L, (Pg.box L).2.1 = a.1) ∧ ∃ a ∈ L, (Pg.box L).2.2 = a.2) := by
 have hb : Pg.box L = (Pg.lo L L.length, Pg.hi L L.length) := if_neg (by omega)
 rw [hb]
 obtain ⟨⟨h1, j1, g1, e1⟩, h2, j2, g2, e2⟩ := Pg.lo_spec L L.length
 obtain ⟨⟨h3, j3, g3, e3⟩, h4, j4, g4, e4⟩ := Pg.hi_spec L L.length
 refine ⟨fun a ha => ?_, ⟨_, Pg.getD_mem (by omega : j1 < L.length), e1⟩, ⟨_, Pg.getD_mem (by omega : j2 < L.length), e2⟩, ⟨_, Pg.getD_mem (by omega : j3 < L.length), e3⟩, _, Pg.getD_mem (by omega : j4 < L.length), e4⟩
 obtain ⟨i, hi, rfl⟩ := Pg.mem_getD ha
 exact ⟨h1 i hi, h2 i hi, h3 i hi, h4 i hi⟩
end Go.Proofs.YtcfejkpadcccbaaGreat
namespace Go.Proofs.YtcfejkpadcccbaaGreat.E
open Go.RowKit
set_option linter.unusedVariables false
section
variable {l m : List Int} {at' : Int}
end
end Go.Proofs.YtcfejkpadcccbaaGreat.E
namespace Go.Proofs.YtcfejkpadcccbaaGreat
open Go.RowKit
set_option linter.unusedVariables false
set_option linter.unusedSimpArgs false
/-- A place whose turn has the length 1. -/
def Pg.Unit (p : Pl) : Prop := p.1.1 * p.1.1 + p.1.2 * p.1.2 = 1
end Go.Proofs.YtcfejkpadcccbaaGreat
namespace Go.Proofs.YtcfejkpadcccbaaGreat.E
open Go.RowKit
set_option linter.unusedVariables false
section
variable {L : List (Rat × Rat)} {k j i : Nat} {p : Pl} {l m : List Int} {how by_ : Int}
end
end Go.Proofs.YtcfejkpadcccbaaGreat.E
namespace Go.Proofs.YtcfejkpadcccbaaGreat.E
open Go.RowKit
set_option linter.unusedVariables false
section
variable {L : List (Rat × Rat)} {k j i : Nat} {how by_ : Int} {r : Rat}
end
end Go.Proofs.YtcfejkpadcccbaaGreat.E
namespace Go.Proofs.YtcfejkpadcccbaaGreat.E
open Go.RowKit
set_option linter.unusedVariables false
section
variable {l m : List Int} {how by_ : Int}
end
end Go.Proofs.YtcfejkpadcccbaaGreat.E
namespace Go.Proofs.YtcfejkpadcccbaaGreat.E
open Go.RowKit
set_option linter.unusedVariables false
section
variable {l m : List Int} {how by_ : Int} {Ls : List (List (Rat × Rat))} {i : Nat}
end
end Go.Proofs.YtcfejkpadcccbaaGreat.E
namespace Go.Proofs.YtcfejkpadcccbaaGreat
open Go.RowKit
set_option linter.unusedSimpArgs false
set_option linter.unusedVariables false
section
variable {L : List (Rat × Rat)} {p q : Rat × Rat}
theorem Pg.sides_mem {x : (Rat × Rat) × (Rat × Rat)} (h : x ∈ Pg.sides L) : x.1 ∈ L ∧ x.2 ∈ L := by
 unfold Pg.sides at h
 have h1 := List.of_mem_zip h
 refine ⟨h1.1, ?_⟩
 have h2 := h1.2
 cases L with
 | nil => exact h2
 | cons a t =>
   simp only [Pg.rot, List.mem_append, List.mem_singleton] at h2
   rcases h2 with h2 | h2
   · exact List.mem_cons_of_mem _ h2
   · rw [h2]; exact List.mem_cons_self ..
/-- All corners lie beyond a point in a direction: it is outside. -/
theorem Pg.has_out {d : Rat × Rat} (hd : d ≠ (0, 0)) (h : ∀ a ∈ L, 0 < vcrs d (vsub a p)) : Pg.has L p = -1 := by
 rw [Pg.has_D, Pg.hasD_any (e := d) L p (by decide) hd]
 unfold Pg.hasD
 have h1 : (Pg.sides L).any (fun x => Pg.on x.1 x.2 p) = false := by
  rw [List.any_eq_false]
  intro x hx g
  obtain ⟨m1, m2⟩ := Pg.sides_mem hx
  have g1 := h _ m1
  have g2 := h _ m2
  refine (Pg.on_not (n := (-d.2, d.1)) ((on_iff _ _ _).1 g)).2 ⟨?_, ?_⟩
  · unfold vcrs vsub at g1; unfold vdot; grind
  · unfold vcrs vsub at g2; unfold vdot; grind
 have h2 : Pg.parS (Pg.X d p) (Pg.sides L) = false := by
  rw [← Pg.parS_round (fun _ => true) L]
  refine Pg.parS_congr _ fun x hx => ?_
  obtain ⟨m1, m2⟩ := Pg.sides_mem hx
  unfold Pg.X Pg.H
  rw [Pg.dT (h _ m1), Pg.dT (h _ m2)]
  rfl
 rw [h1, h2]
 rfl
/-- A corner is on a side, and so is the middle of two. -/
theorem Pg.on_fst (a b : Rat × Rat) : Pg.On a b a := ⟨Pg.cr_aba a b, by unfold vdot vsub; grind⟩
theorem Pg.on_middle (a b : Rat × Rat) : Pg.On a b (Pg.mid a b) := by
 refine ⟨by unfold Pg.cr Pg.mid vcrs vsub vsca vadd; rw [Pg.div12]; grind, ?_⟩
 have h1 := Pg.sq_nonneg (a.1 - b.1)
 have h2 := Pg.sq_nonneg (a.2 - b.2)
 unfold vdot vsub Pg.mid vsca vadd
 rw [Pg.div12]
 grind
theorem Pg.has_on {i : Nat} (hi : i < L.length) (h : Pg.On (L.getD i (0, 0)) (Pg.cor L (i + 1)) p) : Pg.has L p = 0 := by
 rw [Pg.has_D]
 unfold Pg.hasD
 rw [if_pos]
 rw [← Pg.any_sides L (fun a b => Pg.on a b p), List.any_eq_true]
 exact ⟨i, List.mem_range.2 hi, (on_iff _ _ _).2 h⟩
/-- What is not outside is in the box. -/
theorem Pg.has_box (hn : 0 < L.length) (h : 0 ≤ Pg.has L p) : (Pg.box L).1.1 ≤ p.1 ∧ p.1 ≤ (Pg.box L).2.1 ∧ (Pg.box L).1.2 ≤ p.2 ∧ p.2 ≤ (Pg.box L).2.2 := by
 have hb := (Pg.box_spec hn).1
 have out : ∀ d : Rat × Rat, d ≠ (0, 0) → (∀ a ∈ L, 0 < vcrs d (vsub a p)) → False := fun d hd g => by
  rw [Pg.has_out hd g] at h
  exact absurd h (by decide)
 refine ⟨?_, ?_, ?_, ?_⟩
 · by_cases g : (Pg.box L).1.1 ≤ p.1
   · exact g
   · refine (out (0, -1) (by decide) fun a ha => ?_).elim
     have := hb a ha
     unfold vcrs vsub
     grind
 · by_cases g : p.1 ≤ (Pg.box L).2.1
   · exact g
   · refine (out (0, 1) (by decide) fun a ha => ?_).elim
     have := hb a ha
     unfold vcrs vsub
     grind
 · by_cases g : (Pg.box L).1.2 ≤ p.2
   · exact g
   · refine (out (1, 0) (by decide) fun a ha => ?_).elim
     have := hb a ha
     unfold vcrs vsub
     grind
 · by_cases g : p.2 ≤ (Pg.box L).2.2
   · exact g
   · refine (out (-1, 0) (by decide) fun a ha => ?_).elim
     have := hb a ha
     unfold vcrs vsub
     grind
/-- A side that a segment does not meet is crossed by both rays along it, or by none. -/
theorem Pg.X_seg {x y a b : Rat × Rat} (h : ¬ Pg.Meet x y a b) : Pg.X (vsub y x) x a b = Pg.X (vsub y x) y a b := by
 have hx : ¬ Pg.On a b x := fun g => h (.inr (.inr (.inr (.inl g))))
 have hy : ¬ Pg.On a b y := fun g => h (.inr (.inr (.inr (.inr g))))
 have ha : ¬ Pg.On x y a := fun g => h (.inr (.inl g))
 have hb : ¬ Pg.On x y b := fun g => h (.inr (.inr (.inl g)))
 have hc : ¬ (Pg.cr x y a * Pg.cr x y b < 0 ∧ Pg.cr a b x * Pg.cr a b y < 0) := fun g => h (.inl g)
 have e1 : ∀ u : Rat × Rat, vcrs (vsub y x) (vsub u y) = vcrs (vsub y x) (vsub u x) := fun u => by unfold vcrs vsub; grind
 have e2 : ∀ u : Rat × Rat, vcrs (vsub y x) (vsub u x) = Pg.cr x y u := fun u => rfl
 unfold Pg.X Pg.H
 rw [e1, e1, e2, e2, Pg.cr_rot x a b, Pg.cr_rot y a b]
 by_cases g : (decide (0 < Pg.cr x y a) != decide (0 < Pg.cr x y b)) = false
 · rw [g]; rfl
 · suffices hs : 0 < Pg.cr a b x * Pg.cr a b y by
    rcases Pg.pos_of hs with ⟨s1, s2⟩ | ⟨s1, s2⟩
    · rw [Pg.dT s1, Pg.dT s2]
    · rw [Pg.dF' (by grind : ¬ 0 < Pg.cr a b x), Pg.dF' (by grind : ¬ 0 < Pg.cr a b y)]
   have hne : ¬ (0 < Pg.cr x y a ↔ 0 < Pg.cr x y b) := fun e => g (by simp [e])
   by_cases za : Pg.cr x y a = 0
   · exact Pg.side_line za ha fun zb => hne (by rw [za, zb])
   by_cases zb : Pg.cr x y b = 0
   · have := Pg.side_line zb hb za
     rw [Pg.cr_swap b a x, Pg.cr_swap b a y] at this
     grind
   have hm : Pg.cr x y a * Pg.cr x y b < 0 := by
    rcases Pg.tri_ (Pg.cr x y a) with s | s | s <;> rcases Pg.tri_ (Pg.cr x y b) with t | t | t
    · exact absurd ⟨fun u => by grind, fun u => by grind⟩ hne
    · exact absurd t zb
    · exact Pg.mul_neg s t
    · exact absurd s za
    · exact absurd s za
    · exact absurd s za
    · have := Pg.mul_neg t s; grind
    · exact absurd t zb
    · exact absurd ⟨fun _ => t, fun _ => s⟩ hne
   have hd := Pg.diff x y a b
   by_cases zx : Pg.cr a b x = 0
   · by_cases zy : Pg.cr a b y = 0
     · have : Pg.cr x y a = Pg.cr x y b := by grind
       have h2 := Pg.sq_nonneg (Pg.cr x y a)
       rw [← this] at hm
       grind
     · have := Pg.side_line zx hx zy
       grind
   by_cases zy : Pg.cr a b y = 0
   · have := Pg.side_line zy hy zx
     rw [Pg.cr_swap y x a, Pg.cr_swap y x b] at this
     grind
   have hp : ¬ Pg.cr a b x * Pg.cr a b y < 0 := fun u => hc ⟨hm, u⟩
   rcases Pg.tri_ (Pg.cr a b x * Pg.cr a b y) with s | s | s
   · exact absurd s hp
   · rcases Rat.mul_eq_zero.1 s with s | s
     · exact absurd s zx
     · exact absurd s zy
   · exact s
theorem Pg.On.left {a b p : Rat × Rat} (h : Pg.On a b p) (q : Rat × Rat) : Pg.Meet p q a b := .inr (.inr (.inr (.inl h)))
theorem Pg.On.right {a b p : Rat × Rat} (h : Pg.On a b p) (q : Rat × Rat) : Pg.Meet q p a b := .inr (.inr (.inr (.inr h)))
/-- The way from a point inside to one outside meets a side. -/
theorem Pg.way_out {x y : Rat × Rat} (h : Pg.has L x * Pg.has L y < 0) : ∃ i, i < L.length ∧ Pg.Meet x y (L.getD i (0, 0)) (Pg.cor L (i + 1)) := by
 by_cases g : ∃ i, i < L.length ∧ Pg.Meet x y (L.getD i (0, 0)) (Pg.cor L (i + 1))
 · exact g
 · have hm : ∀ z ∈ Pg.sides L, ¬ Pg.Meet x y z.1 z.2 := fun z hz k => by
    obtain ⟨i, hi⟩ := List.getElem?_of_mem hz
    have hl := (List.getElem?_eq_some_iff.1 hi).1
    rw [Pg.sides_len] at hl
    rw [Pg.side_i L i hl] at hi
    injection hi with hi
    subst hi
    exact g ⟨i, hl, k⟩
   have hd : vsub y x ≠ (0, 0) := fun e => by
    have : y = x := by
     have h1 := congrArg Prod.fst e
     have h2 := congrArg Prod.snd e
     unfold vsub at h1 h2
     exact Pg.ext (by simp at h1; grind) (by simp at h2; grind)
    subst this
    rw [← Int.natAbs_mul_self] at h
    exact absurd h (Int.not_lt.2 (Int.natCast_nonneg _))
   rw [Pg.has_D, Pg.has_D, Pg.hasD_any (e := vsub y x) L x (by decide) hd, Pg.hasD_any (e := vsub y x) L y (by decide) hd] at h
   unfold Pg.hasD at h
   have h1 : (Pg.sides L).any (fun z => Pg.on z.1 z.2 x) = false := by
    rw [List.any_eq_false]
    exact fun z hz k => hm z hz (((on_iff _ _ _).1 k).left y)
   have h2 : (Pg.sides L).any (fun z => Pg.on z.1 z.2 y) = false := by
    rw [List.any_eq_false]
    exact fun z hz k => hm z hz (((on_iff _ _ _).1 k).right x)
   rw [h1, h2, Pg.parS_congr (g := Pg.X (vsub y x) y) _ fun z hz => Pg.X_seg (hm z hz)] at h
   cases hb : Pg.parS (Pg.X (vsub y x) y) (Pg.sides L) <;> rw [hb] at h <;> simp at h
/-- Convex all around. -/
def Pg.Gc (L : List (Rat × Rat)) : Prop := ∀ i s : Nat, s % L.length ≠ i % L.length → s % L.length ≠ (i + 1) % L.length → 0 < Pg.cr (Pg.cor L i) (Pg.cor L (i + 1)) (Pg.cor L s)
def Pg.In (L : List (Rat × Rat)) (p : Rat × Rat) : Prop := ∀ i : Nat, 0 ≤ Pg.cr (Pg.cor L i) (Pg.cor L (i + 1)) p
theorem Pg.cor_eq {i j : Nat} (h : i % L.length = j % L.length) : Pg.cor L i = Pg.cor L j := by unfold Pg.cor; rw [h]
theorem Pg.Gc.all (h : Pg.Gc L) (i s : Nat) : 0 ≤ Pg.cr (Pg.cor L i) (Pg.cor L (i + 1)) (Pg.cor L s) := by
 by_cases h1 : s % L.length = i % L.length
 · rw [Pg.cor_eq h1, Pg.cr_aba]; exact Rat.le_refl
 · by_cases h2 : s % L.length = (i + 1) % L.length
   · rw [Pg.cor_eq h2, Pg.cr_aab]; exact Rat.le_refl
   · have := h i s h1 h2; grind
theorem Pg.mem_cor {a : Rat × Rat} (h : a ∈ L) : ∃ s, a = Pg.cor L s := by
 obtain ⟨i, hi, e⟩ := Pg.mem_getD h
 exact ⟨i, by rw [← e, Pg.cor_lt hi]⟩
/-- Beyond a side: outside. -/
theorem Pg.Gc.out (h : Pg.Gc L) (hp : ¬ Pg.In L p) : Pg.has L p = -1 := by
 have : ∃ i : Nat, Pg.cr (Pg.cor L i) (Pg.cor L (i + 1)) p < 0 := by
  by_cases g : ∃ i : Nat, Pg.cr (Pg.cor L i) (Pg.cor L (i + 1)) p < 0
  · exact g
  · exact absurd (fun i => by
     by_cases k : Pg.cr (Pg.cor L i) (Pg.cor L (i + 1)) p < 0
     · exact absurd ⟨i, k⟩ g
     · grind) hp
 obtain ⟨i, hi⟩ := this
 refine Pg.has_out (d := vsub (Pg.cor L (i + 1)) (Pg.cor L i)) (fun e => ?_) fun a ha => ?_
 · unfold Pg.cr at hi
   rw [e] at hi
   unfold vcrs at hi
   grind
 · obtain ⟨s, rfl⟩ := Pg.mem_cor ha
   have h1 := h.all i s
   unfold Pg.cr vcrs vsub at hi h1
   unfold vcrs vsub
   grind
/-- On the line of a side, and within its neighbours: on the side. -/
theorem Pg.on_edge {z a b c : Rat × Rat} (h : Pg.cr a b p = 0) (h1 : 0 < Pg.cr z a b) (h2 : 0 < Pg.cr a b c) (g1 : 0 ≤ Pg.cr z a p) (g2 : 0 ≤ Pg.cr b c p) : Pg.On a b p := by
 refine ⟨h, ?_⟩
 have hV : 0 < vdot (vsub b a) (vsub b a) := Pg.not_le fun g => by
  obtain ⟨e1, e2⟩ := Pg.dot_self g
  unfold Pg.cr vcrs at h2
  rw [e1, e2] at h2
  grind
 have e1 : Pg.cr b c p * vdot (vsub b a) (vsub b a) = - (vdot (vsub p b) (vsub b a) * Pg.cr a b c) := by
  unfold Pg.cr vcrs vsub at h
  unfold Pg.cr vcrs vdot vsub
  grind
 have e2 : Pg.cr z a p * vdot (vsub b a) (vsub b a) = vdot (vsub p a) (vsub b a) * Pg.cr z a b := by
  unfold Pg.cr vcrs vsub at h
  unfold Pg.cr vcrs vdot vsub
  grind
 have e3 : vdot (vsub a p) (vsub b p) * vdot (vsub b a) (vsub b a) = vdot (vsub p a) (vsub b a) * vdot (vsub p b) (vsub b a) := by
  unfold Pg.cr vcrs vsub at h
  unfold vdot vsub
  grind
 have k1 : vdot (vsub p b) (vsub b a) ≤ 0 := by
  by_cases k : vdot (vsub p b) (vsub b a) ≤ 0
  · exact k
  · have m1 := Rat.mul_pos (Pg.not_le k) h2
    have m2 := Rat.mul_nonneg g2 (Rat.le_of_lt hV)
    grind
 have k2 : 0 ≤ vdot (vsub p a) (vsub b a) := by
  by_cases k : 0 ≤ vdot (vsub p a) (vsub b a)
  · exact k
  · have m1 := Pg.mul_neg (by grind : vdot (vsub p a) (vsub b a) < 0) h1
    have m2 := Rat.mul_nonneg g1 (Rat.le_of_lt hV)
    grind
 by_cases k : vdot (vsub a p) (vsub b p) ≤ 0
 · exact k
 · have m1 := Rat.mul_pos (Pg.not_le k) hV
   have m2 := Pg.np k1 k2
   grind
theorem Pg.one_way {c0 c1 a b : Rat × Rat} (f0 : 0 < Pg.cr c0 c1 p) (fa : 0 ≤ Pg.cr c0 c1 a) (fb : 0 ≤ Pg.cr c0 c1 b) (hD : 0 < Pg.cr a b c0) (hα : vcrs (vsub c0 p) (vsub a p) ≤ 0) (hβ : 0 < vcrs (vsub c0 p) (vsub b p)) : False := by
 have e : vcrs (vsub c0 p) (vsub b p) * Pg.cr c0 c1 a + (- vcrs (vsub c0 p) (vsub a p)) * Pg.cr c0 c1 b = - (Pg.cr a b c0 * Pg.cr c0 c1 p) := by unfold Pg.cr vcrs vsub; grind
 have m1 := Rat.mul_nonneg (Rat.le_of_lt hβ) fa
 have m2 := Rat.mul_nonneg (by grind : 0 ≤ - vcrs (vsub c0 p) (vsub a p)) fb
 have m3 := Rat.mul_pos hD f0
 grind
theorem Pg.par_one {f : Nat → Bool} (h0 : f 0 = true) : ∀ n, (∀ i, 0 < i → i ≤ n → f i = false) → Pg.par f (n + 1) = true
 | 0, _ => by show (false).xor (f 0) = true; rw [h0]; rfl
 | n + 1, h => by
  show (Pg.par f (n + 1)).xor (f (n + 1)) = true
  rw [Pg.par_one h0 n fun i h1 h2 => h i h1 (by omega), h (n + 1) (by omega) (by omega)]; rfl
/-- Before all sides: inside. -/
theorem Pg.Gc.inside (h : Pg.Gc L) (hn : 3 ≤ L.length) (hp : ∀ i : Nat, 0 < Pg.cr (Pg.cor L i) (Pg.cor L (i + 1)) p) : Pg.has L p = 1 := by
 have hd : vsub (Pg.cor L 0) p ≠ (0, 0) := fun e => by
  have h1 := hp 0
  rw [Pg.cr_rot, Pg.cr_rot] at h1
  unfold Pg.cr at h1
  rw [e] at h1
  unfold vcrs at h1
  grind
 rw [Pg.has_D, Pg.hasD_any (e := vsub (Pg.cor L 0) p) L p (by decide) hd]
 unfold Pg.hasD
 have h1 : (Pg.sides L).any (fun x => Pg.on x.1 x.2 p) = false := by
  rw [← Pg.any_sides L (fun a b => Pg.on a b p), List.any_eq_false]
  intro i hi g
  have hi := List.mem_range.1 hi
  have := ((on_iff _ _ _).1 g).1
  rw [Pg.cor_lt hi] at this
  have := hp i
  grind
 have h2 : Pg.parS (Pg.X (vsub (Pg.cor L 0) p) p) (Pg.sides L) = true := by
  let f : Nat → Bool := fun i => Pg.X (vsub (Pg.cor L 0) p) p (Pg.cor L i) (Pg.cor L (i + 1))
  have hf : ∀ i, f i = (!(decide (0 < vcrs (vsub (Pg.cor L 0) p) (vsub (Pg.cor L i) p))) && decide (0 < vcrs (vsub (Pg.cor L 0) p) (vsub (Pg.cor L (i + 1)) p))) := fun i => by
   have h3 := hp i
   rw [Pg.cr_rot, Pg.cr_rot] at h3
   simp only [f]
   unfold Pg.X Pg.H
   rw [Pg.dT h3]
   cases decide (0 < vcrs (vsub (Pg.cor L 0) p) (vsub (Pg.cor L i) p)) <;> cases decide (0 < vcrs (vsub (Pg.cor L 0) p) (vsub (Pg.cor L (i + 1)) p)) <;> rfl
  have hz : ∀ i, i % L.length = 0 → ¬ 0 < vcrs (vsub (Pg.cor L 0) p) (vsub (Pg.cor L i) p) := fun i hi => by
   rw [Pg.cor_eq (i := i) (j := 0) (by rw [hi, Nat.zero_mod])]
   unfold vcrs; grind
  rw [← Pg.par_range (f := f) (Pg.sides L) (fun i x hx => by
   have hl := (List.getElem?_eq_some_iff.1 hx).1
   rw [Pg.sides_len] at hl
   rw [Pg.side_i L i hl] at hx
   injection hx with hx
   subst hx
   rw [Pg.cor_lt hl]), Pg.sides_len]
  obtain ⟨m, hm⟩ : ∃ m, L.length = m + 1 := ⟨L.length - 1, by omega⟩
  rw [hm]
  refine Pg.par_one ?_ m fun i hi0 him => ?_
  · rw [hf 0, Pg.dF (hz 0 (Nat.zero_mod _))]
    have h3 := hp 0
    rw [Pg.cr_rot, Pg.cr_rot] at h3
    exact Pg.dT h3
  · rw [hf i]
    by_cases g1 : 0 < vcrs (vsub (Pg.cor L 0) p) (vsub (Pg.cor L i) p)
    · rw [Pg.dT' g1]; rfl
    · by_cases g2 : 0 < vcrs (vsub (Pg.cor L 0) p) (vsub (Pg.cor L (i + 1)) p)
      · have hlt : i + 1 < L.length := by
         by_cases e : i + 1 = L.length
         · exact absurd g2 (hz (i + 1) (by rw [e, Nat.mod_self]))
         · omega
        exact (Pg.one_way (hp 0) (h.all 0 i) (h.all 0 (i + 1)) (h i 0 (by rw [Nat.zero_mod, Nat.mod_eq_of_lt (by omega)]; omega) (by rw [Nat.zero_mod, Nat.mod_eq_of_lt hlt]; omega)) (by grind) g2).elim
      · rw [Pg.dF' g2, Bool.and_false]
 rw [h1, h2]
 rfl
/-- Within all sides: not outside. -/
theorem Pg.Gc.in_ (h : Pg.Gc L) (hn : 3 ≤ L.length) (hp : Pg.In L p) : 0 ≤ Pg.has L p := by
 by_cases g : ∀ i : Nat, 0 < Pg.cr (Pg.cor L i) (Pg.cor L (i + 1)) p
 · rw [h.inside hn g]; decide
 · have : ∃ i : Nat, ¬ 0 < Pg.cr (Pg.cor L i) (Pg.cor L (i + 1)) p := by
    by_cases k : ∃ i : Nat, ¬ 0 < Pg.cr (Pg.cor L i) (Pg.cor L (i + 1)) p
    · exact k
    · exact absurd (fun i => by
       by_cases k2 : 0 < Pg.cr (Pg.cor L i) (Pg.cor L (i + 1)) p
       · exact k2
       · exact absurd ⟨i, k2⟩ k) g
   obtain ⟨i, hi⟩ := this
   have h0 : Pg.cr (Pg.cor L i) (Pg.cor L (i + 1)) p = 0 := by have := hp i; grind
   have hlt : ∀ j, j % L.length < L.length := fun j => Nat.mod_lt _ (by omega)
   have k1 : Pg.cor L i = Pg.cor L (i % L.length) := Pg.cor_eq (by rw [Nat.mod_mod])
   have k2 : Pg.cor L (i + 1) = Pg.cor L (i % L.length + 1) := by rw [Pg.cor_mod]
   have ne : ∀ a d : Nat, 0 < d → d < L.length → (a + d) % L.length ≠ a % L.length := fun a d h1 h2 e => by
    have h3 : (a + d) % L.length = (a % L.length + d) % L.length := (Nat.mod_add_mod ..).symm
    have h4 := hlt a
    by_cases h5 : a % L.length + d < L.length
    · rw [h3, Nat.mod_eq_of_lt h5] at e; omega
    · rw [h3, Nat.mod_eq_sub_mod (by omega), Nat.mod_eq_of_lt (by omega)] at e; omega
   have hon : Pg.On (Pg.cor L i) (Pg.cor L (i + 1)) p := by
    have t1 := h (i + L.length - 1) (i + 1) (by rw [show i + 1 = (i + L.length - 1) + 2 - L.length by omega, ← Nat.add_mod_right ((i + L.length - 1) + 2 - L.length), show (i + L.length - 1) + 2 - L.length + L.length = (i + L.length - 1) + 2 by omega]; exact ne _ 2 (by omega) (by omega)) (by rw [show i + L.length - 1 + 1 = i + L.length by omega, Nat.add_mod_right]; exact ne i 1 (by omega) (by omega))
    have t2 := h i (i + 2) (ne i 2 (by omega) (by omega)) (ne (i + 1) 1 (by omega) (by omega))
    have t3 := hp (i + L.length - 1)
    have t4 := hp (i + 1)
    rw [show i + L.length - 1 + 1 = i + L.length by omega, Pg.cor_n] at t1 t3
    exact Pg.on_edge h0 t1 t2 t3 t4
   rw [k1, k2, ← Pg.cor_lt (hlt i)] at hon
   rw [Pg.has_on (hlt i) hon]
   exact Int.le_refl 0
theorem Pg.Gc.of_has (h : Pg.Gc L) (hp : 0 ≤ Pg.has L p) : Pg.In L p := by
 by_cases g : Pg.In L p
 · exact g
 · rw [h.out g] at hp; exact absurd hp (by decide)
/-- The middle of two points that are not outside is not outside. -/
theorem Pg.Gc.middle (h : Pg.Gc L) (hn : 3 ≤ L.length) (hp : 0 ≤ Pg.has L p) (hq : 0 ≤ Pg.has L q) : 0 ≤ Pg.has L (Pg.mid p q) := by
 refine h.in_ hn fun i => ?_
 have h1 := h.of_has hp i
 have h2 := h.of_has hq i
 have e : Pg.cr (Pg.cor L i) (Pg.cor L (i + 1)) (Pg.mid p q) = (Pg.cr (Pg.cor L i) (Pg.cor L (i + 1)) p + Pg.cr (Pg.cor L i) (Pg.cor L (i + 1)) q) * (1 / 2) := by
  unfold Pg.cr Pg.mid vcrs vsub vsca vadd; rw [Pg.div12]; grind
 rw [e]
 grind
theorem Pg.sum_lin (T X Y : Rat × Rat → Rat × Rat → Rat) (K g1 g2 : Rat) : ∀ ps, Pg.sum (fun a b => T a b * (K + g1 * X a b + g2 * Y a b)) ps = K * Pg.sum T ps + g1 * Pg.sum (fun a b => X a b * T a b) ps + g2 * Pg.sum (fun a b => Y a b * T a b) ps
 | [] => by simp only [Pg.sum_nil]; grind
 | p :: t => by
  rw [Pg.sum_cons, Pg.sum_cons, Pg.sum_cons, Pg.sum_cons, Pg.sum_lin T X Y K g1 g2 t]; grind
theorem Pg.sum_pos {f : Rat × Rat → Rat × Rat → Rat} : ∀ {ps : List ((Rat × Rat) × (Rat × Rat))}, ps ≠ [] → (∀ x ∈ ps, 0 < f x.1 x.2) → 0 < Pg.sum f ps
 | [], h, _ => absurd rfl h
 | [x], _, h => by rw [Pg.sum_cons, Pg.sum_nil]; have := h x (by simp); grind
 | x :: y :: t, _, h => by
  rw [Pg.sum_cons]
  have h1 := h x (by simp)
  have h2 := Pg.sum_pos (ps := y :: t) (by simp) fun z hz => h z (List.mem_cons_of_mem _ hz)
  grind
/-- The centroid of a convex polygon is inside. -/
theorem Pg.Gc.center (h : Pg.Gc L) (hn : 3 ≤ L.length) (ha : 0 < Pg.area L) : Pg.has L (Pg.center L) = 1 := by
 refine h.inside hn fun i => ?_
 have hfx := Pg.fanx L
 have hfy := Pg.fany L
 have hS : Pg.sum vcrs (Pg.sides L) = 2 * Pg.area L := by unfold Pg.area; rw [Pg.div12]; grind
 have hT : Pg.sum (fun a b => Pg.tri (L.headD (0, 0)) a b) (Pg.fan L) = Pg.area L * (1 / 3) := by
  cases hL : L with
  | nil => rw [hL] at hn; simp at hn
  | cons o t =>
    rw [Pg.area_fan]
    show Pg.sum (fun a b => Pg.cr o a b * Rat.divInt 1 6) (t.zip t.tail) = _
    rw [Pg.sum_smul, Pg.div16, Pg.div12]; grind
 have ho : L.headD (0, 0) = Pg.cor L 0 := by
  cases L with
  | nil => rfl
  | cons o t => rfl
 rw [ho] at hfx hfy hT
 let A : Rat × Rat → Rat := fun x => Pg.cr (Pg.cor L i) (Pg.cor L (i + 1)) x
 let K : Rat := Pg.cr (Pg.cor L i) (Pg.cor L (i + 1)) (0, 0)
 let g1 : Rat := (Pg.cor L i).2 - (Pg.cor L (i + 1)).2
 let g2 : Rat := (Pg.cor L (i + 1)).1 - (Pg.cor L i).1
 have hA : ∀ x, A x = K + g1 * x.1 + g2 * x.2 := fun x => by simp only [A, K, g1, g2]; unfold Pg.cr vcrs vsub; grind
 have hfan : ∀ x ∈ Pg.fan L, ∃ j, j + 2 < L.length ∧ x = (Pg.cor L (j + 1), Pg.cor L (j + 2)) := by
  intro x hx
  cases hL : L with
  | nil => rw [hL] at hn; simp at hn
  | cons o t =>
    rw [hL] at hx
    have hx : x ∈ t.zip t.tail := hx
    obtain ⟨j, hj⟩ := List.getElem?_of_mem hx
    rw [List.getElem?_zip_eq_some] at hj
    obtain ⟨j1, j2⟩ := hj
    rw [List.getElem?_tail] at j2
    have l2 := (List.getElem?_eq_some_iff.1 j2).1
    refine ⟨j, by simp; omega, Prod.ext ?_ ?_⟩
    · rw [← Pg.cor_lt (L := o :: t) (i := j + 1) (by simp; omega), List.getD_eq_getElem?_getD, List.getElem?_cons_succ, j1]; rfl
    · rw [← Pg.cor_lt (L := o :: t) (i := j + 2) (by simp; omega), List.getD_eq_getElem?_getD, List.getElem?_cons_succ, j2]; rfl
 have hpos : 0 < Pg.sum (fun a b => Pg.tri (Pg.cor L 0) a b * (3 * K + g1 * ((Pg.cor L 0).1 + a.1 + b.1) + g2 * ((Pg.cor L 0).2 + a.2 + b.2))) (Pg.fan L) := by
  refine Pg.sum_pos (fun e => ?_) fun x hx => ?_
  · cases hL : L with
    | nil => rw [hL] at hn; simp at hn
    | cons o t =>
      rw [hL] at e hn
      have e : t.zip t.tail = [] := e
      have := congrArg List.length e
      simp [List.length_zip] at this hn
      omega
  · obtain ⟨j, hj, rfl⟩ := hfan x hx
    have t0 : 0 < Pg.tri (Pg.cor L 0) (Pg.cor L (j + 1)) (Pg.cor L (j + 2)) := by
     have := h (j + 1) 0 (by rw [Nat.zero_mod, Nat.mod_eq_of_lt (by omega)]; omega) (by rw [Nat.zero_mod, Nat.mod_eq_of_lt (by omega)]; omega)
     rw [Pg.cr_rot, Pg.cr_rot] at this
     unfold Pg.tri
     rw [Pg.div16]
     unfold Pg.cr at this
     grind
    have s0 := h.all i 0
    have s1 := h.all i (j + 1)
    have s2 := h.all i (j + 2)
    have hs : 0 < A (Pg.cor L 0) + A (Pg.cor L (j + 1)) + A (Pg.cor L (j + 2)) := by
     have m0 : 0 % L.length = 0 := Nat.zero_mod _
     have m1 : (j + 1) % L.length = j + 1 := Nat.mod_eq_of_lt (by omega)
     have m2 : (j + 2) % L.length = j + 2 := Nat.mod_eq_of_lt (by omega)
     by_cases c0 : 0 % L.length ≠ i % L.length ∧ 0 % L.length ≠ (i + 1) % L.length
     · have := h i 0 c0.1 c0.2; simp only [A]; grind
     · by_cases c1 : (j + 1) % L.length ≠ i % L.length ∧ (j + 1) % L.length ≠ (i + 1) % L.length
       · have := h i (j + 1) c1.1 c1.2; simp only [A]; grind
       · have := h i (j + 2) (by omega) (by omega); simp only [A]; grind
    have := Rat.mul_pos t0 hs
    rw [hA, hA, hA] at this
    grind
 rw [Pg.sum_lin, hT, hfx, hfy] at hpos
 have hc : A (Pg.center L) * (2 * Pg.area L) = 2 * (3 * K * (Pg.area L * (1 / 3)) + g1 * (Pg.sum Pg.fx (Pg.sides L) * (1 / 6)) + g2 * (Pg.sum Pg.fy (Pg.sides L) * (1 / 6))) := by
  rw [hA]
  unfold Pg.center vsca
  rw [hS, Pg.div13]
  generalize Pg.sum Pg.fx (Pg.sides L) = x
  generalize Pg.sum Pg.fy (Pg.sides L) = y
  have : Pg.area L ≠ 0 := by grind
  grind
 exact Pg.pos_div (x := 2 * Pg.area L) (by grind) hc (by grind)
end
end Go.Proofs.YtcfejkpadcccbaaGreat
