/-
 THE LAWS by the engine, their arguments as they come in.
-/
import Derived.Test.YtbaggkbleehegaaGreatExR
import Derived.Test.YtbaggkbleehegaaGreatFlow
import Derived.OpenShut
import Derived.Test.YtbaggkbleehegaaGreatPgO
namespace Go.Proofs.YtbaggkbleehegaaGreat.E
open Go.RowKit
set_option linter.unusedVariables false
section
variable {a b c d n p : Rat × Rat} {r q x : Rat} {i j k : Nat} {L : List (Rat × Rat)}
end
end Go.Proofs.YtbaggkbleehegaaGreat.E
namespace Go.Proofs.YtbaggkbleehegaaGreat.E.Ct
open Go.RowKit
set_option linter.unusedVariables false
set_option linter.unusedSimpArgs false
section
variable {l : List Int} {x y z : Int} {i j k m n b : Nat} {st gl : Int} {s : Sc} {F : List Ft} {rt : Nat → Int} {f : Nat → Rat} {p : Nat → Bool} {S : Rat} {B : List Rat}
/-- What stands in the body of the law. -/
structure Wt (s : Sc) (F : List Ft) (st gl : Int) (AL : List (List V)) : Prop where
 ok : ScOk s F
 pos : s.Pos
 al : AL.length = ((List.range s.L.length).filter (inB st)).length
end
end Go.Proofs.YtbaggkbleehegaaGreat.E.Ct
namespace Go.Proofs.YtbaggkbleehegaaGreat.E.Ct
open Go.RowKit
set_option linter.unusedVariables false
set_option linter.unusedSimpArgs false
section
variable {u : Su} {k i : Nat} {c d a b : Vc} {x h e : Rat}
theorem le0_iff {a b : Rat} : le0 a b = true ↔ a ≤ b := by
 have h := le_gt a b
 rw [h]
 cases g : gt0 a b with
 | true => have := gt0_iff.1 g; simp; grind
 | false =>
  have : ¬ b < a := fun e => by rw [gt0_iff.2 e] at g; cases g
  simp
  grind
theorem lt0_iff {a b : Rat} : lt0 a b = true ↔ a < b := by
 unfold lt0 cmpQ
 rw [decide_eq_true_iff]
 by_cases h1 : a < b
 · rw [if_pos h1]
   exact ⟨fun _ => h1, fun _ => by decide⟩
 · rw [if_neg h1]
   split
   · exact ⟨fun h => by omega, fun h => absurd h h1⟩
   · exact ⟨fun h => by omega, fun h => absurd h h1⟩
theorem near_iff {y h e : Rat} : nearB y h e = true ↔ y - h ≤ e ∧ -(y - h) ≤ e := by
 unfold nearB
 rw [Bool.and_eq_true, le0_iff, le0_iff]
theorem mnp {x y : Rat} (h : x ≤ 0) (g : 0 ≤ y) : x * y ≤ 0 := by
 have := Rat.mul_nonneg (show 0 ≤ -x by grind) g
 grind
theorem mpn {x y : Rat} (h : 0 ≤ x) (g : y ≤ 0) : x * y ≤ 0 := by
 have := Rat.mul_nonneg h (show 0 ≤ -y by grind)
 grind
theorem mnn {x y : Rat} (h : x ≤ 0) (g : y ≤ 0) : 0 ≤ x * y := by
 have := Rat.mul_nonneg (show 0 ≤ -x by grind) (show 0 ≤ -y by grind)
 grind
/-- On the line through two points, between them. -/
theorem on_mid {t : Vc} (h1 : c.1 < t.1) (h2 : t.1 < d.1) (h : Pg.cr c d t = 0) : Pg.On c d t := by
 refine ⟨h, ?_⟩
 unfold Pg.cr vcrs vsub at h
 simp only at h
 show (c.1 - t.1) * (d.1 - t.1) + (c.2 - t.2) * (d.2 - t.2) ≤ 0
 have m1 : (c.1 - t.1) * (d.1 - t.1) ≤ 0 := mnp (by grind) (by grind)
 -- (d.1 - c.1) (c.2 - t.2) = - (t.1 - c.1) (d.2 - c.2)
 have k1 : (d.1 - c.1) * (c.2 - t.2) = -((t.1 - c.1) * (d.2 - c.2)) := by grind
 have k2 : (d.1 - c.1) * (d.2 - t.2) = (d.1 - t.1) * (d.2 - c.2) := by grind
 have hw : 0 < d.1 - c.1 := by grind
 have key : (c.2 - t.2) * (d.2 - t.2) ≤ 0 := by
  by_cases g : 0 ≤ d.2 - c.2
  · have a1 : c.2 - t.2 ≤ 0 := by
     have := Rat.mul_nonneg (show 0 ≤ t.1 - c.1 by grind) g
     by_cases q : c.2 - t.2 ≤ 0
     · exact q
     · have := Rat.mul_pos hw (show 0 < c.2 - t.2 by grind)
       grind
    have a2 : 0 ≤ d.2 - t.2 := by
     have := Rat.mul_nonneg (show 0 ≤ d.1 - t.1 by grind) g
     by_cases q : 0 ≤ d.2 - t.2
     · exact q
     · have := Rat.mul_pos hw (show 0 < -(d.2 - t.2) by grind)
       grind
    exact mnp a1 a2
  · have g' : d.2 - c.2 ≤ 0 := by grind
    have a1 : 0 ≤ c.2 - t.2 := by
     have := mpn (show 0 ≤ t.1 - c.1 by grind) g'
     by_cases q : 0 ≤ c.2 - t.2
     · exact q
     · have := Rat.mul_pos hw (show 0 < -(c.2 - t.2) by grind)
       grind
    have a2 : d.2 - t.2 ≤ 0 := by
     have := mpn (show 0 ≤ d.1 - t.1 by grind) g'
     by_cases q : d.2 - t.2 ≤ 0
     · exact q
     · have := Rat.mul_pos hw (show 0 < d.2 - t.2 by grind)
       grind
    exact mpn a1 a2
 grind
/-- An upright segment meets a side that passes it within its height. -/
theorem meet_v (hx : c.1 ≤ x ∧ x ≤ d.1) (h0 : c.1 < d.1) (hc : c.2 - h ≤ e ∧ -(c.2 - h) ≤ e) (hd : d.2 - h ≤ e ∧ -(d.2 - h) ≤ e) : Pg.meets (x, h - e) (x, h + e) c d = true := by
 rw [meets_iff]
 have he : 0 ≤ e := by grind
 have up : ∀ t : Vc, t.1 = x → t.2 - h ≤ e → -(t.2 - h) ≤ e → Pg.On (x, h - e) (x, h + e) t := fun t t1 t2 t3 => by
  refine ⟨?_, ?_⟩
  · unfold Pg.cr vcrs vsub
    simp only
    grind
  · show (x - t.1) * (x - t.1) + (h - e - t.2) * (h + e - t.2) ≤ 0
    have := mnp (show h - e - t.2 ≤ 0 by grind) (show 0 ≤ h + e - t.2 by grind)
    rw [t1]
    grind
 by_cases q1 : c.1 = x
 · exact .inr (.inl (up c q1 hc.1 hc.2))
 by_cases q2 : d.1 = x
 · exact .inr (.inr (.inl (up d q2 hd.1 hd.2)))
 have x1 : c.1 < x := by grind
 have x2 : x < d.1 := by grind
 have u1 : 0 < x - c.1 := by grind
 have u2 : 0 < d.1 - x := by grind
 -- the crosses
 have e1 : Pg.cr (x, h - e) (x, h + e) c = (e + e) * (x - c.1) := by unfold Pg.cr vcrs vsub; simp only; grind
 have e2 : Pg.cr (x, h - e) (x, h + e) d = -((e + e) * (d.1 - x)) := by unfold Pg.cr vcrs vsub; simp only; grind
 have e3 : Pg.cr c d (x, h - e) = (x - c.1) * (h - e - d.2) + (d.1 - x) * (h - e - c.2) := by unfold Pg.cr vcrs vsub; simp only; grind
 have e4 : Pg.cr c d (x, h + e) = (x - c.1) * (h + e - d.2) + (d.1 - x) * (h + e - c.2) := by unfold Pg.cr vcrs vsub; simp only; grind
 have s3 : Pg.cr c d (x, h - e) ≤ 0 := by
  rw [e3]
  have := mpn (Rat.le_of_lt u1) (show h - e - d.2 ≤ 0 by grind)
  have := mpn (Rat.le_of_lt u2) (show h - e - c.2 ≤ 0 by grind)
  grind
 have s4 : 0 ≤ Pg.cr c d (x, h + e) := by
  rw [e4]
  have := Rat.mul_nonneg (Rat.le_of_lt u1) (show 0 ≤ h + e - d.2 by grind)
  have := Rat.mul_nonneg (Rat.le_of_lt u2) (show 0 ≤ h + e - c.2 by grind)
  grind
 by_cases z3 : Pg.cr c d (x, h - e) = 0
 · exact .inr (.inr (.inr (.inl (on_mid x1 x2 z3))))
 by_cases z4 : Pg.cr c d (x, h + e) = 0
 · exact .inr (.inr (.inr (.inr (on_mid x1 x2 z4))))
 have hep : 0 < e := by
  by_cases g : 0 < e
  · exact g
  · have ez : e = 0 := by grind
    exact absurd (by rw [e3]; have : c.2 = h := by grind
                     have : d.2 = h := by grind
                     grind) z3
 refine .inl ⟨?_, ?_⟩
 · have p1 := Rat.mul_pos (show 0 < e + e by grind) u1
   have p2 := Rat.mul_pos (show 0 < e + e by grind) u2
   rw [e1, e2]
   have := Rat.mul_pos p1 p2
   grind
 · have p1 : 0 < -Pg.cr c d (x, h - e) := by grind
   have p2 : 0 < Pg.cr c d (x, h + e) := by grind
   have := Rat.mul_pos p1 p2
   grind
/-- An upright segment meets the side that begins at a corner on it. -/
theorem meet_c (h0 : c.1 = x) (hc : c.2 - h ≤ e ∧ -(c.2 - h) ≤ e) : Pg.meets (x, h - e) (x, h + e) c d = true := by
 rw [meets_iff]
 refine .inr (.inl ⟨?_, ?_⟩)
 · unfold Pg.cr vcrs vsub
   simp only
   grind
 · show (x - c.1) * (x - c.1) + (h - e - c.2) * (h + e - c.2) ≤ 0
   have := mnp (show h - e - c.2 ≤ 0 by grind) (show 0 ≤ h + e - c.2 by grind)
   rw [h0]
   grind
/-- What a segment is. -/
structure SegOk (u : Su) (y : Vc × Vc) : Prop where
 h1 : y.1.2 = u.P.2
 h2 : y.2.2 = u.P.2
 lo1 : u.P.1 ≤ y.1.1
 hi1 : y.1.1 ≤ u.Q.1
 lo2 : u.P.1 ≤ y.2.1
 hi2 : y.2.1 ≤ u.Q.1
 le : y.1.1 ≤ y.2.1
 m1 : ∃ k, k < u.L.length ∧ Pg.meets (y.1.1, y.1.2 - u.e) (y.1.1, y.1.2 + u.e) (u.at_ k) (u.at_ (u.nx k)) = true
 m2 : ∃ k, k < u.L.length ∧ Pg.meets (y.2.1, y.2.2 - u.e) (y.2.1, y.2.2 + u.e) (u.at_ k) (u.at_ (u.nx k)) = true
theorem segs_ok (hPQ : u.P.1 ≤ u.Q.1) : ∀ y ∈ u.segs, SegOk u y := fun y hy => by
 unfold Su.segs Su.p2 Su.p1 at hy
 rcases List.mem_append.1 hy with hy | hy
 · obtain ⟨k, hk, h2⟩ := List.mem_flatMap.1 hy
   have hk := List.mem_range.1 hk
   unfold Su.sg1 at h2
   split at h2
   · rename_i hc
     obtain ⟨hlv, hle⟩ := hc
     simp only [List.mem_singleton] at h2
     subst h2
     unfold Su.level at hlv
     rw [Bool.and_eq_true, Bool.and_eq_true] at hlv
     obtain ⟨g1, g2, g3⟩ := hlv
     have g1 := gt0_iff.1 g1
     unfold Su.near at g2 g3
     rw [near_iff] at g2 g3
     have hle := le0_iff.1 hle
     have f1 : u.P.1 ≤ u.from_ k ∧ (u.at_ k).1 ≤ u.from_ k := by
      unfold Su.from_
      split
      · rename_i q; have := lt0_iff.1 q; exact ⟨Rat.le_refl, by grind⟩
      · rename_i q; rw [lt0_iff] at q; exact ⟨by grind, Rat.le_refl⟩
     have f2 : u.to_ k ≤ u.Q.1 ∧ u.to_ k ≤ (u.at_ (u.nx k)).1 := by
      unfold Su.to_
      split
      · rename_i q; have := gt0_iff.1 q; exact ⟨Rat.le_refl, by grind⟩
      · rename_i q; rw [gt0_iff] at q; exact ⟨by grind, Rat.le_refl⟩
     generalize u.from_ k = f at *
     generalize u.to_ k = t at *
     exact ⟨rfl, rfl, f1.1, by show f ≤ u.Q.1; grind, by show u.P.1 ≤ t; grind, f2.1, hle, ⟨k, hk, meet_v ⟨f1.2, by grind⟩ g1 g2 g3⟩, ⟨k, hk, meet_v ⟨by grind, f2.2⟩ g1 g2 g3⟩⟩
   · cases h2
 · obtain ⟨k, hk, h2⟩ := List.mem_flatMap.1 hy
   have hk := List.mem_range.1 hk
   unfold Su.sg2 at h2
   split at h2
   · rename_i hc
     simp only [List.mem_singleton] at h2
     subst h2
     unfold Su.tip at hc
     simp only [Bool.and_eq_true, Bool.not_eq_true'] at hc
     obtain ⟨_, _, g1, g2, g3, _⟩ := hc
     unfold Su.near at g1
     rw [near_iff] at g1
     have q2 : u.P.1 ≤ (u.at_ k).1 := by
      by_cases q : (u.at_ k).1 < u.P.1
      · rw [lt0_iff.2 q] at g2; cases g2
      · grind
     have q3 : (u.at_ k).1 ≤ u.Q.1 := by
      by_cases q : u.Q.1 < (u.at_ k).1
      · rw [gt0_iff.2 q] at g3; cases g3
      · grind
     exact ⟨rfl, rfl, q2, q3, q2, q3, Rat.le_refl, ⟨k, hk, meet_c rfl g1⟩, ⟨k, hk, meet_c rfl g1⟩⟩
   · cases h2
/-- Where no corner is lower, a corner at the height of the prop is in a segment. -/
theorem segs_at (he : u.e = 0) (hlow : ∀ k, k < u.L.length → u.P.2 ≤ (u.at_ k).2) (hi : i < u.L.length) (h1 : (u.at_ i).2 = u.P.2) (h2 : u.P.1 ≤ (u.at_ i).1) (h3 : (u.at_ i).1 ≤ u.Q.1) : ∃ y ∈ u.segs, y.1.1 ≤ (u.at_ i).1 ∧ (u.at_ i).1 ≤ y.2.1 := by
 have hnx : u.nx i < u.L.length := Nat.mod_lt _ (by omega)
 have hbf : u.bf i < u.L.length := Nat.mod_lt _ (by omega)
 have hnb : u.nx (u.bf i) = i := by
  unfold Su.nx Su.bf
  rcases Nat.eq_zero_or_pos i with e | e
  · subst e
    rw [Nat.mod_eq_of_lt (show 0 + u.L.length - 1 < u.L.length by omega), show 0 + u.L.length - 1 + 1 = u.L.length by omega, Nat.mod_self]
  · rw [show i + u.L.length - 1 = (i - 1) + u.L.length by omega, Nat.add_mod_right, Nat.mod_eq_of_lt (show i - 1 < u.L.length by omega), show i - 1 + 1 = i by omega, Nat.mod_eq_of_lt hi]
 have mem1 : ∀ k, k < u.L.length → ∀ y ∈ u.sg1 k, y ∈ u.segs := fun k hk y hy => by
  unfold Su.segs Su.p2 Su.p1
  exact List.mem_append.2 (.inl (List.mem_flatMap.2 ⟨k, List.mem_range.2 hk, hy⟩))
 have mem2 : ∀ k, k < u.L.length → ∀ y ∈ u.sg2 k, y ∈ u.segs := fun k hk y hy => by
  unfold Su.segs Su.p2
  exact List.mem_append.2 (.inr (List.mem_flatMap.2 ⟨k, List.mem_range.2 hk, hy⟩))
 have near1 : u.near i = true := by
  unfold Su.near
  rw [near_iff, he, h1]
  constructor <;> grind
 by_cases l1 : u.level i = true
 · -- the edge that begins here
   have hl := l1
   unfold Su.level at hl
   rw [Bool.and_eq_true] at hl
   have g1 := gt0_iff.1 hl.1
   have hf : u.from_ i = (u.at_ i).1 := by
    unfold Su.from_
    rw [if_neg (by rw [lt0_iff]; grind)]
   have ht : (u.at_ i).1 ≤ u.to_ i := by
    unfold Su.to_
    split
    · exact h3
    · exact Rat.le_of_lt g1
   refine ⟨((u.from_ i, u.P.2), (u.to_ i, u.P.2)), mem1 i hi _ ?_, by rw [hf]; exact Rat.le_refl, ht⟩
   unfold Su.sg1
   rw [if_pos ⟨l1, by rw [le0_iff, hf]; exact ht⟩]
   exact List.mem_singleton.2 rfl
 by_cases l2 : u.level (u.bf i) = true
 · have hl := l2
   unfold Su.level at hl
   rw [Bool.and_eq_true, hnb] at hl
   have g1 := gt0_iff.1 hl.1
   have ht : u.to_ (u.bf i) = (u.at_ i).1 := by
    unfold Su.to_
    rw [hnb, if_neg (by rw [gt0_iff]; grind)]
   have hf : u.from_ (u.bf i) ≤ (u.at_ i).1 := by
    unfold Su.from_
    split
    · exact h2
    · exact Rat.le_of_lt g1
   refine ⟨((u.from_ (u.bf i), u.P.2), (u.to_ (u.bf i), u.P.2)), mem1 _ hbf _ ?_, hf, by rw [ht]; exact Rat.le_refl⟩
   unfold Su.sg1
   rw [if_pos ⟨l2, by rw [le0_iff, ht]; exact hf⟩]
   exact List.mem_singleton.2 rfl
 refine ⟨(((u.at_ i).1, u.P.2), ((u.at_ i).1, u.P.2)), mem2 i hi _ ?_, Rat.le_refl, Rat.le_refl⟩
 have b1 := hlow (u.bf i) hbf
 have b2 := hlow (u.nx i) hnx
 have t : u.tip i = true := by
  unfold Su.tip
  simp only [Bool.and_eq_true, Bool.not_eq_true']
  have ff : ∀ b : Bool, b ≠ true → b = false := fun b h => by cases b <;> simp at h; rfl
  exact ⟨ff _ l1, ff _ l2, near1, ff _ (by rw [Ne, lt0_iff]; grind), ff _ (by rw [Ne, gt0_iff]; grind), ff _ (by rw [Ne, lt0_iff]; grind), ff _ (by rw [Ne, lt0_iff]; grind)⟩
 unfold Su.sg2
 rw [if_pos t]
 exact List.mem_singleton.2 rfl
end
end Go.Proofs.YtbaggkbleehegaaGreat.E.Ct
namespace Go.Proofs.YtbaggkbleehegaaGreat.E.Ct
open Go.RowKit
set_option linter.unusedVariables false
set_option linter.unusedSimpArgs false
theorem take_st {α : Type} {l m : List α} {i : Nat} {a b : α} (h : l.take i = m.take i) (ha : l[i]? = some a) (hb : m[i]? = some b) (e : a = b) : l.take (i + 1) = m.take (i + 1) := by
 rw [List.take_add_one, List.take_add_one, h, ha, hb, e]
noncomputable abbrev feq : Func := fnOf PP 101
theorem e_eqI (l m : List Int) : Pure PP 101 [zl l, zl m] (bo (decide (l = m))) := by
 refine .len 0 (l := zs l) (by kernel_rfl) rfl fun hm => ?_
 have z1 := zs_len l
 have z2 := zs_len m
 unfold maxLen at hm
 by_cases hl : l.length = m.length
 · let X : Nat → St := fun i => at_ feq [(0, zl l), (1, zl m), (12, ni ((zs l).length : Int)), (13, ni i)] []
   refine pf (by kernel_rfl) (.to mo_ [] [0, 1, 12, 13] [] 0 [na (t := ((zs l).length : Int) != ((zs m).length : Int)) (by rw [z1, z2, hl]; simp)] (td' := lp feq 0) (σ' := X 0) ?_ (by kernel_rfl))
   refine Gd.loop X (fun i => i ≤ l.length ∧ l.take i = m.take i) (fun i => l.length - i) ?_ 0 ⟨Nat.zero_le _, rfl⟩
   intro i ⟨hi, hI⟩ ih
   by_cases h : i < l.length
   · obtain ⟨a, ha, _⟩ := get_of h
     obtain ⟨b, hb, _⟩ := get_of (l := m) (i := i) (by omega)
     have hlt : decide ((i : Int) < ((zs l).length : Int)) = true := decide_eq_true (by omega)
     by_cases e : a = b
     · exact .to mo_ [] [0, 1, 12, 13] [] 0 ([ye hlt, .sel _ _ _ (zs_at ha), .sel _ _ _ (zs_at hb)] ++ [na (t := a != b) (by simp [e]), inc 25 i (by omega)]) (ih (i + 1) ⟨h, take_st hI ha hb e⟩ (by omega)) (by kernel_rfl)
     · have hne : l ≠ m := fun h2 => by subst h2; rw [ha] at hb; exact e (Option.some.inj hb)
       rw [show decide (l = m) = false from decide_eq_false hne]
       exact fi ([ye hlt, .sel _ _ _ (zs_at ha), .sel _ _ _ (zs_at hb)] ++ [ye (t := a != b) (by simp [e])]) (by kernel_rfl) (by kernel_rfl)
   · have heq : l = m := by rwa [List.take_of_length_le (by omega), List.take_of_length_le (by omega)] at hI
     rw [show decide (l = m) = true from decide_eq_true heq]
     exact fi [na (t := decide ((i : Int) < ((zs l).length : Int))) (decide_eq_false (by omega))] (by kernel_rfl) (by kernel_rfl)
 · rw [show decide (l = m) = false from decide_eq_false fun e => hl (by rw [e])]
   exact tr [ye (t := ((zs l).length : Int) != ((zs m).length : Int)) (by rw [z1, z2]; simp; omega)] (by kernel_rfl)
theorem e_psame1 (x y : Int) : Pure PP 100 [.ag (dI x), .ag (dI y)] (bo (decide (x = y))) := by
 by_cases hs : decide (x < 0) = decide (y < 0)
 · have hd : decide (x = y) = decide (digs x.natAbs = digs y.natAbs) := by
    rw [decide_eq_decide]
    refine ⟨fun e => by rw [e], fun heq => ?_⟩
    have h2 : (x.natAbs : Int) = (y.natAbs : Int) := by rw [← val_ (x := x), ← val_ (x := y), heq]
    by_cases h4 : x < 0 <;> by_cases h5 : y < 0 <;> simp [h4, h5] at hs <;> omega
   rw [hd]
   exact tr [ye (t := decide (x < 0) == decide (y < 0)) (by rw [hs]; simp), cl (e_eqI (digs x.natAbs) (digs y.natAbs))] (by kernel_rfl)
 · rw [decide_eq_false (fun e => hs (by rw [e]))]
   exact tr [na (t := decide (x < 0) == decide (y < 0)) (by simpa using hs)] (by kernel_rfl)
theorem e_psame (r t : Rat) : Pure PP 45 [.ag (dR r), .ag (dR t)] (bo (decide (r = t))) := by
 by_cases h : r.num = t.num
 · rw [show decide (r = t) = decide (dq r = dq t) from decide_eq_decide.2 ⟨fun e => by rw [e], dq_inj h⟩]
   exact tr [cl (e_psame1 r.num t.num), ye (decide_eq_true h), cl (e_psame1 (dq r) (dq t))] (by kernel_rfl)
 · rw [show decide (r = t) = false from decide_eq_false fun e => h (by rw [e])]
   exact tr [cl (e_psame1 r.num t.num), na (decide_eq_false h)] (by kernel_rfl)
theorem dV_0r (r : Rat) : dV (0, r) = z4_ ++ dR r := by show dR 0 ++ dR r = _; rw [dR_0]; rfl
section
variable {L : List Vc} {c : Vc} {r : Rat} {e : Int} {i k m : Nat} {l x : List Int}
def L.at_ (L : List Vc) (k : Nat) : Vc := L.getD k (0, 0)
noncomputable abbrev fme : Func := fnOf PP 46
/-- A side is met. -/
theorem e_met (hb : ∀ a ∈ L, Bv 8 a) (hn : 0 < L.length ∧ L.length ≤ 100) (bc : Bv 100 c) (br : Bq 100 r) (h : ∃ k, k < L.length ∧ Pg.meets (c.1, c.2 - r) (c.1, c.2 + r) (L.getD k (0, 0)) (L.getD ((k + 1) % L.length) (0, 0)) = true) : Pure PP 46 [dL L, .ag (dV c), .ag (dR r)] (bo true) := by
 obtain ⟨K, hK, hm⟩ := h
 have hlen : (L.map dV).length = L.length := List.length_map ..
 obtain ⟨n, hnn⟩ : ∃ n, L.length = n + 1 := ⟨L.length - 1, by omega⟩
 have z1 : Bv 100 (0, r) := ⟨Bq.zero (by omega), br⟩
 have c1 := e_vsub bc z1 (by show 10 * (_ + _) + _ ≤ _; omega)
 have c2 := e_vadd bc z1 (by show 10 * (_ + _) + _ ≤ _; omega)
 have f1 : vsub c (0, r) = (c.1, c.2 - r) := by unfold vsub; simp only [Prod.mk.injEq, and_true]; grind
 have f2 : vadd c (0, r) = (c.1, c.2 + r) := by unfold vadd; simp only [Prod.mk.injEq, and_true]; grind
 rw [f1, dV_0r] at c1
 rw [f2, dV_0r] at c2
 have b1 : Bv 300 (c.1, c.2 - r) := ⟨bc.1.mono (by omega), (bc.2.sub br).mono (by omega)⟩
 have b2 : Bv 300 (c.1, c.2 + r) := ⟨bc.1.mono (by omega), (bc.2.add br).mono (by omega)⟩
 generalize (c.1, c.2 - r) = A at *
 generalize (c.1, c.2 + r) = B at *
 let X : Nat → St := fun k => at_ fme [(0, dL L), (7, .lp 2 0), (8, .lp 3 0), (9, ni (k : Int))] [.dead, .dead, .bx 43 (dV A), .bx 43 (dV B)]
 refine pf (by kernel_rfl) (.to mo_ [] [0, 7, 8, 9] [2, 3] 4 [cl c1, cl c2] (td' := lp fme 0) (σ' := X 0) ?_ (by kernel_rfl))
 refine Gd.loop X (fun k => k ≤ K) (fun k => K - k) ?_ 0 (Nat.zero_le _)
 intro k hk ih
 have e1 : (L.map dV)[k]? = some (dV (L.getD k (0, 0))) := E.el (by omega)
 have hmod : (k + 1) % L.length < L.length := Nat.mod_lt _ (by omega)
 have e2 : (L.map dV)[(k + 1) % L.length]? = some (dV (L.getD ((k + 1) % L.length) (0, 0))) := E.el hmod
 have d1 : Bv 8 (L.getD k (0, 0)) := getD_bv hb k (by omega)
 have d2 : Bv 8 (L.getD ((k + 1) % L.length) (0, 0)) := getD_bv hb _ hmod
 have cm := e_meets (k := 300) b1 b2 (d1.mono (by omega)) (d2.mono (by omega)) (by omega)
 cases hq : Pg.meets A B (L.getD k (0, 0)) (L.getD ((k + 1) % L.length) (0, 0)) with
 | true =>
  rw [hq] at cm
  exact fi ([.eqv 20 (ni ((L.map dV).length : Int)) (ni (L.length : Int)) (by rw [hlen]), ye (t := decide ((k : Int) < (L.length : Int))) (decide_eq_true (by omega)), .sel _ _ _ e1, inc 32 k (by omega), .eqv 34 (ni ((L.map dV).length : Int)) (ni ((n + 1 : Nat) : Int)) (by rw [hlen, hnn]), rem_ (L := L) 35 (k + 1) n hnn, .sel _ _ _ e2, cl cm, yt]) (by kernel_rfl) (by kernel_rfl)
 | false =>
  have hne : k ≠ K := fun e => by subst e; rw [hq] at hm; cases hm
  rw [hq] at cm
  exact .to mo_ [] [0, 7, 8, 9] [2, 3] 4 ([.eqv 20 (ni ((L.map dV).length : Int)) (ni (L.length : Int)) (by rw [hlen]), ye (t := decide ((k : Int) < (L.length : Int))) (decide_eq_true (by omega)), .sel _ _ _ e1, inc 32 k (by omega), .eqv 34 (ni ((L.map dV).length : Int)) (ni ((n + 1 : Nat) : Int)) (by rw [hlen, hnn]), rem_ (L := L) 35 (k + 1) n hnn, .sel _ _ _ e2, cl cm, nf, inc 23 k (by omega)]) (ih (k + 1) (by omega) (by omega)) (by kernel_rfl)
noncomputable abbrev fsu : Func := fnOf PP 8
abbrev GSu (td : List Item) (σ : St) : Prop := Gd PP 8 (.v (bo true)) td σ
noncomputable def su1 (L : List Vc) (PR QR : Vc) (e : Int) (m : List (Nat × V)) : St := at_ fsu ([(2, ni e), (7, dL L), (8, .lp 0 0)] ++ m) [.bx 48 (dV PR ++ dV QR)]
theorem su_j0 {PR QR : Vc} {S : List (Vc × Vc)} {y : Vc × Vc} (hy : S[i]? = some y) (so : SegOk ⟨L, PR, QR, marQ e⟩ y) (hb : ∀ a ∈ L, Bv 8 a) (hn : 0 < L.length ∧ L.length ≤ 100) (bP : Bv 100 PR) (bQ : Bv 100 QR) (by1 : Bv 100 y.1) (by2 : Bv 100 y.2) (he : W.Is64 e) (next : GSu (lp fsu 1) (su1 L PR QR e [(11, .sl (sgR S)), (12, ni (i : Int)), (13, ni 1)])) : GSu (lp fsu 1) (su1 L PR QR e [(11, .sl (sgR S)), (12, ni (i : Int)), (13, ni 0)]) := by
 have e1 : (sgR S)[i]? = some (sgV y) := by unfold sgR; rw [List.getElem?_map, hy]; rfl
 have cm := e_margin he
 have ct := e_met (c := y.1) (r := marQ e) hb hn (by1) (mar_bits e) (by
  obtain ⟨k, h1, h2⟩ := so.m1
  exact ⟨k, h1, h2⟩)
 have r1 := e_psame y.1.2 PR.2
 rw [decide_eq_true so.h1] at r1
 have r2 := e_rcmp by1.1 bP.1 (by omega)
 have g2 := cmp_ge so.lo1
 have r3 := e_rcmp by1.1 bQ.1 (by omega)
 have g3 := cmp_le so.hi1
 have r4 := e_rcmp by1.1 by2.1 (by omega)
 have g4 := cmp_le so.le
 simp only at g2 g3
 obtain ⟨⟨y1, y2⟩, ⟨y3, y4⟩⟩ := y
 exact .to mo_ [] [2, 7, 8, 11, 12, 13] [0] 1 [yt, .sel _ _ _ e1, cl r1, nf, cl r2, na g2, cl r3, na g3, .sel _ _ _ e1, .sel _ _ _ e1, cl r4, na g4, cl cm, cl ct, nf] next (by kernel_rfl)
theorem su_j1 {PR QR : Vc} {S : List (Vc × Vc)} {y : Vc × Vc} (hy : S[i]? = some y) (so : SegOk ⟨L, PR, QR, marQ e⟩ y) (hb : ∀ a ∈ L, Bv 8 a) (hn : 0 < L.length ∧ L.length ≤ 100) (bP : Bv 100 PR) (bQ : Bv 100 QR) (by1 : Bv 100 y.1) (by2 : Bv 100 y.2) (he : W.Is64 e) (next : GSu (lp fsu 1) (su1 L PR QR e [(11, .sl (sgR S)), (12, ni (i : Int)), (13, ni 2)])) : GSu (lp fsu 1) (su1 L PR QR e [(11, .sl (sgR S)), (12, ni (i : Int)), (13, ni 1)]) := by
 have e1 : (sgR S)[i]? = some (sgV y) := by unfold sgR; rw [List.getElem?_map, hy]; rfl
 have cm := e_margin he
 have ct := e_met (c := y.2) (r := marQ e) hb hn (by2) (mar_bits e) (by
  obtain ⟨k, h1, h2⟩ := so.m2
  exact ⟨k, h1, h2⟩)
 have r1 := e_psame y.2.2 PR.2
 rw [decide_eq_true so.h2] at r1
 have r2 := e_rcmp by2.1 bP.1 (by omega)
 have g2 := cmp_ge so.lo2
 have r3 := e_rcmp by2.1 bQ.1 (by omega)
 have g3 := cmp_le so.hi2
 have r4 := e_rcmp by1.1 by2.1 (by omega)
 have g4 := cmp_le so.le
 simp only at g2 g3
 obtain ⟨⟨y1, y2⟩, ⟨y3, y4⟩⟩ := y
 exact .to mo_ [] [2, 7, 8, 11, 12, 13] [0] 1 [yt, .sel _ _ _ e1, cl r1, nf, cl r2, na g2, cl r3, na g3, .sel _ _ _ e1, .sel _ _ _ e1, cl r4, na g4, cl cm, cl ct, nf] next (by kernel_rfl)
end
end Go.Proofs.YtbaggkbleehegaaGreat.E.Ct
namespace Go.Proofs.YtbaggkbleehegaaGreat
open Go.RowKit
theorem is64_of {n : Int} (h : (Lit.int .i64 n).wf = true) : W.Is64 n := by
 have := bounds_i64 h
 unfold W.Is64
 omega
end Go.Proofs.YtbaggkbleehegaaGreat
namespace Go.Proofs.YtbaggkbleehegaaGreat.E
open Go.RowKit
set_option linter.unusedVariables false
theorem cb_of {w : World} {b o : Nat} {v : Value} (h : w.cell? ⟨b, o, none⟩ = some v) : CB w b := by
 unfold World.cell? at h
 split at h
 · rename_i cs T fr hb
   exact ⟨cs, T, fr, hb⟩
 · cases h
def Rt (X : World → Value → Prop) (w : World) (e : Ending) (w' : World) : Prop := ∃ v, e = .returned v ∧ X w' v ∧ Below w.heap.size w w'
theorem back {P : Program} {f : FuncId} {ds : List V} {d : V} (h : Pure P f ds d) {w : World} {args : Array Value} (ha : Reps w (fun _ => False) no args ds) : Calls P f args w (Rt (fun w v => Rep w (fun _ => False) no v d) w) :=
 (h.2 w (fun _ => False) args (fun _ h => h.elim) ha).mono fun e w' h => h
theorem to_tt {w w' : World} {e : Ending} (h : Rt (fun w v => Rep w (fun _ => False) no v (bo true)) w e w') : e = .returned (.bool true) ∧ Below w.heap.size w w' := by
 obtain ⟨v, rfl, h1, h2⟩ := h
 exact ⟨by rw [Rep.k_inv h1], h2⟩
/-- A law of any arguments. -/
theorem lawG {f : FuncId} {us : List Value} {ds : List V} {w : World} (h : Pure PP f ds (bo true)) (hg : Glo w (fun _ => False)) (hl : us.length = ds.length) (hr : ∀ j, j < ds.length → Rep w (fun _ => False) no (us.getD j undef) (ds.getD j .un)) :
    Calls PP f us.toArray w fun e w' => e = .returned (.bool true) ∧ Below w.heap.size w w' :=
 (back h (reps_of hl hg hr)).mono fun _ _ => to_tt
theorem all3 {p : Nat → Prop} (h0 : p 0) (h1 : p 1) (h2 : p 2) : ∀ j, j < 3 → p j := fun j hj => by
 match j, hj with
 | 0, _ => exact h0
 | 1, _ => exact h1
 | 2, _ => exact h2
end Go.Proofs.YtbaggkbleehegaaGreat.E
