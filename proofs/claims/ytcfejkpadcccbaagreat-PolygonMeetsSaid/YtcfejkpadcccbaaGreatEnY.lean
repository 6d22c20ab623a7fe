/-
 THE LAW PolygonMeets, by the engine.
-/
import Derived.Test.YtcfejkpadcccbaaGreatLawE
namespace Go.Proofs.YtcfejkpadcccbaaGreat.E
open Go.RowKit
set_option linter.unusedVariables false
theorem On_sw (a b p : Rat × Rat) : Pg.On b a p ↔ Pg.On a b p := by
 unfold Pg.On
 rw [Pg.cr_swap b a p, show vdot (vsub b p) (vsub a p) = vdot (vsub a p) (vsub b p) by unfold vdot; grind]
 constructor <;> rintro ⟨h1, h2⟩ <;> exact ⟨by grind, h2⟩
theorem Meet_ba (a b c d : Rat × Rat) : Pg.Meet b a c d ↔ Pg.Meet a b c d := by
 unfold Pg.Meet
 rw [On_sw a b c, On_sw a b d, show Pg.cr b a c * Pg.cr b a d = Pg.cr a b c * Pg.cr a b d by rw [Pg.cr_swap b a c, Pg.cr_swap b a d]; grind, show Pg.cr c d b * Pg.cr c d a = Pg.cr c d a * Pg.cr c d b by grind]
 constructor <;> rintro (h | h | h | h | h) <;> simp [h]
theorem Meet_cd (a b c d : Rat × Rat) : Pg.Meet c d b a ↔ Pg.Meet a b c d := by
 rw [← Meet_ba a b c d]
 unfold Pg.Meet
 constructor <;> rintro (⟨h, g⟩ | h | h | h | h)
 · exact .inl ⟨g, h⟩
 · simp [h]
 · simp [h]
 · simp [h]
 · simp [h]
 · exact .inl ⟨g, h⟩
 · simp [h]
 · simp [h]
 · simp [h]
 · simp [h]
theorem Meet_bb (a b c : Rat × Rat) : Pg.Meet a b b c := by
 refine .inr (.inl ⟨Pg.cr_aab a b, ?_⟩)
 unfold vdot vsub
 grind
theorem b_eq {p q : Bool} (h : p = true ↔ q = true) : p = q := by cases p <;> cases q <;> simp_all
section
variable {l m : List Int}
theorem l_meets (hl : ∀ x ∈ l, W.Is64 x) (hm : ∀ x ∈ m, W.Is64 x) : Pure false PP 6 [zl l, zl m] (bo true) := by
 have hb := (polL_ok l).2
 have hn := polL_len l
 have b0 := bel hb (show 0 < _ by omega)
 have b1 := bel hb (show 1 < _ by omega)
 have b2 := bel hb (show 2 < _ by omega)
 let p : Nat → Rat × Rat := fun i => (polL l).getD i (0, 0)
 let D : List (Rat × Rat) := [spot m 0, spot m 3, p 0, p 1, Pg.mid (p 0) (p 1), Pg.mid (p 1) (p 2)]
 have hD : ∀ i, i < 6 → D[i]? = some (D.getD i (0, 0)) := fun i hi => getD_el (L := D) hi
 have hB : ∀ i, i < 6 → Bv 33 (D.getD i (0, 0)) := by
  have : ∀ a ∈ D, Bv 33 a := by
   intro a ha
   simp only [D, List.mem_cons, List.not_mem_nil, or_false] at ha
   rcases ha with rfl | rfl | rfl | rfl | rfl | rfl
   · exact (spot_bits m 0).mono (by omega)
   · exact (spot_bits m 3).mono (by omega)
   · exact b0.mono (by omega)
   · exact b1.mono (by omega)
   · exact mid_bv b0 b1
   · exact mid_bv b1 b2
  exact fun i hi => bel (L := D) this hi
 have hs : ∀ i, i < 6 → (D.map dV)[i]? = some (dV (D.getD i (0, 0))) := fun i hi => sel_map (hD i hi)
 let X : Nat → St := fun i => at_ (fnOf PP 6) [(6, .ow 0), (7, ni i)] [.rw 35 8 (D.map dV)]
 let Y : Nat → Nat → St := fun i j => at_ (fnOf PP 6) [(6, .ow 0), (7, ni i), (8, ni j)] [.rw 35 8 (D.map dV)]
 refine pf (by kernel_rfl) (.to mo_ [] [6, 7] [0] 1 [cl (e_polygon hl), cl (e_spot hm 0 (by omega)), cl (e_spot hm 3 (by omega)), .sel _ 0 _ (el (L := polL l) (i := 0) (by omega)), .sel _ 1 _ (el (L := polL l) (i := 1) (by omega)), .sel _ 0 _ (el (L := polL l) (i := 0) (by omega)), .sel _ 1 _ (el (L := polL l) (i := 1) (by omega)), cl (e_mid b0 b1 (by omega)), .sel _ 1 _ (el (L := polL l) (i := 1) (by omega)), .sel _ 2 _ (el (L := polL l) (i := 2) (by omega)), cl (e_mid b1 b2 (by omega))] (td' := lp (fnOf PP 6) 0) (σ' := X 0) ?_ (by kernel_rfl))
 refine Gd.loop X (fun i => i ≤ 6) (fun i => 6 - i) ?_ _ (Nat.zero_le _)
 intro i hi ih
 have t6 : ∀ i : Nat, i < 6 → decide ((i : Int) < ((D.map dV).length : Int)) = true := fun i hi => decide_eq_true (by show (i : Int) < 6; omega)
 have f6 : ∀ i : Nat, ¬ i < 6 → decide ((i : Int) < ((D.map dV).length : Int)) = false := fun i hi => decide_eq_false (by show ¬ (i : Int) < 6; omega)
 by_cases h : i < 6
 · refine .to mo_ [] [6, 7, 8] [0] 1 [ye (t6 i h)] (td' := lp (fnOf PP 6) 1) (σ' := Y i 0) ?_ (by kernel_rfl)
   refine Gd.loop (Y i) (fun j => j ≤ 6) (fun j => 6 - j) ?_ _ (Nat.zero_le _)
   intro j hj jh
   by_cases g : j < 6
   · have h2 : (i + 2) % 6 < 6 := Nat.mod_lt _ (by omega)
     have h3 : (j + 3) % 6 < 6 := Nat.mod_lt _ (by omega)
     have q2 : ((i + 2 : Nat) : Int).tmod 6 = (((i + 2) % 6 : Nat) : Int) := tmod_ (i + 2) 6
     have q3 : ((j + 3 : Nat) : Int).tmod 6 = (((j + 3) % 6 : Nat) : Int) := tmod_ (j + 3) 6
     have w3 : IntKind.i64.wrap ((j : Int) + 3) = ((j + 3 : Nat) : Int) := by rw [IntKind.wrap_i64]; omega
     have ba := hB i h
     have bb := hB j g
     have bc := hB _ h2
     have bd := hB _ h3
     have m6 := e_meets6 ba bb bc bd (by omega)
     have m1 := e_meets ba bb bc bd (by omega)
     have m2 := e_meets bb ba bc bd (by omega)
     have m3 := e_meets bc bd bb ba (by omega)
     have m4 := e_meets ba bb bb bc (by omega)
     rw [meets_eq] at m6
     rw [b_eq ((meets_iff _ _ _ _).trans ((Meet_ba _ _ _ _).trans (meets_iff _ _ _ _).symm))] at m2
     rw [b_eq ((meets_iff _ _ _ _).trans ((Meet_cd _ _ _ _).trans (meets_iff _ _ _ _).symm))] at m3
     rw [(meets_iff _ _ _ _).2 (Meet_bb _ _ _)] at m4
     let F : List F_ := [ye (t6 j g), .sel _ i _ (hs i h), .sel _ i _ (hs i h), .sel _ j _ (hs j g), .sel _ j _ (hs j g), inc2 63 i (by omega), .eqv 66 (ni (((i + 2 : Nat) : Int).tmod 6)) (ni (((i + 2) % 6 : Nat) : Int)) (by rw [q2]), .sel _ _ _ (hs _ h2), .sel _ _ _ (hs _ h2), .eqv 71 (ni (IntKind.i64.wrap ((j : Int) + 3))) (ni ((j + 3 : Nat) : Int)) (by rw [w3]), .eqv 74 (ni (((j + 3 : Nat) : Int).tmod 6)) (ni (((j + 3) % 6 : Nat) : Int)) (by rw [q3]), .sel _ _ _ (hs _ h3), .sel _ _ _ (hs _ h3)]
     generalize Pg.meets (D.getD i (0, 0)) (D.getD j (0, 0)) (D.getD ((i + 2) % 6) (0, 0)) (D.getD ((j + 3) % 6) (0, 0)) = t at m6 m1 m2 m3
     cases t <;> exact .to mo_ [] [6, 7, 8] [0] 1 (F ++ [cl m6, cl m1, nf, cl m2, nf, cl m3, nf, cl m4, nf, inc 52 j (by omega)]) (jh (j + 1) g (by omega)) (by kernel_rfl)
   · exact .to mo_ [] [6, 7] [0] 1 [na (f6 j g), inc 46 i (by omega)] (ih (i + 1) h (by omega)) (by kernel_rfl)
 · exact fi [na (f6 i h), cl e_lives] (by kernel_rfl) (by kernel_rfl)
end
end Go.Proofs.YtcfejkpadcccbaaGreat.E
