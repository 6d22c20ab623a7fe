/-
 CONTACT: fit.Agree for the pieces of a broken box; the law ContactSides, by the engine.
-/
import Derived.Test.YtbaggkbleehegaaGreatExX
namespace Go.Proofs.YtbaggkbleehegaaGreat.E.Ct
open Go.RowKit
set_option linter.unusedVariables false
set_option linter.unusedSimpArgs false
section
variable {q l : List Int} {a b : Vc} {p : Int × Int} {i j k m n : Nat} {L : List Vc} {x y : Rat}
noncomputable abbrev fag : Func := fnOf PP 56
abbrev GA (q : List Int) (lo hi : Vc) (td : List Item) (σ : St) : Prop := Gd PP 56 (.v (.tu [.ag (dV lo), .ag (dV hi), bo true])) td σ
noncomputable def agS (q : List Int) (e : Rat) (k : Nat) (lo hi : List V) : St := at_ fag [(5, .lp 2 0), (6, .lp 3 0), (7, .lp 4 0), (9, dL ((firP q).map qv)), (10, dL ((secM q).map qv)), (11, .lp 5 0), (12, .lp 6 0), (13, .lp 7 0), (40, ni ((bM q + 1 : Nat) : Int)), (41, ni (k : Int))] [.dead, .dead, .bx 96 (bFit q).v, .bx 43 z8n, .bx 43 z8n, .bx 37 (dR e), .bx 43 lo, .bx 43 hi]
theorem tol_nn (P : List (Int × Int)) (l : List Int) (a : Nat) : 0 ≤ (mkP P l a).tol := by
 have := atz_in l (a + 1) 2
 exact (Rat.divInt_nonneg_iff_of_pos_right (by omega)).2 (by omega)
/-- **Agree**: the box is around the second piece's place. -/
theorem e_agree (q : List Int) : ∃ lo hi : Vc, lo.1 ≤ (bAt q).1 ∧ (bAt q).1 ≤ hi.1 ∧ Bv 1000 lo ∧ Bv 1000 hi ∧ Pure PP 56 [.ag (bA q).v, .ag (bB q).v, .ag (bFit q).v] (.tu [.ag (dV lo), .ag (dV hi), bo true]) := by
 have hm := bM_in q
 have gA := bA_good q
 have gB := bB_good q
 have hT := bT_bits q
 have hC := bAt_bits q
 have hu : (bT q).1 * (bT q).1 + (bT q).2 * (bT q).2 = Rat.divInt 1 1 := by
  have h1 : (Rat.divInt 1 1 : Rat) = 1 := by decide +kernel
  rw [h1]
  exact rq_unit (by show Rat.divInt 1 1 * Rat.divInt 1 1 + 0 * 0 = 1; rw [h1]; grind) _
 have cs := e_stretch q
 have ct := e_tvalid hT.1 hT.2 (by omega) hu
 have c1 := (e_rim gA.ok).ro
 have c2 := (e_rim gB.ok).ro
 have ce := e_radd gA.ok.tol gB.ok.tol (by omega)
 have be := gA.ok.tol.add gB.ok.tol
 have en : 0 ≤ (bA q).tol + (bB q).tol := Rat.add_nonneg (tol_nn _ _ _) (tol_nn _ _ _)
 have nA : ((firP q).map qv).length = bM q + 3 := by rw [List.length_map, firP_len]
 have nB : ((secM q).map qv).length = bM q + 3 := by rw [List.length_map, secM_len]; omega
 have nA2 : (((firP q).map qv).map dV).length = bM q + 3 := by rw [List.length_map, nA]
 have nB2 : (((secM q).map qv).map dV).length = bM q + 3 := by rw [List.length_map, nB]
 change Pure PP _ _ (.v (dL ((firP q).map qv))) at c1
 change Pure PP _ _ (.v (dL ((secM q).map qv))) at c2
 generalize hE : (bA q).tol + (bB q).tol = e at *
 refine ⟨((bAt q).1 - e, (bAt q).2 - e), ((bAt q).1 + e, (bAt q).2 + e), by show (bAt q).1 - e ≤ _; grind, by show _ ≤ (bAt q).1 + e; grind, ⟨(hC.1.sub be).mono (by omega), (hC.2.sub be).mono (by omega)⟩, ⟨(hC.1.add be).mono (by omega), (hC.2.add be).mono (by omega)⟩, ?_⟩
 -- one pair of corners
 have pair : ∀ k, k ≤ bM q → ∃ (u w : Vc) (s1 : (((firP q).map qv).map dV)[1 + k]? = some (dV u)) (s2 : (((secM q).map qv).map dV)[(bM q + 3 - k) % (bM q + 3)]? = some (dV w)), Bv 8 u ∧ Bv 8 w ∧ vsub u (vrot (bT q) w) = bAt q := fun k hk => by
  have e1 := fir_at hk
  have e2 := sec_at hk
  have m1 : ((firP q).map qv)[1 + k]? = some (qv (crP q k)) := by rw [List.getElem?_map, e1]; rfl
  have m2 : ((secM q).map qv)[(bM q + 3 - k) % (bM q + 3)]? = some (qv (mvP q (crP q k))) := by
   unfold secM
   rw [List.getElem?_map, List.getElem?_map, e2]
   rfl
  refine ⟨qv (crP q k), qv (mvP q (crP q k)), by rw [List.getElem?_map, m1]; rfl, by rw [List.getElem?_map, m2]; rfl, qv_sm ((crP_in q hk).mono (by omega)), qv_sm (mvP_in (crP_in q hk)), ?_⟩
  have hb := back_p q (crP q k)
  rw [← hb]
  show vsub (vadd (vrot (bT q) _) (bAt q)) (vrot (bT q) _) = bAt q
  unfold vsub vadd
  apply Prod.ext <;> (simp only; grind)
 have rounds : ∀ k, 1 ≤ k → k ≤ bM q + 1 → GA q ((bAt q).1 - e, (bAt q).2 - e) ((bAt q).1 + e, (bAt q).2 + e) (lp fag 0) (agS q e k (dV (bAt q)) (dV (bAt q))) := fun k h0 h1 => by
  refine Gd.loop (fun (k : Nat) => agS q e k (dV (bAt q)) (dV (bAt q))) (fun k => 1 ≤ k ∧ k ≤ bM q + 1) (fun k => bM q + 1 - k) ?_ k ⟨h0, h1⟩
  intro k ⟨hk0, hk⟩ ih
  by_cases h : k < bM q + 1
  · have nx := ih (k + 1) ⟨by omega, h⟩ (by omega)
    obtain ⟨u, w, s1, s2, b1, b2, hd⟩ := pair k (by omega)
    have a1 := e_arnd (1 + k) (bM q + 2) (by omega)
    have a2 := e_arnd (bM q + 3 - k) (bM q + 2) (by omega)
    rw [Nat.mod_eq_of_lt (show 1 + k < bM q + 2 + 1 by omega)] at a1
    have r1 := e_vrot hT b2 (by show 10 * (_ + _) + _ ≤ _; omega)
    have r2 := e_vsub b1 (hT.rot b2) (by show 10 * (_ + _) + _ ≤ _; omega)
    rw [hd] at r2
    have g1 := e_big hC.1 (by omega)
    have g2 := e_small hC.1 (by omega)
    have g3 := e_big hC.2 (by omega)
    have g4 := e_small hC.2 (by omega)
    unfold agS bFit at nx ⊢
    generalize vrot (bT q) w = R at *
    generalize bT q = T at *
    generalize bAt q = C at *
    obtain ⟨C1, C2⟩ := C
    generalize dL ((firP q).map qv) = FA at *
    exact .to mo_ [] [5, 6, 7, 9, 10, 11, 12, 13, 40, 41] [2, 3, 4, 5, 6, 7] 8 [ye (t := decide ((k : Int) < ((bM q + 1 : Nat) : Int))) (decide_eq_true (by omega)), wq 48 (1 + (k : Int)) ((1 + k : Nat) : Int) (by omega), .eqv 50 (ni ((((firP q).map qv).map dV).length : Int)) (ni ((bM q + 2 + 1 : Nat) : Int)) (by rw [nA2]), cl a1, .sel _ _ _ s1, wq 59 (((bM q + 2 : Nat) : Int) + 1) ((bM q + 3 : Nat) : Int) (by omega), wq 61 (((bM q + 3 : Nat) : Int) - (k : Int)) ((bM q + 3 - k : Nat) : Int) (by omega), .eqv 63 (ni ((((secM q).map qv).map dV).length : Int)) (ni ((bM q + 2 + 1 : Nat) : Int)) (by rw [nB2]), cl a2, .sel _ _ _ s2, cl r1, cl r2, na (t := ((k : Int) == 0)) (by simp; omega), cl g1, cl g2, cl g3, cl g4, inc 97 k (by omega)] nx (by kernel_rfl)
  · have hx : decide ((k : Int) < ((bM q + 1 : Nat) : Int)) = false := decide_eq_false (by omega)
    have be2 : Bv 300 (e, e) := ⟨be.mono (by omega), be.mono (by omega)⟩
    have v1 := e_vsub hC be2 (by show 10 * (_ + _) + _ ≤ _; omega)
    have v2 := e_vadd hC be2 (by show 10 * (_ + _) + _ ≤ _; omega)
    change Pure PP _ _ (.v (.ag (dV ((bAt q).1 - e, (bAt q).2 - e)))) at v1
    change Pure PP _ _ (.v (.ag (dV ((bAt q).1 + e, (bAt q).2 + e)))) at v2
    have k1 := e_rcmp (hC.1.sub be) (hC.1.add be) (by omega)
    have k2 := e_rcmp (hC.2.sub be) (hC.2.add be) (by omega)
    have o1 := cmp_le (show (bAt q).1 - e ≤ (bAt q).1 + e by grind)
    have o2 := cmp_le (show (bAt q).2 - e ≤ (bAt q).2 + e by grind)
    unfold agS
    generalize bAt q = C at *
    obtain ⟨C1, C2⟩ := C
    simp only at *
    exact fi [na hx, cl v1, cl v2, cl k1, na o1, cl k2, na o2] (by kernel_rfl) (by kernel_rfl)
 have n1 := rounds 1 (Nat.le_refl _) (by omega)
 have h0 : GA q ((bAt q).1 - e, (bAt q).2 - e) ((bAt q).1 + e, (bAt q).2 + e) (lp fag 0) (agS q e 0 z8n z8n) := by
  obtain ⟨u, w, s1, s2, b1, b2, hd⟩ := pair 0 (by omega)
  have a1 := e_arnd 1 (bM q + 2) (by omega)
  have a2 := e_arnd (bM q + 3) (bM q + 2) (by omega)
  rw [Nat.mod_eq_of_lt (show 1 < bM q + 2 + 1 by omega)] at a1
  rw [Nat.sub_zero] at s2
  have r1 := e_vrot hT b2 (by show 10 * (_ + _) + _ ≤ _; omega)
  have r2 := e_vsub b1 (hT.rot b2) (by show 10 * (_ + _) + _ ≤ _; omega)
  rw [hd] at r2
  unfold agS bFit at n1 ⊢
  generalize vrot (bT q) w = R at *
  generalize bT q = T at *
  generalize bAt q = C at *
  exact .to mo_ [] [5, 6, 7, 9, 10, 11, 12, 13, 40, 41] [2, 3, 4, 5, 6, 7] 8 [ye (t := decide (((0 : Nat) : Int) < ((bM q + 1 : Nat) : Int))) (decide_eq_true (by omega)), wq 48 (1 + ((0 : Nat) : Int)) ((1 : Nat) : Int) (by omega), .eqv 50 (ni ((((firP q).map qv).map dV).length : Int)) (ni ((bM q + 2 + 1 : Nat) : Int)) (by rw [nA2]), cl a1, .sel _ _ _ s1, wq 59 (((bM q + 2 : Nat) : Int) + 1) ((bM q + 3 : Nat) : Int) (by omega), wq 61 (((bM q + 3 : Nat) : Int) - ((0 : Nat) : Int)) ((bM q + 3 : Nat) : Int) (by omega), .eqv 63 (ni ((((secM q).map qv).map dV).length : Int)) (ni ((bM q + 2 + 1 : Nat) : Int)) (by rw [nB2]), cl a2, .sel _ _ _ s2, cl r1, cl r2, yt] n1 (by kernel_rfl)
 unfold agS at h0
 have hv : (bFit q).v = [ni 0, ni 1, ni 1, ni ((bM q + 2 : Nat) : Int), ni (bM q : Int)] ++ (dV (bT q) ++ (dV (bAt q) ++ dV (bAt q))) := rfl
 rw [hv] at h0 cs ⊢
 generalize bA q = A at *
 generalize bB q = B at *
 generalize bT q = T at *
 generalize bAt q = C at *
 exact pf (by kernel_rfl) (.to mo_ [] [5, 6, 7, 9, 10, 11, 12, 13, 40, 41] [2, 3, 4, 5, 6, 7] 8 [cl cs, nf, cl ct, nf, cl c1, cl c2, cl ce, inc 40 (bM q) (by omega)] h0 (by kernel_rfl))
end
end Go.Proofs.YtbaggkbleehegaaGreat.E.Ct
