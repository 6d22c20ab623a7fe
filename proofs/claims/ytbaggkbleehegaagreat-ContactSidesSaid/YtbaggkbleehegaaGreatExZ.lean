/-
 CONTACT: the law ContactSides, by the engine.
-/
import Derived.Test.YtbaggkbleehegaaGreatExY
namespace Go.Proofs.YtbaggkbleehegaaGreat.E.Ct
open Go.RowKit
set_option linter.unusedVariables false
set_option linter.unusedSimpArgs false
def sdS (q : List Int) : Sc := ⟨scL0 q, scA0 q⟩
section
variable {q l : List Int} {a b : Vc} {p : Int × Int} {i j k m n : Nat} {L : List Vc} {x y : Rat} {gl : Int}
theorem sd_ok (q : List Int) : (sdS q).Ok 100 := ⟨fun k hk => by
 have hk : k < 2 := hk
 match k, hk with
 | 0, _ => exact bA_good q
 | 1, _ => exact bB_good q, ⟨Nat.le_refl 2, by show 2 ≤ 100; omega⟩, by omega⟩
theorem sd_f (q : List Int) : ∀ f ∈ [bFit q], f.Ok (sdS q) := fun f hf => by
 have hm := bM_in q
 simp only [List.mem_singleton] at hf
 subst hf
 exact ⟨by show 0 < 2; omega, by show 1 < 2; omega, by show 1 ≤ _; omega, by show bM q ≤ _; omega⟩
/-- A touch of the crack. -/
def sdT (q : List Int) (k : Nat) : To := ⟨0, 1, qv (crP q k), qv (crP q (k + 1)), (-((vsub (qv (crP q (k + 1))) (qv (crP q k))).2), (vsub (qv (crP q (k + 1))) (qv (crP q k))).1), lsr (bA q).rough (bB q).rough⟩
theorem cn_crack (h : k ≤ bM q) : cn ((firP q).map qv) (1 + k) = qv (crP q k) := by
 have hl : ((firP q).map qv).length = bM q + 3 := by rw [List.length_map, firP_len]
 unfold cn
 rw [hl, Nat.mod_eq_of_lt (by omega), map_qv (fir_at h)]
theorem sd_tch (q : List Int) : tch (sdS q) 3 [bFit q] = (List.range (bM q)).map (sdT q) := by
 have h3 : inB 3 0 = true ∧ inB 3 1 = true := by decide +kernel
 unfold tch
 rw [List.flatMap_cons, List.flatMap_nil, List.append_nil]
 unfold tch1
 rw [if_pos ⟨h3.1, h3.2⟩]
 refine List.map_congr_left fun k hk => ?_
 have hk : k < bM q := List.mem_range.1 hk
 show (⟨0, 1, cn (plRim (bA q) (stillV, (0, 0))) (1 + k), cn (plRim (bA q) (stillV, (0, 0))) (1 + k + 1), (-((vsub (cn (plRim (bA q) (stillV, (0, 0))) (1 + k + 1)) (cn (plRim (bA q) (stillV, (0, 0))) (1 + k))).2), (vsub (cn (plRim (bA q) (stillV, (0, 0))) (1 + k + 1)) (cn (plRim (bA q) (stillV, (0, 0))) (1 + k))).1), lsr (bA q).rough (bB q).rough⟩ : To) = _
 unfold sdT
 rw [rim_A, show 1 + k + 1 = 1 + (k + 1) by omega, cn_crack (by omega), cn_crack (by omega)]
theorem own_0 : ((List.range 2).map fun i => if i < 2 then owF (rtF (inB 3) (cls [])) i else 0) = [0, 1] := by decide +kernel
theorem own_1 : ((List.range 2).map fun i => if i < 2 then owF (rtF (inB 3) (cls [(0, 1)])) i else 0) = [0, 0] := by decide +kernel
theorem act_0 (q : List Int) : acts 3 0 [bFit q] [bFit q].length = [] := by
 show (if (inB 0 0 && (inB 3 0 && inB 3 1)) = true then [(0, 1)] else []) ++ [] = _
 rw [if_neg (by decide +kernel)]
 rfl
theorem act_1 (q : List Int) : acts 3 1 [bFit q] [bFit q].length = [(0, 1)] := by
 show (if (inB 1 0 && (inB 3 0 && inB 3 1)) = true then [(0, 1)] else []) ++ [] = _
 rw [if_pos (by decide +kernel)]
 rfl
theorem sd_own0 (q : List Int) : ownF (sdS q) (rtB 3 0 [bFit q]) = [0, 1] := by
 unfold rtB
 rw [act_0]
 exact own_0
theorem sd_own1 (q : List Int) : ownF (sdS q) (rtB 3 1 [bFit q]) = [0, 0] := by
 unfold rtB
 rw [act_1]
 exact own_1
theorem btw_sd0 (q : List Int) (n : Nat) : btw [0, 1] ((List.range n).map (sdT q)) = (List.range n).map (sdT q) := by
 unfold btw
 rw [List.filterMap_map]
 have : (btV [0, 1] ∘ sdT q) = fun k => some (sdT q k) := funext fun k => by
  show btV [0, 1] (sdT q k) = _
  rfl
 rw [this]
 induction List.range n with
 | nil => rfl
 | cons a L ih => rw [List.filterMap_cons, List.map_cons]; simp only [ih]
theorem btw_sd1 (q : List Int) (n : Nat) : btw [0, 0] ((List.range n).map (sdT q)) = [] := by
 unfold btw
 rw [List.filterMap_map]
 have : (btV [0, 0] ∘ sdT q) = fun k => none := funext fun k => by
  show btV [0, 0] (sdT q k) = _
  rfl
 rw [this]
 induction List.range n with
 | nil => rfl
 | cons a L ih => rw [List.filterMap_cons]; exact ih
theorem mid_bits8 (h1 : Bv 8 a) (h2 : Bv 8 b) : Bv 100 (vsca (vadd a b) (Rat.divInt 1 2)) := ((h1.add h2).sca (bq8 (x := 1) (y := 2) (by omega) (by omega))).mono (by omega)
noncomputable abbrev fsd : Func := fnOf PP 9
abbrev GSd (td : List Item) (σ : St) : Prop := Gd PP 9 (.v (bo true)) td σ
noncomputable def sd1 (q : List Int) (m : List (Nat × V)) : St := at_ fsd ([(3, .lp 0 0), (4, .sl (piR (scL0 q))), (5, .sl (plR (scA0 q))), (6, .sl (ftR [bFit q]))] ++ m) [.bx 98 (brV q)]
noncomputable def sd2 (q : List Int) (m : List (Nat × V)) : St := sd1 q ([(7, .sl (toR ((List.range (bM q)).map (sdT q)))), (8, dL ((firP q).map qv)), (9, dL ((secP q).map qv))] ++ m)
/-- The last part. -/
theorem sd_end (q : List Int) : GSd (rg fsd 21) (sd2 q []) := by
 have ok := sd_ok q
 have fo := sd_f q
 have b1 := e_bodies (st := 3) (gl := 0) ok fo (by simp) (by show 0 < 2; omega)
 have b2 := e_bodies (st := 3) (gl := 1) ok fo (by simp) (by show 0 < 2; omega)
 rw [sd_own0] at b1
 rw [sd_own1] at b2
 change Pure PP _ [.sl (piR (scL0 q)), .sl (plR (scA0 q)), .sl (ftR [bFit q]), ni 3, ni 0] _ at b1
 change Pure PP _ [.sl (piR (scL0 q)), .sl (plR (scA0 q)), .sl (ftR [bFit q]), ni 3, ni 1] _ at b2
 obtain ⟨lo, hi, h1, h2, h3, h4, ca⟩ := e_agree q
 have hC := bAt_bits q
 have k1 := e_rcmp h3.1 hC.1 (by omega)
 have k2 := e_rcmp hC.1 h4.1 (by omega)
 have o1 := le0_iff.2 h1
 have o2 := le0_iff.2 h2
 have hm := bM_in q
 have hbt : ∀ own : List Int, own.length = 2 → ∀ t ∈ (List.range (bM q)).map (sdT q), BtOk own t := fun own ho t ht => by
  obtain ⟨k, _, rfl⟩ := List.mem_map.1 ht
  exact ⟨⟨0, rfl, by omega⟩, .inr ⟨1, rfl, by omega⟩⟩
 have w0 := (e_between (own := [0, 1]) (l := (List.range (bM q)).map (sdT q)) (by simp; omega) (hbt _ rfl)).ro
 have w1 := (e_between (own := [0, 0]) (l := (List.range (bM q)).map (sdT q)) (by simp; omega) (hbt _ rfl)).ro
 have w2 := e_stouches ((List.range (bM q)).map (sdT q)) (by simp; omega)
 rw [btw_sd0] at w0
 rw [btw_sd1] at w1
 generalize (List.range (bM q)).map (sdT q) = T at *
 have hv : brV q = (bA q).v ++ ((bB q).v ++ ([ni 0, ni 1, ni 1, ni ((bM q + 2 : Nat) : Int), ni (bM q : Int)] ++ (dV (bT q) ++ (dV (bAt q) ++ dV (bAt q))))) := rfl
 have hf : (bFit q).v = [ni 0, ni 1, ni 1, ni ((bM q + 2 : Nat) : Int), ni (bM q : Int)] ++ (dV (bT q) ++ (dV (bAt q) ++ dV (bAt q))) := rfl
 unfold sd2 sd1
 rw [hv]
 rw [hf] at ca
 generalize hT : toR T = TR at *
 generalize boR (bodF (sdS q) (rtB 3 0 [bFit q])) = R0 at *
 generalize boR (bodF (sdS q) (rtB 3 1 [bFit q])) = R1 at *
 generalize piR (scL0 q) = PR at *
 generalize plR (scA0 q) = AR at *
 generalize ftR [bFit q] = FR at *
 generalize bA q = A at *
 generalize bB q = B at *
 generalize bT q = T2 at *
 generalize bAt q = C at *
 exact fi [cl b1, cl b2, nf, nf, cl ca, yt, cl k1, ye o1, cl k2, .eqv 207 (bo (le0 C.1 hi.1)) (bo true) (by rw [o2]), yt, cl w0, cl w2, yt, cl w1, yt, cl e_lives] (by kernel_rfl) (by kernel_rfl)
/-- The three points of a touch. -/
def ptsL (q : List Int) (i : Nat) : List Vc := [qv (crP q i), qv (crP q (i + 1)), vsca (vadd (qv (crP q i)) (qv (crP q (i + 1)))) (Rat.divInt 1 2)]
theorem pts_has (hi : i < bM q) (hk : k < 3) : ∃ v, (ptsL q i)[k]? = some v ∧ Bv 100 v ∧ Pg.has ((firP q).map qv) v = 0 ∧ Pg.has ((secP q).map qv) v = 0 := by
 have b0 := qv_sm ((crP_in q (k := i) (by omega)).mono (by omega : (8 : Int) ≤ 12))
 have b1 := qv_sm ((crP_in q (k := i + 1) (by omega)).mono (by omega : (8 : Int) ≤ 12))
 have o1 := on_a (qv (crP q i)) (qv (crP q (i + 1)))
 have o2 := on_b (qv (crP q i)) (qv (crP q (i + 1)))
 have o3 := on_m (qv (crP q i)) (qv (crP q (i + 1)))
 match k, hk with
 | 0, _ => exact ⟨_, rfl, b0.mono (by omega), has_A hi o1, has_B hi o1⟩
 | 1, _ => exact ⟨_, rfl, b1.mono (by omega), has_A hi o2, has_B hi o2⟩
 | 2, _ => exact ⟨_, rfl, mid_bits8 b0 b1, has_A hi o3, has_B hi o3⟩
theorem sgn_pos {r : Rat} (h : 0 < r) : decide (sgnZ r.num ≤ 0) = false := by
 refine decide_eq_false ?_
 rw [sgn_of]
 unfold cmpQ
 rw [if_neg (by grind), if_pos h]
 omega
theorem sgn_zero : (sgnZ (0 : Rat).num != 0) = false := by decide +kernel
/-- One touch. -/
theorem sd_touch (hi : i < bM q) (next : GSd (lp fsd 0) (sd2 q [(10, ni ((i + 1 : Nat) : Int))])) : GSd (lp fsd 0) (sd2 q [(10, ni (i : Int))]) := by
 have hm := bM_in q
 have b0 := qv_sm ((crP_in q (k := i) (by omega)).mono (by omega : (8 : Int) ≤ 12))
 have b1 := qv_sm ((crP_in q (k := i + 1) (by omega)).mono (by omega : (8 : Int) ≤ 12))
 have hlt := cr_ne hi
 have hlen : (toR ((List.range (bM q)).map (sdT q))).length = bM q := by rw [toR_len]; simp
 have e1 : (toR ((List.range (bM q)).map (sdT q)))[i]? = some (sdT q i).v := to_at (by rw [List.getElem?_map, List.getElem?_range hi]; rfl)
 have nf1 : ((firP q).map qv).length ≤ 100 := by rw [List.length_map, firP_len]; omega
 have nf2 : ((secP q).map qv).length ≤ 100 := by rw [List.length_map]; unfold secP; rw [secK_len]; omega
 have bf1 : ∀ a ∈ (firP q).map qv, Bv 100 a := fun a ha => (qvs (fun p hp => (firP_in q p hp).mono (by omega)) a ha).mono (by omega)
 have bf2 : ∀ a ∈ (secP q).map qv, Bv 100 a := fun a ha => (qvs (fun p hp => (secK_in q p hp).mono (by omega)) a ha).mono (by omega)
 have pts := fun k (hk : k < 3) => pts_has (q := q) hi hk
 unfold sdT at e1
 have d1 := e_vsub b1 b0 (by show 10 * (_ + _) + _ ≤ _; omega)
 have bd := b1.sub b0
 have a1 := e_vadd b0 b1 (by show 10 * (_ + _) + _ ≤ _; omega)
 have a2 := e_rof (x := 1) (y := 2) is1_ is2_
 have a3 := e_vsca (b0.add b1) (bq8 (x := 1) (y := 2) (by omega) (by omega)) (by show 10 * (_ + _) + _ ≤ _; omega)
 unfold ptsL at pts
 generalize hP : qv (crP q i) = P at *
 generalize hQ : qv (crP q (i + 1)) = Q at *
 have hd2 : 0 < (vsub Q P).2 := by show 0 < Q.2 - P.2; grind
 generalize hD : vsub Q P = D at *
 have bn : Bv 17 (-D.2, D.1) := ⟨bd.2.neg, bd.1⟩
 have c1 := e_vdot bn bd (by show 10 * (_ + _) + _ ≤ _; omega)
 have c2 := e_vcrs bd bn (by show 10 * (_ + _) + _ ≤ _; omega)
 have z1 : vdot (-D.2, D.1) D = 0 := by show -D.2 * D.1 + D.1 * D.2 = 0; grind
 have z2 : 0 < vcrs D (-D.2, D.1) := by
  show 0 < D.1 * D.1 - D.2 * -D.2
  have := sq_nn D.1
  have := Rat.mul_pos hd2 hd2
  grind
 rw [z1] at c1
 have s1 := e_rsign 0
 have s2 := e_rsign (vcrs D (-D.2, D.1))
 have g1 := sgn_zero
 have g2 := sgn_pos z2
 generalize (0 : Rat) = zr at *
 generalize sgnZ zr.num = sz at *
 generalize vcrs D (-D.2, D.1) = CR at *
 generalize vsca (vadd P Q) (Rat.divInt 1 2) = MD at *
 generalize vadd P Q = AD at *
 generalize lsr (bA q).rough (bB q).rough = RO at *
 unfold sd2 sd1 at next ⊢
 generalize toR ((List.range (bM q)).map (sdT q)) = TR at *
 generalize piR (scL0 q) = PR at *
 generalize plR (scA0 q) = AR at *
 generalize ftR [bFit q] = FR at *
 generalize brV q = BR at *
 generalize (firP q).map qv = L1 at *
 generalize (secP q).map qv = L2 at *
 let F : List F_ := [.eqv 67 (ni (TR.length : Int)) (ni (bM q : Int)) (by rw [hlen]), ye (t := decide ((i : Int) < (bM q : Int))) (decide_eq_true (by omega)), .sel _ _ _ e1, .sel _ _ _ e1, .sel _ _ _ e1, .sel _ _ _ e1, cl a1, cl a2, cl a3]
 let X : Nat → St := fun k => at_ fsd ([(3, .lp 0 0), (4, .sl PR), (5, .sl AR), (6, .sl FR)] ++ ([(7, .sl TR), (8, dL L1), (9, dL L2)] ++ [(10, ni (i : Int)), (11, dL [P, Q, MD]), (12, ni (k : Int))])) [.bx 98 BR]
 refine .to mo_ [.fz 11] [3, 4, 5, 6, 7, 8, 9, 10, 11, 12] [0] 1 F (td' := lp fsd 1) (σ' := X 0) ?_ (by kernel_rfl)
 refine Gd.loop X (fun k => k ≤ 3) (fun k => 3 - k) ?_ 0 (Nat.zero_le _)
 intro k hk ih
 by_cases h : k < 3
 · have nx := ih (k + 1) h (by omega)
   obtain ⟨v, v1, v2, v3, v4⟩ := pts k h
   have e2 : ([P, Q, MD].map dV)[k]? = some (dV v) := by rw [List.getElem?_map, v1]; rfl
   have q1 := e_has bf1 v2 nf1 (by omega)
   have q2 := e_has bf2 v2 nf2 (by omega)
   rw [v3] at q1
   rw [v4] at q2
   exact .to mo_ [] [3, 4, 5, 6, 7, 8, 9, 10, 11, 12] [0] 1 [ye (t := decide ((k : Int) < 3)) (decide_eq_true (by omega)), .sel _ _ _ e2, cl q1, nf, .sel _ _ _ e2, cl q2, nf, inc 98 k (by omega)] nx (by kernel_rfl)
 · have e2 : k = 3 := by omega
   subst e2
   exact .to mo_ [] [3, 4, 5, 6, 7, 8, 9, 10] [0] 1 [nf, .sel _ _ _ e1, .sel _ _ _ e1, .sel _ _ _ e1, cl d1, cl c1, cl s1, na g1, .sel _ _ _ e1, .sel _ _ _ e1, cl d1, .sel _ _ _ e1, cl c2, cl s2, na g2, inc 70 i (by omega)] next (by kernel_rfl)
theorem l_sides (hl : ∀ a ∈ l, W.Is64 a) : Pure PP 9 [zl l] (bo true) := by
 obtain ⟨q, hq, _, cp⟩ := e_pair hl
 have hm := bM_in q
 have ok := sd_ok q
 have fo := sd_f q
 have ct := (e_touches (st := 3) ok fo (by simp)).ro
 rw [sd_tch] at ct
 change Pure PP _ [.sl (piR (scL0 q)), .sl (plR (scA0 q)), .sl (ftR [bFit q]), ni 3] _ at ct
 have gA := bA_good q
 have gB := bB_good q
 have r1 := (e_rim gA.ok).ro
 have r2 := (e_rim gB.ok).ro
 have m1 := e_move (p := (stillV, (0, 0))) gA.t gA.a gA.r (by show ((firP q).map qv).length ≤ _; rw [List.length_map, firP_len]; omega) (by omega)
 have m2 := e_move (p := (bT q, bAt q)) gB.t gB.a gB.r (by show ((secM q).map qv).length ≤ _; rw [List.length_map, secM_len]; omega) (by omega)
 change Pure PP _ _ (.v (dL (plRim (bA q) (stillV, (0, 0))))) at m1
 change Pure PP _ _ (.v (dL (plRim (bB q) (bT q, bAt q)))) at m2
 rw [rim_A] at m1
 rw [rim_B] at m2
 have hlen : (toR ((List.range (bM q)).map (sdT q))).length = bM q := by rw [toR_len]; simp
 have hA : plR (scA0 q) = [dV stillV ++ (z4_ ++ z4_), dPl (bT q, bAt q)] := by show [dV stillV ++ dV (0, 0), dPl (bT q, bAt q)] = _; rw [dV_00]
 have s0 : (plR (scA0 q))[0]? = some (dPl (stillV, (0, 0))) := rfl
 have s1 : (plR (scA0 q))[1]? = some (dPl (bT q, bAt q)) := rfl
 have loop : GSd (lp fsd 0) (sd2 q [(10, ni ((0 : Nat) : Int))]) := by
  have he := sd_end q
  refine Gd.loop (fun (i : Nat) => sd2 q [(10, ni (i : Int))]) (fun i => i ≤ bM q) (fun i => bM q - i) ?_ 0 (Nat.zero_le _)
  intro i hi ih
  by_cases h : i < bM q
  · exact sd_touch h (ih (i + 1) h (by omega))
  · have e : i = bM q := by omega
    have hx : decide ((i : Int) < (bM q : Int)) = false := decide_eq_false (by omega)
    unfold sd2 sd1 at he ⊢
    generalize toR ((List.range (bM q)).map (sdT q)) = TR at *
    exact .to mo_ [] [3, 4, 5, 6, 7, 8, 9] [0] 1 [.eqv 67 (ni (TR.length : Int)) (ni (bM q : Int)) (by rw [hlen]), na hx] he (by kernel_rfl)
 have h5 : GSd (rg fsd 5) (sd1 q []) := by
  unfold sd2 at loop
  unfold sd1 at loop ⊢
  have hv : brV q = (bA q).v ++ ((bB q).v ++ ([ni 0, ni 1, ni 1, ni ((bM q + 2 : Nat) : Int), ni (bM q : Int)] ++ (dV (bT q) ++ (dV (bAt q) ++ dV (bAt q))))) := rfl
  rw [hv] at loop ⊢
  generalize toR ((List.range (bM q)).map (sdT q)) = TR at *
  generalize piR (scL0 q) = PR at *
  generalize plR (scA0 q) = AR at *
  generalize ftR [bFit q] = FR at *
  generalize (firP q).map qv = L1 at *
  generalize (secP q).map qv = L2 at *
  exact .to mo_ [] [3, 4, 5, 6, 7, 8, 9, 10] [0] 1 [cl ct, .eqv 46 (ni (TR.length : Int)) (ni (bM q : Int)) (by rw [hlen]), na (t := ((bM q : Int) != (bM q : Int))) (by simp), .sel _ _ _ s0, cl r1, cl m1, .sel _ _ _ s1, cl r2, cl m2] loop (by kernel_rfl)
 unfold sd1 at h5
 rw [hA] at h5
 exact pf (by kernel_rfl) (.to mo_ [.fz 4, .fz 5, .fz 6] [3, 4, 5, 6] [0] 1 [cl cp, cl e_still] h5 (by kernel_rfl))
end
end Go.Proofs.YtbaggkbleehegaaGreat.E.Ct
