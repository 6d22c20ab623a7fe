/-
 CONTACT: the two pieces of a broken box, put together again (plain); fit.Agree for them, by the engine.
-/
import Derived.Test.YtbaggkbleehegaaGreatLawO
namespace Go.Proofs.YtbaggkbleehegaaGreat.E.Ct
open Go.RowKit
set_option linter.unusedVariables false
set_option linter.unusedSimpArgs false
section
variable {q l : List Int} {a b : Vc} {p : Int × Int} {i j k m n : Nat} {L : List Vc} {x y : Rat}
theorem dneg (x : Int) : Rat.divInt (-x) 1 = -Rat.divInt x 1 := by
 rw [Rat.divInt_eq_div, Rat.divInt_eq_div, Rat.intCast_neg, show ((1 : Int) : Rat) = 1 from rfl]
 grind
theorem dadd (x y : Int) : Rat.divInt (x + y) 1 = Rat.divInt x 1 + Rat.divInt y 1 := by
 rw [Rat.divInt_eq_div, Rat.divInt_eq_div, Rat.divInt_eq_div, Rat.intCast_add, show ((1 : Int) : Rat) = 1 from rfl]
 grind
theorem qv_tq (p : Int × Int) : ∀ k, qv (tq p k) = rq (qv p) k
 | 0 => rfl
 | k + 1 => by
  have ih := qv_tq p k
  show (Rat.divInt (-(tq p k).2) 1, Rat.divInt (tq p k).1 1) = (-(rq (qv p) k).2, (rq (qv p) k).1)
  rw [dneg, ← ih]
  rfl
theorem vrot_still (v : Vc) : vrot stillV v = v := by
 have h1 : (Rat.divInt 1 1 : Rat) = 1 := by decide +kernel
 unfold vrot stillV
 rw [h1]
 simp only [Rat.one_mul, Rat.zero_mul, Rat.zero_add, Rat.add_zero, Rat.sub_eq_add_neg, Rat.neg_zero]
theorem vrot_rq (v : Vc) : ∀ k, vrot (rq stillV k) v = rq v k
 | 0 => vrot_still v
 | k + 1 => by
  have ih := vrot_rq v k
  show _ = (-(rq v k).2, (rq v k).1)
  rw [← ih]
  show vrot (-(rq stillV k).2, (rq stillV k).1) v = _
  unfold vrot
  simp only [Prod.mk.injEq]
  constructor <;> grind
theorem rq_add (v : Vc) (a : Nat) : ∀ b, rq (rq v a) b = rq v (a + b)
 | 0 => rfl
 | b + 1 => by
  show (-(rq (rq v a) b).2, (rq (rq v a) b).1) = _
  rw [rq_add v a b]
  rfl
theorem rq_4 (v : Vc) : rq v 4 = v := by
 show (- -v.1, - -v.2) = v
 simp only [Rat.neg_neg]
theorem rq_back (v : Vc) (h : n ≤ 3) : rq (rq v n) ((4 - n) % 4) = v := by
 rw [rq_add]
 rcases Nat.eq_zero_or_pos n with e | e
 · subst e; rfl
 · rw [show n + (4 - n) % 4 = 4 by omega, rq_4]
/-- The second piece is put back. -/
theorem back_p (q : List Int) (p : Int × Int) : vput (bT q, bAt q) (qv (mvP q p)) = qv p := by
 have hq := bQ_in q
 have e1 : qv (mvP q p) = vadd (rq (qv p) (bQ q)) (qv (bBy q)) := by
  rw [← qv_tq]
  show (Rat.divInt ((tq p (bQ q)).1 + (bBy q).1) 1, Rat.divInt ((tq p (bQ q)).2 + (bBy q).2) 1) = _
  rw [dadd, dadd]
  rfl
 have e2 : vrot (bT q) (rq (qv p) (bQ q)) = qv p := by
  unfold bT
  rw [vrot_rq]
  exact rq_back _ hq.1
 rw [e1]
 show vadd (vrot (bT q) (vadd (rq (qv p) (bQ q)) (qv (bBy q)))) (vsub (0, 0) (vrot (bT q) (qv (bBy q)))) = _
 have e3 : vrot (bT q) (vadd (rq (qv p) (bQ q)) (qv (bBy q))) = vadd (vrot (bT q) (rq (qv p) (bQ q))) (vrot (bT q) (qv (bBy q))) := by
  unfold vrot vadd
  simp only [Prod.mk.injEq]
  constructor <;> grind
 rw [e3, e2]
 unfold vadd vsub
 apply Prod.ext <;> (simp only; grind)
theorem put_still (v : Vc) : vput (stillV, (0, 0)) v = v := by
 show vadd (vrot stillV v) (0, 0) = v
 rw [vrot_still]
 unfold vadd
 simp only [Rat.add_zero]
theorem rim_A (q : List Int) : plRim (bA q) (stillV, (0, 0)) = (firP q).map qv := by
 unfold plRim
 show ((firP q).map qv).map _ = _
 rw [List.map_map]
 exact List.map_congr_left fun v _ => put_still _
theorem rim_B (q : List Int) : plRim (bB q) (bT q, bAt q) = (secP q).map qv := by
 unfold plRim
 show (((secP q).map (mvP q)).map qv).map _ = _
 rw [List.map_map, List.map_map]
 exact List.map_congr_left fun v _ => back_p q v
theorem fir_at (h : k ≤ bM q) : (firP q)[1 + k]? = some (crP q k) := by
 unfold firP
 rw [show 1 + k = k + 1 from Nat.add_comm .., List.getElem?_cons_succ, List.getElem?_append_left (by unfold crL; simp; omega)]
 exact crL_get (by omega)
theorem sec_at (h : k ≤ bM q) : (secP q)[(bM q + 3 - k) % (bM q + 3)]? = some (crP q k) := by
 unfold secP secK
 rcases Nat.eq_zero_or_pos k with e | e
 · subst e
   rw [show bM q + 3 - 0 = bM q + 3 from rfl, Nat.mod_self]
   rfl
 · rw [Nat.mod_eq_of_lt (by omega), List.getElem?_append_right (by simp; omega)]
   simp only [List.length_cons, List.length_nil]
   rw [List.getElem?_map, List.getElem?_range (by omega)]
   simp only [Option.map_some]
   congr 2
   omega
theorem map_qv {P : List (Int × Int)} (h : P[i]? = some p) : (P.map qv).getD i (0, 0) = qv p := by rw [List.getD_eq_getElem?_getD, List.getElem?_map, h]; rfl
theorem sq_nn (x : Rat) : 0 ≤ x * x := by
 by_cases h : 0 ≤ x
 · exact Rat.mul_nonneg h h
 · exact mnn (by grind) (by grind)
theorem on_a (a b : Vc) : Pg.On a b a := ⟨by unfold Pg.cr vcrs vsub; grind, by show (a.1 - a.1) * (b.1 - a.1) + (a.2 - a.2) * (b.2 - a.2) ≤ 0; grind⟩
theorem on_b (a b : Vc) : Pg.On a b b := ⟨by unfold Pg.cr vcrs vsub; grind, by show (a.1 - b.1) * (b.1 - b.1) + (a.2 - b.2) * (b.2 - b.2) ≤ 0; grind⟩
theorem on_m (a b : Vc) : Pg.On a b (vsca (vadd a b) (Rat.divInt 1 2)) := by
 have h : (Rat.divInt 1 2 : Rat) = 1 / 2 := by rw [Rat.divInt_eq_div]; rfl
 rw [h]
 refine ⟨by unfold Pg.cr vcrs vsub vsca vadd; grind, ?_⟩
 show (a.1 - (a.1 + b.1) * (1 / 2)) * (b.1 - (a.1 + b.1) * (1 / 2)) + (a.2 - (a.2 + b.2) * (1 / 2)) * (b.2 - (a.2 + b.2) * (1 / 2)) ≤ 0
 have h1 := sq_nn (a.1 - b.1)
 have h2 := sq_nn (a.2 - b.2)
 grind
theorem has_on (hi : i < L.length) (h : Pg.On (L.getD i (0, 0)) (Pg.cor L (i + 1)) a) : Pg.has L a = 0 := by
 have hs := Pg.sides_get L i (L.getD i (0, 0)) (Pg.cor L (i + 1)) (by rw [List.getD_eq_getElem?_getD, List.getElem?_eq_getElem hi]; rfl) (by unfold Pg.cor; rw [List.getD_eq_getElem?_getD, List.getElem?_eq_getElem (Nat.mod_lt _ (by omega))]; rfl)
 unfold Pg.has
 rw [if_pos]
 rw [List.any_eq_true]
 exact ⟨_, List.mem_of_getElem? hs, (on_iff _ _ _).2 h⟩
/-- A point between neighbours of the crack is on both pieces. -/
theorem has_A (hk : k < bM q) (h : Pg.On (qv (crP q k)) (qv (crP q (k + 1))) a) : Pg.has ((firP q).map qv) a = 0 := by
 have hl : ((firP q).map qv).length = bM q + 3 := by rw [List.length_map, firP_len]
 refine has_on (i := 1 + k) (by omega) ?_
 unfold Pg.cor
 rw [hl, Nat.mod_eq_of_lt (by omega), map_qv (fir_at (by omega)), show 1 + k + 1 = 1 + (k + 1) by omega, map_qv (fir_at (by omega))]
 exact h
theorem has_B (hk : k < bM q) (h : Pg.On (qv (crP q k)) (qv (crP q (k + 1))) a) : Pg.has ((secP q).map qv) a = 0 := by
 have hl : ((secP q).map qv).length = bM q + 3 := by rw [List.length_map]; unfold secP; rw [secK_len]; omega
 have e1 := sec_at (q := q) (k := k + 1) (by omega)
 have e2 := sec_at (q := q) (k := k) (by omega)
 rw [Nat.mod_eq_of_lt (by omega)] at e1
 refine has_on (i := bM q + 3 - (k + 1)) (by omega) ?_
 unfold Pg.cor
 rw [hl, map_qv e1, show bM q + 3 - (k + 1) + 1 = bM q + 3 - k by omega, map_qv e2]
 exact h.symm
/-- Neighbours of the crack differ. -/
theorem cr_ne (hk : k < bM q) : (qv (crP q k)).2 < (qv (crP q (k + 1))).2 := by
 have hm := bM_in q
 have hh := bH_in q
 show Rat.divInt (if k = bM q then (bH q : Int) else (k : Int)) 1 < Rat.divInt (if k + 1 = bM q then (bH q : Int) else ((k + 1 : Nat) : Int)) 1
 rw [if_neg (by omega), Rat.divInt_eq_div, Rat.divInt_eq_div, show ((1 : Int) : Rat) = 1 from rfl]
 have h2 : (k : Int) < (if k + 1 = bM q then (bH q : Int) else ((k + 1 : Nat) : Int)) := by split <;> omega
 have h3 : (((k : Nat) : Int) : Rat) < ((if k + 1 = bM q then (bH q : Int) else ((k + 1 : Nat) : Int) : Int) : Rat) := by exact_mod_cast h2
 grind
theorem e_tvalid {r t : Rat} (br : Bq k r) (bt : Bq k t) (hk : k ≤ 100000) (h : r * r + t * t = Rat.divInt 1 1) : Pure PP 115 [.ag (dR r ++ dR t)] (bo true) := by
 have cs := e_psame (r * r + t * t) (Rat.divInt 1 1)
 rw [decide_eq_true h] at cs
 exact tr [cl (e_rvalid br (by omega)), yt, cl (e_rvalid bt (by omega)), yt, cl (e_rmul br br (by omega)), cl (e_rmul bt bt (by omega)), cl (e_sum2 (br.mul br) (bt.mul bt) (by omega)), cl (e_rof (x := 1) (y := 1) is1_ is1_), cl cs] (by kernel_rfl)
theorem cmp_self (x : Rat) : decide (cmpQ x x < 0) = false ∧ decide (cmpQ x x > 0) = false := ⟨cmp_ge Rat.le_refl, cmp_le Rat.le_refl⟩
theorem e_big {M : Nat} (h : Bq M x) (hM : M ≤ 100000) : Pure PP 118 [.ag (dR x), .ag (dR x)] (.ag (dR x)) := tr [cl (e_rcmp h h (by omega)), na (cmp_self x).1] (by kernel_rfl)
theorem e_small {M : Nat} (h : Bq M x) (hM : M ≤ 100000) : Pure PP 119 [.ag (dR x), .ag (dR x)] (.ag (dR x)) := tr [cl (e_rcmp h h (by omega)), na (cmp_self x).2] (by kernel_rfl)
theorem e_arnd (k m : Nat) (hm : m ≤ 1000) : Pure PP 116 [ni (k : Int), ni ((m + 1 : Nat) : Int)] (ni ((k % (m + 1) : Nat) : Int)) := by
 have h1 : Int.tmod (k : Int) ((m + 1 : Nat) : Int) = ((k % (m + 1) : Nat) : Int) := tmod_ k (m + 1)
 have h2 : Int.tmod ((k % (m + 1) + (m + 1) : Nat) : Int) ((m + 1 : Nat) : Int) = ((k % (m + 1) : Nat) : Int) := by
  rw [tmod_, Nat.add_mod_right, Nat.mod_mod]
 have h3 : k % (m + 1) < m + 1 := Nat.mod_lt _ (by omega)
 exact tr [.eqv 7 (ni (Int.tmod (k : Int) ((m + 1 : Nat) : Int))) (ni ((k % (m + 1) : Nat) : Int)) (by rw [h1]), wq 9 (((k % (m + 1) : Nat) : Int) + ((m + 1 : Nat) : Int)) ((k % (m + 1) + (m + 1) : Nat) : Int) (by omega), .eqv 11 (ni (Int.tmod ((k % (m + 1) + (m + 1) : Nat) : Int) ((m + 1 : Nat) : Int))) (ni ((k % (m + 1) : Nat) : Int)) (by rw [h2])] (by kernel_rfl)
theorem e_stretch (q : List Int) : Pure PP 114 [.ag (bA q).v, .ag (bB q).v, .ag (bFit q).v] (bo true) := by
 have hm := bM_in q
 have hA : (ptR (bA q).rim).length = bM q + 3 := by rw [ptR_len]; exact firP_len q
 have hB : (ptR (bB q).rim).length = 3 + bM q := by rw [ptR_len]; exact secM_len q
 generalize bA q = A at *
 generalize bB q = B at *
 unfold bFit
 generalize bT q = T at *
 generalize bAt q = C at *
 generalize bM q = M at *
 exact tr [.eqv 11 (ni ((ptR A.rim).length : Int)) (ni ((M + 3 : Nat) : Int)) (by rw [hA]), .eqv 14 (ni ((ptR B.rim).length : Int)) (ni ((M + 3 : Nat) : Int)) (by rw [hB, Nat.add_comm]), yt, ye (t := decide ((1 : Int) < ((M + 3 : Nat) : Int))) (decide_eq_true (by omega)), ye (t := decide (((M + 2 : Nat) : Int) ≥ 0)) (decide_eq_true (by omega)), ye (t := decide (((M + 2 : Nat) : Int) < ((M + 3 : Nat) : Int))) (decide_eq_true (by omega)), ye (t := decide ((M : Int) ≥ 1)) (decide_eq_true (by omega)), .eqv 45 (ni (if ((M + 3 : Nat) : Int) < ((M + 3 : Nat) : Int) then ((M + 3 : Nat) : Int) else ((M + 3 : Nat) : Int))) (ni ((M + 3 : Nat) : Int)) (by simp), .eqv 46 (bo (decide ((M : Int) < ((M + 3 : Nat) : Int)))) (bo true) (by rw [decide_eq_true (by omega)])] (by kernel_rfl)
end
end Go.Proofs.YtbaggkbleehegaaGreat.E.Ct
