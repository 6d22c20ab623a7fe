/-
 CONTACT: the law ContactOn, by the engine.
-/
import Derived.Test.YtbaggkbleehegaaGreatExH
import Derived.Test.YtbaggkbleehegaaGreatWalkUns
namespace Go.Proofs.YtbaggkbleehegaaGreat.E.Ct
open Go.RowKit
set_option linter.unusedVariables false
set_option linter.unusedSimpArgs false
def bShort (q : List Int) : Ft := ⟨0, 1, 1, ((bM q + 2 : Nat) : Int), 1, bT q, bAt q, bAt q⟩
def scF0 (l q : List Int) : List Ft := if (decide ((bM q : Int) > 1) && (atz l 30 1 == 1)) = true then [bShort q, bFit q] else [bFit q]
def scL0 (q : List Int) : List Pi := [bA q, bB q]
def scA0 (q : List Int) : List Pl := [(stillV, (0, 0)), (bT q, bAt q)]
def scPl (l : List Int) : Pl := (trnV (rnd (atz l 32 63) 63).toNat, qv (atz l 33 19 - 10, atz l 34 7))
noncomputable def edg (L : List Pi) (l : List Int) (i j : Nat) : Nat := (atz l i ((L.getD j (bare [])).rim.length - 1)).toNat
noncomputable def scO (L : List Pi) (l : List Int) (a b : Nat) : Ft := ⟨a, b, edg L l 37 a, ((edg L l 35 b : Nat) : Int), 1, stillV, (0, 0), (0, 0)⟩
noncomputable def scL (l q : List Int) : List Pi := if (atz l 31 2 == 0) = true then scL0 q ++ [p12 l] else scL0 q
noncomputable def scA (l q : List Int) : List Pl := if (atz l 31 2 == 0) = true then scA0 q ++ [scPl l] else scA0 q
noncomputable def scF (l q : List Int) : List Ft := if (atz l 31 2 == 0) = true then scF0 l q ++ [if (atz l 36 1 == 1) = true then scO (scL0 q ++ [p12 l]) l 2 1 else scO (scL0 q ++ [p12 l]) l 0 2] else scF0 l q
section
variable {l q : List Int} {k b : Nat}
noncomputable abbrev fmd : Func := fnOf PP 10
abbrev GM (l q : List Int) (td : List Item) (σ : St) : Prop := Gd PP 10 (.v (.ag [.sl (piR (scL l q)), .sl (plR (scA l q)), .sl (ftR (scF l q))])) td σ
noncomputable def mdS (l q : List Int) (F : List Ft) : St := at_ fmd [(0, zl l), (2, .lp 0 0), (4, .lp 2 0), (5, .lp 6 0)] [.bx 27 [.nl, .nl, .nl], .dead, .bx 41 (dV stillV), .rw 39 25 (piR (scL0 q)), .rw 45 16 (plR (scA0 q)), .rw 96 29 (ftR F), .bx 27 [.ow 3, .ow 4, .ow 5]]
theorem pi_sel {L : List Pi} {p : Pi} (h : L[k]? = some p) : (piR L)[k]? = some p.v := by unfold piR; rw [List.getElem?_map, h]; rfl
theorem edg_of {L : List Pi} {p : Pi} {i j : Nat} (h : L[j]? = some p) (h0 : 0 < p.rim.length) : 0 ≤ atz l i (p.rim.length - 1) ∧ atz l i (p.rim.length - 1) < p.rim.length ∧ ((edg L l i j : Nat) : Int) = atz l i (p.rim.length - 1) := by
 have ha := atz_in l i (p.rim.length - 1)
 unfold edg
 rw [List.getD_eq_getElem?_getD, h]
 simp only [Option.getD_some]
 omega
set_option maxRecDepth 100000 in
theorem md_2 (hl : ∀ x ∈ l, W.Is64 x) : GM l q (rg fmd 8) (mdS l q (scF0 l q)) := by
 have ca := e_at hl 31 2
 have hf0 : (scF0 l q).length ≤ 2 := by unfold scF0; split <;> simp
 unfold GM scL scA scF
 cases h : (atz l 31 2 == 0) with
 | false =>
  rw [if_neg (by simp), if_neg (by simp), if_neg (by simp)]
  unfold mdS
  exact fi [cl ca, na (t := (atz l 31 2 == 0)) h] (by kernel_rfl) (by kernel_rfl)
 | true =>
  rw [if_pos rfl, if_pos rfl, if_pos rfl]
  have a32 := atz_in l 32 63
  have a33 := atz_in l 33 19
  have a34 := atz_in l 34 7
  have c2 := e_piece12 hl
  have c3 := e_turn5 (n := atz l 32 63) (i64_ (by omega))
  have c4 := e_vof (x := atz l 33 19 - 10) (y := atz l 34 7) (i64_ (by omega)) (i64_ (by omega))
  have pA : (scL0 q ++ [p12 l])[0]? = some (bA q) := rfl
  have pB : (scL0 q ++ [p12 l])[1]? = some (bB q) := rfl
  have pC : (scL0 q ++ [p12 l])[2]? = some (p12 l) := rfl
  have nA : 0 < (bA q).rim.length := by show 0 < (firP q).length; rw [firP_len]; omega
  have nB : 0 < (bB q).rim.length := by show 0 < (secM q).length; rw [secM_len]; omega
  have nC : 0 < (p12 l).rim.length := by rw [p12_rim]; have := (rimP_in l).2.1; omega
  generalize p12 l = C at *
  have gA := fun i => edg_of (l := l) (i := i) pA nA
  have gB := fun i => edg_of (l := l) (i := i) pB nB
  have gC := fun i => edg_of (l := l) (i := i) pC nC
  have eA : ((bA q).rim.length : Int) = (((bA q).rim.length - 1 + 1 : Nat) : Int) := by omega
  have eB : ((bB q).rim.length : Int) = (((bB q).rim.length - 1 + 1 : Nat) : Int) := by omega
  have eC : (C.rim.length : Int) = ((C.rim.length - 1 + 1 : Nat) : Int) := by omega
  have tA : (ptR (bA q).rim).length = (bA q).rim.length := ptR_len _
  have tB : (ptR (bB q).rim).length = (bB q).rim.length := ptR_len _
  have tC : (ptR C.rim).length = C.rim.length := ptR_len _
  have sA := pi_sel pA
  have sB := pi_sel pB
  have sC := pi_sel pC
  have d0 := e_at hl 35 (C.rim.length - 1)
  have dA := e_at hl 37 ((bA q).rim.length - 1)
  have dC := e_at hl 37 (C.rim.length - 1)
  have fB := e_at hl 35 ((bB q).rim.length - 1)
  have w1 : piR (scL0 q) ++ [C.v] = piR (scL0 q ++ [C]) := by unfold piR; rw [List.map_append]; rfl
  have w2 : plR (scA0 q) ++ [dPl (scPl l)] = plR (scA0 q ++ [scPl l]) := by unfold plR; rw [List.map_append]; rfl
  have w3 : ∀ f : Ft, ftR (scF0 l q) ++ [f.v] = ftR (scF0 l q ++ [f]) := fun f => by unfold ftR; rw [List.map_append]; rfl
  have n1 : (piR (scL0 q ++ [C])).length ≤ 100 := by rw [piR_len]; exact Nat.le_of_ble_eq_true rfl
  have n2 : (plR (scA0 q ++ [scPl l])).length ≤ 100 := by unfold plR; rw [List.length_map]; exact Nat.le_of_ble_eq_true rfl
  have n3 : ∀ f : Ft, (ftR (scF0 l q ++ [f])).length ≤ 100 := fun f => by rw [ftR_len, List.length_append]; simp only [List.length_singleton]; omega
  let F : List F_ := [cl ca, ye (t := (atz l 31 2 == 0)) h, cl c2, .app _ _ _ 100 w1 Nat.zero_lt_one n1, cl (e_at hl 32 63), cl c3, cl (e_at hl 33 19), wq 64 (atz l 33 19 - 10) (atz l 33 19 - 10) (by omega), cl (e_at hl 34 7), cl c4, .app _ _ _ 100 w2 Nat.zero_lt_one n2, .sel _ _ _ sC, .sel _ _ _ sC, .eqv 78 (ni ((ptR C.rim).length : Int)) (ni ((C.rim.length - 1 + 1 : Nat) : Int)) (by rw [tC, ← eC]), cl d0, cl (e_at hl 36 1)]
  cases h2 : (atz l 36 1 == 1) with
  | true =>
   rw [if_pos rfl]
   have w3 := w3 (scO (scL0 q ++ [C]) l 2 1)
   have n4 := n3 (scO (scL0 q ++ [C]) l 2 1)
   have g1 := (gC 37).2.2
   have g2 := (gB 35).2.2
   have hv : (scO (scL0 q ++ [C]) l 2 1).v = [ni 2, ni 1, ni (atz l 37 (C.rim.length - 1)), ni (atz l 35 ((bB q).rim.length - 1)), ni 1] ++ (dV stillV ++ ((z4_ ++ z4_) ++ (z4_ ++ z4_))) := by
    unfold scO Ft.v
    simp only
    rw [g1, g2, dV_00]
    rfl
   rw [hv] at w3
   unfold mdS
   generalize scF0 l q ++ [scO (scL0 q ++ [C]) l 2 1] = FF at *
   generalize scF0 l q = F0 at *
   exact fi (F ++ [ye (t := (atz l 36 1 == 1)) h2, .sel _ _ _ sC, .sel _ _ _ sC, .eqv 95 (ni ((ptR C.rim).length : Int)) (ni ((C.rim.length - 1 + 1 : Nat) : Int)) (by rw [tC, ← eC]), cl dC, .sel _ _ _ sB, .sel _ _ _ sB, .eqv 106 (ni ((ptR (bB q).rim).length : Int)) (ni (((bB q).rim.length - 1 + 1 : Nat) : Int)) (by rw [tB, ← eB]), cl fB, .app _ _ _ 100 w3 Nat.zero_lt_one n4]) (by kernel_rfl) (by kernel_rfl)
  | false =>
   rw [if_neg (by simp)]
   have w3 := w3 (scO (scL0 q ++ [C]) l 0 2)
   have n4 := n3 (scO (scL0 q ++ [C]) l 0 2)
   have g1 := (gA 37).2.2
   have g2 := (gC 35).2.2
   have hv : (scO (scL0 q ++ [C]) l 0 2).v = [ni 0, ni 2, ni (atz l 37 ((bA q).rim.length - 1)), ni (atz l 35 (C.rim.length - 1)), ni 1] ++ (dV stillV ++ ((z4_ ++ z4_) ++ (z4_ ++ z4_))) := by
    unfold scO Ft.v
    simp only
    rw [g1, g2, dV_00]
    rfl
   rw [hv] at w3
   unfold mdS
   generalize scF0 l q ++ [scO (scL0 q ++ [C]) l 0 2] = FF at *
   generalize scF0 l q = F0 at *
   exact fi (F ++ [na (t := (atz l 36 1 == 1)) h2, .sel _ _ _ sA, .sel _ _ _ sA, .eqv 95 (ni ((ptR (bA q).rim).length : Int)) (ni (((bA q).rim.length - 1 + 1 : Nat) : Int)) (by rw [tA, ← eA]), cl dA, .sel _ _ _ sC, .sel _ _ _ sC, .eqv 106 (ni ((ptR C.rim).length : Int)) (ni ((C.rim.length - 1 + 1 : Nat) : Int)) (by rw [tC, ← eC]), cl d0, .app _ _ _ 100 w3 Nat.zero_lt_one n4]) (by kernel_rfl) (by kernel_rfl)
set_option maxRecDepth 100000 in
/-- **Made**. -/
theorem e_madeQ (hl : ∀ x ∈ l, W.Is64 x) (cp : Pure PP 47 [zl l] (.ag (brV q))) : Pure PP 10 [zl l] (.ag [.sl (piR (scL l q)), .sl (plR (scA l q)), .sl (ftR (scF l q))]) := by
 have nx := md_2 (q := q) hl
 have hpl : plR (scA0 q) = [dV stillV ++ (z4_ ++ z4_), dPl (bT q, bAt q)] := by show [dV stillV ++ dV (0, 0), dPl (bT q, bAt q)] = _; rw [dV_00]
 have cb := bM_in q
 let F : List F_ := [cl cp, cl e_still5]
 unfold mdS at nx
 rw [hpl] at nx
 unfold scF0 at nx
 unfold brV at cp
 refine pf (by kernel_rfl) ?_
 cases h : decide ((bM q : Int) > 1) with
 | false =>
  rw [h, if_neg (by simp)] at nx
  exact .to mo_ [] [0, 2, 4, 5] [0, 2, 3, 4, 5, 6] 7 (F ++ [na (t := decide ((bM q : Int) > 1)) h, nf]) nx (by kernel_rfl)
 | true =>
  cases h2 : (atz l 30 1 == 1) with
  | false =>
   rw [h, h2, if_neg (by simp)] at nx
   exact .to mo_ [] [0, 2, 4, 5] [0, 2, 3, 4, 5, 6] 7 (F ++ [ye (t := decide ((bM q : Int) > 1)) h, cl (e_at hl 30 1), na (t := (atz l 30 1 == 1)) h2]) nx (by kernel_rfl)
  | true =>
   rw [h, h2, if_pos (by rfl)] at nx
   refine .to mo_ [] [0, 2, 4, 5] [0, 2, 3, 4, 6, 8] 9 (F ++ [ye (t := decide ((bM q : Int) > 1)) h, cl (e_at hl 30 1), ye (t := (atz l 30 1 == 1)) h2]) (td' := rg fmd 8) (σ' := at_ fmd [(0, zl l), (2, .lp 0 0), (4, .lp 2 0), (5, .lp 6 0)] [.bx 27 [.nl, .nl, .nl], .dead, .bx 41 (dV stillV), .rw 39 25 (piR (scL0 q)), .rw 45 16 [dV stillV ++ (z4_ ++ z4_), dPl (bT q, bAt q)], .dead, .bx 27 [.ow 3, .ow 4, .ow 8], .dead, .rw 96 29 (ftR [bShort q, bFit q])]) ?_ (by kernel_rfl)
   exact .to mo_ [.mv 5 8] [0, 2, 4, 5] [0, 2, 3, 4, 5, 6] 7 [] nx (by kernel_rfl)
end
end Go.Proofs.YtbaggkbleehegaaGreat.E.Ct
namespace Go.Proofs.YtbaggkbleehegaaGreat.E.Ct
open Go.RowKit
set_option linter.unusedVariables false
set_option linter.unusedSimpArgs false
section
variable {l q : List Int} {k b : Nat} {P : List (Int × Int)}
theorem bq8 {x y : Int} (hx : -200 ≤ x ∧ x ≤ 200) (hy : 1 ≤ y ∧ y ≤ 200) : Bq 8 (Rat.divInt x y) := Bq.divInt (k := 8) (by unfold I.Bd; omega) (by unfold I.Bd; omega) (by omega)
theorem mkP_good {pl : Pl} {a : Nat} (hP : ∀ p ∈ P, Sm_ 12 p) (h0 : 0 < P.length ∧ P.length ≤ 100) (h1 : Bv 100 pl.1) (h2 : Bv 100 pl.2) : (mkP P l a).Good pl 100 := by
 have a1 := atz_in l (a + 1) 2
 have a2 := atz_in l a 2
 refine ⟨⟨fun x hx => sm64 (hP x hx), ⟨h0.1, by show P.length ≤ _; omega⟩, ?_, ?_, ?_, ?_, ?_⟩, fun v hv => (qvs hP v hv).mono (by omega), h1, h2, h0.2, by omega⟩
 · exact (bq8 (x := atz l (a + 1) 2) (y := 4) (by omega) (by omega)).mono (by omega)
 · exact (bq8 (x := 1) (y := 1) (by omega) (by omega)).mono (by omega)
 · exact (bq8 (x := 1 + atz l a 2) (y := 1) (by omega) (by omega)).mono (by omega)
 · exact (bq8 (x := 100) (y := 1) (by omega) (by omega)).mono (by omega)
 · exact (bq8 (x := 1) (y := 2) (by omega) (by omega)).mono (by omega)
theorem p12_good {pl : Pl} (h1 : Bv 100 pl.1) (h2 : Bv 100 pl.2) : (p12 l).Good pl 100 := by
 obtain ⟨r1, r2, r3⟩ := rimP_in l
 unfold p12
 generalize rimP l = P at *
 have a10 := atz_in l 10 2
 have a11 := atz_in l 11 5
 have a12 := atz_in l 12 3
 have a13 := atz_in l 13 99
 have a14 := atz_in l 14 4
 have bl : Bq 8 (pLight l) := bq8 (by omega) (by omega)
 refine ⟨⟨fun x hx => sm64 (r1 x hx), ⟨by show 0 < P.length; omega, by show P.length ≤ _; omega⟩, ?_, bl.mono (by omega), ?_, ?_, ?_⟩, fun v hv => (qvs r1 v hv).mono (by omega), h1, h2, by show P.length ≤ _; omega, by omega⟩
 · exact (bq8 (x := atz l 10 2) (y := 4) (by omega) (by omega)).mono (by omega)
 · exact (bl.add (bq8 (x := atz l 12 3) (y := 2) (by omega) (by omega))).mono (by omega)
 · exact (bq8 (x := 20 + atz l 13 99) (y := 1) (by omega) (by omega)).mono (by omega)
 · exact (bq8 (x := atz l 14 4) (y := 4) (by omega) (by omega)).mono (by omega)
theorem still_bits : Bv 8 stillV := ⟨bq8 (by omega) (by omega), Bq.zero (by omega)⟩
theorem bT_bits (q : List Int) : Bv 8 (bT q) := rq_bits still_bits _
theorem bAt_bits (q : List Int) : Bv 100 (bAt q) := by
 have hby := bBy_in q
 have b3 : Bv 8 (qv (bBy q)) := qv_sm (hby.mono (by omega))
 exact (Bv.sub (j := 1) (v := (0, 0)) ⟨Bq.zero (by omega), Bq.zero (by omega)⟩ ((bT_bits q).rot b3)).mono (by omega)
theorem zero_bits : Bv 100 ((0, 0) : Vc) := ⟨Bq.zero (by omega), Bq.zero (by omega)⟩
theorem bA_good (q : List Int) : (bA q).Good (stillV, (0, 0)) 100 := mkP_good (fun p hp => (firP_in q p hp).mono (by omega)) (by rw [firP_len]; have := bM_in q; omega) (still_bits.mono (by omega)) zero_bits
theorem bB_good (q : List Int) : (bB q).Good (bT q, bAt q) 100 := mkP_good (secM_in q) (by rw [secM_len]; have := bM_in q; omega) ((bT_bits q).mono (by omega)) (bAt_bits q)
theorem scPl_bits (l : List Int) : Bv 100 (scPl l).1 ∧ Bv 100 (scPl l).2 := by
 have a32 := atz_in l 32 63
 have a33 := atz_in l 33 19
 have a34 := atz_in l 34 7
 have hr := rnd_in (atz l 32 63) 63
 refine ⟨(trnV_in (rnd (atz l 32 63) 63).toNat (by omega)).1.mono (by omega), ?_⟩
 exact Bv.mono (k := 100) (j := 8) ⟨bq8 (by omega) (by omega), bq8 (by omega) (by omega)⟩ (by omega)
/-- What is known of a scene. -/
structure ScOk (s : Sc) (F : List Ft) : Prop where
 ok : s.Ok 100
 f : ∀ f ∈ F, f.Ok s
 n : s.L.length = 2 ∨ s.L.length = 3
 a : s.A.length = s.L.length
 m : F.length = 1 ∨ F.length = 2 ∨ F.length = 3
theorem f0_ok {s : Sc} (hn : 2 ≤ s.L.length) : ∀ f ∈ scF0 l q, f.Ok s := fun f hf => by
 have hm := bM_in q
 have h1 : (bFit q).Ok s := ⟨by show 0 < _; omega, by show 1 < _; omega, by show 1 ≤ _; omega, by show bM q ≤ _; omega⟩
 have h2 : (bShort q).Ok s := ⟨by show 0 < _; omega, by show 1 < _; omega, by show 1 ≤ _; omega, by show 1 ≤ _; omega⟩
 unfold scF0 at hf
 split at hf
 · simp only [List.mem_cons, List.not_mem_nil, or_false] at hf
   rcases hf with rfl | rfl <;> assumption
 · simp only [List.mem_cons, List.not_mem_nil, or_false] at hf
   subst hf; assumption
theorem f0_len : (scF0 l q).length = 1 ∨ (scF0 l q).length = 2 := by unfold scF0; split <;> simp
theorem edg_le (L : List Pi) (l : List Int) (i j : Nat) (h : ∀ p ∈ L, p.rim.length ≤ 100) : edg L l i j ≤ 100 := by
 have ha := atz_in l i ((L.getD j (bare [])).rim.length - 1)
 have hb : (L.getD j (bare [])).rim.length ≤ 100 := by
  rw [List.getD_eq_getElem?_getD]
  cases e : L[j]? with
  | none => show (bare []).rim.length ≤ 100; exact Nat.zero_le _
  | some p => exact h p (List.mem_of_getElem? e)
 unfold edg
 omega
theorem sc_ok (l q : List Int) : ScOk ⟨scL l q, scA l q⟩ (scF l q) := by
 unfold scL scA scF
 have gA := bA_good q
 have gB := bB_good q
 cases h : (atz l 31 2 == 0) with
 | false =>
  rw [if_neg (by simp), if_neg (by simp), if_neg (by simp)]
  refine ⟨⟨fun k hk => ?_, ⟨Nat.le_refl 2, by show 2 ≤ 100; omega⟩, by omega⟩, f0_ok (Nat.le_refl 2), .inl rfl, rfl, by have := f0_len (l := l) (q := q); omega⟩
  have hk : k < 2 := hk
  match k, hk with
  | 0, _ => exact gA
  | 1, _ => exact gB
 | true =>
  rw [if_pos rfl, if_pos rfl, if_pos rfl]
  have gC := p12_good (l := l) (scPl_bits l).1 (scPl_bits l).2
  have nA := gA.n
  have nB := gB.n
  have nC := gC.n
  generalize p12 l = C at *
  have hL : ∀ p ∈ scL0 q ++ [C], p.rim.length ≤ 100 := fun p hp => by
   unfold scL0 at hp
   simp only [List.cons_append, List.nil_append, List.mem_cons, List.not_mem_nil, or_false] at hp
   rcases hp with rfl | rfl | rfl <;> assumption
  have hO : ∀ a b, a < 3 → b < 3 → (scO (scL0 q ++ [C]) l a b).Ok ⟨scL0 q ++ [C], scA0 q ++ [scPl l]⟩ := fun a b ha hb => ⟨ha, hb, by show edg _ _ _ _ ≤ _; have := edg_le (scL0 q ++ [C]) l 37 a hL; omega, by show 1 ≤ 100; omega⟩
  refine ⟨⟨fun k hk => ?_, ⟨Nat.le_refl 3, by show 3 ≤ 100; omega⟩, by omega⟩, fun f hf => ?_, .inr rfl, rfl, ?_⟩
  · have hk : k < 3 := hk
    match k, hk with
    | 0, _ => exact gA
    | 1, _ => exact gB
    | 2, _ => exact gC
  · rcases List.mem_append.1 hf with hf | hf
    · exact f0_ok (s := ⟨scL0 q ++ [C], scA0 q ++ [scPl l]⟩) (show 2 ≤ 3 by omega) f hf
    · simp only [List.mem_singleton] at hf
      subst hf
      split
      · exact hO 2 1 (by omega) (by omega)
      · exact hO 0 2 (by omega) (by omega)
  · rw [List.length_append]
    have := f0_len (l := l) (q := q)
    simp only [List.length_singleton]
    omega
theorem e_sets {s : Sc} {F : List Ft} (h : ScOk s F) {i g : Int} (hi : W.Is64 i) (hg : W.Is64 g) : ∃ a b, Pure PP 21 [.ag [.sl (piR s.L), .sl (plR s.A), .sl (ftR F)], ni i, ni g] (.tu [ni a, ni b]) := by
 have h1 := piR_len s.L
 have h2 := ftR_len F
 rcases h.n with e1 | e1 <;> rcases h.m with e2 | e2 | e2
 · exact ⟨rnd i 3, rnd g 1, tr [.eqv 11 (ni ((piR s.L).length : Int)) (ni 2) (by rw [h1, e1]; rfl), cl (e_around hi 3), .eqv 17 (ni ((ftR F).length : Int)) (ni 1) (by rw [h2, e2]; rfl), cl (e_around hg 1)] (by kernel_rfl)⟩
 · exact ⟨rnd i 3, rnd g 3, tr [.eqv 11 (ni ((piR s.L).length : Int)) (ni 2) (by rw [h1, e1]; rfl), cl (e_around hi 3), .eqv 17 (ni ((ftR F).length : Int)) (ni 2) (by rw [h2, e2]; rfl), cl (e_around hg 3)] (by kernel_rfl)⟩
 · exact ⟨rnd i 3, rnd g 7, tr [.eqv 11 (ni ((piR s.L).length : Int)) (ni 2) (by rw [h1, e1]; rfl), cl (e_around hi 3), .eqv 17 (ni ((ftR F).length : Int)) (ni 3) (by rw [h2, e2]; rfl), cl (e_around hg 7)] (by kernel_rfl)⟩
 · exact ⟨rnd i 7, rnd g 1, tr [.eqv 11 (ni ((piR s.L).length : Int)) (ni 3) (by rw [h1, e1]; rfl), cl (e_around hi 7), .eqv 17 (ni ((ftR F).length : Int)) (ni 1) (by rw [h2, e2]; rfl), cl (e_around hg 1)] (by kernel_rfl)⟩
 · exact ⟨rnd i 7, rnd g 3, tr [.eqv 11 (ni ((piR s.L).length : Int)) (ni 3) (by rw [h1, e1]; rfl), cl (e_around hi 7), .eqv 17 (ni ((ftR F).length : Int)) (ni 2) (by rw [h2, e2]; rfl), cl (e_around hg 3)] (by kernel_rfl)⟩
 · exact ⟨rnd i 7, rnd g 7, tr [.eqv 11 (ni ((piR s.L).length : Int)) (ni 3) (by rw [h1, e1]; rfl), cl (e_around hi 7), .eqv 17 (ni ((ftR F).length : Int)) (ni 3) (by rw [h2, e2]; rfl), cl (e_around hg 7)] (by kernel_rfl)⟩
end
end Go.Proofs.YtbaggkbleehegaaGreat.E.Ct
namespace Go.Proofs.YtbaggkbleehegaaGreat.E
open Go.RowKit
set_option linter.unusedVariables false
theorem Pure.ro {P : Program} {f : FuncId} {ds : List V} {T z : Nat} {l : List (List V)} (h : Pure P f ds (.o T z l)) : Pure P f ds (.v (.sl l)) :=
 ⟨h.1, fun w M args hM hr => (h.2 w M args hM hr).mono fun e w' ⟨v, e1, ok, bel⟩ => ⟨v, e1, by
  obtain ⟨q1, xs, q2, q3, q4⟩ := ok
  show Rep w' M no v (.sl l)
  have hxl : xs.length = l.flatten.length := by rw [q2.1, flat_len q1]
  rcases q2.2 with ⟨rfl, e0⟩ | ⟨g, cap, cur, rfl, hB, hh, hnc, hcm, hcs', htk⟩
  · have h0 : l = [] := List.length_eq_zero_iff.1 e0
    subst h0
    exact .sl _ none 0 0 0 z [] (fun _ _ => undef) (Nat.le_refl _) (Nat.zero_le _) (fun h => by simp at h) (fun _ h => by simp at h) (fun i j cs x h => by simp at h) (fun i j cs x h => by simp at h)
  · refine .sl _ _ g 0 cap z l (fun i j => xs.getD (i * z + j) undef) hnc hcm (fun _ => ⟨rfl, fun hA => hB (hM g hA), ⟨cur, T, (0, 0), hh⟩⟩) q1 (fun i j cs x hi hj => ?_) (fun i j cs x hi hj => ?_)
    · have e1 := flat_get q1 hi hj
      have e2 := (List.getElem?_eq_some_iff.1 e1).1
      have e3 : xs[i * z + j]? = some (xs.getD (i * z + j) undef) := by rw [List.getD_eq_getElem?_getD, List.getElem?_eq_getElem (by omega)]; rfl
      have := row_cell q2 rfl e3
      rwa [show 0 + i * z + j = i * z + j by omega]
    · exact (q4 _ x (flat_get q1 hi hj)).mo ⟨Nat.le_refl _, fun _ _ _ => rfl, fun g e => .inl (.inl e), fun _ _ e => e⟩, bel⟩⟩
end Go.Proofs.YtbaggkbleehegaaGreat.E
namespace Go.Proofs.YtbaggkbleehegaaGreat.E.Ct
open Go.RowKit
set_option linter.unusedVariables false
set_option linter.unusedSimpArgs false
section
variable {l : List Int} {i : Nat}
noncomputable abbrev fsi_ : Func := fnOf PP 30
theorem e_sints (l : List Int) (hn : l.length ≤ 1000000) : Pure PP 30 [zl l, zl l] (bo true) := by
 have hl := zs_len l
 let X : Nat → St := fun i => at_ fsi_ [(0, zl l), (1, zl l), (5, ni (i : Int))] []
 refine pf (by kernel_rfl) (.to mo_ [] [0, 1, 5] [] 0 [na (t := ((zs l).length : Int) != ((zs l).length : Int)) (by simp)] (td' := lp fsi_ 0) (σ' := X 0) ?_ (by kernel_rfl))
 refine Gd.loop X (fun i => i ≤ l.length) (fun i => l.length - i) ?_ 0 (Nat.zero_le _)
 intro i hi ih
 by_cases g : i < l.length
 · have et := zs_el g
   exact .to mo_ [] [0, 1, 5] [] 0 [ye (t := decide ((i : Int) < ((zs l).length : Int))) (decide_eq_true (by omega)), .sel _ _ _ et, .sel _ _ _ et, na (t := l.getD i 0 != l.getD i 0) (by simp), inc 16 i (by omega)] (ih (i + 1) g (by omega)) (by kernel_rfl)
 · exact fi [na (t := decide ((i : Int) < ((zs l).length : Int))) (decide_eq_false (by omega))] (by kernel_rfl) (by kernel_rfl)
def sqP : Pi := ⟨0, 0, [(0, 0), (4, 0), (4, 4), (0, 4)], [false, false, false, false], [0, 0, 0, 0], 0, Rat.divInt 1 1, Rat.divInt 2 1, Rat.divInt 1 1, 0⟩
theorem e_square : Pure PP 74 [] (.ag sqP.v) := by
 have e : sqP.v = [ni 0, ni 0, .sl [[ni 0, ni 0], [ni 4, ni 0], [ni 4, ni 4], [ni 0, ni 4]], .sl [[bo false], [bo false], [bo false], [bo false]], .sl [[ni 0], [ni 0], [ni 0], [ni 0]]] ++ (z4_ ++ (dR (Rat.divInt 1 1) ++ (dR (Rat.divInt 2 1) ++ (dR (Rat.divInt 1 1) ++ z4_)))) := by
  show [ni 0, ni 0, .sl (ptR [(0, 0), (4, 0), (4, 4), (0, 4)]), .sl (wnR [false, false, false, false]), zl [0, 0, 0, 0]] ++ (dR 0 ++ (dR (Rat.divInt 1 1) ++ (dR (Rat.divInt 2 1) ++ (dR (Rat.divInt 1 1) ++ dR 0)))) = _
  rw [dR_0]
  rfl
 rw [e]
 exact tr [cl (e_of4 (x := 1) (y := 1) is1_ is1_), .mk 4 (by decide), .mk 4 (by decide), cl (e_of4 (x := 2) (y := 1) is2_ is1_)] (by kernel_rfl)
theorem e_segm {x y z : Int} (hx : W.Is64 x) (hy : W.Is64 y) (hz : W.Is64 z) : Pure PP 73 [.sl (sgR [(qv (x, y), qv (z, y))]), ni x, ni y, ni z] (bo true) :=
 have s0 : (sgR [(qv (x, y), qv (z, y))])[0]? = some (sgV (qv (x, y), qv (z, y))) := rfl
 tr [nf, .sel _ _ _ s0, cl (e_vof hx hy), cl (vsame (qv (x, y))), yt, .sel _ _ _ s0, cl (e_vof hz hy), cl (vsame (qv (z, y)))] (by kernel_rfl)
def boxL : List Vc := [qv (0, 0), qv (4, 0), qv (4, 4), qv (0, 4)]
def tipL : List Vc := [qv (2, 0), qv (4, 3), qv (0, 3)]
def lvA : List Pl := [(stillV, (0, 0)), (stillV, qv (4, 0))]
def lvS : Sc := ⟨[sqP, sqP], lvA⟩
def lvF : List Ft := [⟨0, 1, 1, 3, 1, stillV, qv (4, 0), qv (4, 0)⟩]
def lvB : Bo := ⟨qv (4, 2), Rat.divInt 2 1, Rat.divInt 4 1, Rat.divInt 1 1⟩
theorem qv_bits {x y : Int} (hx : -200 ≤ x ∧ x ≤ 200) (hy : -200 ≤ y ∧ y ≤ 200) : Bv 100 (qv (x, y)) := Bv.mono (k := 100) (j := 8) ⟨bq8 hx (by omega), bq8 hy (by omega)⟩ (by omega)
theorem lv_on (L : List Vc) (P Q : Vc) (r : Rat) (S : List (Vc × Vc)) (hl : L.all (fun a => decide (a.1.num.natAbs < 2 ^ 7) && decide (a.1.den < 2 ^ 7) && (decide (a.2.num.natAbs < 2 ^ 7) && decide (a.2.den < 2 ^ 7))) = true) (h0 : 0 < L.length ∧ L.length ≤ 1000) (hP : Bv 100 P) (hQ : Bv 100 Q) (hr : Bq 100 r) (hS : (⟨L, P, Q, r⟩ : Su).segs = S) : Pure PP 15 [dL L, .ag (dV P ++ dV Q), .ag (dR r)] (.sl (sgR S)) := by
 have h := (e_on (s := ⟨L, P, Q, r⟩) (b := 100) ⟨fun a ha => (lit_bits hl a ha).mono (by omega), hP, hQ, hr, h0, by omega⟩).ro
 rw [hS] at h
 exact h
theorem lv_s1 : (⟨boxL, qv (1, 0), qv (9, 0), 0⟩ : Su).segs = [(qv (1, 0), qv (4, 0))] := by decide +kernel
theorem lv_s2 : (⟨boxL, qv (1, 1), qv (9, 1), 0⟩ : Su).segs = [] := by decide +kernel
theorem lv_s3 : (⟨boxL, qv (1, 1), qv (9, 1), Rat.divInt 1 1⟩ : Su).segs = [(qv (1, 1), qv (4, 1))] := by decide +kernel
theorem lv_s4 : (⟨tipL, qv (1, 0), qv (9, 0), 0⟩ : Su).segs = [(qv (2, 0), qv (2, 0))] := by decide +kernel
theorem lv_b : (bodF lvS (rtB 3 1 lvF)).map (fun b => (b.c, b.light, b.heavy, b.str)) = [(lvB.c, lvB.light, lvB.heavy, lvB.str)] := by decide +kernel
theorem len1 {α β : Type} {f : α → β} {l : List α} {b : β} (h : l.map f = [b]) : ∃ a, l = [a] ∧ f a = b := by
 match l, h with
 | [a], h => exact ⟨a, rfl, by simpa using h⟩
theorem lv_b1 : bodF lvS (rtB 3 1 lvF) = [lvB] := by
 obtain ⟨x, h1, h2⟩ := len1 lv_b
 rw [h1]
 simp only [Prod.mk.injEq] at h2
 obtain ⟨h3, h4, h5, h6⟩ := h2
 cases x
 simp only at h3 h4 h5 h6
 subst h3; subst h4; subst h5; subst h6
 rfl
theorem lv_o : ownF lvS (rtB 3 1 lvF) = [0, 0] := by decide +kernel
theorem lv_t : (tch lvS 3 lvF).map (·.n) = [qv (-4, 0)] := by decide +kernel
theorem lv_p : (lvS.prs 2 flP flQ 2).map (·.n) = [qv (0, 4)] := by decide +kernel
theorem lv_w0 : (btw [0, 0] (tch lvS 3 lvF)).length = 0 := by decide +kernel
theorem lv_w1 : (btw [0, 1] (tch lvS 3 lvF)).length = 1 := by decide +kernel
theorem sq_good {pl : Pl} (h1 : Bv 100 pl.1) (h2 : Bv 100 pl.2) : sqP.Good pl 100 := by
 refine ⟨⟨fun x hx => ?_, ⟨by decide, by decide⟩, Bq.zero (by omega), (bq8 (by omega) (by omega)).mono (by omega), (bq8 (by omega) (by omega)).mono (by omega), (bq8 (by omega) (by omega)).mono (by omega), Bq.zero (by omega)⟩, fun v hv => (qvs (P := sqP.rim) (fun p hp => ?_) v hv).mono (by omega), h1, h2, by decide, by omega⟩
 · have : ∀ x ∈ sqP.rim, -100000 ≤ x.1 ∧ x.1 ≤ 100000 ∧ -100000 ≤ x.2 ∧ x.2 ≤ 100000 := by decide
   have := this x hx
   exact ⟨i64_ (by omega), i64_ (by omega)⟩
 · have : ∀ x ∈ sqP.rim, -12 ≤ x.1 ∧ x.1 ≤ 12 ∧ -12 ≤ x.2 ∧ x.2 ≤ 12 := by decide
   exact this p hp
theorem lv_ok : lvS.Ok 100 := ⟨fun k hk => by
 have hk : k < 2 := hk
 match k, hk with
 | 0, _ => exact sq_good (pl := (stillV, (0, 0))) (still_bits.mono (by omega)) zero_bits
 | 1, _ => exact sq_good (pl := (stillV, qv (4, 0))) (still_bits.mono (by omega)) (qv_bits (by omega) (by omega)), ⟨Nat.le_refl 2, by decide⟩, by omega⟩
theorem lv_f : ∀ f ∈ lvF, f.Ok lvS := fun f hf => by
 unfold lvF at hf
 simp only [List.mem_singleton] at hf
 subst hf
 exact ⟨by decide, by decide, by decide, by decide⟩
theorem tch_bt {s : Sc} {st : Int} {l : List Ft} {own : List Int} (hf : ∀ f ∈ l, f.Ok s) (ho : own.length = s.L.length) : ∀ t ∈ tch s st l, BtOk own t := fun t ht => by
 obtain ⟨f, h1, h2⟩ := List.mem_flatMap.1 ht
 unfold tch1 at h2
 split at h2
 · obtain ⟨k, _, rfl⟩ := List.mem_map.1 h2
   have := hf f h1
   exact ⟨⟨f.a, rfl, by rw [ho]; exact this.a⟩, .inr ⟨f.b, rfl, by rw [ho]; exact this.b⟩⟩
 · cases h2
noncomputable abbrev flv : Func := fnOf PP 20
theorem fl_bits : Bv 100 flP ∧ Bv 100 flQ := by
 have h : ∀ x : Int, x = -1048576 ∨ x = 1048576 → Bq 100 (Rat.divInt x 1) := fun x hx => (Bq.divInt (k := 24) (p := x) (q := 1) (by unfold I.Bd; omega) (by unfold I.Bd; decide) (by decide)).mono (by omega)
 exact ⟨⟨h _ (.inl rfl), (bq8 (by omega) (by omega)).mono (by omega)⟩, h _ (.inr rfl), (bq8 (by omega) (by omega)).mono (by omega)⟩
set_option maxRecDepth 100000 in
theorem e_lives : Pure PP 20 [] (bo true) := by
 have z : ∀ x : Int, -100 ≤ x ∧ x ≤ 100 → W.Is64 x := fun x h => i64_ (by omega)
 have v := fun (x y : Int) (hx : -100 ≤ x ∧ x ≤ 100) (hy : -100 ≤ y ∧ y ≤ 100) => e_vof (z x hx) (z y hy)
 have o1 := lv_on boxL (qv (1, 0)) (qv (9, 0)) 0 _ (by decide +kernel) (by decide) (qv_bits (by omega) (by omega)) (qv_bits (by omega) (by omega)) (Bq.zero (by omega)) lv_s1
 have o2 := lv_on boxL (qv (1, 1)) (qv (9, 1)) 0 _ (by decide +kernel) (by decide) (qv_bits (by omega) (by omega)) (qv_bits (by omega) (by omega)) (Bq.zero (by omega)) lv_s2
 have o3 := lv_on boxL (qv (1, 1)) (qv (9, 1)) (Rat.divInt 1 1) _ (by decide +kernel) (by decide) (qv_bits (by omega) (by omega)) (qv_bits (by omega) (by omega)) ((bq8 (by omega) (by omega)).mono (by omega)) lv_s3
 have o4 := lv_on tipL (qv (1, 0)) (qv (9, 0)) 0 _ (by decide +kernel) (by decide) (qv_bits (by omega) (by omega)) (qv_bits (by omega) (by omega)) (Bq.zero (by omega)) lv_s4
 have g1 := e_segm (x := 1) (y := 0) (z := 4) (z 1 (by omega)) (z 0 (by omega)) (z 4 (by omega))
 have g3 := e_segm (x := 1) (y := 1) (z := 4) (z 1 (by omega)) (z 1 (by omega)) (z 4 (by omega))
 have g4 := e_segm (x := 2) (y := 0) (z := 2) (z 2 (by omega)) (z 0 (by omega)) (z 2 (by omega))
 rw [dR_0] at o1 o2 o4
 have hn : lvS.L.length = 2 := rfl
 have cb := e_bodies (st := 3) (gl := 1) lv_ok lv_f (by decide) (by decide)
 rw [lv_b1, lv_o] at cb
 have ct := (e_touches (st := 3) lv_ok lv_f (by decide)).ro
 have cp := (e_props (st := 2) lv_ok fl_bits.1 fl_bits.2).ro
 have w0 := (e_between (own := [0, 0]) (l := tch lvS 3 lvF) (by have := tch_len (s := lvS) (st := 3) lv_f 1; rw [show lvF.take 1 = lvF from rfl] at this; omega) (tch_bt lv_f rfl)).ro
 have w1 := (e_between (own := [0, 1]) (l := tch lvS 3 lvF) (by have := tch_len (s := lvS) (st := 3) lv_f 1; rw [show lvF.take 1 = lvF from rfl] at this; omega) (tch_bt lv_f rfl)).ro
 have l0 := lv_w0
 have l1 := lv_w1
 obtain ⟨t0, ht, hv⟩ := len1 lv_t
 obtain ⟨u0, hu, hw⟩ := len1 lv_p
 rw [hn, hu] at cp
 rw [ht] at ct w0 w1 l0 l1
 generalize btw [0, 0] [t0] = B0 at *
 generalize btw [0, 1] [t0] = B1 at *
 have e0 : B0 = [] := List.length_eq_zero_iff.1 l0
 subst e0
 obtain ⟨b1, rfl⟩ : ∃ b, B1 = [b] := by
  match B1, l1 with
  | [b], _ => exact ⟨b, rfl⟩
 have hA : plR lvS.A = [dV stillV ++ (z4_ ++ z4_), dV stillV ++ dV (qv (4, 0))] := by show [dV stillV ++ dV (0, 0), dV stillV ++ dV (qv (4, 0))] = _; rw [dV_00]
 rw [hA] at cb ct cp
 have sb : (boR [lvB])[0]? = some lvB.v := rfl
 have st : (toR [t0])[0]? = some t0.v := rfl
 have su : (toR [u0])[0]? = some u0.v := rfl
 have q1 := vsame (qv (4, 2))
 have q2 := vsame u0.n
 have q3 := vsame t0.n
 have q4 := v 0 4 (by omega) (by omega)
 have q5 := v (-4) 0 (by omega) (by omega)
 change Pure PP _ _ (.v (.ag (dV (qv (0, 4))))) at q4
 change Pure PP _ _ (.v (.ag (dV (qv (-4, 0))))) at q5
 rw [← hw] at q4
 rw [← hv] at q5
 refine pf (by kernel_rfl) (.to mo_ [.fz 3, .fz 4] [1, 2, 3, 4, 5] [0, 1, 4] 5 [cl (v 1 0 (by omega) (by omega)), cl (v 9 0 (by omega) (by omega)), cl (v 1 1 (by omega) (by omega)), cl (v 9 1 (by omega) (by omega)), cl (v 0 0 (by omega) (by omega)), cl (v 4 0 (by omega) (by omega)), cl (v 4 4 (by omega) (by omega)), cl (v 0 4 (by omega) (by omega)), cl (v 2 0 (by omega) (by omega)), cl (v 4 3 (by omega) (by omega)), cl (v 0 3 (by omega) (by omega))] (td' := rg flv 6) (σ' := at_ flv [(1, .lp 0 0), (2, .lp 1 0), (3, dL boxL), (4, dL tipL), (5, .lp 4 0)] [.bx 48 (dV (qv (1, 0)) ++ dV (qv (9, 0))), .bx 48 (dV (qv (1, 1)) ++ dV (qv (9, 1))), .dead, .dead, .bx 37 z4n]) ?_ (by kernel_rfl))
 exact fi [cl o1, cl g1, nf, cl o2, nf, cl (e_of4 (x := 1) (y := 1) is1_ is1_), cl o3, cl g3, nf, cl o4, cl g4, nf, cl e_square, cl e_square, cl e_still5, cl (v 4 0 (by omega) (by omega)), cl (v 4 0 (by omega) (by omega)), cl (v 4 0 (by omega) (by omega)), cl cb, cl ct, cl e_floor, cl cp, nf, nf, nf, cl (e_sints [0, 0] (by decide)), nf, .sel _ _ _ sb, cl (v 4 2 (by omega) (by omega)), cl q1, nf, .sel _ _ _ sb, cl (e_of4 (x := 2) (y := 1) is2_ is1_), cl (rsame (Rat.divInt 2 1)), nf, .sel _ _ _ sb, cl (e_of4 (x := 4) (y := 1) (z 4 (by omega)) is1_), cl (rsame (Rat.divInt 4 1)), nf, .sel _ _ _ su, cl q4, cl q2, nf, .sel _ _ _ st, cl q5, cl q3, yt, cl w0, yt, cl w1] (by kernel_rfl) (by kernel_rfl)
end
end Go.Proofs.YtbaggkbleehegaaGreat.E.Ct
namespace Go.Proofs.YtbaggkbleehegaaGreat.E
theorem gl_nil : gl = [] := by kernel_rfl
theorem glo_nil (w : World) : Glo w (fun _ => False) := fun p hp => by rw [gl_nil] at hp; cases hp
end Go.Proofs.YtbaggkbleehegaaGreat.E
namespace Go.Proofs.YtbaggkbleehegaaGreat.E.Ct
open Go.RowKit
set_option linter.unusedVariables false
set_option linter.unusedSimpArgs false
def scV (s : Sc) (F : List Ft) : List V := [.sl (piR s.L), .sl (plR s.A), .sl (ftR F)]
section
variable {l : List Int} {i g : Int} {k : Nat}
theorem ScOk.flen {s : Sc} {F : List Ft} (h : ScOk s F) : F.length ≤ 3 := by have := h.m; omega
theorem ScOk.tlen {s : Sc} {F : List Ft} (h : ScOk s F) (st : Int) : (tch s st F).length ≤ 300 := by
 have := tch_len (s := s) (st := st) h.f F.length
 rw [List.take_length] at this
 have := h.flen
 omega
theorem ScOk.plen {s : Sc} {F : List Ft} (h : ScOk s F) (st : Int) (P Q : Vc) : (s.prs st P Q s.L.length).length ≤ 600 := by
 have := Sc.prs_len (st := st) (P := P) (Q := Q) h.ok s.L.length (Nat.le_refl _)
 have := h.n
 omega
theorem to_one (L : List To) : ∀ cs ∈ toR L, cs.length = 30 ∧ cs.all one = true := fun cs h => by
 obtain ⟨t, _, rfl⟩ := List.mem_map.1 h
 exact ⟨rfl, rfl⟩
end
end Go.Proofs.YtbaggkbleehegaaGreat.E.Ct
namespace Go.Proofs.YtbaggkbleehegaaGreat.E.Ct
open Go.RowKit
set_option linter.unusedVariables false
set_option linter.unusedSimpArgs false
section
variable {l x : List Int} {e : Int} {k i j : Nat}
end
end Go.Proofs.YtbaggkbleehegaaGreat.E.Ct
