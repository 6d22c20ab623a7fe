/-
 CONTACT: sums over bodies, the boxes of their centers (plain).
-/
import Derived.Test.YtbaggkbleehegaaGreatExD
import Derived.Test.YtbaggkbleehegaaGreatWalkUns
namespace Go.Proofs.YtbaggkbleehegaaGreat.E.Ct
open Go.RowKit
set_option linter.unusedVariables false
set_option linter.unusedSimpArgs false
section
variable {l : List Int}
theorem rnd_id {n : Int} {m : Nat} (h : 0 ≤ n ∧ n ≤ m) : rnd n m = n := by
 unfold rnd
 rw [if_neg (by omega)]
 exact Int.tmod_eq_of_lt h.1 (by omega)
theorem atz_id {l : List Int} {i m : Nat} {x : Int} (hl : l[i]? = some x) (h : 0 ≤ x ∧ x ≤ m) : atz l i m = x := by
 unfold atz
 have hlt := (List.getElem?_eq_some_iff.1 hl).1
 rw [if_pos hlt, List.getD_eq_getElem?_getD, hl]
 exact rnd_id h
theorem fb_64 (l : List Int) : ∀ x ∈ fbL l, W.Is64 x := by
 have h1 := bW_in l
 have h2 := bH_in l
 have h3 := atz_in l 3 (bW l - 2)
 have h4 := atz_in l 4 (bW l - 2)
 have h5 := atz_in l 7 3
 intro x hx
 unfold fbL at hx
 simp only [List.mem_cons, List.not_mem_nil, or_false] at hx
 rcases hx with rfl | rfl | rfl | rfl | rfl | rfl | rfl | rfl <;> exact i64_ (by omega)
theorem fb_sound (l : List Int) : Sound (fbL l) := by
 have h1 := bW_in l
 have h2 := bH_in l
 have h3 := atz_in l 3 (bW l - 2)
 have h4 := atz_in l 4 (bW l - 2)
 have eW : bW (fbL l) = bW l := by
  have := atz_id (l := fbL l) (i := 0) (m := 3) (x := (bW l : Int) - 4) rfl (by omega)
  unfold bW at this ⊢
  omega
 have eH : bH (fbL l) = bH l := by
  have := atz_id (l := fbL l) (i := 1) (m := 3) (x := (bH l : Int) - 3) rfl (by omega)
  unfold bH at this ⊢
  omega
 have eM : bM (fbL l) = 1 := by
  have := atz_id (l := fbL l) (i := 2) (m := 2) (x := 0) rfl (by omega)
  unfold bM
  omega
 obtain ⟨x, hx⟩ : ∃ x : Nat, atz l 3 (bW l - 2) = (x : Int) := ⟨(atz l 3 (bW l - 2)).toNat, by omega⟩
 obtain ⟨y, hy⟩ : ∃ y : Nat, atz l 4 (bW l - 2) = (y : Int) := ⟨(atz l 4 (bW l - 2)).toNat, by omega⟩
 have c0 : crP (fbL l) 0 = (1 + (x : Int), 0) := by
  unfold crP
  rw [eW, eM, if_neg (by omega), atz_id (l := fbL l) (i := 3 + 0) (m := bW l - 2) (x := atz l 3 (bW l - 2)) rfl h3, hx]
  rfl
 have c1 : crP (fbL l) 1 = (1 + (y : Int), (bH l : Int)) := by
  unfold crP
  rw [eW, eM, eH, if_pos rfl, atz_id (l := fbL l) (i := 3 + 1) (m := bW l - 2) (x := atz l 4 (bW l - 2)) rfl h4, hy]
 obtain ⟨w, hw⟩ : ∃ w : Nat, bW l = w + 4 := ⟨bW l - 4, by omega⟩
 obtain ⟨h, hh⟩ : ∃ h : Nat, bH l = h + 3 := ⟨bH l - 3, by omega⟩
 have key := List.all_eq_true.1 (List.all_eq_true.1 (List.all_eq_true.1 (List.all_eq_true.1 fb_all w (List.mem_range.2 (by omega))) h (List.mem_range.2 (by omega))) x (List.mem_range.2 (by omega))) y (List.mem_range.2 (by omega))
 rw [Bool.and_eq_true] at key
 have cw : ((bW l : Nat) : Int) = (w : Int) + 4 := by omega
 have ch : ((bH l : Nat) : Int) = (h : Int) + 3 := by omega
 refine ⟨?_, ?_⟩
 · have e : firP (fbL l) = fb1 ((w : Int) + 4) ((h : Int) + 3) x y := by
    unfold firP fb1
    rw [eM, eH, ch, show crL (fbL l) (1 + 1) = [crP (fbL l) 0, crP (fbL l) 1] from rfl, c0, c1, ch]
    rfl
   rw [e]
   exact key.1
 · have e : secP (fbL l) = fb2 ((w : Int) + 4) ((h : Int) + 3) x y := by
    unfold secP secK fb2
    rw [eM, eH, eW, ch, cw, show ((List.range (1 - 0)).map fun i => crP (fbL l) (1 - i)) = [crP (fbL l) 1] from rfl, c0, c1, ch]
    rfl
   rw [e]
   exact key.2
theorem pr_2f (hl : ∀ x ∈ l, W.Is64 x) (h : Pg.valid6 ((firP l).map qv) = false ∨ Pg.valid6 ((secP l).map qv) = false) : GPr (fbL l) (lp fpr 1) (pr2 l (bM l)) := by
 refine pr_2l ?_
 have h1 := bW_in l
 have h2 := bH_in l
 have h3 := atz_in l 3 (bW l - 2)
 have h4 := atz_in l 4 (bW l - 2)
 have h9 := bM_in l
 have b1 := fun p hp => (firP_in l p hp).mono (by omega : (8 : Int) ≤ 12)
 have b2 := fun p hp => (secK_in l (k := 0) p hp).mono (by omega : (8 : Int) ≤ 12)
 have v1 := e_valid13 (P := firP l) (fun p hp => sm64 (b1 p hp)) (qvs b1) (by rw [firP_len]; omega) (by omega)
 have v2 := e_valid13 (P := secK l 0) (fun p hp => sm64 (b2 p hp)) (qvs b2) (by rw [secK_len]; have := bM_in l; omega) (by omega)
 have cp := e_pairS (fb_64 l) (fb_sound l)
 let F : List F_ := [wq 94 ((bW l : Int) - 4) ((bW l : Int) - 4) (by omega), wq 96 ((bH l : Int) - 3) ((bH l : Int) - 3) (by omega), wq 99 ((bW l : Int) - 1) ((bW l - 2 + 1 : Nat) : Int) (by omega), cl (e_at hl 3 (bW l - 2)), wq 103 ((bW l : Int) - 1) ((bW l - 2 + 1 : Nat) : Int) (by omega), cl (e_at hl 4 (bW l - 2)), cl (e_at hl 7 3), cl cp]
 unfold pr2
 generalize brV (fbL l) = BR at *
 generalize hR0 : ptR (secK l 0) = R0 at *
 generalize ptR (firP l) = R1 at *
 change Pure PP _ [.sl (zs [(bW l : Int) - 4, (bH l : Int) - 3, 0, atz l 3 (bW l - 2), atz l 4 (bW l - 2), 0, 0, atz l 7 3])] _ at cp
 cases hv : Pg.valid6 ((firP l).map qv) with
 | false =>
  rw [hv] at v1
  exact fi ([na (t := decide (((0 : Nat) : Int) > 0)) (by decide), cl v1, yt, yt] ++ F) (by kernel_rfl) (by kernel_rfl)
 | true =>
  rw [hv] at v1 h
  have h := h.resolve_left (by simp)
  rw [show Pg.valid6 ((secK l 0).map qv) = false from h] at v2
  exact fi ([na (t := decide (((0 : Nat) : Int) > 0)) (by decide), cl v1, nf, cl v2, yt] ++ F) (by kernel_rfl) (by kernel_rfl)
/-- **Pair**: some numbers of which both pieces are polygons tell it. -/
theorem e_pair (hl : ∀ x ∈ l, W.Is64 x) : ∃ q, (∀ x ∈ q, W.Is64 x) ∧ Sound q ∧ Pure PP 47 [zl l] (.ag (brV q)) := by
 by_cases h : Sound l
 · exact ⟨l, hl, h, e_pairS hl h⟩
 · refine ⟨fbL l, fb_64 l, fb_sound l, pr_0 hl (pr_1 hl (pr_2f hl ?_))⟩
   cases h1 : Pg.valid6 ((firP l).map qv) with
   | false => exact .inl rfl
   | true =>
    cases h2 : Pg.valid6 ((secP l).map qv) with
    | false => exact .inr rfl
    | true => exact absurd ⟨h1, h2⟩ h
end
end Go.Proofs.YtbaggkbleehegaaGreat.E.Ct
namespace Go.Proofs.YtbaggkbleehegaaGreat.E.Ct
open Go.RowKit
set_option linter.unusedVariables false
set_option linter.unusedSimpArgs false
section
variable {l : List Int} {P : List (Int × Int)} {n : Int} {a k b : Nat}
def wys : List (Int × Int) := [(4, 0), (3, 3), (0, 4), (-3, 3), (-4, 0), (-3, -3), (0, -4), (3, -3)]
def wyz (k : Nat) : Int × Int := wys.getD k (0, 0)
def rimX (l : List Int) (k : Nat) : Int × Int := (4 + Int.tdiv (wyz k).1 (atz l k 4), 4 + Int.tdiv (wyz k).2 (atz l k 4))
def rim1 (l : List Int) (k : Nat) : List (Int × Int) := if atz l k 4 = 1 ∨ atz l k 4 = 2 then [rimX l k] else []
def rimS (l : List Int) : Nat → List (Int × Int)
 | 0 => []
 | k + 1 => if (rimS l k).length < 5 then rimS l k ++ rim1 l k else rimS l k
def triP (l : List Int) : List (Int × Int) := [(0, 0), (4 + atz l 0 2, 0), (atz l 1 3, 3)]
noncomputable def rimP (l : List Int) : List (Int × Int) := if Pg.valid6 ((rimS l 8).map qv) = true then rimS l 8 else triP l
end
end Go.Proofs.YtbaggkbleehegaaGreat.E.Ct
namespace Go.Proofs.YtbaggkbleehegaaGreat.E.Ct
open Go.RowKit
set_option linter.unusedVariables false
set_option linter.unusedSimpArgs false
section
variable {l : List Int} {P : List (Int × Int)} {n : Int} {a k b : Nat}
/-- A piece that has corners alone. -/
def bare (P : List (Int × Int)) : Pi := ⟨0, 0, P, [], [], 0, 0, 0, 0, 0⟩
end
end Go.Proofs.YtbaggkbleehegaaGreat.E.Ct
namespace Go.Proofs.YtbaggkbleehegaaGreat.E.Ct
open Go.RowKit
set_option linter.unusedVariables false
set_option linter.unusedSimpArgs false
def pwn (l : List Int) (n k : Nat) : List Bool := (List.range n).map fun i => if i < k then (atz l (15 + i) 8 == 8) else false
def pmk (l : List Int) (n k : Nat) : List Int := (List.range n).map fun i => if i < k then Int.tdiv (atz l (20 + i) 4) 2 else 0
def pLight (l : List Int) : Rat := Rat.divInt (1 + atz l 11 5) 2
def pHeavy (l : List Int) : Rat := pLight l + Rat.divInt (atz l 12 3) 2
/-- Sherdref12's Piece. -/
def p12P (l : List Int) (P : List (Int × Int)) : Pi := ⟨atz l 8 39, atz l 9 4, P, pwn l P.length P.length, pmk l P.length P.length, Rat.divInt (atz l 10 2) 4, pLight l, pHeavy l, Rat.divInt (20 + atz l 13 99) 1, Rat.divInt (atz l 14 4) 4⟩
def z4n : List V := [bo false, .nl, bo false, .nl]
noncomputable def p12 (l : List Int) : Pi := p12P l (rimP l)
section
variable {l : List Int} {P : List (Int × Int)} {n : Int} {a k b : Nat}
end
end Go.Proofs.YtbaggkbleehegaaGreat.E.Ct
namespace Go.Proofs.YtbaggkbleehegaaGreat.E.Ct
open Go.RowKit
set_option linter.unusedVariables false
set_option linter.unusedSimpArgs false
def bShort (q : List Int) : Ft := ⟨0, 1, 1, ((bM q + 2 : Nat) : Int), 1, bT q, bAt q, bAt q⟩
def scF0 (l q : List Int) : List Ft := if (decide ((bM q : Int) > 1) && (atz l 30 1 == 1)) = true then [bShort q, bFit q] else [bFit q]
def scL0 (q : List Int) : List Pi := [bA q, bB q]
def scA0 (q : List Int) : List Pl := [(stillV, (0, 0)), (bT q, bAt q)]
noncomputable def edg (L : List Pi) (l : List Int) (i j : Nat) : Nat := (atz l i ((L.getD j (bare [])).rim.length - 1)).toNat
noncomputable def scO (L : List Pi) (l : List Int) (a b : Nat) : Ft := ⟨a, b, edg L l 37 a, ((edg L l 35 b : Nat) : Int), 1, stillV, (0, 0), (0, 0)⟩
noncomputable def scF (l q : List Int) : List Ft := if (atz l 31 2 == 0) = true then scF0 l q ++ [if (atz l 36 1 == 1) = true then scO (scL0 q ++ [p12 l]) l 2 1 else scO (scL0 q ++ [p12 l]) l 0 2] else scF0 l q
section
variable {l q : List Int} {k b : Nat}
end
end Go.Proofs.YtbaggkbleehegaaGreat.E.Ct
namespace Go.Proofs.YtbaggkbleehegaaGreat.E.Ct
open Go.RowKit
set_option linter.unusedVariables false
set_option linter.unusedSimpArgs false
section
variable {l q : List Int} {k b : Nat} {P : List (Int × Int)}
theorem bq8 {x y : Int} (hx : -200 ≤ x ∧ x ≤ 200) (hy : 1 ≤ y ∧ y ≤ 200) : Bq 8 (Rat.divInt x y) := Bq.divInt (k := 8) (by unfold I.Bd; omega) (by unfold I.Bd; omega) (by omega)
theorem mkP_good {pl : Pl} {a : Nat} (hP : ∀ p ∈ P, Sm_ 12 p) (h0 : 0 < P.length ∧ P.length ≤ 100) (h1 : Bv 100 pl.1) (h2 : Bv 100 pl.2) : (mkP P l a).Good pl 100 := by
 have a1 := atz_in l (a + 1) 2
 have a2 := atz_in l a 2
 refine ⟨⟨fun x hx => sm64 (hP x hx), ⟨h0.1, by show P.length ≤ _; omega⟩, ?_, ?_, ?_, ?_, ?_⟩, fun v hv => (qvs hP v hv).mono (by omega), h1, h2, h0.2, by omega⟩
 · exact (bq8 (x := atz l (a + 1) 2) (y := 4) (by omega) (by omega)).mono (by omega)
 · exact (bq8 (x := 1) (y := 1) (by omega) (by omega)).mono (by omega)
 · exact (bq8 (x := 1 + atz l a 2) (y := 1) (by omega) (by omega)).mono (by omega)
 · exact (bq8 (x := 100) (y := 1) (by omega) (by omega)).mono (by omega)
 · exact (bq8 (x := 1) (y := 2) (by omega) (by omega)).mono (by omega)
theorem still_bits : Bv 8 stillV := ⟨bq8 (by omega) (by omega), Bq.zero (by omega)⟩
theorem bT_bits (q : List Int) : Bv 8 (bT q) := rq_bits still_bits _
theorem bAt_bits (q : List Int) : Bv 100 (bAt q) := by
 have hby := bBy_in q
 have b3 : Bv 8 (qv (bBy q)) := qv_sm (hby.mono (by omega))
 exact (Bv.sub (j := 1) (v := (0, 0)) ⟨Bq.zero (by omega), Bq.zero (by omega)⟩ ((bT_bits q).rot b3)).mono (by omega)
theorem zero_bits : Bv 100 ((0, 0) : Vc) := ⟨Bq.zero (by omega), Bq.zero (by omega)⟩
theorem bA_good (q : List Int) : (bA q).Good (stillV, (0, 0)) 100 := mkP_good (fun p hp => (firP_in q p hp).mono (by omega)) (by rw [firP_len]; have := bM_in q; omega) (still_bits.mono (by omega)) zero_bits
theorem bB_good (q : List Int) : (bB q).Good (bT q, bAt q) 100 := mkP_good (secM_in q) (by rw [secM_len]; have := bM_in q; omega) ((bT_bits q).mono (by omega)) (bAt_bits q)
/-- What is known of a scene. -/
structure ScOk (s : Sc) (F : List Ft) : Prop where
 ok : s.Ok 100
 f : ∀ f ∈ F, f.Ok s
 n : s.L.length = 2 ∨ s.L.length = 3
 a : s.A.length = s.L.length
 m : F.length = 1 ∨ F.length = 2 ∨ F.length = 3
end
end Go.Proofs.YtbaggkbleehegaaGreat.E.Ct
namespace Go.Proofs.YtbaggkbleehegaaGreat.E
open Go.RowKit
set_option linter.unusedVariables false
theorem Pure.ro {P : Program} {f : FuncId} {ds : List V} {T z : Nat} {l : List (List V)} (h : Pure P f ds (.o T z l)) : Pure P f ds (.v (.sl l)) :=
 ⟨h.1, fun w M args hM hr => (h.2 w M args hM hr).mono fun e w' ⟨v, e1, ok, bel⟩ => ⟨v, e1, by
  obtain ⟨q1, xs, q2, q3, q4⟩ := ok
  show Rep w' M no v (.sl l)
  have hxl : xs.length = l.flatten.length := by rw [q2.1, flat_len q1]
  rcases q2.2 with ⟨rfl, e0⟩ | ⟨g, cap, cur, rfl, hB, hh, hnc, hcm, hcs', htk⟩
  · have h0 : l = [] := List.length_eq_zero_iff.1 e0
    subst h0
    exact .sl _ none 0 0 0 z [] (fun _ _ => undef) (Nat.le_refl _) (Nat.zero_le _) (fun h => by simp at h) (fun _ h => by simp at h) (fun i j cs x h => by simp at h) (fun i j cs x h => by simp at h)
  · refine .sl _ _ g 0 cap z l (fun i j => xs.getD (i * z + j) undef) hnc hcm (fun _ => ⟨rfl, fun hA => hB (hM g hA), ⟨cur, T, (0, 0), hh⟩⟩) q1 (fun i j cs x hi hj => ?_) (fun i j cs x hi hj => ?_)
    · have e1 := flat_get q1 hi hj
      have e2 := (List.getElem?_eq_some_iff.1 e1).1
      have e3 : xs[i * z + j]? = some (xs.getD (i * z + j) undef) := by rw [List.getD_eq_getElem?_getD, List.getElem?_eq_getElem (by omega)]; rfl
      have := row_cell q2 rfl e3
      rwa [show 0 + i * z + j = i * z + j by omega]
    · exact (q4 _ x (flat_get q1 hi hj)).mo ⟨Nat.le_refl _, fun _ _ _ => rfl, fun g e => .inl (.inl e), fun _ _ e => e⟩, bel⟩⟩
end Go.Proofs.YtbaggkbleehegaaGreat.E
namespace Go.Proofs.YtbaggkbleehegaaGreat.E.Ct
open Go.RowKit
set_option linter.unusedVariables false
set_option linter.unusedSimpArgs false
section
variable {l : List Int} {i : Nat}
noncomputable abbrev fsi_ : Func := fnOf PP 30
theorem e_sints (l : List Int) (hn : l.length ≤ 1000000) : Pure PP 30 [zl l, zl l] (bo true) := by
 have hl := zs_len l
 let X : Nat → St := fun i => at_ fsi_ [(0, zl l), (1, zl l), (5, ni (i : Int))] []
 refine pf (by kernel_rfl) (.to mo_ [] [0, 1, 5] [] 0 [na (t := ((zs l).length : Int) != ((zs l).length : Int)) (by simp)] (td' := lp fsi_ 0) (σ' := X 0) ?_ (by kernel_rfl))
 refine Gd.loop X (fun i => i ≤ l.length) (fun i => l.length - i) ?_ 0 (Nat.zero_le _)
 intro i hi ih
 by_cases g : i < l.length
 · have et := zs_el g
   exact .to mo_ [] [0, 1, 5] [] 0 [ye (t := decide ((i : Int) < ((zs l).length : Int))) (decide_eq_true (by omega)), .sel _ _ _ et, .sel _ _ _ et, na (t := l.getD i 0 != l.getD i 0) (by simp), inc 16 i (by omega)] (ih (i + 1) g (by omega)) (by kernel_rfl)
 · exact fi [na (t := decide ((i : Int) < ((zs l).length : Int))) (decide_eq_false (by omega))] (by kernel_rfl) (by kernel_rfl)
def sqP : Pi := ⟨0, 0, [(0, 0), (4, 0), (4, 4), (0, 4)], [false, false, false, false], [0, 0, 0, 0], 0, Rat.divInt 1 1, Rat.divInt 2 1, Rat.divInt 1 1, 0⟩
theorem e_square : Pure PP 74 [] (.ag sqP.v) := by
 have e : sqP.v = [ni 0, ni 0, .sl [[ni 0, ni 0], [ni 4, ni 0], [ni 4, ni 4], [ni 0, ni 4]], .sl [[bo false], [bo false], [bo false], [bo false]], .sl [[ni 0], [ni 0], [ni 0], [ni 0]]] ++ (z4_ ++ (dR (Rat.divInt 1 1) ++ (dR (Rat.divInt 2 1) ++ (dR (Rat.divInt 1 1) ++ z4_)))) := by
  show [ni 0, ni 0, .sl (ptR [(0, 0), (4, 0), (4, 4), (0, 4)]), .sl (wnR [false, false, false, false]), zl [0, 0, 0, 0]] ++ (dR 0 ++ (dR (Rat.divInt 1 1) ++ (dR (Rat.divInt 2 1) ++ (dR (Rat.divInt 1 1) ++ dR 0)))) = _
  rw [dR_0]
  rfl
 rw [e]
 exact tr [cl (e_of4 (x := 1) (y := 1) is1_ is1_), .mk 4 (by decide), .mk 4 (by decide), cl (e_of4 (x := 2) (y := 1) is2_ is1_)] (by kernel_rfl)
theorem e_segm {x y z : Int} (hx : W.Is64 x) (hy : W.Is64 y) (hz : W.Is64 z) : Pure PP 73 [.sl (sgR [(qv (x, y), qv (z, y))]), ni x, ni y, ni z] (bo true) :=
 have s0 : (sgR [(qv (x, y), qv (z, y))])[0]? = some (sgV (qv (x, y), qv (z, y))) := rfl
 tr [nf, .sel _ _ _ s0, cl (e_vof hx hy), cl (vsame (qv (x, y))), yt, .sel _ _ _ s0, cl (e_vof hz hy), cl (vsame (qv (z, y)))] (by kernel_rfl)
def boxL : List Vc := [qv (0, 0), qv (4, 0), qv (4, 4), qv (0, 4)]
def tipL : List Vc := [qv (2, 0), qv (4, 3), qv (0, 3)]
def lvA : List Pl := [(stillV, (0, 0)), (stillV, qv (4, 0))]
def lvS : Sc := ⟨[sqP, sqP], lvA⟩
def lvF : List Ft := [⟨0, 1, 1, 3, 1, stillV, qv (4, 0), qv (4, 0)⟩]
def lvB : Bo := ⟨qv (4, 2), Rat.divInt 2 1, Rat.divInt 4 1, Rat.divInt 1 1⟩
theorem qv_bits {x y : Int} (hx : -200 ≤ x ∧ x ≤ 200) (hy : -200 ≤ y ∧ y ≤ 200) : Bv 100 (qv (x, y)) := Bv.mono (k := 100) (j := 8) ⟨bq8 hx (by omega), bq8 hy (by omega)⟩ (by omega)
theorem lv_on (L : List Vc) (P Q : Vc) (r : Rat) (S : List (Vc × Vc)) (hl : L.all (fun a => decide (a.1.num.natAbs < 2 ^ 7) && decide (a.1.den < 2 ^ 7) && (decide (a.2.num.natAbs < 2 ^ 7) && decide (a.2.den < 2 ^ 7))) = true) (h0 : 0 < L.length ∧ L.length ≤ 1000) (hP : Bv 100 P) (hQ : Bv 100 Q) (hr : Bq 100 r) (hS : (⟨L, P, Q, r⟩ : Su).segs = S) : Pure PP 15 [dL L, .ag (dV P ++ dV Q), .ag (dR r)] (.sl (sgR S)) := by
 have h := (e_on (s := ⟨L, P, Q, r⟩) (b := 100) ⟨fun a ha => (lit_bits hl a ha).mono (by omega), hP, hQ, hr, h0, by omega⟩).ro
 rw [hS] at h
 exact h
theorem lv_s1 : (⟨boxL, qv (1, 0), qv (9, 0), 0⟩ : Su).segs = [(qv (1, 0), qv (4, 0))] := by decide +kernel
theorem lv_s2 : (⟨boxL, qv (1, 1), qv (9, 1), 0⟩ : Su).segs = [] := by decide +kernel
theorem lv_s3 : (⟨boxL, qv (1, 1), qv (9, 1), Rat.divInt 1 1⟩ : Su).segs = [(qv (1, 1), qv (4, 1))] := by decide +kernel
theorem lv_s4 : (⟨tipL, qv (1, 0), qv (9, 0), 0⟩ : Su).segs = [(qv (2, 0), qv (2, 0))] := by decide +kernel
theorem lv_b : (bodF lvS (rtB 3 1 lvF)).map (fun b => (b.c, b.light, b.heavy, b.str)) = [(lvB.c, lvB.light, lvB.heavy, lvB.str)] := by decide +kernel
theorem len1 {α β : Type} {f : α → β} {l : List α} {b : β} (h : l.map f = [b]) : ∃ a, l = [a] ∧ f a = b := by
 match l, h with
 | [a], h => exact ⟨a, rfl, by simpa using h⟩
theorem lv_b1 : bodF lvS (rtB 3 1 lvF) = [lvB] := by
 obtain ⟨x, h1, h2⟩ := len1 lv_b
 rw [h1]
 simp only [Prod.mk.injEq] at h2
 obtain ⟨h3, h4, h5, h6⟩ := h2
 cases x
 simp only at h3 h4 h5 h6
 subst h3; subst h4; subst h5; subst h6
 rfl
theorem lv_o : ownF lvS (rtB 3 1 lvF) = [0, 0] := by decide +kernel
theorem lv_t : (tch lvS 3 lvF).map (·.n) = [qv (-4, 0)] := by decide +kernel
theorem lv_p : (lvS.prs 2 flP flQ 2).map (·.n) = [qv (0, 4)] := by decide +kernel
theorem lv_w0 : (btw [0, 0] (tch lvS 3 lvF)).length = 0 := by decide +kernel
theorem lv_w1 : (btw [0, 1] (tch lvS 3 lvF)).length = 1 := by decide +kernel
theorem sq_good {pl : Pl} (h1 : Bv 100 pl.1) (h2 : Bv 100 pl.2) : sqP.Good pl 100 := by
 refine ⟨⟨fun x hx => ?_, ⟨by decide, by decide⟩, Bq.zero (by omega), (bq8 (by omega) (by omega)).mono (by omega), (bq8 (by omega) (by omega)).mono (by omega), (bq8 (by omega) (by omega)).mono (by omega), Bq.zero (by omega)⟩, fun v hv => (qvs (P := sqP.rim) (fun p hp => ?_) v hv).mono (by omega), h1, h2, by decide, by omega⟩
 · have : ∀ x ∈ sqP.rim, -100000 ≤ x.1 ∧ x.1 ≤ 100000 ∧ -100000 ≤ x.2 ∧ x.2 ≤ 100000 := by decide
   have := this x hx
   exact ⟨i64_ (by omega), i64_ (by omega)⟩
 · have : ∀ x ∈ sqP.rim, -12 ≤ x.1 ∧ x.1 ≤ 12 ∧ -12 ≤ x.2 ∧ x.2 ≤ 12 := by decide
   exact this p hp
theorem lv_ok : lvS.Ok 100 := ⟨fun k hk => by
 have hk : k < 2 := hk
 match k, hk with
 | 0, _ => exact sq_good (pl := (stillV, (0, 0))) (still_bits.mono (by omega)) zero_bits
 | 1, _ => exact sq_good (pl := (stillV, qv (4, 0))) (still_bits.mono (by omega)) (qv_bits (by omega) (by omega)), ⟨Nat.le_refl 2, by decide⟩, by omega⟩
theorem lv_f : ∀ f ∈ lvF, f.Ok lvS := fun f hf => by
 unfold lvF at hf
 simp only [List.mem_singleton] at hf
 subst hf
 exact ⟨by decide, by decide, by decide, by decide⟩
theorem tch_bt {s : Sc} {st : Int} {l : List Ft} {own : List Int} (hf : ∀ f ∈ l, f.Ok s) (ho : own.length = s.L.length) : ∀ t ∈ tch s st l, BtOk own t := fun t ht => by
 obtain ⟨f, h1, h2⟩ := List.mem_flatMap.1 ht
 unfold tch1 at h2
 split at h2
 · obtain ⟨k, _, rfl⟩ := List.mem_map.1 h2
   have := hf f h1
   exact ⟨⟨f.a, rfl, by rw [ho]; exact this.a⟩, .inr ⟨f.b, rfl, by rw [ho]; exact this.b⟩⟩
 · cases h2
noncomputable abbrev flv : Func := fnOf PP 20
theorem fl_bits : Bv 100 flP ∧ Bv 100 flQ := by
 have h : ∀ x : Int, x = -1048576 ∨ x = 1048576 → Bq 100 (Rat.divInt x 1) := fun x hx => (Bq.divInt (k := 24) (p := x) (q := 1) (by unfold I.Bd; omega) (by unfold I.Bd; decide) (by decide)).mono (by omega)
 exact ⟨⟨h _ (.inl rfl), (bq8 (by omega) (by omega)).mono (by omega)⟩, h _ (.inr rfl), (bq8 (by omega) (by omega)).mono (by omega)⟩
set_option maxRecDepth 100000 in
theorem e_lives : Pure PP 20 [] (bo true) := by
 have z : ∀ x : Int, -100 ≤ x ∧ x ≤ 100 → W.Is64 x := fun x h => i64_ (by omega)
 have v := fun (x y : Int) (hx : -100 ≤ x ∧ x ≤ 100) (hy : -100 ≤ y ∧ y ≤ 100) => e_vof (z x hx) (z y hy)
 have o1 := lv_on boxL (qv (1, 0)) (qv (9, 0)) 0 _ (by decide +kernel) (by decide) (qv_bits (by omega) (by omega)) (qv_bits (by omega) (by omega)) (Bq.zero (by omega)) lv_s1
 have o2 := lv_on boxL (qv (1, 1)) (qv (9, 1)) 0 _ (by decide +kernel) (by decide) (qv_bits (by omega) (by omega)) (qv_bits (by omega) (by omega)) (Bq.zero (by omega)) lv_s2
 have o3 := lv_on boxL (qv (1, 1)) (qv (9, 1)) (Rat.divInt 1 1) _ (by decide +kernel) (by decide) (qv_bits (by omega) (by omega)) (qv_bits (by omega) (by omega)) ((bq8 (by omega) (by omega)).mono (by omega)) lv_s3
 have o4 := lv_on tipL (qv (1, 0)) (qv (9, 0)) 0 _ (by decide +kernel) (by decide) (qv_bits (by omega) (by omega)) (qv_bits (by omega) (by omega)) (Bq.zero (by omega)) lv_s4
 have g1 := e_segm (x := 1) (y := 0) (z := 4) (z 1 (by omega)) (z 0 (by omega)) (z 4 (by omega))
 have g3 := e_segm (x := 1) (y := 1) (z := 4) (z 1 (by omega)) (z 1 (by omega)) (z 4 (by omega))
 have g4 := e_segm (x := 2) (y := 0) (z := 2) (z 2 (by omega)) (z 0 (by omega)) (z 2 (by omega))
 rw [dR_0] at o1 o2 o4
 have hn : lvS.L.length = 2 := rfl
 have cb := e_bodies (st := 3) (gl := 1) lv_ok lv_f (by decide) (by decide)
 rw [lv_b1, lv_o] at cb
 have ct := (e_touches (st := 3) lv_ok lv_f (by decide)).ro
 have cp := (e_props (st := 2) lv_ok fl_bits.1 fl_bits.2).ro
 have w0 := (e_between (own := [0, 0]) (l := tch lvS 3 lvF) (by have := tch_len (s := lvS) (st := 3) lv_f 1; rw [show lvF.take 1 = lvF from rfl] at this; omega) (tch_bt lv_f rfl)).ro
 have w1 := (e_between (own := [0, 1]) (l := tch lvS 3 lvF) (by have := tch_len (s := lvS) (st := 3) lv_f 1; rw [show lvF.take 1 = lvF from rfl] at this; omega) (tch_bt lv_f rfl)).ro
 have l0 := lv_w0
 have l1 := lv_w1
 obtain ⟨t0, ht, hv⟩ := len1 lv_t
 obtain ⟨u0, hu, hw⟩ := len1 lv_p
 rw [hn, hu] at cp
 rw [ht] at ct w0 w1 l0 l1
 generalize btw [0, 0] [t0] = B0 at *
 generalize btw [0, 1] [t0] = B1 at *
 have e0 : B0 = [] := List.length_eq_zero_iff.1 l0
 subst e0
 obtain ⟨b1, rfl⟩ : ∃ b, B1 = [b] := by
  match B1, l1 with
  | [b], _ => exact ⟨b, rfl⟩
 have hA : plR lvS.A = [dV stillV ++ (z4_ ++ z4_), dV stillV ++ dV (qv (4, 0))] := by show [dV stillV ++ dV (0, 0), dV stillV ++ dV (qv (4, 0))] = _; rw [dV_00]
 rw [hA] at cb ct cp
 have sb : (boR [lvB])[0]? = some lvB.v := rfl
 have st : (toR [t0])[0]? = some t0.v := rfl
 have su : (toR [u0])[0]? = some u0.v := rfl
 have q1 := vsame (qv (4, 2))
 have q2 := vsame u0.n
 have q3 := vsame t0.n
 have q4 := v 0 4 (by omega) (by omega)
 have q5 := v (-4) 0 (by omega) (by omega)
 change Pure PP _ _ (.v (.ag (dV (qv (0, 4))))) at q4
 change Pure PP _ _ (.v (.ag (dV (qv (-4, 0))))) at q5
 rw [← hw] at q4
 rw [← hv] at q5
 refine pf (by kernel_rfl) (.to mo_ [.fz 3, .fz 4] [1, 2, 3, 4, 5] [0, 1, 4] 5 [cl (v 1 0 (by omega) (by omega)), cl (v 9 0 (by omega) (by omega)), cl (v 1 1 (by omega) (by omega)), cl (v 9 1 (by omega) (by omega)), cl (v 0 0 (by omega) (by omega)), cl (v 4 0 (by omega) (by omega)), cl (v 4 4 (by omega) (by omega)), cl (v 0 4 (by omega) (by omega)), cl (v 2 0 (by omega) (by omega)), cl (v 4 3 (by omega) (by omega)), cl (v 0 3 (by omega) (by omega))] (td' := rg flv 6) (σ' := at_ flv [(1, .lp 0 0), (2, .lp 1 0), (3, dL boxL), (4, dL tipL), (5, .lp 4 0)] [.bx 48 (dV (qv (1, 0)) ++ dV (qv (9, 0))), .bx 48 (dV (qv (1, 1)) ++ dV (qv (9, 1))), .dead, .dead, .bx 37 z4n]) ?_ (by kernel_rfl))
 exact fi [cl o1, cl g1, nf, cl o2, nf, cl (e_of4 (x := 1) (y := 1) is1_ is1_), cl o3, cl g3, nf, cl o4, cl g4, nf, cl e_square, cl e_square, cl e_still5, cl (v 4 0 (by omega) (by omega)), cl (v 4 0 (by omega) (by omega)), cl (v 4 0 (by omega) (by omega)), cl cb, cl ct, cl e_floor, cl cp, nf, nf, nf, cl (e_sints [0, 0] (by decide)), nf, .sel _ _ _ sb, cl (v 4 2 (by omega) (by omega)), cl q1, nf, .sel _ _ _ sb, cl (e_of4 (x := 2) (y := 1) is2_ is1_), cl (rsame (Rat.divInt 2 1)), nf, .sel _ _ _ sb, cl (e_of4 (x := 4) (y := 1) (z 4 (by omega)) is1_), cl (rsame (Rat.divInt 4 1)), nf, .sel _ _ _ su, cl q4, cl q2, nf, .sel _ _ _ st, cl q5, cl q3, yt, cl w0, yt, cl w1] (by kernel_rfl) (by kernel_rfl)
end
end Go.Proofs.YtbaggkbleehegaaGreat.E.Ct
namespace Go.Proofs.YtbaggkbleehegaaGreat.E
theorem gl_nil : gl = [] := by kernel_rfl
theorem glo_nil (w : World) : Glo w (fun _ => False) := fun p hp => by rw [gl_nil] at hp; cases hp
end Go.Proofs.YtbaggkbleehegaaGreat.E
namespace Go.Proofs.YtbaggkbleehegaaGreat.E.Ct
open Go.RowKit
set_option linter.unusedVariables false
set_option linter.unusedSimpArgs false
section
variable {l : List Int} {i g : Int} {k : Nat}
end
end Go.Proofs.YtbaggkbleehegaaGreat.E.Ct
namespace Go.Proofs.YtbaggkbleehegaaGreat.E.Ct
open Go.RowKit
set_option linter.unusedVariables false
set_option linter.unusedSimpArgs false
section
variable {l x : List Int} {e : Int} {k i j : Nat}
theorem mar_bits (n : Int) : Bq 100 (marQ n) := by
 have h := rnd_in n 4
 exact (bq8 (by omega) (by omega)).mono (by omega)
theorem star_ok (l : List Int) : (∀ a ∈ star l, Bv 8 a) ∧ 0 < (star l).length ∧ (star l).length ≤ 8 := by
 unfold star
 have hb := star_bits l 8
 have hn := star_len l 8
 generalize starF l 8 = S at *
 split
 · rename_i h
   refine ⟨hb, ?_, hn⟩
   unfold Pg.valid6 at h
   simp only [Bool.and_eq_true, decide_eq_true_eq] at h
   omega
 · refine ⟨fun a ha => ?_, show 0 < 4 by omega, show 4 ≤ 8 by omega⟩
   unfold box2 at ha
   simp only [List.mem_cons, List.not_mem_nil, or_false] at ha
   rcases ha with rfl | rfl | rfl | rfl <;> exact ⟨bq8 (by omega) (by omega), bq8 (by omega) (by omega)⟩
end
end Go.Proofs.YtbaggkbleehegaaGreat.E.Ct
namespace Go.Proofs.YtbaggkbleehegaaGreat.E.Ct
open Go.RowKit
set_option linter.unusedVariables false
set_option linter.unusedSimpArgs false
def mvPl (c : Vc) (p : Pl) : Pl := (p.1, vadd p.2 c)
def Sc.mv (s : Sc) (c : Vc) : Sc := ⟨s.L, s.A.map (mvPl c)⟩
def Su.mv (s : Su) (c : Vc) : Su := ⟨s.L.map fun a => vadd a c, vadd s.P c, vadd s.Q c, s.e⟩
def To.mv (c : Vc) (t : To) : To := ⟨t.a, t.b, vadd t.p c, vadd t.q c, t.n, t.r⟩
def Bo.mv (c : Vc) (b : Bo) : Bo := ⟨vadd b.c c, b.light, b.heavy, b.str⟩
section
variable {s : Sc} {st gl : Int} {l : List Ft} {u : Su} {c : Vc} {k j n b : Nat} {rt : Nat → Int}
theorem Sc.mv_pl (s : Sc) (c : Vc) (hk : k < s.A.length) : (s.mv c).pl k = mvPl c (s.pl k) := by
 unfold Sc.pl Sc.mv
 simp only
 rw [List.getD_eq_getElem?_getD, List.getD_eq_getElem?_getD, List.getElem?_map, List.getElem?_eq_getElem hk]
 rfl
theorem Sc.mv_pi (s : Sc) (c : Vc) (k : Nat) : (s.mv c).pi k = s.pi k := rfl
/-- All weigh something. -/
def Sc.Pos (s : Sc) : Prop := ∀ k, k < s.L.length → 0 < wt s k
theorem Pi.Good.mv {p : Pi} {pl : Pl} (h : p.Good pl b) (hc : Bv b c) (hb : 3 * b + 3 ≤ 10000) : p.Good (mvPl c pl) (2 * b + 1) :=
 ⟨⟨h.ok.r, h.ok.n, h.ok.tol.mono (by omega), h.ok.light.mono (by omega), h.ok.heavy.mono (by omega), h.ok.str.mono (by omega), h.ok.rough.mono (by omega)⟩, fun a ha => (h.r a ha).mono (by omega), h.t.mono (by omega), (h.a.add hc).mono (by omega), h.n, by omega⟩
theorem Sc.Ok.mv (h : s.Ok b) (hc : Bv b c) (hb : 3 * b + 3 ≤ 10000) : (s.mv c).Ok (2 * b + 1) := ⟨fun k hk => by
 rw [Sc.mv_pi, Sc.mv_pl s c (by have := h.n; have hk : k < s.L.length := hk; omega)]
 exact (h.g k hk).mv hc hb, by
 have := h.n
 show s.L.length ≤ (s.A.map (mvPl c)).length ∧ _
 rw [List.length_map]
 exact this, by omega⟩
end
end Go.Proofs.YtbaggkbleehegaaGreat.E.Ct
namespace Go.Proofs.YtbaggkbleehegaaGreat.E.Ct
open Go.RowKit
set_option linter.unusedVariables false
set_option linter.unusedSimpArgs false
section
variable {l q x : List Int} {i g : Int} {k j b : Nat} {p r : Pl} {st gl : Int}
theorem e_still : Pure PP 35 [] (.ag (dV stillV)) := by
 unfold stillV
 rw [dV_0]
 exact tr [cl (e_rof (x := 1) (y := 1) is1_ is1_)] (by kernel_rfl)
end
end Go.Proofs.YtbaggkbleehegaaGreat.E.Ct
namespace Go.Proofs.YtbaggkbleehegaaGreat.E.Ct
open Go.RowKit
set_option linter.unusedVariables false
set_option linter.unusedSimpArgs false
section
variable {l x : List Int} {i g : Int} {k j b : Nat} {st gl : Int} {s : Sc} {F : List Ft} {c P Q : Vc}
theorem Su.Ok.segs_bits {u : Su} (h : u.Ok b) : ∀ x ∈ u.segs, Bv b x.1 ∧ Bv b x.2 := fun x hx => by
 unfold Su.segs Su.p2 Su.p1 at hx
 rcases List.mem_append.1 hx with hx | hx
 · obtain ⟨k, hk, h2⟩ := List.mem_flatMap.1 hx
   have hk := List.mem_range.1 hk
   unfold Su.sg1 at h2
   split at h2
   · simp only [List.mem_singleton] at h2
     subst h2
     have b1 := (h.at_ hk).1
     have b2 := (h.at_ (Su.nx_lt h k)).1
     have f : Bq b (u.from_ k) := by unfold Su.from_; split; exact h.p.1; exact b1
     have t : Bq b (u.to_ k) := by unfold Su.to_; split; exact h.q.1; exact b2
     exact ⟨⟨f, h.p.2⟩, t, h.p.2⟩
   · cases h2
 · obtain ⟨k, hk, h2⟩ := List.mem_flatMap.1 hx
   have hk := List.mem_range.1 hk
   unfold Su.sg2 at h2
   split at h2
   · simp only [List.mem_singleton] at h2
     subst h2
     have b1 := (h.at_ hk).1
     exact ⟨⟨b1, h.p.2⟩, b1, h.p.2⟩
   · cases h2
end
end Go.Proofs.YtbaggkbleehegaaGreat.E.Ct
namespace Go.Proofs.YtbaggkbleehegaaGreat.E.Ct
open Go.RowKit
set_option linter.unusedVariables false
set_option linter.unusedSimpArgs false
section
variable {ρ : Nat → Nat} {E E' : List (Nat × Nat)} {e : Nat × Nat} {j k n r : Nat}
end
def bt (s : Int) (k : Nat) : Int := s / (2 ^ k : Int) % 2
end Go.Proofs.YtbaggkbleehegaaGreat.E.Ct
namespace Go.Proofs.YtbaggkbleehegaaGreat.E.Ct
open Go.RowKit
set_option linter.unusedVariables false
set_option linter.unusedSimpArgs false
section
variable {s : Sc} {st gl : Int} {l : List Ft} {rt : Nat → Int} {i j k n m r : Nat} {p : Nat → Bool} {f : Nat → Rat}
theorem gt0_iff {a b : Rat} : gt0 a b = true ↔ b < a := by
 unfold gt0 cmpQ
 rw [decide_eq_true_iff]
 by_cases h1 : a < b
 · rw [if_pos h1]
   exact ⟨fun h => by omega, fun h => by grind⟩
 · rw [if_neg h1]
   by_cases h2 : b < a
   · rw [if_pos h2]
     exact ⟨fun _ => h2, fun _ => by decide⟩
   · rw [if_neg h2]
     exact ⟨fun h => by omega, fun h => absurd h h2⟩
theorem cmp_le {a b : Rat} (h : a ≤ b) : decide (cmpQ a b > 0) = false := by
 refine decide_eq_false fun e => ?_
 unfold cmpQ at e
 split at e
 · omega
 · split at e
   · rename_i h1 h2
     grind
   · omega
theorem cmp_ge {a b : Rat} (h : b ≤ a) : decide (cmpQ a b < 0) = false := by
 refine decide_eq_false fun e => ?_
 unfold cmpQ at e
 split at e
 · rename_i h1
   grind
 · split at e <;> omega
/-- The least and the greatest coordinates bound the points. -/
theorem less_le (r t : Rat) : Pg.less r t ≤ r ∧ Pg.less r t ≤ t := by
 unfold Pg.less
 split <;> (constructor <;> grind)
theorem more_ge (r t : Rat) : r ≤ Pg.more r t ∧ t ≤ Pg.more r t := by
 unfold Pg.more
 split <;> (constructor <;> grind)
theorem lo_le (L : List Vc) : ∀ n i, i < n → (Pg.lo L n).1 ≤ (L.getD i (0, 0)).1 ∧ (Pg.lo L n).2 ≤ (L.getD i (0, 0)).2
 | 0, _, h => by omega
 | n + 1, i, h => by
  have l1 := less_le (Pg.lo L n).1 (L.getD n (0, 0)).1
  have l2 := less_le (Pg.lo L n).2 (L.getD n (0, 0)).2
  show Pg.less _ _ ≤ _ ∧ Pg.less _ _ ≤ _
  by_cases e : i = n
  · subst e; exact ⟨l1.2, l2.2⟩
  · have ih := lo_le L n i (by omega)
    exact ⟨Rat.le_trans l1.1 ih.1, Rat.le_trans l2.1 ih.2⟩
theorem hi_ge (L : List Vc) : ∀ n i, i < n → (L.getD i (0, 0)).1 ≤ (Pg.hi L n).1 ∧ (L.getD i (0, 0)).2 ≤ (Pg.hi L n).2
 | 0, _, h => by omega
 | n + 1, i, h => by
  have l1 := more_ge (Pg.hi L n).1 (L.getD n (0, 0)).1
  have l2 := more_ge (Pg.hi L n).2 (L.getD n (0, 0)).2
  show _ ≤ Pg.more _ _ ∧ _ ≤ Pg.more _ _
  by_cases e : i = n
  · subst e; exact ⟨l1.2, l2.2⟩
  · have ih := hi_ge L n i (by omega)
    exact ⟨Rat.le_trans ih.1 l1.1, Rat.le_trans ih.2 l2.1⟩
theorem box_in {L : List Vc} : ∀ v ∈ L, (Pg.box L).1.1 ≤ v.1 ∧ v.1 ≤ (Pg.box L).2.1 ∧ (Pg.box L).1.2 ≤ v.2 ∧ v.2 ≤ (Pg.box L).2.2 := fun v hv => by
 obtain ⟨i, hi⟩ := List.getElem?_of_mem hv
 have hl := (List.getElem?_eq_some_iff.1 hi).1
 have hg : L.getD i (0, 0) = v := by rw [List.getD_eq_getElem?_getD, hi]; rfl
 have h1 := lo_le L L.length i hl
 have h2 := hi_ge L L.length i hl
 rw [hg] at h1 h2
 unfold Pg.box
 rw [if_neg (by omega)]
 exact ⟨h1.1, h2.1, h1.2, h2.2⟩
end
end Go.Proofs.YtbaggkbleehegaaGreat.E.Ct
