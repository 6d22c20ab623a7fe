/-
 PIECE: the triangles are convex; their areas and centroids add up: plain.
-/
import Derived.Test.YtlgnagnmoleeiaaGreatEvR
import Derived.Test.YtlgnagnmoleeiaaGreatExH
import Derived.Test.YtlgnagnmoleeiaaGreatPgR
import Derived.Test.YtlgnagnmoleeiaaGreatEoA
namespace Go.Proofs.YtlgnagnmoleeiaaGreat.E.Pc
open Go.RowKit
set_option linter.unusedVariables false
set_option linter.unusedSimpArgs false
def bdR : List (Int × Int) := [(0, 0), (4, 0), (4, 3), (0, 3)]
/-- The board. -/
def bd : Ct.Pi := ⟨7, 0, bdR, [false, false, false, false], [0, 0, 0, 0], 0, Rat.divInt 1 1, Rat.divInt 1 1, Rat.divInt 100 1, Rat.divInt 1 2⟩
theorem e_board : Pure PP 74 [] (.ag bd.v) := by
 have cp := Ct.e_plain (P := bdR) 7 (show 0 < 4 by decide) (show 4 ≤ 1000 by decide)
 have hv : bd.v = [ni 7, ni 0, .sl (Ct.ptR bdR), .sl (Ct.wnR [false, false, false, false]), zl [0, 0, 0, 0]] ++ (dR 0 ++ (dR (Rat.divInt 1 1) ++ (dR (Rat.divInt 1 1) ++ (dR (Rat.divInt 100 1) ++ dR (Rat.divInt 1 2))))) := rfl
 rw [hv, dR_0]
 generalize Rat.divInt 1 1 = r1 at *
 unfold Ct.plH at cp
 generalize Rat.divInt 1 1 = r1 at *
 generalize Rat.divInt 100 1 = r100 at *
 generalize Rat.divInt 1 2 = r2 at *
 exact tr [.ro, .lend _ _ _ _ [] cp] (by kernel_rfl)
theorem bd_ok : bd.Ok 100 where
 r := by unfold W.Is64; decide
 n := by decide
 tol := Bq.zero (by omega)
 light := Bq.mono (j := 11) (Bq.divInt (by unfold I.Bd; decide) (by unfold I.Bd; decide) (by omega)) (by omega)
 heavy := Bq.mono (j := 11) (Bq.divInt (by unfold I.Bd; decide) (by unfold I.Bd; decide) (by omega)) (by omega)
 str := Bq.mono (j := 11) (Bq.divInt (by unfold I.Bd; decide) (by unfold I.Bd; decide) (by omega)) (by omega)
 rough := Bq.mono (j := 11) (Bq.divInt (by unfold I.Bd; decide) (by unfold I.Bd; decide) (by omega)) (by omega)
theorem bd_val : Pg.valid bd.rimV = true := by decide +kernel
theorem bd_bv : ∀ a ∈ bd.rimV, Bv 8 a := by
 intro a ha
 obtain ⟨c, hc, rfl⟩ := List.mem_map.1 ha
 have h : ∀ c ∈ bdR, I.Bd 8 c.1 ∧ I.Bd 8 c.2 := by unfold I.Bd; decide
 obtain ⟨h1, h2⟩ := h c hc
 exact ⟨Bq.divInt h1 (by unfold I.Bd; decide) (by omega), Bq.divInt h2 (by unfold I.Bd; decide) (by omega)⟩
theorem e_bdval : Pure PP 67 [dL bd.rimV] (bo true) := by
 have h := e_valid bd_bv (show 4 ≤ 100 by decide) (by omega)
 rwa [bd_val] at h
theorem e_bdv : Pure PP 12 [.ag bd.v] (ni 0) := by
 have h := e_pvalid (p := bd) (v := true) (pk_of bd_ok) (show 4 ≤ 12 by decide) (by decide) rfl rfl (by decide +kernel) (by decide +kernel) (by decide +kernel) (by decide +kernel) (by decide +kernel) e_bdval
 rwa [if_pos (by decide +kernel)] at h
theorem bd_en : En bd where
 id := ⟨by decide, by decide⟩
 home := ⟨by decide, by decide⟩
 r := by unfold W.Is64; decide
 m := by unfold W.Is64; decide
 nr := by decide
 nw := by decide
 nm := by decide
 q := by unfold Fs; decide +kernel
theorem bd_len : (cutT bd.rimV).length = 2 := by decide +kernel
end Go.Proofs.YtlgnagnmoleeiaaGreat.E.Pc
namespace Go.Proofs.YtlgnagnmoleeiaaGreat.E.Pc
open Go.RowKit
set_option linter.unusedVariables false
set_option linter.unusedSimpArgs false
def bdL : Ct.Pi := { bd with light := Rat.divInt 2 1 }
def bdF : Ct.Pi := { bd with id := 1000 }
def bdM : Ct.Pi := { bd with marks := [0, 0, 0] }
theorem bdL_ok : bdL.Ok 100 := { bd_ok with light := Bq.mono (j := 11) (Bq.divInt (by unfold I.Bd; decide) (by unfold I.Bd; decide) (by omega)) (by omega) }
theorem e_bdLv : Pure PP 12 [.ag bdL.v] (ni 1) := by
 have h := e_pvalid (p := bdL) (v := true) (pk_of bdL_ok) (show 4 ≤ 12 by decide) (by decide) rfl rfl (by decide +kernel) (by decide +kernel) (by decide +kernel) (by decide +kernel) (by decide +kernel) e_bdval
 rwa [if_neg (by decide +kernel)] at h
theorem e_bdFv : Pure PP 12 [.ag bdF.v] (ni 5) := e_pv_rng (id := 1000) (home := 0) (P := bdR) (M := [0, 0, 0, 0]) (Wn := [false, false, false, false]) (a := ofR 0) (b := ofR (Rat.divInt 1 1)) (c := ofR (Rat.divInt 1 1)) (d := ofR (Rat.divInt 100 1)) (e := ofR (Rat.divInt 1 2)) (by decide) (by decide) (by decide)
theorem e_bdMv : Pure PP 12 [.ag bdM.v] (ni 1) := e_pv_len (id := 7) (home := 0) (P := bdR) (M := [0, 0, 0]) (Wn := [false, false, false, false]) (a := ofR 0) (b := ofR (Rat.divInt 1 1)) (c := ofR (Rat.divInt 1 1)) (d := ofR (Rat.divInt 100 1)) (e := ofR (Rat.divInt 1 2)) (by decide) (by decide) (by decide) (by decide)
def plS : Vc × (Rat × Rat) := (Ct.stillV, (0, 0))
def plT : Vc × (Rat × Rat) := ((0, Rat.divInt 1 1), (Rat.divInt 1 1, Rat.divInt 0 1))
theorem b8_ (x y : Int) (h : I.Bd 8 x ∧ I.Bd 8 y ∧ y ≠ 0) : Bq 100 (Rat.divInt x y) := Bq.mono (j := 8) (Bq.divInt h.1 h.2.1 h.2.2) (by omega)
theorem goodS : bd.Good plS 100 := ⟨bd_ok, fun a ha => (bd_bv a ha).mono (by omega), ⟨b8_ 1 1 (by unfold I.Bd; decide), Bq.zero (by omega)⟩, ⟨Bq.zero (by omega), Bq.zero (by omega)⟩, by decide, by omega⟩
theorem goodT : bd.Good plT 100 := ⟨bd_ok, fun a ha => (bd_bv a ha).mono (by omega), ⟨Bq.zero (by omega), b8_ 1 1 (by unfold I.Bd; decide)⟩, ⟨b8_ 1 1 (by unfold I.Bd; decide), b8_ 0 1 (by unfold I.Bd; decide)⟩, by decide, by omega⟩
theorem cenS : Ct.cenV bd plS = (Rat.divInt 2 1, Rat.divInt 3 2) := by decide +kernel
theorem cenT : Ct.cenV bd plT = (-(Rat.divInt 1 2), Rat.divInt 2 1) := by decide +kernel
theorem dPlS : dPl plS = dV Ct.stillV ++ (Ct.z4_ ++ Ct.z4_) := by
 show dV Ct.stillV ++ dV (0, 0) = _
 rw [Ct.dV_00]
theorem dPlT : dPl plT = (Ct.z4_ ++ dR (Rat.divInt 1 1)) ++ dV (Rat.divInt 1 1, Rat.divInt 0 1) := by
 show (dR 0 ++ dR (Rat.divInt 1 1)) ++ _ = _
 rw [dR_0]
 rfl
theorem bd_small : SmP bd.rim := by unfold SmP; decide
theorem e_lives : Pure PP 14 [] (bo true) := by
 have hv : bd.v = [ni 7, ni 0, .sl (Ct.ptR bdR), .sl (Ct.wnR [false, false, false, false]), zl [0, 0, 0, 0]] ++ (dR 0 ++ (dR (Rat.divInt 1 1) ++ (dR (Rat.divInt 1 1) ++ (dR (Rat.divInt 100 1) ++ dR (Rat.divInt 1 2))))) := rfl
 have hL : bdL.v = [ni 7, ni 0, .sl (Ct.ptR bdR), .sl (Ct.wnR [false, false, false, false]), zl [0, 0, 0, 0]] ++ (dR 0 ++ (dR (Rat.divInt 2 1) ++ (dR (Rat.divInt 1 1) ++ (dR (Rat.divInt 100 1) ++ dR (Rat.divInt 1 2))))) := rfl
 have hF : bdF.v = [ni 1000, ni 0, .sl (Ct.ptR bdR), .sl (Ct.wnR [false, false, false, false]), zl [0, 0, 0, 0]] ++ (dR 0 ++ (dR (Rat.divInt 1 1) ++ (dR (Rat.divInt 1 1) ++ (dR (Rat.divInt 100 1) ++ dR (Rat.divInt 1 2))))) := rfl
 have hM : bdM.v = [ni 7, ni 0, .sl (Ct.ptR bdR), .sl (Ct.wnR [false, false, false, false]), zl [0, 0, 0]] ++ (dR 0 ++ (dR (Rat.divInt 1 1) ++ (dR (Rat.divInt 1 1) ++ (dR (Rat.divInt 100 1) ++ dR (Rat.divInt 1 2))))) := rfl
 have eb := e_board
 have v1 := e_bdv
 have v2 := e_bdLv
 have v3 := e_bdMv
 have v4 := e_bdFv
 have z : ∀ x : Int, -1000 ≤ x ∧ x ≤ 1000 → W.Is64 x := fun x h => ⟨by omega, by omega⟩
 have q := fun (x y : Int) (hx : -1000 ≤ x ∧ x ≤ 1000) (hy : -1000 ≤ y ∧ y ≤ 1000) => e_of4 (z x hx) (z y hy)
 have o := fun (x y : Int) (hx : -1000 ≤ x ∧ x ≤ 1000) (hy : -1000 ≤ y ∧ y ≤ 1000) => e_vof (z x hx) (z y hy)
 have ce := e_pcells (pl := plS) (b := 8) (j := 100) bd_ok bd_bv (show 3 ≤ 4 by decide) (show 4 ≤ 900 by decide) e_bdval goodS.t goodS.a (by omega)
 have hcl : (rowsL ((cutT bd.rimV).map fun K => K.map (vput plS))).length = 2 := by
  have : (rowsL ((cutT bd.rimV).map fun K => K.map (vput plS))).length = _ := List.length_map ..
  rw [this, List.length_map, bd_len]
 have cr := (Ct.e_rim bd_ok).ro
 have hrl : (bd.rimV.map dV).length = 4 := rfl
 have n1 := Ct.e_pcen goodS
 have n2 := Ct.e_pcen goodT
 rw [cenS] at n1
 rw [cenT] at n2
 have s1 := same_v (Rat.divInt 2 1, Rat.divInt 3 2)
 have s2 := same_v (-(Rat.divInt 1 2), Rat.divInt 2 1)
 have en := e_penc bd_en
 have de := e_pdec (t := []) bd_en e_bdv (by decide)
 rw [List.append_nil] at de
 have g1 := e_edgeV (p := bd) (k := 1) (by decide) (by decide) bd_small (z 1 (by omega))
 have g2 := e_edgeV (p := bd) (k := -1) (by decide) (by decide) bd_small (z (-1) (by omega))
 have g3 := e_square (p := bd) (k := 0) (by decide) (by decide) bd_small (z 0 (by omega))
 rw [show edV bd.rim (edK 1 bd.rim.length) = (0, 3) by decide] at g1
 rw [show edV bd.rim (edK (-1) bd.rim.length) = (0, -3) by decide] at g2
 rw [show sqV bd.rim (edK 0 bd.rim.length) = 16 by decide] at g3
 have s3 := same_v (Rat.divInt 0 1, Rat.divInt 3 1)
 have s4 := same_v (Rat.divInt 0 1, Rat.divInt (-3) 1)
 have sm := e_same1 bd
 have hel : (byL (encP bd)).length = (encP bd).length := byL_len _
 rw [dPlS] at ce n1
 rw [dPlT] at n2
 rw [hv] at *
 rw [hL] at v2
 rw [hM] at v3
 rw [hF] at v4
 have q21 := q 2 1 (by omega) (by omega)
 have q12 := q 1 2 (by omega) (by omega)
 have q11 := q 1 1 (by omega) (by omega)
 have q32 := q 3 2 (by omega) (by omega)
 have o10 := o 1 0 (by omega) (by omega)
 have o03 := o 0 3 (by omega) (by omega)
 have o04 := o 0 (-3) (by omega) (by omega)
 have ng := e_neg4 (Rat.divInt 1 2)
 clear q o z
 change Pure PP _ _ (.ag (dV (Rat.divInt 0 1, Rat.divInt 3 1))) at g1
 change Pure PP _ _ (.ag (dV (Rat.divInt 0 1, Rat.divInt (-3) 1))) at g2
 change Pure PP _ _ (.v (.sl (bd.rimV.map dV))) at cr
 simp only [dR_0] at *
 generalize rowsL ((cutT bd.rimV).map fun K => K.map (vput plS)) = RW at *
 generalize bd.rimV.map dV = RM at *
 generalize encP bd = EB at *
 generalize Rat.divInt 1 1 = r11 at *
 generalize Rat.divInt 2 1 = r21 at *
 generalize Rat.divInt 3 2 = r32 at *
 generalize Rat.divInt 0 1 = r01 at *
 generalize Rat.divInt 3 1 = r31 at *
 generalize Rat.divInt (-3) 1 = rm31 at *
 generalize Rat.divInt 100 1 = r100 at *
 generalize Rat.divInt 1 2 = r12 at *
 exact tr [cl eb, cl eb, cl q21, cl eb, .slc (zs [0, 0, 0, 0]) 0 3 1 (zs [0, 0, 0]) rfl (by decide) (fun cs h => (zs_z1 _ cs h).1), cl eb, cl v1, nf, cl v2, nf, cl v3, nf, cl v4, nf, cl q12, cl Ct.e_still5, cl q11, cl o10,
  cl ce, .eqv 50 (ni (RW.length : Int)) (ni 2) (by rw [hcl]; rfl), nf, cl cr, .eqv 55 (ni (RM.length : Int)) (ni 4) (by rw [hrl]; rfl), nf, cl n1, cl q21, cl q32, cl s1, nf, cl n2, cl ng, cl q21, cl s2, nf,
  cl en, cl de, cl g1, cl o03, cl s3, yt, cl g2, cl o04, cl s4, yt, cl g3, yt, yt, cl en, .eqv 109 (ni ((byL EB).length : Int)) (ni (EB.length : Int)) (by rw [hel]), ye (t := (EB.length : Int) == (EB.length : Int)) (by simp), cl sm] (by kernel_rfl)
end Go.Proofs.YtlgnagnmoleeiaaGreat.E.Pc
namespace Go.Proofs.YtlgnagnmoleeiaaGreat.E.Pc
open Go.RowKit
set_option linter.unusedVariables false
set_option linter.unusedSimpArgs false
section
variable {x : Int}
end
end Go.Proofs.YtlgnagnmoleeiaaGreat.E.Pc
namespace Go.Proofs.YtlgnagnmoleeiaaGreat.E.Pc
open Go.RowKit
set_option linter.unusedVariables false
set_option linter.unusedSimpArgs false
section
variable {x k : Int} {n m : Nat} {p : Ct.Pi}
theorem sub1 (x y : Int) : Rat.divInt x 1 - Rat.divInt y 1 = Rat.divInt (x - y) 1 := by
 have h : ∀ z : Int, Rat.divInt z 1 = (z : Rat) := fun z => Rat.num_divInt_den (z : Rat)
 rw [h, h, h, Rat.intCast_sub]
theorem qv_sub (a b : Int × Int) : vsub (Ct.qv a) (Ct.qv b) = Ct.qv (a.1 - b.1, a.2 - b.2) := by
 unfold vsub Ct.qv
 rw [sub1, sub1]
theorem qv_bv {c : Int × Int} (h : (-100000 ≤ c.1 ∧ c.1 ≤ 100000) ∧ (-100000 ≤ c.2 ∧ c.2 ≤ 100000)) : Bv 20 (Ct.qv c) := by
 have key : ∀ x : Int, -100000 ≤ x ∧ x ≤ 100000 → I.Bd 20 x := fun x hx => by
  have h5 : x.natAbs ≤ 100000 := by omega
  show x.natAbs < 2 ^ 20
  omega
 exact ⟨Bq.divInt (key _ h.1) (by unfold I.Bd; decide) (by omega), Bq.divInt (key _ h.2) (by unfold I.Bd; decide) (by omega)⟩
end
end Go.Proofs.YtlgnagnmoleeiaaGreat.E.Pc
namespace Go.Proofs.YtlgnagnmoleeiaaGreat.E.Pc
open Go.RowKit
set_option linter.unusedVariables false
set_option linter.unusedSimpArgs false
section
variable {x : Int}
end
end Go.Proofs.YtlgnagnmoleeiaaGreat.E.Pc
namespace Go.Proofs.YtlgnagnmoleeiaaGreat.E.Pc
open Go.RowKit
set_option linter.unusedVariables false
set_option linter.unusedSimpArgs false
section
variable {x k : Int} {p : Ct.Pi}
end
end Go.Proofs.YtlgnagnmoleeiaaGreat.E.Pc
namespace Go.Proofs.YtlgnagnmoleeiaaGreat.E.Pc
open Go.RowKit
set_option linter.unusedVariables false
set_option linter.unusedSimpArgs false
end Go.Proofs.YtlgnagnmoleeiaaGreat.E.Pc
namespace Go.Proofs.YtlgnagnmoleeiaaGreat.E.Pc
open Go.RowKit
set_option linter.unusedVariables false
set_option linter.unusedSimpArgs false
section
variable {l : List Int} {k : Int} {P : List (Int × Int)} {p : Ct.Pi} {i j n m q : Nat}
theorem bq8 {x y : Int} (hx : -200 ≤ x ∧ x ≤ 200) (hy : 1 ≤ y ∧ y ≤ 200) : Bq 8 (Rat.divInt x y) := Bq.divInt (k := 8) (by unfold I.Bd; omega) (by unfold I.Bd; omega) (by omega)
theorem p12_bits (l : List Int) : Bq 8 (Ct.p12 l).tol ∧ Bq 8 (Ct.p12 l).light ∧ Bq 20 (Ct.p12 l).heavy ∧ Bq 8 (Ct.p12 l).str ∧ Bq 8 (Ct.p12 l).rough := by
 unfold Ct.p12
 generalize Ct.rimP l = P at *
 have a10 := atz_in l 10 2
 have a11 := atz_in l 11 5
 have a12 := atz_in l 12 3
 have a13 := atz_in l 13 99
 have a14 := atz_in l 14 4
 have bl : Bq 8 (Ct.pLight l) := bq8 (by omega) (by omega)
 exact ⟨bq8 (x := atz l 10 2) (y := 4) (by omega) (by omega), bl, (bl.add (bq8 (x := atz l 12 3) (y := 2) (by omega) (by omega))).mono (by omega), bq8 (x := 20 + atz l 13 99) (y := 1) (by omega) (by omega), bq8 (x := atz l 14 4) (y := 4) (by omega) (by omega)⟩
theorem p12_sm (l : List Int) : ∀ c ∈ (Ct.p12 l).rim, (-12 ≤ c.1 ∧ c.1 ≤ 12) ∧ (-12 ≤ c.2 ∧ c.2 ≤ 12) := fun c hc => by
 rw [Ct.p12_rim] at hc
 have := (Ct.rimP_in l).1 c hc
 unfold Ct.Sm_ at this
 omega
theorem p12_len (l : List Int) : 3 ≤ (Ct.p12 l).rim.length ∧ (Ct.p12 l).rim.length ≤ 5 := by
 rw [Ct.p12_rim]
 exact (Ct.rimP_in l).2
theorem p12_ok (l : List Int) : (Ct.p12 l).Ok 100 := by
 obtain ⟨b1, b2, b3, b4, b5⟩ := p12_bits l
 have hl := p12_len l
 exact ⟨fun x hx => by
  have := p12_sm l x hx
  exact ⟨⟨by omega, by omega⟩, ⟨by omega, by omega⟩⟩, by omega, b1.mono (by omega), b2.mono (by omega), b3.mono (by omega), b4.mono (by omega), b5.mono (by omega)⟩
theorem tri_val : ([0, 1, 2].all fun (a : Int) => [0, 1, 2, 3].all fun (b : Int) => Pg.valid (([(0, 0), (4 + a, 0), (b, 3)] : List (Int × Int)).map Ct.qv)) = true := by decide +kernel
theorem p12_val (l : List Int) : Pg.valid (Ct.p12 l).rimV = true := by
 show Pg.valid ((Ct.p12 l).rim.map Ct.qv) = true
 rw [Ct.p12_rim]
 unfold Ct.rimP
 split
 · rename_i h
   rwa [valid_eq] at h
 · have h0 := atz_in l 0 2
   have h1 := atz_in l 1 3
   have := tri_val
   rw [List.all_eq_true] at this
   have := this (atz l 0 2) (by simp; omega)
   rw [List.all_eq_true] at this
   exact this (atz l 1 3) (by simp; omega)
end
end Go.Proofs.YtlgnagnmoleeiaaGreat.E.Pc
namespace Go.Proofs.YtlgnagnmoleeiaaGreat.E.Pc
open Go.RowKit
set_option linter.unusedVariables false
set_option linter.unusedSimpArgs false
/-- Cutting, told by a side for three numbers of corners. -/
def sdG (s : Nat → Nat → Nat → Int) (R : List Nat) (p : Nat) : Int := s (pv R p) (md R p) (nx R p)
def skipG (s : Nat → Nat → Nat → Int) (a b c k : Nat) : Bool := (decide (k = a) || (decide (k = c) || decide (k = b))) || (decide (s a b k < 0) || (decide (s b c k < 0) || decide (s c a k < 0)))
def earG (s : Nat → Nat → Nat → Int) (R : List Nat) (p : Nat) : Bool := decide (0 < sdG s R p) && R.all (skipG s (pv R p) (md R p) (nx R p))
def clearG (s : Nat → Nat → Nat → Int) : Nat → List Nat → List Nat
 | 0, R => R
 | n + 1, R => if 3 < R.length then (match (List.range R.length).find? (fun p => sdG s R p == 0) with | some p => clearG s n (R.eraseIdx p) | none => R) else R
def earPG (s : Nat → Nat → Nat → Int) (R : List Nat) : Nat := ((List.range (R.length - 1)).find? (earG s R)).getD (R.length - 1)
def cutG (s : Nat → Nat → Nat → Int) : Nat → List Nat → List (List Nat)
 | 0, R => [R]
 | n + 1, R => if 3 < R.length then [pv R (earPG s R), md R (earPG s R), nx R (earPG s R)] :: cutG s n (clearG s (R.eraseIdx (earPG s R)).length (R.eraseIdx (earPG s R))) else [R]
def sL (L : List Vc) (a b c : Nat) : Int := vside (ld L a) (ld L b) (ld L c)
/-- The side of three corners with whole coordinates. -/
def crZ (a b c : Int × Int) : Int := (b.1 - a.1) * (c.2 - a.2) - (b.2 - a.2) * (c.1 - a.1)
def sP (P : List (Int × Int)) (a b c : Nat) : Int := cmpZ (crZ (cpt P a) (cpt P b) (cpt P c)) 0
section
variable {L : List Vc} {R : List Nat} {P : List (Int × Int)} {p q m n i j k : Nat} {l : List Int}
theorem skip_g (p k : Nat) : skip L R p k = skipG (sL L) (pv R p) (md R p) (nx R p) k := by
 unfold skip skipG
 congr 1
 show (outJ _ _ 0 || (outJ _ _ 1 || (outJ _ _ 2 || false))) = _
 rw [Bool.or_false]
 rfl
theorem ear_g (R : List Nat) : earB L R = earG (sL L) R := by
 funext p
 unfold earB earG
 rw [show skip L R p = skipG (sL L) (pv R p) (md R p) (nx R p) from funext fun k => skip_g p k]
 rfl
theorem clear_g : ∀ (n : Nat) (R : List Nat), clearF L n R = clearG (sL L) n R
 | 0, R => rfl
 | n + 1, R => by
  unfold clearF clearG
  have : flatP L R = (List.range R.length).find? (fun p => sdG (sL L) R p == 0) := rfl
  rw [← this]
  split
  · cases flatP L R with
    | some p => exact clear_g n _
    | none => rfl
  · rfl
theorem cut_g : ∀ (n : Nat) (R : List Nat), cutF L n R = cutG (sL L) n R
 | 0, R => rfl
 | n + 1, R => by
  unfold cutF cutG
  have : earP L R = earPG (sL L) R := by unfold earP earPG; rw [ear_g]
  rw [this]
  split
  · congr 1
    rw [cut_g n]
    unfold clearR
    rw [clear_g]
  · rfl
theorem ld_q (k : Nat) : ld (P.map Ct.qv) k = Ct.qv (cpt P k) := by
 unfold ld cpt
 rw [List.getD_eq_getElem?_getD, List.getD_eq_getElem?_getD, List.getElem?_map]
 cases P[k]? with
 | none => decide +kernel
 | some x => rfl
theorem side_q (a b c : Int × Int) : vside (Ct.qv a) (Ct.qv b) (Ct.qv c) = cmpZ (crZ a b c) 0 := by
 have h : ∀ z : Int, Rat.divInt z 1 = (z : Rat) := fun z => Rat.num_divInt_den (z : Rat)
 unfold vside
 rw [qv_sub, qv_sub]
 have : vcrs (Ct.qv (b.1 - a.1, b.2 - a.2)) (Ct.qv (c.1 - a.1, c.2 - a.2)) = ((crZ a b c : Int) : Rat) := by
  unfold vcrs Ct.qv crZ
  simp only [h, Rat.intCast_sub, Rat.intCast_mul]
 rw [this]
 rfl
theorem sL_q : sL (P.map Ct.qv) = sP P := by
 funext a b c
 unfold sL sP
 rw [ld_q, ld_q, ld_q, side_q]
def goodZ (P : List (Int × Int)) : Bool := (cutG (sP P) P.length (List.range P.length)).all fun t => decide (0 < sP P (t.getD 0 0) (t.getD 1 0) (t.getD 2 0))
def chkP (P : List (Int × Int)) : Bool := goodZ P || !(Pg.valid6 (P.map Ct.qv))
def xk (a : Int) (k : Nat) : Int × Int := (4 + Int.tdiv (Ct.wyz k).1 a, 4 + Int.tdiv (Ct.wyz k).2 a)
def allC (c : List (Int × Int) → Bool) : Nat → Nat → List (Int × Int) → Bool
 | 0, _, A => c A
 | n + 1, k, A => if A.length < 5 then allC c n (k + 1) A && (allC c n (k + 1) (A ++ [xk 1 k]) && allC c n (k + 1) (A ++ [xk 2 k])) else c A
theorem allC_ok {c : List (Int × Int) → Bool} : ∀ (n k : Nat), allC c n k (Ct.rimS l k) = true → c (Ct.rimS l (k + n)) = true
 | 0, k, h => h
 | n + 1, k, h => by
  unfold allC at h
  split at h
  · rename_i h5
    simp only [Bool.and_eq_true] at h
    obtain ⟨h0, h1, h2⟩ := h
    have hs : Ct.rimS l (k + 1) = Ct.rimS l k ++ Ct.rim1 l k := if_pos h5
    have key : allC c n (k + 1) (Ct.rimS l (k + 1)) = true := by
     rw [hs]
     unfold Ct.rim1 Ct.rimX
     split
     · rename_i h
       rcases h with h | h
       · rw [h]; exact h1
       · rw [h]; exact h2
     · rw [List.append_nil]; exact h0
    have := allC_ok n (k + 1) key
    rwa [show k + 1 + n = k + (n + 1) by omega] at this
  · rename_i h5
    rw [Ct.rimS_stop h5]
    exact h
theorem rims_ok : allC chkP 8 0 [] = true := by decide +kernel
theorem tris_ok : ([0, 1, 2].all fun (a : Int) => [0, 1, 2, 3].all fun (b : Int) => goodZ [(0, 0), (4 + a, 0), (b, 3)]) = true := by decide +kernel
theorem rim_good (l : List Int) : goodZ (Ct.rimP l) = true := by
 unfold Ct.rimP
 split
 · rename_i h
   have := allC_ok (l := l) 8 0 rims_ok
   unfold chkP at this
   rw [Nat.zero_add, h] at this
   simpa using this
 · have h0 := atz_in l 0 2
   have h1 := atz_in l 1 3
   have := tris_ok
   rw [List.all_eq_true] at this
   have := this (atz l 0 2) (by simp; omega)
   rw [List.all_eq_true] at this
   exact this (atz l 1 3) (by simp; omega)
/-- The triangles. -/
theorem cut_pos (l : List Int) : ∀ t ∈ cutL ((Ct.rimP l).map Ct.qv), 0 < vside (ld ((Ct.rimP l).map Ct.qv) (t.getD 0 0)) (ld ((Ct.rimP l).map Ct.qv) (t.getD 1 0)) (ld ((Ct.rimP l).map Ct.qv) (t.getD 2 0)) := by
 intro t ht
 have hg := rim_good l
 generalize Ct.rimP l = P at *
 unfold cutL at ht
 rw [cut_g, sL_q, List.length_map] at ht
 unfold goodZ at hg
 rw [List.all_eq_true] at hg
 have := of_decide_eq_true (hg t ht)
 rw [← sL_q] at this
 exact this
end
end Go.Proofs.YtlgnagnmoleeiaaGreat.E.Pc
namespace Go.Proofs.YtlgnagnmoleeiaaGreat.E.Pc
open Go.RowKit
set_option linter.unusedVariables false
set_option linter.unusedSimpArgs false
section
variable {L : List Vc} {R : List Nat} {b p q m n i j : Nat} {k : Int} {u v w x : Vc}
end
end Go.Proofs.YtlgnagnmoleeiaaGreat.E.Pc
namespace Go.Proofs.YtlgnagnmoleeiaaGreat.E.Pc
open Go.RowKit
set_option linter.unusedVariables false
set_option linter.unusedSimpArgs false
section
variable {L : List Vc} {R : List Nat} {b p q m n i j : Nat} {k : Int}
end
end Go.Proofs.YtlgnagnmoleeiaaGreat.E.Pc
namespace Go.Proofs.YtlgnagnmoleeiaaGreat.E.Pc
open Go.RowKit
set_option linter.unusedVariables false
set_option linter.unusedSimpArgs false
section
variable {L : List Vc} {R : List Nat} {b p q m n i j : Nat} {k : Int} {A T : List (List Nat)}
end
end Go.Proofs.YtlgnagnmoleeiaaGreat.E.Pc
namespace Go.Proofs.YtlgnagnmoleeiaaGreat.E.Pc
open Go.RowKit
set_option linter.unusedVariables false
set_option linter.unusedSimpArgs false
section
variable {l : List Int} {k : Int} {p : Ct.Pi} {Ks : List Int} {i j n m q : Nat}
end
end Go.Proofs.YtlgnagnmoleeiaaGreat.E.Pc
namespace Go.Proofs.YtlgnagnmoleeiaaGreat.E.Pc
open Go.RowKit
set_option linter.unusedVariables false
set_option linter.unusedSimpArgs false
section
variable {L : List Vc} {b j k m n i : Nat} {p q : Vc × Vc} {pc : Ct.Pi} {T : List (List Vc)} {l at_l : List Int} {u v : Vc}
theorem rows_len (T : List (List Vc)) : (rowsL T).length = T.length := List.length_map ..
theorem rows_at (h : i < T.length) : (rowsL T)[i]? = some [dL T[i]] := by unfold rowsL; rw [List.getElem?_map, List.getElem?_eq_getElem h]; rfl
/-- What is known of the triangles. -/
theorem cut_bits (hb : ∀ a ∈ L, Bv b a) (h3 : 3 ≤ L.length) (hn : L.length ≤ 900) (hk : 100 * b + 1000 ≤ 800000000000) : (∀ K ∈ cutT L, K.length = 3 ∧ ∀ a ∈ K, Bv b a) ∧ (cutT L).length ≤ 901 := by
 have hr : Rm L (List.range L.length) b := ⟨fun x hx => List.mem_range.1 hx, by rw [List.length_range]; omega, hb, by omega⟩
 have hin := cut_in L.length (List.range L.length) hr List.nodup_range (by rw [List.length_range]; omega) (by rw [List.length_range]; omega)
 refine ⟨fun K hK => ?_, ?_⟩
 · unfold cutT at hK
   obtain ⟨t, hm, rfl⟩ := List.mem_map.1 hK
   obtain ⟨q1, q2⟩ := hin t hm
   refine ⟨by rw [List.length_map, q1], fun a ha => ?_⟩
   obtain ⟨x, hx, rfl⟩ := List.mem_map.1 ha
   exact hr.bv (q2 x hx)
 · have h1 := cut_len (L := L) L.length (List.range L.length)
   have h2 : (cutT L).length = (cutL L).length := List.length_map ..
   have h3 : (cutL L).length ≤ L.length + 1 := h1
   omega
end
end Go.Proofs.YtlgnagnmoleeiaaGreat.E.Pc
namespace Go.Proofs.YtlgnagnmoleeiaaGreat.E.Pc
open Go.RowKit
set_option linter.unusedVariables false
set_option linter.unusedSimpArgs false
section
variable {L : List Vc} {b j k m n i : Nat} {p q : Vc × Vc} {pc : Ct.Pi} {T A C : List (List Vc)} {l at_l : List Int} {u v : Vc}
theorem p12_bv (l : List Int) : ∀ a ∈ (Ct.p12 l).rimV, Bv 20 a := fun a ha => by
 obtain ⟨c, hc, rfl⟩ := List.mem_map.1 ha
 have := p12_sm l c hc
 exact qv_bv (by omega)
theorem p12_good (l : List Int) (h1 : Bv 1000 p.1) (h2 : Bv 1000 p.2) : (Ct.p12 l).Good p 1000 := by
 have ok := p12_ok l
 have hl := p12_len l
 exact ⟨⟨ok.r, ok.n, ok.tol.mono (by omega), ok.light.mono (by omega), ok.heavy.mono (by omega), ok.str.mono (by omega), ok.rough.mono (by omega)⟩, fun a ha => (p12_bv l a ha).mono (by omega), h1, h2, by omega, by omega⟩
theorem e_valP (l : List Int) : Pure PP 67 [dL (Ct.p12 l).rimV] (bo true) := by
 have hl := p12_len l
 have hv : (Ct.p12 l).rimV.length = (Ct.p12 l).rim.length := List.length_map ..
 have := e_valid (p12_bv l) (by omega) (by omega)
 rwa [p12_val] at this
end
end Go.Proofs.YtlgnagnmoleeiaaGreat.E.Pc
namespace Go.Proofs.YtlgnagnmoleeiaaGreat.E.Pc
open Go.RowKit
set_option linter.unusedVariables false
set_option linter.unusedSimpArgs false
def sumR (f : List Vc → Rat) (A : List (List Vc)) (i : Nat) : Rat := ((A.take i).map f).foldr (· + ·) 0
section
variable {L : List Vc} {b j k m n i : Nat} {p : Vc × Vc} {A : List (List Vc)} {K : List Vc} {l : List Int} {x y z : Vc} {f : List Vc → Rat}
theorem foldr_snoc (l : List Rat) (r : Rat) : (l ++ [r]).foldr (· + ·) 0 = l.foldr (· + ·) 0 + r := by
 induction l with
 | nil => show r + 0 = 0 + r; grind
 | cons a l ih =>
  show a + (l ++ [r]).foldr (· + ·) 0 = a + l.foldr (· + ·) 0 + r
  rw [ih]
  grind
theorem sumR_next (h : i < A.length) : sumR f A (i + 1) = sumR f A i + f A[i] := by
 unfold sumR
 rw [List.take_add_one, List.getElem?_eq_getElem h, List.map_append]
 exact foldr_snoc _ _
theorem sumR_all (f : List Vc → Rat) (A : List (List Vc)) : sumR f A A.length = (A.map f).foldr (· + ·) 0 := by unfold sumR; rw [List.take_length]
theorem foldr_lin (a b c : Rat) (f g h : List Vc → Rat) : ∀ A : List (List Vc), (A.map fun K => a * f K + b * g K + c * h K).foldr (· + ·) 0 = a * (A.map f).foldr (· + ·) 0 + b * (A.map g).foldr (· + ·) 0 + c * (A.map h).foldr (· + ·) 0
 | [] => by show (0 : Rat) = a * 0 + b * 0 + c * 0; grind
 | K :: A => by
  have ih := foldr_lin a b c f g h A
  show a * f K + b * g K + c * h K + (A.map fun K => a * f K + b * g K + c * h K).foldr (· + ·) 0 = a * (f K + (A.map f).foldr (· + ·) 0) + b * (g K + (A.map g).foldr (· + ·) 0) + c * (h K + (A.map h).foldr (· + ·) 0)
  rw [ih]
  grind
theorem foldr_congr {f g : List Vc → Rat} : ∀ {A : List (List Vc)}, (∀ K ∈ A, f K = g K) → (A.map f).foldr (· + ·) 0 = (A.map g).foldr (· + ·) 0
 | [], _ => rfl
 | K :: A, h => by
  show f K + (A.map f).foldr (· + ·) 0 = g K + (A.map g).foldr (· + ·) 0
  rw [h K (List.mem_cons_self ..), foldr_congr fun K hK => h K (List.mem_cons_of_mem _ hK)]
theorem vside_p (h : 0 < vside x y z) : 0 < Pg.cr x y z := by
 rw [vside_cr] at h
 rcases cmpQ_cases (Pg.cr x y z) 0 with ⟨h1, g⟩ | ⟨h1, g⟩ | ⟨h1, g⟩
 · rw [h1] at h; omega
 · rw [h1] at h; omega
 · exact g
theorem tri_area (x y z : Vc) : Pg.area [x, y, z] = Pg.cr x y z * Rat.divInt 1 2 := by
 rw [Pg.area_fan]
 show Pg.sum _ [(y, z)] * _ = _
 rw [Pg.sum_cons, Pg.sum_nil]
 grind
theorem cor3 (i : Nat) : Pg.cor [x, y, z] i = [x, y, z].getD (i % 3) (0, 0) := rfl
theorem tri_right (h : 0 < Pg.cr x y z) : Pg.Right [x, y, z] := by
 have h1 := Pg.cr_rot x y z
 have h2 := Pg.cr_rot y z x
 refine ⟨Nat.le_refl 3, show 3 ≤ 12 by decide, fun i hi => ?_, fun i k hi hk g1 g2 => ?_, ?_⟩
 · have hi : i < 3 := hi
   have : i = 0 ∨ i = 1 ∨ i = 2 := by omega
   rcases this with rfl | rfl | rfl
   · rw [cor3, cor3, cor3]; show Pg.cr x y z ≠ 0; grind
   · rw [cor3, cor3, cor3]; show Pg.cr y z x ≠ 0; grind
   · rw [cor3, cor3, cor3]; show Pg.cr z x y ≠ 0; grind
 · have g1 : 1 < Pg.gap 3 i k := g1
   have g2 : Pg.gap 3 i k < 3 - 1 := g2
   omega
 · rw [tri_area, Pg.div12]
   grind
theorem tri_convex (h : 0 < Pg.cr x y z) : Pg.convex [x, y, z] = true := by
 have h1 := Pg.cr_rot x y z
 have h2 := Pg.cr_rot y z x
 have key : ∀ {a b c : Vc}, 0 < Pg.cr a b c → decide (vside a b c < 0) = false := fun {a b c} h => by
  rw [vside_cr]
  rcases cmpQ_cases (Pg.cr a b c) 0 with ⟨h1, g⟩ | ⟨h1, g⟩ | ⟨h1, g⟩
  · grind
  · rw [h1]; rfl
  · rw [h1]; rfl
 unfold Pg.convex
 rw [(valid_iff _).2 (tri_right h), Bool.true_and]
 have d0 : Pg.dent [x, y, z] 0 = decide (vside x y z < 0) := by unfold Pg.dent; rw [cor3, cor3]; rfl
 have d1 : Pg.dent [x, y, z] 1 = decide (vside y z x < 0) := by unfold Pg.dent; rw [cor3, cor3]; rfl
 have d2 : Pg.dent [x, y, z] 2 = decide (vside z x y < 0) := by unfold Pg.dent; rw [cor3, cor3]; rfl
 rw [show List.range [x, y, z].length = [0, 1, 2] from rfl]
 show (!(Pg.dent [x, y, z] 0 || (Pg.dent [x, y, z] 1 || (Pg.dent [x, y, z] 2 || false)))) = true
 rw [d0, d1, d2, key h, key (show 0 < Pg.cr y z x by grind), key (show 0 < Pg.cr z x y by grind)]
 rfl
/-- The triangles of a piece made of numbers. -/
theorem cutT_tri (l : List Int) : ∀ K ∈ cutT (Ct.p12 l).rimV, ∃ x y z, K = [x, y, z] ∧ 0 < Pg.cr x y z := fun K hK => by
 have hl := p12_len l
 have hv : (Ct.p12 l).rimV.length = (Ct.p12 l).rim.length := List.length_map ..
 have hr : Rm (Ct.p12 l).rimV (List.range (Ct.p12 l).rimV.length) 20 := ⟨fun x hx => List.mem_range.1 hx, by rw [List.length_range]; omega, p12_bv l, by omega⟩
 have hin := cut_in (Ct.p12 l).rimV.length (List.range (Ct.p12 l).rimV.length) hr List.nodup_range (by rw [List.length_range]; omega) (by rw [List.length_range]; omega)
 unfold cutT at hK
 obtain ⟨t, hm, rfl⟩ := List.mem_map.1 hK
 have hp := cut_pos l t (by rw [← Ct.p12_rim]; exact hm)
 rw [← Ct.p12_rim] at hp
 obtain ⟨a, b, c, rfl⟩ := three_of (hin t hm).1
 exact ⟨_, _, _, rfl, vside_p hp⟩
/-- A centroid times the area. -/
theorem center_x (h : Pg.area K ≠ 0) : (Pg.center K).1 * Pg.area K = Pg.sum Pg.fx (Pg.sides K) * (1 / 6) ∧ (Pg.center K).2 * Pg.area K = Pg.sum Pg.fy (Pg.sides K) * (1 / 6) := by
 unfold Pg.center vsca
 unfold Pg.area at *
 generalize Pg.sum Pg.fx (Pg.sides K) = u
 generalize Pg.sum Pg.fy (Pg.sides K) = v
 generalize Pg.sum vcrs (Pg.sides K) = s at *
 rw [Pg.div12] at *
 have hs : s ≠ 0 := fun e => by rw [e] at h; grind
 have hq : s * (Rat.divInt 1 3 / s) = 1 / 3 := by
  rw [Pg.div13, Rat.div_def]
  have := Rat.mul_inv_cancel s hs
  grind
 generalize Rat.divInt 1 3 / s = q at *
 constructor <;> (dsimp only; grind)
theorem put_lin (p : Vc × Vc) (c : Vc) (a u v : Rat) (h1 : c.1 * a = u) (h2 : c.2 * a = v) : vsca (vput p c) a = (p.1.1 * u + (-p.1.2) * v + p.2.1 * a, p.1.2 * u + p.1.1 * v + p.2.2 * a) := by
 unfold vsca vput vadd vrot
 refine Prod.ext ?_ ?_ <;> (dsimp only; grind)
/-- The areas. -/
theorem area_tot (L : List Vc) : ((cutT L).map Pg.area).foldr (· + ·) 0 = Pg.area L := by
 have := cut_tot Pg.vcrs_odd flat_crs L
 rw [foldr_congr (g := fun K => (1 / 2) * Pg.sum vcrs (Pg.sides K) + 0 * 0 + 0 * 0) (fun K hK => by unfold Pg.area; rw [Pg.div12]; grind), foldr_lin (1 / 2) 0 0 (fun K => Pg.sum vcrs (Pg.sides K)) (fun _ => 0) (fun _ => 0), this]
 unfold Pg.area
 rw [Pg.div12]
 grind
/-- The centroids, put at a place. -/
theorem center_tot (hL : Pg.area L ≠ 0) (hK : ∀ K ∈ cutT L, Pg.area K ≠ 0) : ((cutT L).map fun K => (vsca (vput p (Pg.center K)) (Pg.area K)).1).foldr (· + ·) 0 = (vsca (vput p (Pg.center L)) (Pg.area L)).1 ∧ ((cutT L).map fun K => (vsca (vput p (Pg.center K)) (Pg.area K)).2).foldr (· + ·) 0 = (vsca (vput p (Pg.center L)) (Pg.area L)).2 := by
 have tx := cut_tot Pg.fx_odd flat_fx L
 have ty := cut_tot Pg.fy_odd flat_fy L
 have ta := area_tot L
 obtain ⟨x0, y0⟩ := center_x hL
 constructor
 · rw [foldr_congr (g := fun K => (p.1.1 * (1 / 6)) * Pg.sum Pg.fx (Pg.sides K) + (-p.1.2 * (1 / 6)) * Pg.sum Pg.fy (Pg.sides K) + p.2.1 * Pg.area K) (fun K hk => by
    obtain ⟨x1, y1⟩ := center_x (hK K hk)
    rw [put_lin p _ _ _ _ x1 y1]
    dsimp only
    grind), foldr_lin, tx, ty, ta, put_lin p _ _ _ _ x0 y0]
   dsimp only
   grind
 · rw [foldr_congr (g := fun K => (p.1.2 * (1 / 6)) * Pg.sum Pg.fx (Pg.sides K) + (p.1.1 * (1 / 6)) * Pg.sum Pg.fy (Pg.sides K) + p.2.2 * Pg.area K) (fun K hk => by
    obtain ⟨x1, y1⟩ := center_x (hK K hk)
    rw [put_lin p _ _ _ _ x1 y1]
    dsimp only
    grind), foldr_lin, tx, ty, ta, put_lin p _ _ _ _ x0 y0]
   dsimp only
   grind
end
end Go.Proofs.YtlgnagnmoleeiaaGreat.E.Pc
