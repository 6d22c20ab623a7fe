/-
 PIECE: a piece with something changed: up to the change.
-/
import Derived.Test.YtlgnagnmoleeiaaGreatEzM
import Derived.Test.YtlgnagnmoleeiaaGreatEoV
import Derived.Test.YtlgnagnmoleeiaaGreatEvS
namespace Go.Proofs.YtlgnagnmoleeiaaGreat.E.Pc
open Go.RowKit
set_option linter.unusedVariables false
set_option linter.unusedSimpArgs false
def bdL : Ct.Pi := { bd with light := Rat.divInt 2 1 }
def bdF : Ct.Pi := { bd with id := 1000 }
def bdM : Ct.Pi := { bd with marks := [0, 0, 0] }
theorem bdL_ok : bdL.Ok 100 := { bd_ok with light := Bq.mono (j := 11) (Bq.divInt (by unfold I.Bd; decide) (by unfold I.Bd; decide) (by omega)) (by omega) }
theorem e_bdLv : Pure PP 12 [.ag bdL.v] (ni 1) := by
 have h := e_pvalid (p := bdL) (v := true) (pk_of bdL_ok) (show 4 ≤ 12 by decide) (by decide) rfl rfl (by decide +kernel) (by decide +kernel) (by decide +kernel) (by decide +kernel) (by decide +kernel) e_bdval
 rwa [if_neg (by decide +kernel)] at h
theorem e_bdFv : Pure PP 12 [.ag bdF.v] (ni 5) := e_pv_rng (id := 1000) (home := 0) (P := bdR) (M := [0, 0, 0, 0]) (Wn := [false, false, false, false]) (a := ofR 0) (b := ofR (Rat.divInt 1 1)) (c := ofR (Rat.divInt 1 1)) (d := ofR (Rat.divInt 100 1)) (e := ofR (Rat.divInt 1 2)) (by decide) (by decide) (by decide)
theorem e_bdMv : Pure PP 12 [.ag bdM.v] (ni 1) := e_pv_len (id := 7) (home := 0) (P := bdR) (M := [0, 0, 0]) (Wn := [false, false, false, false]) (a := ofR 0) (b := ofR (Rat.divInt 1 1)) (c := ofR (Rat.divInt 1 1)) (d := ofR (Rat.divInt 100 1)) (e := ofR (Rat.divInt 1 2)) (by decide) (by decide) (by decide) (by decide)
def plS : Vc × (Rat × Rat) := (Ct.stillV, (0, 0))
def plT : Vc × (Rat × Rat) := ((0, Rat.divInt 1 1), (Rat.divInt 1 1, Rat.divInt 0 1))
theorem b8_ (x y : Int) (h : I.Bd 8 x ∧ I.Bd 8 y ∧ y ≠ 0) : Bq 100 (Rat.divInt x y) := Bq.mono (j := 8) (Bq.divInt h.1 h.2.1 h.2.2) (by omega)
theorem goodS : bd.Good plS 100 := ⟨bd_ok, fun a ha => (bd_bv a ha).mono (by omega), ⟨b8_ 1 1 (by unfold I.Bd; decide), Bq.zero (by omega)⟩, ⟨Bq.zero (by omega), Bq.zero (by omega)⟩, by decide, by omega⟩
theorem goodT : bd.Good plT 100 := ⟨bd_ok, fun a ha => (bd_bv a ha).mono (by omega), ⟨Bq.zero (by omega), b8_ 1 1 (by unfold I.Bd; decide)⟩, ⟨b8_ 1 1 (by unfold I.Bd; decide), b8_ 0 1 (by unfold I.Bd; decide)⟩, by decide, by omega⟩
theorem cenS : Ct.cenV bd plS = (Rat.divInt 2 1, Rat.divInt 3 2) := by decide +kernel
theorem cenT : Ct.cenV bd plT = (-(Rat.divInt 1 2), Rat.divInt 2 1) := by decide +kernel
theorem dPlS : dPl plS = dV Ct.stillV ++ (Ct.z4_ ++ Ct.z4_) := by
 show dV Ct.stillV ++ dV (0, 0) = _
 rw [Ct.dV_00]
theorem dPlT : dPl plT = (Ct.z4_ ++ dR (Rat.divInt 1 1)) ++ dV (Rat.divInt 1 1, Rat.divInt 0 1) := by
 show (dR 0 ++ dR (Rat.divInt 1 1)) ++ _ = _
 rw [dR_0]
 rfl
theorem bd_small : SmP bd.rim := by unfold SmP; decide
theorem e_lives : Pure PP 14 [] (bo true) := by
 have hv : bd.v = [ni 7, ni 0, .sl (Ct.ptR bdR), .sl (Ct.wnR [false, false, false, false]), zl [0, 0, 0, 0]] ++ (dR 0 ++ (dR (Rat.divInt 1 1) ++ (dR (Rat.divInt 1 1) ++ (dR (Rat.divInt 100 1) ++ dR (Rat.divInt 1 2))))) := rfl
 have hL : bdL.v = [ni 7, ni 0, .sl (Ct.ptR bdR), .sl (Ct.wnR [false, false, false, false]), zl [0, 0, 0, 0]] ++ (dR 0 ++ (dR (Rat.divInt 2 1) ++ (dR (Rat.divInt 1 1) ++ (dR (Rat.divInt 100 1) ++ dR (Rat.divInt 1 2))))) := rfl
 have hF : bdF.v = [ni 1000, ni 0, .sl (Ct.ptR bdR), .sl (Ct.wnR [false, false, false, false]), zl [0, 0, 0, 0]] ++ (dR 0 ++ (dR (Rat.divInt 1 1) ++ (dR (Rat.divInt 1 1) ++ (dR (Rat.divInt 100 1) ++ dR (Rat.divInt 1 2))))) := rfl
 have hM : bdM.v = [ni 7, ni 0, .sl (Ct.ptR bdR), .sl (Ct.wnR [false, false, false, false]), zl [0, 0, 0]] ++ (dR 0 ++ (dR (Rat.divInt 1 1) ++ (dR (Rat.divInt 1 1) ++ (dR (Rat.divInt 100 1) ++ dR (Rat.divInt 1 2))))) := rfl
 have eb := e_board
 have v1 := e_bdv
 have v2 := e_bdLv
 have v3 := e_bdMv
 have v4 := e_bdFv
 have z : ∀ x : Int, -1000 ≤ x ∧ x ≤ 1000 → W.Is64 x := fun x h => ⟨by omega, by omega⟩
 have q := fun (x y : Int) (hx : -1000 ≤ x ∧ x ≤ 1000) (hy : -1000 ≤ y ∧ y ≤ 1000) => e_of4 (z x hx) (z y hy)
 have o := fun (x y : Int) (hx : -1000 ≤ x ∧ x ≤ 1000) (hy : -1000 ≤ y ∧ y ≤ 1000) => e_vof (z x hx) (z y hy)
 have ce := e_pcells (pl := plS) (b := 8) (j := 100) bd_ok bd_bv (show 3 ≤ 4 by decide) (show 4 ≤ 900 by decide) e_bdval goodS.t goodS.a (by omega)
 have hcl : (rowsL ((cutT bd.rimV).map fun K => K.map (vput plS))).length = 2 := by
  have : (rowsL ((cutT bd.rimV).map fun K => K.map (vput plS))).length = _ := List.length_map ..
  rw [this, List.length_map, bd_len]
 have cr := (Ct.e_rim bd_ok).ro
 have hrl : (bd.rimV.map dV).length = 4 := rfl
 have n1 := Ct.e_pcen goodS
 have n2 := Ct.e_pcen goodT
 rw [cenS] at n1
 rw [cenT] at n2
 have s1 := same_v (Rat.divInt 2 1, Rat.divInt 3 2)
 have s2 := same_v (-(Rat.divInt 1 2), Rat.divInt 2 1)
 have en := e_penc bd_en
 have de := e_pdec (t := []) bd_en e_bdv (by decide)
 rw [List.append_nil] at de
 have g1 := e_edgeV (p := bd) (k := 1) (by decide) (by decide) bd_small (z 1 (by omega))
 have g2 := e_edgeV (p := bd) (k := -1) (by decide) (by decide) bd_small (z (-1) (by omega))
 have g3 := e_square (p := bd) (k := 0) (by decide) (by decide) bd_small (z 0 (by omega))
 rw [show edV bd.rim (edK 1 bd.rim.length) = (0, 3) by decide] at g1
 rw [show edV bd.rim (edK (-1) bd.rim.length) = (0, -3) by decide] at g2
 rw [show sqV bd.rim (edK 0 bd.rim.length) = 16 by decide] at g3
 have s3 := same_v (Rat.divInt 0 1, Rat.divInt 3 1)
 have s4 := same_v (Rat.divInt 0 1, Rat.divInt (-3) 1)
 have sm := e_same1 bd
 have hel : (byL (encP bd)).length = (encP bd).length := byL_len _
 rw [dPlS] at ce n1
 rw [dPlT] at n2
 rw [hv] at *
 rw [hL] at v2
 rw [hM] at v3
 rw [hF] at v4
 have q21 := q 2 1 (by omega) (by omega)
 have q12 := q 1 2 (by omega) (by omega)
 have q11 := q 1 1 (by omega) (by omega)
 have q32 := q 3 2 (by omega) (by omega)
 have o10 := o 1 0 (by omega) (by omega)
 have o03 := o 0 3 (by omega) (by omega)
 have o04 := o 0 (-3) (by omega) (by omega)
 have ng := e_neg4 (Rat.divInt 1 2)
 clear q o z
 change Pure PP _ _ (.ag (dV (Rat.divInt 0 1, Rat.divInt 3 1))) at g1
 change Pure PP _ _ (.ag (dV (Rat.divInt 0 1, Rat.divInt (-3) 1))) at g2
 change Pure PP _ _ (.v (.sl (bd.rimV.map dV))) at cr
 simp only [dR_0] at *
 generalize rowsL ((cutT bd.rimV).map fun K => K.map (vput plS)) = RW at *
 generalize bd.rimV.map dV = RM at *
 generalize encP bd = EB at *
 generalize Rat.divInt 1 1 = r11 at *
 generalize Rat.divInt 2 1 = r21 at *
 generalize Rat.divInt 3 2 = r32 at *
 generalize Rat.divInt 0 1 = r01 at *
 generalize Rat.divInt 3 1 = r31 at *
 generalize Rat.divInt (-3) 1 = rm31 at *
 generalize Rat.divInt 100 1 = r100 at *
 generalize Rat.divInt 1 2 = r12 at *
 exact tr [cl eb, cl eb, cl q21, cl eb, .slc (zs [0, 0, 0, 0]) 0 3 1 (zs [0, 0, 0]) rfl (by decide) (fun cs h => (zs_z1 _ cs h).1), cl eb, cl v1, nf, cl v2, nf, cl v3, nf, cl v4, nf, cl q12, cl Ct.e_still5, cl q11, cl o10,
  cl ce, .eqv 50 (ni (RW.length : Int)) (ni 2) (by rw [hcl]; rfl), nf, cl cr, .eqv 55 (ni (RM.length : Int)) (ni 4) (by rw [hrl]; rfl), nf, cl n1, cl q21, cl q32, cl s1, nf, cl n2, cl ng, cl q21, cl s2, nf,
  cl en, cl de, cl g1, cl o03, cl s3, yt, cl g2, cl o04, cl s4, yt, cl g3, yt, yt, cl en, .eqv 109 (ni ((byL EB).length : Int)) (ni (EB.length : Int)) (by rw [hel]), ye (t := (EB.length : Int) == (EB.length : Int)) (by simp), cl sm] (by kernel_rfl)
end Go.Proofs.YtlgnagnmoleeiaaGreat.E.Pc
namespace Go.Proofs.YtlgnagnmoleeiaaGreat.E.Pc
open Go.RowKit
set_option linter.unusedVariables false
set_option linter.unusedSimpArgs false
section
variable {x : Int}
end
end Go.Proofs.YtlgnagnmoleeiaaGreat.E.Pc
namespace Go.Proofs.YtlgnagnmoleeiaaGreat.E.Pc
open Go.RowKit
set_option linter.unusedVariables false
set_option linter.unusedSimpArgs false
section
variable {x k : Int} {n m : Nat} {p : Ct.Pi}
theorem qv_bv {c : Int × Int} (h : (-100000 ≤ c.1 ∧ c.1 ≤ 100000) ∧ (-100000 ≤ c.2 ∧ c.2 ≤ 100000)) : Bv 20 (Ct.qv c) := by
 have key : ∀ x : Int, -100000 ≤ x ∧ x ≤ 100000 → I.Bd 20 x := fun x hx => by
  have h5 : x.natAbs ≤ 100000 := by omega
  show x.natAbs < 2 ^ 20
  omega
 exact ⟨Bq.divInt (key _ h.1) (by unfold I.Bd; decide) (by omega), Bq.divInt (key _ h.2) (by unfold I.Bd; decide) (by omega)⟩
end
end Go.Proofs.YtlgnagnmoleeiaaGreat.E.Pc
namespace Go.Proofs.YtlgnagnmoleeiaaGreat.E.Pc
open Go.RowKit
set_option linter.unusedVariables false
set_option linter.unusedSimpArgs false
section
variable {x : Int}
end
end Go.Proofs.YtlgnagnmoleeiaaGreat.E.Pc
namespace Go.Proofs.YtlgnagnmoleeiaaGreat.E.Pc
open Go.RowKit
set_option linter.unusedVariables false
set_option linter.unusedSimpArgs false
section
variable {x k : Int} {p : Ct.Pi}
end
end Go.Proofs.YtlgnagnmoleeiaaGreat.E.Pc
namespace Go.Proofs.YtlgnagnmoleeiaaGreat.E.Pc
open Go.RowKit
set_option linter.unusedVariables false
set_option linter.unusedSimpArgs false
end Go.Proofs.YtlgnagnmoleeiaaGreat.E.Pc
namespace Go.Proofs.YtlgnagnmoleeiaaGreat.E.Pc
open Go.RowKit
set_option linter.unusedVariables false
set_option linter.unusedSimpArgs false
section
variable {l : List Int} {k : Int} {P : List (Int × Int)} {p : Ct.Pi} {i j n m q : Nat}
theorem bq8 {x y : Int} (hx : -200 ≤ x ∧ x ≤ 200) (hy : 1 ≤ y ∧ y ≤ 200) : Bq 8 (Rat.divInt x y) := Bq.divInt (k := 8) (by unfold I.Bd; omega) (by unfold I.Bd; omega) (by omega)
theorem p12_bits (l : List Int) : Bq 8 (Ct.p12 l).tol ∧ Bq 8 (Ct.p12 l).light ∧ Bq 20 (Ct.p12 l).heavy ∧ Bq 8 (Ct.p12 l).str ∧ Bq 8 (Ct.p12 l).rough := by
 unfold Ct.p12
 generalize Ct.rimP l = P at *
 have a10 := atz_in l 10 2
 have a11 := atz_in l 11 5
 have a12 := atz_in l 12 3
 have a13 := atz_in l 13 99
 have a14 := atz_in l 14 4
 have bl : Bq 8 (Ct.pLight l) := bq8 (by omega) (by omega)
 exact ⟨bq8 (x := atz l 10 2) (y := 4) (by omega) (by omega), bl, (bl.add (bq8 (x := atz l 12 3) (y := 2) (by omega) (by omega))).mono (by omega), bq8 (x := 20 + atz l 13 99) (y := 1) (by omega) (by omega), bq8 (x := atz l 14 4) (y := 4) (by omega) (by omega)⟩
theorem p12_sm (l : List Int) : ∀ c ∈ (Ct.p12 l).rim, (-12 ≤ c.1 ∧ c.1 ≤ 12) ∧ (-12 ≤ c.2 ∧ c.2 ≤ 12) := fun c hc => by
 rw [Ct.p12_rim] at hc
 have := (Ct.rimP_in l).1 c hc
 unfold Ct.Sm_ at this
 omega
theorem p12_len (l : List Int) : 3 ≤ (Ct.p12 l).rim.length ∧ (Ct.p12 l).rim.length ≤ 5 := by
 rw [Ct.p12_rim]
 exact (Ct.rimP_in l).2
theorem p12_ok (l : List Int) : (Ct.p12 l).Ok 100 := by
 obtain ⟨b1, b2, b3, b4, b5⟩ := p12_bits l
 have hl := p12_len l
 exact ⟨fun x hx => by
  have := p12_sm l x hx
  exact ⟨⟨by omega, by omega⟩, ⟨by omega, by omega⟩⟩, by omega, b1.mono (by omega), b2.mono (by omega), b3.mono (by omega), b4.mono (by omega), b5.mono (by omega)⟩
theorem tri_val : ([0, 1, 2].all fun (a : Int) => [0, 1, 2, 3].all fun (b : Int) => Pg.valid (([(0, 0), (4 + a, 0), (b, 3)] : List (Int × Int)).map Ct.qv)) = true := by decide +kernel
theorem p12_val (l : List Int) : Pg.valid (Ct.p12 l).rimV = true := by
 show Pg.valid ((Ct.p12 l).rim.map Ct.qv) = true
 rw [Ct.p12_rim]
 unfold Ct.rimP
 split
 · rename_i h
   rwa [valid_eq] at h
 · have h0 := atz_in l 0 2
   have h1 := atz_in l 1 3
   have := tri_val
   rw [List.all_eq_true] at this
   have := this (atz l 0 2) (by simp; omega)
   rw [List.all_eq_true] at this
   exact this (atz l 1 3) (by simp; omega)
end
end Go.Proofs.YtlgnagnmoleeiaaGreat.E.Pc
namespace Go.Proofs.YtlgnagnmoleeiaaGreat.E.Pc
open Go.RowKit
set_option linter.unusedVariables false
set_option linter.unusedSimpArgs false
section
variable {z : Int} {p : Pr} {r : Rat} {pc : Ct.Pi} {v : Bool}
def negB (r : Rat) : Bool := decide (sgnZ r.num < 0)
def okA (p : Ct.Pi) (v : Bool) : Bool := (!negB p.tol && (!negB p.light && (!negB p.heavy && (!negB p.str && !negB p.rough)))) && fineB p v
def okR (p : Ct.Pi) (v : Bool) : Bool := v && ((btw p.tol 4 && (btw p.rough 4 && (btw p.light 1000 && (btw p.heavy 1000 && true)))) && (!(sgnZ p.light.num == 0) && (!(decide (cmpQ p.light p.heavy > 0)) && !(decide (sgnZ p.str.num ≤ 0)))))
theorem cmp_le0 (r t : Rat) : cmpQ r t ≤ 0 ↔ r ≤ t := by
 unfold cmpQ
 split
 · rename_i h; constructor <;> intro _ <;> first | omega | grind
 · split
   · rename_i h1 h2; constructor <;> intro h3 <;> first | omega | grind
   · rename_i h1 h2; constructor <;> intro h3 <;> first | omega | grind
theorem ok_eq (p : Ct.Pi) (v : Bool) : okA p v = okR p v := by
 have h1 := cmp_le0 p.light p.heavy
 have h2 := cmp_le0 p.heavy (Rat.divInt 1000 1)
 have h3 := cmp_le0 p.light (Rat.divInt 1000 1)
 have key : cmpQ p.light p.heavy ≤ 0 → cmpQ p.heavy (Rat.divInt 1000 1) ≤ 0 → cmpQ p.light (Rat.divInt 1000 1) ≤ 0 := fun a b => h3.2 (Rat.le_trans (h1.1 a) (h2.1 b))
 clear h1 h2 h3
 unfold okA okR fineB smB hvB btw negB
 generalize cmpQ p.light p.heavy = c1 at *
 generalize cmpQ p.heavy (Rat.divInt 1000 1) = c2 at *
 generalize cmpQ p.light (Rat.divInt 1000 1) = c3 at *
 generalize cmpQ p.tol (Rat.divInt 4 1) = c4 at *
 generalize cmpQ p.rough (Rat.divInt 4 1) = c5 at *
 generalize sgnZ p.tol.num = s1
 generalize sgnZ p.light.num = s2
 generalize sgnZ p.heavy.num = s3
 generalize sgnZ p.str.num = s4
 generalize sgnZ p.rough.num = s5
 rw [Bool.eq_iff_iff]
 simp only [Bool.and_eq_true, Bool.not_eq_true', decide_eq_true_eq, decide_eq_false_iff_not, beq_eq_false_iff_ne, ne_eq]
 cases v
 · simp
 · simp only [and_true, true_and]
   constructor
   · rintro ⟨⟨a1, a2, a3, a4, a5⟩, ⟨b1, b2⟩, ⟨d1, d2, d3⟩, d4⟩
     have := key d2 d3
     refine ⟨⟨⟨?_, ?_⟩, ⟨?_, ?_⟩, ⟨?_, ?_⟩, ?_, ?_⟩, ?_, ?_, ?_⟩ <;> omega
   · rintro ⟨⟨⟨a1, a2⟩, ⟨a3, a4⟩, ⟨a5, a6⟩, a7, a8⟩, b1, b2, b3⟩
     refine ⟨⟨?_, ?_, ?_, ?_, ?_⟩, ⟨?_, ?_⟩, ⟨?_, ?_, ?_⟩, ?_⟩ <;> omega
/-- The program, canonical numbers. -/
theorem e_progA (pk : Pk pc) (hn : pc.rim.length ≤ 12) (hr : rngB pc.id pc.home pc.rim pc.marks = true) (hw : pc.worn.length = pc.rim.length) (hm : pc.marks.length = pc.rim.length) (cv : Pure PP 67 [dL pc.rimV] (bo v)) : Pure PP 12 [.ag pc.v] (ni (if okA pc v = true then 0 else 1)) := by
 unfold okA
 cases h0 : negB pc.tol with
 | true =>
  rw [if_neg (by simp), ← any_v]
  refine pv_head hn hr hw hm ?_
  exact pv_neg0 (bq1 pk.tol) (sg1 _) h0
 | false =>
 cases h1 : negB pc.light with
 | true =>
  rw [if_neg (by simp), ← any_v]
  refine pv_head hn hr hw hm ?_
  refine pv_ok0 (bq1 pk.tol) (sg1 _) h0 ?_
  exact pv_neg1 (bq1 pk.light) (sg1 _) h1
 | false =>
 cases h2 : negB pc.heavy with
 | true =>
  rw [if_neg (by simp), ← any_v]
  refine pv_head hn hr hw hm ?_
  refine pv_ok0 (bq1 pk.tol) (sg1 _) h0 ?_
  refine pv_ok1 (bq1 pk.light) (sg1 _) h1 ?_
  exact pv_neg2 (bq1 pk.heavy) (sg1 _) h2
 | false =>
 cases h3 : negB pc.str with
 | true =>
  rw [if_neg (by simp), ← any_v]
  refine pv_head hn hr hw hm ?_
  refine pv_ok0 (bq1 pk.tol) (sg1 _) h0 ?_
  refine pv_ok1 (bq1 pk.light) (sg1 _) h1 ?_
  refine pv_ok2 (bq1 pk.heavy) (sg1 _) h2 ?_
  exact pv_neg3 (bq1 pk.str) (sg1 _) h3
 | false =>
 cases h4 : negB pc.rough with
 | true =>
  rw [if_neg (by simp), ← any_v]
  refine pv_head hn hr hw hm ?_
  refine pv_ok0 (bq1 pk.tol) (sg1 _) h0 ?_
  refine pv_ok1 (bq1 pk.light) (sg1 _) h1 ?_
  refine pv_ok2 (bq1 pk.heavy) (sg1 _) h2 ?_
  refine pv_ok3 (bq1 pk.str) (sg1 _) h3 ?_
  exact pv_neg4 (bq1 pk.rough) (sg1 _) h4
 | false =>
 have := e_pvalid pk hn hr hw hm h0 h1 h2 h3 h4 cv
 simpa using this
/-- The program, where a number is none. -/
theorem e_progB (ok : p.Ok) (hn : p.rim.length ≤ 12) (hr : rngB p.id p.home p.rim p.marks = true) (hw : p.worn.length = p.rim.length) (hm : p.marks.length = p.rim.length) (hbad : ¬ (rok p.a ∧ rok p.b ∧ rok p.c ∧ rok p.d ∧ rok p.e)) : Pure PP 12 [.ag p.v] (ni 1) := by
 obtain ⟨id, home, rim, worn, marks, a, b, c, d, e⟩ := p
 have ka := ok.a; have kb := ok.b; have kc := ok.c; have kd := ok.d; have ke := ok.e
 simp only at ka kb kc kd ke hbad hn hr hw hm
 refine pv_head hn hr hw hm ?_
 by_cases r0 : rok a
 case neg => exact pv_no0 (e_rvalid_no r0 ka (by omega))
 obtain ⟨q0, rfl⟩ := r0
 have z0 := bq1 (ka.bq (by omega))
 by_cases g0 : decide (sgnZ q0.num < 0) = true
 case pos => exact pv_neg0 z0 (sg1 _) g0
 refine pv_ok0 z0 (sg1 _) (by simpa using g0) ?_
 by_cases r1 : rok b
 case neg => exact pv_no1 (e_rvalid_no r1 kb (by omega))
 obtain ⟨q1, rfl⟩ := r1
 have z1 := bq1 (kb.bq (by omega))
 by_cases g1 : decide (sgnZ q1.num < 0) = true
 case pos => exact pv_neg1 z1 (sg1 _) g1
 refine pv_ok1 z1 (sg1 _) (by simpa using g1) ?_
 by_cases r2 : rok c
 case neg => exact pv_no2 (e_rvalid_no r2 kc (by omega))
 obtain ⟨q2, rfl⟩ := r2
 have z2 := bq1 (kc.bq (by omega))
 by_cases g2 : decide (sgnZ q2.num < 0) = true
 case pos => exact pv_neg2 z2 (sg1 _) g2
 refine pv_ok2 z2 (sg1 _) (by simpa using g2) ?_
 by_cases r3 : rok d
 case neg => exact pv_no3 (e_rvalid_no r3 kd (by omega))
 obtain ⟨q3, rfl⟩ := r3
 have z3 := bq1 (kd.bq (by omega))
 by_cases g3 : decide (sgnZ q3.num < 0) = true
 case pos => exact pv_neg3 z3 (sg1 _) g3
 refine pv_ok3 z3 (sg1 _) (by simpa using g3) ?_
 by_cases r4 : rok e
 case neg => exact pv_no4 (e_rvalid_no r4 ke (by omega))
 obtain ⟨q4, rfl⟩ := r4
 have z4 := bq1 (ke.bq (by omega))
 by_cases g4 : decide (sgnZ q4.num < 0) = true
 case pos => exact pv_neg4 z4 (sg1 _) g4
 refine pv_ok4 z4 (sg1 _) (by simpa using g4) ?_
 exact absurd ⟨⟨q0, rfl⟩, ⟨q1, rfl⟩, ⟨q2, rfl⟩, ⟨q3, rfl⟩, ⟨q4, rfl⟩⟩ hbad
theorem rim_bv (h : rngB p.id p.home p.rim p.marks = true) : ∀ v ∈ p.rim.map Ct.qv, Bv 20 v := fun v hv => by
 obtain ⟨c, hc, rfl⟩ := List.mem_map.1 hv
 unfold rngB at h
 rw [Bool.and_eq_true, List.all_eq_true] at h
 have := h.1 c hc
 unfold ptW inW at this
 simp only [Bool.and_eq_true, decide_eq_true_eq] at this
 exact qv_bv (by omega)
/-- Valid of the program and of the reference. -/
theorem e_vBoth (ok : p.Ok) : ∃ z : Int, Pure PP 12 [.ag p.v] (ni z) ∧ Pure PP 13 [.ag p.v] (ni z) := by
 have h1 := ok.nr; have h2 := ok.nm; have h3 := ok.nw
 cases hr : rngB p.id p.home p.rim p.marks with
 | false => exact ⟨5, e_pv_rng (by omega) (by omega) hr, v12_0 (by omega) (by omega) (fun _ => rfl) (fun h => by rw [hr] at h; cases h)⟩
 | true =>
 by_cases hl : p.rim.length ≤ 12 ∧ p.worn.length = p.rim.length ∧ p.marks.length = p.rim.length
 case neg => exact ⟨1, e_pv_len (by omega) (by omega) hr hl, v12_0 (by omega) (by omega) (fun h => by rw [hr] at h; cases h) fun _ => v12_len hl⟩
 obtain ⟨h12, hw, hm⟩ := hl
 have hb := rim_bv hr
 have hvl : (p.rim.map Ct.qv).length = p.rim.length := List.length_map ..
 have cp := e_valid hb (by omega) (by omega)
 have c6 := e_valid6 hb (by omega) (by omega)
 rw [valid_eq] at c6
 by_cases hg : rok p.a ∧ rok p.b ∧ rok p.c ∧ rok p.d ∧ rok p.e
 · obtain ⟨⟨r1, e1⟩, ⟨r2, e2⟩, ⟨r3, e3⟩, ⟨r4, e4⟩, ⟨r5, e5⟩⟩ := hg
   obtain ⟨id, home, rim, worn, marks, a, b, c, d, e⟩ := p
   simp only at e1 e2 e3 e4 e5
   subst e1; subst e2; subst e3; subst e4; subst e5
   have b1 : Bq 1000 r1 := ok.a.bq (by omega)
   have b2 : Bq 1000 r2 := ok.b.bq (by omega)
   have b3 : Bq 1000 r3 := ok.c.bq (by omega)
   have b4' : Bq 1000 r4 := ok.d.bq (by omega)
   have b5 : Bq 1000 r5 := ok.e.bq (by omega)
   have pk : Pk ⟨id, home, rim, worn, marks, r1, r2, r3, r4, r5⟩ := ⟨ok.r, by show rim.length ≤ _; exact Nat.le_trans h1 (by omega), b1, b2, b3, b4', b5⟩
   refine ⟨_, e_progA pk h12 hr hw hm cp, ?_⟩
   rw [ok_eq]
   refine v12_0 (p := prOf ⟨id, home, rim, worn, marks, r1, r2, r3, r4, r5⟩) (by exact Nat.le_trans h1 (by omega)) (by exact Nat.le_trans h2 (by omega)) (fun h => by have h : rngB id home rim marks = false := h; rw [hr] at h; cases h) fun _ => ?_
   refine v12_rim ok.r h12 hw hm c6 (fun h => ?_) fun hv => ?_
   · unfold okR
     have h : Pg.valid (rim.map Ct.qv) = false := h
     rw [h]; rfl
   refine v12_num (e_between b1 (by omega)) (e_between b5 (by omega)) (e_between b2 (by omega)) (e_between b3 (by omega)) (e_valid4 b4' (by omega)) (fun h => ?_) fun h => ?_
   · unfold okR
     show (if (_ && ((btw r1 4 && (btw r5 4 && (btw r2 1000 && (btw r3 1000 && true)))) && _)) = true then (0 : Int) else 1) = 1
     rw [h, Bool.false_and, Bool.and_false]; rfl
   · have := v12_last pk
     unfold okR
     show GV12 (if (Pg.valid (rim.map Ct.qv) && ((btw r1 4 && (btw r5 4 && (btw r2 1000 && (btw r3 1000 && true)))) && _)) = true then (0 : Int) else 1) _ _
     rw [h, hv, Bool.true_and, Bool.true_and]
     exact this
 · refine ⟨1, e_progB ok h12 hr hw hm hg, ?_⟩
   obtain ⟨t1, k1, i1⟩ := e_between_ex (x := 4) ok.a (by omega)
   obtain ⟨t2, k2, i2⟩ := e_between_ex (x := 4) ok.e (by omega)
   obtain ⟨t3, k3, i3⟩ := e_between_ex (x := 1000) ok.b (by omega)
   obtain ⟨t4, k4, i4⟩ := e_between_ex (x := 1000) ok.c (by omega)
   obtain ⟨t5, k5, i5⟩ := e_valid4_ex ok.d
   refine v12_0 (by omega) (by omega) (fun h => by rw [hr] at h; cases h) fun _ => ?_
   refine v12_rim ok.r h12 hw hm c6 (fun _ => rfl) fun hv => ?_
   refine v12_num k1 k2 k3 k4 k5 (fun _ => rfl) fun h => ?_
   simp only [Bool.and_eq_true] at h
   obtain ⟨q1, q2, q3, q4, q5⟩ := h
   refine absurd ⟨?_, ?_, ?_, ?_, ?_⟩ hg
   · exact Classical.byContradiction fun g => by rw [i1 g] at q1; cases q1
   · exact Classical.byContradiction fun g => by rw [i3 g] at q3; cases q3
   · exact Classical.byContradiction fun g => by rw [i4 g] at q4; cases q4
   · exact Classical.byContradiction fun g => by rw [i5 g] at q5; cases q5
   · exact Classical.byContradiction fun g => by rw [i2 g] at q2; cases q2
end
end Go.Proofs.YtlgnagnmoleeiaaGreat.E.Pc
namespace Go.Proofs.YtlgnagnmoleeiaaGreat.E.Pc
open Go.RowKit
set_option linter.unusedVariables false
set_option linter.unusedSimpArgs false
noncomputable abbrev fsp : Func := fnOf PP 10
noncomputable abbrev GSp (q : Pr) (td : List Item) (σ : St) : Prop := Gd PP 10 (.v (.ag q.v)) td σ
def nums (p : Pr) : List V := cN p.a ++ (cN p.b ++ (cN p.c ++ (cN p.d ++ cN p.e)))
def z25 : List V := [ni 0, ni 0, .nl, .nl, .nl] ++ (Ct.z4n ++ (Ct.z4n ++ (Ct.z4n ++ (Ct.z4n ++ Ct.z4n))))
noncomputable def spS (p : Pr) (how by_ : Int) (x y w : V) (m : List (Nat × V)) (l : List HO) : St := at_ fsp ([(1, ni how), (2, ni by_), (3, .lp 0 0), (6, .lp 1 0), (7, .lp 2 0)] ++ m) ([.bx 30 p.v, .bx 30 z25, .bx 30 ([ni p.id, ni p.home, x, y, w] ++ nums p)] ++ l)
section
variable {p q : Pr} {how by_ : Int}
theorem pt_z (P : List (Int × Int)) : ∀ cs ∈ Ct.ptR P, cs.length = 2 ∧ cs.all one = true := fun cs h => by
 obtain ⟨p, _, rfl⟩ := List.mem_map.1 h
 exact ⟨rfl, rfl⟩
theorem wn_z (P : List Bool) : ∀ cs ∈ Ct.wnR P, cs.length = 1 ∧ cs.all one = true := fun cs h => by
 obtain ⟨p, _, rfl⟩ := List.mem_map.1 h
 exact ⟨rfl, rfl⟩
noncomputable def sp5 (p : Pr) (how by_ : Int) : St := spS p how by_ (.ow 3) (.ow 4) (.ow 5) [(19, .ow 4)] [.rw 93 2 (Ct.ptR p.rim), .rw 4 1 (Ct.wnR p.worn), .rw 3 1 (zs p.marks)]
theorem sp_1 (ok : p.Ok) (next : GSp q (rg fsp 3) (spS p how by_ (.ow 3) (.sl (Ct.wnR p.worn)) (zl p.marks) [] [.rw 93 2 (Ct.ptR p.rim)])) : Pure PP 10 [.ag p.v, ni how, ni by_] (.ag q.v) := by
 have h1 := ok.nr
 have hl : (Ct.ptR p.rim).length = p.rim.length := List.length_map ..
 have hz := pt_z p.rim
 unfold spS nums Pr.v anyP at next
 unfold Pr.v anyP
 by_cases g : 0 < p.rim.length
 · generalize Ct.ptR p.rim = PR at *
   generalize Ct.wnR p.worn = WR at *
   exact pf (by kernel_rfl) (.to mo_ [.mv 3 4] [1, 2, 3, 6, 7] [0, 1, 2, 3] 4 [.aps [] PR PR 1000 2 rfl (by omega) (by omega) hz] next (by kernel_rfl))
 · have he : p.rim = [] := List.length_eq_zero_iff.1 (by omega)
   rw [he] at next ⊢
   generalize Ct.wnR p.worn = WR at *
   exact pf (by kernel_rfl) (.to mo_ [] [1, 2, 3, 6, 7] [0, 1, 2, 3] 4 [.ape [] rfl] next (by kernel_rfl))
theorem sp_2 (ok : p.Ok) (next : GSp q (rg fsp 4) (spS p how by_ (.ow 3) (.ow 4) (zl p.marks) [(19, .ow 4)] [.rw 93 2 (Ct.ptR p.rim), .rw 4 1 (Ct.wnR p.worn)])) : GSp q (rg fsp 3) (spS p how by_ (.ow 3) (.sl (Ct.wnR p.worn)) (zl p.marks) [] [.rw 93 2 (Ct.ptR p.rim)]) := by
 have h1 := ok.nw
 have hl : (Ct.wnR p.worn).length = p.worn.length := List.length_map ..
 have hz := wn_z p.worn
 unfold spS nums Pr.v anyP at next
 unfold spS nums Pr.v anyP
 by_cases g : 0 < p.worn.length
 · generalize Ct.ptR p.rim = PR at *
   generalize Ct.wnR p.worn = WR at *
   exact .to mo_ [.mv 4 5] [1, 2, 3, 6, 7, 19] [0, 1, 2, 3, 4] 5 [.aps [] WR WR 1000 1 rfl (by omega) (by omega) hz] next (by kernel_rfl)
 · have he : p.worn = [] := List.length_eq_zero_iff.1 (by omega)
   rw [he] at next ⊢
   generalize Ct.ptR p.rim = PR at *
   exact .to mo_ [] [1, 2, 3, 6, 7, 19] [0, 1, 2, 3, 4] 5 [.ape [] rfl] next (by kernel_rfl)
theorem sp_3 (ok : p.Ok) (next : GSp q (rg fsp 5) (sp5 p how by_)) : GSp q (rg fsp 4) (spS p how by_ (.ow 3) (.ow 4) (zl p.marks) [(19, .ow 4)] [.rw 93 2 (Ct.ptR p.rim), .rw 4 1 (Ct.wnR p.worn)]) := by
 have h1 := ok.nm
 have hl := zs_len p.marks
 have hz := zs_z1 p.marks
 unfold sp5 spS nums Pr.v anyP at next
 unfold spS nums Pr.v anyP
 change GSp q _ (at_ fsp _ [_, _, _, _, _, .rw _ 1 (zs p.marks)]) at next
 change GSp q _ (at_ fsp _ ([.bx _ ([_, _, _, _, .sl (zs p.marks)] ++ _), _, .bx _ ([_, _, _, _, .sl (zs p.marks)] ++ _)] ++ _))
 by_cases g : 0 < p.marks.length
 · generalize Ct.ptR p.rim = PR at *
   generalize Ct.wnR p.worn = WR at *
   generalize zs p.marks = ZM at *
   exact .to mo_ [.mv 5 6] [1, 2, 3, 6, 7, 19] [0, 1, 2, 3, 4, 5] 6 [.aps [] ZM ZM 1000 1 rfl (by omega) (by omega) hz] next (by kernel_rfl)
 · have he : p.marks = [] := List.length_eq_zero_iff.1 (by omega)
   rw [he] at next ⊢
   generalize Ct.ptR p.rim = PR at *
   generalize Ct.wnR p.worn = WR at *
   exact .to mo_ [] [1, 2, 3, 6, 7, 19] [0, 1, 2, 3, 4, 5] 6 [.ape [] rfl] next (by kernel_rfl)
theorem sp_0 (ok : p.Ok) (next : GSp q (rg fsp 5) (sp5 p how by_)) : Pure PP 10 [.ag p.v, ni how, ni by_] (.ag q.v) := sp_1 ok (sp_2 ok (sp_3 ok next))
end
end Go.Proofs.YtlgnagnmoleeiaaGreat.E.Pc
