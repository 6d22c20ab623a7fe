/-
 PIECE, plain: the codec of a valid piece.
-/
import Derived.Test.YtlgnagnmoleeiaaGreatEzM
import Derived.Test.YtlgnagnmoleeiaaGreatEoV
import Derived.Test.YtlgnagnmoleeiaaGreatEvR
import Derived.Test.YtlgnagnmoleeiaaGreatEwT
namespace Go.Proofs.YtlgnagnmoleeiaaGreat.E.Pc
open Go.RowKit
set_option linter.unusedVariables false
set_option linter.unusedSimpArgs false
def bdL : Ct.Pi := { bd with light := Rat.divInt 2 1 }
def bdF : Ct.Pi := { bd with id := 1000 }
def bdM : Ct.Pi := { bd with marks := [0, 0, 0] }
theorem bdL_ok : bdL.Ok 100 := { bd_ok with light := Bq.mono (j := 11) (Bq.divInt (by unfold I.Bd; decide) (by unfold I.Bd; decide) (by omega)) (by omega) }
theorem e_bdLv : Pure PP 12 [.ag bdL.v] (ni 1) := by
 have h := e_pvalid (p := bdL) (v := true) (pk_of bdL_ok) (show 4 ≤ 12 by decide) (by decide) rfl rfl (by decide +kernel) (by decide +kernel) (by decide +kernel) (by decide +kernel) (by decide +kernel) e_bdval
 rwa [if_neg (by decide +kernel)] at h
theorem e_bdFv : Pure PP 12 [.ag bdF.v] (ni 5) := e_pv_rng (id := 1000) (home := 0) (P := bdR) (M := [0, 0, 0, 0]) (Wn := [false, false, false, false]) (a := ofR 0) (b := ofR (Rat.divInt 1 1)) (c := ofR (Rat.divInt 1 1)) (d := ofR (Rat.divInt 100 1)) (e := ofR (Rat.divInt 1 2)) (by decide) (by decide) (by decide)
theorem e_bdMv : Pure PP 12 [.ag bdM.v] (ni 1) := e_pv_len (id := 7) (home := 0) (P := bdR) (M := [0, 0, 0]) (Wn := [false, false, false, false]) (a := ofR 0) (b := ofR (Rat.divInt 1 1)) (c := ofR (Rat.divInt 1 1)) (d := ofR (Rat.divInt 100 1)) (e := ofR (Rat.divInt 1 2)) (by decide) (by decide) (by decide) (by decide)
def plS : Vc × (Rat × Rat) := (Ct.stillV, (0, 0))
def plT : Vc × (Rat × Rat) := ((0, Rat.divInt 1 1), (Rat.divInt 1 1, Rat.divInt 0 1))
theorem b8_ (x y : Int) (h : I.Bd 8 x ∧ I.Bd 8 y ∧ y ≠ 0) : Bq 100 (Rat.divInt x y) := Bq.mono (j := 8) (Bq.divInt h.1 h.2.1 h.2.2) (by omega)
theorem goodS : bd.Good plS 100 := ⟨bd_ok, fun a ha => (bd_bv a ha).mono (by omega), ⟨b8_ 1 1 (by unfold I.Bd; decide), Bq.zero (by omega)⟩, ⟨Bq.zero (by omega), Bq.zero (by omega)⟩, by decide, by omega⟩
theorem goodT : bd.Good plT 100 := ⟨bd_ok, fun a ha => (bd_bv a ha).mono (by omega), ⟨Bq.zero (by omega), b8_ 1 1 (by unfold I.Bd; decide)⟩, ⟨b8_ 1 1 (by unfold I.Bd; decide), b8_ 0 1 (by unfold I.Bd; decide)⟩, by decide, by omega⟩
theorem cenS : Ct.cenV bd plS = (Rat.divInt 2 1, Rat.divInt 3 2) := by decide +kernel
theorem cenT : Ct.cenV bd plT = (-(Rat.divInt 1 2), Rat.divInt 2 1) := by decide +kernel
theorem dPlS : dPl plS = dV Ct.stillV ++ (Ct.z4_ ++ Ct.z4_) := by
 show dV Ct.stillV ++ dV (0, 0) = _
 rw [Ct.dV_00]
theorem dPlT : dPl plT = (Ct.z4_ ++ dR (Rat.divInt 1 1)) ++ dV (Rat.divInt 1 1, Rat.divInt 0 1) := by
 show (dR 0 ++ dR (Rat.divInt 1 1)) ++ _ = _
 rw [dR_0]
 rfl
theorem bd_small : SmP bd.rim := by unfold SmP; decide
theorem e_lives : Pure PP 14 [] (bo true) := by
 have hv : bd.v = [ni 7, ni 0, .sl (Ct.ptR bdR), .sl (Ct.wnR [false, false, false, false]), zl [0, 0, 0, 0]] ++ (dR 0 ++ (dR (Rat.divInt 1 1) ++ (dR (Rat.divInt 1 1) ++ (dR (Rat.divInt 100 1) ++ dR (Rat.divInt 1 2))))) := rfl
 have hL : bdL.v = [ni 7, ni 0, .sl (Ct.ptR bdR), .sl (Ct.wnR [false, false, false, false]), zl [0, 0, 0, 0]] ++ (dR 0 ++ (dR (Rat.divInt 2 1) ++ (dR (Rat.divInt 1 1) ++ (dR (Rat.divInt 100 1) ++ dR (Rat.divInt 1 2))))) := rfl
 have hF : bdF.v = [ni 1000, ni 0, .sl (Ct.ptR bdR), .sl (Ct.wnR [false, false, false, false]), zl [0, 0, 0, 0]] ++ (dR 0 ++ (dR (Rat.divInt 1 1) ++ (dR (Rat.divInt 1 1) ++ (dR (Rat.divInt 100 1) ++ dR (Rat.divInt 1 2))))) := rfl
 have hM : bdM.v = [ni 7, ni 0, .sl (Ct.ptR bdR), .sl (Ct.wnR [false, false, false, false]), zl [0, 0, 0]] ++ (dR 0 ++ (dR (Rat.divInt 1 1) ++ (dR (Rat.divInt 1 1) ++ (dR (Rat.divInt 100 1) ++ dR (Rat.divInt 1 2))))) := rfl
 have eb := e_board
 have v1 := e_bdv
 have v2 := e_bdLv
 have v3 := e_bdMv
 have v4 := e_bdFv
 have z : ∀ x : Int, -1000 ≤ x ∧ x ≤ 1000 → W.Is64 x := fun x h => ⟨by omega, by omega⟩
 have q := fun (x y : Int) (hx : -1000 ≤ x ∧ x ≤ 1000) (hy : -1000 ≤ y ∧ y ≤ 1000) => e_of4 (z x hx) (z y hy)
 have o := fun (x y : Int) (hx : -1000 ≤ x ∧ x ≤ 1000) (hy : -1000 ≤ y ∧ y ≤ 1000) => e_vof (z x hx) (z y hy)
 have ce := e_pcells (pl := plS) (b := 8) (j := 100) bd_ok bd_bv (show 3 ≤ 4 by decide) (show 4 ≤ 900 by decide) e_bdval goodS.t goodS.a (by omega)
 have hcl : (rowsL ((cutT bd.rimV).map fun K => K.map (vput plS))).length = 2 := by
  have : (rowsL ((cutT bd.rimV).map fun K => K.map (vput plS))).length = _ := List.length_map ..
  rw [this, List.length_map, bd_len]
 have cr := (Ct.e_rim bd_ok).ro
 have hrl : (bd.rimV.map dV).length = 4 := rfl
 have n1 := Ct.e_pcen goodS
 have n2 := Ct.e_pcen goodT
 rw [cenS] at n1
 rw [cenT] at n2
 have s1 := same_v (Rat.divInt 2 1, Rat.divInt 3 2)
 have s2 := same_v (-(Rat.divInt 1 2), Rat.divInt 2 1)
 have en := e_penc bd_en
 have de := e_pdec (t := []) bd_en e_bdv (by decide)
 rw [List.append_nil] at de
 have g1 := e_edgeV (p := bd) (k := 1) (by decide) (by decide) bd_small (z 1 (by omega))
 have g2 := e_edgeV (p := bd) (k := -1) (by decide) (by decide) bd_small (z (-1) (by omega))
 have g3 := e_square (p := bd) (k := 0) (by decide) (by decide) bd_small (z 0 (by omega))
 rw [show edV bd.rim (edK 1 bd.rim.length) = (0, 3) by decide] at g1
 rw [show edV bd.rim (edK (-1) bd.rim.length) = (0, -3) by decide] at g2
 rw [show sqV bd.rim (edK 0 bd.rim.length) = 16 by decide] at g3
 have s3 := same_v (Rat.divInt 0 1, Rat.divInt 3 1)
 have s4 := same_v (Rat.divInt 0 1, Rat.divInt (-3) 1)
 have sm := e_same1 bd
 have hel : (byL (encP bd)).length = (encP bd).length := byL_len _
 rw [dPlS] at ce n1
 rw [dPlT] at n2
 rw [hv] at *
 rw [hL] at v2
 rw [hM] at v3
 rw [hF] at v4
 have q21 := q 2 1 (by omega) (by omega)
 have q12 := q 1 2 (by omega) (by omega)
 have q11 := q 1 1 (by omega) (by omega)
 have q32 := q 3 2 (by omega) (by omega)
 have o10 := o 1 0 (by omega) (by omega)
 have o03 := o 0 3 (by omega) (by omega)
 have o04 := o 0 (-3) (by omega) (by omega)
 have ng := e_neg4 (Rat.divInt 1 2)
 clear q o z
 change Pure PP _ _ (.ag (dV (Rat.divInt 0 1, Rat.divInt 3 1))) at g1
 change Pure PP _ _ (.ag (dV (Rat.divInt 0 1, Rat.divInt (-3) 1))) at g2
 change Pure PP _ _ (.v (.sl (bd.rimV.map dV))) at cr
 simp only [dR_0] at *
 generalize rowsL ((cutT bd.rimV).map fun K => K.map (vput plS)) = RW at *
 generalize bd.rimV.map dV = RM at *
 generalize encP bd = EB at *
 generalize Rat.divInt 1 1 = r11 at *
 generalize Rat.divInt 2 1 = r21 at *
 generalize Rat.divInt 3 2 = r32 at *
 generalize Rat.divInt 0 1 = r01 at *
 generalize Rat.divInt 3 1 = r31 at *
 generalize Rat.divInt (-3) 1 = rm31 at *
 generalize Rat.divInt 100 1 = r100 at *
 generalize Rat.divInt 1 2 = r12 at *
 exact tr [cl eb, cl eb, cl q21, cl eb, .slc (zs [0, 0, 0, 0]) 0 3 1 (zs [0, 0, 0]) rfl (by decide) (fun cs h => (zs_z1 _ cs h).1), cl eb, cl v1, nf, cl v2, nf, cl v3, nf, cl v4, nf, cl q12, cl Ct.e_still5, cl q11, cl o10,
  cl ce, .eqv 50 (ni (RW.length : Int)) (ni 2) (by rw [hcl]; rfl), nf, cl cr, .eqv 55 (ni (RM.length : Int)) (ni 4) (by rw [hrl]; rfl), nf, cl n1, cl q21, cl q32, cl s1, nf, cl n2, cl ng, cl q21, cl s2, nf,
  cl en, cl de, cl g1, cl o03, cl s3, yt, cl g2, cl o04, cl s4, yt, cl g3, yt, yt, cl en, .eqv 109 (ni ((byL EB).length : Int)) (ni (EB.length : Int)) (by rw [hel]), ye (t := (EB.length : Int) == (EB.length : Int)) (by simp), cl sm] (by kernel_rfl)
end Go.Proofs.YtlgnagnmoleeiaaGreat.E.Pc

namespace Go.Proofs.YtlgnagnmoleeiaaGreat.E.Pc
open Go.RowKit
set_option linter.unusedVariables false
set_option linter.unusedSimpArgs false
section
variable {x k : Int} {n m : Nat} {p : Ct.Pi}
theorem qv_bv {c : Int × Int} (h : (-100000 ≤ c.1 ∧ c.1 ≤ 100000) ∧ (-100000 ≤ c.2 ∧ c.2 ≤ 100000)) : Bv 20 (Ct.qv c) := by
 have key : ∀ x : Int, -100000 ≤ x ∧ x ≤ 100000 → I.Bd 20 x := fun x hx => by
  have h5 : x.natAbs ≤ 100000 := by omega
  show x.natAbs < 2 ^ 20
  omega
 exact ⟨Bq.divInt (key _ h.1) (by unfold I.Bd; decide) (by omega), Bq.divInt (key _ h.2) (by unfold I.Bd; decide) (by omega)⟩
end
end Go.Proofs.YtlgnagnmoleeiaaGreat.E.Pc



namespace Go.Proofs.YtlgnagnmoleeiaaGreat.E.Pc
open Go.RowKit
set_option linter.unusedVariables false
set_option linter.unusedSimpArgs false
section
variable {l : List Int} {k : Int} {P : List (Int × Int)} {p : Ct.Pi} {i j n m q : Nat}
theorem bq8 {x y : Int} (hx : -200 ≤ x ∧ x ≤ 200) (hy : 1 ≤ y ∧ y ≤ 200) : Bq 8 (Rat.divInt x y) := Bq.divInt (k := 8) (by unfold I.Bd; omega) (by unfold I.Bd; omega) (by omega)
theorem p12_bits (l : List Int) : Bq 8 (Ct.p12 l).tol ∧ Bq 8 (Ct.p12 l).light ∧ Bq 20 (Ct.p12 l).heavy ∧ Bq 8 (Ct.p12 l).str ∧ Bq 8 (Ct.p12 l).rough := by
 unfold Ct.p12
 generalize Ct.rimP l = P at *
 have a10 := atz_in l 10 2
 have a11 := atz_in l 11 5
 have a12 := atz_in l 12 3
 have a13 := atz_in l 13 99
 have a14 := atz_in l 14 4
 have bl : Bq 8 (Ct.pLight l) := bq8 (by omega) (by omega)
 exact ⟨bq8 (x := atz l 10 2) (y := 4) (by omega) (by omega), bl, (bl.add (bq8 (x := atz l 12 3) (y := 2) (by omega) (by omega))).mono (by omega), bq8 (x := 20 + atz l 13 99) (y := 1) (by omega) (by omega), bq8 (x := atz l 14 4) (y := 4) (by omega) (by omega)⟩
theorem p12_sm (l : List Int) : ∀ c ∈ (Ct.p12 l).rim, (-12 ≤ c.1 ∧ c.1 ≤ 12) ∧ (-12 ≤ c.2 ∧ c.2 ≤ 12) := fun c hc => by
 rw [Ct.p12_rim] at hc
 have := (Ct.rimP_in l).1 c hc
 unfold Ct.Sm_ at this
 omega
theorem p12_len (l : List Int) : 3 ≤ (Ct.p12 l).rim.length ∧ (Ct.p12 l).rim.length ≤ 5 := by
 rw [Ct.p12_rim]
 exact (Ct.rimP_in l).2
theorem tri_val : ([0, 1, 2].all fun (a : Int) => [0, 1, 2, 3].all fun (b : Int) => Pg.valid (([(0, 0), (4 + a, 0), (b, 3)] : List (Int × Int)).map Ct.qv)) = true := by decide +kernel
theorem p12_val (l : List Int) : Pg.valid (Ct.p12 l).rimV = true := by
 show Pg.valid ((Ct.p12 l).rim.map Ct.qv) = true
 rw [Ct.p12_rim]
 unfold Ct.rimP
 split
 · rename_i h
   rwa [valid_eq] at h
 · have h0 := atz_in l 0 2
   have h1 := atz_in l 1 3
   have := tri_val
   rw [List.all_eq_true] at this
   have := this (atz l 0 2) (by simp; omega)
   rw [List.all_eq_true] at this
   exact this (atz l 1 3) (by simp; omega)
end
end Go.Proofs.YtlgnagnmoleeiaaGreat.E.Pc
namespace Go.Proofs.YtlgnagnmoleeiaaGreat.E.Pc
open Go.RowKit
set_option linter.unusedVariables false
set_option linter.unusedSimpArgs false
section
variable {z : Int} {p : Pr} {r : Rat} {pc : Ct.Pi} {v : Bool}
def negB (r : Rat) : Bool := decide (sgnZ r.num < 0)
def okA (p : Ct.Pi) (v : Bool) : Bool := (!negB p.tol && (!negB p.light && (!negB p.heavy && (!negB p.str && !negB p.rough)))) && fineB p v
def okR (p : Ct.Pi) (v : Bool) : Bool := v && ((btw p.tol 4 && (btw p.rough 4 && (btw p.light 1000 && (btw p.heavy 1000 && true)))) && (!(sgnZ p.light.num == 0) && (!(decide (cmpQ p.light p.heavy > 0)) && !(decide (sgnZ p.str.num ≤ 0)))))
theorem cmp_le0 (r t : Rat) : cmpQ r t ≤ 0 ↔ r ≤ t := by
 unfold cmpQ
 split
 · rename_i h; constructor <;> intro _ <;> first | omega | grind
 · split
   · rename_i h1 h2; constructor <;> intro h3 <;> first | omega | grind
   · rename_i h1 h2; constructor <;> intro h3 <;> first | omega | grind
theorem ok_eq (p : Ct.Pi) (v : Bool) : okA p v = okR p v := by
 have h1 := cmp_le0 p.light p.heavy
 have h2 := cmp_le0 p.heavy (Rat.divInt 1000 1)
 have h3 := cmp_le0 p.light (Rat.divInt 1000 1)
 have key : cmpQ p.light p.heavy ≤ 0 → cmpQ p.heavy (Rat.divInt 1000 1) ≤ 0 → cmpQ p.light (Rat.divInt 1000 1) ≤ 0 := fun a b => h3.2 (Rat.le_trans (h1.1 a) (h2.1 b))
 clear h1 h2 h3
 unfold okA okR fineB smB hvB btw negB
 generalize cmpQ p.light p.heavy = c1 at *
 generalize cmpQ p.heavy (Rat.divInt 1000 1) = c2 at *
 generalize cmpQ p.light (Rat.divInt 1000 1) = c3 at *
 generalize cmpQ p.tol (Rat.divInt 4 1) = c4 at *
 generalize cmpQ p.rough (Rat.divInt 4 1) = c5 at *
 generalize sgnZ p.tol.num = s1
 generalize sgnZ p.light.num = s2
 generalize sgnZ p.heavy.num = s3
 generalize sgnZ p.str.num = s4
 generalize sgnZ p.rough.num = s5
 rw [Bool.eq_iff_iff]
 simp only [Bool.and_eq_true, Bool.not_eq_true', decide_eq_true_eq, decide_eq_false_iff_not, beq_eq_false_iff_ne, ne_eq]
 cases v
 · simp
 · simp only [and_true, true_and]
   constructor
   · rintro ⟨⟨a1, a2, a3, a4, a5⟩, ⟨b1, b2⟩, ⟨d1, d2, d3⟩, d4⟩
     have := key d2 d3
     refine ⟨⟨⟨?_, ?_⟩, ⟨?_, ?_⟩, ⟨?_, ?_⟩, ?_, ?_⟩, ?_, ?_, ?_⟩ <;> omega
   · rintro ⟨⟨⟨a1, a2⟩, ⟨a3, a4⟩, ⟨a5, a6⟩, a7, a8⟩, b1, b2, b3⟩
     refine ⟨⟨?_, ?_, ?_, ?_, ?_⟩, ⟨?_, ?_⟩, ⟨?_, ?_, ?_⟩, ?_⟩ <;> omega
/-- The program, canonical numbers. -/
theorem e_progA (pk : Pk pc) (hn : pc.rim.length ≤ 12) (hr : rngB pc.id pc.home pc.rim pc.marks = true) (hw : pc.worn.length = pc.rim.length) (hm : pc.marks.length = pc.rim.length) (cv : Pure PP 67 [dL pc.rimV] (bo v)) : Pure PP 12 [.ag pc.v] (ni (if okA pc v = true then 0 else 1)) := by
 unfold okA
 cases h0 : negB pc.tol with
 | true =>
  rw [if_neg (by simp), ← any_v]
  refine pv_head hn hr hw hm ?_
  exact pv_neg0 (bq1 pk.tol) (sg1 _) h0
 | false =>
 cases h1 : negB pc.light with
 | true =>
  rw [if_neg (by simp), ← any_v]
  refine pv_head hn hr hw hm ?_
  refine pv_ok0 (bq1 pk.tol) (sg1 _) h0 ?_
  exact pv_neg1 (bq1 pk.light) (sg1 _) h1
 | false =>
 cases h2 : negB pc.heavy with
 | true =>
  rw [if_neg (by simp), ← any_v]
  refine pv_head hn hr hw hm ?_
  refine pv_ok0 (bq1 pk.tol) (sg1 _) h0 ?_
  refine pv_ok1 (bq1 pk.light) (sg1 _) h1 ?_
  exact pv_neg2 (bq1 pk.heavy) (sg1 _) h2
 | false =>
 cases h3 : negB pc.str with
 | true =>
  rw [if_neg (by simp), ← any_v]
  refine pv_head hn hr hw hm ?_
  refine pv_ok0 (bq1 pk.tol) (sg1 _) h0 ?_
  refine pv_ok1 (bq1 pk.light) (sg1 _) h1 ?_
  refine pv_ok2 (bq1 pk.heavy) (sg1 _) h2 ?_
  exact pv_neg3 (bq1 pk.str) (sg1 _) h3
 | false =>
 cases h4 : negB pc.rough with
 | true =>
  rw [if_neg (by simp), ← any_v]
  refine pv_head hn hr hw hm ?_
  refine pv_ok0 (bq1 pk.tol) (sg1 _) h0 ?_
  refine pv_ok1 (bq1 pk.light) (sg1 _) h1 ?_
  refine pv_ok2 (bq1 pk.heavy) (sg1 _) h2 ?_
  refine pv_ok3 (bq1 pk.str) (sg1 _) h3 ?_
  exact pv_neg4 (bq1 pk.rough) (sg1 _) h4
 | false =>
 have := e_pvalid pk hn hr hw hm h0 h1 h2 h3 h4 cv
 simpa using this
theorem rim_bv (h : rngB p.id p.home p.rim p.marks = true) : ∀ v ∈ p.rim.map Ct.qv, Bv 20 v := fun v hv => by
 obtain ⟨c, hc, rfl⟩ := List.mem_map.1 hv
 unfold rngB at h
 rw [Bool.and_eq_true, List.all_eq_true] at h
 have := h.1 c hc
 unfold ptW inW at this
 simp only [Bool.and_eq_true, decide_eq_true_eq] at this
 exact qv_bv (by omega)
/-- What Valid tells of a piece with canonical numbers. -/
def vP (p : Ct.Pi) : Int := if rngB p.id p.home p.rim p.marks = true then (if p.rim.length ≤ 12 ∧ p.worn.length = p.rim.length ∧ p.marks.length = p.rim.length then (if okA p (Pg.valid (p.rim.map Ct.qv)) = true then 0 else 1) else 1) else 5
/-- Valid of the program and of the reference: canonical numbers. -/
theorem e_vPk (pk : Pk pc) (hnm : pc.marks.length ≤ 4000) : Pure PP 12 [.ag pc.v] (ni (vP pc)) ∧ Pure PP 13 [.ag pc.v] (ni (vP pc)) := by
 have h1 := pk.n
 unfold vP
 cases hr : rngB pc.id pc.home pc.rim pc.marks with
 | false =>
  rw [if_neg (by simp)]
  exact ⟨e_pv_rng (a := ofR pc.tol) (b := ofR pc.light) (c := ofR pc.heavy) (d := ofR pc.str) (e := ofR pc.rough) (by omega) (by omega) hr, v12_0 (p := prOf pc) h1 hnm (fun _ => rfl) (fun h => by have h : rngB pc.id pc.home pc.rim pc.marks = true := h; rw [hr] at h; cases h)⟩
 | true =>
 rw [if_pos rfl]
 by_cases hl : pc.rim.length ≤ 12 ∧ pc.worn.length = pc.rim.length ∧ pc.marks.length = pc.rim.length
 case neg =>
  rw [if_neg hl]
  exact ⟨e_pv_len (a := ofR pc.tol) (b := ofR pc.light) (c := ofR pc.heavy) (d := ofR pc.str) (e := ofR pc.rough) (by omega) (by omega) hr hl, v12_0 (p := prOf pc) h1 hnm (fun h => by have h : rngB pc.id pc.home pc.rim pc.marks = false := h; rw [hr] at h; cases h) fun _ => v12_len hl⟩
 rw [if_pos hl]
 obtain ⟨h12, hw, hm⟩ := hl
 have hb := rim_bv (p := prOf pc) hr
 have hvl : (pc.rim.map Ct.qv).length = pc.rim.length := List.length_map ..
 have cp := e_valid hb (by show (pc.rim.map Ct.qv).length ≤ _; omega) (by omega)
 have c6 := e_valid6 hb (by show (pc.rim.map Ct.qv).length ≤ _; omega) (by omega)
 rw [valid_eq] at c6
 refine ⟨e_progA pk h12 hr hw hm cp, ?_⟩
 rw [ok_eq]
 refine v12_0 (p := prOf pc) h1 hnm (fun h => by have h : rngB pc.id pc.home pc.rim pc.marks = false := h; rw [hr] at h; cases h) fun _ => ?_
 refine v12_rim pk.r h12 hw hm c6 (fun h => ?_) fun hv => ?_
 · unfold okR
   have h : Pg.valid (pc.rim.map Ct.qv) = false := h
   show (if (Pg.valid (pc.rim.map Ct.qv) && _) = true then (0 : Int) else 1) = 1
   rw [h]; rfl
 refine v12_num (e_between pk.tol (by omega)) (e_between pk.rough (by omega)) (e_between pk.light (by omega)) (e_between pk.heavy (by omega)) (e_valid4 pk.str (by omega)) (fun h => ?_) fun h => ?_
 · unfold okR
   show (if (_ && ((btw pc.tol 4 && (btw pc.rough 4 && (btw pc.light 1000 && (btw pc.heavy 1000 && true)))) && _)) = true then (0 : Int) else 1) = 1
   rw [h, Bool.false_and, Bool.and_false]; rfl
 · have := v12_last pk
   unfold okR
   show GV12 (if (Pg.valid (pc.rim.map Ct.qv) && ((btw pc.tol 4 && (btw pc.rough 4 && (btw pc.light 1000 && (btw pc.heavy 1000 && true)))) && _)) = true then (0 : Int) else 1) _ _
   have hv : Pg.valid (pc.rim.map Ct.qv) = true := hv
   rw [h, hv, Bool.true_and, Bool.true_and]
   exact this
end
end Go.Proofs.YtlgnagnmoleeiaaGreat.E.Pc
namespace Go.Proofs.YtlgnagnmoleeiaaGreat.E.Pc
open Go.RowKit
set_option linter.unusedVariables false
set_option linter.unusedSimpArgs false
abbrev Tu : Type := List Int × List Int × List Int × List Int × Rat × Rat × Rat × Rat × Rat
def tupP (p : Ct.Pi) : Tu := ([p.id, p.home], crn p.rim, wnI p.worn, p.marks, p.tol, p.light, p.heavy, p.str, p.rough)
noncomputable def decT : List UInt8 → Tu × Nat × Int := W.dP W.decI (W.dP W.decI (W.dP W.decI (W.dP W.decI (W.dP decQ (W.dP decQ (W.dP decQ (W.dP decQ decQ)))))))
def encT : Tu → List UInt8 := W.eP W.encI (W.eP W.encI (W.eP W.encI (W.eP W.encI (W.eP encQ (W.eP encQ (W.eP encQ (W.eP encQ encQ)))))))
def VT (t : Tu) : Prop := W.VI t.1 ∧ W.VI t.2.1 ∧ W.VI t.2.2.1 ∧ W.VI t.2.2.2.1 ∧ VQ t.2.2.2.2.1 ∧ VQ t.2.2.2.2.2.1 ∧ VQ t.2.2.2.2.2.2.1 ∧ VQ t.2.2.2.2.2.2.2.1 ∧ VQ t.2.2.2.2.2.2.2.2
theorem codecT : W.Codec encT decT VT := W.codecP W.codecI (W.codecP W.codecI (W.codecP W.codecI (W.codecP W.codecI (W.codecP codecQ (W.codecP codecQ (W.codecP codecQ (W.codecP codecQ codecQ)))))))
theorem encT_p (p : Ct.Pi) : encT (tupP p) = encP p := by simp [encT, W.eP, tupP, encP, hdP, numP]
theorem crn_inj {P Q : List (Int × Int)} (h : crn P = crn Q) : P = Q := by
 induction P generalizing Q with
 | nil =>
  cases Q with
  | nil => rfl
  | cons c Q => cases h
 | cons a P ih =>
  cases Q with
  | nil => cases h
  | cons c Q =>
   have h : a.1 :: a.2 :: crn P = c.1 :: c.2 :: crn Q := h
   injection h with h1 h
   injection h with h2 h
   rw [ih h, Prod.ext h1 h2]
theorem wnI_inj {l m : List Bool} (h : wnI l = wnI m) : l = m := by
 induction l generalizing m with
 | nil =>
  cases m with
  | nil => rfl
  | cons c m => cases h
 | cons a l ih =>
  cases m with
  | nil => cases h
  | cons c m =>
   have h : (if a then (1 : Int) else 0) :: wnI l = (if c then (1 : Int) else 0) :: wnI m := h
   injection h with h1 h
   rw [ih h]
   cases a <;> cases c <;> first | rfl | (exact absurd h1 (by decide))
theorem tupP_inj {p q : Ct.Pi} (h : tupP p = tupP q) : p = q := by
 obtain ⟨a1, a2, a3, a4, a5, a6, a7, a8, a9, a10⟩ := p
 obtain ⟨b1, b2, b3, b4, b5, b6, b7, b8, b9, b10⟩ := q
 unfold tupP at h
 simp only [Prod.mk.injEq, List.cons.injEq, and_true] at h
 obtain ⟨⟨rfl, rfl⟩, h3, h4, rfl, rfl, rfl, rfl, rfl, rfl⟩ := h
 rw [crn_inj h3, wnI_inj h4]
/-- What Valid tells of a piece. -/
abbrev vz (p : Ct.Pi) : Int := vP p
theorem vz_ok {p : Ct.Pi} (pk : Pk p) (hm : p.marks.length ≤ 4000) : Pure PP 12 [.ag p.v] (ni (vz p)) ∧ Pure PP 13 [.ag p.v] (ni (vz p)) := e_vPk pk hm
noncomputable def prP (t : Tu) : Option Ct.Pi := open Classical in if h : ∃ p, tupP p = t ∧ vz p = 0 then some h.choose else none
theorem prP_ok {p : Ct.Pi} (h : vz p = 0) : prP (tupP p) = some p := by
 have h : ∃ q, tupP q = tupP p ∧ vz q = 0 := ⟨p, rfl, h⟩
 unfold prP
 rw [dif_pos h]
 congr 1
 exact tupP_inj h.choose_spec.1
instance : Inhabited Ct.Pi := ⟨⟨0, 0, [], [], [], 0, 0, 0, 0, 0⟩⟩
noncomputable def decPc : List UInt8 → Ct.Pi × Nat × Int := W.dM decT prP
def VPc (p : Ct.Pi) : Prop := VT (tupP p) ∧ vz p = 0
theorem codecPc : W.Codec (fun p => encT (tupP p)) decPc VPc := W.codecM codecT (fun p h => ⟨h.1, prP_ok h.2⟩) fun t p ht hp => by
 unfold prP at hp
 split at hp
 · rename_i h
   injection hp with hp
   obtain ⟨h1, h2⟩ := h.choose_spec
   rw [hp] at h1 h2
   exact ⟨h1, by unfold VPc; rw [h1]; exact ⟨ht, h2⟩⟩
 · cases hp
section
variable {α β : Type} {d : List UInt8 → α × Nat × Int} {d2 : List UInt8 → β × Nat × Int} {b B : List UInt8} {x : α} {y : β} {m n k k2 : Nat} {p : Ct.Pi} {t : Tu}
theorem dP_mk [Inhabited α] [Inhabited β] (h1 : d (B.drop n) = (x, k, 0)) (h2 : d2 (B.drop (n + k)) = (y, k2, 0)) : W.dP d d2 (B.drop n) = ((x, y), k + k2, 0) := by
 rw [← List.drop_drop] at h2
 rw [W.dP_0 (by rw [h1]) (by rw [h1]; simp only; rw [h2]), h1]
 simp only
 rw [h2]
theorem dP_inv [Inhabited α] [Inhabited β] (h : W.dP d d2 (B.drop n) = ((x, y), m, 0)) : ∃ k k2, d (B.drop n) = (x, k, 0) ∧ d2 (B.drop (n + k)) = (y, k2, 0) ∧ m = k + k2 := by
 rcases h1 : d (B.drop n) with ⟨x', k, e⟩
 by_cases he : e = 0
 · subst he
   rcases h2 : d2 (B.drop (n + k)) with ⟨y', k2, e2⟩
   by_cases he2 : e2 = 0
   · subst he2
     rw [dP_mk h1 h2] at h
     simp only [Prod.mk.injEq, and_true] at h
     obtain ⟨⟨rfl, rfl⟩, rfl⟩ := h
     exact ⟨k, k2, rfl, h2, rfl⟩
   · have h3 := h2
     rw [← List.drop_drop] at h3
     rw [W.dP_2 (by rw [h1]) (by rw [h1]; simp only; rw [h3]; exact he2), h1] at h
     simp only at h
     rw [h3] at h
     simp only [Prod.mk.injEq] at h
     exact absurd h.2.2 he2
 · rw [W.dP_1 (by rw [h1]; exact he), h1] at h
   simp only [Prod.mk.injEq] at h
   exact absurd h.2.2 he
/-- What nine reads give. -/
structure Rds (B : List UInt8) (t : Tu) (k1 k2 k3 k4 k5 k6 k7 k8 k9 : Nat) : Prop where
 h1 : W.decI (B.drop 0) = (t.1, k1, 0)
 h2 : W.decI (B.drop (0 + k1)) = (t.2.1, k2, 0)
 h3 : W.decI (B.drop (0 + k1 + k2)) = (t.2.2.1, k3, 0)
 h4 : W.decI (B.drop (0 + k1 + k2 + k3)) = (t.2.2.2.1, k4, 0)
 h5 : decQ (B.drop (0 + k1 + k2 + k3 + k4)) = (t.2.2.2.2.1, k5, 0)
 h6 : decQ (B.drop (0 + k1 + k2 + k3 + k4 + k5)) = (t.2.2.2.2.2.1, k6, 0)
 h7 : decQ (B.drop (0 + k1 + k2 + k3 + k4 + k5 + k6)) = (t.2.2.2.2.2.2.1, k7, 0)
 h8 : decQ (B.drop (0 + k1 + k2 + k3 + k4 + k5 + k6 + k7)) = (t.2.2.2.2.2.2.2.1, k8, 0)
 h9 : decQ (B.drop (0 + k1 + k2 + k3 + k4 + k5 + k6 + k7 + k8)) = (t.2.2.2.2.2.2.2.2, k9, 0)
theorem rds_mk {k1 k2 k3 k4 k5 k6 k7 k8 k9 : Nat} (h : Rds B t k1 k2 k3 k4 k5 k6 k7 k8 k9) : decT B = (t, 0 + k1 + k2 + k3 + k4 + k5 + k6 + k7 + k8 + k9, 0) := by
 have e := dP_mk h.h1 (dP_mk h.h2 (dP_mk h.h3 (dP_mk h.h4 (dP_mk h.h5 (dP_mk h.h6 (dP_mk h.h7 (dP_mk h.h8 h.h9)))))))
 rw [List.drop_zero] at e
 unfold decT
 rw [e, show k1 + (k2 + (k3 + (k4 + (k5 + (k6 + (k7 + (k8 + k9))))))) = 0 + k1 + k2 + k3 + k4 + k5 + k6 + k7 + k8 + k9 by omega]
theorem rds_inv (h : decT B = (t, m, 0)) : ∃ k1 k2 k3 k4 k5 k6 k7 k8 k9, Rds B t k1 k2 k3 k4 k5 k6 k7 k8 k9 ∧ m = 0 + k1 + k2 + k3 + k4 + k5 + k6 + k7 + k8 + k9 := by
 obtain ⟨t1, t2, t3, t4, t5, t6, t7, t8, t9⟩ := t
 unfold decT at h
 rw [← List.drop_zero (l := B)] at h
 obtain ⟨k1, m1, h1, h, e1⟩ := dP_inv h
 obtain ⟨k2, m2, h2, h, e2⟩ := dP_inv h
 obtain ⟨k3, m3, h3, h, e3⟩ := dP_inv h
 obtain ⟨k4, m4, h4, h, e4⟩ := dP_inv h
 obtain ⟨k5, m5, h5, h, e5⟩ := dP_inv h
 obtain ⟨k6, m6, h6, h, e6⟩ := dP_inv h
 obtain ⟨k7, m7, h7, h, e7⟩ := dP_inv h
 obtain ⟨k8, k9, h8, h9, e8⟩ := dP_inv h
 exact ⟨k1, k2, k3, k4, k5, k6, k7, k8, k9, ⟨h1, h2, h3, h4, h5, h6, h7, h8, h9⟩, by omega⟩
/-- Bytes that are no code of a valid piece. -/
theorem pc_bad {k1 k2 k3 k4 k5 k6 k7 k8 k9 : Nat} (he : (decPc B).2.2 ≠ 0) (h : Rds B (tupP p) k1 k2 k3 k4 k5 k6 k7 k8 k9) : vz p ≠ 0 := fun hz => he (by
 have e := rds_mk h
 unfold decPc
 rw [W.dM_0 (y := p) (by rw [e]) (by rw [e]; exact prP_ok hz)])
theorem pc_good (he : (decPc B).2.2 = 0) : ∃ p k1 k2 k3 k4 k5 k6 k7 k8 k9, Rds B (tupP p) k1 k2 k3 k4 k5 k6 k7 k8 k9 ∧ vz p = 0 ∧ decPc B = (p, 0 + k1 + k2 + k3 + k4 + k5 + k6 + k7 + k8 + k9, 0) := by
 unfold decPc at he ⊢
 rcases h : decT B with ⟨t, m, e⟩
 by_cases h0 : e = 0
 · subst h0
   cases hp : prP t with
   | none => rw [W.dM_2 (by rw [h]) (by rw [h]; exact hp)] at he; cases he
   | some p =>
    rw [W.dM_0 (y := p) (by rw [h]) (by rw [h]; exact hp), h]
    unfold prP at hp
    split at hp
    · rename_i g
      injection hp with hp
      obtain ⟨q1, q2⟩ := g.choose_spec
      rw [hp] at q1 q2
      subst q1
      obtain ⟨k1, k2, k3, k4, k5, k6, k7, k8, k9, hr, hm⟩ := rds_inv h
      exact ⟨p, k1, k2, k3, k4, k5, k6, k7, k8, k9, hr, q2, by rw [hm]⟩
    · cases hp
 · rw [W.dM_1 (by rw [h]; exact h0), h] at he
   exact absurd he h0
theorem lenI (l : List Int) (h : W.VI l) : l.length ≤ (W.encI l).length := by
 have e := W.codecI.back l h []
 have := (W.decL_le W.codec_int (W.encI l ++ [])).1
 change (W.decI (W.encI l ++ [])).1.length ≤ _ at this
 rw [e, List.append_nil] at this
 exact this
theorem lenQ {r : Rat} (h : VQ r) : (digs r.num.natAbs).length ≤ (encQ r).length ∧ (digs (dq r).natAbs).length ≤ (encQ r).length := by
 have key : ∀ x : Int, VZ x → (digs x.natAbs).length ≤ (encZ x).length := fun x hx => by
  have e := codecZ.back x hx []
  have := decZ_few (encZ x ++ [])
  rw [e, List.append_nil] at this
  exact this
 have h1 := key _ h.1
 have h2 := key _ h.2
 unfold encQ
 rw [List.length_append]
 omega
/-- A piece with a short code. -/
theorem len_enc (hv : VT (tupP p)) : (2 * p.rim.length ≤ (encP p).length ∧ p.worn.length ≤ (encP p).length ∧ p.marks.length ≤ (encP p).length) ∧ ∀ r ∈ numP p, (digs r.num.natAbs).length ≤ (encP p).length ∧ (digs (dq r).natAbs).length ≤ (encP p).length := by
 obtain ⟨h1, h2, h3, h4, h5, h6, h7, h8, h9⟩ := hv
 have l2 := lenI _ h2
 have l3 := lenI _ h3
 have l4 := lenI _ h4
 have l5 := lenQ h5
 have l6 := lenQ h6
 have l7 := lenQ h7
 have l8 := lenQ h8
 have l9 := lenQ h9
 have e : (encP p).length = (W.encI [p.id, p.home]).length + ((W.encI (crn p.rim)).length + ((W.encI (wnI p.worn)).length + ((W.encI p.marks).length + ((encQ p.tol).length + ((encQ p.light).length + ((encQ p.heavy).length + ((encQ p.str).length + (encQ p.rough).length))))))) := by simp [encP, hdP, numP]
 have c := crn_len p.rim
 have w := wnI_len p.worn
 simp only [tupP] at l2 l3 l4 l5 l6 l7 l8 l9
 refine ⟨⟨by omega, by omega, by omega⟩, fun r hr => ?_⟩
 simp only [numP, List.mem_cons, List.not_mem_nil, or_false] at hr
 rcases hr with rfl | rfl | rfl | rfl | rfl <;> omega
theorem int_enc (hv : VT (tupP p)) : (W.Is64 p.id ∧ W.Is64 p.home) ∧ (∀ c ∈ p.rim, W.Is64 c.1 ∧ W.Is64 c.2) ∧ ∀ x ∈ p.marks, W.Is64 x := by
 obtain ⟨h1, h2, h3, h4, _⟩ := hv
 refine ⟨⟨h1.1 p.id (by simp [tupP]), h1.1 p.home (by simp [tupP])⟩, fun c hc => ⟨h2.1 c.1 ?_, h2.1 c.2 ?_⟩, h4.1⟩
 · exact List.mem_flatMap.2 ⟨c, hc, by simp⟩
 · exact List.mem_flatMap.2 ⟨c, hc, by simp⟩
theorem pk_enc (hv : VT (tupP p)) (hl : (encP p).length ≤ 4000) : Pk p ∧ p.marks.length ≤ 4000 := by
 obtain ⟨⟨a1, a2, a3⟩, a4⟩ := len_enc hv
 have key : ∀ r ∈ numP p, Bq 150000 r := fun r hr => by
  obtain ⟨q1, q2⟩ := a4 r hr
  exact (bq_of (n := 4000) (by omega) (by omega)).mono (by omega)
 exact ⟨⟨(int_enc hv).2.1, by omega, key _ (by simp [numP]), key _ (by simp [numP]), key _ (by simp [numP]), key _ (by simp [numP]), key _ (by simp [numP])⟩, by omega⟩
theorem en_enc (hv : VT (tupP p)) (hl : (encP p).length ≤ 1000) (h1 : p.rim.length ≤ 40) (h2 : p.worn.length ≤ 40) (h3 : p.marks.length ≤ 40) : En p := by
 obtain ⟨_, a4⟩ := len_enc hv
 obtain ⟨b1, b2, b3⟩ := int_enc hv
 exact ⟨b1.1, b1.2, b2, b3, h1, h2, h3, fun r hr => by
  obtain ⟨q1, q2⟩ := a4 r hr
  exact ⟨by omega, by omega⟩⟩
end
end Go.Proofs.YtlgnagnmoleeiaaGreat.E.Pc
