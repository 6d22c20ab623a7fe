/-
 PIECE: the law PieceEdges, by the engine.
-/
import Derived.Test.YtlgnagnmoleeiaaGreatEvR
import Derived.Test.YtlgnagnmoleeiaaGreatExH
import Derived.Test.YtlgnagnmoleeiaaGreatEoV
namespace Go.Proofs.YtlgnagnmoleeiaaGreat.E.Pc
open Go.RowKit
set_option linter.unusedVariables false
set_option linter.unusedSimpArgs false
def bdR : List (Int × Int) := [(0, 0), (4, 0), (4, 3), (0, 3)]
/-- The board. -/
def bd : Ct.Pi := ⟨7, 0, bdR, [false, false, false, false], [0, 0, 0, 0], 0, Rat.divInt 1 1, Rat.divInt 1 1, Rat.divInt 100 1, Rat.divInt 1 2⟩
theorem e_board : Pure PP 74 [] (.ag bd.v) := by
 have cp := Ct.e_plain (P := bdR) 7 (show 0 < 4 by decide) (show 4 ≤ 1000 by decide)
 have hv : bd.v = [ni 7, ni 0, .sl (Ct.ptR bdR), .sl (Ct.wnR [false, false, false, false]), zl [0, 0, 0, 0]] ++ (dR 0 ++ (dR (Rat.divInt 1 1) ++ (dR (Rat.divInt 1 1) ++ (dR (Rat.divInt 100 1) ++ dR (Rat.divInt 1 2))))) := rfl
 rw [hv, dR_0]
 generalize Rat.divInt 1 1 = r1 at *
 unfold Ct.plH at cp
 generalize Rat.divInt 1 1 = r1 at *
 generalize Rat.divInt 100 1 = r100 at *
 generalize Rat.divInt 1 2 = r2 at *
 exact tr [.ro, .lend _ _ _ _ [] cp] (by kernel_rfl)
theorem bd_ok : bd.Ok 100 where
 r := by unfold W.Is64; decide
 n := by decide
 tol := Bq.zero (by omega)
 light := Bq.mono (j := 11) (Bq.divInt (by unfold I.Bd; decide) (by unfold I.Bd; decide) (by omega)) (by omega)
 heavy := Bq.mono (j := 11) (Bq.divInt (by unfold I.Bd; decide) (by unfold I.Bd; decide) (by omega)) (by omega)
 str := Bq.mono (j := 11) (Bq.divInt (by unfold I.Bd; decide) (by unfold I.Bd; decide) (by omega)) (by omega)
 rough := Bq.mono (j := 11) (Bq.divInt (by unfold I.Bd; decide) (by unfold I.Bd; decide) (by omega)) (by omega)
theorem bd_val : Pg.valid bd.rimV = true := by decide +kernel
theorem bd_bv : ∀ a ∈ bd.rimV, Bv 8 a := by
 intro a ha
 obtain ⟨c, hc, rfl⟩ := List.mem_map.1 ha
 have h : ∀ c ∈ bdR, I.Bd 8 c.1 ∧ I.Bd 8 c.2 := by unfold I.Bd; decide
 obtain ⟨h1, h2⟩ := h c hc
 exact ⟨Bq.divInt h1 (by unfold I.Bd; decide) (by omega), Bq.divInt h2 (by unfold I.Bd; decide) (by omega)⟩
theorem e_bdval : Pure PP 67 [dL bd.rimV] (bo true) := by
 have h := e_valid bd_bv (show 4 ≤ 100 by decide) (by omega)
 rwa [bd_val] at h
theorem e_bdv : Pure PP 12 [.ag bd.v] (ni 0) := by
 have h := e_pvalid (p := bd) (v := true) bd_ok (show 4 ≤ 12 by decide) (by decide) rfl rfl (by decide +kernel) (by decide +kernel) (by decide +kernel) (by decide +kernel) (by decide +kernel) e_bdval
 rwa [if_pos (by decide +kernel)] at h
theorem bd_en : En bd where
 id := ⟨by decide, by decide⟩
 home := ⟨by decide, by decide⟩
 r := by unfold W.Is64; decide
 m := by unfold W.Is64; decide
 nr := by decide
 nw := by decide
 nm := by decide
 q := by unfold Fs; decide +kernel
theorem bd_len : (cutT bd.rimV).length = 2 := by decide +kernel
end Go.Proofs.YtlgnagnmoleeiaaGreat.E.Pc
namespace Go.Proofs.YtlgnagnmoleeiaaGreat.E.Pc
open Go.RowKit
set_option linter.unusedVariables false
set_option linter.unusedSimpArgs false
def bdL : Ct.Pi := { bd with light := Rat.divInt 2 1 }
def bdF : Ct.Pi := { bd with id := 1000 }
def bdM : Ct.Pi := { bd with marks := [0, 0, 0] }
theorem bdL_ok : bdL.Ok 100 := { bd_ok with light := Bq.mono (j := 11) (Bq.divInt (by unfold I.Bd; decide) (by unfold I.Bd; decide) (by omega)) (by omega) }
theorem e_bdLv : Pure PP 12 [.ag bdL.v] (ni 1) := by
 have h := e_pvalid (p := bdL) (v := true) bdL_ok (show 4 ≤ 12 by decide) (by decide) rfl rfl (by decide +kernel) (by decide +kernel) (by decide +kernel) (by decide +kernel) (by decide +kernel) e_bdval
 rwa [if_neg (by decide +kernel)] at h
theorem e_bdFv : Pure PP 12 [.ag bdF.v] (ni 5) := e_pv_rng (id := 1000) (home := 0) (P := bdR) (M := [0, 0, 0, 0]) (Wn := [false, false, false, false]) (a := ofR 0) (b := ofR (Rat.divInt 1 1)) (c := ofR (Rat.divInt 1 1)) (d := ofR (Rat.divInt 100 1)) (e := ofR (Rat.divInt 1 2)) (by decide) (by decide) (by decide)
theorem e_bdMv : Pure PP 12 [.ag bdM.v] (ni 1) := e_pv_len (id := 7) (home := 0) (P := bdR) (M := [0, 0, 0]) (Wn := [false, false, false, false]) (a := ofR 0) (b := ofR (Rat.divInt 1 1)) (c := ofR (Rat.divInt 1 1)) (d := ofR (Rat.divInt 100 1)) (e := ofR (Rat.divInt 1 2)) (by decide) (by decide) (by decide) (by decide)
def plS : Vc × (Rat × Rat) := (Ct.stillV, (0, 0))
def plT : Vc × (Rat × Rat) := ((0, Rat.divInt 1 1), (Rat.divInt 1 1, Rat.divInt 0 1))
theorem b8_ (x y : Int) (h : I.Bd 8 x ∧ I.Bd 8 y ∧ y ≠ 0) : Bq 100 (Rat.divInt x y) := Bq.mono (j := 8) (Bq.divInt h.1 h.2.1 h.2.2) (by omega)
theorem goodS : bd.Good plS 100 := ⟨bd_ok, fun a ha => (bd_bv a ha).mono (by omega), ⟨b8_ 1 1 (by unfold I.Bd; decide), Bq.zero (by omega)⟩, ⟨Bq.zero (by omega), Bq.zero (by omega)⟩, by decide, by omega⟩
theorem goodT : bd.Good plT 100 := ⟨bd_ok, fun a ha => (bd_bv a ha).mono (by omega), ⟨Bq.zero (by omega), b8_ 1 1 (by unfold I.Bd; decide)⟩, ⟨b8_ 1 1 (by unfold I.Bd; decide), b8_ 0 1 (by unfold I.Bd; decide)⟩, by decide, by omega⟩
theorem cenS : Ct.cenV bd plS = (Rat.divInt 2 1, Rat.divInt 3 2) := by decide +kernel
theorem cenT : Ct.cenV bd plT = (-(Rat.divInt 1 2), Rat.divInt 2 1) := by decide +kernel
theorem dPlS : dPl plS = dV Ct.stillV ++ (Ct.z4_ ++ Ct.z4_) := by
 show dV Ct.stillV ++ dV (0, 0) = _
 rw [Ct.dV_00]
theorem dPlT : dPl plT = (Ct.z4_ ++ dR (Rat.divInt 1 1)) ++ dV (Rat.divInt 1 1, Rat.divInt 0 1) := by
 show (dR 0 ++ dR (Rat.divInt 1 1)) ++ _ = _
 rw [dR_0]
 rfl
theorem bd_small : SmP bd.rim := by unfold SmP; decide
theorem e_lives : Pure PP 14 [] (bo true) := by
 have hv : bd.v = [ni 7, ni 0, .sl (Ct.ptR bdR), .sl (Ct.wnR [false, false, false, false]), zl [0, 0, 0, 0]] ++ (dR 0 ++ (dR (Rat.divInt 1 1) ++ (dR (Rat.divInt 1 1) ++ (dR (Rat.divInt 100 1) ++ dR (Rat.divInt 1 2))))) := rfl
 have hL : bdL.v = [ni 7, ni 0, .sl (Ct.ptR bdR), .sl (Ct.wnR [false, false, false, false]), zl [0, 0, 0, 0]] ++ (dR 0 ++ (dR (Rat.divInt 2 1) ++ (dR (Rat.divInt 1 1) ++ (dR (Rat.divInt 100 1) ++ dR (Rat.divInt 1 2))))) := rfl
 have hF : bdF.v = [ni 1000, ni 0, .sl (Ct.ptR bdR), .sl (Ct.wnR [false, false, false, false]), zl [0, 0, 0, 0]] ++ (dR 0 ++ (dR (Rat.divInt 1 1) ++ (dR (Rat.divInt 1 1) ++ (dR (Rat.divInt 100 1) ++ dR (Rat.divInt 1 2))))) := rfl
 have hM : bdM.v = [ni 7, ni 0, .sl (Ct.ptR bdR), .sl (Ct.wnR [false, false, false, false]), zl [0, 0, 0]] ++ (dR 0 ++ (dR (Rat.divInt 1 1) ++ (dR (Rat.divInt 1 1) ++ (dR (Rat.divInt 100 1) ++ dR (Rat.divInt 1 2))))) := rfl
 have eb := e_board
 have v1 := e_bdv
 have v2 := e_bdLv
 have v3 := e_bdMv
 have v4 := e_bdFv
 have z : ∀ x : Int, -1000 ≤ x ∧ x ≤ 1000 → W.Is64 x := fun x h => ⟨by omega, by omega⟩
 have q := fun (x y : Int) (hx : -1000 ≤ x ∧ x ≤ 1000) (hy : -1000 ≤ y ∧ y ≤ 1000) => e_of4 (z x hx) (z y hy)
 have o := fun (x y : Int) (hx : -1000 ≤ x ∧ x ≤ 1000) (hy : -1000 ≤ y ∧ y ≤ 1000) => e_vof (z x hx) (z y hy)
 have ce := e_pcells (pl := plS) (b := 8) (j := 100) bd_ok bd_bv (show 3 ≤ 4 by decide) (show 4 ≤ 900 by decide) e_bdval goodS.t goodS.a (by omega)
 have hcl : (rowsL ((cutT bd.rimV).map fun K => K.map (vput plS))).length = 2 := by
  have : (rowsL ((cutT bd.rimV).map fun K => K.map (vput plS))).length = _ := List.length_map ..
  rw [this, List.length_map, bd_len]
 have cr := (Ct.e_rim bd_ok).ro
 have hrl : (bd.rimV.map dV).length = 4 := rfl
 have n1 := Ct.e_pcen goodS
 have n2 := Ct.e_pcen goodT
 rw [cenS] at n1
 rw [cenT] at n2
 have s1 := same_v (Rat.divInt 2 1, Rat.divInt 3 2)
 have s2 := same_v (-(Rat.divInt 1 2), Rat.divInt 2 1)
 have en := e_penc bd_en
 have de := e_pdec (t := []) bd_en e_bdv (by decide)
 rw [List.append_nil] at de
 have g1 := e_edgeV (p := bd) (k := 1) (by decide) (by decide) bd_small (z 1 (by omega))
 have g2 := e_edgeV (p := bd) (k := -1) (by decide) (by decide) bd_small (z (-1) (by omega))
 have g3 := e_square (p := bd) (k := 0) (by decide) (by decide) bd_small (z 0 (by omega))
 rw [show edV bd.rim (edK 1 bd.rim.length) = (0, 3) by decide] at g1
 rw [show edV bd.rim (edK (-1) bd.rim.length) = (0, -3) by decide] at g2
 rw [show sqV bd.rim (edK 0 bd.rim.length) = 16 by decide] at g3
 have s3 := same_v (Rat.divInt 0 1, Rat.divInt 3 1)
 have s4 := same_v (Rat.divInt 0 1, Rat.divInt (-3) 1)
 have sm := e_same1 bd
 have hel : (byL (encP bd)).length = (encP bd).length := byL_len _
 rw [dPlS] at ce n1
 rw [dPlT] at n2
 rw [hv] at *
 rw [hL] at v2
 rw [hM] at v3
 rw [hF] at v4
 have q21 := q 2 1 (by omega) (by omega)
 have q12 := q 1 2 (by omega) (by omega)
 have q11 := q 1 1 (by omega) (by omega)
 have q32 := q 3 2 (by omega) (by omega)
 have o10 := o 1 0 (by omega) (by omega)
 have o03 := o 0 3 (by omega) (by omega)
 have o04 := o 0 (-3) (by omega) (by omega)
 have ng := e_neg4 (Rat.divInt 1 2)
 clear q o z
 change Pure PP _ _ (.ag (dV (Rat.divInt 0 1, Rat.divInt 3 1))) at g1
 change Pure PP _ _ (.ag (dV (Rat.divInt 0 1, Rat.divInt (-3) 1))) at g2
 change Pure PP _ _ (.v (.sl (bd.rimV.map dV))) at cr
 simp only [dR_0] at *
 generalize rowsL ((cutT bd.rimV).map fun K => K.map (vput plS)) = RW at *
 generalize bd.rimV.map dV = RM at *
 generalize encP bd = EB at *
 generalize Rat.divInt 1 1 = r11 at *
 generalize Rat.divInt 2 1 = r21 at *
 generalize Rat.divInt 3 2 = r32 at *
 generalize Rat.divInt 0 1 = r01 at *
 generalize Rat.divInt 3 1 = r31 at *
 generalize Rat.divInt (-3) 1 = rm31 at *
 generalize Rat.divInt 100 1 = r100 at *
 generalize Rat.divInt 1 2 = r12 at *
 exact tr [cl eb, cl eb, cl q21, cl eb, .slc (zs [0, 0, 0, 0]) 0 3 1 (zs [0, 0, 0]) rfl (by decide) (fun cs h => (zs_z1 _ cs h).1), cl eb, cl v1, nf, cl v2, nf, cl v3, nf, cl v4, nf, cl q12, cl Ct.e_still5, cl q11, cl o10,
  cl ce, .eqv 50 (ni (RW.length : Int)) (ni 2) (by rw [hcl]; rfl), nf, cl cr, .eqv 55 (ni (RM.length : Int)) (ni 4) (by rw [hrl]; rfl), nf, cl n1, cl q21, cl q32, cl s1, nf, cl n2, cl ng, cl q21, cl s2, nf,
  cl en, cl de, cl g1, cl o03, cl s3, yt, cl g2, cl o04, cl s4, yt, cl g3, yt, yt, cl en, .eqv 109 (ni ((byL EB).length : Int)) (ni (EB.length : Int)) (by rw [hel]), ye (t := (EB.length : Int) == (EB.length : Int)) (by simp), cl sm] (by kernel_rfl)
end Go.Proofs.YtlgnagnmoleeiaaGreat.E.Pc
namespace Go.Proofs.YtlgnagnmoleeiaaGreat.E.Pc
open Go.RowKit
set_option linter.unusedVariables false
set_option linter.unusedSimpArgs false
section
variable {x : Int}
theorem u64_ (h0 : 0 ≤ x) (h1 : x < 18446744073709551616) : IntKind.u64.wrap x = x := by
 rw [IntKind.wrap_u64]
 omega
theorem i64w (h0 : -9223372036854775808 ≤ x) (h1 : x ≤ 9223372036854775807) : IntKind.i64.wrap x = x := by
 simp only [IntKind.wrap, IntKind.bits, IntKind.signed]
 simp
 omega
noncomputable abbrev fsml : Func := fnOf PP 114
theorem e_small (h0 : 0 < x) (h1 : x < 1000000000) : Pure PP 114 [.ag [bo false, zl [x]]] (.tu [ni x, bo true]) := by
 have e0 : (zs [x])[0]? = some [ni x] := rfl
 have hu : V.k (.int .u64 (IntKind.u64.wrap (IntKind.u64.wrap (0 * 1000000000) + IntKind.u64.wrap x))) = .k (.int .u64 x) := by
  have : IntKind.u64.wrap (IntKind.u64.wrap (0 * 1000000000) + IntKind.u64.wrap x) = x := by
   rw [u64_ (x := x) (by omega) (by omega), Int.zero_mul, u64_ (x := 0) (by omega) (by omega), Int.zero_add, u64_ (by omega) (by omega)]
  rw [this]
 have hi : ni (IntKind.i64.wrap x) = ni x := by rw [i64w (by omega) (by omega)]
 refine pf (by kernel_rfl) (.to mo_ [.fz 1] [1, 4, 5] [] 0 [nf, nf, nf] (td' := lp fsml 0) (σ' := at_ fsml [(1, .ip [bo false, zl [x]]), (4, .k (.int .u64 0)), (5, ni 0)] []) ?_ (by kernel_rfl))
 refine .to mo_ [] [1, 4, 5] [] 0 [yt, .sel _ _ _ e0, .eqv 39 _ _ hu] (td' := lp fsml 0) (σ' := at_ fsml [(1, .ip [bo false, zl [x]]), (4, .k (.int .u64 x)), (5, ni (-1))] []) ?_ (by kernel_rfl)
 exact fi [nf, nf, nf, yt, ye (t := decide (x < 9223372036854775808)) (decide_eq_true (by omega)), .eqv 59 _ _ hi] (by kernel_rfl) (by kernel_rfl)
theorem e_whole1 (h0 : 0 < x) (h1 : x < 1000000000) (hd : digs x.natAbs = [x]) : Pure PP 51 [.ag (dR (Rat.divInt x 1))] (.tu [ni x, bo true]) := by
 have c := e_small h0 h1
 have e : dR (Rat.divInt x 1) = [bo false, zl [x], bo false, .sl []] := by
  have hr : Rat.divInt x 1 = (x : Rat) := Rat.num_divInt_den (x : Rat)
  rw [hr]
  have hq : dq (x : Rat) = 0 := rfl
  have hn : (x : Rat).num = x := rfl
  unfold dR
  rw [hq, hn, decide_eq_false (show ¬ x < 0 by omega)]
  unfold dg
  rw [hd, show digs (0 : Int).natAbs = [] from digs_z rfl]
  rfl
 rw [e]
 exact tr [nf, cl c] (by kernel_rfl)
end
end Go.Proofs.YtlgnagnmoleeiaaGreat.E.Pc
namespace Go.Proofs.YtlgnagnmoleeiaaGreat.E.Pc
open Go.RowKit
set_option linter.unusedVariables false
set_option linter.unusedSimpArgs false
section
variable {x k : Int} {n m : Nat} {p : Ct.Pi}
theorem ed_t (hm : n = m + 1) : (k.tmod ((m + 1 : Nat) : Int) < 0 → k.tmod ((m + 1 : Nat) : Int) + ((m + 1 : Nat) : Int) = ((edK k n : Nat) : Int)) ∧ (¬ k.tmod ((m + 1 : Nat) : Int) < 0 → k.tmod ((m + 1 : Nat) : Int) = ((edK k n : Nat) : Int)) := by
 subst hm
 unfold edK
 have h1 := Int.emod_nonneg k (show ((m + 1 : Nat) : Int) ≠ 0 by omega)
 have h2 := Int.emod_lt_of_pos k (show (0 : Int) < ((m + 1 : Nat) : Int) by omega)
 rw [Int.toNat_of_nonneg h1]
 have h3 := Int.tmod_eq_emod (a := k) (b := ((m + 1 : Nat) : Int))
 rw [Int.natAbs_natCast] at h3
 split at h3
 · exact ⟨fun h => by omega, fun h => by omega⟩
 · exact ⟨fun h => by omega, fun h => by omega⟩
theorem e_around12 (hm : n = m + 1) (hn : n ≤ 1000) : Pure PP 116 [ni k, ni ((m + 1 : Nat) : Int)] (ni ((edK k n : Nat) : Int)) := by
 obtain ⟨h1, h2⟩ := ed_t (k := k) hm
 have h3 := Int.tmod_lt_of_pos k (show (0 : Int) < ((m + 1 : Nat) : Int) by omega)
 have h4 := Int.lt_tmod_of_pos k (show (0 : Int) < ((m + 1 : Nat) : Int) by omega)
 by_cases g : k.tmod ((m + 1 : Nat) : Int) < 0
 · have e := h1 g
   exact tr [ye (t := decide (k.tmod ((m + 1 : Nat) : Int) < 0)) (decide_eq_true g), wq 13 (k.tmod ((m + 1 : Nat) : Int) + ((m + 1 : Nat) : Int)) ((edK k n : Nat) : Int) (by omega)] (by kernel_rfl)
 · have e := h2 g
   exact tr [na (t := decide (k.tmod ((m + 1 : Nat) : Int) < 0)) (decide_eq_false g), .eqv 16 (ni (k.tmod ((m + 1 : Nat) : Int))) (ni ((edK k n : Nat) : Int)) (by rw [e])] (by kernel_rfl)
theorem cor_q (h : 0 < p.rim.length) (i : Nat) : Pg.cor p.rimV i = Ct.qv (cpt p.rim (i % p.rim.length)) := by
 have hl : p.rimV.length = p.rim.length := List.length_map ..
 have hm : i % p.rim.length < p.rim.length := Nat.mod_lt _ h
 unfold Pg.cor cpt
 rw [hl]
 unfold Ct.Pi.rimV
 rw [List.getD_eq_getElem?_getD, List.getD_eq_getElem?_getD, List.getElem?_map, List.getElem?_eq_getElem hm]
 rfl
theorem sub1 (x y : Int) : Rat.divInt x 1 - Rat.divInt y 1 = Rat.divInt (x - y) 1 := by
 have h : ∀ z : Int, Rat.divInt z 1 = (z : Rat) := fun z => Rat.num_divInt_den (z : Rat)
 rw [h, h, h, Rat.intCast_sub]
theorem qv_sub (a b : Int × Int) : vsub (Ct.qv a) (Ct.qv b) = Ct.qv (a.1 - b.1, a.2 - b.2) := by
 unfold vsub Ct.qv
 rw [sub1, sub1]
theorem qv_bv {c : Int × Int} (h : (-100000 ≤ c.1 ∧ c.1 ≤ 100000) ∧ (-100000 ≤ c.2 ∧ c.2 ≤ 100000)) : Bv 20 (Ct.qv c) := by
 have key : ∀ x : Int, -100000 ≤ x ∧ x ≤ 100000 → I.Bd 20 x := fun x hx => by
  have h5 : x.natAbs ≤ 100000 := by omega
  show x.natAbs < 2 ^ 20
  omega
 exact ⟨Bq.divInt (key _ h.1) (by unfold I.Bd; decide) (by omega), Bq.divInt (key _ h.2) (by unfold I.Bd; decide) (by omega)⟩
theorem e_edge12 (ok : p.Ok 100) (hn : p.rim.length ≤ 1000) (hs : SmP p.rim) : Pure PP 55 [.ag p.v, ni k] (.ag (dV (Ct.qv (edV p.rim (edK k p.rim.length))))) := by
 have h0 := ok.n.1
 obtain ⟨m, hm⟩ : ∃ m, p.rim.length = m + 1 := ⟨p.rim.length - 1, by omega⟩
 have hl : p.rimV.length = p.rim.length := List.length_map ..
 have hq := ed_lt (k := k) h0
 have cr := (Ct.e_rim12 ok).ro
 have ca := e_around12 (k := k) hm (by omega)
 have cn := e_next (L := p.rimV) (i := edK k p.rim.length) (by omega) (by omega)
 rw [cor_q h0] at cn
 have b1 := qv_bv (cpt_in hs hq)
 have b2 := qv_bv (cpt_in hs (Nat.mod_lt (edK k p.rim.length + 1) h0))
 have e1 : (p.rimV.map dV)[edK k p.rim.length]? = some (dV (Ct.qv (cpt p.rim (edK k p.rim.length)))) := by
  unfold Ct.Pi.rimV cpt
  rw [List.getElem?_map, List.getElem?_map, List.getD_eq_getElem?_getD, List.getElem?_eq_getElem hq]
  rfl
 have cs := e_vsub5 b2 b1 (by show 10 * (_ + _) + _ ≤ _; omega)
 rw [qv_sub] at cs
 change Pure PP _ _ (.ag (dV (Ct.qv (edV p.rim (edK k p.rim.length))))) at cs
 have hml : (p.rimV.map dV).length = m + 1 := by rw [List.length_map, hl, hm]
 generalize edV p.rim (edK k p.rim.length) = E at *
 generalize edK k p.rim.length = q at *
 generalize Ct.qv (cpt p.rim q) = A at *
 generalize Ct.qv (cpt p.rim ((q + 1) % p.rim.length)) = C at *
 have hv : p.v = [ni p.id, ni p.home, .sl (Ct.ptR p.rim), .sl (Ct.wnR p.worn), zl p.marks] ++ (dR p.tol ++ (dR p.light ++ (dR p.heavy ++ (dR p.str ++ dR p.rough)))) := rfl
 rw [hv] at *
 change Pure PP _ [.sl (p.rimV.map dV), _] _ at cn
 generalize p.rimV.map dV = RM at *
 generalize Ct.ptR p.rim = PR at *
 generalize Ct.wnR p.worn = WR at *
 exact tr [cl cr, .eqv 11 (ni (RM.length : Int)) (ni ((m + 1 : Nat) : Int)) (by rw [hml]), cl ca, cl cn, .sel _ _ _ e1, cl cs] (by kernel_rfl)
end
end Go.Proofs.YtlgnagnmoleeiaaGreat.E.Pc
namespace Go.Proofs.YtlgnagnmoleeiaaGreat.E.Pc
open Go.RowKit
set_option linter.unusedVariables false
set_option linter.unusedSimpArgs false
section
variable {x : Int}
noncomputable abbrev fsm3 : Func := fnOf PP 180
theorem dI_1 (h0 : 0 < x) (hd : digs x.natAbs = [x]) : dI x = [bo false, zl [x]] := by
 unfold dI
 rw [decide_eq_false (show ¬ x < 0 by omega), hd]
 rfl
theorem e_small3 (h0 : 0 < x) (h1 : x < 1000000000) (hd : digs x.natAbs = [x]) : Pure PP 180 [.ag (dI x)] (.tu [ni x, bo true]) := by
 have e0 : (zs [x])[0]? = some [ni x] := rfl
 have m1 := e_of3 (x := 9223372036854775807) ⟨by decide, by decide⟩
 have m2 := e_of3 (x := -9223372036854775808) ⟨by decide, by decide⟩
 have c1 := e_cmp3 x 9223372036854775807
 have c2 := e_cmp3 x (-9223372036854775808)
 rw [show cmpZ x 9223372036854775807 = -1 by unfold cmpZ; rw [if_pos (by omega)]] at c1
 rw [show cmpZ x (-9223372036854775808) = 1 by unfold cmpZ; rw [if_neg (by omega), if_pos (by omega)]] at c2
 have hi : ni (IntKind.i64.wrap (IntKind.i64.wrap (0 * 1000000000) + x)) = ni x := by
  have : IntKind.i64.wrap (IntKind.i64.wrap (0 * 1000000000) + x) = x := by
   rw [Int.zero_mul, i64w (x := 0) (by omega) (by omega), Int.zero_add, i64w (by omega) (by omega)]
  rw [this]
 rw [dI_1 h0 hd] at *
 generalize dI 9223372036854775807 = A at *
 generalize dI (-9223372036854775808) = B at *
 refine pf (by kernel_rfl) (.to mo_ [.fz 1] [1, 4, 5] [] 0 [cl m1, cl c1, nf, cl m2, cl c2, nf] (td' := lp fsm3 0) (σ' := at_ fsm3 [(1, .ip [bo false, zl [x]]), (4, ni 0), (5, ni 0)] []) ?_ (by kernel_rfl))
 refine .to mo_ [] [1, 4, 5] [] 0 [yt, nf, .sel _ _ _ e0, .eqv 41 _ _ hi] (td' := lp fsm3 0) (σ' := at_ fsm3 [(1, .ip [bo false, zl [x]]), (4, ni x), (5, ni (-1))] []) ?_ (by kernel_rfl)
 exact fi [nf] (by kernel_rfl) (by kernel_rfl)
end
end Go.Proofs.YtlgnagnmoleeiaaGreat.E.Pc
namespace Go.Proofs.YtlgnagnmoleeiaaGreat.E.Pc
open Go.RowKit
set_option linter.unusedVariables false
set_option linter.unusedSimpArgs false
section
variable {x k : Int} {p : Ct.Pi}
theorem digs_sm (h0 : 0 < x) (h1 : x < 1000000000) : digs x.natAbs = [x] := by
 refine digs_one (by omega) ?_
 unfold digs
 rw [dif_neg (by omega), show x.natAbs / 1000000000 = 0 by omega]
 unfold digs
 rfl
theorem whole_d (h0 : 0 < x) (h1 : x < 1000000000) : dR (Rat.divInt x 1) = [bo false, zl [x], bo false, .sl []] := by
 have hr : Rat.divInt x 1 = (x : Rat) := Rat.num_divInt_den (x : Rat)
 rw [hr]
 have hq : dq (x : Rat) = 0 := rfl
 have hn : (x : Rat).num = x := rfl
 unfold dR
 rw [hq, hn, decide_eq_false (show ¬ x < 0 by omega)]
 unfold dg
 rw [digs_sm h0 h1, show digs (0 : Int).natAbs = [] from digs_z rfl]
 rfl
theorem e_whole4 (h0 : 0 < x) (h1 : x < 1000000000) : Pure PP 118 [.ag (dR (Rat.divInt x 1))] (.tu [ni x, bo true]) := by
 have c := e_small3 h0 h1 (digs_sm h0 h1)
 rw [dI_1 h0 (digs_sm h0 h1)] at c
 rw [whole_d h0 h1]
 exact tr [nf, cl c] (by kernel_rfl)
theorem e_whole (h0 : 0 < x) (h1 : x < 1000000000) : Pure PP 51 [.ag (dR (Rat.divInt x 1))] (.tu [ni x, bo true]) := e_whole1 h0 h1 (digs_sm h0 h1)
theorem dot_q (c : Int × Int) : vdot (Ct.qv c) (Ct.qv c) = Rat.divInt (c.1 * c.1 + c.2 * c.2) 1 := by
 have h : ∀ z : Int, Rat.divInt z 1 = (z : Rat) := fun z => Rat.num_divInt_den (z : Rat)
 unfold vdot Ct.qv
 rw [h, h, h, Rat.intCast_add, Rat.intCast_mul, Rat.intCast_mul]
/-- The reference's square of an edge. -/
theorem e_square12 (ok : p.Ok 100) (hn : p.rim.length ≤ 1000) (hs : SmP p.rim) (h0 : 0 < sqV p.rim (edK k p.rim.length)) (h1 : sqV p.rim (edK k p.rim.length) < 1000000000) : Pure PP 56 [.ag p.v, ni k] (ni (sqV p.rim (edK k p.rim.length))) := by
 have ce := e_edge12 (k := k) ok hn hs
 have hp := ok.n.1
 obtain ⟨⟨a1, a2⟩, a3, a4⟩ := ed_in hs hp (ed_lt (k := k) hp)
 have b : Bv 20 (Ct.qv (edV p.rim (edK k p.rim.length))) := by
  have key : ∀ x : Int, -200000 ≤ x ∧ x ≤ 200000 → I.Bd 20 x := fun x hx => by
   have h5 : x.natAbs ≤ 200000 := by omega
   show x.natAbs < 2 ^ 20
   omega
  exact ⟨Bq.divInt (key _ ⟨a1, a2⟩) (by unfold I.Bd; decide) (by omega), Bq.divInt (key _ ⟨a3, a4⟩) (by unfold I.Bd; decide) (by omega)⟩
 have cd := e_vdot5 b b (by show 10 * (_ + _) + _ ≤ _; omega)
 rw [dot_q] at cd
 have cw := e_whole4 h0 h1
 change Pure PP _ _ (.ag (dR (Rat.divInt (sqV p.rim (edK k p.rim.length)) 1))) at cd
 generalize sqV p.rim (edK k p.rim.length) = S at *
 generalize Rat.divInt S 1 = D at *
 generalize Ct.qv (edV p.rim (edK k p.rim.length)) = E at *
 have hv : p.v = [ni p.id, ni p.home, .sl (Ct.ptR p.rim), .sl (Ct.wnR p.worn), zl p.marks] ++ (dR p.tol ++ (dR p.light ++ (dR p.heavy ++ (dR p.str ++ dR p.rough)))) := rfl
 rw [hv] at *
 generalize Ct.ptR p.rim = PR at *
 generalize Ct.wnR p.worn = WR at *
 exact tr [cl ce, cl cd, cl cw] (by kernel_rfl)
end
end Go.Proofs.YtlgnagnmoleeiaaGreat.E.Pc
namespace Go.Proofs.YtlgnagnmoleeiaaGreat.E.Pc
open Go.RowKit
set_option linter.unusedVariables false
set_option linter.unusedSimpArgs false
theorem sq_pos {P : List (Int × Int)} {q : Nat} (hq : q < P.length) (hne : cpt P q ≠ cpt P ((q + 1) % P.length)) : 0 < sqV P q := by
 have h : (edV P q).1 ≠ 0 ∨ (edV P q).2 ≠ 0 := by
  by_cases h1 : (edV P q).1 = 0
  · right
    intro h2
    refine hne (Prod.ext ?_ ?_)
    · have : (cpt P ((q + 1) % P.length)).1 - (cpt P q).1 = 0 := h1
      omega
    · have : (cpt P ((q + 1) % P.length)).2 - (cpt P q).2 = 0 := h2
      omega
  · exact .inl h1
 unfold sqV
 have key : ∀ x : Int, 0 ≤ x * x ∧ (x ≠ 0 → 0 < x * x) := fun x => by
  rcases Int.lt_trichotomy x 0 with g | g | g
  · have := Int.mul_pos (show 0 < -x by omega) (show 0 < -x by omega)
    rw [Int.neg_mul_neg] at this
    exact ⟨by omega, fun _ => this⟩
  · subst g; exact ⟨by decide, fun e => absurd rfl e⟩
  · have := Int.mul_pos g g
    exact ⟨by omega, fun _ => this⟩
 have k1 := key (edV P q).1
 have k2 := key (edV P q).2
 rcases h with h | h
 · have := k1.2 h
   omega
 · have := k2.2 h
   omega
theorem bent_ne {L : List Vc} (h : Pg.Right L) {i : Nat} (hi : i < L.length) : Pg.cor L i ≠ Pg.cor L (i + 1) := fun e => by
 have hb := h.2.2.1 i hi
 rw [e] at hb
 refine hb ?_
 unfold Pg.cr vcrs vsub
 grind
/-- A valid rim's edges. -/
theorem sq_valid {p : Ct.Pi} {q : Nat} (hv : Pg.valid p.rimV = true) (hq : q < p.rim.length) : 0 < sqV p.rim q := by
 have hl : p.rimV.length = p.rim.length := List.length_map ..
 refine sq_pos hq fun e => ?_
 have h := bent_ne ((valid_iff _).1 hv) (i := q) (by omega)
 rw [cor_q (by omega), cor_q (by omega), Nat.mod_eq_of_lt hq, e] at h
 exact h rfl
end Go.Proofs.YtlgnagnmoleeiaaGreat.E.Pc
namespace Go.Proofs.YtlgnagnmoleeiaaGreat.E.Pc
open Go.RowKit
set_option linter.unusedVariables false
set_option linter.unusedSimpArgs false
section
variable {l : List Int} {k : Int} {P : List (Int × Int)} {p : Ct.Pi} {i j n m q : Nat}
theorem bq8 {x y : Int} (hx : -200 ≤ x ∧ x ≤ 200) (hy : 1 ≤ y ∧ y ≤ 200) : Bq 8 (Rat.divInt x y) := Bq.divInt (k := 8) (by unfold I.Bd; omega) (by unfold I.Bd; omega) (by omega)
theorem p12_bits (l : List Int) : Bq 8 (Ct.p12 l).tol ∧ Bq 8 (Ct.p12 l).light ∧ Bq 20 (Ct.p12 l).heavy ∧ Bq 8 (Ct.p12 l).str ∧ Bq 8 (Ct.p12 l).rough := by
 unfold Ct.p12
 generalize Ct.rimP l = P at *
 have a10 := atz_in l 10 2
 have a11 := atz_in l 11 5
 have a12 := atz_in l 12 3
 have a13 := atz_in l 13 99
 have a14 := atz_in l 14 4
 have bl : Bq 8 (Ct.pLight l) := bq8 (by omega) (by omega)
 exact ⟨bq8 (x := atz l 10 2) (y := 4) (by omega) (by omega), bl, (bl.add (bq8 (x := atz l 12 3) (y := 2) (by omega) (by omega))).mono (by omega), bq8 (x := 20 + atz l 13 99) (y := 1) (by omega) (by omega), bq8 (x := atz l 14 4) (y := 4) (by omega) (by omega)⟩
theorem p12_sm (l : List Int) : ∀ c ∈ (Ct.p12 l).rim, (-12 ≤ c.1 ∧ c.1 ≤ 12) ∧ (-12 ≤ c.2 ∧ c.2 ≤ 12) := fun c hc => by
 rw [Ct.p12_rim] at hc
 have := (Ct.rimP_in l).1 c hc
 unfold Ct.Sm_ at this
 omega
theorem p12_len (l : List Int) : 3 ≤ (Ct.p12 l).rim.length ∧ (Ct.p12 l).rim.length ≤ 5 := by
 rw [Ct.p12_rim]
 exact (Ct.rimP_in l).2
theorem p12_ok (l : List Int) : (Ct.p12 l).Ok 100 := by
 obtain ⟨b1, b2, b3, b4, b5⟩ := p12_bits l
 have hl := p12_len l
 exact ⟨fun x hx => by
  have := p12_sm l x hx
  exact ⟨⟨by omega, by omega⟩, ⟨by omega, by omega⟩⟩, by omega, b1.mono (by omega), b2.mono (by omega), b3.mono (by omega), b4.mono (by omega), b5.mono (by omega)⟩
theorem tri_val : ([0, 1, 2].all fun (a : Int) => [0, 1, 2, 3].all fun (b : Int) => Pg.valid (([(0, 0), (4 + a, 0), (b, 3)] : List (Int × Int)).map Ct.qv)) = true := by decide +kernel
theorem p12_val (l : List Int) : Pg.valid (Ct.p12 l).rimV = true := by
 show Pg.valid ((Ct.p12 l).rim.map Ct.qv) = true
 rw [Ct.p12_rim]
 unfold Ct.rimP
 split
 · rename_i h
   rwa [valid_eq] at h
 · have h0 := atz_in l 0 2
   have h1 := atz_in l 1 3
   have := tri_val
   rw [List.all_eq_true] at this
   have := this (atz l 0 2) (by simp; omega)
   rw [List.all_eq_true] at this
   exact this (atz l 1 3) (by simp; omega)
/-- The sum of the edges up to one. -/
def sumE (P : List (Int × Int)) (i : Nat) : Int × Int := ((cpt P (i % P.length)).1 - (cpt P 0).1, (cpt P (i % P.length)).2 - (cpt P 0).2)
theorem qv_add (a b : Int × Int) : vadd (Ct.qv a) (Ct.qv b) = Ct.qv (a.1 + b.1, a.2 + b.2) := by
 have h : ∀ z : Int, Rat.divInt z 1 = (z : Rat) := fun z => Rat.num_divInt_den (z : Rat)
 unfold vadd Ct.qv
 rw [h, h, h, h, h, h, Rat.intCast_add, Rat.intCast_add]
theorem sumE_next (h : i < P.length) : vadd (Ct.qv (sumE P i)) (Ct.qv (edV P i)) = Ct.qv (sumE P (i + 1)) := by
 rw [qv_add]
 unfold sumE edV
 rw [Nat.mod_eq_of_lt h]
 congr 1
 refine Prod.ext ?_ ?_ <;> (dsimp only; omega)
theorem sumE_0 (h : 0 < P.length) : Ct.qv (sumE P 0) = (0, 0) := by
 unfold sumE
 rw [Nat.zero_mod, Int.sub_self, Int.sub_self]
 decide +kernel
theorem sumE_end : Ct.qv (sumE P P.length) = Ct.qv (sumE P 0) := by
 unfold sumE
 rw [Nat.mod_self, Nat.zero_mod]
theorem cor_next (h : i < P.length) : vadd (Ct.qv (cpt P i)) (Ct.qv (edV P i)) = Ct.qv (cpt P ((i + 1) % P.length)) := by
 rw [qv_add]
 unfold edV
 congr 1
 refine Prod.ext ?_ ?_ <;> (dsimp only; omega)
theorem edK_nat (h : i < n) : edK (i : Int) n = i := by
 unfold edK
 rw [Int.emod_eq_of_lt (by omega) (by omega)]
 rfl
/-- The rim of nothing. -/
theorem e_rim0 : Pure PP 41 [.ag ([ni 0, ni 0, .sl [], .sl [], .sl []] ++ (Ct.z4_ ++ (Ct.z4_ ++ (Ct.z4_ ++ (Ct.z4_ ++ Ct.z4_)))))] (.v (.sl [])) := by
 refine pf (by kernel_rfl) (.to mo_ [] [3, 7, 8, 9] [] 0 [] (td' := lp Ct.frm 0) (σ' := at_ Ct.frm [(3, .nl), (7, .sl []), (8, ni ((0 : Nat) : Int)), (9, ni ((0 : Nat) : Int))] []) ?_ (by kernel_rfl))
 exact fi [nf] (by kernel_rfl) (by kernel_rfl)
end
end Go.Proofs.YtlgnagnmoleeiaaGreat.E.Pc
