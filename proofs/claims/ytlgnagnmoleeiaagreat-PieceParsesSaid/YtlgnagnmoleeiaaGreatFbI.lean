/-
 PIECE: the reference's Decode of any bytes.
-/
import Derived.Test.YtlgnagnmoleeiaaGreatFbD
import Derived.Test.YtlgnagnmoleeiaaGreatFbC
namespace Go.Proofs.YtlgnagnmoleeiaaGreat.E.Pc
open Go.RowKit
set_option linter.unusedVariables false
set_option linter.unusedSimpArgs false
section
variable {B : List UInt8} {n k i : Nat} {A A1 A2 A3 A4 : List Int} {r r1 r2 r3 r4 r5 : Rat} {e : Int} {R : List (List V)} {vr : V}
theorem decI_le (h : W.decI (B.drop n) = (A, k, e)) (hn : n ≤ B.length) : n + k ≤ B.length ∧ A.length ≤ B.length := by
 have := W.decL_le W.codec_int (B.drop n)
 change (W.decI (B.drop n)).1.length ≤ _ ∧ (W.decI (B.drop n)).2.1 ≤ _ at this
 rw [h, List.length_drop] at this
 simp only at this
 omega
theorem decQ_le' (h : decQ (B.drop n) = (r, k, e)) (hn : n ≤ B.length) : n + k ≤ B.length := by
 have := decQ_le (B.drop n)
 rw [h, List.length_drop] at this
 simp only at this
 omega
noncomputable abbrev fls : Func := fnOf PP 91
noncomputable abbrev GL (vr : V) (td : List Item) (σ : St) : Prop := Gd PP 91 (.v vr) td σ
noncomputable def lsS (B : List UInt8) (R : List (List V)) (n i : Nat) : St := at_ fls [(0, .sl (byL B)), (4, .ow 0), (5, ni (n : Int)), (6, ni (i : Int))] [.rw 22 1 R]
theorem ls_next (hb : B.length ≤ 1000000) (hi : i < 4) (hR : R.length ≤ 5) (h : W.decI (B.drop n) = (A, k, 0)) (hn : n ≤ B.length) (next : GL vr (lp fls 0) (lsS B (R ++ [[zl A]]) (n + k) (i + 1))) : GL vr (lp fls 0) (lsS B R n i) := by
 have c := e_rgetints (B.drop n) (by rw [List.length_drop]; omega)
 rw [h] at c
 change Pure PP _ _ (.tu [zl A, ni (k : Int), ni 0]) at c
 obtain ⟨h1, h2⟩ := decI_le h hn
 unfold lsS at next ⊢
 exact .to mo_ [.mv 0 2] [0, 4, 5, 6] [0] 1 [ye (t := decide ((i : Int) < 4)) (decide_eq_true (by omega)), slD B n hn, cl c, nf, .app R [[zl A]] (R ++ [[zl A]]) 10 rfl (show 0 < 1 by decide) (by rw [List.length_append]; exact Nat.add_le_add hR (show 1 ≤ 5 by decide)), wq 30 ((n : Int) + (k : Int)) ((n + k : Nat) : Int) (by omega), inc 13 i (by omega)] next (by kernel_rfl)
theorem ls_no (hb : B.length ≤ 1000000) (hi : i < 4) (h : W.decI (B.drop n) = (A, k, e)) (he : ¬ e = 0) (hn : n ≤ B.length) : GL (.tu [.sl [], ni 0]) (lp fls 0) (lsS B R n i) := by
 have c := e_rgetints (B.drop n) (by rw [List.length_drop]; omega)
 rw [h] at c
 change Pure PP _ _ (.tu [zl A, ni (k : Int), ni e]) at c
 unfold lsS
 exact fi [ye (t := decide ((i : Int) < 4)) (decide_eq_true (by omega)), slD B n hn, cl c, ye (t := e != 0) (by simpa using he)] (by kernel_rfl) (by kernel_rfl)
theorem ls_start (next : GL vr (lp fls 0) (lsS B [] 0 0)) : Pure PP 91 [.sl (byL B)] vr := by
 unfold lsS at next
 exact pf (by kernel_rfl) (.to mo_ [.ow 4 (.rw 22 1 [])] [0, 4, 5, 6] [0] 1 [] next (by kernel_rfl))
theorem ls_end : GL (.tu [.sl R, ni (n : Int)]) (lp fls 0) (lsS B R n 4) := by
 unfold lsS
 exact fi [nf] (by kernel_rfl) (by kernel_rfl)
noncomputable abbrev frt : Func := fnOf PP 92
noncomputable abbrev GT (vr : V) (td : List Item) (σ : St) : Prop := Gd PP 92 (.v vr) td σ
noncomputable def rtS (B : List UInt8) (R : List (List V)) (n i : Nat) : St := at_ frt [(0, .sl (byL B)), (4, .ow 0), (5, ni (n : Int)), (6, ni (i : Int))] [.rw 28 4 R]
theorem rt_next (hb : B.length ≤ 1000000) (hi : i < 5) (hR : R.length ≤ 5) (h : decQ (B.drop n) = (r, k, 0)) (hn : n ≤ B.length) (next : GT vr (lp frt 0) (rtS B (R ++ [dR r]) (n + k) (i + 1))) : GT vr (lp frt 0) (rtS B R n i) := by
 have c := e_rdec4 (B.drop n) (by rw [List.length_drop]; omega)
 rw [h] at c
 change Pure PP _ _ (.tu [.ag (dR r), ni (k : Int), ni 0]) at c
 have h1 := decQ_le' h hn
 unfold rtS at next ⊢
 exact .to mo_ [.mv 0 3] [0, 4, 5, 6] [0] 1 [ye (t := decide ((i : Int) < 5)) (decide_eq_true (by omega)), slD B n hn, cl c, nf, .app R [dR r] (R ++ [dR r]) 10 rfl (show 0 < 1 by decide) (by rw [List.length_append]; exact Nat.add_le_add hR (show 1 ≤ 5 by decide)), wq 30 ((n : Int) + (k : Int)) ((n + k : Nat) : Int) (by omega), inc 13 i (by omega)] next (by kernel_rfl)
theorem rt_no (hb : B.length ≤ 1000000) (hi : i < 5) (h : decQ (B.drop n) = (r, k, e)) (he : ¬ e = 0) (hn : n ≤ B.length) : GT (.tu [.sl [], ni 0]) (lp frt 0) (rtS B R n i) := by
 have c := e_rdec4 (B.drop n) (by rw [List.length_drop]; omega)
 rw [h] at c
 change Pure PP _ _ (.tu [.ag (dR r), ni (k : Int), ni e]) at c
 unfold rtS
 exact fi [ye (t := decide ((i : Int) < 5)) (decide_eq_true (by omega)), slD B n hn, cl c, ye (t := e != 0) (by simpa using he)] (by kernel_rfl) (by kernel_rfl)
theorem rt_start (next : GT vr (lp frt 0) (rtS B [] 0 0)) : Pure PP 92 [.sl (byL B)] vr := by
 unfold rtS at next
 exact pf (by kernel_rfl) (.to mo_ [.ow 4 (.rw 28 4 [])] [0, 4, 5, 6] [0] 1 [] next (by kernel_rfl))
theorem rt_end : GT (.tu [.sl R, ni (n : Int)]) (lp frt 0) (rtS B R n 5) := by
 unfold rtS
 exact fi [nf] (by kernel_rfl) (by kernel_rfl)
end
end Go.Proofs.YtlgnagnmoleeiaaGreat.E.Pc
namespace Go.Proofs.YtlgnagnmoleeiaaGreat.E.Pc
set_option maxHeartbeats 1000000
open Go.RowKit
set_option linter.unusedVariables false
set_option linter.unusedSimpArgs false
def zP : Ct.Pi := ⟨0, 0, [], [], [], 0, 0, 0, 0, 0⟩
/-- What Decode answers. -/
noncomputable def dcV (B : List UInt8) : Ct.Pi × Nat × Int := if (decPc B).2.2 = 0 then decPc B else (zP, 0, 2)
noncomputable def dcO (B : List UInt8) : V := .tu [.ag (dcV B).1.v, ni ((dcV B).2.1 : Int), ni (dcV B).2.2]
theorem dcO_no {B : List UInt8} (h : (decPc B).2.2 ≠ 0) : dcO B = vZ := by
 have hv : zP.v = [ni 0, ni 0, .sl (Ct.ptR []), .sl (Ct.wnR []), zl []] ++ (dR 0 ++ (dR 0 ++ (dR 0 ++ (dR 0 ++ dR 0)))) := rfl
 unfold dcO dcV
 rw [if_neg h]
 simp only
 rw [hv, dR_0]
 rfl
section
variable {B : List UInt8} {n k : Nat} {A : List Int} {r : Rat} {e : Int}
theorem crn_of : ∀ (l : List Int), l.length % 2 = 0 → ∃ P, l = crn P
 | [], _ => ⟨[], rfl⟩
 | [_], h => by simp at h
 | a :: b :: l, h => by
  obtain ⟨P, rfl⟩ := crn_of l (by simp at h; omega)
  exact ⟨(a, b) :: P, rfl⟩
theorem wnI_of : ∀ (l : List Int), ∃ ws r, l = wnI ws ++ r ∧ (r = [] ∨ ∃ x r', r = x :: r' ∧ x ≠ 0 ∧ x ≠ 1)
 | [] => ⟨[], [], rfl, .inl rfl⟩
 | a :: l => by
  obtain ⟨ws, r, rfl, hr⟩ := wnI_of l
  by_cases h0 : a = 0
  · exact ⟨false :: ws, r, by subst h0; rfl, hr⟩
  · by_cases h1 : a = 1
    · exact ⟨true :: ws, r, by subst h1; rfl, hr⟩
    · exact ⟨[], a :: (wnI ws ++ r), rfl, .inr ⟨a, _, rfl, h0, h1⟩⟩
theorem two_of (h : A.length = 2) : ∃ a b, A = [a, b] := by
 match A, h with
 | [a, b], _ => exact ⟨a, b, rfl⟩
theorem ne_b (h : ¬ e = 0) : (e == 0) = false := by simpa using h
/-- **Decode of any bytes**. -/
theorem e_pdecA (B : List UInt8) (hB : B.length ≤ 4000) : Pure PP 18 [.sl (byL B)] (dcO B) := by
 have hb : B.length ≤ 1000000 := by omega
 by_cases hG : (decPc B).2.2 = 0
 · obtain ⟨p, k1, k2, k3, k4, k5, k6, k7, k8, k9, hr, hz, he⟩ := pc_good hG
   obtain ⟨c1, c2, c3⟩ := codecPc.canon B hG
   have hen := encT_p p
   have n1 := decI_le hr.h1 (Nat.zero_le _)
   have n2 := decI_le hr.h2 n1.1
   have n3 := decI_le hr.h3 n2.1
   have n4 := decI_le hr.h4 n3.1
   have n5 := decQ_le' hr.h5 n4.1
   have n6 := decQ_le' hr.h6 n5
   have n7 := decQ_le' hr.h7 n6
   have n8 := decQ_le' hr.h8 n7
   have n9 := decQ_le' hr.h9 n8
   have hl := congrArg List.length c3
   rw [he] at c1 c2 hl
   simp only at c1 c2 hl
   rw [List.length_take, hen] at hl
   obtain ⟨pk, hm⟩ := pk_enc c1.1 (by omega)
   obtain ⟨⟨a1, a2, a3⟩, _⟩ := len_enc c1.1
   have cv := (vz_ok pk hm).1
   rw [hz] at cv
   have ho : dcO B = .tu [.ag p.v, ni ((0 + k1 + k2 + k3 + k4 + k5 + k6 + k7 + k8 + k9 : Nat) : Int), ni 0] := by
    unfold dcO dcV
    rw [if_pos hG, he]
   rw [ho]
   have hw : wnI p.worn = wnI p.worn ++ [] := (List.append_nil _).symm
   refine dc_start (dc_head (e_ints hb hr.h1 n1.1) (e_ints hb hr.h2 n2.1) (e_ints hb hr.h3 n3.1) (dc_rim (by omega) ?_))
   simp only [tupP]
   rw [hw]
   exact dc_worn (by omega) rfl (dc_end (by rw [List.append_nil, wnI_len]) (e_ints hb hr.h4 n4.1) (e_rat hb hr.h5 n5) (e_rat hb hr.h6 n6) (e_rat hb hr.h7 n7) (e_rat hb hr.h8 n8) (e_rat hb hr.h9 n9) cv)
 · rw [dcO_no hG]
   refine dc_start ?_
   rcases h1 : W.decI (B.drop 0) with ⟨A1, k1, e1⟩
   by_cases g1 : e1 = 0
   case neg => exact dt_1 (ints_thr hb h1 (ne_b g1) (Nat.zero_le _))
   subst g1
   have n1 := decI_le h1 (Nat.zero_le _)
   have i1 := e_ints hb h1 n1.1
   rcases h2 : W.decI (B.drop (0 + k1)) with ⟨A2, k2, e2⟩
   by_cases g2 : e2 = 0
   case neg => exact dt_2 i1 (ints_thr hb h2 (ne_b g2) n1.1)
   subst g2
   have n2 := decI_le h2 n1.1
   have i2 := e_ints hb h2 n2.1
   rcases h3 : W.decI (B.drop (0 + k1 + k2)) with ⟨A3, k3, e3⟩
   by_cases g3 : e3 = 0
   case neg => exact dt_3 i1 i2 (ints_thr hb h3 (ne_b g3) n2.1)
   subst g3
   have n3 := decI_le h3 n2.1
   have i3 := e_ints hb h3 n3.1
   by_cases g4 : A1.length = 2
   case neg => exact dt_4a i1 i2 i3 g4
   by_cases g5 : A2.length % 2 = 0
   case neg => exact dt_4b i1 i2 i3 g4 g5
   obtain ⟨id, home, rfl⟩ := two_of g4
   obtain ⟨P, rfl⟩ := crn_of A2 g5
   obtain ⟨ws, r, rfl, hr⟩ := wnI_of A3
   have hP := n2.2
   rw [crn_len] at hP
   have hW := n3.2
   rw [List.length_append, wnI_len] at hW
   refine dc_head i1 i2 i3 (dc_rim (by omega) (dc_worn (by omega) rfl ?_))
   rcases hr with rfl | ⟨x, r', rfl, hx⟩
   case inr => exact dt_5 hx
   have hN : (((wnI ws ++ []).length : Nat) : Int) = (ws.length : Int) := by rw [List.append_nil, wnI_len]
   rcases h4 : W.decI (B.drop (0 + k1 + k2 + k3)) with ⟨A4, k4, e4⟩
   by_cases g6 : e4 = 0
   case neg => exact dt_6 hN (ints_thr hb h4 (ne_b g6) n3.1)
   subst g6
   have n4 := decI_le h4 n3.1
   have i4 := e_ints hb h4 n4.1
   rcases h5 : decQ (B.drop (0 + k1 + k2 + k3 + k4)) with ⟨r1, k5, e5⟩
   by_cases g7 : e5 = 0
   case neg => exact dt_7 hN i4 (rat_thr hb h5 (ne_b g7) n4.1)
   subst g7
   have n5 := decQ_le' h5 n4.1
   have i5 := e_rat hb h5 n5
   rcases h6 : decQ (B.drop (0 + k1 + k2 + k3 + k4 + k5)) with ⟨r2, k6, e6⟩
   by_cases g8 : e6 = 0
   case neg => exact dt_8 (p := ⟨0, 0, [], [], [], r1, 0, 0, 0, 0⟩) hN i4 i5 (rat_thr hb h6 (ne_b g8) n5)
   subst g8
   have n6 := decQ_le' h6 n5
   have i6 := e_rat hb h6 n6
   rcases h7 : decQ (B.drop (0 + k1 + k2 + k3 + k4 + k5 + k6)) with ⟨r3, k7, e7⟩
   by_cases g9 : e7 = 0
   case neg => exact dt_9 (p := ⟨0, 0, [], [], [], r1, r2, 0, 0, 0⟩) hN i4 i5 i6 (rat_thr hb h7 (ne_b g9) n6)
   subst g9
   have n7 := decQ_le' h7 n6
   have i7 := e_rat hb h7 n7
   rcases h8 : decQ (B.drop (0 + k1 + k2 + k3 + k4 + k5 + k6 + k7)) with ⟨r4, k8, e8⟩
   by_cases g10 : e8 = 0
   case neg => exact dt_10 (p := ⟨0, 0, [], [], [], r1, r2, r3, 0, 0⟩) hN i4 i5 i6 i7 (rat_thr hb h8 (ne_b g10) n7)
   subst g10
   have n8 := decQ_le' h8 n7
   have i8 := e_rat hb h8 n8
   rcases h9 : decQ (B.drop (0 + k1 + k2 + k3 + k4 + k5 + k6 + k7 + k8)) with ⟨r5, k9, e9⟩
   by_cases g11 : e9 = 0
   case neg => exact dt_11 (p := ⟨0, 0, [], [], [], r1, r2, r3, r4, 0⟩) hN i4 i5 i6 i7 i8 (rat_thr hb h9 (ne_b g11) n8)
   subst g11
   have n9 := decQ_le' h9 n8
   have i9 := e_rat hb h9 n9
   let p : Ct.Pi := ⟨id, home, P, ws, A4, r1, r2, r3, r4, r5⟩
   have hrd : Rds B (tupP p) k1 k2 k3 k4 k5 k6 k7 k8 k9 := ⟨h1, h2, by rw [h3, List.append_nil]; rfl, h4, h5, h6, h7, h8, h9⟩
   have hz := pc_bad hG hrd
   have hT := rds_mk hrd
   obtain ⟨c1, c2, c3⟩ := codecT.canon B (by rw [hT])
   have hl := congrArg List.length c3
   rw [hT] at c1 c2 hl
   simp only at c1 c2 hl
   rw [List.length_take, encT_p] at hl
   obtain ⟨pk, hm⟩ := pk_enc c1 (by omega)
   have cv := (vz_ok pk hm).1
   exact dt_12 (p := p) (by rw [List.append_nil, wnI_len]) i4 i5 i6 i7 i8 i9 cv (ne_b hz)
end
end Go.Proofs.YtlgnagnmoleeiaaGreat.E.Pc
namespace Go.Proofs.YtlgnagnmoleeiaaGreat.E.Pc
set_option maxHeartbeats 1000000
open Go.RowKit
set_option linter.unusedVariables false
set_option linter.unusedSimpArgs false
noncomputable abbrev fD12 : Func := fnOf PP 28
noncomputable abbrev GD12 (vr : V) (td : List Item) (σ : St) : Prop := Gd PP 28 (.v vr) td σ
def rws (A1 A2 A3 M : List Int) : List (List V) := [[zl A1], [zl A2], [zl A3], [zl M]]
def qR (a b c d e : Rat) : List (List V) := [dR a, dR b, dR c, dR d, dR e]
def bxZ : HO := .bx 30 ([ni 0, ni 0, .nl, .nl, .nl] ++ z20)
noncomputable def d12S (id home : Int) (C Wl M : List Int) (r1 r2 r3 r4 r5 : Rat) (n m : Nat) (P : List (Int × Int)) (ws : List Bool) (sl : List (Nat × V)) : St := at_ fD12 ([(2, .lp 0 0), (5, .sl (rws [id, home] C Wl M)), (6, ni (n : Int)), (8, ni (m : Int)), (9, .lp 1 0)] ++ sl) [bxZ, .bx 30 ([ni id, ni home, .ow 2, .ow 3, zl M] ++ (dR r1 ++ (dR r2 ++ (dR r3 ++ (dR r4 ++ dR r5))))), .rw 93 2 (Ct.ptR P), .rw 4 1 (Ct.wnR ws)]
def i01 (x : Int) : Bool := inW x 0 1
section
variable {B : List UInt8} {n k i m : Nat} {A A1 A2 A3 A4 M C Wl : List Int} {r r1 r2 r3 r4 r5 : Rat} {e id home z : Int} {R : List (List V)} {vr : V} {P : List (Int × Int)} {ws : List Bool}
theorem dx_lists (l : Pure PP 91 [.sl (byL B)] (.tu [.sl [], ni 0])) : Pure PP 28 [.sl (byL B)] vZ := tr [cl l, yt] (by kernel_rfl)
theorem dx_rats (l : Pure PP 91 [.sl (byL B)] (.tu [.sl (rws A1 A2 A3 M), ni (n : Int)])) (hn : n ≤ B.length) (q : Pure PP 92 [.sl (byL (B.drop n))] (.tu [.sl [], ni 0])) : Pure PP 28 [.sl (byL B)] vZ := by
 unfold rws at l
 exact tr [cl l, nf, slD B n hn, cl q, yt, yt, yt] (by kernel_rfl)
theorem dx_len (l : Pure PP 91 [.sl (byL B)] (.tu [.sl (rws A1 A2 A3 M), ni (n : Int)])) (hn : n ≤ B.length) (q : Pure PP 92 [.sl (byL (B.drop n))] (.tu [.sl (qR r1 r2 r3 r4 r5), ni (m : Int)])) (h : A1.length ≠ 2) : Pure PP 28 [.sl (byL B)] vZ := by
 have e : (((zs A1).length : Int) != 2) = true := by rw [zs_len]; simpa using fun e => h (by omega)
 unfold rws at l
 unfold qR at q
 exact tr [cl l, nf, slD B n hn, cl q, nf, .sel [[zl A1], [zl A2], [zl A3], [zl M]] 0 [zl A1] rfl, ye e, yt] (by kernel_rfl)
theorem dx_even (l : Pure PP 91 [.sl (byL B)] (.tu [.sl (rws [id, home] A2 A3 M), ni (n : Int)])) (hn : n ≤ B.length) (q : Pure PP 92 [.sl (byL (B.drop n))] (.tu [.sl (qR r1 r2 r3 r4 r5), ni (m : Int)])) (h : A2.length % 2 ≠ 0) : Pure PP 28 [.sl (byL B)] vZ := by
 have m0 : ni (((zs A2).length : Int).tmod 2) = ni 1 := by
  rw [zs_len, show (2 : Int) = ((2 : Nat) : Int) from rfl, tmod_, show A2.length % 2 = 1 by omega]
  rfl
 unfold rws at l
 unfold qR at q
 exact tr [cl l, nf, slD B n hn, cl q, nf, .sel [[zl [id, home]], [zl A2], [zl A3], [zl M]] 0 [zl [id, home]] rfl, nf, .sel [[zl [id, home]], [zl A2], [zl A3], [zl M]] 1 [zl A2] rfl, .eqv 44 _ _ m0, yt] (by kernel_rfl)
theorem dx_head (l : Pure PP 91 [.sl (byL B)] (.tu [.sl (rws [id, home] (crn P) Wl M), ni (n : Int)])) (hn : n ≤ B.length) (q : Pure PP 92 [.sl (byL (B.drop n))] (.tu [.sl (qR r1 r2 r3 r4 r5), ni (m : Int)])) (next : GD12 vr (lp fD12 0) (d12S id home (crn P) Wl M r1 r2 r3 r4 r5 n m [] [] [(10, ni ((2 * 0 : Nat) : Int))])) : Pure PP 28 [.sl (byL B)] vr := by
 have hcl := crn_len P
 have m0 : ni (((zs (crn P)).length : Int).tmod 2) = ni 0 := by
  rw [zs_len, hcl, show (2 : Int) = ((2 : Nat) : Int) from rfl, tmod_, Nat.mul_mod_right]
  rfl
 unfold d12S rws at next
 unfold rws at l
 unfold qR at q
 generalize crn P = A2 at *
 exact pf (by kernel_rfl) (.to mo_ [.oc 1 2 (.rw 93 2 []), .oc 1 3 (.rw 4 1 [])] [2, 5, 6, 8, 9, 10] [0, 1, 2, 3] 4 [cl l, nf, slD B n hn, cl q, nf, .sel [[zl [id, home]], [zl A2], [zl Wl], [zl M]] 0 [zl [id, home]] rfl, nf, .sel [[zl [id, home]], [zl A2], [zl Wl], [zl M]] 1 [zl A2] rfl, .eqv 44 _ _ m0, nf, .sel [[zl [id, home]], [zl A2], [zl Wl], [zl M]] 0 [zl [id, home]] rfl, .sel (zs [id, home]) 0 [ni id] rfl, .sel [[zl [id, home]], [zl A2], [zl Wl], [zl M]] 0 [zl [id, home]] rfl, .sel (zs [id, home]) 1 [ni home] rfl, .sel [[zl [id, home]], [zl A2], [zl Wl], [zl M]] 3 [zl M] rfl, .sel [dR r1, dR r2, dR r3, dR r4, dR r5] 0 (dR r1) rfl, .sel [dR r1, dR r2, dR r3, dR r4, dR r5] 1 (dR r2) rfl, .sel [dR r1, dR r2, dR r3, dR r4, dR r5] 2 (dR r3) rfl, .sel [dR r1, dR r2, dR r3, dR r4, dR r5] 3 (dR r4) rfl, .sel [dR r1, dR r2, dR r3, dR r4, dR r5] 4 (dR r5) rfl] next (by kernel_rfl))
theorem dx_rim (nr : P.length ≤ 4000) (next : GD12 vr (lp fD12 1) (d12S id home (crn P) Wl M r1 r2 r3 r4 r5 n m P [] [(11, bo true), (12, ni ((0 : Nat) : Int))])) : GD12 vr (lp fD12 0) (d12S id home (crn P) Wl M r1 r2 r3 r4 r5 n m [] [] [(10, ni ((2 * 0 : Nat) : Int))]) := by
 have hcl := crn_len P
 refine Gd.loop (fun i => d12S id home (crn P) Wl M r1 r2 r3 r4 r5 n m (P.take i) [] [(10, ni ((2 * i : Nat) : Int))]) (fun i => i ≤ P.length) (fun i => P.length - i) ?_ 0 (Nat.zero_le _)
 intro i hi ih
 have hzl : (zs (crn P)).length = 2 * P.length := by rw [zs_len, hcl]
 have hrow : (rws [id, home] (crn P) Wl M)[1]? = some [zl (crn P)] := rfl
 have e81 : ni ((zs (crn P)).length : Int) = ni ((2 * P.length : Nat) : Int) := by rw [hzl]
 by_cases g : i < P.length
 · obtain ⟨e1, e2⟩ := crn_at g
   have nx := ih (i + 1) g (by omega)
   have hap := ptR_next g
   have hl : (Ct.ptR (P.take (i + 1))).length ≤ 4000 := by
    have : (Ct.ptR (P.take (i + 1))).length = (P.take (i + 1)).length := List.length_map ..
    rw [this, List.length_take]
    omega
   have hx : decide (((2 * i : Nat) : Int) < ((2 * P.length : Nat) : Int)) = true := decide_eq_true (by omega)
   unfold d12S bxZ at nx ⊢
   generalize Ct.ptR (P.take i) = A at *
   generalize Ct.ptR (P.take (i + 1)) = A' at *
   generalize cpt P i = c at *
   exact .to mo_ [.mv 2 5] [2, 5, 6, 8, 9, 10] [0, 1, 2, 3] 4 [.sel _ _ _ hrow, .eqv 81 _ _ e81, ye hx, .sel _ _ _ hrow, .sel _ _ _ e1, .sel _ _ _ hrow, inc 97 (2 * i) (by omega), .sel _ _ _ e2, .app A [[ni c.1, ni c.2]] A' 4000 hap (show 0 < 1 by decide) hl, wq 84 (((2 * i : Nat) : Int) + 2) ((2 * (i + 1) : Nat) : Int) (by omega)] nx (by kernel_rfl)
 · have e : i = P.length := by omega
   subst e
   have hx : decide (((2 * P.length : Nat) : Int) < ((2 * P.length : Nat) : Int)) = false := decide_eq_false (by omega)
   rw [List.take_length]
   unfold d12S bxZ at next ⊢
   exact .to mo_ [] [2, 5, 6, 8, 9, 11, 12] [0, 1, 2, 3] 4 [.sel _ _ _ hrow, .eqv 81 _ _ e81, na hx] next (by kernel_rfl)
def eq1 (x : Int) : Bool := x == 1
theorem wnR_eq {l : List Int} {x : Int} (h : l[i]? = some x) : Ct.wnR ((l.take i).map eq1) ++ [[bo (eq1 x)]] = Ct.wnR ((l.take (i + 1)).map eq1) := by
 unfold Ct.wnR
 rw [List.take_add_one, h, List.map_append, List.map_append]
 rfl
theorem dx_worn (nw : Wl.length ≤ 4000) (next : GD12 vr (lp fD12 1) (d12S id home C Wl M r1 r2 r3 r4 r5 n m P (Wl.map eq1) [(11, bo (Wl.all i01)), (12, ni (Wl.length : Int))])) : GD12 vr (lp fD12 1) (d12S id home C Wl M r1 r2 r3 r4 r5 n m P [] [(11, bo true), (12, ni ((0 : Nat) : Int))]) := by
 refine Gd.loop (fun j => d12S id home C Wl M r1 r2 r3 r4 r5 n m P ((Wl.take j).map eq1) [(11, bo ((Wl.take j).all i01)), (12, ni (j : Int))]) (fun j => j ≤ Wl.length) (fun j => Wl.length - j) ?_ 0 (Nat.zero_le _)
 intro j hj ih
 have hzl : (zs Wl).length = Wl.length := zs_len _
 have hrow : (rws [id, home] C Wl M)[2]? = some [zl Wl] := rfl
 have e108 : ni ((zs Wl).length : Int) = ni (Wl.length : Int) := by rw [hzl]
 by_cases g : j < Wl.length
 · obtain ⟨w, hw, _⟩ := Ct.get_of g
   have e1 := zs_at hw
   have nx := ih (j + 1) g (by omega)
   have hap := wnR_eq hw
   have hal := all_next (f := i01) hw
   have cw := e_within12 w 0 1
   have hl : (Ct.wnR ((Wl.take (j + 1)).map eq1)).length ≤ 4000 := by
    have : (Ct.wnR ((Wl.take (j + 1)).map eq1)).length = ((Wl.take (j + 1)).map eq1).length := List.length_map ..
    rw [this, List.length_map, List.length_take]
    omega
   have hx : decide ((j : Int) < (Wl.length : Int)) = true := decide_eq_true (by omega)
   rw [hal] at nx
   change Pure PP _ _ (bo (i01 w)) at cw
   unfold d12S bxZ at nx ⊢
   generalize Ct.ptR P = D at *
   generalize Ct.wnR ((Wl.take j).map eq1) = A at *
   generalize Ct.wnR ((Wl.take (j + 1)).map eq1) = A' at *
   cases hf : (Wl.take j).all i01 with
   | true =>
    rw [hf] at nx
    exact .to mo_ [.mv 3 5] [2, 5, 6, 8, 9, 11, 12] [0, 1, 2, 3] 4 [.sel _ _ _ hrow, .eqv 108 _ _ e108, ye hx, yt, .sel _ _ _ hrow, .sel _ _ _ e1, cl cw, .sel _ _ _ hrow, .sel _ _ _ e1, .app A [[bo (eq1 w)]] A' 4000 hap (show 0 < 1 by decide) hl, inc 111 j (by omega)] nx (by kernel_rfl)
   | false =>
    rw [hf] at nx
    exact .to mo_ [.mv 3 5] [2, 5, 6, 8, 9, 11, 12] [0, 1, 2, 3] 4 [.sel _ _ _ hrow, .eqv 108 _ _ e108, ye hx, nf, .sel _ _ _ hrow, .sel _ _ _ e1, .app A [[bo (eq1 w)]] A' 4000 hap (show 0 < 1 by decide) hl, inc 111 j (by omega)] nx (by kernel_rfl)
 · have e : j = Wl.length := by omega
   subst e
   rw [List.take_length]
   exact next
theorem dx_no (h : Wl.all i01 = false) : GD12 vZ (lp fD12 1) (d12S id home C Wl M r1 r2 r3 r4 r5 n m P ws [(11, bo (Wl.all i01)), (12, ni (Wl.length : Int))]) := by
 have hrow : (rws [id, home] C Wl M)[2]? = some [zl Wl] := rfl
 have e108 : ni ((zs Wl).length : Int) = ni (Wl.length : Int) := by rw [zs_len]
 have hx : decide ((Wl.length : Int) < (Wl.length : Int)) = false := decide_eq_false (by omega)
 rw [h]
 unfold d12S bxZ
 generalize Ct.ptR P = D at *
 generalize Ct.wnR ws = A at *
 exact fi [.sel _ _ _ hrow, .eqv 108 _ _ e108, na hx, yt, yt] (by kernel_rfl) (by kernel_rfl)
theorem dx_bad (h : Wl.all i01 = true) (cv : Pure PP 13 [.ag (⟨id, home, P, ws, M, r1, r2, r3, r4, r5⟩ : Ct.Pi).v] (ni z)) (hz : z ≠ 0) : GD12 vZ (lp fD12 1) (d12S id home C Wl M r1 r2 r3 r4 r5 n m P ws [(11, bo (Wl.all i01)), (12, ni (Wl.length : Int))]) := by
 have hrow : (rws [id, home] C Wl M)[2]? = some [zl Wl] := rfl
 have e108 : ni ((zs Wl).length : Int) = ni (Wl.length : Int) := by rw [zs_len]
 have hx : decide ((Wl.length : Int) < (Wl.length : Int)) = false := decide_eq_false (by omega)
 change Pure PP _ [.ag ([ni id, ni home, .sl (Ct.ptR P), .sl (Ct.wnR ws), zl M] ++ (dR r1 ++ (dR r2 ++ (dR r3 ++ (dR r4 ++ dR r5)))))] _ at cv
 rw [h]
 unfold d12S bxZ
 generalize Ct.ptR P = D at *
 generalize Ct.wnR ws = A at *
 exact fi [.sel _ _ _ hrow, .eqv 108 _ _ e108, na hx, nf, cl cv, ye (t := z != 0) (by simpa using hz)] (by kernel_rfl) (by kernel_rfl)
theorem dx_good (h : Wl.all i01 = true) (cv : Pure PP 13 [.ag (⟨id, home, P, ws, M, r1, r2, r3, r4, r5⟩ : Ct.Pi).v] (ni 0)) (hb : n + m ≤ 1000000) : GD12 (.tu [.ag (⟨id, home, P, ws, M, r1, r2, r3, r4, r5⟩ : Ct.Pi).v, ni ((n + m : Nat) : Int), ni 0]) (lp fD12 1) (d12S id home C Wl M r1 r2 r3 r4 r5 n m P ws [(11, bo (Wl.all i01)), (12, ni (Wl.length : Int))]) := by
 have hrow : (rws [id, home] C Wl M)[2]? = some [zl Wl] := rfl
 have e108 : ni ((zs Wl).length : Int) = ni (Wl.length : Int) := by rw [zs_len]
 have hx : decide ((Wl.length : Int) < (Wl.length : Int)) = false := decide_eq_false (by omega)
 change Pure PP _ [.ag ([ni id, ni home, .sl (Ct.ptR P), .sl (Ct.wnR ws), zl M] ++ (dR r1 ++ (dR r2 ++ (dR r3 ++ (dR r4 ++ dR r5)))))] _ at cv
 show GD12 (.tu [.ag ([ni id, ni home, .sl (Ct.ptR P), .sl (Ct.wnR ws), zl M] ++ (dR r1 ++ (dR r2 ++ (dR r3 ++ (dR r4 ++ dR r5))))), ni ((n + m : Nat) : Int), ni 0]) _ _
 rw [h]
 unfold d12S bxZ
 generalize Ct.ptR P = D at *
 generalize Ct.wnR ws = A at *
 exact fi [.sel _ _ _ hrow, .eqv 108 _ _ e108, na hx, nf, cl cv, nf, wq 145 ((n : Int) + (m : Int)) ((n + m : Nat) : Int) (by omega)] (by kernel_rfl) (by kernel_rfl)
theorem wnI_i01 (ws : List Bool) : (wnI ws).all i01 = true := by
 rw [List.all_eq_true]
 intro x hx
 obtain ⟨w, _, rfl⟩ := List.mem_map.1 hx
 cases w <;> rfl
theorem wnI_eq1 (ws : List Bool) : (wnI ws).map eq1 = ws := by
 unfold wnI
 rw [List.map_map]
 conv => rhs; rw [← List.map_id ws]
 refine List.map_congr_left fun w _ => ?_
 cases w <;> rfl
theorem i01_wnI (h : Wl.all i01 = true) : ∃ ws, Wl = wnI ws := by
 obtain ⟨ws, r, rfl, hr⟩ := wnI_of Wl
 rcases hr with rfl | ⟨x, r', rfl, h0, h1⟩
 · exact ⟨ws, List.append_nil _⟩
 · rw [List.all_eq_true] at h
   have := h x (by simp)
   unfold i01 inW at this
   simp only [Bool.and_eq_true, decide_eq_true_eq] at this
   omega
/-- **The reference's Decode of any bytes**. -/
theorem e_pdec12 (B : List UInt8) (hB : B.length ≤ 4000) : Pure PP 28 [.sl (byL B)] (dcO B) := by
 have hb : B.length ≤ 1000000 := by omega
 by_cases hG : (decPc B).2.2 = 0
 · obtain ⟨p, k1, k2, k3, k4, k5, k6, k7, k8, k9, hr, hz, he⟩ := pc_good hG
   obtain ⟨c1, c2, c3⟩ := codecPc.canon B hG
   have hen := encT_p p
   have n1 := decI_le hr.h1 (Nat.zero_le _)
   have n2 := decI_le hr.h2 n1.1
   have n3 := decI_le hr.h3 n2.1
   have n4 := decI_le hr.h4 n3.1
   have n5 := decQ_le' hr.h5 n4.1
   have n6 := decQ_le' hr.h6 n5
   have n7 := decQ_le' hr.h7 n6
   have n8 := decQ_le' hr.h8 n7
   have n9 := decQ_le' hr.h9 n8
   have hl := congrArg List.length c3
   rw [he] at c1 c2 hl
   simp only at c1 c2 hl
   rw [List.length_take, hen] at hl
   obtain ⟨pk, hm⟩ := pk_enc c1.1 (by omega)
   obtain ⟨⟨a1, a2, a3⟩, _⟩ := len_enc c1.1
   have cv := (vz_ok pk hm).2
   rw [hz] at cv
   have ho : dcO B = .tu [.ag p.v, ni ((0 + k1 + k2 + k3 + k4 + k5 + k6 + k7 + k8 + k9 : Nat) : Int), ni 0] := by
    unfold dcO dcV
    rw [if_pos hG, he]
   have hd : ∀ (a b : Nat), (B.drop a).drop b = B.drop (a + b) := fun a b => List.drop_drop
   have q1 : ∀ a b, decQ ((B.drop a).drop b) = decQ (B.drop (a + b)) := fun a b => by rw [hd]
   have hBd : (B.drop (0 + k1 + k2 + k3 + k4)).length ≤ 1000000 := by rw [List.length_drop]; omega
   have hln : (B.drop (0 + k1 + k2 + k3 + k4)).length = B.length - (0 + k1 + k2 + k3 + k4) := List.length_drop
   rw [ho]
   refine dx_head (P := p.rim) (ls_start (ls_next hb (by omega) (by simp) hr.h1 (Nat.zero_le _) (ls_next hb (by omega) (by simp) hr.h2 n1.1 (ls_next hb (by omega) (by simp) hr.h3 n2.1 (ls_next hb (by omega) (by simp) hr.h4 n3.1 ls_end))))) n4.1
    (rt_start (rt_next hBd (by omega) (by simp) (by rw [hd]; exact hr.h5) (Nat.zero_le _) (rt_next hBd (by omega) (by simp) (by rw [hd]; rw [show 0 + k1 + k2 + k3 + k4 + (0 + k5) = 0 + k1 + k2 + k3 + k4 + k5 by omega]; exact hr.h6) (by omega) (rt_next hBd (by omega) (by simp) (by rw [hd]; rw [show 0 + k1 + k2 + k3 + k4 + (0 + k5 + k6) = 0 + k1 + k2 + k3 + k4 + k5 + k6 by omega]; exact hr.h7) (by omega) (rt_next hBd (by omega) (by simp) (by rw [hd]; rw [show 0 + k1 + k2 + k3 + k4 + (0 + k5 + k6 + k7) = 0 + k1 + k2 + k3 + k4 + k5 + k6 + k7 by omega]; exact hr.h8) (by omega) (rt_next hBd (by omega) (by simp) (by rw [hd]; rw [show 0 + k1 + k2 + k3 + k4 + (0 + k5 + k6 + k7 + k8) = 0 + k1 + k2 + k3 + k4 + k5 + k6 + k7 + k8 by omega]; exact hr.h9) (by omega) rt_end)))))) ?_
   refine dx_rim (by omega) (dx_worn (by show (wnI p.worn).length ≤ _; rw [wnI_len]; omega) ?_)
   have hg := dx_good (id := p.id) (home := p.home) (C := crn p.rim) (Wl := wnI p.worn) (M := p.marks) (r1 := p.tol) (r2 := p.light) (r3 := p.heavy) (r4 := p.str) (r5 := p.rough) (P := p.rim) (ws := p.worn) (n := 0 + k1 + k2 + k3 + k4) (m := 0 + k5 + k6 + k7 + k8 + k9) (wnI_i01 _) cv (by omega)
   rw [show 0 + k1 + k2 + k3 + k4 + (0 + k5 + k6 + k7 + k8 + k9) = 0 + k1 + k2 + k3 + k4 + k5 + k6 + k7 + k8 + k9 by omega] at hg
   simp only [tupP]
   rw [wnI_eq1]
   exact hg
 · rw [dcO_no hG]
   rcases h1 : W.decI (B.drop 0) with ⟨A1, k1, e1⟩
   by_cases g1 : e1 = 0
   case neg => exact dx_lists (ls_start (ls_no hb (by omega) h1 g1 (Nat.zero_le _)))
   subst g1
   have n1 := decI_le h1 (Nat.zero_le _)
   rcases h2 : W.decI (B.drop (0 + k1)) with ⟨A2, k2, e2⟩
   by_cases g2 : e2 = 0
   case neg => exact dx_lists (ls_start (ls_next hb (by omega) (by simp) h1 (Nat.zero_le _) (ls_no hb (by omega) h2 g2 n1.1)))
   subst g2
   have n2 := decI_le h2 n1.1
   rcases h3 : W.decI (B.drop (0 + k1 + k2)) with ⟨A3, k3, e3⟩
   by_cases g3 : e3 = 0
   case neg => exact dx_lists (ls_start (ls_next hb (by omega) (by simp) h1 (Nat.zero_le _) (ls_next hb (by omega) (by simp) h2 n1.1 (ls_no hb (by omega) h3 g3 n2.1))))
   subst g3
   have n3 := decI_le h3 n2.1
   rcases h4 : W.decI (B.drop (0 + k1 + k2 + k3)) with ⟨A4, k4, e4⟩
   by_cases g4 : e4 = 0
   case neg => exact dx_lists (ls_start (ls_next hb (by omega) (by simp) h1 (Nat.zero_le _) (ls_next hb (by omega) (by simp) h2 n1.1 (ls_next hb (by omega) (by simp) h3 n2.1 (ls_no hb (by omega) h4 g4 n3.1)))))
   subst g4
   have n4 := decI_le h4 n3.1
   have l := ls_start (ls_next hb (by omega) (by simp) h1 (Nat.zero_le _) (ls_next hb (by omega) (by simp) h2 n1.1 (ls_next hb (by omega) (by simp) h3 n2.1 (ls_next hb (by omega) (by simp) h4 n3.1 ls_end))))
   have hd : ∀ (a b : Nat), (B.drop a).drop b = B.drop (a + b) := fun a b => List.drop_drop
   have hBd : (B.drop (0 + k1 + k2 + k3 + k4)).length ≤ 1000000 := by rw [List.length_drop]; omega
   have hln : (B.drop (0 + k1 + k2 + k3 + k4)).length = B.length - (0 + k1 + k2 + k3 + k4) := List.length_drop
   generalize hB' : B.drop (0 + k1 + k2 + k3 + k4) = B' at hBd hln
   rcases h5 : decQ (B'.drop 0) with ⟨r1, k5, e5⟩
   by_cases g5 : e5 = 0
   case neg => exact dx_rats l n4.1 (by rw [hB']; exact rt_start (rt_no hBd (by omega) h5 g5 (Nat.zero_le _)))
   subst g5
   have n5 := decQ_le' h5 (Nat.zero_le _)
   rcases h6 : decQ (B'.drop (0 + k5)) with ⟨r2, k6, e6⟩
   by_cases g6 : e6 = 0
   case neg => exact dx_rats l n4.1 (by rw [hB']; exact rt_start (rt_next hBd (by omega) (by simp) h5 (Nat.zero_le _) (rt_no hBd (by omega) h6 g6 n5)))
   subst g6
   have n6 := decQ_le' h6 n5
   rcases h7 : decQ (B'.drop (0 + k5 + k6)) with ⟨r3, k7, e7⟩
   by_cases g7 : e7 = 0
   case neg => exact dx_rats l n4.1 (by rw [hB']; exact rt_start (rt_next hBd (by omega) (by simp) h5 (Nat.zero_le _) (rt_next hBd (by omega) (by simp) h6 n5 (rt_no hBd (by omega) h7 g7 n6))))
   subst g7
   have n7 := decQ_le' h7 n6
   rcases h8 : decQ (B'.drop (0 + k5 + k6 + k7)) with ⟨r4, k8, e8⟩
   by_cases g8 : e8 = 0
   case neg => exact dx_rats l n4.1 (by rw [hB']; exact rt_start (rt_next hBd (by omega) (by simp) h5 (Nat.zero_le _) (rt_next hBd (by omega) (by simp) h6 n5 (rt_next hBd (by omega) (by simp) h7 n6 (rt_no hBd (by omega) h8 g8 n7)))))
   subst g8
   have n8 := decQ_le' h8 n7
   rcases h9 : decQ (B'.drop (0 + k5 + k6 + k7 + k8)) with ⟨r5, k9, e9⟩
   by_cases g9 : e9 = 0
   case neg => exact dx_rats l n4.1 (by rw [hB']; exact rt_start (rt_next hBd (by omega) (by simp) h5 (Nat.zero_le _) (rt_next hBd (by omega) (by simp) h6 n5 (rt_next hBd (by omega) (by simp) h7 n6 (rt_next hBd (by omega) (by simp) h8 n7 (rt_no hBd (by omega) h9 g9 n8))))))
   subst g9
   have n9 := decQ_le' h9 n8
   have q := rt_start (rt_next hBd (by omega) (by simp) h5 (Nat.zero_le _) (rt_next hBd (by omega) (by simp) h6 n5 (rt_next hBd (by omega) (by simp) h7 n6 (rt_next hBd (by omega) (by simp) h8 n7 (rt_next hBd (by omega) (by simp) h9 n8 rt_end)))))
   rw [← hB'] at q
   by_cases g10 : A1.length = 2
   case neg => exact dx_len l n4.1 q g10
   obtain ⟨id, home, rfl⟩ := two_of g10
   by_cases g11 : A2.length % 2 = 0
   case neg => exact dx_even l n4.1 q g11
   obtain ⟨P, rfl⟩ := crn_of A2 g11
   have hP := n2.2
   rw [crn_len] at hP
   refine dx_head l n4.1 q (dx_rim (by omega) (dx_worn (by omega) ?_))
   cases hf : A3.all i01 with
   | false =>
    rw [← hf]
    exact dx_no hf
   | true =>
    obtain ⟨ws, rfl⟩ := i01_wnI hf
    rw [← hf]
    let p : Ct.Pi := ⟨id, home, P, ws, A4, r1, r2, r3, r4, r5⟩
    rw [← hB'] at h5 h6 h7 h8 h9
    rw [hd] at h5 h6 h7 h8 h9
    have hrd : Rds B (tupP p) k1 k2 k3 k4 k5 k6 k7 k8 k9 := ⟨h1, h2, h3, h4, h5, by rw [show 0 + k1 + k2 + k3 + k4 + k5 = 0 + k1 + k2 + k3 + k4 + (0 + k5) by omega]; exact h6, by rw [show 0 + k1 + k2 + k3 + k4 + k5 + k6 = 0 + k1 + k2 + k3 + k4 + (0 + k5 + k6) by omega]; exact h7, by rw [show 0 + k1 + k2 + k3 + k4 + k5 + k6 + k7 = 0 + k1 + k2 + k3 + k4 + (0 + k5 + k6 + k7) by omega]; exact h8, by rw [show 0 + k1 + k2 + k3 + k4 + k5 + k6 + k7 + k8 = 0 + k1 + k2 + k3 + k4 + (0 + k5 + k6 + k7 + k8) by omega]; exact h9⟩
    have hz := pc_bad hG hrd
    have hT := rds_mk hrd
    obtain ⟨c1, c2, c3⟩ := codecT.canon B (by rw [hT])
    have hl := congrArg List.length c3
    rw [hT] at c1 c2 hl
    simp only at c1 c2 hl
    rw [List.length_take, encT_p] at hl
    obtain ⟨pk, hm⟩ := pk_enc c1 (by omega)
    have cv := (vz_ok pk hm).2
    rw [wnI_eq1]
    exact dx_bad hf cv hz
end
end Go.Proofs.YtlgnagnmoleeiaaGreat.E.Pc
