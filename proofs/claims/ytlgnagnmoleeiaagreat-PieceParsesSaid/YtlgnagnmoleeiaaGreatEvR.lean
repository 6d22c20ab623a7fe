/-
 none
-/
import Derived.Test.YtlgnagnmoleeiaaGreatEzJ
import Derived.Test.YtlgnagnmoleeiaaGreatEzB
import Derived.Test.YtlgnagnmoleeiaaGreatEoV
namespace Go.Proofs.YtlgnagnmoleeiaaGreat.E.Pc
open Go.RowKit
set_option linter.unusedVariables false
set_option linter.unusedSimpArgs false
section
variable {id home s z : Int} {P : List (Int × Int)} {M : List Int} {Wn : List Bool} {a b c d e : RN} {p : Ct.Pi}
theorem pv_ok0 (cv : Pure PP 63 [.ag (cN a)] (bo true)) (cs : Pure PP 64 [.ag (cN a)] (ni s)) (hs : decide (s < 0) = false) (next : GV z (lp fpv 0) (pvS id home P Wn M a b c d e 1)) : GV z (lp fpv 0) (pvS id home P Wn M a b c d e 0) := by
 unfold pvS at *
 unfold anyP at *
 generalize Ct.ptR P = PR at *
 generalize Ct.wnR Wn = WR at *
 exact .to mo_ [] [1, 32, 33] [] 0 [yt, cl cv, nf, cl cs, na hs] next (by kernel_rfl)
theorem pv_neg0 (cv : Pure PP 63 [.ag (cN a)] (bo true)) (cs : Pure PP 64 [.ag (cN a)] (ni s)) (hs : decide (s < 0) = true) : GV 1 (lp fpv 0) (pvS id home P Wn M a b c d e 0) := by
 unfold pvS at *
 unfold anyP at *
 generalize Ct.ptR P = PR at *
 generalize Ct.wnR Wn = WR at *
 exact fi [yt, cl cv, nf, cl cs, ye hs] (by kernel_rfl) (by kernel_rfl)
theorem pv_ok1 (cv : Pure PP 63 [.ag (cN b)] (bo true)) (cs : Pure PP 64 [.ag (cN b)] (ni s)) (hs : decide (s < 0) = false) (next : GV z (lp fpv 0) (pvS id home P Wn M a b c d e 2)) : GV z (lp fpv 0) (pvS id home P Wn M a b c d e 1) := by
 unfold pvS at *
 unfold anyP at *
 generalize Ct.ptR P = PR at *
 generalize Ct.wnR Wn = WR at *
 exact .to mo_ [] [1, 32, 33] [] 0 [yt, cl cv, nf, cl cs, na hs] next (by kernel_rfl)
theorem pv_neg1 (cv : Pure PP 63 [.ag (cN b)] (bo true)) (cs : Pure PP 64 [.ag (cN b)] (ni s)) (hs : decide (s < 0) = true) : GV 1 (lp fpv 0) (pvS id home P Wn M a b c d e 1) := by
 unfold pvS at *
 unfold anyP at *
 generalize Ct.ptR P = PR at *
 generalize Ct.wnR Wn = WR at *
 exact fi [yt, cl cv, nf, cl cs, ye hs] (by kernel_rfl) (by kernel_rfl)
theorem pv_ok2 (cv : Pure PP 63 [.ag (cN c)] (bo true)) (cs : Pure PP 64 [.ag (cN c)] (ni s)) (hs : decide (s < 0) = false) (next : GV z (lp fpv 0) (pvS id home P Wn M a b c d e 3)) : GV z (lp fpv 0) (pvS id home P Wn M a b c d e 2) := by
 unfold pvS at *
 unfold anyP at *
 generalize Ct.ptR P = PR at *
 generalize Ct.wnR Wn = WR at *
 exact .to mo_ [] [1, 32, 33] [] 0 [yt, cl cv, nf, cl cs, na hs] next (by kernel_rfl)
theorem pv_neg2 (cv : Pure PP 63 [.ag (cN c)] (bo true)) (cs : Pure PP 64 [.ag (cN c)] (ni s)) (hs : decide (s < 0) = true) : GV 1 (lp fpv 0) (pvS id home P Wn M a b c d e 2) := by
 unfold pvS at *
 unfold anyP at *
 generalize Ct.ptR P = PR at *
 generalize Ct.wnR Wn = WR at *
 exact fi [yt, cl cv, nf, cl cs, ye hs] (by kernel_rfl) (by kernel_rfl)
theorem pv_ok3 (cv : Pure PP 63 [.ag (cN d)] (bo true)) (cs : Pure PP 64 [.ag (cN d)] (ni s)) (hs : decide (s < 0) = false) (next : GV z (lp fpv 0) (pvS id home P Wn M a b c d e 4)) : GV z (lp fpv 0) (pvS id home P Wn M a b c d e 3) := by
 unfold pvS at *
 unfold anyP at *
 generalize Ct.ptR P = PR at *
 generalize Ct.wnR Wn = WR at *
 exact .to mo_ [] [1, 32, 33] [] 0 [yt, cl cv, nf, cl cs, na hs] next (by kernel_rfl)
theorem pv_neg3 (cv : Pure PP 63 [.ag (cN d)] (bo true)) (cs : Pure PP 64 [.ag (cN d)] (ni s)) (hs : decide (s < 0) = true) : GV 1 (lp fpv 0) (pvS id home P Wn M a b c d e 3) := by
 unfold pvS at *
 unfold anyP at *
 generalize Ct.ptR P = PR at *
 generalize Ct.wnR Wn = WR at *
 exact fi [yt, cl cv, nf, cl cs, ye hs] (by kernel_rfl) (by kernel_rfl)
theorem pv_ok4 (cv : Pure PP 63 [.ag (cN e)] (bo true)) (cs : Pure PP 64 [.ag (cN e)] (ni s)) (hs : decide (s < 0) = false) (next : GV z (lp fpv 0) (pvS id home P Wn M a b c d e 5)) : GV z (lp fpv 0) (pvS id home P Wn M a b c d e 4) := by
 unfold pvS at *
 unfold anyP at *
 generalize Ct.ptR P = PR at *
 generalize Ct.wnR Wn = WR at *
 exact .to mo_ [] [1, 32, 33] [] 0 [yt, cl cv, nf, cl cs, na hs] next (by kernel_rfl)
theorem pv_neg4 (cv : Pure PP 63 [.ag (cN e)] (bo true)) (cs : Pure PP 64 [.ag (cN e)] (ni s)) (hs : decide (s < 0) = true) : GV 1 (lp fpv 0) (pvS id home P Wn M a b c d e 4) := by
 unfold pvS at *
 unfold anyP at *
 generalize Ct.ptR P = PR at *
 generalize Ct.wnR Wn = WR at *
 exact fi [yt, cl cv, nf, cl cs, ye hs] (by kernel_rfl) (by kernel_rfl)
/-- A piece with few corners. -/
structure Pk (p : Ct.Pi) : Prop where
 r : ∀ x ∈ p.rim, W.Is64 x.1 ∧ W.Is64 x.2
 n : p.rim.length ≤ 4000
 tol : Bq 150000 p.tol
 light : Bq 150000 p.light
 heavy : Bq 150000 p.heavy
 str : Bq 150000 p.str
 rough : Bq 150000 p.rough
theorem pk_of (h : p.Ok 100) : Pk p := ⟨h.r, Nat.le_trans h.n.2 (by omega), h.tol.mono (by omega), h.light.mono (by omega), h.heavy.mono (by omega), h.str.mono (by omega), h.rough.mono (by omega)⟩
theorem e_rimW (h : Pk p) : Pure PP 41 [.ag p.v] (.o 58 8 (p.rimV.map dV)) := by
 have hn := h.n
 have hl : (Ct.ptR p.rim).length = p.rim.length := List.length_map ..
 have hv : p.rimV.length = p.rim.length := List.length_map ..
 let X : Nat → St := fun k => at_ Ct.frm [(3, .ow 1), (7, .sl (Ct.ptR p.rim)), (8, ni (p.rim.length : Int)), (9, ni (k : Int))] [.dead, .rw 58 8 ((p.rimV.take k).map dV)]
 refine pf (by kernel_rfl) (.to mo_ [.ow 3 (.rw 58 8 [])] [3, 7, 8, 9] [1] 2 [.eqv 8 (ni ((Ct.ptR p.rim).length : Int)) (ni (p.rim.length : Int)) (by rw [hl])] (td' := lp Ct.frm 0) (σ' := X 0) ?_ (by kernel_rfl))
 refine Gd.loop X (fun k => k ≤ p.rim.length) (fun k => p.rim.length - k) ?_ 0 (Nat.zero_le _)
 intro k hk ih
 by_cases g : k < p.rim.length
 · obtain ⟨q, hq, hm⟩ := Ct.get_of g
   obtain ⟨h1, h2⟩ := h.r q hm
   exact .to mo_ [.mv 1 4] [3, 7, 8, 9] [1] 2 [ye (t := decide ((k : Int) < (p.rim.length : Int))) (decide_eq_true (by omega)), .sel _ _ _ (Ct.pt_at hq), cl (Ct.e_pof h1 h2), .app ((p.rimV.take k).map dV) ([Ct.qv q].map dV) ((p.rimV.take (k + 1)).map dV) 5000 (Ct.rim_app hq) Nat.zero_lt_one (by rw [List.length_map, List.length_take]; omega), inc 21 k (by omega)] (ih (k + 1) g (by omega)) (by kernel_rfl)
 · have e : k = p.rim.length := by omega
   subst e
   have hX : X p.rim.length = at_ Ct.frm [(3, .ow 1), (7, .sl (Ct.ptR p.rim)), (8, ni (p.rim.length : Int)), (9, ni (p.rim.length : Int))] [.dead, .rw 58 8 (p.rimV.map dV)] := by simp only [X]; rw [← hv, List.take_length]
   rw [hX]
   exact fi [na (t := decide ((p.rim.length : Int) < (p.rim.length : Int))) (decide_eq_false (by omega))] (by kernel_rfl) (by kernel_rfl)
/-- What is asked of the numbers, and of the rim. -/
def smB (p : Ct.Pi) : Bool := decide (cmpQ p.tol (Rat.divInt 4 1) ≤ 0) && decide (cmpQ p.rough (Rat.divInt 4 1) ≤ 0)
def hvB (p : Ct.Pi) : Bool := decide (sgnZ p.light.num > 0) && (decide (cmpQ p.light p.heavy ≤ 0) && decide (cmpQ p.heavy (Rat.divInt 1000 1) ≤ 0))
noncomputable def pvT (p : Ct.Pi) (m : List (Nat × V)) : St := at_ fpv ([(1, .ip p.v)] ++ m) []
/-- The last questions. -/
theorem pv_last {b7 b8 v : Bool} (ok : Pk p) (cv : Pure PP 67 [dL p.rimV] (bo v)) : GV (if (b7 && (b8 && (!(sgnZ p.str.num == 0) && v))) = true then 0 else 1) (rg fpv 15) (pvT p [(7, bo b7), (8, bo b8)]) := by
 have cr := (e_rimW ok).ro
 have cs := e_rsign p.str
 have hv : p.v = [ni p.id, ni p.home, .sl (Ct.ptR p.rim), .sl (Ct.wnR p.worn), zl p.marks] ++ (dR p.tol ++ (dR p.light ++ (dR p.heavy ++ (dR p.str ++ dR p.rough)))) := rfl
 unfold pvT
 rw [hv] at *
 generalize sgnZ p.str.num = sz at *
 generalize Ct.ptR p.rim = PR at *
 generalize Ct.wnR p.worn = WR at *
 generalize p.rimV = L at *
 cases b7 with
 | false => exact fi [yt, yt, yt, yt] (by kernel_rfl) (by kernel_rfl)
 | true =>
   cases b8 with
   | false => exact fi [nf, yt, yt, yt] (by kernel_rfl) (by kernel_rfl)
   | true =>
     cases hz : (sz == 0) with
     | true => exact fi [nf, nf, cl cs, ye hz, yt] (by kernel_rfl) (by kernel_rfl)
     | false =>
       cases v with
       | true => exact fi [nf, nf, cl cs, na hz, cl cr, cl cv, nf] (by kernel_rfl) (by kernel_rfl)
       | false => exact fi [nf, nf, cl cs, na hz, cl cr, cl cv, yt] (by kernel_rfl) (by kernel_rfl)
end
end Go.Proofs.YtlgnagnmoleeiaaGreat.E.Pc
namespace Go.Proofs.YtlgnagnmoleeiaaGreat.E.Pc
open Go.RowKit
set_option linter.unusedVariables false
set_option linter.unusedSimpArgs false
section
variable {z : Int} {p : Ct.Pi}
theorem any_v (p : Ct.Pi) : anyP p.id p.home p.rim p.worn p.marks (ofR p.tol) (ofR p.light) (ofR p.heavy) (ofR p.str) (ofR p.rough) = p.v := rfl
noncomputable abbrev pvP (p : Ct.Pi) (i : Int) : St := pvS p.id p.home p.rim p.worn p.marks (ofR p.tol) (ofR p.light) (ofR p.heavy) (ofR p.str) (ofR p.rough) i
theorem is_ (x : Int) (h : -100000 ≤ x ∧ x ≤ 100000) : W.Is64 x := ⟨by omega, by omega⟩
theorem b4 : Bq 150000 (Rat.divInt 4 1) := Bq.mono (j := 11) (Bq.divInt (by unfold I.Bd; decide) (by unfold I.Bd; decide) (by omega)) (by omega)
theorem b1000 : Bq 150000 (Rat.divInt 1000 1) := Bq.mono (j := 11) (Bq.divInt (by unfold I.Bd; decide) (by unfold I.Bd; decide) (by omega)) (by omega)
/-- Small numbers. -/
theorem pv_sm (ok : Pk p) (next : GV z (rg fpv 14) (pvT p [(7, bo (smB p))])) : GV z (lp fpv 0) (pvP p 5) := by
 have c0 := e_rof (is_ 4 (by omega)) (is_ 1 (by omega))
 have c1 := e_rcmp ok.tol b4 (by omega)
 have c2 := e_rcmp ok.rough b4 (by omega)
 have hv : p.v = [ni p.id, ni p.home, .sl (Ct.ptR p.rim), .sl (Ct.wnR p.worn), zl p.marks] ++ (dR p.tol ++ (dR p.light ++ (dR p.heavy ++ (dR p.str ++ dR p.rough)))) := rfl
 unfold smB at next
 unfold pvP pvS
 rw [any_v]
 unfold pvT at next
 rw [hv] at *
 generalize Rat.divInt 4 1 = r4 at *
 generalize Ct.ptR p.rim = PR at *
 generalize Ct.wnR p.worn = WR at *
 cases h1 : decide (cmpQ p.tol r4 ≤ 0) with
 | true =>
   rw [h1] at next
   exact .to mo_ [] [1, 7] [] 0 [nf, cl c0, cl c1, ye h1, cl c2] next (by kernel_rfl)
 | false =>
   rw [h1] at next
   exact .to mo_ [] [1, 7] [] 0 [nf, cl c0, cl c1, na h1] next (by kernel_rfl)
/-- Weights. -/
theorem pv_hv {b7 : Bool} (ok : Pk p) (next : GV z (rg fpv 15) (pvT p [(7, bo b7), (8, bo (hvB p))])) : GV z (rg fpv 14) (pvT p [(7, bo b7)]) := by
 have c0 := e_rof (is_ 1000 (by omega)) (is_ 1 (by omega))
 have c1 := e_rsign p.light
 have c2 := e_rcmp ok.light ok.heavy (by omega)
 have c3 := e_rcmp ok.heavy b1000 (by omega)
 have hv : p.v = [ni p.id, ni p.home, .sl (Ct.ptR p.rim), .sl (Ct.wnR p.worn), zl p.marks] ++ (dR p.tol ++ (dR p.light ++ (dR p.heavy ++ (dR p.str ++ dR p.rough)))) := rfl
 unfold hvB at next
 unfold pvT at next ⊢
 rw [hv] at *
 generalize Rat.divInt 1000 1 = r4 at *
 generalize Ct.ptR p.rim = PR at *
 generalize Ct.wnR p.worn = WR at *
 generalize sgnZ p.light.num = sl at *
 cases h1 : decide (sl > 0) with
 | true =>
   rw [h1] at next
   cases h2 : decide (cmpQ p.light p.heavy ≤ 0) with
   | true =>
     rw [h2] at next
     exact .to mo_ [] [1, 7, 8] [] 0 [cl c1, ye h1, cl c2, ye h2, cl c0, cl c3] next (by kernel_rfl)
   | false =>
     rw [h2] at next
     exact .to mo_ [] [1, 7, 8] [] 0 [cl c1, ye h1, cl c2, na h2] next (by kernel_rfl)
 | false =>
   rw [h1] at next
   exact .to mo_ [] [1, 7, 8] [] 0 [cl c1, na h1, nf] next (by kernel_rfl)
def fineB (p : Ct.Pi) (v : Bool) : Bool := smB p && (hvB p && (!(sgnZ p.str.num == 0) && v))
theorem bq1 {r : Rat} (h : Bq 150000 r) : Pure PP 63 [.ag (cN (ofR r))] (bo true) := e_rvalid h (by omega)
theorem sg1 (r : Rat) : Pure PP 64 [.ag (cN (ofR r))] (ni (sgnZ r.num)) := e_rsign r
/-- A piece whose numbers are not below zero. -/
theorem e_pvalid {v : Bool} (ok : Pk p) (hn : p.rim.length ≤ 12) (hr : rngB p.id p.home p.rim p.marks = true) (hw : p.worn.length = p.rim.length) (hm : p.marks.length = p.rim.length) (h0 : decide (sgnZ p.tol.num < 0) = false) (h1 : decide (sgnZ p.light.num < 0) = false) (h2 : decide (sgnZ p.heavy.num < 0) = false) (h3 : decide (sgnZ p.str.num < 0) = false) (h4 : decide (sgnZ p.rough.num < 0) = false) (cv : Pure PP 67 [dL p.rimV] (bo v)) : Pure PP 12 [.ag p.v] (ni (if fineB p v = true then 0 else 1)) := by
 rw [← any_v]
 refine pv_head hn hr hw hm ?_
 refine pv_ok0 (bq1 ok.tol) (sg1 _) h0 ?_
 refine pv_ok1 (bq1 ok.light) (sg1 _) h1 ?_
 refine pv_ok2 (bq1 ok.heavy) (sg1 _) h2 ?_
 refine pv_ok3 (bq1 ok.str) (sg1 _) h3 ?_
 refine pv_ok4 (bq1 ok.rough) (sg1 _) h4 ?_
 exact pv_sm ok (pv_hv ok (pv_last ok cv))
end
end Go.Proofs.YtlgnagnmoleeiaaGreat.E.Pc
namespace Go.Proofs.YtlgnagnmoleeiaaGreat.E.Pc
open Go.RowKit
set_option linter.unusedVariables false
set_option linter.unusedSimpArgs false
/-- A piece with any numbers. -/
structure Pr where
 id : Int
 home : Int
 rim : List (Int × Int)
 worn : List Bool
 marks : List Int
 a : RN
 b : RN
 c : RN
 d : RN
 e : RN
def Pr.v (p : Pr) : List V := anyP p.id p.home p.rim p.worn p.marks p.a p.b p.c p.d p.e
structure Pr.Ok (p : Pr) : Prop where
 id : W.Is64 p.id
 home : W.Is64 p.home
 r : ∀ x ∈ p.rim, W.Is64 x.1 ∧ W.Is64 x.2
 m : ∀ x ∈ p.marks, W.Is64 x
 nr : p.rim.length ≤ 100
 nw : p.worn.length ≤ 100
 nm : p.marks.length ≤ 100
 a : Bn 1000 p.a
 b : Bn 1000 p.b
 c : Bn 1000 p.c
 d : Bn 1000 p.d
 e : Bn 1000 p.e
section
variable {id home : Int} {P : List (Int × Int)} {M : List Int} {Wn : List Bool} {n lo hi x : Int} {a b c d e : RN} {p : Pr} {r : Rat} {k i : Nat}
theorem e_within12 (n lo hi : Int) : Pure PP 68 [ni n, ni lo, ni hi] (bo (inW n lo hi)) := by
 unfold inW
 by_cases h : n ≥ lo
 · rw [decide_eq_true h]
   exact tr [ye (t := decide (n ≥ lo)) (decide_eq_true h)] (by kernel_rfl)
 · rw [decide_eq_false h]
   exact tr [na (t := decide (n ≥ lo)) (decide_eq_false h)] (by kernel_rfl)
/-- A number from 0 to a greatest one. -/
def btw (r : Rat) (x : Int) : Bool := decide (sgnZ r.num ≥ 0) && decide (cmpQ r (Rat.divInt x 1) ≤ 0)
theorem e_between (hr : Bq 150000 r) (hx : 0 ≤ x ∧ x ≤ 1000) : Pure PP 70 [.ag (cN (ofR r)), ni x] (bo (btw r x)) := by
 have cv := e_valid4 hr (by omega)
 have cs := e_sign4 r
 have co := e_of4 (x := x) (y := 1) ⟨by omega, by omega⟩ ⟨by decide, by decide⟩
 have bx : Bq 150000 (Rat.divInt x 1) := Bq.mono (j := 20) (Bq.divInt (by unfold I.Bd; omega) (by unfold I.Bd; decide) (by omega)) (by omega)
 have cc := e_cmp4 hr bx (by omega)
 unfold btw
 rw [cN_ofR]
 generalize sgnZ r.num = s at *
 cases h : decide (s ≥ 0) with
 | true => exact tr [cl cv, yt, cl cs, ye h, cl co, cl cc] (by kernel_rfl)
 | false => exact tr [cl cv, yt, cl cs, na h] (by kernel_rfl)
theorem e_between_no (h : ¬ rok a) (hb : Bn 1000 a) : Pure PP 70 [.ag (cN a), ni x] (bo false) :=
 tr [cl (e_valid4_no h hb (by omega)), nf, nf] (by kernel_rfl)
theorem e_valid4_ex (hb : Bn 1000 a) : ∃ t : Bool, Pure PP 71 [.ag (cN a)] (bo t) ∧ (¬ rok a → t = false) := by
 by_cases h : rok a
 · obtain ⟨r, rfl⟩ := h
   exact ⟨true, e_valid4 (hb.bq (by omega)) (by omega), fun g => absurd ⟨r, rfl⟩ g⟩
 · exact ⟨false, e_valid4_no h hb (by omega), fun _ => rfl⟩
noncomputable abbrev fv12 : Func := fnOf PP 13
noncomputable abbrev GV12 (z : Int) (td : List Item) (σ : St) : Prop := Gd PP 13 (.v (ni z)) td σ
noncomputable def v12S (p : Pr) (m : List (Nat × V)) : St := at_ fv12 ([(1, .lp 0 0)] ++ m) [.bx 30 p.v]
theorem all_next {α : Type} {f : α → Bool} {l : List α} {y : α} (h : l[i]? = some y) : (l.take (i + 1)).all f = ((l.take i).all f && f y) := by
 rw [List.take_add_one, h, List.all_append]
 simp
/-- The marks. -/
theorem v12_2 {z : Int} {f : Bool} (hm : p.marks.length ≤ 4000) (hz : (f && p.marks.all fun m => inW m 0 1024) = false → z = 5) (next : (f && p.marks.all fun m => inW m 0 1024) = true → GV12 z (rg fv12 12) (v12S p [])) : GV12 z (lp fv12 1) (v12S p [(3, bo f), (5, ni ((0 : Nat) : Int))]) := by
 have h0 : f = (f && (p.marks.take 0).all fun m => inW m 0 1024) := by simp
 rw [h0]
 have hl := zs_len p.marks
 refine Gd.loop (fun i : Nat => v12S p [(3, bo (f && (p.marks.take i).all fun m => inW m 0 1024)), (5, ni (i : Int))]) (fun i => i ≤ p.marks.length) (fun i => p.marks.length - i) ?_ 0 (Nat.zero_le _)
 intro i hi ih
 by_cases g : i < p.marks.length
 · obtain ⟨y, hy, _⟩ := Ct.get_of g
   have hx : decide ((i : Int) < (p.marks.length : Int)) = true := decide_eq_true (by omega)
   have nx := ih (i + 1) g (by omega)
   have c1 := e_within12 y 0 1024
   have e1 := zs_at hy
   rw [all_next hy, ← Bool.and_assoc] at nx
   unfold v12S Pr.v anyP at nx ⊢
   generalize Ct.ptR p.rim = PR at *
   generalize Ct.wnR p.worn = WR at *
   generalize (f && (p.marks.take i).all fun m => inW m 0 1024) = t at *
   cases t with
   | false => exact .to mo_ [] [1, 3, 5] [0] 1 [.eqv 43 (ni ((zs p.marks).length : Int)) (ni (p.marks.length : Int)) (by rw [hl]), ye hx, nf, inc 46 i (by omega)] nx (by kernel_rfl)
   | true => exact .to mo_ [] [1, 3, 5] [0] 1 [.eqv 43 (ni ((zs p.marks).length : Int)) (ni (p.marks.length : Int)) (by rw [hl]), ye hx, yt, .sel _ _ _ e1, cl c1, inc 46 i (by omega)] nx (by kernel_rfl)
 · have e : i = p.marks.length := by omega
   subst e
   have hx : decide ((p.marks.length : Int) < (p.marks.length : Int)) = false := decide_eq_false (by omega)
   rw [List.take_length]
   unfold v12S Pr.v anyP at next ⊢
   generalize Ct.ptR p.rim = PR at *
   generalize Ct.wnR p.worn = WR at *
   generalize (f && p.marks.all fun m => inW m 0 1024) = t at *
   cases t with
   | false =>
    rw [hz rfl]
    exact fi [.eqv 43 (ni ((zs p.marks).length : Int)) (ni (p.marks.length : Int)) (by rw [hl]), na hx, yt] (by kernel_rfl) (by kernel_rfl)
   | true =>
    have nx := next rfl
    exact .to mo_ [] [1] [0] 1 [.eqv 43 (ni ((zs p.marks).length : Int)) (ni (p.marks.length : Int)) (by rw [hl]), na hx, nf] nx (by kernel_rfl)
/-- The corners. -/
theorem v12_1 {z : Int} {f : Bool} (hm : p.rim.length ≤ 4000) (next : GV12 z (lp fv12 1) (v12S p [(3, bo (f && p.rim.all ptW)), (5, ni ((0 : Nat) : Int))])) : GV12 z (lp fv12 0) (v12S p [(3, bo f), (4, ni ((0 : Nat) : Int))]) := by
 have h0 : f = (f && (p.rim.take 0).all ptW) := by simp
 rw [h0]
 have hl : (Ct.ptR p.rim).length = p.rim.length := List.length_map ..
 refine Gd.loop (fun i : Nat => v12S p [(3, bo (f && (p.rim.take i).all ptW)), (4, ni (i : Int))]) (fun i => i ≤ p.rim.length) (fun i => p.rim.length - i) ?_ 0 (Nat.zero_le _)
 intro i hi ih
 by_cases g : i < p.rim.length
 · obtain ⟨y, hy, _⟩ := Ct.get_of g
   have hx : decide ((i : Int) < (p.rim.length : Int)) = true := decide_eq_true (by omega)
   have nx := ih (i + 1) g (by omega)
   have c1 := e_within12 y.1 (-65536) 65536
   have c2 := e_within12 y.2 (-65536) 65536
   have e1 := Ct.pt_at hy
   rw [all_next hy, ← Bool.and_assoc] at nx
   unfold ptW at nx
   change GV12 z _ (v12S p [(3, bo ((f && (p.rim.take i).all ptW) && (inW y.1 (-65536) 65536 && inW y.2 (-65536) 65536))), _]) at nx
   unfold v12S Pr.v anyP at nx ⊢
   generalize (f && (p.rim.take i).all ptW) = t at *
   generalize Ct.ptR p.rim = PR at *
   generalize Ct.wnR p.worn = WR at *
   generalize inW y.1 (-65536) 65536 = t1 at *
   generalize inW y.2 (-65536) 65536 = t2 at *
   cases t with
   | false => exact .to mo_ [] [1, 3, 4] [0] 1 [.eqv 17 (ni (PR.length : Int)) (ni (p.rim.length : Int)) (by rw [hl]), ye hx, nf, nf, inc 20 i (by omega)] nx (by kernel_rfl)
   | true =>
    cases t1 with
    | false => exact .to mo_ [] [1, 3, 4] [0] 1 [.eqv 17 (ni (PR.length : Int)) (ni (p.rim.length : Int)) (by rw [hl]), ye hx, yt, .sel _ _ _ e1, cl c1, nf, inc 20 i (by omega)] nx (by kernel_rfl)
    | true => exact .to mo_ [] [1, 3, 4] [0] 1 [.eqv 17 (ni (PR.length : Int)) (ni (p.rim.length : Int)) (by rw [hl]), ye hx, yt, .sel _ _ _ e1, cl c1, yt, .sel _ _ _ e1, cl c2, inc 20 i (by omega)] nx (by kernel_rfl)
 · have e : i = p.rim.length := by omega
   subst e
   have hx : decide ((p.rim.length : Int) < (p.rim.length : Int)) = false := decide_eq_false (by omega)
   rw [List.take_length]
   unfold v12S Pr.v anyP at next ⊢
   generalize (f && p.rim.all ptW) = t at *
   generalize Ct.ptR p.rim = PR at *
   generalize Ct.wnR p.worn = WR at *
   exact .to mo_ [] [1, 3, 5] [0] 1 [.eqv 17 (ni (PR.length : Int)) (ni (p.rim.length : Int)) (by rw [hl]), na hx] next (by kernel_rfl)
theorem rng_eq : ((inW p.id 0 999 && inW p.home 0 4) && p.rim.all ptW && p.marks.all fun m => inW m 0 1024) = rngB p.id p.home p.rim p.marks := by
 unfold rngB
 generalize (inW p.id 0 999 && inW p.home 0 4) = x
 generalize p.rim.all ptW = y
 generalize (p.marks.all fun m => inW m 0 1024) = w
 cases x <;> cases y <;> cases w <;> rfl
/-- Up to the ranges. -/
theorem v12_0 {z : Int} (h1 : p.rim.length ≤ 4000) (h2 : p.marks.length ≤ 4000) (hz : rngB p.id p.home p.rim p.marks = false → z = 5) (next : rngB p.id p.home p.rim p.marks = true → GV12 z (rg fv12 12) (v12S p [])) : Pure PP 13 [.ag p.v] (ni z) := by
 rw [← rng_eq] at next hz
 have nn := v12_1 h1 (v12_2 h2 hz next)
 have c1 := e_within12 p.id 0 999
 have c2 := e_within12 p.home 0 4
 unfold v12S Pr.v anyP at nn
 unfold Pr.v anyP
 generalize Ct.ptR p.rim = PR at *
 generalize Ct.wnR p.worn = WR at *
 generalize inW p.id 0 999 = t1 at *
 generalize inW p.home 0 4 = t2 at *
 cases t1 with
 | false => exact pf (by kernel_rfl) (.to mo_ [] [1, 3, 4] [0] 1 [cl c1, nf] nn (by kernel_rfl))
 | true => exact pf (by kernel_rfl) (.to mo_ [] [1, 3, 4] [0] 1 [cl c1, yt, cl c2] nn (by kernel_rfl))
end
end Go.Proofs.YtlgnagnmoleeiaaGreat.E.Pc
namespace Go.Proofs.YtlgnagnmoleeiaaGreat.E.Pc
open Go.RowKit
set_option linter.unusedVariables false
set_option linter.unusedSimpArgs false
section
variable {id home : Int} {P : List (Int × Int)} {M : List Int} {Wn : List Bool} {n lo hi x z : Int} {a b c d e : RN} {p : Pr} {r : Rat} {k i : Nat} {pc : Ct.Pi} {v : Bool}
/-- The reference's rim of any piece. -/
theorem e_rim12R (hr : ∀ x ∈ p.rim, W.Is64 x.1 ∧ W.Is64 x.2) (hn : p.rim.length ≤ 1000) : Pure PP 49 [.ag p.v] (.o 58 8 ((p.rim.map Ct.qv).map dV)) := by
 have hl : (Ct.ptR p.rim).length = p.rim.length := List.length_map ..
 have hv : (p.rim.map Ct.qv).length = p.rim.length := List.length_map ..
 have rim_app : ∀ {q : Int × Int} {k : Nat}, p.rim[k]? = some q → ((p.rim.map Ct.qv).take k).map dV ++ [Ct.qv q].map dV = ((p.rim.map Ct.qv).take (k + 1)).map dV := fun {q k} h => by
  rw [List.take_add_one, List.getElem?_map, h, List.map_append]
  rfl
 let X : Nat → St := fun k => at_ Ct.fr12 [(1, .ip p.v), (3, .ow 1), (4, ni (k : Int))] [.dead, .rw 58 8 (((p.rim.map Ct.qv).take k).map dV)]
 refine pf (by kernel_rfl) (.to mo_ [.ow 3 (.rw 58 8 []), .fz 1] [1, 3, 4] [1] 2 [] (td' := lp Ct.fr12 0) (σ' := X 0) ?_ (by kernel_rfl))
 refine Gd.loop X (fun k => k ≤ p.rim.length) (fun k => p.rim.length - k) ?_ 0 (Nat.zero_le _)
 intro k hk ih
 by_cases g : k < p.rim.length
 · obtain ⟨q, hq, hm⟩ := Ct.get_of g
   obtain ⟨h1, h2⟩ := hr q hm
   exact .to mo_ [.mv 1 3] [1, 3, 4] [1] 2 [.eqv 8 (ni ((Ct.ptR p.rim).length : Int)) (ni (p.rim.length : Int)) (by rw [hl]), ye (t := decide ((k : Int) < (p.rim.length : Int))) (decide_eq_true (by omega)), .sel _ _ _ (Ct.pt_at hq), .sel _ _ _ (Ct.pt_at hq), cl (e_vof h1 h2), .app (((p.rim.map Ct.qv).take k).map dV) ([Ct.qv q].map dV) (((p.rim.map Ct.qv).take (k + 1)).map dV) 2000 (rim_app hq) Nat.zero_lt_one (by rw [List.length_map, List.length_take]; omega), inc 11 k (by omega)] (ih (k + 1) g (by omega)) (by kernel_rfl)
 · have e : k = p.rim.length := by omega
   subst e
   have hX : X p.rim.length = at_ Ct.fr12 [(1, .ip p.v), (3, .ow 1), (4, ni (p.rim.length : Int))] [.dead, .rw 58 8 ((p.rim.map Ct.qv).map dV)] := by simp only [X]; rw [← hv, List.take_length]
   rw [hX]
   exact fi [.eqv 8 (ni ((Ct.ptR p.rim).length : Int)) (ni (p.rim.length : Int)) (by rw [hl]), na (t := decide ((p.rim.length : Int) < (p.rim.length : Int))) (decide_eq_false (by omega))] (by kernel_rfl) (by kernel_rfl)
/-- Wrong lengths. -/
theorem v12_len (hl : ¬ (p.rim.length ≤ 12 ∧ p.worn.length = p.rim.length ∧ p.marks.length = p.rim.length)) : GV12 1 (rg fv12 12) (v12S p []) := by
 have l1 : (Ct.ptR p.rim).length = p.rim.length := List.length_map ..
 have l2 : (Ct.wnR p.worn).length = p.worn.length := List.length_map ..
 have l3 : (zs p.marks).length = p.marks.length := zs_len _
 unfold v12S Pr.v anyP
 generalize Ct.ptR p.rim = PR at *
 generalize Ct.wnR p.worn = WR at *
 generalize zs p.marks = ZR at *
 let F : List F_ := [.eqv 60 (ni (WR.length : Int)) (ni (p.worn.length : Int)) (by rw [l2]), .eqv 63 (ni (PR.length : Int)) (ni (p.rim.length : Int)) (by rw [l1])]
 let G : List F_ := [.eqv 68 (ni (ZR.length : Int)) (ni (p.marks.length : Int)) (by rw [l3]), .eqv 71 (ni (PR.length : Int)) (ni (p.rim.length : Int)) (by rw [l1])]
 by_cases g2 : p.worn.length = p.rim.length
 · by_cases g3 : p.marks.length = p.rim.length
   · have g1 : ¬ p.rim.length ≤ 12 := fun e => hl ⟨e, g2, g3⟩
     exact fi (F ++ ([na (t := (p.worn.length : Int) != (p.rim.length : Int)) (by simp; omega)] ++ (G ++ [na (t := (p.marks.length : Int) != (p.rim.length : Int)) (by simp; omega), .eqv 77 (ni (PR.length : Int)) (ni (p.rim.length : Int)) (by rw [l1]), ye (t := decide ((p.rim.length : Int) > 12)) (decide_eq_true (by omega)), yt]))) (by kernel_rfl) (by kernel_rfl)
   · exact fi (F ++ ([na (t := (p.worn.length : Int) != (p.rim.length : Int)) (by simp; omega)] ++ (G ++ [ye (t := (p.marks.length : Int) != (p.rim.length : Int)) (by simp; omega), yt, yt]))) (by kernel_rfl) (by kernel_rfl)
 · exact fi (F ++ [ye (t := (p.worn.length : Int) != (p.rim.length : Int)) (by simp; omega), yt, yt, yt]) (by kernel_rfl) (by kernel_rfl)
/-- The rim. -/
theorem v12_rim (hr : ∀ x ∈ p.rim, W.Is64 x.1 ∧ W.Is64 x.2) (h12 : p.rim.length ≤ 12) (hw : p.worn.length = p.rim.length) (hm : p.marks.length = p.rim.length) (cv : Pure PP 69 [dL (p.rim.map Ct.qv)] (bo v)) (hz : v = false → z = 1) (next : v = true → GV12 z (rg fv12 14) (v12S p [])) : GV12 z (rg fv12 12) (v12S p []) := by
 have l1 : (Ct.ptR p.rim).length = p.rim.length := List.length_map ..
 have l2 : (Ct.wnR p.worn).length = p.worn.length := List.length_map ..
 have l3 : (zs p.marks).length = p.marks.length := zs_len _
 have cr := (e_rim12R hr (by omega)).ro
 change Pure PP _ [.sl ((p.rim.map Ct.qv).map dV)] _ at cv
 unfold Pr.v anyP at cr
 unfold v12S Pr.v anyP at *
 generalize (p.rim.map Ct.qv).map dV = RM at *
 generalize Ct.ptR p.rim = PR at *
 generalize Ct.wnR p.worn = WR at *
 generalize zs p.marks = ZR at *
 let F : List F_ := [.eqv 60 (ni (WR.length : Int)) (ni (p.worn.length : Int)) (by rw [l2]), .eqv 63 (ni (PR.length : Int)) (ni (p.rim.length : Int)) (by rw [l1]), na (t := (p.worn.length : Int) != (p.rim.length : Int)) (by simp; omega), .eqv 68 (ni (ZR.length : Int)) (ni (p.marks.length : Int)) (by rw [l3]), .eqv 71 (ni (PR.length : Int)) (ni (p.rim.length : Int)) (by rw [l1]), na (t := (p.marks.length : Int) != (p.rim.length : Int)) (by simp; omega), .eqv 77 (ni (PR.length : Int)) (ni (p.rim.length : Int)) (by rw [l1]), na (t := decide ((p.rim.length : Int) > 12)) (decide_eq_false (by omega)), cl cr, cl cv]
 cases v with
 | false =>
  rw [hz rfl]
  exact fi (F ++ [yt]) (by kernel_rfl) (by kernel_rfl)
 | true => exact .to mo_ [] [1] [0] 1 (F ++ [nf]) (next rfl) (by kernel_rfl)
/-- The numbers. -/
theorem v12_num {b1 b2 b3 b4 b5 : Bool} (c1 : Pure PP 70 [.ag (cN p.a), ni 4] (bo b1)) (c2 : Pure PP 70 [.ag (cN p.e), ni 4] (bo b2)) (c3 : Pure PP 70 [.ag (cN p.b), ni 1000] (bo b3)) (c4 : Pure PP 70 [.ag (cN p.c), ni 1000] (bo b4)) (c5 : Pure PP 71 [.ag (cN p.d)] (bo b5))
  (hz : (b1 && (b2 && (b3 && (b4 && b5)))) = false → z = 1) (next : (b1 && (b2 && (b3 && (b4 && b5)))) = true → GV12 z (rg fv12 16) (v12S p [])) : GV12 z (rg fv12 14) (v12S p []) := by
 unfold v12S Pr.v anyP at *
 generalize Ct.ptR p.rim = PR at *
 generalize Ct.wnR p.worn = WR at *
 cases b1 with
 | false => rw [hz rfl]; exact fi [cl c1, yt, yt, yt, yt, yt] (by kernel_rfl) (by kernel_rfl)
 | true =>
 cases b2 with
 | false => rw [hz rfl]; exact fi [cl c1, nf, cl c2, yt, yt, yt, yt] (by kernel_rfl) (by kernel_rfl)
 | true =>
 cases b3 with
 | false => rw [hz rfl]; exact fi [cl c1, nf, cl c2, nf, cl c3, yt, yt, yt] (by kernel_rfl) (by kernel_rfl)
 | true =>
 cases b4 with
 | false => rw [hz rfl]; exact fi [cl c1, nf, cl c2, nf, cl c3, nf, cl c4, yt, yt] (by kernel_rfl) (by kernel_rfl)
 | true =>
 cases b5 with
 | false => rw [hz rfl]; exact fi [cl c1, nf, cl c2, nf, cl c3, nf, cl c4, nf, cl c5, yt] (by kernel_rfl) (by kernel_rfl)
 | true => exact .to mo_ [] [1] [0] 1 [cl c1, nf, cl c2, nf, cl c3, nf, cl c4, nf, cl c5, nf] (next rfl) (by kernel_rfl)
/-- A piece with canonical numbers, as any piece. -/
def prOf (p : Ct.Pi) : Pr := ⟨p.id, p.home, p.rim, p.worn, p.marks, ofR p.tol, ofR p.light, ofR p.heavy, ofR p.str, ofR p.rough⟩
/-- The last questions. -/
theorem v12_last (pk : Pk pc) : GV12 (if (!(sgnZ pc.light.num == 0) && (!(decide (cmpQ pc.light pc.heavy > 0)) && !(decide (sgnZ pc.str.num ≤ 0)))) = true then 0 else 1) (rg fv12 16) (v12S (prOf pc) []) := by
 have c1 := e_sign4 pc.light
 have c2 := e_cmp4 pk.light pk.heavy (by omega)
 have c3 := e_sign4 pc.str
 have hv : (prOf pc).v = [ni pc.id, ni pc.home, .sl (Ct.ptR pc.rim), .sl (Ct.wnR pc.worn), zl pc.marks] ++ (dR pc.tol ++ (dR pc.light ++ (dR pc.heavy ++ (dR pc.str ++ dR pc.rough)))) := rfl
 unfold v12S
 rw [hv]
 generalize Ct.ptR pc.rim = PR at *
 generalize Ct.wnR pc.worn = WR at *
 generalize sgnZ pc.light.num = sl at *
 generalize sgnZ pc.str.num = ss at *
 generalize cmpQ pc.light pc.heavy = ch at *
 cases h1 : (sl == 0) with
 | true => exact fi [cl c1, ye h1, yt, yt] (by kernel_rfl) (by kernel_rfl)
 | false =>
  cases h2 : decide (ch > 0) with
  | true => exact fi [cl c1, na h1, cl c2, ye h2, yt] (by kernel_rfl) (by kernel_rfl)
  | false =>
   cases h3 : decide (ss ≤ 0) with
   | true => exact fi [cl c1, na h1, cl c2, na h2, cl c3, ye h3] (by kernel_rfl) (by kernel_rfl)
   | false => exact fi [cl c1, na h1, cl c2, na h2, cl c3, na h3] (by kernel_rfl) (by kernel_rfl)
end
end Go.Proofs.YtlgnagnmoleeiaaGreat.E.Pc
namespace Go.Proofs.YtlgnagnmoleeiaaGreat.E.Ct
open Go.RowKit
set_option linter.unusedVariables false
set_option linter.unusedSimpArgs false
structure To where
 a : Int
 b : Int
 p : Vc
 q : Vc
 n : Vc
 r : Rat
section
end
end Go.Proofs.YtlgnagnmoleeiaaGreat.E.Ct






namespace Go.Proofs.YtlgnagnmoleeiaaGreat.E.Ct
open Go.RowKit
set_option linter.unusedVariables false
set_option linter.unusedSimpArgs false
section
variable {i : Nat} {z : List Int} {at' : Nat} {n : Int}
theorem is2_ : W.Is64 2 := ⟨by decide, by decide⟩
theorem bq_small {x y : Int} (hx : -64 ≤ x ∧ x ≤ 64) (hy : 1 ≤ y ∧ y ≤ 2) : Bq 8 (Rat.divInt x y) := Bq.divInt (k := 8) (by unfold I.Bd; omega) (by unfold I.Bd; omega) (by omega)
end
end Go.Proofs.YtlgnagnmoleeiaaGreat.E.Ct

namespace Go.Proofs.YtlgnagnmoleeiaaGreat.E.Ct
open Go.RowKit
set_option linter.unusedVariables false
set_option linter.unusedSimpArgs false
def Sm_ (b : Int) (p : Int × Int) : Prop := -b ≤ p.1 ∧ p.1 ≤ b ∧ -b ≤ p.2 ∧ p.2 ≤ b
end Go.Proofs.YtlgnagnmoleeiaaGreat.E.Ct

