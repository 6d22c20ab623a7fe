/-
 CONTACT: bodies, as they are told (plain); the center of a piece.
-/
import Derived.Test.YtlgnagnmoleeiaaGreatEzL
import Derived.Test.YtlgnagnmoleeiaaGreatEzA
import Derived.Test.YtlgnagnmoleeiaaGreatEoV
namespace Go.Proofs.YtlgnagnmoleeiaaGreat.E.Pc
open Go.RowKit
set_option linter.unusedVariables false
set_option linter.unusedSimpArgs false
/-- A piece with any numbers. -/
structure Pr where
 id : Int
 home : Int
 rim : List (Int × Int)
 worn : List Bool
 marks : List Int
 a : RN
 b : RN
 c : RN
 d : RN
 e : RN
def Pr.v (p : Pr) : List V := anyP p.id p.home p.rim p.worn p.marks p.a p.b p.c p.d p.e
structure Pr.Ok (p : Pr) : Prop where
 id : W.Is64 p.id
 home : W.Is64 p.home
 r : ∀ x ∈ p.rim, W.Is64 x.1 ∧ W.Is64 x.2
 m : ∀ x ∈ p.marks, W.Is64 x
 nr : p.rim.length ≤ 100
 nw : p.worn.length ≤ 100
 nm : p.marks.length ≤ 100
 a : Bn 1000 p.a
 b : Bn 1000 p.b
 c : Bn 1000 p.c
 d : Bn 1000 p.d
 e : Bn 1000 p.e
section
variable {id home : Int} {P : List (Int × Int)} {M : List Int} {Wn : List Bool} {n lo hi x : Int} {a b c d e : RN} {p : Pr} {r : Rat} {k i : Nat}
theorem e_within12 (n lo hi : Int) : Pure PP 68 [ni n, ni lo, ni hi] (bo (inW n lo hi)) := by
 unfold inW
 by_cases h : n ≥ lo
 · rw [decide_eq_true h]
   exact tr [ye (t := decide (n ≥ lo)) (decide_eq_true h)] (by kernel_rfl)
 · rw [decide_eq_false h]
   exact tr [na (t := decide (n ≥ lo)) (decide_eq_false h)] (by kernel_rfl)
/-- A number from 0 to a greatest one. -/
def btw (r : Rat) (x : Int) : Bool := decide (sgnZ r.num ≥ 0) && decide (cmpQ r (Rat.divInt x 1) ≤ 0)
theorem e_between (hr : Bq 1000 r) (hx : 0 ≤ x ∧ x ≤ 1000) : Pure PP 70 [.ag (cN (ofR r)), ni x] (bo (btw r x)) := by
 have cv := e_valid4 hr (by omega)
 have cs := e_sign4 r
 have co := e_of4 (x := x) (y := 1) ⟨by omega, by omega⟩ ⟨by decide, by decide⟩
 have bx : Bq 1000 (Rat.divInt x 1) := Bq.mono (j := 20) (Bq.divInt (by unfold I.Bd; omega) (by unfold I.Bd; decide) (by omega)) (by omega)
 have cc := e_cmp4 hr bx (by omega)
 unfold btw
 rw [cN_ofR]
 generalize sgnZ r.num = s at *
 cases h : decide (s ≥ 0) with
 | true => exact tr [cl cv, yt, cl cs, ye h, cl co, cl cc] (by kernel_rfl)
 | false => exact tr [cl cv, yt, cl cs, na h] (by kernel_rfl)
theorem e_between_no (h : ¬ rok a) (hb : Bn 1000 a) : Pure PP 70 [.ag (cN a), ni x] (bo false) :=
 tr [cl (e_valid4_no h hb (by omega)), nf, nf] (by kernel_rfl)
theorem e_between_ex (hb : Bn 1000 a) (hx : 0 ≤ x ∧ x ≤ 1000) : ∃ t : Bool, Pure PP 70 [.ag (cN a), ni x] (bo t) ∧ (¬ rok a → t = false) := by
 by_cases h : rok a
 · obtain ⟨r, rfl⟩ := h
   exact ⟨_, e_between (hb.bq (by omega)) hx, fun g => absurd ⟨r, rfl⟩ g⟩
 · exact ⟨false, e_between_no h hb, fun _ => rfl⟩
theorem e_valid4_ex (hb : Bn 1000 a) : ∃ t : Bool, Pure PP 71 [.ag (cN a)] (bo t) ∧ (¬ rok a → t = false) := by
 by_cases h : rok a
 · obtain ⟨r, rfl⟩ := h
   exact ⟨true, e_valid4 (hb.bq (by omega)) (by omega), fun g => absurd ⟨r, rfl⟩ g⟩
 · exact ⟨false, e_valid4_no h hb (by omega), fun _ => rfl⟩
noncomputable abbrev fv12 : Func := fnOf PP 13
noncomputable abbrev GV12 (z : Int) (td : List Item) (σ : St) : Prop := Gd PP 13 (.v (ni z)) td σ
noncomputable def v12S (p : Pr) (m : List (Nat × V)) : St := at_ fv12 ([(1, .lp 0 0)] ++ m) [.bx 30 p.v]
theorem all_next {α : Type} {f : α → Bool} {l : List α} {y : α} (h : l[i]? = some y) : (l.take (i + 1)).all f = ((l.take i).all f && f y) := by
 rw [List.take_add_one, h, List.all_append]
 simp
/-- The marks. -/
theorem v12_2 {z : Int} {f : Bool} (hm : p.marks.length ≤ 1000) (hz : (f && p.marks.all fun m => inW m 0 1024) = false → z = 5) (next : (f && p.marks.all fun m => inW m 0 1024) = true → GV12 z (rg fv12 12) (v12S p [])) : GV12 z (lp fv12 1) (v12S p [(3, bo f), (5, ni ((0 : Nat) : Int))]) := by
 have h0 : f = (f && (p.marks.take 0).all fun m => inW m 0 1024) := by simp
 rw [h0]
 have hl := zs_len p.marks
 refine Gd.loop (fun i : Nat => v12S p [(3, bo (f && (p.marks.take i).all fun m => inW m 0 1024)), (5, ni (i : Int))]) (fun i => i ≤ p.marks.length) (fun i => p.marks.length - i) ?_ 0 (Nat.zero_le _)
 intro i hi ih
 by_cases g : i < p.marks.length
 · obtain ⟨y, hy, _⟩ := Ct.get_of g
   have hx : decide ((i : Int) < (p.marks.length : Int)) = true := decide_eq_true (by omega)
   have nx := ih (i + 1) g (by omega)
   have c1 := e_within12 y 0 1024
   have e1 := zs_at hy
   rw [all_next hy, ← Bool.and_assoc] at nx
   unfold v12S Pr.v anyP at nx ⊢
   generalize Ct.ptR p.rim = PR at *
   generalize Ct.wnR p.worn = WR at *
   generalize (f && (p.marks.take i).all fun m => inW m 0 1024) = t at *
   cases t with
   | false => exact .to mo_ [] [1, 3, 5] [0] 1 [.eqv 43 (ni ((zs p.marks).length : Int)) (ni (p.marks.length : Int)) (by rw [hl]), ye hx, nf, inc 46 i (by omega)] nx (by kernel_rfl)
   | true => exact .to mo_ [] [1, 3, 5] [0] 1 [.eqv 43 (ni ((zs p.marks).length : Int)) (ni (p.marks.length : Int)) (by rw [hl]), ye hx, yt, .sel _ _ _ e1, cl c1, inc 46 i (by omega)] nx (by kernel_rfl)
 · have e : i = p.marks.length := by omega
   subst e
   have hx : decide ((p.marks.length : Int) < (p.marks.length : Int)) = false := decide_eq_false (by omega)
   rw [List.take_length]
   unfold v12S Pr.v anyP at next ⊢
   generalize Ct.ptR p.rim = PR at *
   generalize Ct.wnR p.worn = WR at *
   generalize (f && p.marks.all fun m => inW m 0 1024) = t at *
   cases t with
   | false =>
    rw [hz rfl]
    exact fi [.eqv 43 (ni ((zs p.marks).length : Int)) (ni (p.marks.length : Int)) (by rw [hl]), na hx, yt] (by kernel_rfl) (by kernel_rfl)
   | true =>
    have nx := next rfl
    exact .to mo_ [] [1] [0] 1 [.eqv 43 (ni ((zs p.marks).length : Int)) (ni (p.marks.length : Int)) (by rw [hl]), na hx, nf] nx (by kernel_rfl)
/-- The corners. -/
theorem v12_1 {z : Int} {f : Bool} (hm : p.rim.length ≤ 1000) (next : GV12 z (lp fv12 1) (v12S p [(3, bo (f && p.rim.all ptW)), (5, ni ((0 : Nat) : Int))])) : GV12 z (lp fv12 0) (v12S p [(3, bo f), (4, ni ((0 : Nat) : Int))]) := by
 have h0 : f = (f && (p.rim.take 0).all ptW) := by simp
 rw [h0]
 have hl : (Ct.ptR p.rim).length = p.rim.length := List.length_map ..
 refine Gd.loop (fun i : Nat => v12S p [(3, bo (f && (p.rim.take i).all ptW)), (4, ni (i : Int))]) (fun i => i ≤ p.rim.length) (fun i => p.rim.length - i) ?_ 0 (Nat.zero_le _)
 intro i hi ih
 by_cases g : i < p.rim.length
 · obtain ⟨y, hy, _⟩ := Ct.get_of g
   have hx : decide ((i : Int) < (p.rim.length : Int)) = true := decide_eq_true (by omega)
   have nx := ih (i + 1) g (by omega)
   have c1 := e_within12 y.1 (-65536) 65536
   have c2 := e_within12 y.2 (-65536) 65536
   have e1 := Ct.pt_at hy
   rw [all_next hy, ← Bool.and_assoc] at nx
   unfold ptW at nx
   change GV12 z _ (v12S p [(3, bo ((f && (p.rim.take i).all ptW) && (inW y.1 (-65536) 65536 && inW y.2 (-65536) 65536))), _]) at nx
   unfold v12S Pr.v anyP at nx ⊢
   generalize (f && (p.rim.take i).all ptW) = t at *
   generalize Ct.ptR p.rim = PR at *
   generalize Ct.wnR p.worn = WR at *
   generalize inW y.1 (-65536) 65536 = t1 at *
   generalize inW y.2 (-65536) 65536 = t2 at *
   cases t with
   | false => exact .to mo_ [] [1, 3, 4] [0] 1 [.eqv 17 (ni (PR.length : Int)) (ni (p.rim.length : Int)) (by rw [hl]), ye hx, nf, nf, inc 20 i (by omega)] nx (by kernel_rfl)
   | true =>
    cases t1 with
    | false => exact .to mo_ [] [1, 3, 4] [0] 1 [.eqv 17 (ni (PR.length : Int)) (ni (p.rim.length : Int)) (by rw [hl]), ye hx, yt, .sel _ _ _ e1, cl c1, nf, inc 20 i (by omega)] nx (by kernel_rfl)
    | true => exact .to mo_ [] [1, 3, 4] [0] 1 [.eqv 17 (ni (PR.length : Int)) (ni (p.rim.length : Int)) (by rw [hl]), ye hx, yt, .sel _ _ _ e1, cl c1, yt, .sel _ _ _ e1, cl c2, inc 20 i (by omega)] nx (by kernel_rfl)
 · have e : i = p.rim.length := by omega
   subst e
   have hx : decide ((p.rim.length : Int) < (p.rim.length : Int)) = false := decide_eq_false (by omega)
   rw [List.take_length]
   unfold v12S Pr.v anyP at next ⊢
   generalize (f && p.rim.all ptW) = t at *
   generalize Ct.ptR p.rim = PR at *
   generalize Ct.wnR p.worn = WR at *
   exact .to mo_ [] [1, 3, 5] [0] 1 [.eqv 17 (ni (PR.length : Int)) (ni (p.rim.length : Int)) (by rw [hl]), na hx] next (by kernel_rfl)
theorem rng_eq : ((inW p.id 0 999 && inW p.home 0 4) && p.rim.all ptW && p.marks.all fun m => inW m 0 1024) = rngB p.id p.home p.rim p.marks := by
 unfold rngB
 generalize (inW p.id 0 999 && inW p.home 0 4) = x
 generalize p.rim.all ptW = y
 generalize (p.marks.all fun m => inW m 0 1024) = w
 cases x <;> cases y <;> cases w <;> rfl
/-- Up to the ranges. -/
theorem v12_0 {z : Int} (h1 : p.rim.length ≤ 1000) (h2 : p.marks.length ≤ 1000) (hz : rngB p.id p.home p.rim p.marks = false → z = 5) (next : rngB p.id p.home p.rim p.marks = true → GV12 z (rg fv12 12) (v12S p [])) : Pure PP 13 [.ag p.v] (ni z) := by
 rw [← rng_eq] at next hz
 have nn := v12_1 h1 (v12_2 h2 hz next)
 have c1 := e_within12 p.id 0 999
 have c2 := e_within12 p.home 0 4
 unfold v12S Pr.v anyP at nn
 unfold Pr.v anyP
 generalize Ct.ptR p.rim = PR at *
 generalize Ct.wnR p.worn = WR at *
 generalize inW p.id 0 999 = t1 at *
 generalize inW p.home 0 4 = t2 at *
 cases t1 with
 | false => exact pf (by kernel_rfl) (.to mo_ [] [1, 3, 4] [0] 1 [cl c1, nf] nn (by kernel_rfl))
 | true => exact pf (by kernel_rfl) (.to mo_ [] [1, 3, 4] [0] 1 [cl c1, yt, cl c2] nn (by kernel_rfl))
end
end Go.Proofs.YtlgnagnmoleeiaaGreat.E.Pc
namespace Go.Proofs.YtlgnagnmoleeiaaGreat.E.Pc
open Go.RowKit
set_option linter.unusedVariables false
set_option linter.unusedSimpArgs false
section
variable {id home : Int} {P : List (Int × Int)} {M : List Int} {Wn : List Bool} {n lo hi x z : Int} {a b c d e : RN} {p : Pr} {r : Rat} {k i : Nat} {pc : Ct.Pi} {v : Bool}
/-- The reference's rim of any piece. -/
theorem e_rim12R (hr : ∀ x ∈ p.rim, W.Is64 x.1 ∧ W.Is64 x.2) (hn : p.rim.length ≤ 1000) : Pure PP 49 [.ag p.v] (.o 58 8 ((p.rim.map Ct.qv).map dV)) := by
 have hl : (Ct.ptR p.rim).length = p.rim.length := List.length_map ..
 have hv : (p.rim.map Ct.qv).length = p.rim.length := List.length_map ..
 have rim_app : ∀ {q : Int × Int} {k : Nat}, p.rim[k]? = some q → ((p.rim.map Ct.qv).take k).map dV ++ [Ct.qv q].map dV = ((p.rim.map Ct.qv).take (k + 1)).map dV := fun {q k} h => by
  rw [List.take_add_one, List.getElem?_map, h, List.map_append]
  rfl
 let X : Nat → St := fun k => at_ Ct.fr12 [(1, .ip p.v), (3, .ow 1), (4, ni (k : Int))] [.dead, .rw 58 8 (((p.rim.map Ct.qv).take k).map dV)]
 refine pf (by kernel_rfl) (.to mo_ [.ow 3 (.rw 58 8 []), .fz 1] [1, 3, 4] [1] 2 [] (td' := lp Ct.fr12 0) (σ' := X 0) ?_ (by kernel_rfl))
 refine Gd.loop X (fun k => k ≤ p.rim.length) (fun k => p.rim.length - k) ?_ 0 (Nat.zero_le _)
 intro k hk ih
 by_cases g : k < p.rim.length
 · obtain ⟨q, hq, hm⟩ := Ct.get_of g
   obtain ⟨h1, h2⟩ := hr q hm
   exact .to mo_ [.mv 1 3] [1, 3, 4] [1] 2 [.eqv 8 (ni ((Ct.ptR p.rim).length : Int)) (ni (p.rim.length : Int)) (by rw [hl]), ye (t := decide ((k : Int) < (p.rim.length : Int))) (decide_eq_true (by omega)), .sel _ _ _ (Ct.pt_at hq), .sel _ _ _ (Ct.pt_at hq), cl (e_vof h1 h2), .app (((p.rim.map Ct.qv).take k).map dV) ([Ct.qv q].map dV) (((p.rim.map Ct.qv).take (k + 1)).map dV) 2000 (rim_app hq) Nat.zero_lt_one (by rw [List.length_map, List.length_take]; omega), inc 11 k (by omega)] (ih (k + 1) g (by omega)) (by kernel_rfl)
 · have e : k = p.rim.length := by omega
   subst e
   have hX : X p.rim.length = at_ Ct.fr12 [(1, .ip p.v), (3, .ow 1), (4, ni (p.rim.length : Int))] [.dead, .rw 58 8 ((p.rim.map Ct.qv).map dV)] := by simp only [X]; rw [← hv, List.take_length]
   rw [hX]
   exact fi [.eqv 8 (ni ((Ct.ptR p.rim).length : Int)) (ni (p.rim.length : Int)) (by rw [hl]), na (t := decide ((p.rim.length : Int) < (p.rim.length : Int))) (decide_eq_false (by omega))] (by kernel_rfl) (by kernel_rfl)
/-- Wrong lengths. -/
theorem v12_len (hl : ¬ (p.rim.length ≤ 12 ∧ p.worn.length = p.rim.length ∧ p.marks.length = p.rim.length)) : GV12 1 (rg fv12 12) (v12S p []) := by
 have l1 : (Ct.ptR p.rim).length = p.rim.length := List.length_map ..
 have l2 : (Ct.wnR p.worn).length = p.worn.length := List.length_map ..
 have l3 : (zs p.marks).length = p.marks.length := zs_len _
 unfold v12S Pr.v anyP
 generalize Ct.ptR p.rim = PR at *
 generalize Ct.wnR p.worn = WR at *
 generalize zs p.marks = ZR at *
 let F : List F_ := [.eqv 60 (ni (WR.length : Int)) (ni (p.worn.length : Int)) (by rw [l2]), .eqv 63 (ni (PR.length : Int)) (ni (p.rim.length : Int)) (by rw [l1])]
 let G : List F_ := [.eqv 68 (ni (ZR.length : Int)) (ni (p.marks.length : Int)) (by rw [l3]), .eqv 71 (ni (PR.length : Int)) (ni (p.rim.length : Int)) (by rw [l1])]
 by_cases g2 : p.worn.length = p.rim.length
 · by_cases g3 : p.marks.length = p.rim.length
   · have g1 : ¬ p.rim.length ≤ 12 := fun e => hl ⟨e, g2, g3⟩
     exact fi (F ++ ([na (t := (p.worn.length : Int) != (p.rim.length : Int)) (by simp; omega)] ++ (G ++ [na (t := (p.marks.length : Int) != (p.rim.length : Int)) (by simp; omega), .eqv 77 (ni (PR.length : Int)) (ni (p.rim.length : Int)) (by rw [l1]), ye (t := decide ((p.rim.length : Int) > 12)) (decide_eq_true (by omega)), yt]))) (by kernel_rfl) (by kernel_rfl)
   · exact fi (F ++ ([na (t := (p.worn.length : Int) != (p.rim.length : Int)) (by simp; omega)] ++ (G ++ [ye (t := (p.marks.length : Int) != (p.rim.length : Int)) (by simp; omega), yt, yt]))) (by kernel_rfl) (by kernel_rfl)
 · exact fi (F ++ [ye (t := (p.worn.length : Int) != (p.rim.length : Int)) (by simp; omega), yt, yt, yt]) (by kernel_rfl) (by kernel_rfl)
/-- The rim. -/
theorem v12_rim (hr : ∀ x ∈ p.rim, W.Is64 x.1 ∧ W.Is64 x.2) (h12 : p.rim.length ≤ 12) (hw : p.worn.length = p.rim.length) (hm : p.marks.length = p.rim.length) (cv : Pure PP 69 [dL (p.rim.map Ct.qv)] (bo v)) (hz : v = false → z = 1) (next : v = true → GV12 z (rg fv12 14) (v12S p [])) : GV12 z (rg fv12 12) (v12S p []) := by
 have l1 : (Ct.ptR p.rim).length = p.rim.length := List.length_map ..
 have l2 : (Ct.wnR p.worn).length = p.worn.length := List.length_map ..
 have l3 : (zs p.marks).length = p.marks.length := zs_len _
 have cr := (e_rim12R hr (by omega)).ro
 change Pure PP _ [.sl ((p.rim.map Ct.qv).map dV)] _ at cv
 unfold Pr.v anyP at cr
 unfold v12S Pr.v anyP at *
 generalize (p.rim.map Ct.qv).map dV = RM at *
 generalize Ct.ptR p.rim = PR at *
 generalize Ct.wnR p.worn = WR at *
 generalize zs p.marks = ZR at *
 let F : List F_ := [.eqv 60 (ni (WR.length : Int)) (ni (p.worn.length : Int)) (by rw [l2]), .eqv 63 (ni (PR.length : Int)) (ni (p.rim.length : Int)) (by rw [l1]), na (t := (p.worn.length : Int) != (p.rim.length : Int)) (by simp; omega), .eqv 68 (ni (ZR.length : Int)) (ni (p.marks.length : Int)) (by rw [l3]), .eqv 71 (ni (PR.length : Int)) (ni (p.rim.length : Int)) (by rw [l1]), na (t := (p.marks.length : Int) != (p.rim.length : Int)) (by simp; omega), .eqv 77 (ni (PR.length : Int)) (ni (p.rim.length : Int)) (by rw [l1]), na (t := decide ((p.rim.length : Int) > 12)) (decide_eq_false (by omega)), cl cr, cl cv]
 cases v with
 | false =>
  rw [hz rfl]
  exact fi (F ++ [yt]) (by kernel_rfl) (by kernel_rfl)
 | true => exact .to mo_ [] [1] [0] 1 (F ++ [nf]) (next rfl) (by kernel_rfl)
/-- The numbers. -/
theorem v12_num {b1 b2 b3 b4 b5 : Bool} (c1 : Pure PP 70 [.ag (cN p.a), ni 4] (bo b1)) (c2 : Pure PP 70 [.ag (cN p.e), ni 4] (bo b2)) (c3 : Pure PP 70 [.ag (cN p.b), ni 1000] (bo b3)) (c4 : Pure PP 70 [.ag (cN p.c), ni 1000] (bo b4)) (c5 : Pure PP 71 [.ag (cN p.d)] (bo b5))
  (hz : (b1 && (b2 && (b3 && (b4 && b5)))) = false → z = 1) (next : (b1 && (b2 && (b3 && (b4 && b5)))) = true → GV12 z (rg fv12 16) (v12S p [])) : GV12 z (rg fv12 14) (v12S p []) := by
 unfold v12S Pr.v anyP at *
 generalize Ct.ptR p.rim = PR at *
 generalize Ct.wnR p.worn = WR at *
 cases b1 with
 | false => rw [hz rfl]; exact fi [cl c1, yt, yt, yt, yt, yt] (by kernel_rfl) (by kernel_rfl)
 | true =>
 cases b2 with
 | false => rw [hz rfl]; exact fi [cl c1, nf, cl c2, yt, yt, yt, yt] (by kernel_rfl) (by kernel_rfl)
 | true =>
 cases b3 with
 | false => rw [hz rfl]; exact fi [cl c1, nf, cl c2, nf, cl c3, yt, yt, yt] (by kernel_rfl) (by kernel_rfl)
 | true =>
 cases b4 with
 | false => rw [hz rfl]; exact fi [cl c1, nf, cl c2, nf, cl c3, nf, cl c4, yt, yt] (by kernel_rfl) (by kernel_rfl)
 | true =>
 cases b5 with
 | false => rw [hz rfl]; exact fi [cl c1, nf, cl c2, nf, cl c3, nf, cl c4, nf, cl c5, yt] (by kernel_rfl) (by kernel_rfl)
 | true => exact .to mo_ [] [1] [0] 1 [cl c1, nf, cl c2, nf, cl c3, nf, cl c4, nf, cl c5, nf] (next rfl) (by kernel_rfl)
/-- A piece with canonical numbers, as any piece. -/
def prOf (p : Ct.Pi) : Pr := ⟨p.id, p.home, p.rim, p.worn, p.marks, ofR p.tol, ofR p.light, ofR p.heavy, ofR p.str, ofR p.rough⟩
/-- The last questions. -/
theorem v12_last (pk : Pk pc) : GV12 (if (!(sgnZ pc.light.num == 0) && (!(decide (cmpQ pc.light pc.heavy > 0)) && !(decide (sgnZ pc.str.num ≤ 0)))) = true then 0 else 1) (rg fv12 16) (v12S (prOf pc) []) := by
 have c1 := e_sign4 pc.light
 have c2 := e_cmp4 pk.light pk.heavy (by omega)
 have c3 := e_sign4 pc.str
 have hv : (prOf pc).v = [ni pc.id, ni pc.home, .sl (Ct.ptR pc.rim), .sl (Ct.wnR pc.worn), zl pc.marks] ++ (dR pc.tol ++ (dR pc.light ++ (dR pc.heavy ++ (dR pc.str ++ dR pc.rough)))) := rfl
 unfold v12S
 rw [hv]
 generalize Ct.ptR pc.rim = PR at *
 generalize Ct.wnR pc.worn = WR at *
 generalize sgnZ pc.light.num = sl at *
 generalize sgnZ pc.str.num = ss at *
 generalize cmpQ pc.light pc.heavy = ch at *
 cases h1 : (sl == 0) with
 | true => exact fi [cl c1, ye h1, yt, yt] (by kernel_rfl) (by kernel_rfl)
 | false =>
  cases h2 : decide (ch > 0) with
  | true => exact fi [cl c1, na h1, cl c2, ye h2, yt] (by kernel_rfl) (by kernel_rfl)
  | false =>
   cases h3 : decide (ss ≤ 0) with
   | true => exact fi [cl c1, na h1, cl c2, na h2, cl c3, ye h3] (by kernel_rfl) (by kernel_rfl)
   | false => exact fi [cl c1, na h1, cl c2, na h2, cl c3, na h3] (by kernel_rfl) (by kernel_rfl)
end
end Go.Proofs.YtlgnagnmoleeiaaGreat.E.Pc
namespace Go.Proofs.YtlgnagnmoleeiaaGreat.E.Ct
open Go.RowKit
set_option linter.unusedVariables false
set_option linter.unusedSimpArgs false
structure To where
 a : Int
 b : Int
 p : Vc
 q : Vc
 n : Vc
 r : Rat
def To.v (t : To) : List V := [ni t.a, ni t.b] ++ (dV t.p ++ (dV t.q ++ (dV t.n ++ dR t.r)))
def one_ : Rat := Rat.divInt 1 1
/-- How wide a segment counts. -/
def wide (x : Vc × Vc) : Rat := if lt0 (x.2.1 - x.1.1) one_ = true then one_ else x.2.1 - x.1.1
structure Sc where
 L : List Pi
 A : List Pl
def Sc.pi (s : Sc) (k : Nat) : Pi := s.L.getD k ⟨0, 0, [], [], [], 0, 0, 0, 0, 0⟩
def Sc.pl (s : Sc) (k : Nat) : Pl := s.A.getD k ((0, 0), (0, 0))
structure Sc.Ok (s : Sc) (b : Nat) : Prop where
 g : ∀ k, k < s.L.length → (s.pi k).Good (s.pl k) b
 n : s.L.length ≤ s.A.length ∧ s.L.length ≤ 100
 k : b ≤ 10000
section
variable {s : Sc} {b k : Nat} {st : Int} {P Q : Vc}
end
end Go.Proofs.YtlgnagnmoleeiaaGreat.E.Ct
namespace Go.Proofs.YtlgnagnmoleeiaaGreat.E.Ct
open Go.RowKit
set_option linter.unusedVariables false
set_option linter.unusedSimpArgs false
section
variable {s : Sc} {b k : Nat} {st : Int} {P Q : Vc}
end
end Go.Proofs.YtlgnagnmoleeiaaGreat.E.Ct
namespace Go.Proofs.YtlgnagnmoleeiaaGreat.E.Ct
open Go.RowKit
set_option linter.unusedVariables false
set_option linter.unusedSimpArgs false
section
variable {l : List To} {i : Nat} {t : To}
end
end Go.Proofs.YtlgnagnmoleeiaaGreat.E.Ct
namespace Go.Proofs.YtlgnagnmoleeiaaGreat.E.Ct
open Go.RowKit
set_option linter.unusedVariables false
set_option linter.unusedSimpArgs false
def ownA (own : List Int) (x : Int) : Int := own.getD x.toNat 0
def btV (own : List Int) (t : To) : Option To := if ownA own t.a < 0 then none else if t.b ≥ 0 then (if ownA own t.b < 0 ∨ ownA own t.a = ownA own t.b then none else some { t with a := ownA own t.a, b := ownA own t.b }) else some { t with a := ownA own t.a }
def btw (own : List Int) (l : List To) : List To := l.filterMap (btV own)
section
variable {own : List Int} {l : List To} {i : Nat} {t : To}
end
end Go.Proofs.YtlgnagnmoleeiaaGreat.E.Ct
namespace Go.Proofs.YtlgnagnmoleeiaaGreat.E.Ct
open Go.RowKit
set_option linter.unusedVariables false
set_option linter.unusedSimpArgs false
section
variable {own : List Int} {l : List To} {i : Nat} {t : To}
end
end Go.Proofs.YtlgnagnmoleeiaaGreat.E.Ct
namespace Go.Proofs.YtlgnagnmoleeiaaGreat.E.Ct
open Go.RowKit
set_option linter.unusedVariables false
set_option linter.unusedSimpArgs false
structure Ft where
 a : Nat
 b : Nat
 ea : Nat
 eb : Int
 many : Nat
 turn : Vc
 lo : Vc
 hi : Vc
def Ft.v (f : Ft) : List V := [ni (f.a : Int), ni (f.b : Int), ni (f.ea : Int), ni f.eb, ni (f.many : Int)] ++ (dV f.turn ++ (dV f.lo ++ dV f.hi))
structure Ft.Ok (f : Ft) (s : Sc) : Prop where
 a : f.a < s.L.length
 b : f.b < s.L.length
 ea : f.ea ≤ 1000000
 many : f.many ≤ 100
section
variable {s : Sc} {b k i : Nat} {st : Int} {l : List Ft} {f : Ft}
end
end Go.Proofs.YtlgnagnmoleeiaaGreat.E.Ct
namespace Go.Proofs.YtlgnagnmoleeiaaGreat.E.Ct
open Go.RowKit
set_option linter.unusedVariables false
set_option linter.unusedSimpArgs false
section
variable {s : Sc} {b k i : Nat} {st : Int} {l : List Ft} {f : Ft}
end
end Go.Proofs.YtlgnagnmoleeiaaGreat.E.Ct
namespace Go.Proofs.YtlgnagnmoleeiaaGreat.E.Ct
open Go.RowKit
set_option linter.unusedVariables false
set_option linter.unusedSimpArgs false
structure Bo where
 c : Vc
 light : Rat
 heavy : Rat
 str : Rat
def Bo.v (t : Bo) : List V := dV t.c ++ (dR t.light ++ (dR t.heavy ++ dR t.str))
section
variable {l : List Bo} {i : Nat} {t : Bo} {z : List Int} {at' : Nat} {n : Int}
theorem is2_ : W.Is64 2 := ⟨by decide, by decide⟩
theorem bq_small {x y : Int} (hx : -64 ≤ x ∧ x ≤ 64) (hy : 1 ≤ y ∧ y ≤ 2) : Bq 8 (Rat.divInt x y) := Bq.divInt (k := 8) (by unfold I.Bd; omega) (by unfold I.Bd; omega) (by omega)
end
end Go.Proofs.YtlgnagnmoleeiaaGreat.E.Ct
namespace Go.Proofs.YtlgnagnmoleeiaaGreat.E.Ct
open Go.RowKit
set_option linter.unusedVariables false
set_option linter.unusedSimpArgs false
section
variable {l : List Int} {k : Nat}
end
end Go.Proofs.YtlgnagnmoleeiaaGreat.E.Ct
namespace Go.Proofs.YtlgnagnmoleeiaaGreat.E.Ct
open Go.RowKit
set_option linter.unusedVariables false
set_option linter.unusedSimpArgs false
def Sm_ (b : Int) (p : Int × Int) : Prop := -b ≤ p.1 ∧ p.1 ≤ b ∧ -b ≤ p.2 ∧ p.2 ≤ b
end Go.Proofs.YtlgnagnmoleeiaaGreat.E.Ct
namespace Go.Proofs.YtlgnagnmoleeiaaGreat.E.Ct
open Go.RowKit
set_option linter.unusedVariables false
set_option linter.unusedSimpArgs false
def ro (R : List Nat) (k : Nat) : Nat := if h : R.getD k k < k then ro R (R.getD k k) else k
termination_by k
/-- The way to the root, made short. -/
def fnd (R : List Nat) (k : Nat) : List Nat × Nat := if h : R.getD k k < k then ((fnd R (R.getD k k)).1.set k (fnd R (R.getD k k)).2, (fnd R (R.getD k k)).2) else (R, k)
termination_by k
structure Dn (R : List Nat) : Prop where
 le : ∀ i, R.getD i i ≤ i
section
variable {R : List Nat} {j k a b : Nat}
theorem getD_set (R : List Nat) (k x i d : Nat) : (R.set k x).getD i d = if i = k ∧ k < R.length then x else R.getD i d := by
 rw [List.getD_eq_getElem?_getD, List.getElem?_set, List.getD_eq_getElem?_getD]
 by_cases h : k = i
 · subst h
   by_cases hk : k < R.length
   · simp [hk]
   · simp [hk]
 · rw [if_neg h, if_neg (by omega)]
theorem ro_lt (h : R.getD k k < k) : ro R k = ro R (R.getD k k) := by rw [ro, dif_pos h]
theorem ro_ge (h : ¬ R.getD k k < k) : ro R k = k := by rw [ro, dif_neg h]
theorem fnd_lt (h : R.getD k k < k) : fnd R k = ((fnd R (R.getD k k)).1.set k (fnd R (R.getD k k)).2, (fnd R (R.getD k k)).2) := by rw [fnd, dif_pos h]
theorem fnd_ge (h : ¬ R.getD k k < k) : fnd R k = (R, k) := by rw [fnd, dif_neg h]
theorem fnd_2 (R : List Nat) (k : Nat) : (fnd R k).2 = ro R k := by
 induction k using Nat.strongRecOn with
 | _ k ih =>
  by_cases h : R.getD k k < k
  · rw [fnd_lt h, ro_lt h]; exact ih _ h
  · rw [fnd_ge h, ro_ge h]
theorem ro_le (R : List Nat) (k : Nat) : ro R k ≤ k := by
 induction k using Nat.strongRecOn with
 | _ k ih =>
  by_cases h : R.getD k k < k
  · rw [ro_lt h]; have := ih _ h; omega
  · rw [ro_ge h]; omega
theorem ro_root (hD : Dn R) (k : Nat) : R.getD (ro R k) (ro R k) = ro R k := by
 induction k using Nat.strongRecOn with
 | _ k ih =>
  by_cases h : R.getD k k < k
  · rw [ro_lt h]; exact ih _ h
  · rw [ro_ge h]; have := hD.le k; omega
theorem ro_of (h : R.getD k k = k) : ro R k = k := ro_ge (by omega)
theorem ro_ro (hD : Dn R) (k : Nat) : ro R (ro R k) = ro R k := ro_of (ro_root hD k)
theorem Dn.set (hD : Dn R) (h : b ≤ a) : Dn (R.set a b) := ⟨fun i => by
 rw [getD_set]
 split
 · omega
 · exact hD.le i⟩
/-- A way made short. -/
theorem ro_set (hD : Dn R) (k j : Nat) : ro (R.set k (ro R k)) j = ro R j := by
 induction j using Nat.strongRecOn with
 | _ j ih =>
  have hg := getD_set R k (ro R k) j j
  by_cases e : j = k ∧ k < R.length
  · rw [if_pos e] at hg
    obtain ⟨rfl, hk⟩ := e
    by_cases h : ro R j < j
    · rw [ro_lt (by rw [hg]; exact h), hg, ih _ h, ro_ro hD]
    · have h1 := ro_le R j
      rw [ro_ge (by rw [hg]; exact h)]
      omega
  · rw [if_neg e] at hg
    by_cases h : R.getD j j < j
    · rw [ro_lt (by rw [hg]; exact h), hg, ih _ h, ro_lt h]
    · rw [ro_ge (by rw [hg]; exact h), ro_ge h]
structure Sp (R R' : List Nat) : Prop where
 dn : Dn R'
 len : R'.length = R.length
 ro : ∀ j, ro R' j = ro R j
theorem fnd_sp (hD : Dn R) (k : Nat) : Sp R (fnd R k).1 := by
 induction k using Nat.strongRecOn with
 | _ k ih =>
  by_cases h : R.getD k k < k
  · have s := ih _ h
    rw [fnd_lt h]
    have e : (fnd R (R.getD k k)).2 = Ct.ro (fnd R (R.getD k k)).1 k := by rw [fnd_2, s.ro, ro_lt h]
    refine ⟨s.dn.set (by rw [e]; exact ro_le _ _), by rw [List.length_set]; exact s.len, fun j => ?_⟩
    rw [e, ro_set s.dn, s.ro]
  · rw [fnd_ge h]
    exact ⟨hD, rfl, fun j => rfl⟩
end
/-- A forest that stands for classes. -/
structure Fo (n : Nat) (ρ : Nat → Nat) (R : List Nat) : Prop where
 dn : Dn R
 len : R.length = n
 ro : ∀ j, j < n → ro R j = ρ j
section
variable {R : List Nat} {n j k a b : Nat} {ρ : Nat → Nat} {p : Nat → Bool}
theorem Fo.fnd (h : Fo n ρ R) (k : Nat) : Fo n ρ (Ct.fnd R k).1 := by
 have s := fnd_sp h.dn k
 exact ⟨s.dn, s.len.trans h.len, fun j hj => (s.ro j).trans (h.ro j hj)⟩
theorem Fo.two (h : Fo n ρ R) (hk : k < n) : (Ct.fnd R k).2 = ρ k := by rw [fnd_2, h.ro k hk]
theorem Fo.le (h : Fo n ρ R) (hk : k < n) : ρ k ≤ k := by rw [← h.ro k hk]; exact ro_le R k
end
end Go.Proofs.YtlgnagnmoleeiaaGreat.E.Ct
namespace Go.Proofs.YtlgnagnmoleeiaaGreat.E.Ct
open Go.RowKit
set_option linter.unusedVariables false
set_option linter.unusedSimpArgs false
def cenV (p : Pi) (pl : Pl) : Vc := vput pl (Pg.center p.rimV)
def wt (s : Sc) (k : Nat) : Rat := (s.pi k).light + (s.pi k).heavy
def cw (s : Sc) (k : Nat) : Vc := vsca (cenV (s.pi k) (s.pl k)) (wt s k)
/-- What is added up for a body. -/
structure Ac where
 c : Vc
 light : Rat
 heavy : Rat
 str : Rat
 w : Rat
def ac0 (s : Sc) (j : Nat) : Ac := ⟨(0, 0), 0, 0, (s.pi j).str, 0⟩
def acS (s : Sc) (x : Ac) (k : Nat) : Ac := ⟨vadd x.c (cw s k), x.light + (s.pi k).light, x.heavy + (s.pi k).heavy, lsr x.str (s.pi k).str, x.w + wt s k⟩
def acc (s : Sc) (rt : Nat → Int) (j : Nat) : Nat → Ac
 | 0 => ac0 s j
 | k + 1 => if rt k = (j : Int) then acS s (acc s rt j k) k else acc s rt j k
def rts (rt : Nat → Int) (k : Nat) : List Nat := (List.range k).filter fun j => decide (rt j = (j : Int))
def pos (rt : Nat → Int) (j : Nat) : Nat := (rts rt j).length
def Ac.bo (x : Ac) : Bo := ⟨x.c, x.light, x.heavy, x.str⟩
def Ac.fin (x : Ac) : Bo := ⟨(x.c.1 / x.w, x.c.2 / x.w), x.light, x.heavy, x.str⟩
section
variable {s : Sc} {rt : Nat → Int} {j k i b : Nat} {r : Nat}
theorem rts_succ (rt : Nat → Int) (k : Nat) : rts rt (k + 1) = rts rt k ++ (if rt k = (k : Int) then [k] else []) := by
 unfold rts
 rw [List.range_succ, List.filter_append]
 congr 1
 by_cases h : rt k = (k : Int) <;> simp [h]
theorem rts_at (hr : rt r = (r : Int)) : ∀ k, r < k → (rts rt k)[pos rt r]? = some r
 | 0, h => by omega
 | k + 1, h => by
  rw [rts_succ]
  by_cases e : r = k
  · subst e
    rw [if_pos hr]
    unfold pos
    rw [List.getElem?_append_right (Nat.le_refl _), Nat.sub_self]
    rfl
  · have ih := rts_at hr k (by omega)
    rw [List.getElem?_append_left (List.getElem?_eq_some_iff.1 ih).1]
    exact ih
theorem rts_inj {i i' : Nat} (h : (rts rt k)[i]? = some r) (h' : (rts rt k)[i']? = some r) : i = i' := by
 have hp : (rts rt k).Pairwise (· < ·) := List.Pairwise.filter _ List.pairwise_lt_range
 rw [List.pairwise_iff_getElem] at hp
 obtain ⟨a1, a2⟩ := List.getElem?_eq_some_iff.1 h
 obtain ⟨b1, b2⟩ := List.getElem?_eq_some_iff.1 h'
 rcases Nat.lt_trichotomy i i' with g | g | g
 · have := hp i i' a1 b1 g; omega
 · exact g
 · have := hp i' i b1 a1 g; omega
/-- One of the roots' words turns. -/
theorem map_set {α : Type} {f g : Nat → α} (hr : rt r = (r : Int)) (h : r < k) (hg : ∀ j, j ≠ r → g j = f j) : ((rts rt k).map f).set (pos rt r) (g r) = (rts rt k).map g := by
 apply List.ext_getElem?
 intro i
 have ha := rts_at hr k h
 have hl := (List.getElem?_eq_some_iff.1 ha).1
 rw [List.getElem?_set, List.getElem?_map, List.getElem?_map, List.length_map]
 by_cases e : pos rt r = i
 · subst e
   rw [if_pos rfl, if_pos hl, ha]
   rfl
 · rw [if_neg e]
   cases hx : (rts rt k)[i]? with
   | none => rfl
   | some j =>
    have : j ≠ r := fun e2 => e (by subst e2; exact rts_inj ha hx)
    simp only [Option.map_some, hg j this]
theorem cen_bits {k : Nat} {L : List Vc} (hb : ∀ a ∈ L, Bv k a) (hn : L.length ≤ 100) : Bv ((6 * k + 3) * 100 + 1 + (2 + ((4 * k + 2) * 100 + 1))) (Pg.center L) := by
 have h1 := pre_bits (n := L.length) (fun a b ha hb => (fx_bits (k := k) ha hb).1) rfl hb (List.finRange _) (by rw [List.length_finRange]; exact hn)
 have h2 := pre_bits (n := L.length) (fun a b ha hb => (fx_bits (k := k) ha hb).2) rfl hb (List.finRange _) (by rw [List.length_finRange]; exact hn)
 have h3 := pre_bits (n := L.length) (fun a b ha hb => crs_bits (k := k) ha hb) rfl hb (List.finRange _) (by rw [List.length_finRange]; exact hn)
 rw [Pg.at_all L _ rfl] at h1 h2 h3
 exact Bv.sca (v := (Pg.sum Pg.fx (Pg.sides L), Pg.sum Pg.fy (Pg.sides L))) ⟨h1, h2⟩ (third_bits.div h3 (by omega))
theorem Pi.Good.cen {p : Pi} {pl : Pl} (h : p.Good pl b) : Bv (1010 * b + 1000) (Pg.center p.rimV) := (cen_bits h.r (by have := h.n; unfold Pi.rimV; rw [List.length_map]; omega)).mono (by omega)
theorem Pi.Good.cenV {p : Pi} {pl : Pl} (h : p.Good pl b) : Bv (2024 * b + 2002) (cenV p pl) := ((h.t.rot h.cen).add h.a).mono (by omega)
end
section
variable {p : Pi} {pl : Pl} {b : Nat}
theorem e_pcen (h : p.Good pl b) : Pure PP 32 [.ag p.v, .ag (dPl pl)] (.ag (dV (cenV p pl))) := by
 have hk := h.k
 have hn : p.rimV.length ≤ 100 := by have := h.n; unfold Pi.rimV; rw [List.length_map]; omega
 exact tr [cl (e_rim h.ok), cl (e_center h.r hn h.k), cl (e_put h.t h.a h.cen (by omega))] (by kernel_rfl)
end
end Go.Proofs.YtlgnagnmoleeiaaGreat.E.Ct
