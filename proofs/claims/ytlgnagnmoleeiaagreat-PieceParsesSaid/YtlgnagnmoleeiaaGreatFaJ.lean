/-
 PIECE: a piece with something changed: up to the change.
-/
import Derived.Test.YtlgnagnmoleeiaaGreatFbD
import Derived.Test.YtlgnagnmoleeiaaGreatEwT
import Derived.Test.YtlgnagnmoleeiaaGreatEzM
namespace Go.Proofs.YtlgnagnmoleeiaaGreat.E.Pc
open Go.RowKit
set_option linter.unusedVariables false
set_option linter.unusedSimpArgs false
section
variable {p : Ct.Pi} {q : Pr}
noncomputable abbrev fsi_ : Func := fnOf PP 86
theorem e_sints (l : List Int) (hn : l.length ≤ 1000000) : Pure PP 86 [zl l, zl l] (bo true) := by
 have hl := zs_len l
 let X : Nat → St := fun i => at_ fsi_ [(0, zl l), (1, zl l), (5, ni (i : Int))] []
 refine pf (by kernel_rfl) (.to mo_ [] [0, 1, 5] [] 0 [na (t := ((zs l).length : Int) != ((zs l).length : Int)) (by simp)] (td' := lp fsi_ 0) (σ' := X 0) ?_ (by kernel_rfl))
 refine Gd.loop X (fun i => i ≤ l.length) (fun i => l.length - i) ?_ 0 (Nat.zero_le _)
 intro i hi ih
 by_cases g : i < l.length
 · obtain ⟨x, hx, _⟩ := Ct.get_of g
   have et := zs_at hx
   exact .to mo_ [] [0, 1, 5] [] 0 [ye (t := decide ((i : Int) < ((zs l).length : Int))) (decide_eq_true (by omega)), .sel _ _ _ et, .sel _ _ _ et, na (t := x != x) (by simp), inc 16 i (by omega)] (ih (i + 1) g (by omega)) (by kernel_rfl)
 · exact fi [na (t := decide ((i : Int) < ((zs l).length : Int))) (decide_eq_false (by omega))] (by kernel_rfl) (by kernel_rfl)
theorem same4r (r : Rat) : Pure PP 48 [.ag (dR r), .ag (dR r)] (bo true) := (show decide (r = r) = true by simp) ▸ e_same4 r r
noncomputable abbrev fS12 : Func := fnOf PP 20
theorem e_same12 (p : Ct.Pi) (h1 : p.rim.length ≤ 1000000) (h2 : p.worn.length ≤ 1000000) (h3 : p.marks.length ≤ 1000000) : Pure PP 20 [.ag p.v, .ag p.v] (bo true) := by
 have z1 : (Ct.ptR p.rim).length = p.rim.length := List.length_map ..
 have z2 : (Ct.wnR p.worn).length = p.worn.length := List.length_map ..
 have s := e_sints p.marks h3
 have r1 := same4r p.tol
 have r2 := same4r p.light
 have r3 := same4r p.heavy
 have r4 := same4r p.str
 have r5 := same4r p.rough
 have q1 : (p.id != p.id) = false := by simp
 have q2 : (p.home != p.home) = false := by simp
 have q3 : (((Ct.ptR p.rim).length : Int) != ((Ct.ptR p.rim).length : Int)) = false := by simp
 have q4 : (((Ct.wnR p.worn).length : Int) != ((Ct.wnR p.worn).length : Int)) = false := by simp
 let X : Nat → St := fun i => at_ fS12 [(2, .ip p.v), (3, .ip p.v), (5, ni i)] []
 let Z : Nat → St := fun i => at_ fS12 [(2, .ip p.v), (3, .ip p.v), (6, ni i)] []
 refine pf (by kernel_rfl) (.to mo_ [.fz 2, .fz 3] [2, 3, 5] [] 0 [na q1, na q2, na q3, na q4, cl s, nf] (td' := lp fS12 0) (σ' := X 0) ?_ (by kernel_rfl))
 refine Gd.loop X (fun i => i ≤ p.rim.length) (fun i => p.rim.length - i) ?_ 0 (Nat.zero_le _)
 intro i hi ih
 have e1 : ni ((Ct.ptR p.rim).length : Int) = ni (p.rim.length : Int) := by rw [z1]
 have e2 : ni ((Ct.wnR p.worn).length : Int) = ni (p.worn.length : Int) := by rw [z2]
 by_cases g : i < p.rim.length
 · obtain ⟨c, hc, _⟩ := Ct.get_of g
   have hsel := Ct.pt_at hc
   exact .to mo_ [] [2, 3, 5] [] 0 [.eqv 48 _ _ e1, ye (t := decide ((i : Int) < (p.rim.length : Int))) (decide_eq_true (by omega)), .sel _ _ _ hsel, .sel _ _ _ hsel, na (t := c.1 != c.1) (by simp), .sel _ _ _ hsel, .sel _ _ _ hsel, na (t := c.2 != c.2) (by simp), inc 51 i (by omega)] (ih (i + 1) g (by omega)) (by kernel_rfl)
 have hi2 : i = p.rim.length := by omega
 subst hi2
 refine .to mo_ [] [2, 3, 6] [] 0 [.eqv 48 _ _ e1, na (t := decide ((p.rim.length : Int) < (p.rim.length : Int))) (decide_eq_false (by omega))] (td' := lp fS12 1) (σ' := Z 0) ?_ (by kernel_rfl)
 refine Gd.loop Z (fun i => i ≤ p.worn.length) (fun i => p.worn.length - i) ?_ 0 (Nat.zero_le _)
 intro i hi ih
 by_cases g : i < p.worn.length
 · obtain ⟨w, hw, _⟩ := Ct.get_of g
   have hsel := wn_at hw
   exact .to mo_ [] [2, 3, 6] [] 0 [.eqv 83 _ _ e2, ye (t := decide ((i : Int) < (p.worn.length : Int))) (decide_eq_true (by omega)), .sel _ _ _ hsel, .sel _ _ _ hsel, na (t := w != w) (by simp), inc 86 i (by omega)] (ih (i + 1) g (by omega)) (by kernel_rfl)
 have hi2 : i = p.worn.length := by omega
 subst hi2
 exact fi [.eqv 83 _ _ e2, na (t := decide ((p.worn.length : Int) < (p.worn.length : Int))) (decide_eq_false (by omega)), cl r1, yt, cl r2, yt, cl r3, yt, cl r4, yt, cl r5] (by kernel_rfl) (by kernel_rfl)
/-- Numbers: whether all numbers are ones. -/
theorem e_numbers12 (ok : q.Ok) : ∃ b : Bool, Pure PP 21 [.ag q.v] (bo b) ∧ (b = true → rok q.a ∧ rok q.b ∧ rok q.c ∧ rok q.d ∧ rok q.e) := by
 obtain ⟨t1, k1, i1⟩ := e_valid4_ex ok.a
 obtain ⟨t2, k2, i2⟩ := e_valid4_ex ok.b
 obtain ⟨t3, k3, i3⟩ := e_valid4_ex ok.c
 obtain ⟨t4, k4, i4⟩ := e_valid4_ex ok.d
 obtain ⟨t5, k5, i5⟩ := e_valid4_ex ok.e
 have hv : q.v = [ni q.id, ni q.home, .sl (Ct.ptR q.rim), .sl (Ct.wnR q.worn), zl q.marks] ++ (cN q.a ++ (cN q.b ++ (cN q.c ++ (cN q.d ++ cN q.e)))) := rfl
 refine ⟨t1 && (t2 && (t3 && (t4 && t5))), ?_, fun h => ?_⟩
 · rw [hv]
   generalize Ct.ptR q.rim = PR at *
   generalize Ct.wnR q.worn = WR at *
   cases t1 with
   | false => exact tr [cl k1, nf, nf, nf, nf] (by kernel_rfl)
   | true =>
   cases t2 with
   | false => exact tr [cl k1, yt, cl k2, nf, nf, nf] (by kernel_rfl)
   | true =>
   cases t3 with
   | false => exact tr [cl k1, yt, cl k2, yt, cl k3, nf, nf] (by kernel_rfl)
   | true =>
   cases t4 with
   | false => exact tr [cl k1, yt, cl k2, yt, cl k3, yt, cl k4, nf] (by kernel_rfl)
   | true => exact tr [cl k1, yt, cl k2, yt, cl k3, yt, cl k4, yt, cl k5] (by kernel_rfl)
 · simp only [Bool.and_eq_true] at h
   obtain ⟨g1, g2, g3, g4, g5⟩ := h
   refine ⟨?_, ?_, ?_, ?_, ?_⟩
   · exact Classical.byContradiction fun g => by rw [i1 g] at g1; cases g1
   · exact Classical.byContradiction fun g => by rw [i2 g] at g2; cases g2
   · exact Classical.byContradiction fun g => by rw [i3 g] at g3; cases g3
   · exact Classical.byContradiction fun g => by rw [i4 g] at g4; cases g4
   · exact Classical.byContradiction fun g => by rw [i5 g] at g5; cases g5
end
end Go.Proofs.YtlgnagnmoleeiaaGreat.E.Pc
namespace Go.Proofs.YtlgnagnmoleeiaaGreat.E.Pc
open Go.RowKit
set_option linter.unusedVariables false
set_option linter.unusedSimpArgs false
def wnF (ws : List Bool) (k : Nat) : List Int := (List.range ws.length).map fun i => if i < k then (if ws.getD i false then 1 else 0) else 0
section
variable {p : Ct.Pi} {ws : List Bool} {i : Nat}
theorem wnF_0 (ws : List Bool) : List.replicate ws.length [ni 0] = zs (wnF ws 0) := by
 unfold zs wnF
 apply List.ext_getElem?
 intro i
 rw [List.map_map, List.getElem?_map, List.getElem?_replicate]
 by_cases h : i < ws.length
 · rw [if_pos h, List.getElem?_range h]; rfl
 · rw [if_neg h, List.getElem?_eq_none (by simpa using h)]; rfl
theorem wnF_n (ws : List Bool) : wnF ws ws.length = wnI ws := by
 unfold wnF wnI
 apply List.ext_getElem?
 intro i
 rw [List.getElem?_map, List.getElem?_map]
 by_cases h : i < ws.length
 · rw [List.getElem?_range h, List.getElem?_eq_getElem h]
   simp only [Option.map_some, if_pos h, List.getD_eq_getElem?_getD, List.getElem?_eq_getElem h, Option.getD_some]
 · rw [List.getElem?_eq_none (by simpa using h), List.getElem?_eq_none (by simpa using h)]; rfl
theorem wnF_at (h : i < ws.length) : (zs (wnF ws i))[i]? = some [ni 0] := by
 have := Ct.zs_fun_at (n := ws.length) (k := i) (f := fun j => if j < i then (if ws.getD j false then 1 else 0) else 0) h
 rw [if_neg (by omega)] at this
 exact this
theorem wnF_t (h : ws[i]? = some true) : (zs (wnF ws i)).set i [ni 1] = zs (wnF ws (i + 1)) := Ct.zs_fun (List.getElem?_eq_some_iff.1 h).1 (by rw [if_pos (by omega), List.getD_eq_getElem?_getD, h]; rfl) fun j hj => by
 have : j < i + 1 ↔ j < i := by omega
 simp only [this]
theorem wnF_f (h : ws[i]? = some false) : wnF ws (i + 1) = wnF ws i := by
 unfold wnF
 refine List.map_congr_left fun j hj => ?_
 by_cases e : j = i
 · subst e
   simp [List.getD_eq_getElem?_getD, h]
 · have : j < i + 1 ↔ j < i := by omega
   simp only [this]
noncomputable abbrev fE12 : Func := fnOf PP 17
theorem e_penc12 (h : En p) : Pure PP 17 [.ag p.v] (.o 5 1 (byL (encP p))) := by
 have hcl := crn_len p.rim
 have hwl := wnI_len p.worn
 have i1 : ∀ x ∈ [p.id, p.home], W.Is64 x := fun x hx => by
  simp at hx
  rcases hx with rfl | rfl
  · exact h.id
  · exact h.home
 have nr := h.nr
 have nw := h.nw
 have nm := h.nm
 have l1 := wl_ [p.id, p.home] (Nat.le_of_ble_eq_true rfl)
 have l2 := wl_ (crn p.rim) (by omega)
 have l3 := wl_ (wnI p.worn) (by omega)
 have l4 := wl_ p.marks (by omega)
 have w1 := e_rints i1 (Nat.le_of_ble_eq_true rfl)
 have w2 := e_rints (crn_64 h.r) (by omega)
 have w3 := e_rints (wnI_64 (l := p.worn)) (by omega)
 have w4 := e_rints h.m (by omega)
 have q0 := h.q p.tol (by simp [numP]); have q1 := h.q p.light (by simp [numP]); have q2 := h.q p.heavy (by simp [numP]); have q3 := h.q p.str (by simp [numP]); have q4 := h.q p.rough (by simp [numP])
 have n0 := q0.len; have n1 := q1.len; have n2 := q2.len; have n3 := q3.len; have n4 := q4.len
 have hpl : (Ct.ptR p.rim).length = p.rim.length := List.length_map ..
 have hwl2 : (Ct.wnR p.worn).length = p.worn.length := List.length_map ..
 let X : Nat → St := fun i => at_ fE12 [(1, .ip p.v), (3, .ow 1), (4, ni i)] [.dead, .rw 3 1 (zs (crn (p.rim.take i)))]
 let Z : Nat → St := fun i => at_ fE12 [(1, .ip p.v), (3, .ow 1), (5, .ow 2), (6, ni i)] [.dead, .rw 3 1 (zs (crn p.rim)), .rw 3 1 (zs (wnF p.worn i))]
 refine pf (by kernel_rfl) (.to mo_ [.fz 1, .ow 3 (.rw 3 1 [])] [1, 3, 4] [1] 2 [] (td' := lp fE12 0) (σ' := X 0) ?_ (by kernel_rfl))
 refine Gd.loop X (fun i => i ≤ p.rim.length) (fun i => p.rim.length - i) ?_ 0 (Nat.zero_le _)
 intro i hi ih
 have e13 : ni ((Ct.ptR p.rim).length : Int) = ni (p.rim.length : Int) := by rw [hpl]
 by_cases g : i < p.rim.length
 · obtain ⟨c, hc, _⟩ := Ct.get_of g
   have hnx := crn_next hc
   have hl2 := crn_len (p.rim.take (i + 1))
   rw [List.length_take] at hl2
   exact .to mo_ [.mv 1 3] [1, 3, 4] [1] 2 [.eqv 13 _ _ e13, ye (t := decide ((i : Int) < (p.rim.length : Int))) (decide_eq_true (by omega)), .sel _ _ _ (Ct.pt_at hc), .sel _ _ _ (Ct.pt_at hc), .app (zs (crn (p.rim.take i))) (zs [c.1, c.2]) (zs (crn (p.rim.take (i + 1)))) 1000 (by rw [hnx, zs_app]) (Nat.zero_lt_succ _) (by rw [zs_len]; omega), inc 16 i (by omega)] (ih (i + 1) g (by omega)) (by kernel_rfl)
 have hi2 : i = p.rim.length := by omega
 subst hi2
 simp only [X]
 rw [List.take_length]
 have e34 : ni ((Ct.wnR p.worn).length : Int) = ni (p.worn.length : Int) := by rw [hwl2]
 refine .to mo_ [] [1, 3, 5, 6] [1, 2] 3 [.eqv 13 _ _ e13, na (t := decide ((p.rim.length : Int) < (p.rim.length : Int))) (decide_eq_false (by omega)), .eqv 34 _ _ e34, .mk p.worn.length (by omega)] (td' := lp fE12 1) (σ' := at_ fE12 [(1, .ip p.v), (3, .ow 1), (5, .ow 2), (6, ni ((0 : Nat) : Int))] [.dead, .rw 3 1 (zs (crn p.rim)), .rw 3 1 (List.replicate p.worn.length [ni 0])]) ?_ (by kernel_rfl)
 rw [wnF_0]
 refine Gd.loop Z (fun i => i ≤ p.worn.length) (fun i => p.worn.length - i) ?_ 0 (Nat.zero_le _)
 intro i hi ih
 by_cases g : i < p.worn.length
 · obtain ⟨w, hw, _⟩ := Ct.get_of g
   have nx := ih (i + 1) g (by omega)
   cases w with
   | true => exact .to mo_ [] [1, 3, 5, 6] [1, 2] 3 [.eqv 39 _ _ e34, ye (t := decide ((i : Int) < (p.worn.length : Int))) (decide_eq_true (by omega)), .sel _ _ _ (wn_at hw), yt, .sel _ _ _ (wnF_at g), .upd _ _ _ _ _ (wnF_at g) (wnF_t hw), inc 42 i (by omega)] nx (by kernel_rfl)
   | false =>
    simp only [Z] at nx ⊢
    rw [wnF_f hw] at nx
    exact .to mo_ [] [1, 3, 5, 6] [1, 2] 3 [.eqv 39 _ _ e34, ye (t := decide ((i : Int) < (p.worn.length : Int))) (decide_eq_true (by omega)), .sel _ _ _ (wn_at hw), nf, inc 42 i (by omega)] nx (by kernel_rfl)
 have hi2 : i = p.worn.length := by omega
 subst hi2
 simp only [Z]
 rw [wnF_n]
 have lh : (hdP p).length ≤ 4000 := by unfold hdP; simp only [List.length_append]; omega
 let Q : Nat → List UInt8 := fun i => hdP p ++ ((numP p).take i).flatMap encQ
 let RS : List (List V) := [dR p.tol, dR p.light, dR p.heavy, dR p.str, dR p.rough]
 let Y : Nat → St := fun i => at_ fE12 [(7, .ow 10), (8, .ow 11), (9, ni i)] [.dead, .dead, .dead, .dead, .dead, .dead, .dead, .dead, .dead, .dead, .rw 5 1 (byL (Q i)), .rw 28 4 RS]
 have p1 : Q 1 = Q 0 ++ encQ p.tol := by simp [Q, numP]
 have p2 : Q 2 = Q 1 ++ encQ p.light := by simp [Q, numP]
 have p3 : Q 3 = Q 2 ++ encQ p.heavy := by simp [Q, numP]
 have p4 : Q 4 = Q 3 ++ encQ p.str := by simp [Q, numP]
 have p5 : Q 5 = Q 4 ++ encQ p.rough := by simp [Q, numP]
 have pe : Q 5 = encP p := rfl
 have pz : W.encI [p.id, p.home] ++ W.encI (crn p.rim) ++ W.encI (wnI p.worn) ++ W.encI p.marks = Q 0 := by simp [Q, hdP]
 have pl0 : (Q 0).length = (hdP p).length := by simp [Q]
 have pl1 : (Q 1).length = (Q 0).length + (encQ p.tol).length := by rw [p1, List.length_append]
 have pl2 : (Q 2).length = (Q 1).length + (encQ p.light).length := by rw [p2, List.length_append]
 have pl3 : (Q 3).length = (Q 2).length + (encQ p.heavy).length := by rw [p3, List.length_append]
 have pl4 : (Q 4).length = (Q 3).length + (encQ p.str).length := by rw [p4, List.length_append]
 have pl5 : (Q 5).length = (Q 4).length + (encQ p.rough).length := by rw [p5, List.length_append]
 have e39 : ni ((Ct.wnR p.worn).length : Int) = ni (p.worn.length : Int) := e34
 have hx : decide ((p.worn.length : Int) < (p.worn.length : Int)) = false := decide_eq_false (by omega)
 have b1 : byL (W.encI [p.id, p.home]) ++ byL (W.encI (crn p.rim)) = byL (W.encI [p.id, p.home] ++ W.encI (crn p.rim)) := byL_app _ _
 have b2 : byL (W.encI [p.id, p.home] ++ W.encI (crn p.rim)) ++ byL (W.encI (wnI p.worn)) = byL (W.encI [p.id, p.home] ++ W.encI (crn p.rim) ++ W.encI (wnI p.worn)) := byL_app _ _
 have b3 : byL (W.encI [p.id, p.home] ++ W.encI (crn p.rim) ++ W.encI (wnI p.worn)) ++ byL (W.encI p.marks) = byL (Q 0) := by rw [← pz]; exact byL_app _ _
 refine .to mo_ [] [7, 8, 9] [10, 11] 12 [.eqv 39 _ _ e39, na hx, cl w1, cl w2, .app _ _ _ 100000 b1 (by rw [byL_len]; omega) (by rw [byL_len, List.length_append]; omega), cl w3, .app _ _ _ 100000 b2 (by rw [byL_len]; omega) (by rw [byL_len, List.length_append, List.length_append]; omega), cl w4, .app _ _ _ 100000 b3 (by rw [byL_len]; omega) (by rw [byL_len]; omega)] (td' := lp fE12 2) (σ' := Y 0) ?_ (by kernel_rfl)
 refine .to mo_ [.mv 10 13] [7, 8, 9] [10, 11] 12 [yt, .sel RS 0 (dR p.tol) rfl, .sel RS 0 (dR p.tol) rfl, cl (e_renc4 q0.fq), .app (byL (Q 0)) (byL (encQ p.tol)) (byL (Q 1)) 100000 (by rw [byL_app, p1]) (by rw [byL_len]; omega) (by rw [byL_len]; omega)] (td' := lp fE12 2) (σ' := Y 1) ?_ (by kernel_rfl)
 refine .to mo_ [.mv 10 13] [7, 8, 9] [10, 11] 12 [yt, .sel RS 1 (dR p.light) rfl, .sel RS 1 (dR p.light) rfl, cl (e_renc4 q1.fq), .app (byL (Q 1)) (byL (encQ p.light)) (byL (Q 2)) 100000 (by rw [byL_app, p2]) (by rw [byL_len]; omega) (by rw [byL_len]; omega)] (td' := lp fE12 2) (σ' := Y 2) ?_ (by kernel_rfl)
 refine .to mo_ [.mv 10 13] [7, 8, 9] [10, 11] 12 [yt, .sel RS 2 (dR p.heavy) rfl, .sel RS 2 (dR p.heavy) rfl, cl (e_renc4 q2.fq), .app (byL (Q 2)) (byL (encQ p.heavy)) (byL (Q 3)) 100000 (by rw [byL_app, p3]) (by rw [byL_len]; omega) (by rw [byL_len]; omega)] (td' := lp fE12 2) (σ' := Y 3) ?_ (by kernel_rfl)
 refine .to mo_ [.mv 10 13] [7, 8, 9] [10, 11] 12 [yt, .sel RS 3 (dR p.str) rfl, .sel RS 3 (dR p.str) rfl, cl (e_renc4 q3.fq), .app (byL (Q 3)) (byL (encQ p.str)) (byL (Q 4)) 100000 (by rw [byL_app, p4]) (by rw [byL_len]; omega) (by rw [byL_len]; omega)] (td' := lp fE12 2) (σ' := Y 4) ?_ (by kernel_rfl)
 refine .to mo_ [.mv 10 13] [7, 8, 9] [10, 11] 12 [yt, .sel RS 4 (dR p.rough) rfl, .sel RS 4 (dR p.rough) rfl, cl (e_renc4 q4.fq), .app (byL (Q 4)) (byL (encQ p.rough)) (byL (Q 5)) 100000 (by rw [byL_app, p5]) (by rw [byL_len]; omega) (by rw [byL_len]; omega)] (td' := lp fE12 2) (σ' := Y 5) ?_ (by kernel_rfl)
 rw [← pe]
 exact fi [nf] (by kernel_rfl) (by kernel_rfl)
end
end Go.Proofs.YtlgnagnmoleeiaaGreat.E.Pc
namespace Go.Proofs.YtlgnagnmoleeiaaGreat.E.Pc
open Go.RowKit
set_option linter.unusedVariables false
set_option linter.unusedSimpArgs false
noncomputable abbrev fsp : Func := fnOf PP 10
noncomputable abbrev GSp (q : Pr) (td : List Item) (σ : St) : Prop := Gd PP 10 (.v (.ag q.v)) td σ
def nums (p : Pr) : List V := cN p.a ++ (cN p.b ++ (cN p.c ++ (cN p.d ++ cN p.e)))
def z25 : List V := [ni 0, ni 0, .nl, .nl, .nl] ++ (Ct.z4n ++ (Ct.z4n ++ (Ct.z4n ++ (Ct.z4n ++ Ct.z4n))))
noncomputable def spS (p : Pr) (how by_ : Int) (x y w : V) (m : List (Nat × V)) (l : List HO) : St := at_ fsp ([(1, ni how), (2, ni by_), (3, .lp 0 0), (6, .lp 1 0), (7, .lp 2 0)] ++ m) ([.bx 30 p.v, .bx 30 z25, .bx 30 ([ni p.id, ni p.home, x, y, w] ++ nums p)] ++ l)
section
variable {p q : Pr} {how by_ : Int}
theorem pt_z (P : List (Int × Int)) : ∀ cs ∈ Ct.ptR P, cs.length = 2 ∧ cs.all one = true := fun cs h => by
 obtain ⟨p, _, rfl⟩ := List.mem_map.1 h
 exact ⟨rfl, rfl⟩
theorem wn_z (P : List Bool) : ∀ cs ∈ Ct.wnR P, cs.length = 1 ∧ cs.all one = true := fun cs h => by
 obtain ⟨p, _, rfl⟩ := List.mem_map.1 h
 exact ⟨rfl, rfl⟩
noncomputable def sp5 (p : Pr) (how by_ : Int) : St := spS p how by_ (.ow 3) (.ow 4) (.ow 5) [(19, .ow 4)] [.rw 93 2 (Ct.ptR p.rim), .rw 4 1 (Ct.wnR p.worn), .rw 3 1 (zs p.marks)]
theorem sp_1 (ok : p.Ok) (next : GSp q (rg fsp 3) (spS p how by_ (.ow 3) (.sl (Ct.wnR p.worn)) (zl p.marks) [] [.rw 93 2 (Ct.ptR p.rim)])) : Pure PP 10 [.ag p.v, ni how, ni by_] (.ag q.v) := by
 have h1 := ok.nr
 have hl : (Ct.ptR p.rim).length = p.rim.length := List.length_map ..
 have hz := pt_z p.rim
 unfold spS nums Pr.v anyP at next
 unfold Pr.v anyP
 by_cases g : 0 < p.rim.length
 · generalize Ct.ptR p.rim = PR at *
   generalize Ct.wnR p.worn = WR at *
   exact pf (by kernel_rfl) (.to mo_ [.mv 3 4] [1, 2, 3, 6, 7] [0, 1, 2, 3] 4 [.aps [] PR PR 1000 2 rfl (by omega) (by omega) hz] next (by kernel_rfl))
 · have he : p.rim = [] := List.length_eq_zero_iff.1 (by omega)
   rw [he] at next ⊢
   generalize Ct.wnR p.worn = WR at *
   exact pf (by kernel_rfl) (.to mo_ [] [1, 2, 3, 6, 7] [0, 1, 2, 3] 4 [.ape [] rfl] next (by kernel_rfl))
theorem sp_2 (ok : p.Ok) (next : GSp q (rg fsp 4) (spS p how by_ (.ow 3) (.ow 4) (zl p.marks) [(19, .ow 4)] [.rw 93 2 (Ct.ptR p.rim), .rw 4 1 (Ct.wnR p.worn)])) : GSp q (rg fsp 3) (spS p how by_ (.ow 3) (.sl (Ct.wnR p.worn)) (zl p.marks) [] [.rw 93 2 (Ct.ptR p.rim)]) := by
 have h1 := ok.nw
 have hl : (Ct.wnR p.worn).length = p.worn.length := List.length_map ..
 have hz := wn_z p.worn
 unfold spS nums Pr.v anyP at next
 unfold spS nums Pr.v anyP
 by_cases g : 0 < p.worn.length
 · generalize Ct.ptR p.rim = PR at *
   generalize Ct.wnR p.worn = WR at *
   exact .to mo_ [.mv 4 5] [1, 2, 3, 6, 7, 19] [0, 1, 2, 3, 4] 5 [.aps [] WR WR 1000 1 rfl (by omega) (by omega) hz] next (by kernel_rfl)
 · have he : p.worn = [] := List.length_eq_zero_iff.1 (by omega)
   rw [he] at next ⊢
   generalize Ct.ptR p.rim = PR at *
   exact .to mo_ [] [1, 2, 3, 6, 7, 19] [0, 1, 2, 3, 4] 5 [.ape [] rfl] next (by kernel_rfl)
theorem sp_3 (ok : p.Ok) (next : GSp q (rg fsp 5) (sp5 p how by_)) : GSp q (rg fsp 4) (spS p how by_ (.ow 3) (.ow 4) (zl p.marks) [(19, .ow 4)] [.rw 93 2 (Ct.ptR p.rim), .rw 4 1 (Ct.wnR p.worn)]) := by
 have h1 := ok.nm
 have hl := zs_len p.marks
 have hz := zs_z1 p.marks
 unfold sp5 spS nums Pr.v anyP at next
 unfold spS nums Pr.v anyP
 change GSp q _ (at_ fsp _ [_, _, _, _, _, .rw _ 1 (zs p.marks)]) at next
 change GSp q _ (at_ fsp _ ([.bx _ ([_, _, _, _, .sl (zs p.marks)] ++ _), _, .bx _ ([_, _, _, _, .sl (zs p.marks)] ++ _)] ++ _))
 by_cases g : 0 < p.marks.length
 · generalize Ct.ptR p.rim = PR at *
   generalize Ct.wnR p.worn = WR at *
   generalize zs p.marks = ZM at *
   exact .to mo_ [.mv 5 6] [1, 2, 3, 6, 7, 19] [0, 1, 2, 3, 4, 5] 6 [.aps [] ZM ZM 1000 1 rfl (by omega) (by omega) hz] next (by kernel_rfl)
 · have he : p.marks = [] := List.length_eq_zero_iff.1 (by omega)
   rw [he] at next ⊢
   generalize Ct.ptR p.rim = PR at *
   generalize Ct.wnR p.worn = WR at *
   exact .to mo_ [] [1, 2, 3, 6, 7, 19] [0, 1, 2, 3, 4, 5] 6 [.ape [] rfl] next (by kernel_rfl)
theorem sp_0 (ok : p.Ok) (next : GSp q (rg fsp 5) (sp5 p how by_)) : Pure PP 10 [.ag p.v, ni how, ni by_] (.ag q.v) := sp_1 ok (sp_2 ok (sp_3 ok next))
end
end Go.Proofs.YtlgnagnmoleeiaaGreat.E.Pc
