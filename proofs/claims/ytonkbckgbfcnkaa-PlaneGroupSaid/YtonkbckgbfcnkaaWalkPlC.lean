/-
 THE WALK of package plane: Align.
-/
import Derived.Test.YtonkbckgbfcnkaaWalkPlB
namespace Go.Proofs.Ytonkbckgbfcnkaa
set_option maxHeartbeats 4000000
open Go.RowKit
attribute [local go_sem] run_store_one
set_option linter.unusedVariables false
/-- The turn that leads a vector to another one, and the error. -/
def valn (v u : Rat × Rat) : (Rat × Rat) × Int := if vdot v v = 0 ∨ vdot u u = 0 then ((0, 0), 1) else if vdot v v ≠ vdot u u then ((0, 0), 21) else ((vdot v u / vdot v v, vcrs v u / vdot v v), 0)
/-- What returns a turn and an error. -/
def RTE (t : Rat × Rat) (e_ : Int) (w : World) (e : Ending) (w' : World) : Prop := ∃ a0 a1 a2 a3 a4 a5 a6 a7, e = .returned (.tuple #[.agg #[a0, a1, a2, a3, a4, a5, a6, a7], .int .i64 e_]) ∧ VecV w' a0 a1 a2 a3 a4 a5 a6 a7 t ∧ Below w.heap.size w w'
theorem VecV.zero (w : World) : VecV w (.bool false) (.slice none 0 0) (.bool false) (.slice none 0 0) (.bool false) (.slice none 0 0) (.bool false) (.slice none 0 0) (0, 0) := ⟨RatV.zero w, RatV.zero w⟩
theorem sgn_zero {r : Rat} : sgnZ r.num = 0 ↔ r = 0 := by
 rw [← num_zero]
 unfold sgnZ cmpZ
 split
 ·constructor
  ·intro h; omega
  ·intro h; omega
 ·split
  ·constructor
   ·intro h; omega
   ·intro h; omega
  ·constructor
   ·intro h; omega
   ·intro h; rfl
theorem sgn_eq {r : Rat} (h : r = 0) : (sgnZ r.num == 0) = true := by rw [sgn_zero.2 h]; rfl
theorem sgn_ne {r : Rat} (h : r ≠ 0) : (sgnZ r.num == 0) = false := by simp [sgn_zero, h]
set_option maxRecDepth 100000 in
theorem valn_0 (j k : Nat) (a0 a1 a2 a3 a4 a5 a6 a7 b0 b1 b2 b3 b4 b5 b6 b7 : Value) (v : Rat × Rat) (u : Rat × Rat) (w : World) (ha : VecV w a0 a1 a2 a3 a4 a5 a6 a7 v) (hb : VecV w b0 b1 b2 b3 b4 b5 b6 b7 u) (ba : Bv j v) (bb : Bv k u) (hz : vdot v v = 0) (hk : 40 * (j + k) + 100 ≤ 800000000000) :
  Calls Try.prog 10 #[.agg #[a0, a1, a2, a3, a4, a5, a6, a7], .agg #[b0, b1, b2, b3, b4, b5, b6, b7]] w (RTE (0, 0) 1 w) := by
 have qa0 := ha.one0
 have qa1 := ha.one1
 have qa2 := ha.one2
 have qa3 := ha.one3
 have qa4 := ha.one4
 have qa5 := ha.one5
 have qa6 := ha.one6
 have qa7 := ha.one7
 have qb0 := hb.one0
 have qb1 := hb.one1
 have qb2 := hb.one2
 have qb3 := hb.one3
 have qb4 := hb.one4
 have qb5 := hb.one5
 have qb6 := hb.one6
 have qb7 := hb.one7
 have Hha := Lib.hid ha; have Hhb := Lib.hid hb; have Hba := Lib.hid ba; have Hbb := Lib.hid bb
 clear ha hb ba bb
 have hs1 := sgn_eq hz
 have HHZ := Lib.hid hz
 clear hz
 go_enter Try.func10, Try.ntmps10
 go_upto_region 1 with fail
 obtain ⟨W1, hW⟩ : ∃ W, W = ((w.alloc (.cells #[a0, a1, a2, a3, a4, a5, a6, a7] 28)).alloc (.cells #[b0, b1, b2, b3, b4, b5, b6, b7] 28)).alloc (.cells #[.bool false, .slice none 0 0, .bool false, .slice none 0 0, .bool false, .slice none 0 0, .bool false, .slice none 0 0] 31) := ⟨_, rfl⟩
 rw [← hW]
 have kv : Bx W1 (w.heap.size) 28 [a0, a1, a2, a3, a4, a5, a6, a7] := by rw [hW]; exact ((Bx.at_ rfl).alloc _).alloc _
 have kw : Bx W1 (w.heap.size + 1) 28 [b0, b1, b2, b3, b4, b5, b6, b7] := by rw [hW]; exact (Bx.at_ (by simp)).alloc _
 have kx : Bx W1 (w.heap.size + 1 + 1) 31 [.bool false, .slice none 0 0, .bool false, .slice none 0 0, .bool false, .slice none 0 0, .bool false, .slice none 0 0] := by rw [hW]; exact Bx.at_ (by simp)
 have hB : Below w.heap.size w W1 := by rw [hW]; exact (((Below.refl _ _).alloc (by simp) _).alloc (by simp) _).alloc (by simp; omega) _
 have k3 := Lib.hid hB; clear hW hB
 have F6 := Lib.hid (Hha.out.kp (.of k3.out))
 have F7 := Lib.hid (Hhb.out.kp (.of k3.out))
 go_upto_region 1 with fail
 generalize hW : W1.drew = W8
 have hB : Below W1.heap.size W1 W8 := by rw [← hW]; exact (Below.refl _ _).drew
 have k1 := kv.below hB
 have k2 := kw.below hB
 have k8 := kx.below hB
 have k9 := Lib.hid (F6.out.kp (.of hB))
 have ka := Lib.hid (F7.out.kp (.of hB))
 have k4 := Lib.hid (Blw k3.out hB)
 clear hB
 have kX := k1.lt
 have kY := k2.lt
 have kZ := k8.lt
 generalize hF : ({ tmps := _, defers := _ } : Act) = F
 have ev2 : F.eval (.tmp 2) = .pointer (some ⟨w.heap.size, 0, none⟩) := by rw [← hF]; rfl
 have ev3 : F.eval (.tmp 3) = .pointer (some ⟨w.heap.size + 1, 0, none⟩) := by rw [← hF]; rfl
 have hsz : ∀ d ∈ ([(8, []), (9, []), (10, [0, 1]), (11, []), (12, []), (13, [3, 4]), (6, []), (7, [])] : List (Nat × List Nat)).map (·.1), d < F.tmps.size := by rw [← hF]; simp
 have HF := Lib.hid hF; clear hF
 refine wp_flow_tab true hW 8 [(8, []), (9, []), (10, [0, 1]), (11, []), (12, []), (13, [3, 4]), (6, []), (7, [])] [SC (.agg #[a0, a1, a2, a3, a4, a5, a6, a7]), SC (.agg #[a0, a1, a2, a3, a4, a5, a6, a7]), SR (vdot v v), SC (.agg #[b0, b1, b2, b3, b4, b5, b6, b7]), SC (.agg #[b0, b1, b2, b3, b4, b5, b6, b7]), SR (vdot u u), SB W8 26 [.bool false, .slice none 0 0, .bool false, .slice none 0 0], SB W8 26 [.bool false, .slice none 0 0, .bool false, .slice none 0 0]] [false, false, false, false, false, false, true, true] (by kernel_rfl) (by kernel_rfl) (by kernel_rfl) (by kernel_rfl) (by kernel_rfl) hsz ⟨SC.mono _, SC.mono _, SR.mono _, SC.mono _, SC.mono _, SR.mono _, SB.mono _ _ _, SB.mono _ _ _, trivial⟩ ?_ ?_
 ·intro kq hkq a wx hB hp hs
  have hcase : kq = 0 ∨ kq = 1 ∨ kq = 2 ∨ kq = 3 ∨ kq = 4 ∨ kq = 5 ∨ kq = 6 ∨ kq = 7 := by omega
  rcases hcase with rfl | rfl | rfl | rfl | rfl | rfl | rfl | rfl
  ·exact ⟨_, rfl, ld_Vec rfl ((hs 2 rfl).trans ev2) (k1.below hB) rfl rfl rfl rfl rfl rfl rfl rfl⟩
  ·exact ⟨_, rfl, ld_Vec rfl ((hs 2 rfl).trans ev2) (k1.below hB) rfl rfl rfl rfl rfl rfl rfl rfl⟩
  ·obtain ⟨k5, k6, -⟩ := hp
   have e0 : a.eval (.tmp 8) = .agg #[a0, a1, a2, a3, a4, a5, a6, a7] := k5
   have e1 : a.eval (.tmp 9) = .agg #[a0, a1, a2, a3, a4, a5, a6, a7] := k6
   exact ⟨_, rfl, Does.rr (f := 29) (call2 rfl (fun _ => by simp [go_sem]) e0 e1) (vdot_any (j) (j) a0 a1 a2 a3 a4 a5 a6 a7 a0 a1 a2 a3 a4 a5 a6 a7 (v) (v) wx (k9.out.kp (.of hB)) (k9.out.kp (.of hB)) Hba.out Hba.out (by omega))⟩
  ·exact ⟨_, rfl, ld_Vec rfl ((hs 3 rfl).trans ev3) (k2.below hB) rfl rfl rfl rfl rfl rfl rfl rfl⟩
  ·exact ⟨_, rfl, ld_Vec rfl ((hs 3 rfl).trans ev3) (k2.below hB) rfl rfl rfl rfl rfl rfl rfl rfl⟩
  ·obtain ⟨k5, k6, -⟩ := hp
   have e0 : a.eval (.tmp 11) = .agg #[b0, b1, b2, b3, b4, b5, b6, b7] := k5
   have e1 : a.eval (.tmp 12) = .agg #[b0, b1, b2, b3, b4, b5, b6, b7] := k6
   exact ⟨_, rfl, Does.rr (f := 29) (call2 rfl (fun _ => by simp [go_sem]) e0 e1) (vdot_any (k) (k) b0 b1 b2 b3 b4 b5 b6 b7 b0 b1 b2 b3 b4 b5 b6 b7 (u) (u) wx (ka.out.kp (.of hB)) (ka.out.kp (.of hB)) Hbb.out Hbb.out (by omega))⟩
  ·clear hp
   exact ⟨_, rfl, Does.box (by simp [execOp, go_sem]) hB⟩
  ·clear hp
   exact ⟨_, rfl, Does.box (by simp [execOp, go_sem]) hB⟩
 ·intro val wx hB hsp hdis
  obtain ⟨n0, n1, n2, n3, e2, h_n⟩ := hsp 2 (by omega)
  replace e2 : val 2 = .agg #[n0, n1, n2, n3] := e2
  obtain ⟨m0, m1, m2, m3, e5, h_m⟩ := hsp 5 (by omega)
  replace e5 : val 5 = .agg #[m0, m1, m2, m3] := e5
  obtain ⟨g18_6, e6, hg18_6, hbx18_6⟩ := hsp 6 (by omega)
  have hgw18_6 : w.heap.size ≤ g18_6 := Nat.le_trans k4.out.size hg18_6
  have hgl18_6 := hbx18_6.lt
  obtain ⟨g18_7, e7, hg18_7, hbx18_7⟩ := hsp 7 (by omega)
  have hgw18_7 : w.heap.size ≤ g18_7 := Nat.le_trans k4.out.size hg18_7
  have hgl18_7 := hbx18_7.lt
  have hne18_6_7 : g18_6 ≠ g18_7 := by
   have h := hdis 6 7 (by omega) (by omega) (by omega) rfl rfl
   rw [e6, e7] at h
   intro hh
   exact h (by rw [hh])
  rw [← HF.out]
  change wpList _ _ _ [_, _] _ _
  simp only [puts, vals, List.map_cons, List.map_nil, List.foldl_cons, List.foldl_nil, if_true, Nat.zero_add, Nat.reduceAdd, e2, e5, e6, e7, List.setIfInBounds_toArray, List.set_cons_succ, List.set_cons_zero]
  clear hsp hdis HF hsz e2 e5 e6 e7
  clear ev2 ev3
  obtain ⟨w19, rfl⟩ : ∃ W : World, W = wx := ⟨_, rfl⟩
  have kA := k1.below hB
  have kB := k2.below hB
  have kC := k8.below hB
  have kD := Lib.hid (Blw k4.out hB)
  have kE := Lib.hid h_n
  have o_n0 := h_n.one0
  have o_n1 := h_n.one1
  have o_n2 := h_n.one2
  have o_n3 := h_n.one3
  clear h_n
  have o_m0 := h_m.one0
  have o_m1 := h_m.one1
  have o_m2 := h_m.one2
  have o_m3 := h_m.one3
  clear h_m
  clear hB
  obtain ⟨k00, k01, k02, k03, k04, l33⟩ := hbx18_6.f4
  obtain ⟨k06, k07, k08, k09, k0a, l39⟩ := hbx18_7.f4
  go_upto_region 2 with fail
  have kb := (hbx18_6).set_ 0 (n0)
  have kc := (kb).set_ 1 (n1)
  have kd := (kc).set_ 2 (n2)
  have kF := (kd).set_ 3 (n3)
  have ke := (((((hbx18_7).far_ (g' := g18_6) (j := 0) (by omega) (n0)).far_ (g' := g18_6) (j := 1) (by omega) (n1)).far_ (g' := g18_6) (j := 2) (by omega) (n2)).far_ (g' := g18_6) (j := 3) (by omega) (n3)).set_ 0 (m0)
  have kf := (ke).set_ 1 (m1)
  have kg := (kf).set_ 2 (m2)
  have kG := (kg).set_ 3 (m3)
  have hkp : Kp w19 ((((((((w19.setCell ⟨g18_6, 0, none⟩ (n0)).setCell ⟨g18_6, 1, none⟩ (n1)).setCell ⟨g18_6, 2, none⟩ (n2)).setCell ⟨g18_6, 3, none⟩ (n3)).setCell ⟨g18_7, 0, none⟩ (m0)).setCell ⟨g18_7, 1, none⟩ (m1)).setCell ⟨g18_7, 2, none⟩ (m2)).setCell ⟨g18_7, 3, none⟩ (m3)) := ((((((((Kp.refl _).set_ (hbx18_6) (by decide) _).set_ (kb) (by decide) _).set_ (kc) (by decide) _).set_ (kd) (by decide) _).set_ (((((hbx18_7).far_ (g' := g18_6) (j := 0) (by omega) (n0)).far_ (g' := g18_6) (j := 1) (by omega) (n1)).far_ (g' := g18_6) (j := 2) (by omega) (n2)).far_ (g' := g18_6) (j := 3) (by omega) (n3)) (by decide) _).set_ (ke) (by decide) _).set_ (kf) (by decide) _).set_ (kg) (by decide) _
  obtain ⟨W48, hW⟩ : ∃ W, W = (((((((w19.setCell ⟨g18_6, 0, none⟩ (n0)).setCell ⟨g18_6, 1, none⟩ (n1)).setCell ⟨g18_6, 2, none⟩ (n2)).setCell ⟨g18_6, 3, none⟩ (n3)).setCell ⟨g18_7, 0, none⟩ (m0)).setCell ⟨g18_7, 1, none⟩ (m1)).setCell ⟨g18_7, 2, none⟩ (m2)).setCell ⟨g18_7, 3, none⟩ (m3) := ⟨_, rfl⟩
  rw [← hW]
  rw [← hW] at hkp
  have hB : Below w.heap.size w W48 := by rw [hW]; exact ((((((((kD.out).setCell (by simp <;> omega) _).setCell (by simp <;> omega) _).setCell (by simp <;> omega) _).setCell (by simp <;> omega) _).setCell (by simp <;> omega) _).setCell (by simp <;> omega) _).setCell (by simp <;> omega) _).setCell (by simp <;> omega) _
  have kH := Lib.hid hB; clear hB
  have kI := Lib.hid (kE.out.kp hkp)
  have kh : Bx W48 (w.heap.size) 28 [a0, a1, a2, a3, a4, a5, a6, a7] := by rw [hW]; exact ((((((((kA).far_ (g' := g18_6) (j := 0) (by omega) (n0)).far_ (g' := g18_6) (j := 1) (by omega) (n1)).far_ (g' := g18_6) (j := 2) (by omega) (n2)).far_ (g' := g18_6) (j := 3) (by omega) (n3)).far_ (g' := g18_7) (j := 0) (by omega) (m0)).far_ (g' := g18_7) (j := 1) (by omega) (m1)).far_ (g' := g18_7) (j := 2) (by omega) (m2)).far_ (g' := g18_7) (j := 3) (by omega) (m3)
  have ki : Bx W48 (w.heap.size + 1) 28 [b0, b1, b2, b3, b4, b5, b6, b7] := by rw [hW]; exact ((((((((kB).far_ (g' := g18_6) (j := 0) (by omega) (n0)).far_ (g' := g18_6) (j := 1) (by omega) (n1)).far_ (g' := g18_6) (j := 2) (by omega) (n2)).far_ (g' := g18_6) (j := 3) (by omega) (n3)).far_ (g' := g18_7) (j := 0) (by omega) (m0)).far_ (g' := g18_7) (j := 1) (by omega) (m1)).far_ (g' := g18_7) (j := 2) (by omega) (m2)).far_ (g' := g18_7) (j := 3) (by omega) (m3)
  have kj : Bx W48 (w.heap.size + 1 + 1) 31 [.bool false, .slice none 0 0, .bool false, .slice none 0 0, .bool false, .slice none 0 0, .bool false, .slice none 0 0] := by rw [hW]; exact ((((((((kC).far_ (g' := g18_6) (j := 0) (by omega) (n0)).far_ (g' := g18_6) (j := 1) (by omega) (n1)).far_ (g' := g18_6) (j := 2) (by omega) (n2)).far_ (g' := g18_6) (j := 3) (by omega) (n3)).far_ (g' := g18_7) (j := 0) (by omega) (m0)).far_ (g' := g18_7) (j := 1) (by omega) (m1)).far_ (g' := g18_7) (j := 2) (by omega) (m2)).far_ (g' := g18_7) (j := 3) (by omega) (m3)
  have kk : Bx W48 (g18_6) 26 [n0, n1, n2, n3] := by rw [hW]; exact ((((kF).far_ (g' := g18_7) (j := 0) (by omega) (m0)).far_ (g' := g18_7) (j := 1) (by omega) (m1)).far_ (g' := g18_7) (j := 2) (by omega) (m2)).far_ (g' := g18_7) (j := 3) (by omega) (m3)
  have kl : Bx W48 (g18_7) 26 [m0, m1, m2, m3] := by rw [hW]; exact kG
  clear hW hkp
  obtain ⟨k0c, k0d, k0e, k0f, k0g, k0h, k0i, k0j, k0k, l68⟩ := kh.f8
  obtain ⟨k0m, k0n, k0o, k0p, k0q, k0r, k0s, k0t, k0u, l78⟩ := ki.f8
  obtain ⟨k0w, k0x, k0y, k0z, k0A, k0B, k0C, k0D, k0E, l88⟩ := kj.f8
  obtain ⟨k0G, k0H, k0I, k0J, k0K, l94⟩ := kk.f4
  obtain ⟨k0M, k0N, k0O, k0P, k0Q, k0R⟩ := kl.f4
  go_wp2_with fail
  have km := rsign_any n0 n1 n2 n3 (vdot v v) W48 kI.out
  (with_reducible refine km.mono ?_)
  clear km
  rintro e w101 ⟨rfl, k0⟩
  have kJ := kh.below k0
  have kK := ki.below k0
  have k7 := kj.below k0
  have kL := kk.below k0
  have kM := kl.below k0
  have kN := Lib.hid (Blw kH.out k0)
  clear k0
  obtain ⟨k0S, k0T, k0U, k0V, k0W, k0X, k0Y, k0Z, k10, k11⟩ := kJ.f8
  obtain ⟨k12, k13, k14, k15, k16, k17, k18, k19, k1a, k1b⟩ := kK.f8
  obtain ⟨kO, kP, kQ, kR, kS, kT, kU, kV, k1c, k1d⟩ := k7.f8
  obtain ⟨k1e, k1f, k1g, k1h, k1i, k1j⟩ := kL.f4
  obtain ⟨k1k, k1l, k1m, k1n, k1o, k1p⟩ := kM.f4
  go_wp2
  have kn := (k7).set_ 0 (.bool false)
  have ko := (kn).set_ 1 (.slice none 0 0)
  have kr := (ko).set_ 2 (.bool false)
  have ks := (kr).set_ 3 (.slice none 0 0)
  have kt := (ks).set_ 4 (.bool false)
  have ku := (kt).set_ 5 (.slice none 0 0)
  have kW := (ku).set_ 6 (.bool false)
  have hkp : Kp w101 ((((((((w101.setCell ⟨w.heap.size + 1 + 1, 0, none⟩ (.bool false)).setCell ⟨w.heap.size + 1 + 1, 1, none⟩ (.slice none 0 0)).setCell ⟨w.heap.size + 1 + 1, 2, none⟩ (.bool false)).setCell ⟨w.heap.size + 1 + 1, 3, none⟩ (.slice none 0 0)).setCell ⟨w.heap.size + 1 + 1, 4, none⟩ (.bool false)).setCell ⟨w.heap.size + 1 + 1, 5, none⟩ (.slice none 0 0)).setCell ⟨w.heap.size + 1 + 1, 6, none⟩ (.bool false)).setCell ⟨w.heap.size + 1 + 1, 7, none⟩ (.slice none 0 0)) := ((((((((Kp.refl _).set_ (k7) (by decide) _).set_ (kn) (by decide) _).set_ (ko) (by decide) _).set_ (kr) (by decide) _).set_ (ks) (by decide) _).set_ (kt) (by decide) _).set_ (ku) (by decide) _).set_ (kW) (by decide) _
  refine bodyPost_ret (v := .tuple #[.agg #[.bool false, .slice none 0 0, .bool false, .slice none 0 0, .bool false, .slice none 0 0, .bool false, .slice none 0 0], .int .i64 1]) (by simp [results, Try.results10, go_sem, kO, kP, kQ, kR, kS, kT, kU, kV]) rfl ⟨_, _, _, _, _, _, _, _, rfl, ?_, ((((((((kN.out).setCell (by simp <;> omega) _).setCell (by simp <;> omega) _).setCell (by simp <;> omega) _).setCell (by simp <;> omega) _).setCell (by simp <;> omega) _).setCell (by simp <;> omega) _).setCell (by simp <;> omega) _).setCell (by simp <;> omega) _⟩
  exact VecV.zero _
set_option maxRecDepth 100000 in
theorem valn_1 (j k : Nat) (a0 a1 a2 a3 a4 a5 a6 a7 b0 b1 b2 b3 b4 b5 b6 b7 : Value) (v : Rat × Rat) (u : Rat × Rat) (w : World) (ha : VecV w a0 a1 a2 a3 a4 a5 a6 a7 v) (hb : VecV w b0 b1 b2 b3 b4 b5 b6 b7 u) (ba : Bv j v) (bb : Bv k u) (hz : vdot v v ≠ 0) (hy : vdot u u = 0) (hk : 40 * (j + k) + 100 ≤ 800000000000) :
  Calls Try.prog 10 #[.agg #[a0, a1, a2, a3, a4, a5, a6, a7], .agg #[b0, b1, b2, b3, b4, b5, b6, b7]] w (RTE (0, 0) 1 w) := by
 have qa0 := ha.one0
 have qa1 := ha.one1
 have qa2 := ha.one2
 have qa3 := ha.one3
 have qa4 := ha.one4
 have qa5 := ha.one5
 have qa6 := ha.one6
 have qa7 := ha.one7
 have qb0 := hb.one0
 have qb1 := hb.one1
 have qb2 := hb.one2
 have qb3 := hb.one3
 have qb4 := hb.one4
 have qb5 := hb.one5
 have qb6 := hb.one6
 have qb7 := hb.one7
 have Hha := Lib.hid ha; have Hhb := Lib.hid hb; have Hba := Lib.hid ba; have Hbb := Lib.hid bb
 clear ha hb ba bb
 have hs1 := sgn_ne hz
 have hs2 := sgn_eq hy
 have HHZ := Lib.hid hz
 have HHY := Lib.hid hy
 clear hz hy
 go_enter Try.func10, Try.ntmps10
 go_upto_region 1 with fail
 obtain ⟨W1, hW⟩ : ∃ W, W = ((w.alloc (.cells #[a0, a1, a2, a3, a4, a5, a6, a7] 28)).alloc (.cells #[b0, b1, b2, b3, b4, b5, b6, b7] 28)).alloc (.cells #[.bool false, .slice none 0 0, .bool false, .slice none 0 0, .bool false, .slice none 0 0, .bool false, .slice none 0 0] 31) := ⟨_, rfl⟩
 rw [← hW]
 have kC : Bx W1 (w.heap.size) 28 [a0, a1, a2, a3, a4, a5, a6, a7] := by rw [hW]; exact ((Bx.at_ rfl).alloc _).alloc _
 have kD : Bx W1 (w.heap.size + 1) 28 [b0, b1, b2, b3, b4, b5, b6, b7] := by rw [hW]; exact (Bx.at_ (by simp)).alloc _
 have kE : Bx W1 (w.heap.size + 1 + 1) 31 [.bool false, .slice none 0 0, .bool false, .slice none 0 0, .bool false, .slice none 0 0, .bool false, .slice none 0 0] := by rw [hW]; exact Bx.at_ (by simp)
 have hB : Below w.heap.size w W1 := by rw [hW]; exact (((Below.refl _ _).alloc (by simp) _).alloc (by simp) _).alloc (by simp; omega) _
 have k4 := Lib.hid hB; clear hW hB
 have F6 := Lib.hid (Hha.out.kp (.of k4.out))
 have F7 := Lib.hid (Hhb.out.kp (.of k4.out))
 go_upto_region 1 with fail
 generalize hW : W1.drew = W8
 have hB : Below W1.heap.size W1 W8 := by rw [← hW]; exact (Below.refl _ _).drew
 have k2 := kC.below hB
 have k3 := kD.below hB
 have k9 := kE.below hB
 have ka := Lib.hid (F6.out.kp (.of hB))
 have kb := Lib.hid (F7.out.kp (.of hB))
 have k5 := Lib.hid (Blw k4.out hB)
 clear hB
 have l15 := k2.lt
 have l16 := k3.lt
 have l17 := k9.lt
 generalize hF : ({ tmps := _, defers := _ } : Act) = F
 have ev2 : F.eval (.tmp 2) = .pointer (some ⟨w.heap.size, 0, none⟩) := by rw [← hF]; rfl
 have ev3 : F.eval (.tmp 3) = .pointer (some ⟨w.heap.size + 1, 0, none⟩) := by rw [← hF]; rfl
 have hsz : ∀ d ∈ ([(8, []), (9, []), (10, [0, 1]), (11, []), (12, []), (13, [3, 4]), (6, []), (7, [])] : List (Nat × List Nat)).map (·.1), d < F.tmps.size := by rw [← hF]; simp
 have HF := Lib.hid hF; clear hF
 refine wp_flow_tab true hW 8 [(8, []), (9, []), (10, [0, 1]), (11, []), (12, []), (13, [3, 4]), (6, []), (7, [])] [SC (.agg #[a0, a1, a2, a3, a4, a5, a6, a7]), SC (.agg #[a0, a1, a2, a3, a4, a5, a6, a7]), SR (vdot v v), SC (.agg #[b0, b1, b2, b3, b4, b5, b6, b7]), SC (.agg #[b0, b1, b2, b3, b4, b5, b6, b7]), SR (vdot u u), SB W8 26 [.bool false, .slice none 0 0, .bool false, .slice none 0 0], SB W8 26 [.bool false, .slice none 0 0, .bool false, .slice none 0 0]] [false, false, false, false, false, false, true, true] (by kernel_rfl) (by kernel_rfl) (by kernel_rfl) (by kernel_rfl) (by kernel_rfl) hsz ⟨SC.mono _, SC.mono _, SR.mono _, SC.mono _, SC.mono _, SR.mono _, SB.mono _ _ _, SB.mono _ _ _, trivial⟩ ?_ ?_
 ·intro kq hkq a wx hB hp hs
  have hcase : kq = 0 ∨ kq = 1 ∨ kq = 2 ∨ kq = 3 ∨ kq = 4 ∨ kq = 5 ∨ kq = 6 ∨ kq = 7 := by omega
  rcases hcase with rfl | rfl | rfl | rfl | rfl | rfl | rfl | rfl
  ·exact ⟨_, rfl, ld_Vec rfl ((hs 2 rfl).trans ev2) (k2.below hB) rfl rfl rfl rfl rfl rfl rfl rfl⟩
  ·exact ⟨_, rfl, ld_Vec rfl ((hs 2 rfl).trans ev2) (k2.below hB) rfl rfl rfl rfl rfl rfl rfl rfl⟩
  ·obtain ⟨k6, k7, -⟩ := hp
   have e0 : a.eval (.tmp 8) = .agg #[a0, a1, a2, a3, a4, a5, a6, a7] := k6
   have e1 : a.eval (.tmp 9) = .agg #[a0, a1, a2, a3, a4, a5, a6, a7] := k7
   exact ⟨_, rfl, Does.rr (f := 29) (call2 rfl (fun _ => by simp [go_sem]) e0 e1) (vdot_any (j) (j) a0 a1 a2 a3 a4 a5 a6 a7 a0 a1 a2 a3 a4 a5 a6 a7 (v) (v) wx (ka.out.kp (.of hB)) (ka.out.kp (.of hB)) Hba.out Hba.out (by omega))⟩
  ·exact ⟨_, rfl, ld_Vec rfl ((hs 3 rfl).trans ev3) (k3.below hB) rfl rfl rfl rfl rfl rfl rfl rfl⟩
  ·exact ⟨_, rfl, ld_Vec rfl ((hs 3 rfl).trans ev3) (k3.below hB) rfl rfl rfl rfl rfl rfl rfl rfl⟩
  ·obtain ⟨k6, k7, -⟩ := hp
   have e0 : a.eval (.tmp 11) = .agg #[b0, b1, b2, b3, b4, b5, b6, b7] := k6
   have e1 : a.eval (.tmp 12) = .agg #[b0, b1, b2, b3, b4, b5, b6, b7] := k7
   exact ⟨_, rfl, Does.rr (f := 29) (call2 rfl (fun _ => by simp [go_sem]) e0 e1) (vdot_any (k) (k) b0 b1 b2 b3 b4 b5 b6 b7 b0 b1 b2 b3 b4 b5 b6 b7 (u) (u) wx (kb.out.kp (.of hB)) (kb.out.kp (.of hB)) Hbb.out Hbb.out (by omega))⟩
  ·clear hp
   exact ⟨_, rfl, Does.box (by simp [execOp, go_sem]) hB⟩
  ·clear hp
   exact ⟨_, rfl, Does.box (by simp [execOp, go_sem]) hB⟩
 ·intro val wx hB hsp hdis
  obtain ⟨n0, n1, n2, n3, e2, h_n⟩ := hsp 2 (by omega)
  replace e2 : val 2 = .agg #[n0, n1, n2, n3] := e2
  obtain ⟨m0, m1, m2, m3, e5, h_m⟩ := hsp 5 (by omega)
  replace e5 : val 5 = .agg #[m0, m1, m2, m3] := e5
  obtain ⟨g18_6, e6, hg18_6, hbx18_6⟩ := hsp 6 (by omega)
  have hgw18_6 : w.heap.size ≤ g18_6 := Nat.le_trans k5.out.size hg18_6
  have hgl18_6 := hbx18_6.lt
  obtain ⟨g18_7, e7, hg18_7, hbx18_7⟩ := hsp 7 (by omega)
  have hgw18_7 : w.heap.size ≤ g18_7 := Nat.le_trans k5.out.size hg18_7
  have hgl18_7 := hbx18_7.lt
  have hne18_6_7 : g18_6 ≠ g18_7 := by
   have h := hdis 6 7 (by omega) (by omega) (by omega) rfl rfl
   rw [e6, e7] at h
   intro hh
   exact h (by rw [hh])
  rw [← HF.out]
  change wpList _ _ _ [_, _] _ _
  simp only [puts, vals, List.map_cons, List.map_nil, List.foldl_cons, List.foldl_nil, if_true, Nat.zero_add, Nat.reduceAdd, e2, e5, e6, e7, List.setIfInBounds_toArray, List.set_cons_succ, List.set_cons_zero]
  clear hsp hdis HF hsz e2 e5 e6 e7
  clear ev2 ev3
  obtain ⟨w19, rfl⟩ : ∃ W : World, W = wx := ⟨_, rfl⟩
  have kH := k2.below hB
  have kI := k3.below hB
  have kJ := k9.below hB
  have kK := Lib.hid (Blw k5.out hB)
  have kL := Lib.hid h_n
  have o_n0 := h_n.one0
  have o_n1 := h_n.one1
  have o_n2 := h_n.one2
  have o_n3 := h_n.one3
  clear h_n
  have kM := Lib.hid h_m
  have o_m0 := h_m.one0
  have o_m1 := h_m.one1
  have o_m2 := h_m.one2
  have o_m3 := h_m.one3
  clear h_m
  clear hB
  obtain ⟨k0b, k0c, k0d, k0e, k0f, l33⟩ := hbx18_6.f4
  obtain ⟨k0h, k0i, k0j, k0k, k0l, l39⟩ := hbx18_7.f4
  go_upto_region 2 with fail
  have kc := (hbx18_6).set_ 0 (n0)
  have kd := (kc).set_ 1 (n1)
  have ke := (kd).set_ 2 (n2)
  have kN := (ke).set_ 3 (n3)
  have kf := (((((hbx18_7).far_ (g' := g18_6) (j := 0) (by omega) (n0)).far_ (g' := g18_6) (j := 1) (by omega) (n1)).far_ (g' := g18_6) (j := 2) (by omega) (n2)).far_ (g' := g18_6) (j := 3) (by omega) (n3)).set_ 0 (m0)
  have kg := (kf).set_ 1 (m1)
  have kh := (kg).set_ 2 (m2)
  have kO := (kh).set_ 3 (m3)
  have hkp : Kp w19 ((((((((w19.setCell ⟨g18_6, 0, none⟩ (n0)).setCell ⟨g18_6, 1, none⟩ (n1)).setCell ⟨g18_6, 2, none⟩ (n2)).setCell ⟨g18_6, 3, none⟩ (n3)).setCell ⟨g18_7, 0, none⟩ (m0)).setCell ⟨g18_7, 1, none⟩ (m1)).setCell ⟨g18_7, 2, none⟩ (m2)).setCell ⟨g18_7, 3, none⟩ (m3)) := ((((((((Kp.refl _).set_ (hbx18_6) (by decide) _).set_ (kc) (by decide) _).set_ (kd) (by decide) _).set_ (ke) (by decide) _).set_ (((((hbx18_7).far_ (g' := g18_6) (j := 0) (by omega) (n0)).far_ (g' := g18_6) (j := 1) (by omega) (n1)).far_ (g' := g18_6) (j := 2) (by omega) (n2)).far_ (g' := g18_6) (j := 3) (by omega) (n3)) (by decide) _).set_ (kf) (by decide) _).set_ (kg) (by decide) _).set_ (kh) (by decide) _
  obtain ⟨W48, hW⟩ : ∃ W, W = (((((((w19.setCell ⟨g18_6, 0, none⟩ (n0)).setCell ⟨g18_6, 1, none⟩ (n1)).setCell ⟨g18_6, 2, none⟩ (n2)).setCell ⟨g18_6, 3, none⟩ (n3)).setCell ⟨g18_7, 0, none⟩ (m0)).setCell ⟨g18_7, 1, none⟩ (m1)).setCell ⟨g18_7, 2, none⟩ (m2)).setCell ⟨g18_7, 3, none⟩ (m3) := ⟨_, rfl⟩
  rw [← hW]
  rw [← hW] at hkp
  have hB : Below w.heap.size w W48 := by rw [hW]; exact ((((((((kK.out).setCell (by simp <;> omega) _).setCell (by simp <;> omega) _).setCell (by simp <;> omega) _).setCell (by simp <;> omega) _).setCell (by simp <;> omega) _).setCell (by simp <;> omega) _).setCell (by simp <;> omega) _).setCell (by simp <;> omega) _
  have kP := Lib.hid hB; clear hB
  have kQ := Lib.hid (kL.out.kp hkp)
  have kR := Lib.hid (kM.out.kp hkp)
  have ki : Bx W48 (w.heap.size) 28 [a0, a1, a2, a3, a4, a5, a6, a7] := by rw [hW]; exact ((((((((kH).far_ (g' := g18_6) (j := 0) (by omega) (n0)).far_ (g' := g18_6) (j := 1) (by omega) (n1)).far_ (g' := g18_6) (j := 2) (by omega) (n2)).far_ (g' := g18_6) (j := 3) (by omega) (n3)).far_ (g' := g18_7) (j := 0) (by omega) (m0)).far_ (g' := g18_7) (j := 1) (by omega) (m1)).far_ (g' := g18_7) (j := 2) (by omega) (m2)).far_ (g' := g18_7) (j := 3) (by omega) (m3)
  have kj : Bx W48 (w.heap.size + 1) 28 [b0, b1, b2, b3, b4, b5, b6, b7] := by rw [hW]; exact ((((((((kI).far_ (g' := g18_6) (j := 0) (by omega) (n0)).far_ (g' := g18_6) (j := 1) (by omega) (n1)).far_ (g' := g18_6) (j := 2) (by omega) (n2)).far_ (g' := g18_6) (j := 3) (by omega) (n3)).far_ (g' := g18_7) (j := 0) (by omega) (m0)).far_ (g' := g18_7) (j := 1) (by omega) (m1)).far_ (g' := g18_7) (j := 2) (by omega) (m2)).far_ (g' := g18_7) (j := 3) (by omega) (m3)
  have kk : Bx W48 (w.heap.size + 1 + 1) 31 [.bool false, .slice none 0 0, .bool false, .slice none 0 0, .bool false, .slice none 0 0, .bool false, .slice none 0 0] := by rw [hW]; exact ((((((((kJ).far_ (g' := g18_6) (j := 0) (by omega) (n0)).far_ (g' := g18_6) (j := 1) (by omega) (n1)).far_ (g' := g18_6) (j := 2) (by omega) (n2)).far_ (g' := g18_6) (j := 3) (by omega) (n3)).far_ (g' := g18_7) (j := 0) (by omega) (m0)).far_ (g' := g18_7) (j := 1) (by omega) (m1)).far_ (g' := g18_7) (j := 2) (by omega) (m2)).far_ (g' := g18_7) (j := 3) (by omega) (m3)
  have kl : Bx W48 (g18_6) 26 [n0, n1, n2, n3] := by rw [hW]; exact ((((kN).far_ (g' := g18_7) (j := 0) (by omega) (m0)).far_ (g' := g18_7) (j := 1) (by omega) (m1)).far_ (g' := g18_7) (j := 2) (by omega) (m2)).far_ (g' := g18_7) (j := 3) (by omega) (m3)
  have km : Bx W48 (g18_7) 26 [m0, m1, m2, m3] := by rw [hW]; exact kO
  clear hW hkp
  obtain ⟨k0n, k0o, k0p, k0q, k0r, k0s, k0t, k0u, k0v, l68⟩ := ki.f8
  obtain ⟨k0x, k0y, k0z, k0A, k0B, k0C, k0D, k0E, k0F, l78⟩ := kj.f8
  obtain ⟨k0H, k0I, k0J, k0K, k0L, k0M, k0N, k0O, k0P, l88⟩ := kk.f8
  obtain ⟨k0R, k0S, k0T, k0U, k0V, l94⟩ := kl.f4
  obtain ⟨k0X, k0Y, k0Z, k10, k11, k12⟩ := km.f4
  go_wp2_with fail
  have kn := rsign_any n0 n1 n2 n3 (vdot v v) W48 kQ.out
  (with_reducible refine kn.mono ?_)
  clear kn
  rintro e w101 ⟨rfl, k0⟩
  have ko := ki.below k0
  have kr := kj.below k0
  have ks := kk.below k0
  have kt := kl.below k0
  have ku := km.below k0
  have kS := Lib.hid (kR.out.kp (.of k0))
  have kT := Lib.hid (Blw kP.out k0)
  clear k0
  obtain ⟨k13, k14, k15, k16, k17, k18, k19, k1a, k1b, k1c⟩ := ko.f8
  obtain ⟨k1d, k1e, k1f, k1g, k1h, k1i, k1j, k1k, k1l, k1m⟩ := kr.f8
  obtain ⟨k1n, k1o, k1p, k1q, k1r, k1s, k1t, k1u, k1v, k1w⟩ := ks.f8
  obtain ⟨k1x, k1y, k1z, k1A, k1B, k1C⟩ := kt.f4
  obtain ⟨k1D, k1E, k1F, k1G, k1H, k1I⟩ := ku.f4
  go_wp2_with fail
  have kv := rsign_any m0 m1 m2 m3 (vdot u u) w101 kS.out
  (with_reducible refine kv.mono ?_)
  clear kv
  rintro e w155 ⟨rfl, k1⟩
  have kU := ko.below k1
  have kV := kr.below k1
  have k8 := ks.below k1
  have kW := kt.below k1
  have kX := ku.below k1
  have kY := Lib.hid (Blw kT.out k1)
  clear k1
  obtain ⟨k1J, k1K, k1L, k1M, k1N, k1O, k1P, k1Q, k1R, k1S⟩ := kU.f8
  obtain ⟨k1T, k1U, k1V, k1W, k1X, k1Y, k1Z, k20, k21, k22⟩ := kV.f8
  obtain ⟨kZ, k00, k01, k02, k03, k04, k05, k06, k23, k24⟩ := k8.f8
  obtain ⟨k25, k26, k27, k28, k29, k2a⟩ := kW.f4
  obtain ⟨k2b, k2c, k2d, k2e, k2f, k2g⟩ := kX.f4
  go_wp2
  have kw := (k8).set_ 0 (.bool false)
  have kx := (kw).set_ 1 (.slice none 0 0)
  have ky := (kx).set_ 2 (.bool false)
  have kz := (ky).set_ 3 (.slice none 0 0)
  have kA := (kz).set_ 4 (.bool false)
  have kB := (kA).set_ 5 (.slice none 0 0)
  have k07 := (kB).set_ 6 (.bool false)
  have hkp : Kp w155 ((((((((w155.setCell ⟨w.heap.size + 1 + 1, 0, none⟩ (.bool false)).setCell ⟨w.heap.size + 1 + 1, 1, none⟩ (.slice none 0 0)).setCell ⟨w.heap.size + 1 + 1, 2, none⟩ (.bool false)).setCell ⟨w.heap.size + 1 + 1, 3, none⟩ (.slice none 0 0)).setCell ⟨w.heap.size + 1 + 1, 4, none⟩ (.bool false)).setCell ⟨w.heap.size + 1 + 1, 5, none⟩ (.slice none 0 0)).setCell ⟨w.heap.size + 1 + 1, 6, none⟩ (.bool false)).setCell ⟨w.heap.size + 1 + 1, 7, none⟩ (.slice none 0 0)) := ((((((((Kp.refl _).set_ (k8) (by decide) _).set_ (kw) (by decide) _).set_ (kx) (by decide) _).set_ (ky) (by decide) _).set_ (kz) (by decide) _).set_ (kA) (by decide) _).set_ (kB) (by decide) _).set_ (k07) (by decide) _
  refine bodyPost_ret (v := .tuple #[.agg #[.bool false, .slice none 0 0, .bool false, .slice none 0 0, .bool false, .slice none 0 0, .bool false, .slice none 0 0], .int .i64 1]) (by simp [results, Try.results10, go_sem, kZ, k00, k01, k02, k03, k04, k05, k06]) rfl ⟨_, _, _, _, _, _, _, _, rfl, ?_, ((((((((kY.out).setCell (by simp <;> omega) _).setCell (by simp <;> omega) _).setCell (by simp <;> omega) _).setCell (by simp <;> omega) _).setCell (by simp <;> omega) _).setCell (by simp <;> omega) _).setCell (by simp <;> omega) _).setCell (by simp <;> omega) _⟩
  exact VecV.zero _
set_option maxRecDepth 100000 in
theorem valn_2 (j k : Nat) (a0 a1 a2 a3 a4 a5 a6 a7 b0 b1 b2 b3 b4 b5 b6 b7 : Value) (v : Rat × Rat) (u : Rat × Rat) (w : World) (ha : VecV w a0 a1 a2 a3 a4 a5 a6 a7 v) (hb : VecV w b0 b1 b2 b3 b4 b5 b6 b7 u) (ba : Bv j v) (bb : Bv k u) (hz : vdot v v ≠ 0) (hy : vdot u u ≠ 0) (hd : vdot v v ≠ vdot u u) (hk : 40 * (j + k) + 100 ≤ 800000000000) :
  Calls Try.prog 10 #[.agg #[a0, a1, a2, a3, a4, a5, a6, a7], .agg #[b0, b1, b2, b3, b4, b5, b6, b7]] w (RTE (0, 0) 21 w) := by
 have qa0 := ha.one0
 have qa1 := ha.one1
 have qa2 := ha.one2
 have qa3 := ha.one3
 have qa4 := ha.one4
 have qa5 := ha.one5
 have qa6 := ha.one6
 have qa7 := ha.one7
 have qb0 := hb.one0
 have qb1 := hb.one1
 have qb2 := hb.one2
 have qb3 := hb.one3
 have qb4 := hb.one4
 have qb5 := hb.one5
 have qb6 := hb.one6
 have qb7 := hb.one7
 have Hha := Lib.hid ha; have Hhb := Lib.hid hb; have Hba := Lib.hid ba; have Hbb := Lib.hid bb
 clear ha hb ba bb
 have hs1 := sgn_ne hz
 have hs2 := sgn_ne hy
 have HHZ := Lib.hid hz
 have HHY := Lib.hid hy
 have HHD := Lib.hid hd
 clear hz hy hd
 go_enter Try.func10, Try.ntmps10
 go_upto_region 1 with fail
 obtain ⟨W1, hW⟩ : ∃ W, W = ((w.alloc (.cells #[a0, a1, a2, a3, a4, a5, a6, a7] 28)).alloc (.cells #[b0, b1, b2, b3, b4, b5, b6, b7] 28)).alloc (.cells #[.bool false, .slice none 0 0, .bool false, .slice none 0 0, .bool false, .slice none 0 0, .bool false, .slice none 0 0] 31) := ⟨_, rfl⟩
 rw [← hW]
 have kL : Bx W1 (w.heap.size) 28 [a0, a1, a2, a3, a4, a5, a6, a7] := by rw [hW]; exact ((Bx.at_ rfl).alloc _).alloc _
 have kM : Bx W1 (w.heap.size + 1) 28 [b0, b1, b2, b3, b4, b5, b6, b7] := by rw [hW]; exact (Bx.at_ (by simp)).alloc _
 have kN : Bx W1 (w.heap.size + 1 + 1) 31 [.bool false, .slice none 0 0, .bool false, .slice none 0 0, .bool false, .slice none 0 0, .bool false, .slice none 0 0] := by rw [hW]; exact Bx.at_ (by simp)
 have hB : Below w.heap.size w W1 := by rw [hW]; exact (((Below.refl _ _).alloc (by simp) _).alloc (by simp) _).alloc (by simp; omega) _
 have k5 := Lib.hid hB; clear hW hB
 have F6 := Lib.hid (Hha.out.kp (.of k5.out))
 have F7 := Lib.hid (Hhb.out.kp (.of k5.out))
 go_upto_region 1 with fail
 generalize hW : W1.drew = W8
 have hB : Below W1.heap.size W1 W8 := by rw [← hW]; exact (Below.refl _ _).drew
 have k3 := kL.below hB
 have k4 := kM.below hB
 have ka := kN.below hB
 have kb := Lib.hid (F6.out.kp (.of hB))
 have kc := Lib.hid (F7.out.kp (.of hB))
 have k6 := Lib.hid (Blw k5.out hB)
 clear hB
 have l15 := k3.lt
 have l16 := k4.lt
 have l17 := ka.lt
 generalize hF : ({ tmps := _, defers := _ } : Act) = F
 have ev2 : F.eval (.tmp 2) = .pointer (some ⟨w.heap.size, 0, none⟩) := by rw [← hF]; rfl
 have ev3 : F.eval (.tmp 3) = .pointer (some ⟨w.heap.size + 1, 0, none⟩) := by rw [← hF]; rfl
 have hsz : ∀ d ∈ ([(8, []), (9, []), (10, [0, 1]), (11, []), (12, []), (13, [3, 4]), (6, []), (7, [])] : List (Nat × List Nat)).map (·.1), d < F.tmps.size := by rw [← hF]; simp
 have HF := Lib.hid hF; clear hF
 refine wp_flow_tab true hW 8 [(8, []), (9, []), (10, [0, 1]), (11, []), (12, []), (13, [3, 4]), (6, []), (7, [])] [SC (.agg #[a0, a1, a2, a3, a4, a5, a6, a7]), SC (.agg #[a0, a1, a2, a3, a4, a5, a6, a7]), SR (vdot v v), SC (.agg #[b0, b1, b2, b3, b4, b5, b6, b7]), SC (.agg #[b0, b1, b2, b3, b4, b5, b6, b7]), SR (vdot u u), SB W8 26 [.bool false, .slice none 0 0, .bool false, .slice none 0 0], SB W8 26 [.bool false, .slice none 0 0, .bool false, .slice none 0 0]] [false, false, false, false, false, false, true, true] (by kernel_rfl) (by kernel_rfl) (by kernel_rfl) (by kernel_rfl) (by kernel_rfl) hsz ⟨SC.mono _, SC.mono _, SR.mono _, SC.mono _, SC.mono _, SR.mono _, SB.mono _ _ _, SB.mono _ _ _, trivial⟩ ?_ ?_
 ·intro kq hkq a wx hB hp hs
  have hcase : kq = 0 ∨ kq = 1 ∨ kq = 2 ∨ kq = 3 ∨ kq = 4 ∨ kq = 5 ∨ kq = 6 ∨ kq = 7 := by omega
  rcases hcase with rfl | rfl | rfl | rfl | rfl | rfl | rfl | rfl
  ·exact ⟨_, rfl, ld_Vec rfl ((hs 2 rfl).trans ev2) (k3.below hB) rfl rfl rfl rfl rfl rfl rfl rfl⟩
  ·exact ⟨_, rfl, ld_Vec rfl ((hs 2 rfl).trans ev2) (k3.below hB) rfl rfl rfl rfl rfl rfl rfl rfl⟩
  ·obtain ⟨k7, k8, -⟩ := hp
   have e0 : a.eval (.tmp 8) = .agg #[a0, a1, a2, a3, a4, a5, a6, a7] := k7
   have e1 : a.eval (.tmp 9) = .agg #[a0, a1, a2, a3, a4, a5, a6, a7] := k8
   exact ⟨_, rfl, Does.rr (f := 29) (call2 rfl (fun _ => by simp [go_sem]) e0 e1) (vdot_any (j) (j) a0 a1 a2 a3 a4 a5 a6 a7 a0 a1 a2 a3 a4 a5 a6 a7 (v) (v) wx (kb.out.kp (.of hB)) (kb.out.kp (.of hB)) Hba.out Hba.out (by omega))⟩
  ·exact ⟨_, rfl, ld_Vec rfl ((hs 3 rfl).trans ev3) (k4.below hB) rfl rfl rfl rfl rfl rfl rfl rfl⟩
  ·exact ⟨_, rfl, ld_Vec rfl ((hs 3 rfl).trans ev3) (k4.below hB) rfl rfl rfl rfl rfl rfl rfl rfl⟩
  ·obtain ⟨k7, k8, -⟩ := hp
   have e0 : a.eval (.tmp 11) = .agg #[b0, b1, b2, b3, b4, b5, b6, b7] := k7
   have e1 : a.eval (.tmp 12) = .agg #[b0, b1, b2, b3, b4, b5, b6, b7] := k8
   exact ⟨_, rfl, Does.rr (f := 29) (call2 rfl (fun _ => by simp [go_sem]) e0 e1) (vdot_any (k) (k) b0 b1 b2 b3 b4 b5 b6 b7 b0 b1 b2 b3 b4 b5 b6 b7 (u) (u) wx (kc.out.kp (.of hB)) (kc.out.kp (.of hB)) Hbb.out Hbb.out (by omega))⟩
  ·clear hp
   exact ⟨_, rfl, Does.box (by simp [execOp, go_sem]) hB⟩
  ·clear hp
   exact ⟨_, rfl, Does.box (by simp [execOp, go_sem]) hB⟩
 ·intro val wx hB hsp hdis
  obtain ⟨n0, n1, n2, n3, e2, h_n⟩ := hsp 2 (by omega)
  replace e2 : val 2 = .agg #[n0, n1, n2, n3] := e2
  obtain ⟨m0, m1, m2, m3, e5, h_m⟩ := hsp 5 (by omega)
  replace e5 : val 5 = .agg #[m0, m1, m2, m3] := e5
  obtain ⟨g18_6, e6, hg18_6, hbx18_6⟩ := hsp 6 (by omega)
  have hgw18_6 : w.heap.size ≤ g18_6 := Nat.le_trans k6.out.size hg18_6
  have hgl18_6 := hbx18_6.lt
  obtain ⟨g18_7, e7, hg18_7, hbx18_7⟩ := hsp 7 (by omega)
  have hgw18_7 : w.heap.size ≤ g18_7 := Nat.le_trans k6.out.size hg18_7
  have hgl18_7 := hbx18_7.lt
  have hne18_6_7 : g18_6 ≠ g18_7 := by
   have h := hdis 6 7 (by omega) (by omega) (by omega) rfl rfl
   rw [e6, e7] at h
   intro hh
   exact h (by rw [hh])
  rw [← HF.out]
  change wpList _ _ _ [_, _] _ _
  simp only [puts, vals, List.map_cons, List.map_nil, List.foldl_cons, List.foldl_nil, if_true, Nat.zero_add, Nat.reduceAdd, e2, e5, e6, e7, List.setIfInBounds_toArray, List.set_cons_succ, List.set_cons_zero]
  clear hsp hdis HF hsz e2 e5 e6 e7
  clear ev2 ev3
  obtain ⟨w19, rfl⟩ : ∃ W : World, W = wx := ⟨_, rfl⟩
  have kQ := k3.below hB
  have kR := k4.below hB
  have kS := ka.below hB
  have kT := Lib.hid (Blw k6.out hB)
  have kU := Lib.hid h_n
  have o_n0 := h_n.one0
  have o_n1 := h_n.one1
  have o_n2 := h_n.one2
  have o_n3 := h_n.one3
  clear h_n
  have kV := Lib.hid h_m
  have o_m0 := h_m.one0
  have o_m1 := h_m.one1
  have o_m2 := h_m.one2
  have o_m3 := h_m.one3
  clear h_m
  clear hB
  obtain ⟨k0m, k0n, k0o, k0p, k0q, l33⟩ := hbx18_6.f4
  obtain ⟨k0s, k0t, k0u, k0v, k0w, l39⟩ := hbx18_7.f4
  go_upto_region 2 with fail
  have kd := (hbx18_6).set_ 0 (n0)
  have ke := (kd).set_ 1 (n1)
  have kf := (ke).set_ 2 (n2)
  have kW := (kf).set_ 3 (n3)
  have kg := (((((hbx18_7).far_ (g' := g18_6) (j := 0) (by omega) (n0)).far_ (g' := g18_6) (j := 1) (by omega) (n1)).far_ (g' := g18_6) (j := 2) (by omega) (n2)).far_ (g' := g18_6) (j := 3) (by omega) (n3)).set_ 0 (m0)
  have kh := (kg).set_ 1 (m1)
  have ki := (kh).set_ 2 (m2)
  have kX := (ki).set_ 3 (m3)
  have hkp : Kp w19 ((((((((w19.setCell ⟨g18_6, 0, none⟩ (n0)).setCell ⟨g18_6, 1, none⟩ (n1)).setCell ⟨g18_6, 2, none⟩ (n2)).setCell ⟨g18_6, 3, none⟩ (n3)).setCell ⟨g18_7, 0, none⟩ (m0)).setCell ⟨g18_7, 1, none⟩ (m1)).setCell ⟨g18_7, 2, none⟩ (m2)).setCell ⟨g18_7, 3, none⟩ (m3)) := ((((((((Kp.refl _).set_ (hbx18_6) (by decide) _).set_ (kd) (by decide) _).set_ (ke) (by decide) _).set_ (kf) (by decide) _).set_ (((((hbx18_7).far_ (g' := g18_6) (j := 0) (by omega) (n0)).far_ (g' := g18_6) (j := 1) (by omega) (n1)).far_ (g' := g18_6) (j := 2) (by omega) (n2)).far_ (g' := g18_6) (j := 3) (by omega) (n3)) (by decide) _).set_ (kg) (by decide) _).set_ (kh) (by decide) _).set_ (ki) (by decide) _
  obtain ⟨W48, hW⟩ : ∃ W, W = (((((((w19.setCell ⟨g18_6, 0, none⟩ (n0)).setCell ⟨g18_6, 1, none⟩ (n1)).setCell ⟨g18_6, 2, none⟩ (n2)).setCell ⟨g18_6, 3, none⟩ (n3)).setCell ⟨g18_7, 0, none⟩ (m0)).setCell ⟨g18_7, 1, none⟩ (m1)).setCell ⟨g18_7, 2, none⟩ (m2)).setCell ⟨g18_7, 3, none⟩ (m3) := ⟨_, rfl⟩
  rw [← hW]
  rw [← hW] at hkp
  have hB : Below w.heap.size w W48 := by rw [hW]; exact ((((((((kT.out).setCell (by simp <;> omega) _).setCell (by simp <;> omega) _).setCell (by simp <;> omega) _).setCell (by simp <;> omega) _).setCell (by simp <;> omega) _).setCell (by simp <;> omega) _).setCell (by simp <;> omega) _).setCell (by simp <;> omega) _
  have kY := Lib.hid hB; clear hB
  have kj := Lib.hid (kU.out.kp hkp)
  have kZ := Lib.hid (kV.out.kp hkp)
  have kk : Bx W48 (w.heap.size) 28 [a0, a1, a2, a3, a4, a5, a6, a7] := by rw [hW]; exact ((((((((kQ).far_ (g' := g18_6) (j := 0) (by omega) (n0)).far_ (g' := g18_6) (j := 1) (by omega) (n1)).far_ (g' := g18_6) (j := 2) (by omega) (n2)).far_ (g' := g18_6) (j := 3) (by omega) (n3)).far_ (g' := g18_7) (j := 0) (by omega) (m0)).far_ (g' := g18_7) (j := 1) (by omega) (m1)).far_ (g' := g18_7) (j := 2) (by omega) (m2)).far_ (g' := g18_7) (j := 3) (by omega) (m3)
  have kl : Bx W48 (w.heap.size + 1) 28 [b0, b1, b2, b3, b4, b5, b6, b7] := by rw [hW]; exact ((((((((kR).far_ (g' := g18_6) (j := 0) (by omega) (n0)).far_ (g' := g18_6) (j := 1) (by omega) (n1)).far_ (g' := g18_6) (j := 2) (by omega) (n2)).far_ (g' := g18_6) (j := 3) (by omega) (n3)).far_ (g' := g18_7) (j := 0) (by omega) (m0)).far_ (g' := g18_7) (j := 1) (by omega) (m1)).far_ (g' := g18_7) (j := 2) (by omega) (m2)).far_ (g' := g18_7) (j := 3) (by omega) (m3)
  have km : Bx W48 (w.heap.size + 1 + 1) 31 [.bool false, .slice none 0 0, .bool false, .slice none 0 0, .bool false, .slice none 0 0, .bool false, .slice none 0 0] := by rw [hW]; exact ((((((((kS).far_ (g' := g18_6) (j := 0) (by omega) (n0)).far_ (g' := g18_6) (j := 1) (by omega) (n1)).far_ (g' := g18_6) (j := 2) (by omega) (n2)).far_ (g' := g18_6) (j := 3) (by omega) (n3)).far_ (g' := g18_7) (j := 0) (by omega) (m0)).far_ (g' := g18_7) (j := 1) (by omega) (m1)).far_ (g' := g18_7) (j := 2) (by omega) (m2)).far_ (g' := g18_7) (j := 3) (by omega) (m3)
  have kn : Bx W48 (g18_6) 26 [n0, n1, n2, n3] := by rw [hW]; exact ((((kW).far_ (g' := g18_7) (j := 0) (by omega) (m0)).far_ (g' := g18_7) (j := 1) (by omega) (m1)).far_ (g' := g18_7) (j := 2) (by omega) (m2)).far_ (g' := g18_7) (j := 3) (by omega) (m3)
  have ko : Bx W48 (g18_7) 26 [m0, m1, m2, m3] := by rw [hW]; exact kX
  clear hW hkp
  obtain ⟨k0y, k0z, k0A, k0B, k0C, k0D, k0E, k0F, k0G, l68⟩ := kk.f8
  obtain ⟨k0I, k0J, k0K, k0L, k0M, k0N, k0O, k0P, k0Q, l78⟩ := kl.f8
  obtain ⟨k0S, k0T, k0U, k0V, k0W, k0X, k0Y, k0Z, k10, l88⟩ := km.f8
  obtain ⟨k12, k13, k14, k15, k16, l94⟩ := kn.f4
  obtain ⟨k18, k19, k1a, k1b, k1c, k1d⟩ := ko.f4
  go_wp2_with fail
  have kr := rsign_any n0 n1 n2 n3 (vdot v v) W48 kj.out
  (with_reducible refine kr.mono ?_)
  clear kr
  rintro e w101 ⟨rfl, k0⟩
  have ks := kk.below k0
  have kt := kl.below k0
  have ku := km.below k0
  have kv := kn.below k0
  have kw := ko.below k0
  have k00 := Lib.hid (kj.out.kp (.of k0))
  have kx := Lib.hid (kZ.out.kp (.of k0))
  have k01 := Lib.hid (Blw kY.out k0)
  clear k0
  obtain ⟨k1e, k1f, k1g, k1h, k1i, k1j, k1k, k1l, k1m, k1n⟩ := ks.f8
  obtain ⟨k1o, k1p, k1q, k1r, k1s, k1t, k1u, k1v, k1w, k1x⟩ := kt.f8
  obtain ⟨k1y, k1z, k1A, k1B, k1C, k1D, k1E, k1F, k1G, k1H⟩ := ku.f8
  obtain ⟨k1I, k1J, k1K, k1L, k1M, k1N⟩ := kv.f4
  obtain ⟨k1O, k1P, k1Q, k1R, k1S, k1T⟩ := kw.f4
  go_wp2_with fail
  have ky := rsign_any m0 m1 m2 m3 (vdot u u) w101 kx.out
  (with_reducible refine ky.mono ?_)
  clear ky
  rintro e w155 ⟨rfl, k1⟩
  have kz := ks.below k1
  have kA := kt.below k1
  have kB := ku.below k1
  have kC := kv.below k1
  have kD := kw.below k1
  have k02 := Lib.hid (k00.out.kp (.of k1))
  have k03 := Lib.hid (kx.out.kp (.of k1))
  have k04 := Lib.hid (Blw k01.out k1)
  clear k1
  obtain ⟨k1U, k1V, k1W, k1X, k1Y, k1Z, k20, k21, k22, k23⟩ := kz.f8
  obtain ⟨k24, k25, k26, k27, k28, k29, k2a, k2b, k2c, k2d⟩ := kA.f8
  obtain ⟨k2e, k2f, k2g, k2h, k2i, k2j, k2k, k2l, k2m, k2n⟩ := kB.f8
  obtain ⟨k2o, k2p, k2q, k2r, k2s, k2t⟩ := kC.f4
  obtain ⟨k2u, k2v, k2w, k2x, k2y, k2z⟩ := kD.f4
  go_wp2_with fail
  have kE := rsame_any n0 n1 n2 n3 m0 m1 m2 m3 (vdot v v) (vdot u u) w155 k02.out k03.out false (decide_eq_false HHD.out).symm
  (with_reducible refine kE.mono ?_)
  clear kE
  rintro e w209 ⟨rfl, k2⟩
  have k05 := kz.below k2
  have k06 := kA.below k2
  have k9 := kB.below k2
  have k07 := kC.below k2
  have k08 := kD.below k2
  have k09 := Lib.hid (Blw k04.out k2)
  clear k2
  obtain ⟨k2A, k2B, k2C, k2D, k2E, k2F, k2G, k2H, k2I, k2J⟩ := k05.f8
  obtain ⟨k2K, k2L, k2M, k2N, k2O, k2P, k2Q, k2R, k2S, k2T⟩ := k06.f8
  obtain ⟨k0a, k0b, k0c, k0d, k0e, k0f, k0g, k0h, k2U, k2V⟩ := k9.f8
  obtain ⟨k2W, k2X, k2Y, k2Z, k30, k31⟩ := k07.f4
  obtain ⟨k32, k33, k34, k35, k36, k37⟩ := k08.f4
  go_wp2
  have kF := (k9).set_ 0 (.bool false)
  have kG := (kF).set_ 1 (.slice none 0 0)
  have kH := (kG).set_ 2 (.bool false)
  have kI := (kH).set_ 3 (.slice none 0 0)
  have kJ := (kI).set_ 4 (.bool false)
  have kK := (kJ).set_ 5 (.slice none 0 0)
  have k0i := (kK).set_ 6 (.bool false)
  have hkp : Kp w209 ((((((((w209.setCell ⟨w.heap.size + 1 + 1, 0, none⟩ (.bool false)).setCell ⟨w.heap.size + 1 + 1, 1, none⟩ (.slice none 0 0)).setCell ⟨w.heap.size + 1 + 1, 2, none⟩ (.bool false)).setCell ⟨w.heap.size + 1 + 1, 3, none⟩ (.slice none 0 0)).setCell ⟨w.heap.size + 1 + 1, 4, none⟩ (.bool false)).setCell ⟨w.heap.size + 1 + 1, 5, none⟩ (.slice none 0 0)).setCell ⟨w.heap.size + 1 + 1, 6, none⟩ (.bool false)).setCell ⟨w.heap.size + 1 + 1, 7, none⟩ (.slice none 0 0)) := ((((((((Kp.refl _).set_ (k9) (by decide) _).set_ (kF) (by decide) _).set_ (kG) (by decide) _).set_ (kH) (by decide) _).set_ (kI) (by decide) _).set_ (kJ) (by decide) _).set_ (kK) (by decide) _).set_ (k0i) (by decide) _
  refine bodyPost_ret (v := .tuple #[.agg #[.bool false, .slice none 0 0, .bool false, .slice none 0 0, .bool false, .slice none 0 0, .bool false, .slice none 0 0], .int .i64 21]) (by simp [results, Try.results10, go_sem, k0a, k0b, k0c, k0d, k0e, k0f, k0g, k0h]) rfl ⟨_, _, _, _, _, _, _, _, rfl, ?_, ((((((((k09.out).setCell (by simp <;> omega) _).setCell (by simp <;> omega) _).setCell (by simp <;> omega) _).setCell (by simp <;> omega) _).setCell (by simp <;> omega) _).setCell (by simp <;> omega) _).setCell (by simp <;> omega) _).setCell (by simp <;> omega) _⟩
  exact VecV.zero _
set_option maxRecDepth 100000 in
theorem valn_3 (j k : Nat) (a0 a1 a2 a3 a4 a5 a6 a7 b0 b1 b2 b3 b4 b5 b6 b7 : Value) (v : Rat × Rat) (u : Rat × Rat) (w : World) (ha : VecV w a0 a1 a2 a3 a4 a5 a6 a7 v) (hb : VecV w b0 b1 b2 b3 b4 b5 b6 b7 u) (ba : Bv j v) (bb : Bv k u) (hz : vdot v v ≠ 0) (hy : vdot u u ≠ 0) (hd : vdot v v = vdot u u) (hk : 40 * (j + k) + 100 ≤ 800000000000) :
  Calls Try.prog 10 #[.agg #[a0, a1, a2, a3, a4, a5, a6, a7], .agg #[b0, b1, b2, b3, b4, b5, b6, b7]] w (RTE (vdot v u / vdot v v, vcrs v u / vdot v v) 0 w) := by
 have qa0 := ha.one0
 have qa1 := ha.one1
 have qa2 := ha.one2
 have qa3 := ha.one3
 have qa4 := ha.one4
 have qa5 := ha.one5
 have qa6 := ha.one6
 have qa7 := ha.one7
 have qb0 := hb.one0
 have qb1 := hb.one1
 have qb2 := hb.one2
 have qb3 := hb.one3
 have qb4 := hb.one4
 have qb5 := hb.one5
 have qb6 := hb.one6
 have qb7 := hb.one7
 have Hha := Lib.hid ha; have Hhb := Lib.hid hb; have Hba := Lib.hid ba; have Hbb := Lib.hid bb
 clear ha hb ba bb
 have hs1 := sgn_ne hz
 have hs2 := sgn_ne hy
 have HHZ := Lib.hid hz
 have HHY := Lib.hid hy
 have HHD := Lib.hid hd
 clear hz hy hd
 go_enter Try.func10, Try.ntmps10
 go_upto_region 1 with fail
 obtain ⟨W1, hW⟩ : ∃ W, W = ((w.alloc (.cells #[a0, a1, a2, a3, a4, a5, a6, a7] 28)).alloc (.cells #[b0, b1, b2, b3, b4, b5, b6, b7] 28)).alloc (.cells #[.bool false, .slice none 0 0, .bool false, .slice none 0 0, .bool false, .slice none 0 0, .bool false, .slice none 0 0] 31) := ⟨_, rfl⟩
 rw [← hW]
 have kV : Bx W1 (w.heap.size) 28 [a0, a1, a2, a3, a4, a5, a6, a7] := by rw [hW]; exact ((Bx.at_ rfl).alloc _).alloc _
 have kW : Bx W1 (w.heap.size + 1) 28 [b0, b1, b2, b3, b4, b5, b6, b7] := by rw [hW]; exact (Bx.at_ (by simp)).alloc _
 have kX : Bx W1 (w.heap.size + 1 + 1) 31 [.bool false, .slice none 0 0, .bool false, .slice none 0 0, .bool false, .slice none 0 0, .bool false, .slice none 0 0] := by rw [hW]; exact Bx.at_ (by simp)
 have hB : Below w.heap.size w W1 := by rw [hW]; exact (((Below.refl _ _).alloc (by simp) _).alloc (by simp) _).alloc (by simp; omega) _
 have k7 := Lib.hid hB; clear hW hB
 have F6 := Lib.hid (Hha.out.kp (.of k7.out))
 have F7 := Lib.hid (Hhb.out.kp (.of k7.out))
 go_upto_region 1 with fail
 generalize hW : W1.drew = W8
 have hB : Below W1.heap.size W1 W8 := by rw [← hW]; exact (Below.refl _ _).drew
 have k5 := kV.below hB
 have k6 := kW.below hB
 have kc := kX.below hB
 have k8 := Lib.hid (F6.out.kp (.of hB))
 have k9 := Lib.hid (F7.out.kp (.of hB))
 have ka := Lib.hid (Blw k7.out hB)
 clear hB
 have l15 := k5.lt
 have l16 := k6.lt
 have l17 := kc.lt
 generalize hF : ({ tmps := _, defers := _ } : Act) = F
 have ev2 : F.eval (.tmp 2) = .pointer (some ⟨w.heap.size, 0, none⟩) := by rw [← hF]; rfl
 have ev3 : F.eval (.tmp 3) = .pointer (some ⟨w.heap.size + 1, 0, none⟩) := by rw [← hF]; rfl
 have hsz : ∀ d ∈ ([(8, []), (9, []), (10, [0, 1]), (11, []), (12, []), (13, [3, 4]), (6, []), (7, [])] : List (Nat × List Nat)).map (·.1), d < F.tmps.size := by rw [← hF]; simp
 have HF := Lib.hid hF; clear hF
 refine wp_flow_tab true hW 8 [(8, []), (9, []), (10, [0, 1]), (11, []), (12, []), (13, [3, 4]), (6, []), (7, [])] [SC (.agg #[a0, a1, a2, a3, a4, a5, a6, a7]), SC (.agg #[a0, a1, a2, a3, a4, a5, a6, a7]), SR (vdot v v), SC (.agg #[b0, b1, b2, b3, b4, b5, b6, b7]), SC (.agg #[b0, b1, b2, b3, b4, b5, b6, b7]), SR (vdot u u), SB W8 26 [.bool false, .slice none 0 0, .bool false, .slice none 0 0], SB W8 26 [.bool false, .slice none 0 0, .bool false, .slice none 0 0]] [false, false, false, false, false, false, true, true] (by kernel_rfl) (by kernel_rfl) (by kernel_rfl) (by kernel_rfl) (by kernel_rfl) hsz ⟨SC.mono _, SC.mono _, SR.mono _, SC.mono _, SC.mono _, SR.mono _, SB.mono _ _ _, SB.mono _ _ _, trivial⟩ ?_ ?_
 ·intro kq hkq a wx hB hp hs
  have hcase : kq = 0 ∨ kq = 1 ∨ kq = 2 ∨ kq = 3 ∨ kq = 4 ∨ kq = 5 ∨ kq = 6 ∨ kq = 7 := by omega
  rcases hcase with rfl | rfl | rfl | rfl | rfl | rfl | rfl | rfl
  ·exact ⟨_, rfl, ld_Vec rfl ((hs 2 rfl).trans ev2) (k5.below hB) rfl rfl rfl rfl rfl rfl rfl rfl⟩
  ·exact ⟨_, rfl, ld_Vec rfl ((hs 2 rfl).trans ev2) (k5.below hB) rfl rfl rfl rfl rfl rfl rfl rfl⟩
  ·obtain ⟨k0, k1, -⟩ := hp
   have e0 : a.eval (.tmp 8) = .agg #[a0, a1, a2, a3, a4, a5, a6, a7] := k0
   have e1 : a.eval (.tmp 9) = .agg #[a0, a1, a2, a3, a4, a5, a6, a7] := k1
   exact ⟨_, rfl, Does.rr (f := 29) (call2 rfl (fun _ => by simp [go_sem]) e0 e1) (vdot_any (j) (j) a0 a1 a2 a3 a4 a5 a6 a7 a0 a1 a2 a3 a4 a5 a6 a7 (v) (v) wx (k8.out.kp (.of hB)) (k8.out.kp (.of hB)) Hba.out Hba.out (by omega))⟩
  ·exact ⟨_, rfl, ld_Vec rfl ((hs 3 rfl).trans ev3) (k6.below hB) rfl rfl rfl rfl rfl rfl rfl rfl⟩
  ·exact ⟨_, rfl, ld_Vec rfl ((hs 3 rfl).trans ev3) (k6.below hB) rfl rfl rfl rfl rfl rfl rfl rfl⟩
  ·obtain ⟨k0, k1, -⟩ := hp
   have e0 : a.eval (.tmp 11) = .agg #[b0, b1, b2, b3, b4, b5, b6, b7] := k0
   have e1 : a.eval (.tmp 12) = .agg #[b0, b1, b2, b3, b4, b5, b6, b7] := k1
   exact ⟨_, rfl, Does.rr (f := 29) (call2 rfl (fun _ => by simp [go_sem]) e0 e1) (vdot_any (k) (k) b0 b1 b2 b3 b4 b5 b6 b7 b0 b1 b2 b3 b4 b5 b6 b7 (u) (u) wx (k9.out.kp (.of hB)) (k9.out.kp (.of hB)) Hbb.out Hbb.out (by omega))⟩
  ·clear hp
   exact ⟨_, rfl, Does.box (by simp [execOp, go_sem]) hB⟩
  ·clear hp
   exact ⟨_, rfl, Does.box (by simp [execOp, go_sem]) hB⟩
 ·intro val wx hB hsp hdis
  obtain ⟨n0, n1, n2, n3, e2, h_n⟩ := hsp 2 (by omega)
  replace e2 : val 2 = .agg #[n0, n1, n2, n3] := e2
  obtain ⟨m0, m1, m2, m3, e5, h_m⟩ := hsp 5 (by omega)
  replace e5 : val 5 = .agg #[m0, m1, m2, m3] := e5
  obtain ⟨g18_6, e6, hg18_6, hbx18_6⟩ := hsp 6 (by omega)
  have hgw18_6 : w.heap.size ≤ g18_6 := Nat.le_trans ka.out.size hg18_6
  have hgl18_6 := hbx18_6.lt
  obtain ⟨g18_7, e7, hg18_7, hbx18_7⟩ := hsp 7 (by omega)
  have hgw18_7 : w.heap.size ≤ g18_7 := Nat.le_trans ka.out.size hg18_7
  have hgl18_7 := hbx18_7.lt
  have hne18_6_7 : g18_6 ≠ g18_7 := by
   have h := hdis 6 7 (by omega) (by omega) (by omega) rfl rfl
   rw [e6, e7] at h
   intro hh
   exact h (by rw [hh])
  rw [← HF.out]
  change wpList _ _ _ [_, _] _ _
  simp only [puts, vals, List.map_cons, List.map_nil, List.foldl_cons, List.foldl_nil, if_true, Nat.zero_add, Nat.reduceAdd, e2, e5, e6, e7, List.setIfInBounds_toArray, List.set_cons_succ, List.set_cons_zero]
  clear hsp hdis HF hsz e2 e5 e6 e7
  clear ev2 ev3
  obtain ⟨w19, rfl⟩ : ∃ W : World, W = wx := ⟨_, rfl⟩
  have k00 := k5.below hB
  have k01 := k6.below hB
  have k02 := kc.below hB
  have F23 := Lib.hid (k8.out.kp (.of hB))
  have F24 := Lib.hid (k9.out.kp (.of hB))
  have k05 := Lib.hid (Blw ka.out hB)
  have F26 := Lib.hid h_n
  have o_n0 := h_n.one0
  have o_n1 := h_n.one1
  have o_n2 := h_n.one2
  have o_n3 := h_n.one3
  clear h_n
  have F27 := Lib.hid h_m
  have o_m0 := h_m.one0
  have o_m1 := h_m.one1
  have o_m2 := h_m.one2
  have o_m3 := h_m.one3
  clear h_m
  clear hB
  obtain ⟨k0L, k0M, k0N, k0O, k0P, l33⟩ := hbx18_6.f4
  obtain ⟨k0R, k0S, k0T, k0U, k0V, l39⟩ := hbx18_7.f4
  go_upto_region 2 with fail
  have kd := (hbx18_6).set_ 0 (n0)
  have ke := (kd).set_ 1 (n1)
  have kf := (ke).set_ 2 (n2)
  have y43 := (kf).set_ 3 (n3)
  have kg := (((((hbx18_7).far_ (g' := g18_6) (j := 0) (by omega) (n0)).far_ (g' := g18_6) (j := 1) (by omega) (n1)).far_ (g' := g18_6) (j := 2) (by omega) (n2)).far_ (g' := g18_6) (j := 3) (by omega) (n3)).set_ 0 (m0)
  have kh := (kg).set_ 1 (m1)
  have ki := (kh).set_ 2 (m2)
  have y47 := (ki).set_ 3 (m3)
  have hkp : Kp w19 ((((((((w19.setCell ⟨g18_6, 0, none⟩ (n0)).setCell ⟨g18_6, 1, none⟩ (n1)).setCell ⟨g18_6, 2, none⟩ (n2)).setCell ⟨g18_6, 3, none⟩ (n3)).setCell ⟨g18_7, 0, none⟩ (m0)).setCell ⟨g18_7, 1, none⟩ (m1)).setCell ⟨g18_7, 2, none⟩ (m2)).setCell ⟨g18_7, 3, none⟩ (m3)) := ((((((((Kp.refl _).set_ (hbx18_6) (by decide) _).set_ (kd) (by decide) _).set_ (ke) (by decide) _).set_ (kf) (by decide) _).set_ (((((hbx18_7).far_ (g' := g18_6) (j := 0) (by omega) (n0)).far_ (g' := g18_6) (j := 1) (by omega) (n1)).far_ (g' := g18_6) (j := 2) (by omega) (n2)).far_ (g' := g18_6) (j := 3) (by omega) (n3)) (by decide) _).set_ (kg) (by decide) _).set_ (kh) (by decide) _).set_ (ki) (by decide) _
  obtain ⟨W48, hW⟩ : ∃ W, W = (((((((w19.setCell ⟨g18_6, 0, none⟩ (n0)).setCell ⟨g18_6, 1, none⟩ (n1)).setCell ⟨g18_6, 2, none⟩ (n2)).setCell ⟨g18_6, 3, none⟩ (n3)).setCell ⟨g18_7, 0, none⟩ (m0)).setCell ⟨g18_7, 1, none⟩ (m1)).setCell ⟨g18_7, 2, none⟩ (m2)).setCell ⟨g18_7, 3, none⟩ (m3) := ⟨_, rfl⟩
  rw [← hW]
  rw [← hW] at hkp
  have hB : Below w.heap.size w W48 := by rw [hW]; exact ((((((((k05.out).setCell (by simp <;> omega) _).setCell (by simp <;> omega) _).setCell (by simp <;> omega) _).setCell (by simp <;> omega) _).setCell (by simp <;> omega) _).setCell (by simp <;> omega) _).setCell (by simp <;> omega) _).setCell (by simp <;> omega) _
  have k0a := Lib.hid hB; clear hB
  have F50 := Lib.hid (F23.out.kp hkp)
  have F51 := Lib.hid (F24.out.kp hkp)
  have kj := Lib.hid (F26.out.kp hkp)
  have F53 := Lib.hid (F27.out.kp hkp)
  have kk : Bx W48 (w.heap.size) 28 [a0, a1, a2, a3, a4, a5, a6, a7] := by rw [hW]; exact ((((((((k00).far_ (g' := g18_6) (j := 0) (by omega) (n0)).far_ (g' := g18_6) (j := 1) (by omega) (n1)).far_ (g' := g18_6) (j := 2) (by omega) (n2)).far_ (g' := g18_6) (j := 3) (by omega) (n3)).far_ (g' := g18_7) (j := 0) (by omega) (m0)).far_ (g' := g18_7) (j := 1) (by omega) (m1)).far_ (g' := g18_7) (j := 2) (by omega) (m2)).far_ (g' := g18_7) (j := 3) (by omega) (m3)
  have kl : Bx W48 (w.heap.size + 1) 28 [b0, b1, b2, b3, b4, b5, b6, b7] := by rw [hW]; exact ((((((((k01).far_ (g' := g18_6) (j := 0) (by omega) (n0)).far_ (g' := g18_6) (j := 1) (by omega) (n1)).far_ (g' := g18_6) (j := 2) (by omega) (n2)).far_ (g' := g18_6) (j := 3) (by omega) (n3)).far_ (g' := g18_7) (j := 0) (by omega) (m0)).far_ (g' := g18_7) (j := 1) (by omega) (m1)).far_ (g' := g18_7) (j := 2) (by omega) (m2)).far_ (g' := g18_7) (j := 3) (by omega) (m3)
  have km : Bx W48 (w.heap.size + 1 + 1) 31 [.bool false, .slice none 0 0, .bool false, .slice none 0 0, .bool false, .slice none 0 0, .bool false, .slice none 0 0] := by rw [hW]; exact ((((((((k02).far_ (g' := g18_6) (j := 0) (by omega) (n0)).far_ (g' := g18_6) (j := 1) (by omega) (n1)).far_ (g' := g18_6) (j := 2) (by omega) (n2)).far_ (g' := g18_6) (j := 3) (by omega) (n3)).far_ (g' := g18_7) (j := 0) (by omega) (m0)).far_ (g' := g18_7) (j := 1) (by omega) (m1)).far_ (g' := g18_7) (j := 2) (by omega) (m2)).far_ (g' := g18_7) (j := 3) (by omega) (m3)
  have kn : Bx W48 (g18_6) 26 [n0, n1, n2, n3] := by rw [hW]; exact ((((y43).far_ (g' := g18_7) (j := 0) (by omega) (m0)).far_ (g' := g18_7) (j := 1) (by omega) (m1)).far_ (g' := g18_7) (j := 2) (by omega) (m2)).far_ (g' := g18_7) (j := 3) (by omega) (m3)
  have ko : Bx W48 (g18_7) 26 [m0, m1, m2, m3] := by rw [hW]; exact y47
  clear hW hkp
  obtain ⟨k0X, k0Y, k0Z, k10, k11, k12, k13, k14, k15, l68⟩ := kk.f8
  obtain ⟨k17, k18, k19, k1a, k1b, k1c, k1d, k1e, k1f, l78⟩ := kl.f8
  obtain ⟨k1h, k1i, k1j, k1k, k1l, k1m, k1n, k1o, k1p, l88⟩ := km.f8
  obtain ⟨k1r, k1s, k1t, k1u, k1v, l94⟩ := kn.f4
  obtain ⟨k1x, k1y, k1z, k1A, k1B, k1C⟩ := ko.f4
  go_wp2_with fail
  have kr := rsign_any n0 n1 n2 n3 (vdot v v) W48 kj.out
  (with_reducible refine kr.mono ?_)
  clear kr
  rintro e w101 ⟨rfl, k2⟩
  have ks := kk.below k2
  have kt := kl.below k2
  have ku := km.below k2
  have kv := kn.below k2
  have kw := ko.below k2
  have k0e := Lib.hid (F50.out.kp (.of k2))
  have k0f := Lib.hid (F51.out.kp (.of k2))
  have k0g := Lib.hid (kj.out.kp (.of k2))
  have kx := Lib.hid (F53.out.kp (.of k2))
  have k0h := Lib.hid (Blw k0a.out k2)
  clear k2
  obtain ⟨k1D, k1E, k1F, k1G, k1H, k1I, k1J, k1K, k1L, k1M⟩ := ks.f8
  obtain ⟨k1N, k1O, k1P, k1Q, k1R, k1S, k1T, k1U, k1V, k1W⟩ := kt.f8
  obtain ⟨k1X, k1Y, k1Z, k20, k21, k22, k23, k24, k25, k26⟩ := ku.f8
  obtain ⟨k27, k28, k29, k2a, k2b, k2c⟩ := kv.f4
  obtain ⟨k2d, k2e, k2f, k2g, k2h, k2i⟩ := kw.f4
  go_wp2_with fail
  have ky := rsign_any m0 m1 m2 m3 (vdot u u) w101 kx.out
  (with_reducible refine ky.mono ?_)
  clear ky
  rintro e w155 ⟨rfl, k3⟩
  have kz := ks.below k3
  have kA := kt.below k3
  have kB := ku.below k3
  have kC := kv.below k3
  have k0i := kw.below k3
  have k0j := Lib.hid (k0e.out.kp (.of k3))
  have k0k := Lib.hid (k0f.out.kp (.of k3))
  have kD := Lib.hid (k0g.out.kp (.of k3))
  have k0l := Lib.hid (kx.out.kp (.of k3))
  have k0m := Lib.hid (Blw k0h.out k3)
  clear k3
  obtain ⟨k2j, k2k, k2l, k2m, k2n, k2o, k2p, k2q, k2r, k2s⟩ := kz.f8
  obtain ⟨k2t, k2u, k2v, k2w, k2x, k2y, k2z, k2A, k2B, k2C⟩ := kA.f8
  obtain ⟨k2D, k2E, k2F, k2G, k2H, k2I, k2J, k2K, k2L, k2M⟩ := kB.f8
  obtain ⟨k2N, k2O, k2P, k2Q, k2R, k2S⟩ := kC.f4
  obtain ⟨k2T, k2U, k2V, k2W, k2X, k2Y⟩ := k0i.f4
  go_wp2_with fail
  have kE := rsame_any n0 n1 n2 n3 m0 m1 m2 m3 (vdot v v) (vdot u u) w155 kD.out k0l.out true (decide_eq_true HHD.out).symm
  (with_reducible refine kE.mono ?_)
  clear kE
  rintro e w209 ⟨rfl, k4⟩
  have k0n := kz.below k4
  have k0o := kA.below k4
  have k0p := kB.below k4
  have k0q := kC.below k4
  have k0r := Lib.hid (k0j.out.kp (.of k4))
  have k0s := Lib.hid (k0k.out.kp (.of k4))
  have k0t := Lib.hid (kD.out.kp (.of k4))
  have k0u := Lib.hid (Blw k0m.out k4)
  clear k4
  go_upto_region 6 with fail
  generalize hW : w209.drew = W221
  have hB : Below w209.heap.size w209 W221 := by rw [← hW]; exact (Below.refl _ _).drew
  have kF := k0n.below hB
  have kG := k0o.below hB
  have k0v := k0p.below hB
  have kH := k0q.below hB
  have kI := Lib.hid (k0r.out.kp (.of hB))
  have kJ := Lib.hid (k0s.out.kp (.of hB))
  have kK := Lib.hid (k0t.out.kp (.of hB))
  have k0w := Lib.hid (Blw k0u.out hB)
  clear hB
  generalize hF : ({ tmps := _, defers := _ } : Act) = F
  have ev2 : F.eval (.tmp 2) = .pointer (some ⟨w.heap.size, 0, none⟩) := by rw [← hF]; rfl
  have ev3 : F.eval (.tmp 3) = .pointer (some ⟨w.heap.size + 1, 0, none⟩) := by rw [← hF]; rfl
  have ev6 : F.eval (.tmp 6) = .pointer (some ⟨g18_6, 0, none⟩) := by rw [← hF]; rfl
  have hsz : ∀ d ∈ ([(30, []), (31, []), (32, [0, 1]), (33, []), (34, [2, 3]), (35, []), (36, []), (37, [5, 6]), (38, []), (39, [7, 8]), (40, [4, 9])] : List (Nat × List Nat)).map (·.1), d < F.tmps.size := by rw [← hF]; simp
  have HF := Lib.hid hF; clear hF
  refine wp_flow_tab true hW 11 [(30, []), (31, []), (32, [0, 1]), (33, []), (34, [2, 3]), (35, []), (36, []), (37, [5, 6]), (38, []), (39, [7, 8]), (40, [4, 9])] [SC (.agg #[a0, a1, a2, a3, a4, a5, a6, a7]), SC (.agg #[b0, b1, b2, b3, b4, b5, b6, b7]), SR (vdot v u), SC (.agg #[n0, n1, n2, n3]), SR (vdot v u / vdot v v), SC (.agg #[a0, a1, a2, a3, a4, a5, a6, a7]), SC (.agg #[b0, b1, b2, b3, b4, b5, b6, b7]), SR (vcrs v u), SC (.agg #[n0, n1, n2, n3]), SR (vcrs v u / vdot v v), SV ((vdot v u / vdot v v, vcrs v u / vdot v v))] [false, false, false, false, false, false, false, false, false, false, false] (by kernel_rfl) (by kernel_rfl) (by kernel_rfl) (by kernel_rfl) (by kernel_rfl) hsz ⟨SC.mono _, SC.mono _, SR.mono _, SC.mono _, SR.mono _, SC.mono _, SC.mono _, SR.mono _, SC.mono _, SR.mono _, SV.mono _, trivial⟩ ?_ ?_
  ·intro kq hkq a wx hB hp hs
   have hcase : kq = 0 ∨ kq = 1 ∨ kq = 2 ∨ kq = 3 ∨ kq = 4 ∨ kq = 5 ∨ kq = 6 ∨ kq = 7 ∨ kq = 8 ∨ kq = 9 ∨ kq = 10 := by omega
   rcases hcase with rfl | rfl | rfl | rfl | rfl | rfl | rfl | rfl | rfl | rfl | rfl
   ·exact ⟨_, rfl, ld_Vec rfl ((hs 2 rfl).trans ev2) (kF.below hB) rfl rfl rfl rfl rfl rfl rfl rfl⟩
   ·exact ⟨_, rfl, ld_Vec rfl ((hs 3 rfl).trans ev3) (kG.below hB) rfl rfl rfl rfl rfl rfl rfl rfl⟩
   ·obtain ⟨k0, k1, -⟩ := hp
    have e0 : a.eval (.tmp 30) = .agg #[a0, a1, a2, a3, a4, a5, a6, a7] := k0
    have e1 : a.eval (.tmp 31) = .agg #[b0, b1, b2, b3, b4, b5, b6, b7] := k1
    exact ⟨_, rfl, Does.rr (f := 29) (call2 rfl (fun _ => by simp [go_sem]) e0 e1) (vdot_any (j) (k) a0 a1 a2 a3 a4 a5 a6 a7 b0 b1 b2 b3 b4 b5 b6 b7 (v) (u) wx (kI.out.kp (.of hB)) (kJ.out.kp (.of hB)) Hba.out Hbb.out (by omega))⟩
   ·exact ⟨_, rfl, ld_Rat rfl ((hs 6 rfl).trans ev6) (kH.below hB) rfl rfl rfl rfl⟩
   ·obtain ⟨k0, k1, -⟩ := hp
    obtain ⟨x0, x1, x2, x3, e0, h_x⟩ := k0
    replace e0 : a.eval (.tmp 32) = .agg #[x0, x1, x2, x3] := e0
    have e1 : a.eval (.tmp 33) = .agg #[n0, n1, n2, n3] := k1
    exact ⟨_, rfl, Does.rr (f := 50) (call2 rfl (fun _ => by simp [go_sem]) e0 e1) (rdiv_any (2 * (j + k) + 1) (2 * (j + j) + 1) x0 x1 x2 x3 n0 n1 n2 n3 (vdot v u) (vdot v v) wx h_x (kK.out.kp (.of hB)) (Hba.out.dot Hbb.out) (Hba.out.dot Hba.out) (by omega))⟩
   ·exact ⟨_, rfl, ld_Vec rfl ((hs 2 rfl).trans ev2) (kF.below hB) rfl rfl rfl rfl rfl rfl rfl rfl⟩
   ·exact ⟨_, rfl, ld_Vec rfl ((hs 3 rfl).trans ev3) (kG.below hB) rfl rfl rfl rfl rfl rfl rfl rfl⟩
   ·obtain ⟨k0, k1, -⟩ := hp
    have e0 : a.eval (.tmp 35) = .agg #[a0, a1, a2, a3, a4, a5, a6, a7] := k0
    have e1 : a.eval (.tmp 36) = .agg #[b0, b1, b2, b3, b4, b5, b6, b7] := k1
    exact ⟨_, rfl, Does.rr (f := 30) (call2 rfl (fun _ => by simp [go_sem]) e0 e1) (vcrs_any (j) (k) a0 a1 a2 a3 a4 a5 a6 a7 b0 b1 b2 b3 b4 b5 b6 b7 (v) (u) wx (kI.out.kp (.of hB)) (kJ.out.kp (.of hB)) Hba.out Hbb.out (by omega))⟩
   ·exact ⟨_, rfl, ld_Rat rfl ((hs 6 rfl).trans ev6) (kH.below hB) rfl rfl rfl rfl⟩
   ·obtain ⟨k0, k1, -⟩ := hp
    obtain ⟨y0, y1, y2, y3, e0, h_y⟩ := k0
    replace e0 : a.eval (.tmp 37) = .agg #[y0, y1, y2, y3] := e0
    have e1 : a.eval (.tmp 38) = .agg #[n0, n1, n2, n3] := k1
    exact ⟨_, rfl, Does.rr (f := 50) (call2 rfl (fun _ => by simp [go_sem]) e0 e1) (rdiv_any (2 * (j + k) + 1) (2 * (j + j) + 1) y0 y1 y2 y3 n0 n1 n2 n3 (vcrs v u) (vdot v v) wx h_y (kK.out.kp (.of hB)) (Hba.out.crs Hbb.out) (Hba.out.dot Hba.out) (by omega))⟩
   ·obtain ⟨k0, k1, -⟩ := hp
    obtain ⟨c0, c1, c2, c3, e0, h_c⟩ := k0
    replace e0 : a.eval (.tmp 34) = .agg #[c0, c1, c2, c3] := e0
    obtain ⟨d0, d1, d2, d3, e1, h_d⟩ := k1
    replace e1 : a.eval (.tmp 39) = .agg #[d0, d1, d2, d3] := e1
    simp [Act.eval] at e0
    simp [Act.eval] at e1
    exact ⟨_, rfl, Does.val (by simp [execOp, Act.eval, e0, e1, go_sem]) ⟨c0, c1, c2, c3, d0, d1, d2, d3, rfl, ⟨h_c, h_d⟩⟩⟩
  ·intro val wx hB hsp hdis
   obtain ⟨z0, z1, z2, z3, z4, z5, z6, z7, e10, h_z⟩ := hsp 10 (by omega)
   replace e10 : val 10 = .agg #[z0, z1, z2, z3, z4, z5, z6, z7] := e10
   rw [← HF.out]
   change wpList _ _ _ [_, _] _ _
   simp only [puts, vals, List.map_cons, List.map_nil, List.foldl_cons, List.foldl_nil, if_true, Nat.zero_add, Nat.reduceAdd, e10, List.setIfInBounds_toArray, List.set_cons_succ, List.set_cons_zero]
   clear hsp hdis HF hsz e10
   clear ev2 ev3 ev6
   obtain ⟨w233, rfl⟩ : ∃ W : World, W = wx := ⟨_, rfl⟩
   have kb := k0v.below hB
   have k0x := Lib.hid (Blw k0w.out hB)
   have k0y := Lib.hid h_z
   have o_z0 := h_z.one0
   have o_z1 := h_z.one1
   have o_z2 := h_z.one2
   have o_z3 := h_z.one3
   have o_z4 := h_z.one4
   have o_z5 := h_z.one5
   have o_z6 := h_z.one6
   have o_z7 := h_z.one7
   clear h_z
   clear hB
   obtain ⟨k0z, k0A, k0B, k0C, k0D, k0E, k0F, k0G, k2Z, k30⟩ := kb.f8
   go_wp2
   have kP := (kb).set_ 0 (z0)
   have kQ := (kP).set_ 1 (z1)
   have kR := (kQ).set_ 2 (z2)
   have kS := (kR).set_ 3 (z3)
   have kT := (kS).set_ 4 (z4)
   have kU := (kT).set_ 5 (z5)
   have k0H := (kU).set_ 6 (z6)
   have hkp : Kp w233 ((((((((w233.setCell ⟨w.heap.size + 1 + 1, 0, none⟩ (z0)).setCell ⟨w.heap.size + 1 + 1, 1, none⟩ (z1)).setCell ⟨w.heap.size + 1 + 1, 2, none⟩ (z2)).setCell ⟨w.heap.size + 1 + 1, 3, none⟩ (z3)).setCell ⟨w.heap.size + 1 + 1, 4, none⟩ (z4)).setCell ⟨w.heap.size + 1 + 1, 5, none⟩ (z5)).setCell ⟨w.heap.size + 1 + 1, 6, none⟩ (z6)).setCell ⟨w.heap.size + 1 + 1, 7, none⟩ (z7)) := ((((((((Kp.refl _).set_ (kb) (by decide) _).set_ (kP) (by decide) _).set_ (kQ) (by decide) _).set_ (kR) (by decide) _).set_ (kS) (by decide) _).set_ (kT) (by decide) _).set_ (kU) (by decide) _).set_ (k0H) (by decide) _
   refine bodyPost_ret (v := .tuple #[.agg #[z0, z1, z2, z3, z4, z5, z6, z7], .int .i64 0]) (by simp [results, Try.results10, go_sem, k0z, k0A, k0B, k0C, k0D, k0E, k0F, k0G]) rfl ⟨_, _, _, _, _, _, _, _, rfl, ?_, ((((((((k0x.out).setCell (by simp <;> omega) _).setCell (by simp <;> omega) _).setCell (by simp <;> omega) _).setCell (by simp <;> omega) _).setCell (by simp <;> omega) _).setCell (by simp <;> omega) _).setCell (by simp <;> omega) _).setCell (by simp <;> omega) _⟩
   exact k0y.out.kp hkp
theorem valn_any (j k : Nat) (a0 a1 a2 a3 a4 a5 a6 a7 b0 b1 b2 b3 b4 b5 b6 b7 : Value) (v u : Rat × Rat) (w : World) (ha : VecV w a0 a1 a2 a3 a4 a5 a6 a7 v) (hb : VecV w b0 b1 b2 b3 b4 b5 b6 b7 u) (ba : Bv j v) (bb : Bv k u) (hk : 40 * (j + k) + 100 ≤ 800000000000) :
  Calls Try.prog 10 #[.agg #[a0, a1, a2, a3, a4, a5, a6, a7], .agg #[b0, b1, b2, b3, b4, b5, b6, b7]] w (RTE (valn v u).1 (valn v u).2 w) := by
 unfold valn
 by_cases hz : vdot v v = 0
 ·rw [if_pos (.inl hz)]
  exact valn_0 j k a0 a1 a2 a3 a4 a5 a6 a7 b0 b1 b2 b3 b4 b5 b6 b7 v u w ha hb ba bb hz hk
 ·by_cases hy : vdot u u = 0
  ·rw [if_pos (.inr hy)]
   exact valn_1 j k a0 a1 a2 a3 a4 a5 a6 a7 b0 b1 b2 b3 b4 b5 b6 b7 v u w ha hb ba bb hz hy hk
  ·rw [if_neg (by rintro (h | h); exact hz h; exact hy h)]
   by_cases hd : vdot v v = vdot u u
   ·rw [if_neg (by simp [hd])]
    exact valn_3 j k a0 a1 a2 a3 a4 a5 a6 a7 b0 b1 b2 b3 b4 b5 b6 b7 v u w ha hb ba bb hz hy hd hk
   ·rw [if_pos hd]
    exact valn_2 j k a0 a1 a2 a3 a4 a5 a6 a7 b0 b1 b2 b3 b4 b5 b6 b7 v u w ha hb ba bb hz hy hd hk
end Go.Proofs.Ytonkbckgbfcnkaa
