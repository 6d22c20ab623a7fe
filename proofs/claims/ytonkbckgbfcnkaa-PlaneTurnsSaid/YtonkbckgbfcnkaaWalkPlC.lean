/-
 THE WALK of package plane: Align.
-/
import Derived.Test.YtonkbckgbfcnkaaWalkPlB
namespace Go.Proofs.Ytonkbckgbfcnkaa
set_option maxHeartbeats 4000000
open Go.RowKit
attribute [local go_sem] run_store_one
set_option linter.unusedVariables false
/-- The turn that leads a vector to another one, and the error. -/
def valn (v u : Rat × Rat) : (Rat × Rat) × Int := if vdot v v = 0 ∨ vdot u u = 0 then ((0, 0), 1) else if vdot v v ≠ vdot u u then ((0, 0), 21) else ((vdot v u / vdot v v, vcrs v u / vdot v v), 0)
/-- What returns a turn and an error. -/
def RTE (t : Rat × Rat) (e_ : Int) (w : World) (e : Ending) (w' : World) : Prop := ∃ a0 a1 a2 a3 a4 a5 a6 a7, e = .returned (.tuple #[.agg #[a0, a1, a2, a3, a4, a5, a6, a7], .int .i64 e_]) ∧ VecV w' a0 a1 a2 a3 a4 a5 a6 a7 t ∧ Below w.heap.size w w'
theorem VecV.zero (w : World) : VecV w (.bool false) (.slice none 0 0) (.bool false) (.slice none 0 0) (.bool false) (.slice none 0 0) (.bool false) (.slice none 0 0) (0, 0) := ⟨RatV.zero w, RatV.zero w⟩
theorem sgn_zero {r : Rat} : sgnZ r.num = 0 ↔ r = 0 := by
 rw [← num_zero]
 unfold sgnZ cmpZ
 split
 ·constructor
  ·intro h; omega
  ·intro h; omega
 ·split
  ·constructor
   ·intro h; omega
   ·intro h; omega
  ·constructor
   ·intro h; omega
   ·intro h; rfl
theorem sgn_eq {r : Rat} (h : r = 0) : (sgnZ r.num == 0) = true := by rw [sgn_zero.2 h]; rfl
theorem sgn_ne {r : Rat} (h : r ≠ 0) : (sgnZ r.num == 0) = false := by simp [sgn_zero, h]
set_option maxRecDepth 100000 in
theorem valn_0 (j k : Nat) (a0 a1 a2 a3 a4 a5 a6 a7 b0 b1 b2 b3 b4 b5 b6 b7 : Value) (v : Rat × Rat) (u : Rat × Rat) (w : World) (ha : VecV w a0 a1 a2 a3 a4 a5 a6 a7 v) (hb : VecV w b0 b1 b2 b3 b4 b5 b6 b7 u) (ba : Bv j v) (bb : Bv k u) (hz : vdot v v = 0) (hk : 40 * (j + k) + 100 ≤ 800000000000) :
  Calls Try.prog 10 #[.agg #[a0, a1, a2, a3, a4, a5, a6, a7], .agg #[b0, b1, b2, b3, b4, b5, b6, b7]] w (RTE (0, 0) 1 w) := by
 obtain ⟨qa0, qa1, qa2, qa3, qa4, qa5, qa6, qa7⟩ := ha.ones
 obtain ⟨qb0, qb1, qb2, qb3, qb4, qb5, qb6, qb7⟩ := hb.ones
 have Hha := Lib.hid ha; have Hhb := Lib.hid hb; have Hba := Lib.hid ba; have Hbb := Lib.hid bb
 clear ha hb ba bb
 have hs1 := sgn_eq hz
 have HHZ := Lib.hid hz
 clear hz
 go_enter Try.func10, Try.ntmps10
 go_upto_region 1 with fail
 generalize hW : ((w.alloc _).alloc _).alloc _ = W1
 obtain ⟨kr, ks, kt, hB⟩ := box3 hW
 have k3 := Lib.hid hB; clear hW hB
 have F6 := Lib.hid (Hha.out.kp (.of k3.out))
 have F7 := Lib.hid (Hhb.out.kp (.of k3.out))
 go_upto_region 1 with fail
 generalize hW : W1.drew = W8
 have hB : Below W1.heap.size W1 W8 := by rw [← hW]; exact (Below.refl _ _).drew
 have k1 := kr.below hB
 have k2 := ks.below hB
 have kd := kt.below hB
 have ke := Lib.hid (F6.out.kp (.of hB))
 have kf := Lib.hid (F7.out.kp (.of hB))
 have k4 := Lib.hid (Blw k3.out hB)
 clear hB
 have kQ := k1.lt
 have kR := k2.lt
 have kS := kd.lt
 generalize hF : ({ tmps := _, defers := _ } : Act) = F
 have ev2 : F.eval (.tmp 2) = .pointer (some ⟨w.heap.size, 0, none⟩) := by rw [← hF]; rfl
 have ev3 : F.eval (.tmp 3) = .pointer (some ⟨w.heap.size + 1, 0, none⟩) := by rw [← hF]; rfl
 have HF := Lib.hid hF; clear hF
 refine wp_flow_tab true hW 8 [(8, []), (9, []), (10, [0, 1]), (11, []), (12, []), (13, [3, 4]), (6, []), (7, [])] [SC (.agg #[a0, a1, a2, a3, a4, a5, a6, a7]), SC (.agg #[a0, a1, a2, a3, a4, a5, a6, a7]), SR (vdot v v), SC (.agg #[b0, b1, b2, b3, b4, b5, b6, b7]), SC (.agg #[b0, b1, b2, b3, b4, b5, b6, b7]), SR (vdot u u), SB W8 26 [.bool false, .slice none 0 0, .bool false, .slice none 0 0], SB W8 26 [.bool false, .slice none 0 0, .bool false, .slice none 0 0]] [false, false, false, false, false, false, true, true] (by kernel_rfl) (by kernel_rfl) (by kernel_rfl) (by kernel_rfl) (by kernel_rfl) (by rw [← HF.out]; simp) ⟨SC.mono _, SC.mono _, SR.mono _, SC.mono _, SC.mono _, SR.mono _, SB.mono _ _ _, SB.mono _ _ _, trivial⟩ ?_ ?_
 ·intro kq hkq a wx hB hp hs
  have hcase : kq = 0 ∨ kq = 1 ∨ kq = 2 ∨ kq = 3 ∨ kq = 4 ∨ kq = 5 ∨ kq = 6 ∨ kq = 7 := by omega
  rcases hcase with rfl | rfl | rfl | rfl | rfl | rfl | rfl | rfl
  ·exact ⟨_, rfl, ld_Vec rfl ((hs 2 rfl).trans ev2) (k1.below hB) rfl rfl rfl rfl rfl rfl rfl rfl⟩
  ·exact ⟨_, rfl, ld_Vec rfl ((hs 2 rfl).trans ev2) (k1.below hB) rfl rfl rfl rfl rfl rfl rfl rfl⟩
  ·obtain ⟨k5, k6, -⟩ := hp
   exact ⟨_, rfl, Does.rr (f := 29) (call2 rfl (fun _ => by simp [go_sem]) k5 k6) (vdot_any (j) (j) a0 a1 a2 a3 a4 a5 a6 a7 a0 a1 a2 a3 a4 a5 a6 a7 (v) (v) wx (ke.out.kp (.of hB)) (ke.out.kp (.of hB)) Hba.out Hba.out (by omega))⟩
  ·exact ⟨_, rfl, ld_Vec rfl ((hs 3 rfl).trans ev3) (k2.below hB) rfl rfl rfl rfl rfl rfl rfl rfl⟩
  ·exact ⟨_, rfl, ld_Vec rfl ((hs 3 rfl).trans ev3) (k2.below hB) rfl rfl rfl rfl rfl rfl rfl rfl⟩
  ·obtain ⟨k5, k6, -⟩ := hp
   exact ⟨_, rfl, Does.rr (f := 29) (call2 rfl (fun _ => by simp [go_sem]) k5 k6) (vdot_any (k) (k) b0 b1 b2 b3 b4 b5 b6 b7 b0 b1 b2 b3 b4 b5 b6 b7 (u) (u) wx (kf.out.kp (.of hB)) (kf.out.kp (.of hB)) Hbb.out Hbb.out (by omega))⟩
  ·clear hp
   exact ⟨_, rfl, Does.box (by simp [execOp, go_sem]) hB⟩
  ·clear hp
   exact ⟨_, rfl, Does.box (by simp [execOp, go_sem]) hB⟩
 ·intro val wx hB hsp hdis
  obtain ⟨n0, n1, n2, n3, e2, h_n⟩ := hsp 2 (by omega)
  replace e2 : val 2 = .agg #[n0, n1, n2, n3] := e2
  obtain ⟨m0, m1, m2, m3, e5, h_m⟩ := hsp 5 (by omega)
  replace e5 : val 5 = .agg #[m0, m1, m2, m3] := e5
  obtain ⟨g18_6, e6, hg18_6, hbx18_6⟩ := hsp 6 (by omega)
  have hgw18_6 : w.heap.size ≤ g18_6 := Nat.le_trans k4.out.size hg18_6
  have hgl18_6 := hbx18_6.lt
  obtain ⟨g18_7, e7, hg18_7, hbx18_7⟩ := hsp 7 (by omega)
  have hgw18_7 : w.heap.size ≤ g18_7 := Nat.le_trans k4.out.size hg18_7
  have hgl18_7 := hbx18_7.lt
  have hne18_6_7 : g18_6 ≠ g18_7 := by
   have h := hdis 6 7 (by omega) (by omega) (by omega) rfl rfl
   rw [e6, e7] at h
   intro hh
   exact h (by rw [hh])
  rw [← HF.out]
  change wpList _ _ _ [_, _] _ _
  simp only [puts, vals, List.map_cons, List.map_nil, List.foldl_cons, List.foldl_nil, if_true, Nat.zero_add, Nat.reduceAdd, e2, e5, e6, e7, List.setIfInBounds_toArray, List.set_cons_succ, List.set_cons_zero]
  clear hsp hdis HF e2 e5 e6 e7
  clear ev2 ev3
  obtain ⟨w19, rfl⟩ : ∃ W : World, W = wx := ⟨_, rfl⟩
  have kw := k1.below hB
  have kx := k2.below hB
  have ky := kd.below hB
  have kz := Lib.hid (Blw k4.out hB)
  have kA := Lib.hid h_n
  obtain ⟨o_n0, o_n1, o_n2, o_n3⟩ := h_n.ones
  clear h_n
  obtain ⟨o_m0, o_m1, o_m2, o_m3⟩ := h_m.ones
  clear h_m
  clear hB
  obtain ⟨kT, kU, kV, kW, kX, kY⟩ := hbx18_6.f4
  obtain ⟨kZ, k00, k01, k02, k03, l39⟩ := hbx18_7.f4
  go_upto_region 2 with fail
  have k7 := (hbx18_6).set_ 0 (n0)
  have k8 := (k7).set_ 1 (n1)
  have k9 := (k8).set_ 2 (n2)
  have kg := (k9).set_ 3 (n3)
  have ka := (((((hbx18_7).far_ (g' := g18_6) (j := 0) (by omega) (n0)).far_ (g' := g18_6) (j := 1) (by omega) (n1)).far_ (g' := g18_6) (j := 2) (by omega) (n2)).far_ (g' := g18_6) (j := 3) (by omega) (n3)).set_ 0 (m0)
  have kb := (ka).set_ 1 (m1)
  have kc := (kb).set_ 2 (m2)
  have kh := (kc).set_ 3 (m3)
  have hkp : Kp w19 ((((((((w19.setCell ⟨g18_6, 0, none⟩ (n0)).setCell ⟨g18_6, 1, none⟩ (n1)).setCell ⟨g18_6, 2, none⟩ (n2)).setCell ⟨g18_6, 3, none⟩ (n3)).setCell ⟨g18_7, 0, none⟩ (m0)).setCell ⟨g18_7, 1, none⟩ (m1)).setCell ⟨g18_7, 2, none⟩ (m2)).setCell ⟨g18_7, 3, none⟩ (m3)) := ((((((((Kp.refl _).set_ (hbx18_6) (by decide) _).set_ (k7) (by decide) _).set_ (k8) (by decide) _).set_ (k9) (by decide) _).set_ (((((hbx18_7).far_ (g' := g18_6) (j := 0) (by omega) (n0)).far_ (g' := g18_6) (j := 1) (by omega) (n1)).far_ (g' := g18_6) (j := 2) (by omega) (n2)).far_ (g' := g18_6) (j := 3) (by omega) (n3)) (by decide) _).set_ (ka) (by decide) _).set_ (kb) (by decide) _).set_ (kc) (by decide) _
  obtain ⟨W48, hW⟩ : ∃ W, W = (((((((w19.setCell ⟨g18_6, 0, none⟩ (n0)).setCell ⟨g18_6, 1, none⟩ (n1)).setCell ⟨g18_6, 2, none⟩ (n2)).setCell ⟨g18_6, 3, none⟩ (n3)).setCell ⟨g18_7, 0, none⟩ (m0)).setCell ⟨g18_7, 1, none⟩ (m1)).setCell ⟨g18_7, 2, none⟩ (m2)).setCell ⟨g18_7, 3, none⟩ (m3) := ⟨_, rfl⟩
  rw [← hW]
  rw [← hW] at hkp
  have hB : Below w.heap.size w W48 := by rw [hW]; exact bel4 (bel4 (kz.out) (by first | simp | omega)) (by first | simp | omega)
  have kB := Lib.hid hB; clear hB
  have kC := Lib.hid (kA.out.kp hkp)
  have ki : Bx W48 (w.heap.size) 28 [a0, a1, a2, a3, a4, a5, a6, a7] := by rw [hW]; exact ((((((((kw).far_ (g' := g18_6) (j := 0) (by omega) (n0)).far_ (g' := g18_6) (j := 1) (by omega) (n1)).far_ (g' := g18_6) (j := 2) (by omega) (n2)).far_ (g' := g18_6) (j := 3) (by omega) (n3)).far_ (g' := g18_7) (j := 0) (by omega) (m0)).far_ (g' := g18_7) (j := 1) (by omega) (m1)).far_ (g' := g18_7) (j := 2) (by omega) (m2)).far_ (g' := g18_7) (j := 3) (by omega) (m3)
  have kj : Bx W48 (w.heap.size + 1) 28 [b0, b1, b2, b3, b4, b5, b6, b7] := by rw [hW]; exact ((((((((kx).far_ (g' := g18_6) (j := 0) (by omega) (n0)).far_ (g' := g18_6) (j := 1) (by omega) (n1)).far_ (g' := g18_6) (j := 2) (by omega) (n2)).far_ (g' := g18_6) (j := 3) (by omega) (n3)).far_ (g' := g18_7) (j := 0) (by omega) (m0)).far_ (g' := g18_7) (j := 1) (by omega) (m1)).far_ (g' := g18_7) (j := 2) (by omega) (m2)).far_ (g' := g18_7) (j := 3) (by omega) (m3)
  have kk : Bx W48 (w.heap.size + 1 + 1) 31 [.bool false, .slice none 0 0, .bool false, .slice none 0 0, .bool false, .slice none 0 0, .bool false, .slice none 0 0] := by rw [hW]; exact ((((((((ky).far_ (g' := g18_6) (j := 0) (by omega) (n0)).far_ (g' := g18_6) (j := 1) (by omega) (n1)).far_ (g' := g18_6) (j := 2) (by omega) (n2)).far_ (g' := g18_6) (j := 3) (by omega) (n3)).far_ (g' := g18_7) (j := 0) (by omega) (m0)).far_ (g' := g18_7) (j := 1) (by omega) (m1)).far_ (g' := g18_7) (j := 2) (by omega) (m2)).far_ (g' := g18_7) (j := 3) (by omega) (m3)
  have kl : Bx W48 (g18_6) 26 [n0, n1, n2, n3] := by rw [hW]; exact ((((kg).far_ (g' := g18_7) (j := 0) (by omega) (m0)).far_ (g' := g18_7) (j := 1) (by omega) (m1)).far_ (g' := g18_7) (j := 2) (by omega) (m2)).far_ (g' := g18_7) (j := 3) (by omega) (m3)
  have km : Bx W48 (g18_7) 26 [m0, m1, m2, m3] := by rw [hW]; exact kh
  clear hW hkp k7 k8 k9 kg ka kb kc kh
  obtain ⟨k05, k06, k07, k08, k09, k0a, k0b, k0c, k0d, l68⟩ := ki.f8
  obtain ⟨k0f, k0g, k0h, k0i, k0j, k0k, k0l, k0m, k0n, l78⟩ := kj.f8
  obtain ⟨k0p, k0q, k0r, k0s, k0t, k0u, k0v, k0w, k0x, l88⟩ := kk.f8
  obtain ⟨k0z, k0A, k0B, k0C, k0D, l94⟩ := kl.f4
  obtain ⟨k0F, k0G, k0H, k0I, k0J, k0K⟩ := km.f4
  go_wp2_with fail
  have kn := rsign_any n0 n1 n2 n3 (vdot v v) W48 kC.out
  (with_reducible refine kn.mono ?_)
  clear kn
  rintro e w101 ⟨rfl, k0⟩
  have kD := ki.below k0
  have kE := kj.below k0
  have ko := kk.below k0
  have kF := kl.below k0
  have kG := km.below k0
  have kH := Lib.hid (Blw kB.out k0)
  clear k0
  obtain ⟨k0L, k0M, k0N, k0O, k0P, k0Q, k0R, k0S, k0T, k0U⟩ := kD.f8
  obtain ⟨k0V, k0W, k0X, k0Y, k0Z, k10, k11, k12, k13, k14⟩ := kE.f8
  obtain ⟨kI, kJ, kK, kL, kM, kN, kO, kP, k15, k16⟩ := ko.f8
  obtain ⟨k17, k18, k19, k1a, k1b, k1c⟩ := kF.f4
  obtain ⟨k1d, k1e, k1f, k1g, k1h, k1i⟩ := kG.f4
  go_wp2
  have hkp := (Kp.refl w101).t8 (ko) (.bool false) (.slice none 0 0) (.bool false) (.slice none 0 0) (.bool false) (.slice none 0 0) (.bool false) (.slice none 0 0)
  refine bodyPost_ret (v := .tuple #[.agg #[.bool false, .slice none 0 0, .bool false, .slice none 0 0, .bool false, .slice none 0 0, .bool false, .slice none 0 0], .int .i64 1]) (by simp [results, Try.results10, go_sem, kI, kJ, kK, kL, kM, kN, kO, kP]) rfl ⟨_, _, _, _, _, _, _, _, rfl, ?_, bel8 (kH.out) (by first | simp | omega)⟩
  exact VecV.zero _
set_option maxRecDepth 100000 in
theorem valn_1 (j k : Nat) (a0 a1 a2 a3 a4 a5 a6 a7 b0 b1 b2 b3 b4 b5 b6 b7 : Value) (v : Rat × Rat) (u : Rat × Rat) (w : World) (ha : VecV w a0 a1 a2 a3 a4 a5 a6 a7 v) (hb : VecV w b0 b1 b2 b3 b4 b5 b6 b7 u) (ba : Bv j v) (bb : Bv k u) (hz : vdot v v ≠ 0) (hy : vdot u u = 0) (hk : 40 * (j + k) + 100 ≤ 800000000000) :
  Calls Try.prog 10 #[.agg #[a0, a1, a2, a3, a4, a5, a6, a7], .agg #[b0, b1, b2, b3, b4, b5, b6, b7]] w (RTE (0, 0) 1 w) := by
 obtain ⟨qa0, qa1, qa2, qa3, qa4, qa5, qa6, qa7⟩ := ha.ones
 obtain ⟨qb0, qb1, qb2, qb3, qb4, qb5, qb6, qb7⟩ := hb.ones
 have Hha := Lib.hid ha; have Hhb := Lib.hid hb; have Hba := Lib.hid ba; have Hbb := Lib.hid bb
 clear ha hb ba bb
 have hs1 := sgn_ne hz
 have hs2 := sgn_eq hy
 have HHZ := Lib.hid hz
 have HHY := Lib.hid hy
 clear hz hy
 go_enter Try.func10, Try.ntmps10
 go_upto_region 1 with fail
 generalize hW : ((w.alloc _).alloc _).alloc _ = W1
 obtain ⟨ky, kz, kA, hB⟩ := box3 hW
 have k4 := Lib.hid hB; clear hW hB
 have F6 := Lib.hid (Hha.out.kp (.of k4.out))
 have F7 := Lib.hid (Hhb.out.kp (.of k4.out))
 go_upto_region 1 with fail
 generalize hW : W1.drew = W8
 have hB : Below W1.heap.size W1 W8 := by rw [← hW]; exact (Below.refl _ _).drew
 have k2 := ky.below hB
 have k3 := kz.below hB
 have ke := kA.below hB
 have kf := Lib.hid (F6.out.kp (.of hB))
 have kg := Lib.hid (F7.out.kp (.of hB))
 have k5 := Lib.hid (Blw k4.out hB)
 clear hB
 have l15 := k2.lt
 have l16 := k3.lt
 have l17 := ke.lt
 generalize hF : ({ tmps := _, defers := _ } : Act) = F
 have ev2 : F.eval (.tmp 2) = .pointer (some ⟨w.heap.size, 0, none⟩) := by rw [← hF]; rfl
 have ev3 : F.eval (.tmp 3) = .pointer (some ⟨w.heap.size + 1, 0, none⟩) := by rw [← hF]; rfl
 have HF := Lib.hid hF; clear hF
 refine wp_flow_tab true hW 8 [(8, []), (9, []), (10, [0, 1]), (11, []), (12, []), (13, [3, 4]), (6, []), (7, [])] [SC (.agg #[a0, a1, a2, a3, a4, a5, a6, a7]), SC (.agg #[a0, a1, a2, a3, a4, a5, a6, a7]), SR (vdot v v), SC (.agg #[b0, b1, b2, b3, b4, b5, b6, b7]), SC (.agg #[b0, b1, b2, b3, b4, b5, b6, b7]), SR (vdot u u), SB W8 26 [.bool false, .slice none 0 0, .bool false, .slice none 0 0], SB W8 26 [.bool false, .slice none 0 0, .bool false, .slice none 0 0]] [false, false, false, false, false, false, true, true] (by kernel_rfl) (by kernel_rfl) (by kernel_rfl) (by kernel_rfl) (by kernel_rfl) (by rw [← HF.out]; simp) ⟨SC.mono _, SC.mono _, SR.mono _, SC.mono _, SC.mono _, SR.mono _, SB.mono _ _ _, SB.mono _ _ _, trivial⟩ ?_ ?_
 ·intro kq hkq a wx hB hp hs
  have hcase : kq = 0 ∨ kq = 1 ∨ kq = 2 ∨ kq = 3 ∨ kq = 4 ∨ kq = 5 ∨ kq = 6 ∨ kq = 7 := by omega
  rcases hcase with rfl | rfl | rfl | rfl | rfl | rfl | rfl | rfl
  ·exact ⟨_, rfl, ld_Vec rfl ((hs 2 rfl).trans ev2) (k2.below hB) rfl rfl rfl rfl rfl rfl rfl rfl⟩
  ·exact ⟨_, rfl, ld_Vec rfl ((hs 2 rfl).trans ev2) (k2.below hB) rfl rfl rfl rfl rfl rfl rfl rfl⟩
  ·obtain ⟨k6, k7, -⟩ := hp
   exact ⟨_, rfl, Does.rr (f := 29) (call2 rfl (fun _ => by simp [go_sem]) k6 k7) (vdot_any (j) (j) a0 a1 a2 a3 a4 a5 a6 a7 a0 a1 a2 a3 a4 a5 a6 a7 (v) (v) wx (kf.out.kp (.of hB)) (kf.out.kp (.of hB)) Hba.out Hba.out (by omega))⟩
  ·exact ⟨_, rfl, ld_Vec rfl ((hs 3 rfl).trans ev3) (k3.below hB) rfl rfl rfl rfl rfl rfl rfl rfl⟩
  ·exact ⟨_, rfl, ld_Vec rfl ((hs 3 rfl).trans ev3) (k3.below hB) rfl rfl rfl rfl rfl rfl rfl rfl⟩
  ·obtain ⟨k6, k7, -⟩ := hp
   exact ⟨_, rfl, Does.rr (f := 29) (call2 rfl (fun _ => by simp [go_sem]) k6 k7) (vdot_any (k) (k) b0 b1 b2 b3 b4 b5 b6 b7 b0 b1 b2 b3 b4 b5 b6 b7 (u) (u) wx (kg.out.kp (.of hB)) (kg.out.kp (.of hB)) Hbb.out Hbb.out (by omega))⟩
  ·clear hp
   exact ⟨_, rfl, Does.box (by simp [execOp, go_sem]) hB⟩
  ·clear hp
   exact ⟨_, rfl, Does.box (by simp [execOp, go_sem]) hB⟩
 ·intro val wx hB hsp hdis
  obtain ⟨n0, n1, n2, n3, e2, h_n⟩ := hsp 2 (by omega)
  replace e2 : val 2 = .agg #[n0, n1, n2, n3] := e2
  obtain ⟨m0, m1, m2, m3, e5, h_m⟩ := hsp 5 (by omega)
  replace e5 : val 5 = .agg #[m0, m1, m2, m3] := e5
  obtain ⟨g18_6, e6, hg18_6, hbx18_6⟩ := hsp 6 (by omega)
  have hgw18_6 : w.heap.size ≤ g18_6 := Nat.le_trans k5.out.size hg18_6
  have hgl18_6 := hbx18_6.lt
  obtain ⟨g18_7, e7, hg18_7, hbx18_7⟩ := hsp 7 (by omega)
  have hgw18_7 : w.heap.size ≤ g18_7 := Nat.le_trans k5.out.size hg18_7
  have hgl18_7 := hbx18_7.lt
  have hne18_6_7 : g18_6 ≠ g18_7 := by
   have h := hdis 6 7 (by omega) (by omega) (by omega) rfl rfl
   rw [e6, e7] at h
   intro hh
   exact h (by rw [hh])
  rw [← HF.out]
  change wpList _ _ _ [_, _] _ _
  simp only [puts, vals, List.map_cons, List.map_nil, List.foldl_cons, List.foldl_nil, if_true, Nat.zero_add, Nat.reduceAdd, e2, e5, e6, e7, List.setIfInBounds_toArray, List.set_cons_succ, List.set_cons_zero]
  clear hsp hdis HF e2 e5 e6 e7
  clear ev2 ev3
  obtain ⟨w19, rfl⟩ : ∃ W : World, W = wx := ⟨_, rfl⟩
  have kD := k2.below hB
  have kE := k3.below hB
  have kF := ke.below hB
  have kG := Lib.hid (Blw k5.out hB)
  have kH := Lib.hid h_n
  obtain ⟨o_n0, o_n1, o_n2, o_n3⟩ := h_n.ones
  clear h_n
  have kI := Lib.hid h_m
  obtain ⟨o_m0, o_m1, o_m2, o_m3⟩ := h_m.ones
  clear h_m
  clear hB
  obtain ⟨k04, k05, k06, k07, k08, l33⟩ := hbx18_6.f4
  obtain ⟨k0a, k0b, k0c, k0d, k0e, l39⟩ := hbx18_7.f4
  go_upto_region 2 with fail
  have k8 := (hbx18_6).set_ 0 (n0)
  have k9 := (k8).set_ 1 (n1)
  have ka := (k9).set_ 2 (n2)
  have kh := (ka).set_ 3 (n3)
  have kb := (((((hbx18_7).far_ (g' := g18_6) (j := 0) (by omega) (n0)).far_ (g' := g18_6) (j := 1) (by omega) (n1)).far_ (g' := g18_6) (j := 2) (by omega) (n2)).far_ (g' := g18_6) (j := 3) (by omega) (n3)).set_ 0 (m0)
  have kc := (kb).set_ 1 (m1)
  have kd := (kc).set_ 2 (m2)
  have ki := (kd).set_ 3 (m3)
  have hkp : Kp w19 ((((((((w19.setCell ⟨g18_6, 0, none⟩ (n0)).setCell ⟨g18_6, 1, none⟩ (n1)).setCell ⟨g18_6, 2, none⟩ (n2)).setCell ⟨g18_6, 3, none⟩ (n3)).setCell ⟨g18_7, 0, none⟩ (m0)).setCell ⟨g18_7, 1, none⟩ (m1)).setCell ⟨g18_7, 2, none⟩ (m2)).setCell ⟨g18_7, 3, none⟩ (m3)) := ((((((((Kp.refl _).set_ (hbx18_6) (by decide) _).set_ (k8) (by decide) _).set_ (k9) (by decide) _).set_ (ka) (by decide) _).set_ (((((hbx18_7).far_ (g' := g18_6) (j := 0) (by omega) (n0)).far_ (g' := g18_6) (j := 1) (by omega) (n1)).far_ (g' := g18_6) (j := 2) (by omega) (n2)).far_ (g' := g18_6) (j := 3) (by omega) (n3)) (by decide) _).set_ (kb) (by decide) _).set_ (kc) (by decide) _).set_ (kd) (by decide) _
  obtain ⟨W48, hW⟩ : ∃ W, W = (((((((w19.setCell ⟨g18_6, 0, none⟩ (n0)).setCell ⟨g18_6, 1, none⟩ (n1)).setCell ⟨g18_6, 2, none⟩ (n2)).setCell ⟨g18_6, 3, none⟩ (n3)).setCell ⟨g18_7, 0, none⟩ (m0)).setCell ⟨g18_7, 1, none⟩ (m1)).setCell ⟨g18_7, 2, none⟩ (m2)).setCell ⟨g18_7, 3, none⟩ (m3) := ⟨_, rfl⟩
  rw [← hW]
  rw [← hW] at hkp
  have hB : Below w.heap.size w W48 := by rw [hW]; exact bel4 (bel4 (kG.out) (by first | simp | omega)) (by first | simp | omega)
  have kJ := Lib.hid hB; clear hB
  have kK := Lib.hid (kH.out.kp hkp)
  have kL := Lib.hid (kI.out.kp hkp)
  have kj : Bx W48 (w.heap.size) 28 [a0, a1, a2, a3, a4, a5, a6, a7] := by rw [hW]; exact ((((((((kD).far_ (g' := g18_6) (j := 0) (by omega) (n0)).far_ (g' := g18_6) (j := 1) (by omega) (n1)).far_ (g' := g18_6) (j := 2) (by omega) (n2)).far_ (g' := g18_6) (j := 3) (by omega) (n3)).far_ (g' := g18_7) (j := 0) (by omega) (m0)).far_ (g' := g18_7) (j := 1) (by omega) (m1)).far_ (g' := g18_7) (j := 2) (by omega) (m2)).far_ (g' := g18_7) (j := 3) (by omega) (m3)
  have kk : Bx W48 (w.heap.size + 1) 28 [b0, b1, b2, b3, b4, b5, b6, b7] := by rw [hW]; exact ((((((((kE).far_ (g' := g18_6) (j := 0) (by omega) (n0)).far_ (g' := g18_6) (j := 1) (by omega) (n1)).far_ (g' := g18_6) (j := 2) (by omega) (n2)).far_ (g' := g18_6) (j := 3) (by omega) (n3)).far_ (g' := g18_7) (j := 0) (by omega) (m0)).far_ (g' := g18_7) (j := 1) (by omega) (m1)).far_ (g' := g18_7) (j := 2) (by omega) (m2)).far_ (g' := g18_7) (j := 3) (by omega) (m3)
  have kl : Bx W48 (w.heap.size + 1 + 1) 31 [.bool false, .slice none 0 0, .bool false, .slice none 0 0, .bool false, .slice none 0 0, .bool false, .slice none 0 0] := by rw [hW]; exact ((((((((kF).far_ (g' := g18_6) (j := 0) (by omega) (n0)).far_ (g' := g18_6) (j := 1) (by omega) (n1)).far_ (g' := g18_6) (j := 2) (by omega) (n2)).far_ (g' := g18_6) (j := 3) (by omega) (n3)).far_ (g' := g18_7) (j := 0) (by omega) (m0)).far_ (g' := g18_7) (j := 1) (by omega) (m1)).far_ (g' := g18_7) (j := 2) (by omega) (m2)).far_ (g' := g18_7) (j := 3) (by omega) (m3)
  have km : Bx W48 (g18_6) 26 [n0, n1, n2, n3] := by rw [hW]; exact ((((kh).far_ (g' := g18_7) (j := 0) (by omega) (m0)).far_ (g' := g18_7) (j := 1) (by omega) (m1)).far_ (g' := g18_7) (j := 2) (by omega) (m2)).far_ (g' := g18_7) (j := 3) (by omega) (m3)
  have kn : Bx W48 (g18_7) 26 [m0, m1, m2, m3] := by rw [hW]; exact ki
  clear hW hkp k8 k9 ka kh kb kc kd ki
  obtain ⟨k0g, k0h, k0i, k0j, k0k, k0l, k0m, k0n, k0o, l68⟩ := kj.f8
  obtain ⟨k0q, k0r, k0s, k0t, k0u, k0v, k0w, k0x, k0y, l78⟩ := kk.f8
  obtain ⟨k0A, k0B, k0C, k0D, k0E, k0F, k0G, k0H, k0I, l88⟩ := kl.f8
  obtain ⟨k0K, k0L, k0M, k0N, k0O, l94⟩ := km.f4
  obtain ⟨k0Q, k0R, k0S, k0T, k0U, k0V⟩ := kn.f4
  go_wp2_with fail
  have ko := rsign_any n0 n1 n2 n3 (vdot v v) W48 kK.out
  (with_reducible refine ko.mono ?_)
  clear ko
  rintro e w101 ⟨rfl, k0⟩
  have kr := kj.below k0
  have ks := kk.below k0
  have kt := kl.below k0
  have ku := km.below k0
  have kv := kn.below k0
  have kM := Lib.hid (kL.out.kp (.of k0))
  have kN := Lib.hid (Blw kJ.out k0)
  clear k0
  obtain ⟨k0W, k0X, k0Y, k0Z, k10, k11, k12, k13, k14, k15⟩ := kr.f8
  obtain ⟨k16, k17, k18, k19, k1a, k1b, k1c, k1d, k1e, k1f⟩ := ks.f8
  obtain ⟨k1g, k1h, k1i, k1j, k1k, k1l, k1m, k1n, k1o, k1p⟩ := kt.f8
  obtain ⟨k1q, k1r, k1s, k1t, k1u, k1v⟩ := ku.f4
  obtain ⟨k1w, k1x, k1y, k1z, k1A, k1B⟩ := kv.f4
  go_wp2_with fail
  have kw := rsign_any m0 m1 m2 m3 (vdot u u) w101 kM.out
  (with_reducible refine kw.mono ?_)
  clear kw
  rintro e w155 ⟨rfl, k1⟩
  have kO := kr.below k1
  have kP := ks.below k1
  have kx := kt.below k1
  have kQ := ku.below k1
  have kR := kv.below k1
  have kS := Lib.hid (Blw kN.out k1)
  clear k1
  obtain ⟨k1C, k1D, k1E, k1F, k1G, k1H, k1I, k1J, k1K, k1L⟩ := kO.f8
  obtain ⟨k1M, k1N, k1O, k1P, k1Q, k1R, k1S, k1T, k1U, k1V⟩ := kP.f8
  obtain ⟨kT, kU, kV, kW, kX, kY, kZ, k00, k1W, k1X⟩ := kx.f8
  obtain ⟨k1Y, k1Z, k20, k21, k22, k23⟩ := kQ.f4
  obtain ⟨k24, k25, k26, k27, k28, k29⟩ := kR.f4
  go_wp2
  have hkp := (Kp.refl w155).t8 (kx) (.bool false) (.slice none 0 0) (.bool false) (.slice none 0 0) (.bool false) (.slice none 0 0) (.bool false) (.slice none 0 0)
  refine bodyPost_ret (v := .tuple #[.agg #[.bool false, .slice none 0 0, .bool false, .slice none 0 0, .bool false, .slice none 0 0, .bool false, .slice none 0 0], .int .i64 1]) (by simp [results, Try.results10, go_sem, kT, kU, kV, kW, kX, kY, kZ, k00]) rfl ⟨_, _, _, _, _, _, _, _, rfl, ?_, bel8 (kS.out) (by first | simp | omega)⟩
  exact VecV.zero _
set_option maxRecDepth 100000 in
theorem valn_2 (j k : Nat) (a0 a1 a2 a3 a4 a5 a6 a7 b0 b1 b2 b3 b4 b5 b6 b7 : Value) (v : Rat × Rat) (u : Rat × Rat) (w : World) (ha : VecV w a0 a1 a2 a3 a4 a5 a6 a7 v) (hb : VecV w b0 b1 b2 b3 b4 b5 b6 b7 u) (ba : Bv j v) (bb : Bv k u) (hz : vdot v v ≠ 0) (hy : vdot u u ≠ 0) (hd : vdot v v ≠ vdot u u) (hk : 40 * (j + k) + 100 ≤ 800000000000) :
  Calls Try.prog 10 #[.agg #[a0, a1, a2, a3, a4, a5, a6, a7], .agg #[b0, b1, b2, b3, b4, b5, b6, b7]] w (RTE (0, 0) 21 w) := by
 obtain ⟨qa0, qa1, qa2, qa3, qa4, qa5, qa6, qa7⟩ := ha.ones
 obtain ⟨qb0, qb1, qb2, qb3, qb4, qb5, qb6, qb7⟩ := hb.ones
 have Hha := Lib.hid ha; have Hhb := Lib.hid hb; have Hba := Lib.hid ba; have Hbb := Lib.hid bb
 clear ha hb ba bb
 have hs1 := sgn_ne hz
 have hs2 := sgn_ne hy
 have HHZ := Lib.hid hz
 have HHY := Lib.hid hy
 have HHD := Lib.hid hd
 clear hz hy hd
 go_enter Try.func10, Try.ntmps10
 go_upto_region 1 with fail
 generalize hW : ((w.alloc _).alloc _).alloc _ = W1
 obtain ⟨kH, kI, kJ, hB⟩ := box3 hW
 have k5 := Lib.hid hB; clear hW hB
 have F6 := Lib.hid (Hha.out.kp (.of k5.out))
 have F7 := Lib.hid (Hhb.out.kp (.of k5.out))
 go_upto_region 1 with fail
 generalize hW : W1.drew = W8
 have hB : Below W1.heap.size W1 W8 := by rw [← hW]; exact (Below.refl _ _).drew
 have k3 := kH.below hB
 have k4 := kI.below hB
 have kf := kJ.below hB
 have kg := Lib.hid (F6.out.kp (.of hB))
 have kh := Lib.hid (F7.out.kp (.of hB))
 have k6 := Lib.hid (Blw k5.out hB)
 clear hB
 have l15 := k3.lt
 have l16 := k4.lt
 have l17 := kf.lt
 generalize hF : ({ tmps := _, defers := _ } : Act) = F
 have ev2 : F.eval (.tmp 2) = .pointer (some ⟨w.heap.size, 0, none⟩) := by rw [← hF]; rfl
 have ev3 : F.eval (.tmp 3) = .pointer (some ⟨w.heap.size + 1, 0, none⟩) := by rw [← hF]; rfl
 have HF := Lib.hid hF; clear hF
 refine wp_flow_tab true hW 8 [(8, []), (9, []), (10, [0, 1]), (11, []), (12, []), (13, [3, 4]), (6, []), (7, [])] [SC (.agg #[a0, a1, a2, a3, a4, a5, a6, a7]), SC (.agg #[a0, a1, a2, a3, a4, a5, a6, a7]), SR (vdot v v), SC (.agg #[b0, b1, b2, b3, b4, b5, b6, b7]), SC (.agg #[b0, b1, b2, b3, b4, b5, b6, b7]), SR (vdot u u), SB W8 26 [.bool false, .slice none 0 0, .bool false, .slice none 0 0], SB W8 26 [.bool false, .slice none 0 0, .bool false, .slice none 0 0]] [false, false, false, false, false, false, true, true] (by kernel_rfl) (by kernel_rfl) (by kernel_rfl) (by kernel_rfl) (by kernel_rfl) (by rw [← HF.out]; simp) ⟨SC.mono _, SC.mono _, SR.mono _, SC.mono _, SC.mono _, SR.mono _, SB.mono _ _ _, SB.mono _ _ _, trivial⟩ ?_ ?_
 ·intro kq hkq a wx hB hp hs
  have hcase : kq = 0 ∨ kq = 1 ∨ kq = 2 ∨ kq = 3 ∨ kq = 4 ∨ kq = 5 ∨ kq = 6 ∨ kq = 7 := by omega
  rcases hcase with rfl | rfl | rfl | rfl | rfl | rfl | rfl | rfl
  ·exact ⟨_, rfl, ld_Vec rfl ((hs 2 rfl).trans ev2) (k3.below hB) rfl rfl rfl rfl rfl rfl rfl rfl⟩
  ·exact ⟨_, rfl, ld_Vec rfl ((hs 2 rfl).trans ev2) (k3.below hB) rfl rfl rfl rfl rfl rfl rfl rfl⟩
  ·obtain ⟨k7, k8, -⟩ := hp
   exact ⟨_, rfl, Does.rr (f := 29) (call2 rfl (fun _ => by simp [go_sem]) k7 k8) (vdot_any (j) (j) a0 a1 a2 a3 a4 a5 a6 a7 a0 a1 a2 a3 a4 a5 a6 a7 (v) (v) wx (kg.out.kp (.of hB)) (kg.out.kp (.of hB)) Hba.out Hba.out (by omega))⟩
  ·exact ⟨_, rfl, ld_Vec rfl ((hs 3 rfl).trans ev3) (k4.below hB) rfl rfl rfl rfl rfl rfl rfl rfl⟩
  ·exact ⟨_, rfl, ld_Vec rfl ((hs 3 rfl).trans ev3) (k4.below hB) rfl rfl rfl rfl rfl rfl rfl rfl⟩
  ·obtain ⟨k7, k8, -⟩ := hp
   exact ⟨_, rfl, Does.rr (f := 29) (call2 rfl (fun _ => by simp [go_sem]) k7 k8) (vdot_any (k) (k) b0 b1 b2 b3 b4 b5 b6 b7 b0 b1 b2 b3 b4 b5 b6 b7 (u) (u) wx (kh.out.kp (.of hB)) (kh.out.kp (.of hB)) Hbb.out Hbb.out (by omega))⟩
  ·clear hp
   exact ⟨_, rfl, Does.box (by simp [execOp, go_sem]) hB⟩
  ·clear hp
   exact ⟨_, rfl, Does.box (by simp [execOp, go_sem]) hB⟩
 ·intro val wx hB hsp hdis
  obtain ⟨n0, n1, n2, n3, e2, h_n⟩ := hsp 2 (by omega)
  replace e2 : val 2 = .agg #[n0, n1, n2, n3] := e2
  obtain ⟨m0, m1, m2, m3, e5, h_m⟩ := hsp 5 (by omega)
  replace e5 : val 5 = .agg #[m0, m1, m2, m3] := e5
  obtain ⟨g18_6, e6, hg18_6, hbx18_6⟩ := hsp 6 (by omega)
  have hgw18_6 : w.heap.size ≤ g18_6 := Nat.le_trans k6.out.size hg18_6
  have hgl18_6 := hbx18_6.lt
  obtain ⟨g18_7, e7, hg18_7, hbx18_7⟩ := hsp 7 (by omega)
  have hgw18_7 : w.heap.size ≤ g18_7 := Nat.le_trans k6.out.size hg18_7
  have hgl18_7 := hbx18_7.lt
  have hne18_6_7 : g18_6 ≠ g18_7 := by
   have h := hdis 6 7 (by omega) (by omega) (by omega) rfl rfl
   rw [e6, e7] at h
   intro hh
   exact h (by rw [hh])
  rw [← HF.out]
  change wpList _ _ _ [_, _] _ _
  simp only [puts, vals, List.map_cons, List.map_nil, List.foldl_cons, List.foldl_nil, if_true, Nat.zero_add, Nat.reduceAdd, e2, e5, e6, e7, List.setIfInBounds_toArray, List.set_cons_succ, List.set_cons_zero]
  clear hsp hdis HF e2 e5 e6 e7
  clear ev2 ev3
  obtain ⟨w19, rfl⟩ : ∃ W : World, W = wx := ⟨_, rfl⟩
  have kM := k3.below hB
  have kN := k4.below hB
  have kO := kf.below hB
  have kP := Lib.hid (Blw k6.out hB)
  have kQ := Lib.hid h_n
  obtain ⟨o_n0, o_n1, o_n2, o_n3⟩ := h_n.ones
  clear h_n
  have kR := Lib.hid h_m
  obtain ⟨o_m0, o_m1, o_m2, o_m3⟩ := h_m.ones
  clear h_m
  clear hB
  obtain ⟨k0f, k0g, k0h, k0i, k0j, l33⟩ := hbx18_6.f4
  obtain ⟨k0l, k0m, k0n, k0o, k0p, l39⟩ := hbx18_7.f4
  go_upto_region 2 with fail
  have k9 := (hbx18_6).set_ 0 (n0)
  have ka := (k9).set_ 1 (n1)
  have kb := (ka).set_ 2 (n2)
  have ki := (kb).set_ 3 (n3)
  have kc := (((((hbx18_7).far_ (g' := g18_6) (j := 0) (by omega) (n0)).far_ (g' := g18_6) (j := 1) (by omega) (n1)).far_ (g' := g18_6) (j := 2) (by omega) (n2)).far_ (g' := g18_6) (j := 3) (by omega) (n3)).set_ 0 (m0)
  have kd := (kc).set_ 1 (m1)
  have ke := (kd).set_ 2 (m2)
  have kj := (ke).set_ 3 (m3)
  have hkp : Kp w19 ((((((((w19.setCell ⟨g18_6, 0, none⟩ (n0)).setCell ⟨g18_6, 1, none⟩ (n1)).setCell ⟨g18_6, 2, none⟩ (n2)).setCell ⟨g18_6, 3, none⟩ (n3)).setCell ⟨g18_7, 0, none⟩ (m0)).setCell ⟨g18_7, 1, none⟩ (m1)).setCell ⟨g18_7, 2, none⟩ (m2)).setCell ⟨g18_7, 3, none⟩ (m3)) := ((((((((Kp.refl _).set_ (hbx18_6) (by decide) _).set_ (k9) (by decide) _).set_ (ka) (by decide) _).set_ (kb) (by decide) _).set_ (((((hbx18_7).far_ (g' := g18_6) (j := 0) (by omega) (n0)).far_ (g' := g18_6) (j := 1) (by omega) (n1)).far_ (g' := g18_6) (j := 2) (by omega) (n2)).far_ (g' := g18_6) (j := 3) (by omega) (n3)) (by decide) _).set_ (kc) (by decide) _).set_ (kd) (by decide) _).set_ (ke) (by decide) _
  obtain ⟨W48, hW⟩ : ∃ W, W = (((((((w19.setCell ⟨g18_6, 0, none⟩ (n0)).setCell ⟨g18_6, 1, none⟩ (n1)).setCell ⟨g18_6, 2, none⟩ (n2)).setCell ⟨g18_6, 3, none⟩ (n3)).setCell ⟨g18_7, 0, none⟩ (m0)).setCell ⟨g18_7, 1, none⟩ (m1)).setCell ⟨g18_7, 2, none⟩ (m2)).setCell ⟨g18_7, 3, none⟩ (m3) := ⟨_, rfl⟩
  rw [← hW]
  rw [← hW] at hkp
  have hB : Below w.heap.size w W48 := by rw [hW]; exact bel4 (bel4 (kP.out) (by first | simp | omega)) (by first | simp | omega)
  have kS := Lib.hid hB; clear hB
  have kk := Lib.hid (kQ.out.kp hkp)
  have kT := Lib.hid (kR.out.kp hkp)
  have kl : Bx W48 (w.heap.size) 28 [a0, a1, a2, a3, a4, a5, a6, a7] := by rw [hW]; exact ((((((((kM).far_ (g' := g18_6) (j := 0) (by omega) (n0)).far_ (g' := g18_6) (j := 1) (by omega) (n1)).far_ (g' := g18_6) (j := 2) (by omega) (n2)).far_ (g' := g18_6) (j := 3) (by omega) (n3)).far_ (g' := g18_7) (j := 0) (by omega) (m0)).far_ (g' := g18_7) (j := 1) (by omega) (m1)).far_ (g' := g18_7) (j := 2) (by omega) (m2)).far_ (g' := g18_7) (j := 3) (by omega) (m3)
  have km : Bx W48 (w.heap.size + 1) 28 [b0, b1, b2, b3, b4, b5, b6, b7] := by rw [hW]; exact ((((((((kN).far_ (g' := g18_6) (j := 0) (by omega) (n0)).far_ (g' := g18_6) (j := 1) (by omega) (n1)).far_ (g' := g18_6) (j := 2) (by omega) (n2)).far_ (g' := g18_6) (j := 3) (by omega) (n3)).far_ (g' := g18_7) (j := 0) (by omega) (m0)).far_ (g' := g18_7) (j := 1) (by omega) (m1)).far_ (g' := g18_7) (j := 2) (by omega) (m2)).far_ (g' := g18_7) (j := 3) (by omega) (m3)
  have kn : Bx W48 (w.heap.size + 1 + 1) 31 [.bool false, .slice none 0 0, .bool false, .slice none 0 0, .bool false, .slice none 0 0, .bool false, .slice none 0 0] := by rw [hW]; exact ((((((((kO).far_ (g' := g18_6) (j := 0) (by omega) (n0)).far_ (g' := g18_6) (j := 1) (by omega) (n1)).far_ (g' := g18_6) (j := 2) (by omega) (n2)).far_ (g' := g18_6) (j := 3) (by omega) (n3)).far_ (g' := g18_7) (j := 0) (by omega) (m0)).far_ (g' := g18_7) (j := 1) (by omega) (m1)).far_ (g' := g18_7) (j := 2) (by omega) (m2)).far_ (g' := g18_7) (j := 3) (by omega) (m3)
  have ko : Bx W48 (g18_6) 26 [n0, n1, n2, n3] := by rw [hW]; exact ((((ki).far_ (g' := g18_7) (j := 0) (by omega) (m0)).far_ (g' := g18_7) (j := 1) (by omega) (m1)).far_ (g' := g18_7) (j := 2) (by omega) (m2)).far_ (g' := g18_7) (j := 3) (by omega) (m3)
  have kr : Bx W48 (g18_7) 26 [m0, m1, m2, m3] := by rw [hW]; exact kj
  clear hW hkp k9 ka kb ki kc kd ke kj
  obtain ⟨k0r, k0s, k0t, k0u, k0v, k0w, k0x, k0y, k0z, l68⟩ := kl.f8
  obtain ⟨k0B, k0C, k0D, k0E, k0F, k0G, k0H, k0I, k0J, l78⟩ := km.f8
  obtain ⟨k0L, k0M, k0N, k0O, k0P, k0Q, k0R, k0S, k0T, l88⟩ := kn.f8
  obtain ⟨k0V, k0W, k0X, k0Y, k0Z, l94⟩ := ko.f4
  obtain ⟨k11, k12, k13, k14, k15, k16⟩ := kr.f4
  go_wp2_with fail
  have ks := rsign_any n0 n1 n2 n3 (vdot v v) W48 kk.out
  (with_reducible refine ks.mono ?_)
  clear ks
  rintro e w101 ⟨rfl, k0⟩
  have kt := kl.below k0
  have ku := km.below k0
  have kv := kn.below k0
  have kw := ko.below k0
  have kx := kr.below k0
  have kU := Lib.hid (kk.out.kp (.of k0))
  have ky := Lib.hid (kT.out.kp (.of k0))
  have kV := Lib.hid (Blw kS.out k0)
  clear k0
  obtain ⟨k17, k18, k19, k1a, k1b, k1c, k1d, k1e, k1f, k1g⟩ := kt.f8
  obtain ⟨k1h, k1i, k1j, k1k, k1l, k1m, k1n, k1o, k1p, k1q⟩ := ku.f8
  obtain ⟨k1r, k1s, k1t, k1u, k1v, k1w, k1x, k1y, k1z, k1A⟩ := kv.f8
  obtain ⟨k1B, k1C, k1D, k1E, k1F, k1G⟩ := kw.f4
  obtain ⟨k1H, k1I, k1J, k1K, k1L, k1M⟩ := kx.f4
  go_wp2_with fail
  have kz := rsign_any m0 m1 m2 m3 (vdot u u) w101 ky.out
  (with_reducible refine kz.mono ?_)
  clear kz
  rintro e w155 ⟨rfl, k1⟩
  have kA := kt.below k1
  have kB := ku.below k1
  have kC := kv.below k1
  have kD := kw.below k1
  have kE := kx.below k1
  have kW := Lib.hid (kU.out.kp (.of k1))
  have kX := Lib.hid (ky.out.kp (.of k1))
  have kY := Lib.hid (Blw kV.out k1)
  clear k1
  obtain ⟨k1N, k1O, k1P, k1Q, k1R, k1S, k1T, k1U, k1V, k1W⟩ := kA.f8
  obtain ⟨k1X, k1Y, k1Z, k20, k21, k22, k23, k24, k25, k26⟩ := kB.f8
  obtain ⟨k27, k28, k29, k2a, k2b, k2c, k2d, k2e, k2f, k2g⟩ := kC.f8
  obtain ⟨k2h, k2i, k2j, k2k, k2l, k2m⟩ := kD.f4
  obtain ⟨k2n, k2o, k2p, k2q, k2r, k2s⟩ := kE.f4
  go_wp2_with fail
  have kF := rsame_any n0 n1 n2 n3 m0 m1 m2 m3 (vdot v v) (vdot u u) w155 kW.out kX.out false (decide_eq_false HHD.out).symm
  (with_reducible refine kF.mono ?_)
  clear kF
  rintro e w209 ⟨rfl, k2⟩
  have kZ := kA.below k2
  have k00 := kB.below k2
  have kG := kC.below k2
  have k01 := kD.below k2
  have k02 := kE.below k2
  have k03 := Lib.hid (Blw kY.out k2)
  clear k2
  obtain ⟨k2t, k2u, k2v, k2w, k2x, k2y, k2z, k2A, k2B, k2C⟩ := kZ.f8
  obtain ⟨k2D, k2E, k2F, k2G, k2H, k2I, k2J, k2K, k2L, k2M⟩ := k00.f8
  obtain ⟨k04, k05, k06, k07, k08, k09, k0a, k0b, k2N, k2O⟩ := kG.f8
  obtain ⟨k2P, k2Q, k2R, k2S, k2T, k2U⟩ := k01.f4
  obtain ⟨k2V, k2W, k2X, k2Y, k2Z, k30⟩ := k02.f4
  go_wp2
  have hkp := (Kp.refl w209).t8 (kG) (.bool false) (.slice none 0 0) (.bool false) (.slice none 0 0) (.bool false) (.slice none 0 0) (.bool false) (.slice none 0 0)
  refine bodyPost_ret (v := .tuple #[.agg #[.bool false, .slice none 0 0, .bool false, .slice none 0 0, .bool false, .slice none 0 0, .bool false, .slice none 0 0], .int .i64 21]) (by simp [results, Try.results10, go_sem, k04, k05, k06, k07, k08, k09, k0a, k0b]) rfl ⟨_, _, _, _, _, _, _, _, rfl, ?_, bel8 (k03.out) (by first | simp | omega)⟩
  exact VecV.zero _
set_option maxRecDepth 100000 in
theorem valn_3 (j k : Nat) (a0 a1 a2 a3 a4 a5 a6 a7 b0 b1 b2 b3 b4 b5 b6 b7 : Value) (v : Rat × Rat) (u : Rat × Rat) (w : World) (ha : VecV w a0 a1 a2 a3 a4 a5 a6 a7 v) (hb : VecV w b0 b1 b2 b3 b4 b5 b6 b7 u) (ba : Bv j v) (bb : Bv k u) (hz : vdot v v ≠ 0) (hy : vdot u u ≠ 0) (hd : vdot v v = vdot u u) (hk : 40 * (j + k) + 100 ≤ 800000000000) :
  Calls Try.prog 10 #[.agg #[a0, a1, a2, a3, a4, a5, a6, a7], .agg #[b0, b1, b2, b3, b4, b5, b6, b7]] w (RTE (vdot v u / vdot v v, vcrs v u / vdot v v) 0 w) := by
 obtain ⟨qa0, qa1, qa2, qa3, qa4, qa5, qa6, qa7⟩ := ha.ones
 obtain ⟨qb0, qb1, qb2, qb3, qb4, qb5, qb6, qb7⟩ := hb.ones
 have Hha := Lib.hid ha; have Hhb := Lib.hid hb; have Hba := Lib.hid ba; have Hbb := Lib.hid bb
 clear ha hb ba bb
 have hs1 := sgn_ne hz
 have hs2 := sgn_ne hy
 have HHZ := Lib.hid hz
 have HHY := Lib.hid hy
 have HHD := Lib.hid hd
 clear hz hy hd
 go_enter Try.func10, Try.ntmps10
 go_upto_region 1 with fail
 generalize hW : ((w.alloc _).alloc _).alloc _ = W1
 obtain ⟨kR, kS, kT, hB⟩ := box3 hW
 have k7 := Lib.hid hB; clear hW hB
 have F6 := Lib.hid (Hha.out.kp (.of k7.out))
 have F7 := Lib.hid (Hhb.out.kp (.of k7.out))
 go_upto_region 1 with fail
 generalize hW : W1.drew = W8
 have hB : Below W1.heap.size W1 W8 := by rw [← hW]; exact (Below.refl _ _).drew
 have k5 := kR.below hB
 have k6 := kS.below hB
 have kh := kT.below hB
 have k8 := Lib.hid (F6.out.kp (.of hB))
 have k9 := Lib.hid (F7.out.kp (.of hB))
 have ka := Lib.hid (Blw k7.out hB)
 clear hB
 have l15 := k5.lt
 have l16 := k6.lt
 have l17 := kh.lt
 generalize hF : ({ tmps := _, defers := _ } : Act) = F
 have ev2 : F.eval (.tmp 2) = .pointer (some ⟨w.heap.size, 0, none⟩) := by rw [← hF]; rfl
 have ev3 : F.eval (.tmp 3) = .pointer (some ⟨w.heap.size + 1, 0, none⟩) := by rw [← hF]; rfl
 have HF := Lib.hid hF; clear hF
 refine wp_flow_tab true hW 8 [(8, []), (9, []), (10, [0, 1]), (11, []), (12, []), (13, [3, 4]), (6, []), (7, [])] [SC (.agg #[a0, a1, a2, a3, a4, a5, a6, a7]), SC (.agg #[a0, a1, a2, a3, a4, a5, a6, a7]), SR (vdot v v), SC (.agg #[b0, b1, b2, b3, b4, b5, b6, b7]), SC (.agg #[b0, b1, b2, b3, b4, b5, b6, b7]), SR (vdot u u), SB W8 26 [.bool false, .slice none 0 0, .bool false, .slice none 0 0], SB W8 26 [.bool false, .slice none 0 0, .bool false, .slice none 0 0]] [false, false, false, false, false, false, true, true] (by kernel_rfl) (by kernel_rfl) (by kernel_rfl) (by kernel_rfl) (by kernel_rfl) (by rw [← HF.out]; simp) ⟨SC.mono _, SC.mono _, SR.mono _, SC.mono _, SC.mono _, SR.mono _, SB.mono _ _ _, SB.mono _ _ _, trivial⟩ ?_ ?_
 ·intro kq hkq a wx hB hp hs
  have hcase : kq = 0 ∨ kq = 1 ∨ kq = 2 ∨ kq = 3 ∨ kq = 4 ∨ kq = 5 ∨ kq = 6 ∨ kq = 7 := by omega
  rcases hcase with rfl | rfl | rfl | rfl | rfl | rfl | rfl | rfl
  ·exact ⟨_, rfl, ld_Vec rfl ((hs 2 rfl).trans ev2) (k5.below hB) rfl rfl rfl rfl rfl rfl rfl rfl⟩
  ·exact ⟨_, rfl, ld_Vec rfl ((hs 2 rfl).trans ev2) (k5.below hB) rfl rfl rfl rfl rfl rfl rfl rfl⟩
  ·obtain ⟨k0, k1, -⟩ := hp
   exact ⟨_, rfl, Does.rr (f := 29) (call2 rfl (fun _ => by simp [go_sem]) k0 k1) (vdot_any (j) (j) a0 a1 a2 a3 a4 a5 a6 a7 a0 a1 a2 a3 a4 a5 a6 a7 (v) (v) wx (k8.out.kp (.of hB)) (k8.out.kp (.of hB)) Hba.out Hba.out (by omega))⟩
  ·exact ⟨_, rfl, ld_Vec rfl ((hs 3 rfl).trans ev3) (k6.below hB) rfl rfl rfl rfl rfl rfl rfl rfl⟩
  ·exact ⟨_, rfl, ld_Vec rfl ((hs 3 rfl).trans ev3) (k6.below hB) rfl rfl rfl rfl rfl rfl rfl rfl⟩
  ·obtain ⟨k0, k1, -⟩ := hp
   exact ⟨_, rfl, Does.rr (f := 29) (call2 rfl (fun _ => by simp [go_sem]) k0 k1) (vdot_any (k) (k) b0 b1 b2 b3 b4 b5 b6 b7 b0 b1 b2 b3 b4 b5 b6 b7 (u) (u) wx (k9.out.kp (.of hB)) (k9.out.kp (.of hB)) Hbb.out Hbb.out (by omega))⟩
  ·clear hp
   exact ⟨_, rfl, Does.box (by simp [execOp, go_sem]) hB⟩
  ·clear hp
   exact ⟨_, rfl, Does.box (by simp [execOp, go_sem]) hB⟩
 ·intro val wx hB hsp hdis
  obtain ⟨n0, n1, n2, n3, e2, h_n⟩ := hsp 2 (by omega)
  replace e2 : val 2 = .agg #[n0, n1, n2, n3] := e2
  obtain ⟨m0, m1, m2, m3, e5, h_m⟩ := hsp 5 (by omega)
  replace e5 : val 5 = .agg #[m0, m1, m2, m3] := e5
  obtain ⟨g18_6, e6, hg18_6, hbx18_6⟩ := hsp 6 (by omega)
  have hgw18_6 : w.heap.size ≤ g18_6 := Nat.le_trans ka.out.size hg18_6
  have hgl18_6 := hbx18_6.lt
  obtain ⟨g18_7, e7, hg18_7, hbx18_7⟩ := hsp 7 (by omega)
  have hgw18_7 : w.heap.size ≤ g18_7 := Nat.le_trans ka.out.size hg18_7
  have hgl18_7 := hbx18_7.lt
  have hne18_6_7 : g18_6 ≠ g18_7 := by
   have h := hdis 6 7 (by omega) (by omega) (by omega) rfl rfl
   rw [e6, e7] at h
   intro hh
   exact h (by rw [hh])
  rw [← HF.out]
  change wpList _ _ _ [_, _] _ _
  simp only [puts, vals, List.map_cons, List.map_nil, List.foldl_cons, List.foldl_nil, if_true, Nat.zero_add, Nat.reduceAdd, e2, e5, e6, e7, List.setIfInBounds_toArray, List.set_cons_succ, List.set_cons_zero]
  clear hsp hdis HF e2 e5 e6 e7
  clear ev2 ev3
  obtain ⟨w19, rfl⟩ : ∃ W : World, W = wx := ⟨_, rfl⟩
  have kW := k5.below hB
  have kX := k6.below hB
  have kY := kh.below hB
  have kZ := Lib.hid (k8.out.kp (.of hB))
  have F24 := Lib.hid (k9.out.kp (.of hB))
  have k01 := Lib.hid (Blw ka.out hB)
  have F26 := Lib.hid h_n
  obtain ⟨o_n0, o_n1, o_n2, o_n3⟩ := h_n.ones
  clear h_n
  have F27 := Lib.hid h_m
  obtain ⟨o_m0, o_m1, o_m2, o_m3⟩ := h_m.ones
  clear h_m
  clear hB
  obtain ⟨k0E, k0F, k0G, k0H, k0I, l33⟩ := hbx18_6.f4
  obtain ⟨k0K, k0L, k0M, k0N, k0O, l39⟩ := hbx18_7.f4
  go_upto_region 2 with fail
  have kb := (hbx18_6).set_ 0 (n0)
  have kc := (kb).set_ 1 (n1)
  have kd := (kc).set_ 2 (n2)
  have ki := (kd).set_ 3 (n3)
  have ke := (((((hbx18_7).far_ (g' := g18_6) (j := 0) (by omega) (n0)).far_ (g' := g18_6) (j := 1) (by omega) (n1)).far_ (g' := g18_6) (j := 2) (by omega) (n2)).far_ (g' := g18_6) (j := 3) (by omega) (n3)).set_ 0 (m0)
  have kf := (ke).set_ 1 (m1)
  have kg := (kf).set_ 2 (m2)
  have kj := (kg).set_ 3 (m3)
  have hkp : Kp w19 ((((((((w19.setCell ⟨g18_6, 0, none⟩ (n0)).setCell ⟨g18_6, 1, none⟩ (n1)).setCell ⟨g18_6, 2, none⟩ (n2)).setCell ⟨g18_6, 3, none⟩ (n3)).setCell ⟨g18_7, 0, none⟩ (m0)).setCell ⟨g18_7, 1, none⟩ (m1)).setCell ⟨g18_7, 2, none⟩ (m2)).setCell ⟨g18_7, 3, none⟩ (m3)) := ((((((((Kp.refl _).set_ (hbx18_6) (by decide) _).set_ (kb) (by decide) _).set_ (kc) (by decide) _).set_ (kd) (by decide) _).set_ (((((hbx18_7).far_ (g' := g18_6) (j := 0) (by omega) (n0)).far_ (g' := g18_6) (j := 1) (by omega) (n1)).far_ (g' := g18_6) (j := 2) (by omega) (n2)).far_ (g' := g18_6) (j := 3) (by omega) (n3)) (by decide) _).set_ (ke) (by decide) _).set_ (kf) (by decide) _).set_ (kg) (by decide) _
  obtain ⟨W48, hW⟩ : ∃ W, W = (((((((w19.setCell ⟨g18_6, 0, none⟩ (n0)).setCell ⟨g18_6, 1, none⟩ (n1)).setCell ⟨g18_6, 2, none⟩ (n2)).setCell ⟨g18_6, 3, none⟩ (n3)).setCell ⟨g18_7, 0, none⟩ (m0)).setCell ⟨g18_7, 1, none⟩ (m1)).setCell ⟨g18_7, 2, none⟩ (m2)).setCell ⟨g18_7, 3, none⟩ (m3) := ⟨_, rfl⟩
  rw [← hW]
  rw [← hW] at hkp
  have hB : Below w.heap.size w W48 := by rw [hW]; exact bel4 (bel4 (k01.out) (by first | simp | omega)) (by first | simp | omega)
  have k04 := Lib.hid hB; clear hB
  have F50 := Lib.hid (kZ.out.kp hkp)
  have F51 := Lib.hid (F24.out.kp hkp)
  have kk := Lib.hid (F26.out.kp hkp)
  have F53 := Lib.hid (F27.out.kp hkp)
  have kl : Bx W48 (w.heap.size) 28 [a0, a1, a2, a3, a4, a5, a6, a7] := by rw [hW]; exact ((((((((kW).far_ (g' := g18_6) (j := 0) (by omega) (n0)).far_ (g' := g18_6) (j := 1) (by omega) (n1)).far_ (g' := g18_6) (j := 2) (by omega) (n2)).far_ (g' := g18_6) (j := 3) (by omega) (n3)).far_ (g' := g18_7) (j := 0) (by omega) (m0)).far_ (g' := g18_7) (j := 1) (by omega) (m1)).far_ (g' := g18_7) (j := 2) (by omega) (m2)).far_ (g' := g18_7) (j := 3) (by omega) (m3)
  have km : Bx W48 (w.heap.size + 1) 28 [b0, b1, b2, b3, b4, b5, b6, b7] := by rw [hW]; exact ((((((((kX).far_ (g' := g18_6) (j := 0) (by omega) (n0)).far_ (g' := g18_6) (j := 1) (by omega) (n1)).far_ (g' := g18_6) (j := 2) (by omega) (n2)).far_ (g' := g18_6) (j := 3) (by omega) (n3)).far_ (g' := g18_7) (j := 0) (by omega) (m0)).far_ (g' := g18_7) (j := 1) (by omega) (m1)).far_ (g' := g18_7) (j := 2) (by omega) (m2)).far_ (g' := g18_7) (j := 3) (by omega) (m3)
  have kn : Bx W48 (w.heap.size + 1 + 1) 31 [.bool false, .slice none 0 0, .bool false, .slice none 0 0, .bool false, .slice none 0 0, .bool false, .slice none 0 0] := by rw [hW]; exact ((((((((kY).far_ (g' := g18_6) (j := 0) (by omega) (n0)).far_ (g' := g18_6) (j := 1) (by omega) (n1)).far_ (g' := g18_6) (j := 2) (by omega) (n2)).far_ (g' := g18_6) (j := 3) (by omega) (n3)).far_ (g' := g18_7) (j := 0) (by omega) (m0)).far_ (g' := g18_7) (j := 1) (by omega) (m1)).far_ (g' := g18_7) (j := 2) (by omega) (m2)).far_ (g' := g18_7) (j := 3) (by omega) (m3)
  have ko : Bx W48 (g18_6) 26 [n0, n1, n2, n3] := by rw [hW]; exact ((((ki).far_ (g' := g18_7) (j := 0) (by omega) (m0)).far_ (g' := g18_7) (j := 1) (by omega) (m1)).far_ (g' := g18_7) (j := 2) (by omega) (m2)).far_ (g' := g18_7) (j := 3) (by omega) (m3)
  have kr : Bx W48 (g18_7) 26 [m0, m1, m2, m3] := by rw [hW]; exact kj
  clear hW hkp kb kc kd ki ke kf kg kj
  obtain ⟨k0Q, k0R, k0S, k0T, k0U, k0V, k0W, k0X, k0Y, l68⟩ := kl.f8
  obtain ⟨k10, k11, k12, k13, k14, k15, k16, k17, k18, l78⟩ := km.f8
  obtain ⟨k1a, k1b, k1c, k1d, k1e, k1f, k1g, k1h, k1i, l88⟩ := kn.f8
  obtain ⟨k1k, k1l, k1m, k1n, k1o, l94⟩ := ko.f4
  obtain ⟨k1q, k1r, k1s, k1t, k1u, k1v⟩ := kr.f4
  go_wp2_with fail
  have ks := rsign_any n0 n1 n2 n3 (vdot v v) W48 kk.out
  (with_reducible refine ks.mono ?_)
  clear ks
  rintro e w101 ⟨rfl, k2⟩
  have kt := kl.below k2
  have ku := km.below k2
  have kv := kn.below k2
  have kw := ko.below k2
  have kx := kr.below k2
  have k08 := Lib.hid (F50.out.kp (.of k2))
  have k09 := Lib.hid (F51.out.kp (.of k2))
  have k0a := Lib.hid (kk.out.kp (.of k2))
  have ky := Lib.hid (F53.out.kp (.of k2))
  have k0b := Lib.hid (Blw k04.out k2)
  clear k2
  obtain ⟨k1w, k1x, k1y, k1z, k1A, k1B, k1C, k1D, k1E, k1F⟩ := kt.f8
  obtain ⟨k1G, k1H, k1I, k1J, k1K, k1L, k1M, k1N, k1O, k1P⟩ := ku.f8
  obtain ⟨k1Q, k1R, k1S, k1T, k1U, k1V, k1W, k1X, k1Y, k1Z⟩ := kv.f8
  obtain ⟨k20, k21, k22, k23, k24, k25⟩ := kw.f4
  obtain ⟨k26, k27, k28, k29, k2a, k2b⟩ := kx.f4
  go_wp2_with fail
  have kz := rsign_any m0 m1 m2 m3 (vdot u u) w101 ky.out
  (with_reducible refine kz.mono ?_)
  clear kz
  rintro e w155 ⟨rfl, k3⟩
  have kA := kt.below k3
  have kB := ku.below k3
  have kC := kv.below k3
  have kD := kw.below k3
  have k0c := kx.below k3
  have k0d := Lib.hid (k08.out.kp (.of k3))
  have k0e := Lib.hid (k09.out.kp (.of k3))
  have kE := Lib.hid (k0a.out.kp (.of k3))
  have k0f := Lib.hid (ky.out.kp (.of k3))
  have k0g := Lib.hid (Blw k0b.out k3)
  clear k3
  obtain ⟨k2c, k2d, k2e, k2f, k2g, k2h, k2i, k2j, k2k, k2l⟩ := kA.f8
  obtain ⟨k2m, k2n, k2o, k2p, k2q, k2r, k2s, k2t, k2u, k2v⟩ := kB.f8
  obtain ⟨k2w, k2x, k2y, k2z, k2A, k2B, k2C, k2D, k2E, k2F⟩ := kC.f8
  obtain ⟨k2G, k2H, k2I, k2J, k2K, k2L⟩ := kD.f4
  obtain ⟨k2M, k2N, k2O, k2P, k2Q, k2R⟩ := k0c.f4
  go_wp2_with fail
  have kF := rsame_any n0 n1 n2 n3 m0 m1 m2 m3 (vdot v v) (vdot u u) w155 kE.out k0f.out true (decide_eq_true HHD.out).symm
  (with_reducible refine kF.mono ?_)
  clear kF
  rintro e w209 ⟨rfl, k4⟩
  have k0h := kA.below k4
  have k0i := kB.below k4
  have k0j := kC.below k4
  have k0k := kD.below k4
  have k0l := Lib.hid (k0d.out.kp (.of k4))
  have k0m := Lib.hid (k0e.out.kp (.of k4))
  have k0n := Lib.hid (kE.out.kp (.of k4))
  have k0o := Lib.hid (Blw k0g.out k4)
  clear k4
  go_upto_region 6 with fail
  generalize hW : w209.drew = W221
  have hB : Below w209.heap.size w209 W221 := by rw [← hW]; exact (Below.refl _ _).drew
  have kG := k0h.below hB
  have kH := k0i.below hB
  have k0p := k0j.below hB
  have kI := k0k.below hB
  have kJ := Lib.hid (k0l.out.kp (.of hB))
  have kK := Lib.hid (k0m.out.kp (.of hB))
  have kL := Lib.hid (k0n.out.kp (.of hB))
  have k0q := Lib.hid (Blw k0o.out hB)
  clear hB
  generalize hF : ({ tmps := _, defers := _ } : Act) = F
  have ev2 : F.eval (.tmp 2) = .pointer (some ⟨w.heap.size, 0, none⟩) := by rw [← hF]; rfl
  have ev3 : F.eval (.tmp 3) = .pointer (some ⟨w.heap.size + 1, 0, none⟩) := by rw [← hF]; rfl
  have ev6 : F.eval (.tmp 6) = .pointer (some ⟨g18_6, 0, none⟩) := by rw [← hF]; rfl
  have HF := Lib.hid hF; clear hF
  refine wp_flow_tab true hW 11 [(30, []), (31, []), (32, [0, 1]), (33, []), (34, [2, 3]), (35, []), (36, []), (37, [5, 6]), (38, []), (39, [7, 8]), (40, [4, 9])] [SC (.agg #[a0, a1, a2, a3, a4, a5, a6, a7]), SC (.agg #[b0, b1, b2, b3, b4, b5, b6, b7]), SR (vdot v u), SC (.agg #[n0, n1, n2, n3]), SR (vdot v u / vdot v v), SC (.agg #[a0, a1, a2, a3, a4, a5, a6, a7]), SC (.agg #[b0, b1, b2, b3, b4, b5, b6, b7]), SR (vcrs v u), SC (.agg #[n0, n1, n2, n3]), SR (vcrs v u / vdot v v), SV ((vdot v u / vdot v v, vcrs v u / vdot v v))] [false, false, false, false, false, false, false, false, false, false, false] (by kernel_rfl) (by kernel_rfl) (by kernel_rfl) (by kernel_rfl) (by kernel_rfl) (by rw [← HF.out]; simp) ⟨SC.mono _, SC.mono _, SR.mono _, SC.mono _, SR.mono _, SC.mono _, SC.mono _, SR.mono _, SC.mono _, SR.mono _, SV.mono _, trivial⟩ ?_ ?_
  ·intro kq hkq a wx hB hp hs
   have hcase : kq = 0 ∨ kq = 1 ∨ kq = 2 ∨ kq = 3 ∨ kq = 4 ∨ kq = 5 ∨ kq = 6 ∨ kq = 7 ∨ kq = 8 ∨ kq = 9 ∨ kq = 10 := by omega
   rcases hcase with rfl | rfl | rfl | rfl | rfl | rfl | rfl | rfl | rfl | rfl | rfl
   ·exact ⟨_, rfl, ld_Vec rfl ((hs 2 rfl).trans ev2) (kG.below hB) rfl rfl rfl rfl rfl rfl rfl rfl⟩
   ·exact ⟨_, rfl, ld_Vec rfl ((hs 3 rfl).trans ev3) (kH.below hB) rfl rfl rfl rfl rfl rfl rfl rfl⟩
   ·obtain ⟨k0, k1, -⟩ := hp
    exact ⟨_, rfl, Does.rr (f := 29) (call2 rfl (fun _ => by simp [go_sem]) k0 k1) (vdot_any (j) (k) a0 a1 a2 a3 a4 a5 a6 a7 b0 b1 b2 b3 b4 b5 b6 b7 (v) (u) wx (kJ.out.kp (.of hB)) (kK.out.kp (.of hB)) Hba.out Hbb.out (by omega))⟩
   ·exact ⟨_, rfl, ld_Rat rfl ((hs 6 rfl).trans ev6) (kI.below hB) rfl rfl rfl rfl⟩
   ·obtain ⟨k0, k1, -⟩ := hp
    obtain ⟨x0, x1, x2, x3, e0, h_x⟩ := k0
    replace e0 : a.eval (.tmp 32) = .agg #[x0, x1, x2, x3] := e0
    exact ⟨_, rfl, Does.rr (f := 50) (call2 rfl (fun _ => by simp [go_sem]) e0 k1) (rdiv_any (2 * (j + k) + 1) (2 * (j + j) + 1) x0 x1 x2 x3 n0 n1 n2 n3 (vdot v u) (vdot v v) wx h_x (kL.out.kp (.of hB)) (Hba.out.dot Hbb.out) (Hba.out.dot Hba.out) (by omega))⟩
   ·exact ⟨_, rfl, ld_Vec rfl ((hs 2 rfl).trans ev2) (kG.below hB) rfl rfl rfl rfl rfl rfl rfl rfl⟩
   ·exact ⟨_, rfl, ld_Vec rfl ((hs 3 rfl).trans ev3) (kH.below hB) rfl rfl rfl rfl rfl rfl rfl rfl⟩
   ·obtain ⟨k0, k1, -⟩ := hp
    exact ⟨_, rfl, Does.rr (f := 30) (call2 rfl (fun _ => by simp [go_sem]) k0 k1) (vcrs_any (j) (k) a0 a1 a2 a3 a4 a5 a6 a7 b0 b1 b2 b3 b4 b5 b6 b7 (v) (u) wx (kJ.out.kp (.of hB)) (kK.out.kp (.of hB)) Hba.out Hbb.out (by omega))⟩
   ·exact ⟨_, rfl, ld_Rat rfl ((hs 6 rfl).trans ev6) (kI.below hB) rfl rfl rfl rfl⟩
   ·obtain ⟨k0, k1, -⟩ := hp
    obtain ⟨y0, y1, y2, y3, e0, h_y⟩ := k0
    replace e0 : a.eval (.tmp 37) = .agg #[y0, y1, y2, y3] := e0
    exact ⟨_, rfl, Does.rr (f := 50) (call2 rfl (fun _ => by simp [go_sem]) e0 k1) (rdiv_any (2 * (j + k) + 1) (2 * (j + j) + 1) y0 y1 y2 y3 n0 n1 n2 n3 (vcrs v u) (vdot v v) wx h_y (kL.out.kp (.of hB)) (Hba.out.crs Hbb.out) (Hba.out.dot Hba.out) (by omega))⟩
   ·obtain ⟨k0, k1, -⟩ := hp
    obtain ⟨c0, c1, c2, c3, e0, h_c⟩ := k0
    replace e0 : a.eval (.tmp 34) = .agg #[c0, c1, c2, c3] := e0
    obtain ⟨d0, d1, d2, d3, e1, h_d⟩ := k1
    replace e1 : a.eval (.tmp 39) = .agg #[d0, d1, d2, d3] := e1
    simp [Act.eval] at e0
    simp [Act.eval] at e1
    exact ⟨_, rfl, Does.val (by simp [execOp, Act.eval, e0, e1, go_sem]) ⟨c0, c1, c2, c3, d0, d1, d2, d3, rfl, ⟨h_c, h_d⟩⟩⟩
  ·intro val wx hB hsp hdis
   obtain ⟨z0, z1, z2, z3, z4, z5, z6, z7, e10, h_z⟩ := hsp 10 (by omega)
   replace e10 : val 10 = .agg #[z0, z1, z2, z3, z4, z5, z6, z7] := e10
   rw [← HF.out]
   change wpList _ _ _ [_, _] _ _
   simp only [puts, vals, List.map_cons, List.map_nil, List.foldl_cons, List.foldl_nil, if_true, Nat.zero_add, Nat.reduceAdd, e10, List.setIfInBounds_toArray, List.set_cons_succ, List.set_cons_zero]
   clear hsp hdis HF e10
   clear ev2 ev3 ev6
   obtain ⟨w233, rfl⟩ : ∃ W : World, W = wx := ⟨_, rfl⟩
   have kQ := k0p.below hB
   have k0r := Lib.hid (Blw k0q.out hB)
   have k0s := Lib.hid h_z
   obtain ⟨o_z0, o_z1, o_z2, o_z3, o_z4, o_z5, o_z6, o_z7⟩ := h_z.ones
   clear h_z
   clear hB
   obtain ⟨k0t, k0u, k0v, k0w, k0x, k0y, k0z, k0A, k2S, k2T⟩ := kQ.f8
   go_wp2
   have hkp := (Kp.refl w233).t8 (kQ) z0 z1 z2 z3 z4 z5 z6 z7
   refine bodyPost_ret (v := .tuple #[.agg #[z0, z1, z2, z3, z4, z5, z6, z7], .int .i64 0]) (by simp [results, Try.results10, go_sem, k0t, k0u, k0v, k0w, k0x, k0y, k0z, k0A]) rfl ⟨_, _, _, _, _, _, _, _, rfl, ?_, bel8 (k0r.out) (by first | simp | omega)⟩
   exact k0s.out.kp hkp
theorem valn_any (j k : Nat) (a0 a1 a2 a3 a4 a5 a6 a7 b0 b1 b2 b3 b4 b5 b6 b7 : Value) (v u : Rat × Rat) (w : World) (ha : VecV w a0 a1 a2 a3 a4 a5 a6 a7 v) (hb : VecV w b0 b1 b2 b3 b4 b5 b6 b7 u) (ba : Bv j v) (bb : Bv k u) (hk : 40 * (j + k) + 100 ≤ 800000000000) :
  Calls Try.prog 10 #[.agg #[a0, a1, a2, a3, a4, a5, a6, a7], .agg #[b0, b1, b2, b3, b4, b5, b6, b7]] w (RTE (valn v u).1 (valn v u).2 w) := by
 unfold valn
 by_cases hz : vdot v v = 0
 ·rw [if_pos (.inl hz)]
  exact valn_0 j k a0 a1 a2 a3 a4 a5 a6 a7 b0 b1 b2 b3 b4 b5 b6 b7 v u w ha hb ba bb hz hk
 ·by_cases hy : vdot u u = 0
  ·rw [if_pos (.inr hy)]
   exact valn_1 j k a0 a1 a2 a3 a4 a5 a6 a7 b0 b1 b2 b3 b4 b5 b6 b7 v u w ha hb ba bb hz hy hk
  ·rw [if_neg (by rintro (h | h); exact hz h; exact hy h)]
   by_cases hd : vdot v v = vdot u u
   ·rw [if_neg (by simp [hd])]
    exact valn_3 j k a0 a1 a2 a3 a4 a5 a6 a7 b0 b1 b2 b3 b4 b5 b6 b7 v u w ha hb ba bb hz hy hd hk
   ·rw [if_pos hd]
    exact valn_2 j k a0 a1 a2 a3 a4 a5 a6 a7 b0 b1 b2 b3 b4 b5 b6 b7 v u w ha hb ba bb hz hy hd hk
end Go.Proofs.Ytonkbckgbfcnkaa
