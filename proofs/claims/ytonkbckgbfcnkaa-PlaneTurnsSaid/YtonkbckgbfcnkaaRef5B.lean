/-
 THE WALKS of the reference of package plane: Same, SameTurn, Of, Still.
-/
import Derived.Test.YtonkbckgbfcnkaaRef4B
import Derived.Test.YtonkbckgbfcnkaaRef4C
import Derived.Test.YtonkbckgbfcnkaaWalkPlB
namespace Go.Proofs.Ytonkbckgbfcnkaa
set_option maxHeartbeats 2000000
open Go.RowKit
attribute [local go_sem] run_store_one
set_option linter.unusedVariables false
set_option maxRecDepth 100000 in
theorem vsame5_0 (a0 a1 a2 a3 a4 a5 a6 a7 b0 b1 b2 b3 b4 b5 b6 b7 : Value) (v u : Rat × Rat) (w : World) (ha : VecV w a0 a1 a2 a3 a4 a5 a6 a7 v) (hb : VecV w b0 b1 b2 b3 b4 b5 b6 b7 u) (hn : false = decide (v.1 = u.1)) :
  Calls Try.prog 15 #[.agg #[a0, a1, a2, a3, a4, a5, a6, a7], .agg #[b0, b1, b2, b3, b4, b5, b6, b7]] w fun e w' => e = .returned (.bool false) ∧ Below w.heap.size w w' := by
 obtain ⟨qa0, qa1, qa2, qa3, qa4, qa5, qa6, qa7⟩ := ha.ones
 obtain ⟨qb0, qb1, qb2, qb3, qb4, qb5, qb6, qb7⟩ := hb.ones
 have Hha := Lib.hid ha; have Hhb := Lib.hid hb; have HN_ := Lib.hid hn
 clear ha hb hn
 go_enter Try.func15, Try.ntmps15
 go_wp2_with fail
 generalize hW : (w.alloc _).alloc _ = W1
 obtain ⟨k3, k4, hB⟩ := box2 hW
 have k1 := Lib.hid hB; clear hW hB
 have F5 := Lib.hid (Hha.out.kp (.of k1.out))
 have F6 := Lib.hid (Hhb.out.kp (.of k1.out))
 have k2 := rsame4_any a0 a1 a2 a3 b0 b1 b2 b3 v.1 u.1 W1 (F5.out).1 (F6.out).1 false HN_.out
 (with_reducible refine k2.mono ?_)
 clear k2
 rintro e w7 ⟨rfl, k0⟩
 have k7 := k3.below k0
 have k8 := k4.below k0
 have k9 := Lib.hid (Blw k1.out k0)
 clear k0
 obtain ⟨ka, kb, kc, kd, ke, kf, kg, kh, ki, kj⟩ := k7.f8
 obtain ⟨kk, kl, km, kn, ko, kq, kr, ks, kt, ku⟩ := k8.f8
 go_wp2
 go_ret
 exact ⟨rfl, k9.out⟩
set_option maxRecDepth 100000 in
theorem vsame5_1 (a0 a1 a2 a3 a4 a5 a6 a7 b0 b1 b2 b3 b4 b5 b6 b7 : Value) (v u : Rat × Rat) (w : World) (ha : VecV w a0 a1 a2 a3 a4 a5 a6 a7 v) (hb : VecV w b0 b1 b2 b3 b4 b5 b6 b7 u) (hn : true = decide (v.1 = u.1)) (c : Bool) (hv : c = decide (v.2 = u.2)) :
  Calls Try.prog 15 #[.agg #[a0, a1, a2, a3, a4, a5, a6, a7], .agg #[b0, b1, b2, b3, b4, b5, b6, b7]] w fun e w' => e = .returned (.bool c) ∧ Below w.heap.size w w' := by
 obtain ⟨qa0, qa1, qa2, qa3, qa4, qa5, qa6, qa7⟩ := ha.ones
 obtain ⟨qb0, qb1, qb2, qb3, qb4, qb5, qb6, qb7⟩ := hb.ones
 have Hha := Lib.hid ha; have Hhb := Lib.hid hb; have HN_ := Lib.hid hn; have HV := Lib.hid hv
 clear ha hb hn hv
 go_enter Try.func15, Try.ntmps15
 go_wp2_with fail
 generalize hW : (w.alloc _).alloc _ = W1
 obtain ⟨k9, ka, hB⟩ := box2 hW
 have k2 := Lib.hid hB; clear hW hB
 have F5 := Lib.hid (Hha.out.kp (.of k2.out))
 have F6 := Lib.hid (Hhb.out.kp (.of k2.out))
 have k5 := rsame4_any a0 a1 a2 a3 b0 b1 b2 b3 v.1 u.1 W1 (F5.out).1 (F6.out).1 true HN_.out
 (with_reducible refine k5.mono ?_)
 clear k5
 rintro e w7 ⟨rfl, k0⟩
 have k6 := k9.below k0
 have k7 := ka.below k0
 have kb := Lib.hid (F5.out.kp (.of k0))
 have kc := Lib.hid (F6.out.kp (.of k0))
 have kd := Lib.hid (Blw k2.out k0)
 clear k0
 obtain ⟨kh, ki, kj, kk, kl, km, kn, ko, kq, kr⟩ := k6.f8
 obtain ⟨ks, kt, ku, kv, kw, kx, ky, kz, kA, kB⟩ := k7.f8
 go_wp2_with fail
 have k8 := rsame4_any a4 a5 a6 a7 b4 b5 b6 b7 v.2 u.2 w7 (kb.out).2 (kc.out).2 c HV.out
 (with_reducible refine k8.mono ?_)
 clear k8
 rintro e w34 ⟨rfl, k1⟩
 have ke := k6.below k1
 have kf := k7.below k1
 have kg := Lib.hid (Blw kd.out k1)
 clear k1
 obtain ⟨kC, kD, kE, kF, kG, kH, kI, kJ, kK, kL⟩ := ke.f8
 obtain ⟨kM, kN, kO, kP, kQ, kR, kS, kT, kU, kV⟩ := kf.f8
 go_wp2
 go_ret
 exact ⟨rfl, kg.out⟩
theorem vsame5_any (a0 a1 a2 a3 a4 a5 a6 a7 b0 b1 b2 b3 b4 b5 b6 b7 : Value) (v u : Rat × Rat) (w : World) (ha : VecV w a0 a1 a2 a3 a4 a5 a6 a7 v) (hb : VecV w b0 b1 b2 b3 b4 b5 b6 b7 u) (c : Bool) (hv : c = decide (v = u)) :
  Calls Try.prog 15 #[.agg #[a0, a1, a2, a3, a4, a5, a6, a7], .agg #[b0, b1, b2, b3, b4, b5, b6, b7]] w fun e w' => e = .returned (.bool c) ∧ Below w.heap.size w w' := by
 by_cases h : v.1 = u.1
 ·exact vsame5_1 a0 a1 a2 a3 a4 a5 a6 a7 b0 b1 b2 b3 b4 b5 b6 b7 v u w ha hb (by simp [h]) c (by rw [hv]; simp [Prod.ext_iff, h])
 ·have : c = false := by rw [hv]; simp [Prod.ext_iff, h]
  rw [this]
  exact vsame5_0 a0 a1 a2 a3 a4 a5 a6 a7 b0 b1 b2 b3 b4 b5 b6 b7 v u w ha hb (by simp [h])
set_option maxRecDepth 100000 in
theorem tsame5_0 (a0 a1 a2 a3 a4 a5 a6 a7 b0 b1 b2 b3 b4 b5 b6 b7 : Value) (v u : Rat × Rat) (w : World) (ha : VecV w a0 a1 a2 a3 a4 a5 a6 a7 v) (hb : VecV w b0 b1 b2 b3 b4 b5 b6 b7 u) (hn : false = decide (v.1 = u.1)) :
  Calls Try.prog 12 #[.agg #[a0, a1, a2, a3, a4, a5, a6, a7], .agg #[b0, b1, b2, b3, b4, b5, b6, b7]] w fun e w' => e = .returned (.bool false) ∧ Below w.heap.size w w' := by
 obtain ⟨qa0, qa1, qa2, qa3, qa4, qa5, qa6, qa7⟩ := ha.ones
 obtain ⟨qb0, qb1, qb2, qb3, qb4, qb5, qb6, qb7⟩ := hb.ones
 have Hha := Lib.hid ha; have Hhb := Lib.hid hb; have HN_ := Lib.hid hn
 clear ha hb hn
 go_enter Try.func12, Try.ntmps12
 go_wp2_with fail
 generalize hW : (w.alloc _).alloc _ = W1
 obtain ⟨k3, k4, hB⟩ := box2 hW
 have k1 := Lib.hid hB; clear hW hB
 have F5 := Lib.hid (Hha.out.kp (.of k1.out))
 have F6 := Lib.hid (Hhb.out.kp (.of k1.out))
 have k2 := rsame4_any a0 a1 a2 a3 b0 b1 b2 b3 v.1 u.1 W1 (F5.out).1 (F6.out).1 false HN_.out
 (with_reducible refine k2.mono ?_)
 clear k2
 rintro e w7 ⟨rfl, k0⟩
 have k7 := k3.below k0
 have k8 := k4.below k0
 have k9 := Lib.hid (Blw k1.out k0)
 clear k0
 obtain ⟨ka, kb, kc, kd, ke, kf, kg, kh, ki, kj⟩ := k7.f8
 obtain ⟨kk, kl, km, kn, ko, kq, kr, ks, kt, ku⟩ := k8.f8
 go_wp2
 go_ret
 exact ⟨rfl, k9.out⟩
set_option maxRecDepth 100000 in
theorem tsame5_1 (a0 a1 a2 a3 a4 a5 a6 a7 b0 b1 b2 b3 b4 b5 b6 b7 : Value) (v u : Rat × Rat) (w : World) (ha : VecV w a0 a1 a2 a3 a4 a5 a6 a7 v) (hb : VecV w b0 b1 b2 b3 b4 b5 b6 b7 u) (hn : true = decide (v.1 = u.1)) (c : Bool) (hv : c = decide (v.2 = u.2)) :
  Calls Try.prog 12 #[.agg #[a0, a1, a2, a3, a4, a5, a6, a7], .agg #[b0, b1, b2, b3, b4, b5, b6, b7]] w fun e w' => e = .returned (.bool c) ∧ Below w.heap.size w w' := by
 obtain ⟨qa0, qa1, qa2, qa3, qa4, qa5, qa6, qa7⟩ := ha.ones
 obtain ⟨qb0, qb1, qb2, qb3, qb4, qb5, qb6, qb7⟩ := hb.ones
 have Hha := Lib.hid ha; have Hhb := Lib.hid hb; have HN_ := Lib.hid hn; have HV := Lib.hid hv
 clear ha hb hn hv
 go_enter Try.func12, Try.ntmps12
 go_wp2_with fail
 generalize hW : (w.alloc _).alloc _ = W1
 obtain ⟨k9, ka, hB⟩ := box2 hW
 have k2 := Lib.hid hB; clear hW hB
 have F5 := Lib.hid (Hha.out.kp (.of k2.out))
 have F6 := Lib.hid (Hhb.out.kp (.of k2.out))
 have k5 := rsame4_any a0 a1 a2 a3 b0 b1 b2 b3 v.1 u.1 W1 (F5.out).1 (F6.out).1 true HN_.out
 (with_reducible refine k5.mono ?_)
 clear k5
 rintro e w7 ⟨rfl, k0⟩
 have k6 := k9.below k0
 have k7 := ka.below k0
 have kb := Lib.hid (F5.out.kp (.of k0))
 have kc := Lib.hid (F6.out.kp (.of k0))
 have kd := Lib.hid (Blw k2.out k0)
 clear k0
 obtain ⟨kh, ki, kj, kk, kl, km, kn, ko, kq, kr⟩ := k6.f8
 obtain ⟨ks, kt, ku, kv, kw, kx, ky, kz, kA, kB⟩ := k7.f8
 go_wp2_with fail
 have k8 := rsame4_any a4 a5 a6 a7 b4 b5 b6 b7 v.2 u.2 w7 (kb.out).2 (kc.out).2 c HV.out
 (with_reducible refine k8.mono ?_)
 clear k8
 rintro e w34 ⟨rfl, k1⟩
 have ke := k6.below k1
 have kf := k7.below k1
 have kg := Lib.hid (Blw kd.out k1)
 clear k1
 obtain ⟨kC, kD, kE, kF, kG, kH, kI, kJ, kK, kL⟩ := ke.f8
 obtain ⟨kM, kN, kO, kP, kQ, kR, kS, kT, kU, kV⟩ := kf.f8
 go_wp2
 go_ret
 exact ⟨rfl, kg.out⟩
theorem tsame5_any (a0 a1 a2 a3 a4 a5 a6 a7 b0 b1 b2 b3 b4 b5 b6 b7 : Value) (v u : Rat × Rat) (w : World) (ha : VecV w a0 a1 a2 a3 a4 a5 a6 a7 v) (hb : VecV w b0 b1 b2 b3 b4 b5 b6 b7 u) (c : Bool) (hv : c = decide (v = u)) :
  Calls Try.prog 12 #[.agg #[a0, a1, a2, a3, a4, a5, a6, a7], .agg #[b0, b1, b2, b3, b4, b5, b6, b7]] w fun e w' => e = .returned (.bool c) ∧ Below w.heap.size w w' := by
 by_cases h : v.1 = u.1
 ·exact tsame5_1 a0 a1 a2 a3 a4 a5 a6 a7 b0 b1 b2 b3 b4 b5 b6 b7 v u w ha hb (by simp [h]) c (by rw [hv]; simp [Prod.ext_iff, h])
 ·have : c = false := by rw [hv]; simp [Prod.ext_iff, h]
  rw [this]
  exact tsame5_0 a0 a1 a2 a3 a4 a5 a6 a7 b0 b1 b2 b3 b4 b5 b6 b7 v u w ha hb (by simp [h])
set_option maxRecDepth 100000 in
theorem vof5_any (x y : Int) (w : World) (hx : W.Is64 x) (hy : W.Is64 y) : Calls Try.prog 53 #[.int .i64 x, .int .i64 y] w (RV (Rat.divInt x 1, Rat.divInt y 1) w) := by
 have HX := Lib.hid hx; have HY := Lib.hid hy
 have H1 := Lib.hid (show W.Is64 1 from ⟨by omega, by omega⟩)
 clear hx hy
 go_enter Try.func53, Try.ntmps53
 go_upto_region 1 with fail
 generalize hW : w.alloc _ = W1
 obtain ⟨k6, hB⟩ := box1 hW
 have k7 := Lib.hid hB; clear hW hB
 go_upto_region 1 with fail
 generalize hF : ({ tmps := _, defers := _ } : Act) = F
 have ev0 : F.eval (.tmp 0) = .int .i64 x := by rw [← hF]; rfl
 have ev1 : F.eval (.tmp 1) = .int .i64 y := by rw [← hF]; rfl
 have HF := Lib.hid hF; clear hF
 refine wp_flow_tab false rfl 5 [(5, []), (6, [0]), (7, []), (8, [2]), (9, [1, 3])] [SC (.int .i64 x), SR (Rat.divInt x 1), SC (.int .i64 y), SR (Rat.divInt y 1), SV ((Rat.divInt x 1, Rat.divInt y 1))] [false, false, false, false, false] (by kernel_rfl) (by kernel_rfl) (by kernel_rfl) (by kernel_rfl) (by kernel_rfl) (by rw [← HF.out]; simp) ⟨SC.mono _, SR.mono _, SC.mono _, SR.mono _, SV.mono _, trivial⟩ ?_ ?_
 ·intro kq hkq a wx hB hp hs
  have hcase : kq = 0 ∨ kq = 1 ∨ kq = 2 ∨ kq = 3 ∨ kq = 4 := by omega
  rcases hcase with rfl | rfl | rfl | rfl | rfl
  ·clear hp
   have b0 := (hs 0 rfl).trans ev0
   simp [Act.eval] at b0
   exact ⟨_, rfl, Does.val (by simp [execOp, Act.eval, b0, go_sem]) rfl⟩
  ·obtain ⟨k0, -⟩ := hp
   exact ⟨_, rfl, Does.rr (f := 44) (call2 rfl (fun _ => by simp [go_sem]) k0 rfl) (rof4_any x 1 wx HX.out H1.out)⟩
  ·clear hp
   have b1 := (hs 1 rfl).trans ev1
   simp [Act.eval] at b1
   exact ⟨_, rfl, Does.val (by simp [execOp, Act.eval, b1, go_sem]) rfl⟩
  ·obtain ⟨k0, -⟩ := hp
   exact ⟨_, rfl, Does.rr (f := 44) (call2 rfl (fun _ => by simp [go_sem]) k0 rfl) (rof4_any y 1 wx HY.out H1.out)⟩
  ·obtain ⟨k0, k8, -⟩ := hp
   obtain ⟨x0, x1, x2, x3, e0, h_x⟩ := k0
   replace e0 : a.eval (.tmp 6) = .agg #[x0, x1, x2, x3] := e0
   obtain ⟨y0, y1, y2, y3, e1, h_y⟩ := k8
   replace e1 : a.eval (.tmp 8) = .agg #[y0, y1, y2, y3] := e1
   simp [Act.eval] at e0
   simp [Act.eval] at e1
   exact ⟨_, rfl, Does.val (by simp [execOp, Act.eval, e0, e1, go_sem]) ⟨x0, x1, x2, x3, y0, y1, y2, y3, rfl, ⟨h_x, h_y⟩⟩⟩
 ·intro val wx hB hsp hdis
  obtain ⟨z0, z1, z2, z3, z4, z5, z6, z7, e4, h_z⟩ := hsp 4 (by omega)
  replace e4 : val 4 = .agg #[z0, z1, z2, z3, z4, z5, z6, z7] := e4
  rw [← HF.out]
  change wpList _ _ _ [_] _ _
  simp only [puts, vals, List.map_cons, List.map_nil, List.foldl_cons, List.foldl_nil, if_true, Nat.zero_add, Nat.reduceAdd, e4, List.setIfInBounds_toArray, List.set_cons_succ, List.set_cons_zero]
  clear hsp hdis HF e4
  clear ev0 ev1
  obtain ⟨w5, rfl⟩ : ∃ W : World, W = wx := ⟨_, rfl⟩
  have k5 := k6.below hB
  have k9 := Lib.hid (Blw k7.out hB)
  have F8 := Lib.hid h_z
  obtain ⟨o_z0, o_z1, o_z2, o_z3, o_z4, o_z5, o_z6, o_z7⟩ := h_z.ones
  clear h_z
  clear hB
  obtain ⟨kb, kc, kd, ke, kf, kg, kh, ki, kj, kk⟩ := k5.f8
  go_wp2
  have hkp := (Kp.refl w5).t8 (k5) z0 z1 z2 z3 z4 z5 z6 z7
  refine bodyPost_ret (v := .agg #[z0, z1, z2, z3, z4, z5, z6, z7]) (by simp [results, Try.results53, go_sem, kb, kc, kd, ke, kf, kg, kh, ki]) rfl ⟨_, _, _, _, _, _, _, _, rfl, ?_, bel8 (k9.out) (by first | simp | omega)⟩
  exact F8.out.kp hkp
set_option maxRecDepth 100000 in
theorem still5_any (w : World) : Calls Try.prog 23 #[] w (RV (Rat.divInt 1 1, 0) w) := by
 have H1 := Lib.hid (show W.Is64 1 from ⟨by omega, by omega⟩)
 go_enter Try.func23, Try.ntmps23
 go_upto_region 1 with fail
 generalize hW : w.alloc _ = W1
 obtain ⟨k1, hB⟩ := box1 hW
 have k2 := Lib.hid hB; clear hW hB
 go_upto_region 1 with fail
 generalize hF : ({ tmps := _, defers := _ } : Act) = F
 have HF := Lib.hid hF; clear hF
 refine wp_flow_tab false rfl 2 [(1, []), (2, [0])] [SR (Rat.divInt 1 1), SV ((Rat.divInt 1 1, 0))] [false, false] (by kernel_rfl) (by kernel_rfl) (by kernel_rfl) (by kernel_rfl) (by kernel_rfl) (by rw [← HF.out]; simp) ⟨SR.mono _, SV.mono _, trivial⟩ ?_ ?_
 ·intro kq hkq a wx hB hp hs
  have hcase : kq = 0 ∨ kq = 1 := by omega
  rcases hcase with rfl | rfl
  ·clear hp
   exact ⟨_, rfl, Does.rr (f := 44) (call2 rfl (fun _ => by simp [go_sem]) rfl rfl) (rof4_any 1 1 wx H1.out H1.out)⟩
  ·obtain ⟨k3, -⟩ := hp
   obtain ⟨x0, x1, x2, x3, e0, h_x⟩ := k3
   replace e0 : a.eval (.tmp 1) = .agg #[x0, x1, x2, x3] := e0
   simp [Act.eval] at e0
   exact ⟨_, rfl, Does.val (by simp [execOp, Act.eval, e0, go_sem]) ⟨x0, x1, x2, x3, .bool false, .slice none 0 0, .bool false, .slice none 0 0, rfl, ⟨h_x, RatV.zero _⟩⟩⟩
 ·intro val wx hB hsp hdis
  obtain ⟨z0, z1, z2, z3, z4, z5, z6, z7, e1, h_z⟩ := hsp 1 (by omega)
  replace e1 : val 1 = .agg #[z0, z1, z2, z3, z4, z5, z6, z7] := e1
  rw [← HF.out]
  change wpList _ _ _ [_] _ _
  simp only [puts, vals, List.map_cons, List.map_nil, List.foldl_cons, List.foldl_nil, if_true, Nat.zero_add, e1, List.setIfInBounds_toArray, List.set_cons_succ, List.set_cons_zero]
  clear hsp hdis HF e1
  obtain ⟨w5, rfl⟩ : ∃ W : World, W = wx := ⟨_, rfl⟩
  have k0 := k1.below hB
  have k4 := Lib.hid (Blw k2.out hB)
  have F8 := Lib.hid h_z
  obtain ⟨o_z0, o_z1, o_z2, o_z3, o_z4, o_z5, o_z6, o_z7⟩ := h_z.ones
  clear h_z
  clear hB
  obtain ⟨k6, k7, k8, k9, ka, kb, kc, kd, ke, kf⟩ := k0.f8
  go_wp2
  have hkp := (Kp.refl w5).t8 (k0) z0 z1 z2 z3 z4 z5 z6 z7
  refine bodyPost_ret (v := .agg #[z0, z1, z2, z3, z4, z5, z6, z7]) (by simp [results, Try.results23, go_sem, k6, k7, k8, k9, ka, kb, kc, kd]) rfl ⟨_, _, _, _, _, _, _, _, rfl, ?_, bel8 (k4.out) (by first | simp | omega)⟩
  exact F8.out.kp hkp
end Go.Proofs.Ytonkbckgbfcnkaa
