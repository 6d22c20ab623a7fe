/-
 THE WALKS of the reference of package plane: Same, SameTurn, Of, Still.
-/
import Derived.Test.YtonkbckgbfcnkaaRef4B
import Derived.Test.YtonkbckgbfcnkaaRef4C
import Derived.Test.YtonkbckgbfcnkaaWalkPlB
namespace Go.Proofs.Ytonkbckgbfcnkaa
set_option maxHeartbeats 2000000
open Go.RowKit
attribute [local go_sem] run_store_one
set_option linter.unusedVariables false
set_option maxRecDepth 100000 in
theorem vsame5_0 (a0 a1 a2 a3 a4 a5 a6 a7 b0 b1 b2 b3 b4 b5 b6 b7 : Value) (v u : Rat × Rat) (w : World) (ha : VecV w a0 a1 a2 a3 a4 a5 a6 a7 v) (hb : VecV w b0 b1 b2 b3 b4 b5 b6 b7 u) (hn : false = decide (v.1 = u.1)) :
  Calls Try.prog 15 #[.agg #[a0, a1, a2, a3, a4, a5, a6, a7], .agg #[b0, b1, b2, b3, b4, b5, b6, b7]] w fun e w' => e = .returned (.bool false) ∧ Below w.heap.size w w' := by
 have qa0 := ha.one0
 have qa1 := ha.one1
 have qa2 := ha.one2
 have qa3 := ha.one3
 have qa4 := ha.one4
 have qa5 := ha.one5
 have qa6 := ha.one6
 have qa7 := ha.one7
 have qb0 := hb.one0
 have qb1 := hb.one1
 have qb2 := hb.one2
 have qb3 := hb.one3
 have qb4 := hb.one4
 have qb5 := hb.one5
 have qb6 := hb.one6
 have qb7 := hb.one7
 have Hha := Lib.hid ha; have Hhb := Lib.hid hb; have HN_ := Lib.hid hn
 clear ha hb hn
 go_enter Try.func15, Try.ntmps15
 go_wp2_with fail
 obtain ⟨W1, hW⟩ : ∃ W, W = (w.alloc (.cells #[a0, a1, a2, a3, a4, a5, a6, a7] 28)).alloc (.cells #[b0, b1, b2, b3, b4, b5, b6, b7] 28) := ⟨_, rfl⟩
 rw [← hW]
 have k3 : Bx W1 (w.heap.size) 28 [a0, a1, a2, a3, a4, a5, a6, a7] := by rw [hW]; exact (Bx.at_ rfl).alloc _
 have k4 : Bx W1 (w.heap.size + 1) 28 [b0, b1, b2, b3, b4, b5, b6, b7] := by rw [hW]; exact Bx.at_ (by simp)
 have hB : Below w.heap.size w W1 := by rw [hW]; exact ((Below.refl _ _).alloc (by simp) _).alloc (by simp) _
 have k1 := Lib.hid hB; clear hW hB
 have F5 := Lib.hid (Hha.out.kp (.of k1.out))
 have F6 := Lib.hid (Hhb.out.kp (.of k1.out))
 have k2 := rsame4_any a0 a1 a2 a3 b0 b1 b2 b3 v.1 u.1 W1 (F5.out).1 (F6.out).1 false HN_.out
 (with_reducible refine k2.mono ?_)
 clear k2
 rintro e w7 ⟨rfl, k0⟩
 have k7 := k3.below k0
 have k8 := k4.below k0
 have k9 := Lib.hid (Blw k1.out k0)
 clear k0
 obtain ⟨ka, kb, kc, kd, ke, kf, kg, kh, ki, kj⟩ := k7.f8
 obtain ⟨kk, kl, km, kn, ko, kq, kr, ks, kt, ku⟩ := k8.f8
 go_wp2
 go_ret
 exact ⟨rfl, k9.out⟩
set_option maxRecDepth 100000 in
theorem vsame5_1 (a0 a1 a2 a3 a4 a5 a6 a7 b0 b1 b2 b3 b4 b5 b6 b7 : Value) (v u : Rat × Rat) (w : World) (ha : VecV w a0 a1 a2 a3 a4 a5 a6 a7 v) (hb : VecV w b0 b1 b2 b3 b4 b5 b6 b7 u) (hn : true = decide (v.1 = u.1)) (c : Bool) (hv : c = decide (v.2 = u.2)) :
  Calls Try.prog 15 #[.agg #[a0, a1, a2, a3, a4, a5, a6, a7], .agg #[b0, b1, b2, b3, b4, b5, b6, b7]] w fun e w' => e = .returned (.bool c) ∧ Below w.heap.size w w' := by
 have qa0 := ha.one0
 have qa1 := ha.one1
 have qa2 := ha.one2
 have qa3 := ha.one3
 have qa4 := ha.one4
 have qa5 := ha.one5
 have qa6 := ha.one6
 have qa7 := ha.one7
 have qb0 := hb.one0
 have qb1 := hb.one1
 have qb2 := hb.one2
 have qb3 := hb.one3
 have qb4 := hb.one4
 have qb5 := hb.one5
 have qb6 := hb.one6
 have qb7 := hb.one7
 have Hha := Lib.hid ha; have Hhb := Lib.hid hb; have HN_ := Lib.hid hn; have HV := Lib.hid hv
 clear ha hb hn hv
 go_enter Try.func15, Try.ntmps15
 go_wp2_with fail
 obtain ⟨W1, hW⟩ : ∃ W, W = (w.alloc (.cells #[a0, a1, a2, a3, a4, a5, a6, a7] 28)).alloc (.cells #[b0, b1, b2, b3, b4, b5, b6, b7] 28) := ⟨_, rfl⟩
 rw [← hW]
 have k9 : Bx W1 (w.heap.size) 28 [a0, a1, a2, a3, a4, a5, a6, a7] := by rw [hW]; exact (Bx.at_ rfl).alloc _
 have ka : Bx W1 (w.heap.size + 1) 28 [b0, b1, b2, b3, b4, b5, b6, b7] := by rw [hW]; exact Bx.at_ (by simp)
 have hB : Below w.heap.size w W1 := by rw [hW]; exact ((Below.refl _ _).alloc (by simp) _).alloc (by simp) _
 have k2 := Lib.hid hB; clear hW hB
 have F5 := Lib.hid (Hha.out.kp (.of k2.out))
 have F6 := Lib.hid (Hhb.out.kp (.of k2.out))
 have k5 := rsame4_any a0 a1 a2 a3 b0 b1 b2 b3 v.1 u.1 W1 (F5.out).1 (F6.out).1 true HN_.out
 (with_reducible refine k5.mono ?_)
 clear k5
 rintro e w7 ⟨rfl, k0⟩
 have k6 := k9.below k0
 have k7 := ka.below k0
 have kb := Lib.hid (F5.out.kp (.of k0))
 have kc := Lib.hid (F6.out.kp (.of k0))
 have kd := Lib.hid (Blw k2.out k0)
 clear k0
 obtain ⟨kh, ki, kj, kk, kl, km, kn, ko, kq, kr⟩ := k6.f8
 obtain ⟨ks, kt, ku, kv, kw, kx, ky, kz, kA, kB⟩ := k7.f8
 go_wp2_with fail
 have k8 := rsame4_any a4 a5 a6 a7 b4 b5 b6 b7 v.2 u.2 w7 (kb.out).2 (kc.out).2 c HV.out
 (with_reducible refine k8.mono ?_)
 clear k8
 rintro e w34 ⟨rfl, k1⟩
 have ke := k6.below k1
 have kf := k7.below k1
 have kg := Lib.hid (Blw kd.out k1)
 clear k1
 obtain ⟨kC, kD, kE, kF, kG, kH, kI, kJ, kK, kL⟩ := ke.f8
 obtain ⟨kM, kN, kO, kP, kQ, kR, kS, kT, kU, kV⟩ := kf.f8
 go_wp2
 go_ret
 exact ⟨rfl, kg.out⟩
theorem vsame5_any (a0 a1 a2 a3 a4 a5 a6 a7 b0 b1 b2 b3 b4 b5 b6 b7 : Value) (v u : Rat × Rat) (w : World) (ha : VecV w a0 a1 a2 a3 a4 a5 a6 a7 v) (hb : VecV w b0 b1 b2 b3 b4 b5 b6 b7 u) (c : Bool) (hv : c = decide (v = u)) :
  Calls Try.prog 15 #[.agg #[a0, a1, a2, a3, a4, a5, a6, a7], .agg #[b0, b1, b2, b3, b4, b5, b6, b7]] w fun e w' => e = .returned (.bool c) ∧ Below w.heap.size w w' := by
 by_cases h : v.1 = u.1
 ·exact vsame5_1 a0 a1 a2 a3 a4 a5 a6 a7 b0 b1 b2 b3 b4 b5 b6 b7 v u w ha hb (by simp [h]) c (by rw [hv]; simp [Prod.ext_iff, h])
 ·have : c = false := by rw [hv]; simp [Prod.ext_iff, h]
  rw [this]
  exact vsame5_0 a0 a1 a2 a3 a4 a5 a6 a7 b0 b1 b2 b3 b4 b5 b6 b7 v u w ha hb (by simp [h])
set_option maxRecDepth 100000 in
theorem tsame5_0 (a0 a1 a2 a3 a4 a5 a6 a7 b0 b1 b2 b3 b4 b5 b6 b7 : Value) (v u : Rat × Rat) (w : World) (ha : VecV w a0 a1 a2 a3 a4 a5 a6 a7 v) (hb : VecV w b0 b1 b2 b3 b4 b5 b6 b7 u) (hn : false = decide (v.1 = u.1)) :
  Calls Try.prog 12 #[.agg #[a0, a1, a2, a3, a4, a5, a6, a7], .agg #[b0, b1, b2, b3, b4, b5, b6, b7]] w fun e w' => e = .returned (.bool false) ∧ Below w.heap.size w w' := by
 have qa0 := ha.one0
 have qa1 := ha.one1
 have qa2 := ha.one2
 have qa3 := ha.one3
 have qa4 := ha.one4
 have qa5 := ha.one5
 have qa6 := ha.one6
 have qa7 := ha.one7
 have qb0 := hb.one0
 have qb1 := hb.one1
 have qb2 := hb.one2
 have qb3 := hb.one3
 have qb4 := hb.one4
 have qb5 := hb.one5
 have qb6 := hb.one6
 have qb7 := hb.one7
 have Hha := Lib.hid ha; have Hhb := Lib.hid hb; have HN_ := Lib.hid hn
 clear ha hb hn
 go_enter Try.func12, Try.ntmps12
 go_wp2_with fail
 obtain ⟨W1, hW⟩ : ∃ W, W = (w.alloc (.cells #[a0, a1, a2, a3, a4, a5, a6, a7] 31)).alloc (.cells #[b0, b1, b2, b3, b4, b5, b6, b7] 31) := ⟨_, rfl⟩
 rw [← hW]
 have k3 : Bx W1 (w.heap.size) 31 [a0, a1, a2, a3, a4, a5, a6, a7] := by rw [hW]; exact (Bx.at_ rfl).alloc _
 have k4 : Bx W1 (w.heap.size + 1) 31 [b0, b1, b2, b3, b4, b5, b6, b7] := by rw [hW]; exact Bx.at_ (by simp)
 have hB : Below w.heap.size w W1 := by rw [hW]; exact ((Below.refl _ _).alloc (by simp) _).alloc (by simp) _
 have k1 := Lib.hid hB; clear hW hB
 have F5 := Lib.hid (Hha.out.kp (.of k1.out))
 have F6 := Lib.hid (Hhb.out.kp (.of k1.out))
 have k2 := rsame4_any a0 a1 a2 a3 b0 b1 b2 b3 v.1 u.1 W1 (F5.out).1 (F6.out).1 false HN_.out
 (with_reducible refine k2.mono ?_)
 clear k2
 rintro e w7 ⟨rfl, k0⟩
 have k7 := k3.below k0
 have k8 := k4.below k0
 have k9 := Lib.hid (Blw k1.out k0)
 clear k0
 obtain ⟨ka, kb, kc, kd, ke, kf, kg, kh, ki, kj⟩ := k7.f8
 obtain ⟨kk, kl, km, kn, ko, kq, kr, ks, kt, ku⟩ := k8.f8
 go_wp2
 go_ret
 exact ⟨rfl, k9.out⟩
set_option maxRecDepth 100000 in
theorem tsame5_1 (a0 a1 a2 a3 a4 a5 a6 a7 b0 b1 b2 b3 b4 b5 b6 b7 : Value) (v u : Rat × Rat) (w : World) (ha : VecV w a0 a1 a2 a3 a4 a5 a6 a7 v) (hb : VecV w b0 b1 b2 b3 b4 b5 b6 b7 u) (hn : true = decide (v.1 = u.1)) (c : Bool) (hv : c = decide (v.2 = u.2)) :
  Calls Try.prog 12 #[.agg #[a0, a1, a2, a3, a4, a5, a6, a7], .agg #[b0, b1, b2, b3, b4, b5, b6, b7]] w fun e w' => e = .returned (.bool c) ∧ Below w.heap.size w w' := by
 have qa0 := ha.one0
 have qa1 := ha.one1
 have qa2 := ha.one2
 have qa3 := ha.one3
 have qa4 := ha.one4
 have qa5 := ha.one5
 have qa6 := ha.one6
 have qa7 := ha.one7
 have qb0 := hb.one0
 have qb1 := hb.one1
 have qb2 := hb.one2
 have qb3 := hb.one3
 have qb4 := hb.one4
 have qb5 := hb.one5
 have qb6 := hb.one6
 have qb7 := hb.one7
 have Hha := Lib.hid ha; have Hhb := Lib.hid hb; have HN_ := Lib.hid hn; have HV := Lib.hid hv
 clear ha hb hn hv
 go_enter Try.func12, Try.ntmps12
 go_wp2_with fail
 obtain ⟨W1, hW⟩ : ∃ W, W = (w.alloc (.cells #[a0, a1, a2, a3, a4, a5, a6, a7] 31)).alloc (.cells #[b0, b1, b2, b3, b4, b5, b6, b7] 31) := ⟨_, rfl⟩
 rw [← hW]
 have k9 : Bx W1 (w.heap.size) 31 [a0, a1, a2, a3, a4, a5, a6, a7] := by rw [hW]; exact (Bx.at_ rfl).alloc _
 have ka : Bx W1 (w.heap.size + 1) 31 [b0, b1, b2, b3, b4, b5, b6, b7] := by rw [hW]; exact Bx.at_ (by simp)
 have hB : Below w.heap.size w W1 := by rw [hW]; exact ((Below.refl _ _).alloc (by simp) _).alloc (by simp) _
 have k2 := Lib.hid hB; clear hW hB
 have F5 := Lib.hid (Hha.out.kp (.of k2.out))
 have F6 := Lib.hid (Hhb.out.kp (.of k2.out))
 have k5 := rsame4_any a0 a1 a2 a3 b0 b1 b2 b3 v.1 u.1 W1 (F5.out).1 (F6.out).1 true HN_.out
 (with_reducible refine k5.mono ?_)
 clear k5
 rintro e w7 ⟨rfl, k0⟩
 have k6 := k9.below k0
 have k7 := ka.below k0
 have kb := Lib.hid (F5.out.kp (.of k0))
 have kc := Lib.hid (F6.out.kp (.of k0))
 have kd := Lib.hid (Blw k2.out k0)
 clear k0
 obtain ⟨kh, ki, kj, kk, kl, km, kn, ko, kq, kr⟩ := k6.f8
 obtain ⟨ks, kt, ku, kv, kw, kx, ky, kz, kA, kB⟩ := k7.f8
 go_wp2_with fail
 have k8 := rsame4_any a4 a5 a6 a7 b4 b5 b6 b7 v.2 u.2 w7 (kb.out).2 (kc.out).2 c HV.out
 (with_reducible refine k8.mono ?_)
 clear k8
 rintro e w34 ⟨rfl, k1⟩
 have ke := k6.below k1
 have kf := k7.below k1
 have kg := Lib.hid (Blw kd.out k1)
 clear k1
 obtain ⟨kC, kD, kE, kF, kG, kH, kI, kJ, kK, kL⟩ := ke.f8
 obtain ⟨kM, kN, kO, kP, kQ, kR, kS, kT, kU, kV⟩ := kf.f8
 go_wp2
 go_ret
 exact ⟨rfl, kg.out⟩
theorem tsame5_any (a0 a1 a2 a3 a4 a5 a6 a7 b0 b1 b2 b3 b4 b5 b6 b7 : Value) (v u : Rat × Rat) (w : World) (ha : VecV w a0 a1 a2 a3 a4 a5 a6 a7 v) (hb : VecV w b0 b1 b2 b3 b4 b5 b6 b7 u) (c : Bool) (hv : c = decide (v = u)) :
  Calls Try.prog 12 #[.agg #[a0, a1, a2, a3, a4, a5, a6, a7], .agg #[b0, b1, b2, b3, b4, b5, b6, b7]] w fun e w' => e = .returned (.bool c) ∧ Below w.heap.size w w' := by
 by_cases h : v.1 = u.1
 ·exact tsame5_1 a0 a1 a2 a3 a4 a5 a6 a7 b0 b1 b2 b3 b4 b5 b6 b7 v u w ha hb (by simp [h]) c (by rw [hv]; simp [Prod.ext_iff, h])
 ·have : c = false := by rw [hv]; simp [Prod.ext_iff, h]
  rw [this]
  exact tsame5_0 a0 a1 a2 a3 a4 a5 a6 a7 b0 b1 b2 b3 b4 b5 b6 b7 v u w ha hb (by simp [h])
set_option maxRecDepth 100000 in
theorem vof5_any (x y : Int) (w : World) (hx : W.Is64 x) (hy : W.Is64 y) : Calls Try.prog 53 #[.int .i64 x, .int .i64 y] w (RV (Rat.divInt x 1, Rat.divInt y 1) w) := by
 have HX := Lib.hid hx; have HY := Lib.hid hy
 have H1 := Lib.hid (show W.Is64 1 from ⟨by omega, by omega⟩)
 clear hx hy
 go_enter Try.func53, Try.ntmps53
 go_upto_region 1 with fail
 obtain ⟨W1, hW⟩ : ∃ W, W = w.alloc (.cells #[.bool false, .slice none 0 0, .bool false, .slice none 0 0, .bool false, .slice none 0 0, .bool false, .slice none 0 0] 28) := ⟨_, rfl⟩
 rw [← hW]
 have kc : Bx W1 (w.heap.size) 28 [.bool false, .slice none 0 0, .bool false, .slice none 0 0, .bool false, .slice none 0 0, .bool false, .slice none 0 0] := by rw [hW]; exact Bx.at_ rfl
 have hB : Below w.heap.size w W1 := by rw [hW]; exact (Below.refl _ _).alloc (by simp) _
 have kd := Lib.hid hB; clear hW hB
 go_upto_region 1 with fail
 generalize hF : ({ tmps := _, defers := _ } : Act) = F
 have ev0 : F.eval (.tmp 0) = .int .i64 x := by rw [← hF]; rfl
 have ev1 : F.eval (.tmp 1) = .int .i64 y := by rw [← hF]; rfl
 have hsz : ∀ d ∈ ([(5, []), (6, [0]), (7, []), (8, [2]), (9, [1, 3])] : List (Nat × List Nat)).map (·.1), d < F.tmps.size := by rw [← hF]; simp
 have HF := Lib.hid hF; clear hF
 refine wp_flow_tab false rfl 5 [(5, []), (6, [0]), (7, []), (8, [2]), (9, [1, 3])] [SC (.int .i64 x), SR (Rat.divInt x 1), SC (.int .i64 y), SR (Rat.divInt y 1), SV ((Rat.divInt x 1, Rat.divInt y 1))] [false, false, false, false, false] (by kernel_rfl) (by kernel_rfl) (by kernel_rfl) (by kernel_rfl) (by kernel_rfl) hsz ⟨SC.mono _, SR.mono _, SC.mono _, SR.mono _, SV.mono _, trivial⟩ ?_ ?_
 ·intro kq hkq a wx hB hp hs
  have hcase : kq = 0 ∨ kq = 1 ∨ kq = 2 ∨ kq = 3 ∨ kq = 4 := by omega
  rcases hcase with rfl | rfl | rfl | rfl | rfl
  ·clear hp
   have b0 := (hs 0 rfl).trans ev0
   simp [Act.eval] at b0
   exact ⟨_, rfl, Does.val (by simp [execOp, Act.eval, b0, go_sem]) rfl⟩
  ·obtain ⟨k0, -⟩ := hp
   have e0 : a.eval (.tmp 5) = .int .i64 x := k0
   exact ⟨_, rfl, Does.rr (f := 44) (call2 rfl (fun _ => by simp [go_sem]) e0 rfl) (rof4_any x 1 wx HX.out H1.out)⟩
  ·clear hp
   have b1 := (hs 1 rfl).trans ev1
   simp [Act.eval] at b1
   exact ⟨_, rfl, Does.val (by simp [execOp, Act.eval, b1, go_sem]) rfl⟩
  ·obtain ⟨k0, -⟩ := hp
   have e0 : a.eval (.tmp 7) = .int .i64 y := k0
   exact ⟨_, rfl, Does.rr (f := 44) (call2 rfl (fun _ => by simp [go_sem]) e0 rfl) (rof4_any y 1 wx HY.out H1.out)⟩
  ·obtain ⟨k0, ke, -⟩ := hp
   obtain ⟨x0, x1, x2, x3, e0, h_x⟩ := k0
   replace e0 : a.eval (.tmp 6) = .agg #[x0, x1, x2, x3] := e0
   obtain ⟨y0, y1, y2, y3, e1, h_y⟩ := ke
   replace e1 : a.eval (.tmp 8) = .agg #[y0, y1, y2, y3] := e1
   simp [Act.eval] at e0
   simp [Act.eval] at e1
   exact ⟨_, rfl, Does.val (by simp [execOp, Act.eval, e0, e1, go_sem]) ⟨x0, x1, x2, x3, y0, y1, y2, y3, rfl, ⟨h_x, h_y⟩⟩⟩
 ·intro val wx hB hsp hdis
  obtain ⟨z0, z1, z2, z3, z4, z5, z6, z7, e4, h_z⟩ := hsp 4 (by omega)
  replace e4 : val 4 = .agg #[z0, z1, z2, z3, z4, z5, z6, z7] := e4
  rw [← HF.out]
  change wpList _ _ _ [_] _ _
  simp only [puts, vals, List.map_cons, List.map_nil, List.foldl_cons, List.foldl_nil, if_true, Nat.zero_add, Nat.reduceAdd, e4, List.setIfInBounds_toArray, List.set_cons_succ, List.set_cons_zero]
  clear hsp hdis HF hsz e4
  clear ev0 ev1
  obtain ⟨w5, rfl⟩ : ∃ W : World, W = wx := ⟨_, rfl⟩
  have k1 := kc.below hB
  have kf := Lib.hid (Blw kd.out hB)
  have F8 := Lib.hid h_z
  have o_z0 := h_z.one0
  have o_z1 := h_z.one1
  have o_z2 := h_z.one2
  have o_z3 := h_z.one3
  have o_z4 := h_z.one4
  have o_z5 := h_z.one5
  have o_z6 := h_z.one6
  have o_z7 := h_z.one7
  clear h_z
  clear hB
  obtain ⟨kh, ki, kj, kk, kl, km, kn, ko, ks, kt⟩ := k1.f8
  go_wp2
  have k6 := (k1).set_ 0 (z0)
  have k7 := (k6).set_ 1 (z1)
  have k8 := (k7).set_ 2 (z2)
  have k9 := (k8).set_ 3 (z3)
  have ka := (k9).set_ 4 (z4)
  have kb := (ka).set_ 5 (z5)
  have kr := (kb).set_ 6 (z6)
  have hkp : Kp w5 ((((((((w5.setCell ⟨w.heap.size, 0, none⟩ (z0)).setCell ⟨w.heap.size, 1, none⟩ (z1)).setCell ⟨w.heap.size, 2, none⟩ (z2)).setCell ⟨w.heap.size, 3, none⟩ (z3)).setCell ⟨w.heap.size, 4, none⟩ (z4)).setCell ⟨w.heap.size, 5, none⟩ (z5)).setCell ⟨w.heap.size, 6, none⟩ (z6)).setCell ⟨w.heap.size, 7, none⟩ (z7)) := ((((((((Kp.refl _).set_ (k1) (by decide) _).set_ (k6) (by decide) _).set_ (k7) (by decide) _).set_ (k8) (by decide) _).set_ (k9) (by decide) _).set_ (ka) (by decide) _).set_ (kb) (by decide) _).set_ (kr) (by decide) _
  refine bodyPost_ret (v := .agg #[z0, z1, z2, z3, z4, z5, z6, z7]) (by simp [results, Try.results53, go_sem, kh, ki, kj, kk, kl, km, kn, ko]) rfl ⟨_, _, _, _, _, _, _, _, rfl, ?_, ((((((((kf.out).setCell (by simp) _).setCell (by simp) _).setCell (by simp) _).setCell (by simp) _).setCell (by simp) _).setCell (by simp) _).setCell (by simp) _).setCell (by simp) _⟩
  exact F8.out.kp hkp
set_option maxRecDepth 100000 in
theorem still5_any (w : World) : Calls Try.prog 23 #[] w (RV (Rat.divInt 1 1, 0) w) := by
 have H1 := Lib.hid (show W.Is64 1 from ⟨by omega, by omega⟩)
 go_enter Try.func23, Try.ntmps23
 go_upto_region 1 with fail
 obtain ⟨W1, hW⟩ : ∃ W, W = w.alloc (.cells #[.bool false, .slice none 0 0, .bool false, .slice none 0 0, .bool false, .slice none 0 0, .bool false, .slice none 0 0] 31) := ⟨_, rfl⟩
 rw [← hW]
 have k7 : Bx W1 (w.heap.size) 31 [.bool false, .slice none 0 0, .bool false, .slice none 0 0, .bool false, .slice none 0 0, .bool false, .slice none 0 0] := by rw [hW]; exact Bx.at_ rfl
 have hB : Below w.heap.size w W1 := by rw [hW]; exact (Below.refl _ _).alloc (by simp) _
 have k8 := Lib.hid hB; clear hW hB
 go_upto_region 1 with fail
 generalize hF : ({ tmps := _, defers := _ } : Act) = F
 have hsz : ∀ d ∈ ([(1, []), (2, [0])] : List (Nat × List Nat)).map (·.1), d < F.tmps.size := by rw [← hF]; simp
 have HF := Lib.hid hF; clear hF
 refine wp_flow_tab false rfl 2 [(1, []), (2, [0])] [SR (Rat.divInt 1 1), SV ((Rat.divInt 1 1, 0))] [false, false] (by kernel_rfl) (by kernel_rfl) (by kernel_rfl) (by kernel_rfl) (by kernel_rfl) hsz ⟨SR.mono _, SV.mono _, trivial⟩ ?_ ?_
 ·intro kq hkq a wx hB hp hs
  have hcase : kq = 0 ∨ kq = 1 := by omega
  rcases hcase with rfl | rfl
  ·clear hp
   exact ⟨_, rfl, Does.rr (f := 44) (call2 rfl (fun _ => by simp [go_sem]) rfl rfl) (rof4_any 1 1 wx H1.out H1.out)⟩
  ·obtain ⟨k9, -⟩ := hp
   obtain ⟨x0, x1, x2, x3, e0, h_x⟩ := k9
   replace e0 : a.eval (.tmp 1) = .agg #[x0, x1, x2, x3] := e0
   simp [Act.eval] at e0
   exact ⟨_, rfl, Does.val (by simp [execOp, Act.eval, e0, go_sem]) ⟨x0, x1, x2, x3, .bool false, .slice none 0 0, .bool false, .slice none 0 0, rfl, ⟨h_x, RatV.zero _⟩⟩⟩
 ·intro val wx hB hsp hdis
  obtain ⟨z0, z1, z2, z3, z4, z5, z6, z7, e1, h_z⟩ := hsp 1 (by omega)
  replace e1 : val 1 = .agg #[z0, z1, z2, z3, z4, z5, z6, z7] := e1
  rw [← HF.out]
  change wpList _ _ _ [_] _ _
  simp only [puts, vals, List.map_cons, List.map_nil, List.foldl_cons, List.foldl_nil, if_true, Nat.zero_add, e1, List.setIfInBounds_toArray, List.set_cons_succ, List.set_cons_zero]
  clear hsp hdis HF hsz e1
  obtain ⟨w5, rfl⟩ : ∃ W : World, W = wx := ⟨_, rfl⟩
  have k0 := k7.below hB
  have ka := Lib.hid (Blw k8.out hB)
  have F8 := Lib.hid h_z
  have o_z0 := h_z.one0
  have o_z1 := h_z.one1
  have o_z2 := h_z.one2
  have o_z3 := h_z.one3
  have o_z4 := h_z.one4
  have o_z5 := h_z.one5
  have o_z6 := h_z.one6
  have o_z7 := h_z.one7
  clear h_z
  clear hB
  obtain ⟨kc, kd, ke, kf, kg, kh, ki, kj, kl, km⟩ := k0.f8
  go_wp2
  have k1 := (k0).set_ 0 (z0)
  have k2 := (k1).set_ 1 (z1)
  have k3 := (k2).set_ 2 (z2)
  have k4 := (k3).set_ 3 (z3)
  have k5 := (k4).set_ 4 (z4)
  have k6 := (k5).set_ 5 (z5)
  have kk := (k6).set_ 6 (z6)
  have hkp : Kp w5 ((((((((w5.setCell ⟨w.heap.size, 0, none⟩ (z0)).setCell ⟨w.heap.size, 1, none⟩ (z1)).setCell ⟨w.heap.size, 2, none⟩ (z2)).setCell ⟨w.heap.size, 3, none⟩ (z3)).setCell ⟨w.heap.size, 4, none⟩ (z4)).setCell ⟨w.heap.size, 5, none⟩ (z5)).setCell ⟨w.heap.size, 6, none⟩ (z6)).setCell ⟨w.heap.size, 7, none⟩ (z7)) := ((((((((Kp.refl _).set_ (k0) (by decide) _).set_ (k1) (by decide) _).set_ (k2) (by decide) _).set_ (k3) (by decide) _).set_ (k4) (by decide) _).set_ (k5) (by decide) _).set_ (k6) (by decide) _).set_ (kk) (by decide) _
  refine bodyPost_ret (v := .agg #[z0, z1, z2, z3, z4, z5, z6, z7]) (by simp [results, Try.results23, go_sem, kc, kd, ke, kf, kg, kh, ki, kj]) rfl ⟨_, _, _, _, _, _, _, _, rfl, ?_, ((((((((ka.out).setCell (by simp) _).setCell (by simp) _).setCell (by simp) _).setCell (by simp) _).setCell (by simp) _).setCell (by simp) _).setCell (by simp) _).setCell (by simp) _⟩
  exact F8.out.kp hkp
end Go.Proofs.Ytonkbckgbfcnkaa
