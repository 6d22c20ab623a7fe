/-
 THE WALKS of the references of packages rat and plane: Compare, Side.
-/
import Derived.Test.YtonkbckgbfcnkaaGreatWalkPlF
import Derived.Test.YtonkbckgbfcnkaaGreatWalkPlD
import Derived.Test.YtonkbckgbfcnkaaGreatRef5A
namespace Go.Proofs.YtonkbckgbfcnkaaGreat
set_option maxHeartbeats 4000000
open Go.RowKit
attribute [local go_sem] run_store_one
set_option linter.unusedVariables false
set_option maxRecDepth 100000 in
theorem rcmp4_any (j k : Nat) (a0 a1 a2 a3 b0 b1 b2 b3 : Value) (r : Rat) (t : Rat) (w : World) (ha : RatV w a0 a1 a2 a3 r) (hb : RatV w b0 b1 b2 b3 t) (ba : Bq j r) (bb : Bq k t) (hk : 10 * (j + k) + 100 ≤ 800000000000) :
  Calls Tryz.prog 57 #[.agg #[a0, a1, a2, a3], .agg #[b0, b1, b2, b3]] w (fun e w' => e = .returned (.int .i64 (cmpQ r t)) ∧ Below w.heap.size w w') := by
 obtain ⟨qa0, qa1, qa2, qa3⟩ := ha.ones
 obtain ⟨qb0, qb1, qb2, qb3⟩ := hb.ones
 have Hha := Lib.hid ha; have Hhb := Lib.hid hb; have Hba := Lib.hid ba; have Hbb := Lib.hid bb
 clear ha hb ba bb
 rw [← cmp_cross]
 go_enter Tryz.func57, Tryz.ntmps57
 go_wp2_with fail
 generalize hW : (w.alloc _).alloc _ = W1
 obtain ⟨k7, k8, hB⟩ := box2 hW
 have k2 := Lib.hid hB; clear hW hB
 have F5 := Lib.hid (Hha.out.kp (.of k2.out))
 have F6 := Lib.hid (Hhb.out.kp (.of k2.out))
 go_upto_region 1 with fail
 generalize hW : W1.drew = W7
 have hB : Below W1.heap.size W1 W7 := by rw [← hW]; exact (Below.refl _ _).drew
 have k3 := k7.below hB
 have k4 := k8.below hB
 have k5 := Lib.hid (F5.out.kp (.of hB))
 have k6 := Lib.hid (F6.out.kp (.of hB))
 have kb := Lib.hid (Blw k2.out hB)
 clear hB
 generalize hF : ({ tmps := _, defers := _ } : Act) = F
 have ev2 : F.eval (.tmp 2) = .pointer (some ⟨w.heap.size, 0, none⟩) := by rw [← hF]; rfl
 have ev3 : F.eval (.tmp 3) = .pointer (some ⟨w.heap.size + 1, 0, none⟩) := by rw [← hF]; rfl
 have HF := Lib.hid hF; clear hF
 refine wp_flow_tab true hW 12 [(5, []), (6, [0]), (7, []), (8, [2]), (9, [1, 3]), (10, []), (11, [5]), (12, []), (13, [7]), (14, [6, 8]), (15, [4, 9]), (4, [10])] [SC (.pointer (some ⟨w.heap.size, 0, none⟩)), SC (.agg #[a0, a1]), SC (.agg #[b0, b1, b2, b3]), SI ((t.den : Int)), SI (r.num * t.den), SC (.pointer (some ⟨w.heap.size + 1, 0, none⟩)), SC (.agg #[b0, b1]), SC (.agg #[a0, a1, a2, a3]), SI ((r.den : Int)), SI (t.num * r.den), SC (.int .i64 (cmpZ (r.num * t.den) (t.num * r.den))), SC (.int .i64 (cmpZ (r.num * t.den) (t.num * r.den)))] [false, false, false, false, false, false, false, false, false, false, false, false] (by kernel_rfl) (by kernel_rfl) (by kernel_rfl) (by kernel_rfl) (by kernel_rfl) (by rw [← HF.out]; simp) ⟨SC.mono _, SC.mono _, SC.mono _, SI.mono _, SI.mono _, SC.mono _, SC.mono _, SC.mono _, SI.mono _, SI.mono _, SC.mono _, SC.mono _, trivial⟩ ?_ ?_
 ·intro kq hkq a wx hB hp hs
  have hcase : kq = 0 ∨ kq = 1 ∨ kq = 2 ∨ kq = 3 ∨ kq = 4 ∨ kq = 5 ∨ kq = 6 ∨ kq = 7 ∨ kq = 8 ∨ kq = 9 ∨ kq = 10 ∨ kq = 11 := by omega
  rcases hcase with rfl | rfl | rfl | rfl | rfl | rfl | rfl | rfl | rfl | rfl | rfl | rfl
  ·exact ⟨_, rfl, fa_Rat0 rfl ((hs 2 rfl).trans ev2)⟩
  ·obtain ⟨k0, -⟩ := hp
   exact ⟨_, rfl, ld_Int rfl k0 (k3.below hB) rfl rfl⟩
  ·exact ⟨_, rfl, ld_Rat rfl ((hs 3 rfl).trans ev3) (k4.below hB) rfl rfl rfl rfl⟩
  ·obtain ⟨k0, -⟩ := hp
   exact ⟨_, rfl, Does.ri (f := 81) (call1 rfl (fun _ => by simp [go_sem]) k0) (den4_any b0 b1 b2 b3 t wx (k6.out.kp (.of hB)))⟩
  ·obtain ⟨k0, k1, -⟩ := hp
   obtain ⟨d0, d1, e1, h_d⟩ := k1
   replace e1 : a.eval (.tmp 8) = .agg #[d0, d1] := e1
   exact ⟨_, rfl, Does.ri (f := 80) (call2 rfl (fun _ => by simp [go_sem]) k0 e1) (rmul3_any j k a0 a1 d0 d1 r.num t.den wx ((k5.out.kp (.of hB))).1 h_d Hba.out.1 Hbb.out.2 (by omega))⟩
  ·exact ⟨_, rfl, fa_Rat0 rfl ((hs 3 rfl).trans ev3)⟩
  ·obtain ⟨k0, -⟩ := hp
   exact ⟨_, rfl, ld_Int rfl k0 (k4.below hB) rfl rfl⟩
  ·exact ⟨_, rfl, ld_Rat rfl ((hs 2 rfl).trans ev2) (k3.below hB) rfl rfl rfl rfl⟩
  ·obtain ⟨k0, -⟩ := hp
   exact ⟨_, rfl, Does.ri (f := 81) (call1 rfl (fun _ => by simp [go_sem]) k0) (den4_any a0 a1 a2 a3 r wx (k5.out.kp (.of hB)))⟩
  ·obtain ⟨k0, k1, -⟩ := hp
   obtain ⟨e_0, e_1, e1, h_e_⟩ := k1
   replace e1 : a.eval (.tmp 13) = .agg #[e_0, e_1] := e1
   exact ⟨_, rfl, Does.ri (f := 80) (call2 rfl (fun _ => by simp [go_sem]) k0 e1) (rmul3_any k j b0 b1 e_0 e_1 t.num r.den wx ((k6.out.kp (.of hB))).1 h_e_ Hbb.out.1 Hba.out.2 (by omega))⟩
  ·obtain ⟨k0, k1, -⟩ := hp
   obtain ⟨u0, u1, e0, h_u⟩ := k0
   replace e0 : a.eval (.tmp 9) = .agg #[u0, u1] := e0
   obtain ⟨v0, v1, e1, h_v⟩ := k1
   replace e1 : a.eval (.tmp 14) = .agg #[v0, v1] := e1
   exact ⟨_, rfl, Does.rc (f := 85) (call2 rfl (fun _ => by simp [go_sem]) e0 e1) (rcmp3_any u0 u1 v0 v1 _ _ wx h_u h_v)⟩
  ·obtain ⟨k0, -⟩ := hp
   have e0 : a.eval (.tmp 15) = .int .i64 (cmpZ (r.num * t.den) (t.num * r.den)) := k0
   simp [Act.eval] at e0
   exact ⟨_, rfl, Does.val (by simp [execOp, Act.eval, e0, go_sem]) rfl⟩
 ·intro val wx hB hsp hdis
  have e11 : val 11 = .int .i64 (cmpZ (r.num * t.den) (t.num * r.den)) := hsp 11 (by omega)
  rw [← HF.out]
  change wpList _ _ _ [] _ _
  simp only [puts, vals, List.map_cons, List.map_nil, List.foldl_cons, List.foldl_nil, if_true, Nat.zero_add, Nat.reduceAdd, e11, List.setIfInBounds_toArray, List.set_cons_succ, List.set_cons_zero]
  clear hsp hdis HF e11
  clear ev2 ev3
  obtain ⟨w14, rfl⟩ : ∃ W : World, W = wx := ⟨_, rfl⟩
  have kc := Lib.hid (Blw kb.out hB)
  clear hB
  go_wp2
  go_ret
  exact ⟨rfl, kc.out⟩
set_option maxRecDepth 100000 in
theorem vcp5_0 (j k : Nat) (a0 a1 a2 a3 a4 a5 a6 a7 b0 b1 b2 b3 b4 b5 b6 b7 : Value) (v : Rat × Rat) (u : Rat × Rat) (w : World) (ha : VecV w a0 a1 a2 a3 a4 a5 a6 a7 v) (hb : VecV w b0 b1 b2 b3 b4 b5 b6 b7 u) (ba : Bv j v) (bb : Bv k u) (hd : cmpQ v.1 u.1 = 0) (hk : 10 * (j + k) + 100 ≤ 800000000000) :
  Calls Tryz.prog 26 #[.agg #[a0, a1, a2, a3, a4, a5, a6, a7], .agg #[b0, b1, b2, b3, b4, b5, b6, b7]] w (fun e w' => e = .returned (.int .i64 (cmpQ v.2 u.2)) ∧ Below w.heap.size w w') := by
 obtain ⟨qa0, qa1, qa2, qa3, qa4, qa5, qa6, qa7⟩ := ha.ones
 obtain ⟨qb0, qb1, qb2, qb3, qb4, qb5, qb6, qb7⟩ := hb.ones
 have Hha := Lib.hid ha; have Hhb := Lib.hid hb; have Hba := Lib.hid ba; have Hbb := Lib.hid bb
 clear ha hb ba bb
 have hq1 : (cmpQ v.1 u.1 == 0) = true := beq_iff_eq.2 hd
 have hq2 : (cmpQ v.1 u.1 != 0) = false := by simp [hd]
 clear hd
 go_enter Tryz.func26, Tryz.ntmps26
 go_wp2_with fail
 generalize hW : (w.alloc _).alloc _ = W1
 obtain ⟨k9, ka, hB⟩ := box2 hW
 have k2 := Lib.hid hB; clear hW hB
 have F5 := Lib.hid (Hha.out.kp (.of k2.out))
 have F6 := Lib.hid (Hhb.out.kp (.of k2.out))
 skip
 have k5 := rcmp4_any j k a0 a1 a2 a3 b0 b1 b2 b3 v.1 u.1 W1 (F5.out).1 (F6.out).1 Hba.out.1 Hbb.out.1 hk
 (with_reducible refine k5.mono ?_)
 clear k5
 rintro e w7 ⟨rfl, k0⟩
 have k6 := k9.below k0
 have k7 := ka.below k0
 have kb := Lib.hid (F5.out.kp (.of k0))
 have kc := Lib.hid (F6.out.kp (.of k0))
 have kd := Lib.hid (Blw k2.out k0)
 clear k0
 obtain ⟨kh, ki, kj, kk, kl, km, kn, ko, kq, kr⟩ := k6.f8
 obtain ⟨ks, kt, ku, kv, kw, kx, ky, kz, kA, kB⟩ := k7.f8
 go_wp2_with fail
 have k8 := rcmp4_any j k a4 a5 a6 a7 b4 b5 b6 b7 v.2 u.2 w7 (kb.out).2 (kc.out).2 Hba.out.2 Hbb.out.2 hk
 (with_reducible refine k8.mono ?_)
 clear k8
 rintro e w34 ⟨rfl, k1⟩
 have ke := k6.below k1
 have kf := k7.below k1
 have kg := Lib.hid (Blw kd.out k1)
 clear k1
 obtain ⟨kC, kD, kE, kF, kG, kH, kI, kJ, kK, kL⟩ := ke.f8
 obtain ⟨kM, kN, kO, kP, kQ, kR, kS, kT, kU, kV⟩ := kf.f8
 go_wp2
 go_ret
 exact ⟨rfl, kg.out⟩
set_option maxRecDepth 100000 in
theorem vcp5_1 (j k : Nat) (a0 a1 a2 a3 a4 a5 a6 a7 b0 b1 b2 b3 b4 b5 b6 b7 : Value) (v : Rat × Rat) (u : Rat × Rat) (w : World) (ha : VecV w a0 a1 a2 a3 a4 a5 a6 a7 v) (hb : VecV w b0 b1 b2 b3 b4 b5 b6 b7 u) (ba : Bv j v) (bb : Bv k u) (hd : cmpQ v.1 u.1 ≠ 0) (hk : 10 * (j + k) + 100 ≤ 800000000000) :
  Calls Tryz.prog 26 #[.agg #[a0, a1, a2, a3, a4, a5, a6, a7], .agg #[b0, b1, b2, b3, b4, b5, b6, b7]] w (fun e w' => e = .returned (.int .i64 (cmpQ v.1 u.1)) ∧ Below w.heap.size w w') := by
 obtain ⟨qa0, qa1, qa2, qa3, qa4, qa5, qa6, qa7⟩ := ha.ones
 obtain ⟨qb0, qb1, qb2, qb3, qb4, qb5, qb6, qb7⟩ := hb.ones
 have Hha := Lib.hid ha; have Hhb := Lib.hid hb; have Hba := Lib.hid ba; have Hbb := Lib.hid bb
 clear ha hb ba bb
 have hq1 : (cmpQ v.1 u.1 == 0) = false := beq_eq_false_iff_ne.2 hd
 have hq2 : (cmpQ v.1 u.1 != 0) = true := by simp [hd]
 clear hd
 go_enter Tryz.func26, Tryz.ntmps26
 go_wp2_with fail
 generalize hW : (w.alloc _).alloc _ = W1
 obtain ⟨k3, k4, hB⟩ := box2 hW
 have k1 := Lib.hid hB; clear hW hB
 have F5 := Lib.hid (Hha.out.kp (.of k1.out))
 have F6 := Lib.hid (Hhb.out.kp (.of k1.out))
 skip
 have k2 := rcmp4_any j k a0 a1 a2 a3 b0 b1 b2 b3 v.1 u.1 W1 (F5.out).1 (F6.out).1 Hba.out.1 Hbb.out.1 hk
 (with_reducible refine k2.mono ?_)
 clear k2
 rintro e w7 ⟨rfl, k0⟩
 have k7 := k3.below k0
 have k8 := k4.below k0
 have k9 := Lib.hid (Blw k1.out k0)
 clear k0
 obtain ⟨ka, kb, kc, kd, ke, kf, kg, kh, ki, kj⟩ := k7.f8
 obtain ⟨kk, kl, km, kn, ko, kq, kr, ks, kt, ku⟩ := k8.f8
 go_wp2
 go_ret
 exact ⟨rfl, k9.out⟩
theorem vcp5_any (j k : Nat) (a0 a1 a2 a3 a4 a5 a6 a7 b0 b1 b2 b3 b4 b5 b6 b7 : Value) (v u : Rat × Rat) (w : World) (ha : VecV w a0 a1 a2 a3 a4 a5 a6 a7 v) (hb : VecV w b0 b1 b2 b3 b4 b5 b6 b7 u) (ba : Bv j v) (bb : Bv k u) (hk : 10 * (j + k) + 100 ≤ 800000000000) :
  Calls Tryz.prog 26 #[.agg #[a0, a1, a2, a3, a4, a5, a6, a7], .agg #[b0, b1, b2, b3, b4, b5, b6, b7]] w (fun e w' => e = .returned (.int .i64 (cmpV v u)) ∧ Below w.heap.size w w') := by
 unfold cmpV
 by_cases hd : cmpQ v.1 u.1 = 0
 ·rw [if_pos hd]; exact vcp5_0 j k a0 a1 a2 a3 a4 a5 a6 a7 b0 b1 b2 b3 b4 b5 b6 b7 v u w ha hb ba bb hd hk
 ·rw [if_neg hd]; exact vcp5_1 j k a0 a1 a2 a3 a4 a5 a6 a7 b0 b1 b2 b3 b4 b5 b6 b7 v u w ha hb ba bb hd hk
set_option maxRecDepth 100000 in
theorem vside5_any (k : Nat) (a0 a1 a2 a3 a4 a5 a6 a7 b0 b1 b2 b3 b4 b5 b6 b7 c0 c1 c2 c3 c4 c5 c6 c7 : Value) (u : Rat × Rat) (v : Rat × Rat) (x_ : Rat × Rat) (w : World) (ha : VecV w a0 a1 a2 a3 a4 a5 a6 a7 u) (hb : VecV w b0 b1 b2 b3 b4 b5 b6 b7 v) (hc : VecV w c0 c1 c2 c3 c4 c5 c6 c7 x_) (ba : Bv k u) (bb : Bv k v) (bc : Bv k x_) (hk : 100 * k + 1000 ≤ 800000000000) :
  Calls Tryz.prog 24 #[.agg #[a0, a1, a2, a3, a4, a5, a6, a7], .agg #[b0, b1, b2, b3, b4, b5, b6, b7], .agg #[c0, c1, c2, c3, c4, c5, c6, c7]] w (fun e w' => e = .returned (.int .i64 (vside u v x_)) ∧ Below w.heap.size w w') := by
 obtain ⟨qa0, qa1, qa2, qa3, qa4, qa5, qa6, qa7⟩ := ha.ones
 obtain ⟨qb0, qb1, qb2, qb3, qb4, qb5, qb6, qb7⟩ := hb.ones
 obtain ⟨qc0, qc1, qc2, qc3, qc4, qc5, qc6, qc7⟩ := hc.ones
 have Hha := Lib.hid ha; have Hhb := Lib.hid hb; have Hhc := Lib.hid hc; have Hba := Lib.hid ba; have Hbb := Lib.hid bb; have Hbc := Lib.hid bc
 clear ha hb hc ba bb bc
 go_enter Tryz.func24, Tryz.ntmps24
 go_wp2_with fail
 generalize hW : ((w.alloc _).alloc _).alloc _ = W1
 obtain ⟨k9, ka, kb, hB⟩ := box3 hW
 have k2 := Lib.hid hB; clear hW hB
 have F6 := Lib.hid (Hha.out.kp (.of k2.out))
 have F7 := Lib.hid (Hhb.out.kp (.of k2.out))
 have F8 := Lib.hid (Hhc.out.kp (.of k2.out))
 go_upto_region 1 with fail
 generalize hW : W1.drew = W9
 have hB : Below W1.heap.size W1 W9 := by rw [← hW]; exact (Below.refl _ _).drew
 have k3 := k9.below hB
 have kf := ka.below hB
 have kg := kb.below hB
 have k4 := Lib.hid (F6.out.kp (.of hB))
 have kh := Lib.hid (F7.out.kp (.of hB))
 have ki := Lib.hid (F8.out.kp (.of hB))
 have kj := Lib.hid (Blw k2.out hB)
 clear hB
 generalize hF : ({ tmps := _, defers := _ } : Act) = F
 have ev3 : F.eval (.tmp 3) = .pointer (some ⟨w.heap.size, 0, none⟩) := by rw [← hF]; rfl
 have ev4 : F.eval (.tmp 4) = .pointer (some ⟨w.heap.size + 1, 0, none⟩) := by rw [← hF]; rfl
 have ev5 : F.eval (.tmp 5) = .pointer (some ⟨w.heap.size + 1 + 1, 0, none⟩) := by rw [← hF]; rfl
 have HF := Lib.hid hF; clear hF
 refine wp_flow_tab true hW 9 [(7, []), (8, []), (9, [0, 1]), (10, []), (11, []), (12, [3, 4]), (13, [2, 5]), (14, [6]), (6, [7])] [SC (.agg #[b0, b1, b2, b3, b4, b5, b6, b7]), SC (.agg #[a0, a1, a2, a3, a4, a5, a6, a7]), SV (vsub v u), SC (.agg #[c0, c1, c2, c3, c4, c5, c6, c7]), SC (.agg #[a0, a1, a2, a3, a4, a5, a6, a7]), SV (vsub x_ u), SR (vcrs (vsub v u) (vsub x_ u)), SC (.int .i64 (vside u v x_)), SC (.int .i64 (vside u v x_))] [false, false, false, false, false, false, false, false, false] (by kernel_rfl) (by kernel_rfl) (by kernel_rfl) (by kernel_rfl) (by kernel_rfl) (by rw [← HF.out]; simp) ⟨SC.mono _, SC.mono _, SV.mono _, SC.mono _, SC.mono _, SV.mono _, SR.mono _, SC.mono _, SC.mono _, trivial⟩ ?_ ?_
 ·intro kq hkq a wx hB hp hs
  have hcase : kq = 0 ∨ kq = 1 ∨ kq = 2 ∨ kq = 3 ∨ kq = 4 ∨ kq = 5 ∨ kq = 6 ∨ kq = 7 ∨ kq = 8 := by omega
  rcases hcase with rfl | rfl | rfl | rfl | rfl | rfl | rfl | rfl | rfl
  ·exact ⟨_, rfl, ld_Vec rfl ((hs 4 rfl).trans ev4) (kf.below hB) rfl rfl rfl rfl rfl rfl rfl rfl⟩
  ·exact ⟨_, rfl, ld_Vec rfl ((hs 3 rfl).trans ev3) (k3.below hB) rfl rfl rfl rfl rfl rfl rfl rfl⟩
  ·obtain ⟨k0, k1, -⟩ := hp
   exact ⟨_, rfl, Does.rv (f := 22) (call2 rfl (fun _ => by simp [go_sem]) k0 k1) (vsub5_any (k) (k) b0 b1 b2 b3 b4 b5 b6 b7 a0 a1 a2 a3 a4 a5 a6 a7 (v) (u) wx (kh.out.kp (.of hB)) (k4.out.kp (.of hB)) Hbb.out Hba.out (by omega))⟩
  ·exact ⟨_, rfl, ld_Vec rfl ((hs 5 rfl).trans ev5) (kg.below hB) rfl rfl rfl rfl rfl rfl rfl rfl⟩
  ·exact ⟨_, rfl, ld_Vec rfl ((hs 3 rfl).trans ev3) (k3.below hB) rfl rfl rfl rfl rfl rfl rfl rfl⟩
  ·obtain ⟨k0, k1, -⟩ := hp
   exact ⟨_, rfl, Does.rv (f := 22) (call2 rfl (fun _ => by simp [go_sem]) k0 k1) (vsub5_any (k) (k) c0 c1 c2 c3 c4 c5 c6 c7 a0 a1 a2 a3 a4 a5 a6 a7 (x_) (u) wx (ki.out.kp (.of hB)) (k4.out.kp (.of hB)) Hbc.out Hba.out (by omega))⟩
  ·obtain ⟨k0, k1, -⟩ := hp
   obtain ⟨m0, m1, m2, m3, m4, m5, m6, m7, e0, h_m⟩ := k0
   replace e0 : a.eval (.tmp 9) = .agg #[m0, m1, m2, m3, m4, m5, m6, m7] := e0
   obtain ⟨n0, n1, n2, n3, n4, n5, n6, n7, e1, h_n⟩ := k1
   replace e1 : a.eval (.tmp 12) = .agg #[n0, n1, n2, n3, n4, n5, n6, n7] := e1
   exact ⟨_, rfl, Does.rr (f := 55) (call2 rfl (fun _ => by simp [go_sem]) e0 e1) (vcrs5_any (k + k + 1) (k + k + 1) m0 m1 m2 m3 m4 m5 m6 m7 n0 n1 n2 n3 n4 n5 n6 n7 (vsub v u) (vsub x_ u) wx h_m h_n (Hbb.out.sub Hba.out) (Hbc.out.sub Hba.out) (by omega))⟩
  ·obtain ⟨k0, -⟩ := hp
   obtain ⟨l0, l1, l2, l3, e0, h_l⟩ := k0
   replace e0 : a.eval (.tmp 13) = .agg #[l0, l1, l2, l3] := e0
   exact ⟨_, rfl, Does.rc (f := 54) (call1 rfl (fun _ => by simp [go_sem]) e0) (rsign4_any l0 l1 l2 l3 _ wx h_l)⟩
  ·obtain ⟨k0, -⟩ := hp
   have e0 : a.eval (.tmp 14) = .int .i64 (vside u v x_) := k0
   simp [Act.eval] at e0
   exact ⟨_, rfl, Does.val (by simp [execOp, Act.eval, e0, go_sem]) rfl⟩
 ·intro val wx hB hsp hdis
  have e8 : val 8 = .int .i64 (vside u v x_) := hsp 8 (by omega)
  rw [← HF.out]
  change wpList _ _ _ [] _ _
  simp only [puts, vals, List.map_cons, List.map_nil, List.foldl_cons, List.foldl_nil, if_true, Nat.zero_add, Nat.reduceAdd, e8, List.setIfInBounds_toArray, List.set_cons_succ, List.set_cons_zero]
  clear hsp hdis HF e8
  clear ev3 ev4 ev5
  obtain ⟨w18, rfl⟩ : ∃ W : World, W = wx := ⟨_, rfl⟩
  have kk := Lib.hid (Blw kj.out hB)
  clear hB
  go_wp2
  go_ret
  exact ⟨rfl, kk.out⟩
end Go.Proofs.YtonkbckgbfcnkaaGreat
