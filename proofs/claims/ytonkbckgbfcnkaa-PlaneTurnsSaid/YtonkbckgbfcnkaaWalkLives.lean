/-
 THE WALK of lives: the examples of the section.
-/
import Derived.Test.YtonkbckgbfcnkaaWalkPlC
import Derived.Test.YtonkbckgbfcnkaaWalkPlD
import Derived.Test.YtonkbckgbfcnkaaWalkValid
import Derived.Test.YtonkbckgbfcnkaaRef5B
namespace Go.Proofs.Ytonkbckgbfcnkaa
set_option maxHeartbeats 8000000
open Go.RowKit
attribute [local go_sem] run_store_one
set_option linter.unusedVariables false
theorem lv1 : valn (Rat.divInt 5 1, Rat.divInt 0 1) (Rat.divInt 3 1, Rat.divInt 4 1) = ((Rat.divInt 3 5, Rat.divInt 4 5), 0) := by decide +kernel
theorem lv2 : valn (Rat.divInt 1 1, Rat.divInt 0 1) (Rat.divInt 1 1, Rat.divInt 1 1) = ((0, 0), 21) := by decide +kernel
theorem lv3 : valn (Rat.divInt 1 1, Rat.divInt 0 1) (Rat.divInt 0 1, Rat.divInt 0 1) = ((0, 0), 1) := by decide +kernel
theorem lv4 : true = decide (vrot (Rat.divInt 3 5, Rat.divInt 4 5) (Rat.divInt 5 1, Rat.divInt 10 1) = (Rat.divInt (-5) 1, Rat.divInt 10 1)) := by decide +kernel
theorem lv5 : true = decide (vput ((0, Rat.divInt 1 1), (Rat.divInt 1 1, Rat.divInt 2 1)) (Rat.divInt 3 1, Rat.divInt 0 1) = (Rat.divInt 1 1, Rat.divInt 5 1)) := by decide +kernel
theorem lv6 : false = decide ((Rat.divInt 1 1, Rat.divInt 2 1) = (Rat.divInt 1 1, Rat.divInt 3 1)) := by decide +kernel
theorem lv7 : true = decide ((vinv ((0, Rat.divInt 1 1), (Rat.divInt 1 1, Rat.divInt 2 1))).2 = (Rat.divInt (-2) 1, Rat.divInt 1 1)) := by decide +kernel
theorem lv8 : vside (Rat.divInt 0 1, Rat.divInt 0 1) (Rat.divInt 2 1, Rat.divInt 0 1) (Rat.divInt 1 1, Rat.divInt 1 1) = 1 := by decide +kernel
theorem lv9 : true = decide (((Rat.divInt 3 5, Rat.divInt 4 5) : Rat × Rat).1 * ((Rat.divInt 3 5, Rat.divInt 4 5) : Rat × Rat).1 + ((Rat.divInt 3 5, Rat.divInt 4 5) : Rat × Rat).2 * ((Rat.divInt 3 5, Rat.divInt 4 5) : Rat × Rat).2 = 1) := by decide +kernel
theorem lv10 : false = decide (((0, 0) : Rat × Rat).1 * ((0, 0) : Rat × Rat).1 + ((0, 0) : Rat × Rat).2 * ((0, 0) : Rat × Rat).2 = 1) := by decide +kernel
theorem bv_of (x y : Int) (hx : x.natAbs < 32) (hy : y.natAbs < 32) : Bv 5 (Rat.divInt x 1, Rat.divInt y 1) := ⟨Bq.divInt hx (by unfold I.Bd; decide) (by omega), Bq.divInt hy (by unfold I.Bd; decide) (by omega)⟩
theorem bv_t : Bv 5 (Rat.divInt 3 5, Rat.divInt 4 5) := ⟨Bq.divInt (by unfold I.Bd; decide) (by unfold I.Bd; decide) (by omega), Bq.divInt (by unfold I.Bd; decide) (by unfold I.Bd; decide) (by omega)⟩
theorem bv_p : Bv 5 (((0, Rat.divInt 1 1), (Rat.divInt 1 1, Rat.divInt 2 1))).1 ∧ Bv 5 (((0, Rat.divInt 1 1), (Rat.divInt 1 1, Rat.divInt 2 1))).2 := ⟨⟨Bq.zero (by omega), Bq.divInt (by unfold I.Bd; decide) (by unfold I.Bd; decide) (by omega)⟩, bv_of 1 2 (by decide) (by decide)⟩
theorem bv_0 : Bv 5 ((0, 0) : Rat × Rat) := ⟨Bq.zero (by omega), Bq.zero (by omega)⟩
set_option maxRecDepth 100000 in
theorem lives_any (w : World) : Calls Try.prog 14 #[] w fun e w' => e = .returned (.bool true) ∧ Below w.heap.size w w' := by
 go_enter Try.func14, Try.ntmps14
 go_wp2_with fail
 have HBREFL := Lib.hid (Below.refl w.heap.size w)
 have kM := vof_any (5) (0) w ⟨by omega, by omega⟩ ⟨by omega, by omega⟩
 (with_reducible refine kM.mono ?_)
 clear kM
 rintro e w1 ⟨ta0, ta1, ta2, ta3, ta4, ta5, ta6, ta7, rfl, kh, kN⟩
 have HB3 := Lib.hid (Blw HBREFL.out kN)
 have F4 := Lib.hid kh
 obtain ⟨o_ta0, o_ta1, o_ta2, o_ta3, o_ta4, o_ta5, o_ta6, o_ta7⟩ := kh.ones
 clear kh kN
 go_wp2_with fail
 have kO := vof_any (3) (4) w1 ⟨by omega, by omega⟩ ⟨by omega, by omega⟩
 (with_reducible refine kO.mono ?_)
 clear kO
 rintro e w5 ⟨tb0, tb1, tb2, tb3, tb4, tb5, tb6, tb7, rfl, ki, kj⟩
 have F7 := Lib.hid (F4.out.kp (.of kj))
 have HB8 := Lib.hid (Blw HB3.out kj)
 have F9 := Lib.hid ki
 obtain ⟨o_tb0, o_tb1, o_tb2, o_tb3, o_tb4, o_tb5, o_tb6, o_tb7⟩ := ki.ones
 clear ki kj
 go_wp2_with fail
 have kk := valn_any 5 5 ta0 ta1 ta2 ta3 ta4 ta5 ta6 ta7 tb0 tb1 tb2 tb3 tb4 tb5 tb6 tb7 _ _ w5 F7.out F9.out (bv_of (5) (0) (by decide) (by decide)) (bv_of (3) (4) (by decide) (by decide)) (by omega)
 rw [lv1] at kk
 (with_reducible refine kk.mono ?_)
 clear kk
 rintro e w10 ⟨t0, t1, t2, t3, t4, t5, t6, t7, rfl, kl, kP⟩
 have k0q := Lib.hid (Blw HB8.out kP)
 have F15 := Lib.hid kl
 obtain ⟨o_t0, o_t1, o_t2, o_t3, o_t4, o_t5, o_t6, o_t7⟩ := kl.ones
 clear kl kP
 go_wp2_with fail
 generalize hW : w10.alloc _ = W16
 obtain ⟨k0s, hB⟩ := box1 hW
 clear hW
 have F20 := Lib.hid (F15.out.kp (.of hB))
 have k0u := Lib.hid (Blw k0q.out hB)
 clear hB
 have kQ := vof_any (1) (0) W16 ⟨by omega, by omega⟩ ⟨by omega, by omega⟩
 (with_reducible refine kQ.mono ?_)
 clear kQ
 rintro e w22 ⟨ua0, ua1, ua2, ua3, ua4, ua5, ua6, ua7, rfl, km, kf⟩
 have kR := k0s.below kf
 have F27 := Lib.hid (F20.out.kp (.of kf))
 have k0w := Lib.hid (Blw k0u.out kf)
 have F29 := Lib.hid km
 obtain ⟨o_ua0, o_ua1, o_ua2, o_ua3, o_ua4, o_ua5, o_ua6, o_ua7⟩ := km.ones
 clear km kf
 obtain ⟨k1j, k1k, k1l, k1m, k1n, k1o, k1p, k1q, k1r, l39⟩ := kR.f8
 go_wp2_with fail
 have kS := vof_any (1) (1) w22 ⟨by omega, by omega⟩ ⟨by omega, by omega⟩
 (with_reducible refine kS.mono ?_)
 clear kS
 rintro e w40 ⟨ub0, ub1, ub2, ub3, ub4, ub5, ub6, ub7, rfl, kn, kc⟩
 have kT := kR.below kc
 have F45 := Lib.hid (F27.out.kp (.of kc))
 have F46 := Lib.hid (F29.out.kp (.of kc))
 have k0A := Lib.hid (Blw k0w.out kc)
 have F48 := Lib.hid kn
 obtain ⟨o_ub0, o_ub1, o_ub2, o_ub3, o_ub4, o_ub5, o_ub6, o_ub7⟩ := kn.ones
 clear kn kc
 obtain ⟨k1t, k1u, k1v, k1w, k1x, k1y, k1z, k1A, k1B, l58⟩ := kT.f8
 go_wp2_with fail
 have ko := valn_any 5 5 ua0 ua1 ua2 ua3 ua4 ua5 ua6 ua7 ub0 ub1 ub2 ub3 ub4 ub5 ub6 ub7 _ _ w40 F46.out F48.out (bv_of (1) (0) (by decide) (by decide)) (bv_of (1) (1) (by decide) (by decide)) (by omega)
 rw [lv2] at ko
 (with_reducible refine ko.mono ?_)
 clear ko
 rintro e w59 ⟨u0, u1, u2, u3, u4, u5, u6, u7, rfl, kU, kg⟩
 have kr := kT.below kg
 have F64 := Lib.hid (F45.out.kp (.of kg))
 have k0D := Lib.hid (Blw k0A.out kg)
 obtain ⟨o_u0, o_u1, o_u2, o_u3, o_u4, o_u5, o_u6, o_u7⟩ := kU.ones
 clear kU kg
 obtain ⟨k1D, k1E, k1F, k1G, k1H, k1I, k1J, k1K, k1L, l78⟩ := kr.f8
 go_wp2_with fail
 generalize hW : w59.alloc _ = W79
 obtain ⟨k0E, hB⟩ := box1 hW
 have k1N := kr.lt
 clear hW
 have k0F := kr.below hB
 have F85 := Lib.hid (F64.out.kp (.of hB))
 have k0H := Lib.hid (Blw k0D.out hB)
 clear hB
 have kV := vof_any (1) (0) W79 ⟨by omega, by omega⟩ ⟨by omega, by omega⟩
 (with_reducible refine kV.mono ?_)
 clear kV
 rintro e w90 ⟨va0, va1, va2, va3, va4, va5, va6, va7, rfl, ks, kd⟩
 have kW := k0F.below kd
 have kX := k0E.below kd
 have F96 := Lib.hid (F85.out.kp (.of kd))
 have k0J := Lib.hid (Blw k0H.out kd)
 have k0K := Lib.hid ks
 obtain ⟨o_va0, o_va1, o_va2, o_va3, o_va4, o_va5, o_va6, o_va7⟩ := ks.ones
 clear ks kd
 obtain ⟨k1O, k1P, k1Q, k1R, k1S, k1T, k1U, k1V, k1W, k1X⟩ := kW.f8
 obtain ⟨k1Y, k1Z, k20, k21, k22, k23, k24, k25, k26, k27⟩ := kX.f8
 go_wp2_with fail
 have kY := vof_any (0) (0) w90 ⟨by omega, by omega⟩ ⟨by omega, by omega⟩
 (with_reducible refine kY.mono ?_)
 clear kY
 rintro e w122 ⟨vb0, vb1, vb2, vb3, vb4, vb5, vb6, vb7, rfl, kt, kb⟩
 have kZ := kW.below kb
 have k00 := kX.below kb
 have k0L := Lib.hid (F96.out.kp (.of kb))
 have k0M := Lib.hid (k0K.out.kp (.of kb))
 have k0N := Lib.hid (Blw k0J.out kb)
 have k0O := Lib.hid kt
 obtain ⟨o_vb0, o_vb1, o_vb2, o_vb3, o_vb4, o_vb5, o_vb6, o_vb7⟩ := kt.ones
 clear kt kb
 obtain ⟨k28, k29, k2a, k2b, k2c, k2d, k2e, k2f, k2g, k2h⟩ := kZ.f8
 obtain ⟨k2i, k2j, k2k, k2l, k2m, k2n, k2o, k2p, k2q, k2r⟩ := k00.f8
 go_wp2_with fail
 have ku := valn_any 5 5 va0 va1 va2 va3 va4 va5 va6 va7 vb0 vb1 vb2 vb3 vb4 vb5 vb6 vb7 _ _ w122 k0M.out k0O.out (bv_of (1) (0) (by decide) (by decide)) (bv_of (0) (0) (by decide) (by decide)) (by omega)
 rw [lv3] at ku
 (with_reducible refine ku.mono ?_)
 clear ku
 rintro e w155 ⟨v0, v1, v2, v3, v4, v5, v6, v7, rfl, k01, ke⟩
 have kv := kZ.below ke
 have kw := k00.below ke
 have k0P := Lib.hid (k0L.out.kp (.of ke))
 have k0Q := Lib.hid (Blw k0N.out ke)
 obtain ⟨o_v0, o_v1, o_v2, o_v3, o_v4, o_v5, o_v6, o_v7⟩ := k01.ones
 clear k01 ke
 obtain ⟨k2s, k2t, k2u, k2v, k2w, k2x, k2y, k2z, k2A, k2B⟩ := kv.f8
 obtain ⟨k2C, k2D, k2E, k2F, k2G, k2H, k2I, k2J, k2K, k2L⟩ := kw.f8
 go_upto_region 4 with fail
 generalize hW : w155.alloc _ = W189
 obtain ⟨k02, hB⟩ := box1 hW
 have k2M := kv.lt
 have k2N := kw.lt
 clear hW
 have k03 := kv.below hB
 have k04 := kw.below hB
 have k0R := Lib.hid (k0P.out.kp (.of hB))
 have k05 := Lib.hid (Blw k0Q.out hB)
 clear hB
 go_upto_region 4 with fail
 have k2O := k03.lt
 have k2P := k04.lt
 have k2Q := k02.lt
 generalize hF : ({ tmps := _, defers := _ } : Act) = F
 have HF := Lib.hid hF; clear hF
 refine wp_flow_tab false rfl 5 [(28, []), (29, [0]), (30, []), (31, [1, 2]), (7, [])] [SR (Rat.divInt 1 1), SV ((0, Rat.divInt 1 1)), SV ((Rat.divInt 1 1, Rat.divInt 2 1)), SPl (((0, Rat.divInt 1 1), (Rat.divInt 1 1, Rat.divInt 2 1))), SB W189 62 [.bool false, .slice none 0 0, .bool false, .slice none 0 0, .bool false, .slice none 0 0, .bool false, .slice none 0 0, .bool false, .slice none 0 0, .bool false, .slice none 0 0, .bool false, .slice none 0 0, .bool false, .slice none 0 0]] [false, false, false, false, true] (by kernel_rfl) (by kernel_rfl) (by kernel_rfl) (by kernel_rfl) (by kernel_rfl) (by rw [← HF.out]; simp) ⟨SR.mono _, SV.mono _, SV.mono _, SPl.mono _, SB.mono _ _ _, trivial⟩ ?_ ?_
 ·intro kq hkq a wx hB hp hs
  have hcase : kq = 0 ∨ kq = 1 ∨ kq = 2 ∨ kq = 3 ∨ kq = 4 := by omega
  rcases hcase with rfl | rfl | rfl | rfl | rfl
  ·clear hp
   exact ⟨_, rfl, Does.rr (f := 44) (call2 rfl (fun _ => by simp [go_sem]) rfl rfl) (rof4_any 1 1 wx ⟨by omega, by omega⟩ ⟨by omega, by omega⟩)⟩
  ·obtain ⟨k8, -⟩ := hp
   obtain ⟨m0, m1, m2, m3, e0, h_m⟩ := k8
   replace e0 : a.eval (.tmp 28) = .agg #[m0, m1, m2, m3] := e0
   simp [Act.eval] at e0
   exact ⟨_, rfl, Does.val (by simp [execOp, Act.eval, e0, go_sem]) ⟨.bool false, .slice none 0 0, .bool false, .slice none 0 0, m0, m1, m2, m3, rfl, ⟨RatV.zero _, h_m⟩⟩⟩
  ·clear hp
   exact ⟨_, rfl, Does.rv (f := 53) (call2 rfl (fun _ => by simp [go_sem]) rfl rfl) (vof5_any (1) (2) wx ⟨by omega, by omega⟩ ⟨by omega, by omega⟩)⟩
  ·obtain ⟨k8, k9, -⟩ := hp
   obtain ⟨q0, q1, q2, q3, q4, q5, q6, q7, e0, h_q⟩ := k8
   replace e0 : a.eval (.tmp 29) = .agg #[q0, q1, q2, q3, q4, q5, q6, q7] := e0
   obtain ⟨n0, n1, n2, n3, n4, n5, n6, n7, e1, h_n⟩ := k9
   replace e1 : a.eval (.tmp 30) = .agg #[n0, n1, n2, n3, n4, n5, n6, n7] := e1
   simp [Act.eval] at e0
   simp [Act.eval] at e1
   exact ⟨_, rfl, Does.val (by simp [execOp, Act.eval, e0, e1, go_sem]) ⟨q0, q1, q2, q3, q4, q5, q6, q7, n0, n1, n2, n3, n4, n5, n6, n7, rfl, ⟨h_q, h_n⟩⟩⟩
  ·clear hp
   exact ⟨_, rfl, Does.box (by simp [execOp, go_sem]) hB⟩
 ·intro val wx hB hsp hdis
  obtain ⟨pp0, pp1, pp2, pp3, pp4, pp5, pp6, pp7, pp8, pp9, pp10, pp11, pp12, pp13, pp14, pp15, e3, h_pp⟩ := hsp 3 (by omega)
  replace e3 : val 3 = .agg #[pp0, pp1, pp2, pp3, pp4, pp5, pp6, pp7, pp8, pp9, pp10, pp11, pp12, pp13, pp14, pp15] := e3
  obtain ⟨g208_4, e4, hg208_4, hbx208_4⟩ := hsp 4 (by omega)
  have hgw208_4 : w.heap.size ≤ g208_4 := Nat.le_trans k05.out.size hg208_4
  have hgl208_4 := hbx208_4.lt
  rw [← HF.out]
  change wpList _ _ _ [_] _ _
  simp only [puts, vals, List.map_cons, List.map_nil, List.foldl_cons, List.foldl_nil, if_true, Nat.zero_add, Nat.reduceAdd, e3, e4, List.setIfInBounds_toArray, List.set_cons_succ, List.set_cons_zero]
  clear hsp hdis HF e3 e4
  obtain ⟨w209, rfl⟩ : ∃ W : World, W = wx := ⟨_, rfl⟩
  have k0S := k03.below hB
  have k0T := k04.below hB
  have k0U := k02.below hB
  have k0V := Lib.hid (k0R.out.kp (.of hB))
  have k0W := Lib.hid (Blw k05.out hB)
  have k0X := Lib.hid h_pp
  obtain ⟨o_pp0, o_pp1, o_pp2, o_pp3, o_pp4, o_pp5, o_pp6, o_pp7, o_pp8, o_pp9, o_pp10, o_pp11, o_pp12, o_pp13, o_pp14, o_pp15⟩ := h_pp.ones
  clear h_pp
  clear hB
  obtain ⟨k2R, k2S, k2T, k2U, k2V, k2W, k2X, k2Y, k2Z, k30, k31, k32, k33, k34, k35, k36, k37, k38⟩ := hbx208_4.f16
  go_upto_region 5 with fail
  have kx := (hbx208_4).set_ 0 (pp0)
  have ky := (kx).set_ 1 (pp1)
  have kz := (ky).set_ 2 (pp2)
  have kA := (kz).set_ 3 (pp3)
  have kB := (kA).set_ 4 (pp4)
  have kC := (kB).set_ 5 (pp5)
  have kD := (kC).set_ 6 (pp6)
  have kE := (kD).set_ 7 (pp7)
  have kF := (kE).set_ 8 (pp8)
  have kG := (kF).set_ 9 (pp9)
  have kH := (kG).set_ 10 (pp10)
  have kI := (kH).set_ 11 (pp11)
  have kJ := (kI).set_ 12 (pp12)
  have kK := (kJ).set_ 13 (pp13)
  have kL := (kK).set_ 14 (pp14)
  have k06 := (kL).set_ 15 (pp15)
  have hkp : Kp w209 ((((((((((((((((w209.setCell ⟨g208_4, 0, none⟩ (pp0)).setCell ⟨g208_4, 1, none⟩ (pp1)).setCell ⟨g208_4, 2, none⟩ (pp2)).setCell ⟨g208_4, 3, none⟩ (pp3)).setCell ⟨g208_4, 4, none⟩ (pp4)).setCell ⟨g208_4, 5, none⟩ (pp5)).setCell ⟨g208_4, 6, none⟩ (pp6)).setCell ⟨g208_4, 7, none⟩ (pp7)).setCell ⟨g208_4, 8, none⟩ (pp8)).setCell ⟨g208_4, 9, none⟩ (pp9)).setCell ⟨g208_4, 10, none⟩ (pp10)).setCell ⟨g208_4, 11, none⟩ (pp11)).setCell ⟨g208_4, 12, none⟩ (pp12)).setCell ⟨g208_4, 13, none⟩ (pp13)).setCell ⟨g208_4, 14, none⟩ (pp14)).setCell ⟨g208_4, 15, none⟩ (pp15)) := ((((((((((((((((Kp.refl _).set_ (hbx208_4) (by decide) _).set_ (kx) (by decide) _).set_ (ky) (by decide) _).set_ (kz) (by decide) _).set_ (kA) (by decide) _).set_ (kB) (by decide) _).set_ (kC) (by decide) _).set_ (kD) (by decide) _).set_ (kE) (by decide) _).set_ (kF) (by decide) _).set_ (kG) (by decide) _).set_ (kH) (by decide) _).set_ (kI) (by decide) _).set_ (kJ) (by decide) _).set_ (kK) (by decide) _).set_ (kL) (by decide) _
  obtain ⟨W258, hW⟩ : ∃ W, W = (((((((((((((((w209.setCell ⟨g208_4, 0, none⟩ (pp0)).setCell ⟨g208_4, 1, none⟩ (pp1)).setCell ⟨g208_4, 2, none⟩ (pp2)).setCell ⟨g208_4, 3, none⟩ (pp3)).setCell ⟨g208_4, 4, none⟩ (pp4)).setCell ⟨g208_4, 5, none⟩ (pp5)).setCell ⟨g208_4, 6, none⟩ (pp6)).setCell ⟨g208_4, 7, none⟩ (pp7)).setCell ⟨g208_4, 8, none⟩ (pp8)).setCell ⟨g208_4, 9, none⟩ (pp9)).setCell ⟨g208_4, 10, none⟩ (pp10)).setCell ⟨g208_4, 11, none⟩ (pp11)).setCell ⟨g208_4, 12, none⟩ (pp12)).setCell ⟨g208_4, 13, none⟩ (pp13)).setCell ⟨g208_4, 14, none⟩ (pp14)).setCell ⟨g208_4, 15, none⟩ (pp15) := ⟨_, rfl⟩
  rw [← hW]
  rw [← hW] at hkp
  have hB : Below w.heap.size w W258 := by rw [hW]; exact bel16 (k0W.out) (by first | simp | omega)
  have k0Y := Lib.hid hB; clear hB
  have k0Z := Lib.hid (k0V.out.kp hkp)
  have k10 := Lib.hid (k0X.out.kp hkp)
  have k11 : Bx W258 (w10.heap.size) 31 [t0, t1, t2, t3, t4, t5, t6, t7] := by rw [hW]; exact ((((((((((((((((k0S).far_ (g' := g208_4) (j := 0) (by omega) (pp0)).far_ (g' := g208_4) (j := 1) (by omega) (pp1)).far_ (g' := g208_4) (j := 2) (by omega) (pp2)).far_ (g' := g208_4) (j := 3) (by omega) (pp3)).far_ (g' := g208_4) (j := 4) (by omega) (pp4)).far_ (g' := g208_4) (j := 5) (by omega) (pp5)).far_ (g' := g208_4) (j := 6) (by omega) (pp6)).far_ (g' := g208_4) (j := 7) (by omega) (pp7)).far_ (g' := g208_4) (j := 8) (by omega) (pp8)).far_ (g' := g208_4) (j := 9) (by omega) (pp9)).far_ (g' := g208_4) (j := 10) (by omega) (pp10)).far_ (g' := g208_4) (j := 11) (by omega) (pp11)).far_ (g' := g208_4) (j := 12) (by omega) (pp12)).far_ (g' := g208_4) (j := 13) (by omega) (pp13)).far_ (g' := g208_4) (j := 14) (by omega) (pp14)).far_ (g' := g208_4) (j := 15) (by omega) (pp15)
  have k39 : Bx W258 (w59.heap.size) 31 [u0, u1, u2, u3, u4, u5, u6, u7] := by rw [hW]; exact ((((((((((((((((k0T).far_ (g' := g208_4) (j := 0) (by omega) (pp0)).far_ (g' := g208_4) (j := 1) (by omega) (pp1)).far_ (g' := g208_4) (j := 2) (by omega) (pp2)).far_ (g' := g208_4) (j := 3) (by omega) (pp3)).far_ (g' := g208_4) (j := 4) (by omega) (pp4)).far_ (g' := g208_4) (j := 5) (by omega) (pp5)).far_ (g' := g208_4) (j := 6) (by omega) (pp6)).far_ (g' := g208_4) (j := 7) (by omega) (pp7)).far_ (g' := g208_4) (j := 8) (by omega) (pp8)).far_ (g' := g208_4) (j := 9) (by omega) (pp9)).far_ (g' := g208_4) (j := 10) (by omega) (pp10)).far_ (g' := g208_4) (j := 11) (by omega) (pp11)).far_ (g' := g208_4) (j := 12) (by omega) (pp12)).far_ (g' := g208_4) (j := 13) (by omega) (pp13)).far_ (g' := g208_4) (j := 14) (by omega) (pp14)).far_ (g' := g208_4) (j := 15) (by omega) (pp15)
  have k3a : Bx W258 (w155.heap.size) 31 [v0, v1, v2, v3, v4, v5, v6, v7] := by rw [hW]; exact ((((((((((((((((k0U).far_ (g' := g208_4) (j := 0) (by omega) (pp0)).far_ (g' := g208_4) (j := 1) (by omega) (pp1)).far_ (g' := g208_4) (j := 2) (by omega) (pp2)).far_ (g' := g208_4) (j := 3) (by omega) (pp3)).far_ (g' := g208_4) (j := 4) (by omega) (pp4)).far_ (g' := g208_4) (j := 5) (by omega) (pp5)).far_ (g' := g208_4) (j := 6) (by omega) (pp6)).far_ (g' := g208_4) (j := 7) (by omega) (pp7)).far_ (g' := g208_4) (j := 8) (by omega) (pp8)).far_ (g' := g208_4) (j := 9) (by omega) (pp9)).far_ (g' := g208_4) (j := 10) (by omega) (pp10)).far_ (g' := g208_4) (j := 11) (by omega) (pp11)).far_ (g' := g208_4) (j := 12) (by omega) (pp12)).far_ (g' := g208_4) (j := 13) (by omega) (pp13)).far_ (g' := g208_4) (j := 14) (by omega) (pp14)).far_ (g' := g208_4) (j := 15) (by omega) (pp15)
  have k12 : Bx W258 (g208_4) 62 [pp0, pp1, pp2, pp3, pp4, pp5, pp6, pp7, pp8, pp9, pp10, pp11, pp12, pp13, pp14, pp15] := by rw [hW]; exact k06
  clear hW hkp kx ky kz kA kB kC kD kE kF kG kH kI kJ kK kL k06
  go_upto_region 5 with fail
  generalize hW : W258.drew = W274
  have hB : Below W258.heap.size W258 W274 := by rw [← hW]; exact (Below.refl _ _).drew
  have k07 := k11.below hB
  have k13 := k12.below hB
  have k08 := Lib.hid (k0Z.out.kp (.of hB))
  have k14 := Lib.hid (k10.out.kp (.of hB))
  have k15 := Lib.hid (Blw k0Y.out hB)
  clear hB
  generalize hF : ({ tmps := _, defers := _ } : Act) = F
  have ev1 : F.eval (.tmp 1) = .pointer (some ⟨w10.heap.size, 0, none⟩) := by rw [← hF]; rfl
  have ev2 : F.eval (.tmp 2) = .int .i64 0 := by rw [← hF]; rfl
  have ev4 : F.eval (.tmp 4) = .int .i64 21 := by rw [← hF]; rfl
  have ev6 : F.eval (.tmp 6) = .int .i64 1 := by rw [← hF]; rfl
  have HF := Lib.hid hF; clear hF
  refine wp_flow_tabG true hW 18 [(32, []), (33, [0]), (34, [1]), (35, [2]), (36, [3, 2]), (37, [2, 4]), (38, [5]), (39, [6]), (40, [7, 6]), (41, [6, 8]), (42, [9]), (43, [10]), (44, [10]), (45, [10]), (46, [12, 13, 10]), (47, [11, 14, 10]), (48, [10, 15]), (8, [16])] [SC (.int .i64 0), SC (.bool true), SC (.bool true), SC (.int .i64 21), SC (.bool true), SC (.bool true), SC (.bool true), SC (.int .i64 1), SC (.bool true), SC (.bool true), SC (.bool true), SC (.agg #[t0, t1, t2, t3, t4, t5, t6, t7]), SR (Rat.divInt 3 5), SR (Rat.divInt 4 5), SV ((Rat.divInt 3 5, Rat.divInt 4 5)), SC (.bool true), SC (.bool true), SC (.bool true)] [false, false, false, false, false, false, false, false, false, false, false, false, false, false, false, false, false, false] (by kernel_rfl) (by kernel_rfl) (by kernel_rfl) (by kernel_rfl) (by kernel_rfl) (by rw [← HF.out]; simp) ⟨SC.mono _, SC.mono _, SC.mono _, SC.mono _, SC.mono _, SC.mono _, SC.mono _, SC.mono _, SC.mono _, SC.mono _, SC.mono _, SC.mono _, SR.mono _, SR.mono _, SV.mono _, SC.mono _, SC.mono _, SC.mono _, trivial⟩ ?_ ?_
  ·intro kq hkq a wx hB hp hs
   have hcase : kq = 0 ∨ kq = 1 ∨ kq = 2 ∨ kq = 3 ∨ kq = 4 ∨ kq = 5 ∨ kq = 6 ∨ kq = 7 ∨ kq = 8 ∨ kq = 9 ∨ kq = 10 ∨ kq = 11 ∨ kq = 12 ∨ kq = 13 ∨ kq = 14 ∨ kq = 15 ∨ kq = 16 ∨ kq = 17 := by omega
   rcases hcase with rfl | rfl | rfl | rfl | rfl | rfl | rfl | rfl | rfl | rfl | rfl | rfl | rfl | rfl | rfl | rfl | rfl | rfl
   ·clear hp
    have b2 := (hs 2 rfl).trans ev2
    simp [Act.eval] at b2
    exact ⟨_, rfl, .inl ⟨wanted_none rfl, Does.val (by simp [execOp, Act.eval, b2, go_sem]) rfl⟩⟩
   ·obtain ⟨k8, -⟩ := hp
    have e0 : a.eval (.tmp 32) = .int .i64 0 := k8
    simp [Act.eval] at e0
    exact ⟨_, rfl, .inl ⟨wanted_none rfl, Does.val (by simp [execOp, Act.eval, e0, go_sem]) rfl⟩⟩
   ·obtain ⟨k8, -⟩ := hp
    have e0 : a.eval (.tmp 33) = .bool true := k8
    simp [Act.eval] at e0
    exact ⟨_, rfl, .inl ⟨wanted_none rfl, Does.val (by simp [execOp, Act.eval, e0, go_sem]) rfl⟩⟩
   ·obtain ⟨k8, -⟩ := hp
    have e0 : a.eval (.tmp 34) = .bool true := k8
    have b4 := (hs 4 rfl).trans ev4
    have hgd := e0
    simp [Act.eval] at b4
    exact ⟨_, rfl, .inl ⟨(wanted_of rfl rfl hgd).trans rfl, Does.val (by simp [execOp, Act.eval, b4, go_sem]) rfl⟩⟩
   ·obtain ⟨k8, k9, -⟩ := hp
    have e0 : a.eval (.tmp 35) = .int .i64 21 := k8
    have e1 : a.eval (.tmp 34) = .bool true := k9
    have hgd := e1
    simp [Act.eval] at e0
    exact ⟨_, rfl, .inl ⟨(wanted_of rfl rfl hgd).trans rfl, Does.val (by simp [execOp, Act.eval, e0, go_sem]) rfl⟩⟩
   ·obtain ⟨k8, k9, -⟩ := hp
    have e0 : a.eval (.tmp 34) = .bool true := k8
    have e1 : a.eval (.tmp 36) = .bool true := k9
    simp [Act.eval] at e0
    simp [Act.eval] at e1
    exact ⟨_, rfl, .inl ⟨wanted_none rfl, Does.val (by simp [execOp, Act.eval, e0, e1, go_sem]) rfl⟩⟩
   ·obtain ⟨k8, -⟩ := hp
    have e0 : a.eval (.tmp 37) = .bool true := k8
    simp [Act.eval] at e0
    exact ⟨_, rfl, .inl ⟨wanted_none rfl, Does.val (by simp [execOp, Act.eval, e0, go_sem]) rfl⟩⟩
   ·obtain ⟨k8, -⟩ := hp
    have e0 : a.eval (.tmp 38) = .bool true := k8
    have b6 := (hs 6 rfl).trans ev6
    have hgd := e0
    simp [Act.eval] at b6
    exact ⟨_, rfl, .inl ⟨(wanted_of rfl rfl hgd).trans rfl, Does.val (by simp [execOp, Act.eval, b6, go_sem]) rfl⟩⟩
   ·obtain ⟨k8, k9, -⟩ := hp
    have e0 : a.eval (.tmp 39) = .int .i64 1 := k8
    have e1 : a.eval (.tmp 38) = .bool true := k9
    have hgd := e1
    simp [Act.eval] at e0
    exact ⟨_, rfl, .inl ⟨(wanted_of rfl rfl hgd).trans rfl, Does.val (by simp [execOp, Act.eval, e0, go_sem]) rfl⟩⟩
   ·obtain ⟨k8, k9, -⟩ := hp
    have e0 : a.eval (.tmp 38) = .bool true := k8
    have e1 : a.eval (.tmp 40) = .bool true := k9
    simp [Act.eval] at e0
    simp [Act.eval] at e1
    exact ⟨_, rfl, .inl ⟨wanted_none rfl, Does.val (by simp [execOp, Act.eval, e0, e1, go_sem]) rfl⟩⟩
   ·obtain ⟨k8, -⟩ := hp
    have e0 : a.eval (.tmp 41) = .bool true := k8
    simp [Act.eval] at e0
    exact ⟨_, rfl, .inl ⟨wanted_none rfl, Does.val (by simp [execOp, Act.eval, e0, go_sem]) rfl⟩⟩
   ·obtain ⟨k8, -⟩ := hp
    have e0 : a.eval (.tmp 42) = .bool true := k8
    have hgd := e0
    exact ⟨_, rfl, .inl ⟨(wanted_of rfl rfl hgd).trans rfl, ld_Turn rfl ((hs 1 rfl).trans ev1) (k07.below hB) rfl rfl rfl rfl rfl rfl rfl rfl⟩⟩
   ·obtain ⟨k8, -⟩ := hp
    have e0 : a.eval (.tmp 42) = .bool true := k8
    have hgd := e0
    exact ⟨_, rfl, .inl ⟨(wanted_of rfl rfl hgd).trans rfl, Does.rr (f := 44) (call2 rfl (fun _ => by simp [go_sem]) rfl rfl) (rof4_any 3 5 wx ⟨by omega, by omega⟩ ⟨by omega, by omega⟩)⟩⟩
   ·obtain ⟨k8, -⟩ := hp
    have e0 : a.eval (.tmp 42) = .bool true := k8
    have hgd := e0
    exact ⟨_, rfl, .inl ⟨(wanted_of rfl rfl hgd).trans rfl, Does.rr (f := 44) (call2 rfl (fun _ => by simp [go_sem]) rfl rfl) (rof4_any 4 5 wx ⟨by omega, by omega⟩ ⟨by omega, by omega⟩)⟩⟩
   ·obtain ⟨k8, k9, ka, -⟩ := hp
    obtain ⟨i0, i1, i2, i3, e0, h_i⟩ := k8
    replace e0 : a.eval (.tmp 44) = .agg #[i0, i1, i2, i3] := e0
    obtain ⟨j0, j1, j2, j3, e1, h_j⟩ := k9
    replace e1 : a.eval (.tmp 45) = .agg #[j0, j1, j2, j3] := e1
    have e2 : a.eval (.tmp 42) = .bool true := ka
    have hgd := e2
    simp [Act.eval] at e0
    simp [Act.eval] at e1
    exact ⟨_, rfl, .inl ⟨(wanted_of rfl rfl hgd).trans rfl, Does.val (by simp [execOp, Act.eval, e0, e1, go_sem]) ⟨i0, i1, i2, i3, j0, j1, j2, j3, rfl, ⟨h_i, h_j⟩⟩⟩⟩
   ·obtain ⟨k8, k9, ka, -⟩ := hp
    have e0 : a.eval (.tmp 43) = .agg #[t0, t1, t2, t3, t4, t5, t6, t7] := k8
    obtain ⟨k0, k1, k2, k3, k4, k5, k6, k7, e1, h_k⟩ := k9
    replace e1 : a.eval (.tmp 46) = .agg #[k0, k1, k2, k3, k4, k5, k6, k7] := e1
    have e2 : a.eval (.tmp 42) = .bool true := ka
    have hgd := e2
    exact ⟨_, rfl, .inl ⟨(wanted_of rfl rfl hgd).trans rfl, Does.rc (f := 12) (call2 rfl (fun _ => by simp [go_sem]) e0 e1) (tsame5_any t0 t1 t2 t3 t4 t5 t6 t7 k0 k1 k2 k3 k4 k5 k6 k7 (Rat.divInt 3 5, Rat.divInt 4 5) (Rat.divInt 3 5, Rat.divInt 4 5) wx (k08.out.kp (.of hB)) h_k true (by simp))⟩⟩
   ·obtain ⟨k8, k9, -⟩ := hp
    have e0 : a.eval (.tmp 42) = .bool true := k8
    have e1 : a.eval (.tmp 47) = .bool true := k9
    simp [Act.eval] at e0
    simp [Act.eval] at e1
    exact ⟨_, rfl, .inl ⟨wanted_none rfl, Does.val (by simp [execOp, Act.eval, e0, e1, go_sem]) rfl⟩⟩
   ·obtain ⟨k8, -⟩ := hp
    have e0 : a.eval (.tmp 48) = .bool true := k8
    simp [Act.eval] at e0
    exact ⟨_, rfl, .inl ⟨wanted_none rfl, Does.val (by simp [execOp, Act.eval, e0, go_sem]) rfl⟩⟩
  ·intro val wx hB hsp hdis
   have e17 : val 17 = .bool true := hsp 17 (by omega)
   rw [← HF.out]
   change wpList _ _ _ [] _ _
   simp only [puts, vals, List.map_cons, List.map_nil, List.foldl_cons, List.foldl_nil, if_true, Nat.zero_add, Nat.reduceAdd, e17, List.setIfInBounds_toArray, List.set_cons_succ, List.set_cons_zero]
   clear hsp hdis HF e17
   clear ev1 ev2 ev4 ev6
   obtain ⟨w291, rfl⟩ : ∃ W : World, W = wx := ⟨_, rfl⟩
   have k16 := k07.below hB
   have k17 := k13.below hB
   have k18 := Lib.hid (k08.out.kp (.of hB))
   have k19 := Lib.hid (k14.out.kp (.of hB))
   have k1a := Lib.hid (Blw k15.out hB)
   clear hB
   go_upto_region 6 with fail
   go_upto_region 6 with fail
   generalize hW : w291.drew = W307
   have hB : Below w291.heap.size w291 W307 := by rw [← hW]; exact (Below.refl _ _).drew
   have k09 := k16.below hB
   have k0a := k17.below hB
   have k0b := Lib.hid (k18.out.kp (.of hB))
   have k0c := Lib.hid (k19.out.kp (.of hB))
   have k1b := Lib.hid (Blw k1a.out hB)
   clear hB
   generalize hF : ({ tmps := _, defers := _ } : Act) = F
   have ev1 : F.eval (.tmp 1) = .pointer (some ⟨w10.heap.size, 0, none⟩) := by rw [← hF]; rfl
   have ev7 : F.eval (.tmp 7) = .pointer (some ⟨g208_4, 0, none⟩) := by rw [← hF]; rfl
   have HF := Lib.hid hF; clear hF
   refine wp_flow_tabG true hW 19 [(49, []), (50, []), (51, [0, 1]), (52, []), (53, [2, 3]), (54, [4]), (55, [5]), (56, [5]), (57, [6, 7, 5]), (58, [5]), (59, [8, 9, 5]), (60, [5, 10]), (61, [11]), (62, [12]), (63, [12]), (64, [13, 14, 12]), (65, [15, 12]), (66, [12, 16]), (9, [17])] [SC (.agg #[t0, t1, t2, t3, t4, t5, t6, t7]), SV ((Rat.divInt 5 1, Rat.divInt 10 1)), SV (vrot (Rat.divInt 3 5, Rat.divInt 4 5) (Rat.divInt 5 1, Rat.divInt 10 1)), SV ((Rat.divInt (-5) 1, Rat.divInt 10 1)), SC (.bool true), SC (.bool true), SC (.agg #[pp0, pp1, pp2, pp3, pp4, pp5, pp6, pp7, pp8, pp9, pp10, pp11, pp12, pp13, pp14, pp15]), SV ((Rat.divInt 3 1, Rat.divInt 0 1)), SV (vput ((0, Rat.divInt 1 1), (Rat.divInt 1 1, Rat.divInt 2 1)) (Rat.divInt 3 1, Rat.divInt 0 1)), SV ((Rat.divInt 1 1, Rat.divInt 5 1)), SC (.bool true), SC (.bool true), SC (.bool true), SV ((Rat.divInt 1 1, Rat.divInt 2 1)), SV ((Rat.divInt 1 1, Rat.divInt 3 1)), SC (.bool false), SC (.bool true), SC (.bool true), SC (.bool true)] [false, false, false, false, false, false, false, false, false, false, false, false, false, false, false, false, false, false, false] (by kernel_rfl) (by kernel_rfl) (by kernel_rfl) (by kernel_rfl) (by kernel_rfl) (by rw [← HF.out]; simp) ⟨SC.mono _, SV.mono _, SV.mono _, SV.mono _, SC.mono _, SC.mono _, SC.mono _, SV.mono _, SV.mono _, SV.mono _, SC.mono _, SC.mono _, SC.mono _, SV.mono _, SV.mono _, SC.mono _, SC.mono _, SC.mono _, SC.mono _, trivial⟩ ?_ ?_
   ·intro kq hkq a wx hB hp hs
    have hcase : kq = 0 ∨ kq = 1 ∨ kq = 2 ∨ kq = 3 ∨ kq = 4 ∨ kq = 5 ∨ kq = 6 ∨ kq = 7 ∨ kq = 8 ∨ kq = 9 ∨ kq = 10 ∨ kq = 11 ∨ kq = 12 ∨ kq = 13 ∨ kq = 14 ∨ kq = 15 ∨ kq = 16 ∨ kq = 17 ∨ kq = 18 := by omega
    rcases hcase with rfl | rfl | rfl | rfl | rfl | rfl | rfl | rfl | rfl | rfl | rfl | rfl | rfl | rfl | rfl | rfl | rfl | rfl | rfl
    ·exact ⟨_, rfl, .inl ⟨wanted_none rfl, ld_Turn rfl ((hs 1 rfl).trans ev1) (k09.below hB) rfl rfl rfl rfl rfl rfl rfl rfl⟩⟩
    ·clear hp
     exact ⟨_, rfl, .inl ⟨wanted_none rfl, Does.rv (f := 41) (call2 rfl (fun _ => by simp [go_sem]) rfl rfl) (vof_any (5) (10) wx ⟨by omega, by omega⟩ ⟨by omega, by omega⟩)⟩⟩
    ·obtain ⟨k8, k9, -⟩ := hp
     obtain ⟨a0, a1, a2, a3, a4, a5, a6, a7, e1, h_a⟩ := k9
     replace e1 : a.eval (.tmp 50) = .agg #[a0, a1, a2, a3, a4, a5, a6, a7] := e1
     exact ⟨_, rfl, .inl ⟨wanted_none rfl, Does.rv (f := 9) (call2 rfl (fun _ => by simp [go_sem]) k8 e1) (vrot_any (5) (5) t0 t1 t2 t3 t4 t5 t6 t7 a0 a1 a2 a3 a4 a5 a6 a7 ((Rat.divInt 3 5, Rat.divInt 4 5)) ((Rat.divInt 5 1, Rat.divInt 10 1)) wx (k0b.out.kp (.of hB)) h_a bv_t (bv_of (5) (10) (by decide) (by decide)) (by omega))⟩⟩
    ·clear hp
     exact ⟨_, rfl, .inl ⟨wanted_none rfl, Does.rv (f := 53) (call2 rfl (fun _ => by simp [go_sem]) rfl rfl) (vof5_any (-5) (10) wx ⟨by omega, by omega⟩ ⟨by omega, by omega⟩)⟩⟩
    ·obtain ⟨k8, k9, -⟩ := hp
     obtain ⟨b0, b1, b2, b3, b4, b5, b6, b7, e0, h_b⟩ := k8
     replace e0 : a.eval (.tmp 51) = .agg #[b0, b1, b2, b3, b4, b5, b6, b7] := e0
     obtain ⟨c0, c1, c2, c3, c4, c5, c6, c7, e1, h_c⟩ := k9
     replace e1 : a.eval (.tmp 52) = .agg #[c0, c1, c2, c3, c4, c5, c6, c7] := e1
     exact ⟨_, rfl, .inl ⟨wanted_none rfl, Does.rc (f := 13) (call2 rfl (fun _ => by simp [go_sem]) e0 e1) (vsame_any b0 b1 b2 b3 b4 b5 b6 b7 c0 c1 c2 c3 c4 c5 c6 c7 _ _ wx h_b h_c true lv4)⟩⟩
    ·obtain ⟨k8, -⟩ := hp
     have e0 : a.eval (.tmp 53) = .bool true := k8
     simp [Act.eval] at e0
     exact ⟨_, rfl, .inl ⟨wanted_none rfl, Does.val (by simp [execOp, Act.eval, e0, go_sem]) rfl⟩⟩
    ·obtain ⟨k8, -⟩ := hp
     have e0 : a.eval (.tmp 54) = .bool true := k8
     have hgd := e0
     exact ⟨_, rfl, .inl ⟨(wanted_of rfl rfl hgd).trans rfl, ld_Place rfl ((hs 7 rfl).trans ev7) (k0a.below hB) rfl rfl rfl rfl rfl rfl rfl rfl rfl rfl rfl rfl rfl rfl rfl rfl⟩⟩
    ·obtain ⟨k8, -⟩ := hp
     have e0 : a.eval (.tmp 54) = .bool true := k8
     have hgd := e0
     exact ⟨_, rfl, .inl ⟨(wanted_of rfl rfl hgd).trans rfl, Does.rv (f := 41) (call2 rfl (fun _ => by simp [go_sem]) rfl rfl) (vof_any (3) (0) wx ⟨by omega, by omega⟩ ⟨by omega, by omega⟩)⟩⟩
    ·obtain ⟨k8, k9, ka, -⟩ := hp
     have e0 : a.eval (.tmp 55) = .agg #[pp0, pp1, pp2, pp3, pp4, pp5, pp6, pp7, pp8, pp9, pp10, pp11, pp12, pp13, pp14, pp15] := k8
     obtain ⟨d0, d1, d2, d3, d4, d5, d6, d7, e1, h_d⟩ := k9
     replace e1 : a.eval (.tmp 56) = .agg #[d0, d1, d2, d3, d4, d5, d6, d7] := e1
     have e2 : a.eval (.tmp 54) = .bool true := ka
     have hgd := e2
     exact ⟨_, rfl, .inl ⟨(wanted_of rfl rfl hgd).trans rfl, Does.rv (f := 54) (call2 rfl (fun _ => by simp [go_sem]) e0 e1) (vput_any 5 5 pp0 pp1 pp2 pp3 pp4 pp5 pp6 pp7 pp8 pp9 pp10 pp11 pp12 pp13 pp14 pp15 d0 d1 d2 d3 d4 d5 d6 d7 (((0, Rat.divInt 1 1), (Rat.divInt 1 1, Rat.divInt 2 1))) (Rat.divInt 3 1, Rat.divInt 0 1) wx (k0c.out.kp (.of hB)) h_d bv_p (bv_of (3) (0) (by decide) (by decide)) (by omega))⟩⟩
    ·obtain ⟨k8, -⟩ := hp
     have e0 : a.eval (.tmp 54) = .bool true := k8
     have hgd := e0
     exact ⟨_, rfl, .inl ⟨(wanted_of rfl rfl hgd).trans rfl, Does.rv (f := 53) (call2 rfl (fun _ => by simp [go_sem]) rfl rfl) (vof5_any (1) (5) wx ⟨by omega, by omega⟩ ⟨by omega, by omega⟩)⟩⟩
    ·obtain ⟨k8, k9, ka, -⟩ := hp
     obtain ⟨e_0, e_1, e_2, e_3, e_4, e_5, e_6, e_7, e0, h_e_⟩ := k8
     replace e0 : a.eval (.tmp 57) = .agg #[e_0, e_1, e_2, e_3, e_4, e_5, e_6, e_7] := e0
     obtain ⟨f_0, f_1, f_2, f_3, f_4, f_5, f_6, f_7, e1, h_f_⟩ := k9
     replace e1 : a.eval (.tmp 58) = .agg #[f_0, f_1, f_2, f_3, f_4, f_5, f_6, f_7] := e1
     have e2 : a.eval (.tmp 54) = .bool true := ka
     have hgd := e2
     exact ⟨_, rfl, .inl ⟨(wanted_of rfl rfl hgd).trans rfl, Does.rc (f := 13) (call2 rfl (fun _ => by simp [go_sem]) e0 e1) (vsame_any e_0 e_1 e_2 e_3 e_4 e_5 e_6 e_7 f_0 f_1 f_2 f_3 f_4 f_5 f_6 f_7 _ _ wx h_e_ h_f_ true lv5)⟩⟩
    ·obtain ⟨k8, k9, -⟩ := hp
     have e0 : a.eval (.tmp 54) = .bool true := k8
     have e1 : a.eval (.tmp 59) = .bool true := k9
     simp [Act.eval] at e0
     simp [Act.eval] at e1
     exact ⟨_, rfl, .inl ⟨wanted_none rfl, Does.val (by simp [execOp, Act.eval, e0, e1, go_sem]) rfl⟩⟩
    ·obtain ⟨k8, -⟩ := hp
     have e0 : a.eval (.tmp 60) = .bool true := k8
     simp [Act.eval] at e0
     exact ⟨_, rfl, .inl ⟨wanted_none rfl, Does.val (by simp [execOp, Act.eval, e0, go_sem]) rfl⟩⟩
    ·obtain ⟨k8, -⟩ := hp
     have e0 : a.eval (.tmp 61) = .bool true := k8
     have hgd := e0
     exact ⟨_, rfl, .inl ⟨(wanted_of rfl rfl hgd).trans rfl, Does.rv (f := 41) (call2 rfl (fun _ => by simp [go_sem]) rfl rfl) (vof_any (1) (2) wx ⟨by omega, by omega⟩ ⟨by omega, by omega⟩)⟩⟩
    ·obtain ⟨k8, -⟩ := hp
     have e0 : a.eval (.tmp 61) = .bool true := k8
     have hgd := e0
     exact ⟨_, rfl, .inl ⟨(wanted_of rfl rfl hgd).trans rfl, Does.rv (f := 41) (call2 rfl (fun _ => by simp [go_sem]) rfl rfl) (vof_any (1) (3) wx ⟨by omega, by omega⟩ ⟨by omega, by omega⟩)⟩⟩
    ·obtain ⟨k8, k9, ka, -⟩ := hp
     obtain ⟨g_0, g_1, g_2, g_3, g_4, g_5, g_6, g_7, e0, h_g_⟩ := k8
     replace e0 : a.eval (.tmp 62) = .agg #[g_0, g_1, g_2, g_3, g_4, g_5, g_6, g_7] := e0
     obtain ⟨h0, h1, h2, h3, h4, h5, h6, h7, e1, h_h⟩ := k9
     replace e1 : a.eval (.tmp 63) = .agg #[h0, h1, h2, h3, h4, h5, h6, h7] := e1
     have e2 : a.eval (.tmp 61) = .bool true := ka
     have hgd := e2
     exact ⟨_, rfl, .inl ⟨(wanted_of rfl rfl hgd).trans rfl, Does.rc (f := 13) (call2 rfl (fun _ => by simp [go_sem]) e0 e1) (vsame_any g_0 g_1 g_2 g_3 g_4 g_5 g_6 g_7 h0 h1 h2 h3 h4 h5 h6 h7 _ _ wx h_g_ h_h false lv6)⟩⟩
    ·obtain ⟨k8, k9, -⟩ := hp
     have e0 : a.eval (.tmp 64) = .bool false := k8
     have e1 : a.eval (.tmp 61) = .bool true := k9
     have hgd := e1
     simp [Act.eval] at e0
     exact ⟨_, rfl, .inl ⟨(wanted_of rfl rfl hgd).trans rfl, Does.val (by simp [execOp, Act.eval, e0, go_sem]) rfl⟩⟩
    ·obtain ⟨k8, k9, -⟩ := hp
     have e0 : a.eval (.tmp 61) = .bool true := k8
     have e1 : a.eval (.tmp 65) = .bool true := k9
     simp [Act.eval] at e0
     simp [Act.eval] at e1
     exact ⟨_, rfl, .inl ⟨wanted_none rfl, Does.val (by simp [execOp, Act.eval, e0, e1, go_sem]) rfl⟩⟩
    ·obtain ⟨k8, -⟩ := hp
     have e0 : a.eval (.tmp 66) = .bool true := k8
     simp [Act.eval] at e0
     exact ⟨_, rfl, .inl ⟨wanted_none rfl, Does.val (by simp [execOp, Act.eval, e0, go_sem]) rfl⟩⟩
   ·intro val wx hB hsp hdis
    have e18 : val 18 = .bool true := hsp 18 (by omega)
    rw [← HF.out]
    change wpList _ _ _ [] _ _
    simp only [puts, vals, List.map_cons, List.map_nil, List.foldl_cons, List.foldl_nil, if_true, Nat.zero_add, Nat.reduceAdd, e18, List.setIfInBounds_toArray, List.set_cons_succ, List.set_cons_zero]
    clear hsp hdis HF e18
    clear ev1 ev7
    obtain ⟨w324, rfl⟩ : ∃ W : World, W = wx := ⟨_, rfl⟩
    have k1c := k09.below hB
    have k1d := k0a.below hB
    have k1e := Lib.hid (k0b.out.kp (.of hB))
    have k1f := Lib.hid (k0c.out.kp (.of hB))
    have k1g := Lib.hid (Blw k1b.out hB)
    clear hB
    go_upto_region 7 with fail
    go_upto_region 7 with fail
    generalize hF : ({ tmps := _, defers := _ } : Act) = F
    have ev1 : F.eval (.tmp 1) = .pointer (some ⟨w10.heap.size, 0, none⟩) := by rw [← hF]; rfl
    have ev7 : F.eval (.tmp 7) = .pointer (some ⟨g208_4, 0, none⟩) := by rw [← hF]; rfl
    have ev8 : F.eval (.tmp 8) = .bool true := by rw [← hF]; rfl
    have ev9 : F.eval (.tmp 9) = .bool true := by rw [← hF]; rfl
    have HF := Lib.hid hF; clear hF
    refine wp_flow_tabG false rfl 28 [(67, []), (68, [0]), (69, [1]), (70, [1, 2]), (71, [3]), (72, [4]), (73, [5, 4]), (74, [6, 4]), (75, [4]), (76, [7, 8, 4]), (77, [4, 9]), (78, [10]), (79, [11]), (80, [11]), (81, [11]), (82, [12, 13, 14, 11]), (83, [15, 11]), (84, [11, 16]), (85, [17]), (86, [18]), (87, [19, 18]), (88, [18, 20]), (89, [21]), (90, [22]), (91, [23, 22]), (92, [24, 22]), (93, [22, 25]), (0, [26])] [SC (.bool true), SC (.bool true), SC (.bool true), SC (.bool true), SC (.bool true), SC (.agg #[pp0, pp1, pp2, pp3, pp4, pp5, pp6, pp7, pp8, pp9, pp10, pp11, pp12, pp13, pp14, pp15]), SPl (vinv ((0, Rat.divInt 1 1), (Rat.divInt 1 1, Rat.divInt 2 1))), SV ((vinv ((0, Rat.divInt 1 1), (Rat.divInt 1 1, Rat.divInt 2 1))).2), SV ((Rat.divInt (-2) 1, Rat.divInt 1 1)), SC (.bool true), SC (.bool true), SC (.bool true), SV ((Rat.divInt 0 1, Rat.divInt 0 1)), SV ((Rat.divInt 2 1, Rat.divInt 0 1)), SV ((Rat.divInt 1 1, Rat.divInt 1 1)), SC (.int .i64 1), SC (.bool true), SC (.bool true), SC (.bool true), SC (.agg #[t0, t1, t2, t3, t4, t5, t6, t7]), SC (.bool true), SC (.bool true), SC (.bool true), SV ((0, 0)), SC (.bool false), SC (.bool true), SC (.bool true), SC (.bool true)] [false, false, false, false, false, false, false, false, false, false, false, false, false, false, false, false, false, false, false, false, false, false, false, false, false, false, false, false] (by kernel_rfl) (by kernel_rfl) (by kernel_rfl) (by kernel_rfl) (by kernel_rfl) (by rw [← HF.out]; simp) ⟨SC.mono _, SC.mono _, SC.mono _, SC.mono _, SC.mono _, SC.mono _, SPl.mono _, SV.mono _, SV.mono _, SC.mono _, SC.mono _, SC.mono _, SV.mono _, SV.mono _, SV.mono _, SC.mono _, SC.mono _, SC.mono _, SC.mono _, SC.mono _, SC.mono _, SC.mono _, SC.mono _, SV.mono _, SC.mono _, SC.mono _, SC.mono _, SC.mono _, trivial⟩ ?_ ?_
    ·intro kq hkq a wx hB hp hs
     have hcase : kq = 0 ∨ kq = 1 ∨ kq = 2 ∨ kq = 3 ∨ kq = 4 ∨ kq = 5 ∨ kq = 6 ∨ kq = 7 ∨ kq = 8 ∨ kq = 9 ∨ kq = 10 ∨ kq = 11 ∨ kq = 12 ∨ kq = 13 ∨ kq = 14 ∨ kq = 15 ∨ kq = 16 ∨ kq = 17 ∨ kq = 18 ∨ kq = 19 ∨ kq = 20 ∨ kq = 21 ∨ kq = 22 ∨ kq = 23 ∨ kq = 24 ∨ kq = 25 ∨ kq = 26 ∨ kq = 27 := by omega
     rcases hcase with rfl | rfl | rfl | rfl | rfl | rfl | rfl | rfl | rfl | rfl | rfl | rfl | rfl | rfl | rfl | rfl | rfl | rfl | rfl | rfl | rfl | rfl | rfl | rfl | rfl | rfl | rfl | rfl
     ·clear hp
      have b8 := (hs 8 rfl).trans ev8
      simp [Act.eval] at b8
      exact ⟨_, rfl, .inl ⟨wanted_none rfl, Does.val (by simp [execOp, Act.eval, b8, go_sem]) rfl⟩⟩
     ·obtain ⟨k8, -⟩ := hp
      have e0 : a.eval (.tmp 67) = .bool true := k8
      simp [Act.eval] at e0
      exact ⟨_, rfl, .inl ⟨wanted_none rfl, Does.val (by simp [execOp, Act.eval, e0, go_sem]) rfl⟩⟩
     ·obtain ⟨k8, -⟩ := hp
      have e0 : a.eval (.tmp 68) = .bool true := k8
      have b9 := (hs 9 rfl).trans ev9
      have hgd := e0
      simp [Act.eval] at b9
      exact ⟨_, rfl, .inl ⟨(wanted_of rfl rfl hgd).trans rfl, Does.val (by simp [execOp, Act.eval, b9, go_sem]) rfl⟩⟩
     ·obtain ⟨k8, k9, -⟩ := hp
      have e0 : a.eval (.tmp 68) = .bool true := k8
      have e1 : a.eval (.tmp 69) = .bool true := k9
      simp [Act.eval] at e0
      simp [Act.eval] at e1
      exact ⟨_, rfl, .inl ⟨wanted_none rfl, Does.val (by simp [execOp, Act.eval, e0, e1, go_sem]) rfl⟩⟩
     ·obtain ⟨k8, -⟩ := hp
      have e0 : a.eval (.tmp 70) = .bool true := k8
      simp [Act.eval] at e0
      exact ⟨_, rfl, .inl ⟨wanted_none rfl, Does.val (by simp [execOp, Act.eval, e0, go_sem]) rfl⟩⟩
     ·obtain ⟨k8, -⟩ := hp
      have e0 : a.eval (.tmp 71) = .bool true := k8
      have hgd := e0
      exact ⟨_, rfl, .inl ⟨(wanted_of rfl rfl hgd).trans rfl, ld_Place rfl ((hs 7 rfl).trans ev7) (k1d.below hB) rfl rfl rfl rfl rfl rfl rfl rfl rfl rfl rfl rfl rfl rfl rfl rfl⟩⟩
     ·obtain ⟨k8, k9, -⟩ := hp
      have e0 : a.eval (.tmp 72) = .agg #[pp0, pp1, pp2, pp3, pp4, pp5, pp6, pp7, pp8, pp9, pp10, pp11, pp12, pp13, pp14, pp15] := k8
      have e1 : a.eval (.tmp 71) = .bool true := k9
      have hgd := e1
      exact ⟨_, rfl, .inl ⟨(wanted_of rfl rfl hgd).trans rfl, Does.rp (f := 55) (call1 rfl (fun _ => by simp [go_sem]) e0) (vinv_any 5 pp0 pp1 pp2 pp3 pp4 pp5 pp6 pp7 pp8 pp9 pp10 pp11 pp12 pp13 pp14 pp15 (((0, Rat.divInt 1 1), (Rat.divInt 1 1, Rat.divInt 2 1))) wx (k1f.out.kp (.of hB)) bv_p (by omega))⟩⟩
     ·obtain ⟨k8, k9, -⟩ := hp
      obtain ⟨iv0, iv1, iv2, iv3, iv4, iv5, iv6, iv7, iv8, iv9, iv10, iv11, iv12, iv13, iv14, iv15, e0, h_iv⟩ := k8
      replace e0 : a.eval (.tmp 73) = .agg #[iv0, iv1, iv2, iv3, iv4, iv5, iv6, iv7, iv8, iv9, iv10, iv11, iv12, iv13, iv14, iv15] := e0
      have e1 : a.eval (.tmp 71) = .bool true := k9
      have hgd := e1
      simp [Act.eval] at e0
      have hfd : ∀ w : World, (Instr.field 62 (.agg #[iv0, iv1, iv2, iv3, iv4, iv5, iv6, iv7, iv8, iv9, iv10, iv11, iv12, iv13, iv14, iv15]) 1).run Try.prog w = .ok (.agg #[iv8, iv9, iv10, iv11, iv12, iv13, iv14, iv15]) w := fun _ => by kernel_rfl
      exact ⟨_, rfl, .inl ⟨(wanted_of rfl rfl hgd).trans rfl, Does.val (by simp [execOp, Act.eval, e0, go_sem, hfd]) ⟨iv8, iv9, iv10, iv11, iv12, iv13, iv14, iv15, rfl, h_iv.2⟩⟩⟩
     ·obtain ⟨k8, -⟩ := hp
      have e0 : a.eval (.tmp 71) = .bool true := k8
      have hgd := e0
      exact ⟨_, rfl, .inl ⟨(wanted_of rfl rfl hgd).trans rfl, Does.rv (f := 53) (call2 rfl (fun _ => by simp [go_sem]) rfl rfl) (vof5_any (-2) (1) wx ⟨by omega, by omega⟩ ⟨by omega, by omega⟩)⟩⟩
     ·obtain ⟨k8, k9, ka, -⟩ := hp
      obtain ⟨ivf10, ivf11, ivf12, ivf13, ivf14, ivf15, ivf16, ivf17, e0, h_ivf1⟩ := k8
      replace e0 : a.eval (.tmp 74) = .agg #[ivf10, ivf11, ivf12, ivf13, ivf14, ivf15, ivf16, ivf17] := e0
      obtain ⟨w_0, w_1, w_2, w_3, w_4, w_5, w_6, w_7, e1, h_w_⟩ := k9
      replace e1 : a.eval (.tmp 75) = .agg #[w_0, w_1, w_2, w_3, w_4, w_5, w_6, w_7] := e1
      have e2 : a.eval (.tmp 71) = .bool true := ka
      have hgd := e2
      exact ⟨_, rfl, .inl ⟨(wanted_of rfl rfl hgd).trans rfl, Does.rc (f := 13) (call2 rfl (fun _ => by simp [go_sem]) e0 e1) (vsame_any ivf10 ivf11 ivf12 ivf13 ivf14 ivf15 ivf16 ivf17 w_0 w_1 w_2 w_3 w_4 w_5 w_6 w_7 _ _ wx h_ivf1 h_w_ true lv7)⟩⟩
     ·obtain ⟨k8, k9, -⟩ := hp
      have e0 : a.eval (.tmp 71) = .bool true := k8
      have e1 : a.eval (.tmp 76) = .bool true := k9
      simp [Act.eval] at e0
      simp [Act.eval] at e1
      exact ⟨_, rfl, .inl ⟨wanted_none rfl, Does.val (by simp [execOp, Act.eval, e0, e1, go_sem]) rfl⟩⟩
     ·obtain ⟨k8, -⟩ := hp
      have e0 : a.eval (.tmp 77) = .bool true := k8
      simp [Act.eval] at e0
      exact ⟨_, rfl, .inl ⟨wanted_none rfl, Does.val (by simp [execOp, Act.eval, e0, go_sem]) rfl⟩⟩
     ·obtain ⟨k8, -⟩ := hp
      have e0 : a.eval (.tmp 78) = .bool true := k8
      have hgd := e0
      exact ⟨_, rfl, .inl ⟨(wanted_of rfl rfl hgd).trans rfl, Does.rv (f := 41) (call2 rfl (fun _ => by simp [go_sem]) rfl rfl) (vof_any (0) (0) wx ⟨by omega, by omega⟩ ⟨by omega, by omega⟩)⟩⟩
     ·obtain ⟨k8, -⟩ := hp
      have e0 : a.eval (.tmp 78) = .bool true := k8
      have hgd := e0
      exact ⟨_, rfl, .inl ⟨(wanted_of rfl rfl hgd).trans rfl, Does.rv (f := 41) (call2 rfl (fun _ => by simp [go_sem]) rfl rfl) (vof_any (2) (0) wx ⟨by omega, by omega⟩ ⟨by omega, by omega⟩)⟩⟩
     ·obtain ⟨k8, -⟩ := hp
      have e0 : a.eval (.tmp 78) = .bool true := k8
      have hgd := e0
      exact ⟨_, rfl, .inl ⟨(wanted_of rfl rfl hgd).trans rfl, Does.rv (f := 41) (call2 rfl (fun _ => by simp [go_sem]) rfl rfl) (vof_any (1) (1) wx ⟨by omega, by omega⟩ ⟨by omega, by omega⟩)⟩⟩
     ·obtain ⟨k8, k9, ka, pq3, -⟩ := hp
      obtain ⟨x0, x1, x2, x3, x4, x5, x6, x7, e0, h_x⟩ := k8
      replace e0 : a.eval (.tmp 79) = .agg #[x0, x1, x2, x3, x4, x5, x6, x7] := e0
      obtain ⟨y0, y1, y2, y3, y4, y5, y6, y7, e1, h_y⟩ := k9
      replace e1 : a.eval (.tmp 80) = .agg #[y0, y1, y2, y3, y4, y5, y6, y7] := e1
      obtain ⟨z0, z1, z2, z3, z4, z5, z6, z7, e2, h_z⟩ := ka
      replace e2 : a.eval (.tmp 81) = .agg #[z0, z1, z2, z3, z4, z5, z6, z7] := e2
      have e3 : a.eval (.tmp 78) = .bool true := pq3
      have hgd := e3
      exact ⟨_, rfl, .inl ⟨(wanted_of rfl rfl hgd).trans rfl, Does.rc (f := 56) (call3 rfl (fun _ => by simp [go_sem]) e0 e1 e2) (lv8 ▸ vside_any 5 x0 x1 x2 x3 x4 x5 x6 x7 y0 y1 y2 y3 y4 y5 y6 y7 z0 z1 z2 z3 z4 z5 z6 z7 (Rat.divInt 0 1, Rat.divInt 0 1) (Rat.divInt 2 1, Rat.divInt 0 1) (Rat.divInt 1 1, Rat.divInt 1 1) wx h_x h_y h_z (bv_of (0) (0) (by decide) (by decide)) (bv_of (2) (0) (by decide) (by decide)) (bv_of (1) (1) (by decide) (by decide)) (by omega))⟩⟩
     ·obtain ⟨k8, k9, -⟩ := hp
      have e0 : a.eval (.tmp 82) = .int .i64 1 := k8
      have e1 : a.eval (.tmp 78) = .bool true := k9
      have hgd := e1
      simp [Act.eval] at e0
      exact ⟨_, rfl, .inl ⟨(wanted_of rfl rfl hgd).trans rfl, Does.val (by simp [execOp, Act.eval, e0, go_sem]) rfl⟩⟩
     ·obtain ⟨k8, k9, -⟩ := hp
      have e0 : a.eval (.tmp 78) = .bool true := k8
      have e1 : a.eval (.tmp 83) = .bool true := k9
      simp [Act.eval] at e0
      simp [Act.eval] at e1
      exact ⟨_, rfl, .inl ⟨wanted_none rfl, Does.val (by simp [execOp, Act.eval, e0, e1, go_sem]) rfl⟩⟩
     ·obtain ⟨k8, -⟩ := hp
      have e0 : a.eval (.tmp 84) = .bool true := k8
      simp [Act.eval] at e0
      exact ⟨_, rfl, .inl ⟨wanted_none rfl, Does.val (by simp [execOp, Act.eval, e0, go_sem]) rfl⟩⟩
     ·obtain ⟨k8, -⟩ := hp
      have e0 : a.eval (.tmp 85) = .bool true := k8
      have hgd := e0
      exact ⟨_, rfl, .inl ⟨(wanted_of rfl rfl hgd).trans rfl, ld_Turn rfl ((hs 1 rfl).trans ev1) (k1c.below hB) rfl rfl rfl rfl rfl rfl rfl rfl⟩⟩
     ·obtain ⟨k8, k9, -⟩ := hp
      have e0 : a.eval (.tmp 86) = .agg #[t0, t1, t2, t3, t4, t5, t6, t7] := k8
      have e1 : a.eval (.tmp 85) = .bool true := k9
      have hgd := e1
      exact ⟨_, rfl, .inl ⟨(wanted_of rfl rfl hgd).trans rfl, Does.rc (f := 20) (call1 rfl (fun _ => by simp [go_sem]) e0) (tvalid_any 5 t0 t1 t2 t3 t4 t5 t6 t7 (Rat.divInt 3 5, Rat.divInt 4 5) wx (k1e.out.kp (.of hB)) bv_t (by omega) true lv9)⟩⟩
     ·obtain ⟨k8, k9, -⟩ := hp
      have e0 : a.eval (.tmp 85) = .bool true := k8
      have e1 : a.eval (.tmp 87) = .bool true := k9
      simp [Act.eval] at e0
      simp [Act.eval] at e1
      exact ⟨_, rfl, .inl ⟨wanted_none rfl, Does.val (by simp [execOp, Act.eval, e0, e1, go_sem]) rfl⟩⟩
     ·obtain ⟨k8, -⟩ := hp
      have e0 : a.eval (.tmp 88) = .bool true := k8
      simp [Act.eval] at e0
      exact ⟨_, rfl, .inl ⟨wanted_none rfl, Does.val (by simp [execOp, Act.eval, e0, go_sem]) rfl⟩⟩
     ·obtain ⟨k8, -⟩ := hp
      have e0 : a.eval (.tmp 89) = .bool true := k8
      have hgd := e0
      exact ⟨_, rfl, .inl ⟨(wanted_of rfl rfl hgd).trans rfl, Does.val (by simp [execOp, Act.eval, go_sem]) ⟨.bool false, .slice none 0 0, .bool false, .slice none 0 0, .bool false, .slice none 0 0, .bool false, .slice none 0 0, rfl, VecV.zero _⟩⟩⟩
     ·obtain ⟨k8, k9, -⟩ := hp
      obtain ⟨nn0, nn1, nn2, nn3, nn4, nn5, nn6, nn7, e0, h_nn⟩ := k8
      replace e0 : a.eval (.tmp 90) = .agg #[nn0, nn1, nn2, nn3, nn4, nn5, nn6, nn7] := e0
      have e1 : a.eval (.tmp 89) = .bool true := k9
      have hgd := e1
      exact ⟨_, rfl, .inl ⟨(wanted_of rfl rfl hgd).trans rfl, Does.rc (f := 20) (call1 rfl (fun _ => by simp [go_sem]) e0) (tvalid_any 5 nn0 nn1 nn2 nn3 nn4 nn5 nn6 nn7 (0, 0) wx h_nn bv_0 (by omega) false lv10)⟩⟩
     ·obtain ⟨k8, k9, -⟩ := hp
      have e0 : a.eval (.tmp 91) = .bool false := k8
      have e1 : a.eval (.tmp 89) = .bool true := k9
      have hgd := e1
      simp [Act.eval] at e0
      exact ⟨_, rfl, .inl ⟨(wanted_of rfl rfl hgd).trans rfl, Does.val (by simp [execOp, Act.eval, e0, go_sem]) rfl⟩⟩
     ·obtain ⟨k8, k9, -⟩ := hp
      have e0 : a.eval (.tmp 89) = .bool true := k8
      have e1 : a.eval (.tmp 92) = .bool true := k9
      simp [Act.eval] at e0
      simp [Act.eval] at e1
      exact ⟨_, rfl, .inl ⟨wanted_none rfl, Does.val (by simp [execOp, Act.eval, e0, e1, go_sem]) rfl⟩⟩
     ·obtain ⟨k8, -⟩ := hp
      have e0 : a.eval (.tmp 93) = .bool true := k8
      simp [Act.eval] at e0
      exact ⟨_, rfl, .inl ⟨wanted_none rfl, Does.val (by simp [execOp, Act.eval, e0, go_sem]) rfl⟩⟩
    ·intro val wx hB hsp hdis
     have e27 : val 27 = .bool true := hsp 27 (by omega)
     rw [← HF.out]
     change wpList _ _ _ [] _ _
     simp only [puts, vals, List.map_cons, List.map_nil, List.foldl_cons, List.foldl_nil, if_true, Nat.zero_add, Nat.reduceAdd, e27, List.setIfInBounds_toArray, List.set_cons_succ, List.set_cons_zero]
     clear hsp hdis HF e27
     clear ev1 ev7 ev8 ev9
     obtain ⟨w341, rfl⟩ : ∃ W : World, W = wx := ⟨_, rfl⟩
     have k1i := Lib.hid (Blw k1g.out hB)
     clear hB
     go_wp2
     go_ret
     exact ⟨rfl, k1i.out⟩
end Go.Proofs.Ytonkbckgbfcnkaa
