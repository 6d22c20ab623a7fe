/-
 THE WALK of the reference of package plane: Align.
-/
import Derived.Test.YtonkbckgbfcnkaaRef5A
import Derived.Test.YtonkbckgbfcnkaaRef5B
import Derived.Test.YtonkbckgbfcnkaaWalkPlC
namespace Go.Proofs.Ytonkbckgbfcnkaa
set_option maxHeartbeats 4000000
open Go.RowKit
attribute [local go_sem] run_store_one
set_option linter.unusedVariables false
set_option maxRecDepth 100000 in
theorem valn5_0 (j k : Nat) (a0 a1 a2 a3 a4 a5 a6 a7 b0 b1 b2 b3 b4 b5 b6 b7 : Value) (v : Rat × Rat) (u : Rat × Rat) (w : World) (ha : VecV w a0 a1 a2 a3 a4 a5 a6 a7 v) (hb : VecV w b0 b1 b2 b3 b4 b5 b6 b7 u) (ba : Bv j v) (bb : Bv k u) (hz : vdot v v = 0) (hk : 40 * (j + k) + 100 ≤ 800000000000) :
  Calls Try.prog 11 #[.agg #[a0, a1, a2, a3, a4, a5, a6, a7], .agg #[b0, b1, b2, b3, b4, b5, b6, b7]] w (RTE (0, 0) 1 w) := by
 obtain ⟨qa0, qa1, qa2, qa3, qa4, qa5, qa6, qa7⟩ := ha.ones
 obtain ⟨qb0, qb1, qb2, qb3, qb4, qb5, qb6, qb7⟩ := hb.ones
 have Hha := Lib.hid ha; have Hhb := Lib.hid hb; have Hba := Lib.hid ba; have Hbb := Lib.hid bb
 clear ha hb ba bb
 have hs1 := sgn_eq hz
 have HHZ := Lib.hid hz
 clear hz
 go_enter Try.func11, Try.ntmps11
 go_upto_region 1 with fail
 generalize hW : ((w.alloc _).alloc _).alloc _ = W1
 obtain ⟨k1, k6, k7, hB⟩ := box3 hW
 have k2 := Lib.hid hB; clear hW hB
 have F6 := Lib.hid (Hha.out.kp (.of k2.out))
 go_upto_region 1 with fail
 have l8 := k1.lt
 have l9 := k6.lt
 have kF := k7.lt
 generalize hF : ({ tmps := _, defers := _ } : Act) = F
 have ev2 : F.eval (.tmp 2) = .pointer (some ⟨w.heap.size, 0, none⟩) := by rw [← hF]; rfl
 have HF := Lib.hid hF; clear hF
 refine wp_flow_tab false rfl 4 [(7, []), (8, []), (9, [0, 1]), (6, [])] [SC (.agg #[a0, a1, a2, a3, a4, a5, a6, a7]), SC (.agg #[a0, a1, a2, a3, a4, a5, a6, a7]), SR (vdot v v), SB W1 26 [.bool false, .slice none 0 0, .bool false, .slice none 0 0]] [false, false, false, true] (by kernel_rfl) (by kernel_rfl) (by kernel_rfl) (by kernel_rfl) (by kernel_rfl) (by rw [← HF.out]; simp) ⟨SC.mono _, SC.mono _, SR.mono _, SB.mono _ _ _, trivial⟩ ?_ ?_
 ·intro kq hkq a wx hB hp hs
  have hcase : kq = 0 ∨ kq = 1 ∨ kq = 2 ∨ kq = 3 := by omega
  rcases hcase with rfl | rfl | rfl | rfl
  ·exact ⟨_, rfl, ld_Vec rfl ((hs 2 rfl).trans ev2) (k1.below hB) rfl rfl rfl rfl rfl rfl rfl rfl⟩
  ·exact ⟨_, rfl, ld_Vec rfl ((hs 2 rfl).trans ev2) (k1.below hB) rfl rfl rfl rfl rfl rfl rfl rfl⟩
  ·obtain ⟨kg, kh, -⟩ := hp
   exact ⟨_, rfl, Does.rr (f := 38) (call2 rfl (fun _ => by simp [go_sem]) kg kh) (vdot5_any (j) (j) a0 a1 a2 a3 a4 a5 a6 a7 a0 a1 a2 a3 a4 a5 a6 a7 (v) (v) wx (F6.out.kp (.of hB)) (F6.out.kp (.of hB)) Hba.out Hba.out (by omega))⟩
  ·clear hp
   exact ⟨_, rfl, Does.box (by simp [execOp, go_sem]) hB⟩
 ·intro val wx hB hsp hdis
  obtain ⟨n0, n1, n2, n3, e2, h_n⟩ := hsp 2 (by omega)
  replace e2 : val 2 = .agg #[n0, n1, n2, n3] := e2
  obtain ⟨g11_3, e3, hg11_3, hbx11_3⟩ := hsp 3 (by omega)
  have hgw11_3 : w.heap.size ≤ g11_3 := Nat.le_trans k2.out.size hg11_3
  have hgl11_3 := hbx11_3.lt
  rw [← HF.out]
  change wpList _ _ _ [_] _ _
  simp only [puts, vals, List.map_cons, List.map_nil, List.foldl_cons, List.foldl_nil, if_true, Nat.zero_add, Nat.reduceAdd, e2, e3, List.setIfInBounds_toArray, List.set_cons_succ, List.set_cons_zero]
  clear hsp hdis HF e2 e3
  clear ev2
  obtain ⟨w12, rfl⟩ : ∃ W : World, W = wx := ⟨_, rfl⟩
  have ki := k1.below hB
  have kj := k6.below hB
  have kk := k7.below hB
  have kl := Lib.hid (Blw k2.out hB)
  have km := Lib.hid h_n
  obtain ⟨o_n0, o_n1, o_n2, o_n3⟩ := h_n.ones
  clear h_n
  clear hB
  obtain ⟨kG, kH, kI, kJ, kK, kL⟩ := hbx11_3.f4
  go_upto_region 2 with fail
  have k3 := (hbx11_3).set_ 0 (n0)
  have k4 := (k3).set_ 1 (n1)
  have k5 := (k4).set_ 2 (n2)
  have k9 := (k5).set_ 3 (n3)
  have hkp : Kp w12 ((((w12.setCell ⟨g11_3, 0, none⟩ (n0)).setCell ⟨g11_3, 1, none⟩ (n1)).setCell ⟨g11_3, 2, none⟩ (n2)).setCell ⟨g11_3, 3, none⟩ (n3)) := ((((Kp.refl _).set_ (hbx11_3) (by decide) _).set_ (k3) (by decide) _).set_ (k4) (by decide) _).set_ (k5) (by decide) _
  obtain ⟨W30, hW⟩ : ∃ W, W = (((w12.setCell ⟨g11_3, 0, none⟩ (n0)).setCell ⟨g11_3, 1, none⟩ (n1)).setCell ⟨g11_3, 2, none⟩ (n2)).setCell ⟨g11_3, 3, none⟩ (n3) := ⟨_, rfl⟩
  rw [← hW]
  rw [← hW] at hkp
  have hB : Below w.heap.size w W30 := by rw [hW]; exact bel4 (kl.out) (by first | simp | omega)
  have kn := Lib.hid hB; clear hB
  have ko := Lib.hid (km.out.kp hkp)
  have ka : Bx W30 (w.heap.size) 28 [a0, a1, a2, a3, a4, a5, a6, a7] := by rw [hW]; exact ((((ki).far_ (g' := g11_3) (j := 0) (by omega) (n0)).far_ (g' := g11_3) (j := 1) (by omega) (n1)).far_ (g' := g11_3) (j := 2) (by omega) (n2)).far_ (g' := g11_3) (j := 3) (by omega) (n3)
  have kb : Bx W30 (w.heap.size + 1) 28 [b0, b1, b2, b3, b4, b5, b6, b7] := by rw [hW]; exact ((((kj).far_ (g' := g11_3) (j := 0) (by omega) (n0)).far_ (g' := g11_3) (j := 1) (by omega) (n1)).far_ (g' := g11_3) (j := 2) (by omega) (n2)).far_ (g' := g11_3) (j := 3) (by omega) (n3)
  have kc : Bx W30 (w.heap.size + 1 + 1) 31 [.bool false, .slice none 0 0, .bool false, .slice none 0 0, .bool false, .slice none 0 0, .bool false, .slice none 0 0] := by rw [hW]; exact ((((kk).far_ (g' := g11_3) (j := 0) (by omega) (n0)).far_ (g' := g11_3) (j := 1) (by omega) (n1)).far_ (g' := g11_3) (j := 2) (by omega) (n2)).far_ (g' := g11_3) (j := 3) (by omega) (n3)
  have kd : Bx W30 (g11_3) 26 [n0, n1, n2, n3] := by rw [hW]; exact k9
  clear hW hkp k3 k4 k5 k9
  obtain ⟨kM, kN, kO, kP, kQ, kR, kS, kT, kU, kV⟩ := ka.f8
  obtain ⟨kW, kX, kY, kZ, k00, k01, k02, k03, k04, l58⟩ := kb.f8
  obtain ⟨k06, k07, k08, k09, k0a, k0b, k0c, k0d, k0e, l68⟩ := kc.f8
  obtain ⟨k0g, k0h, k0i, k0j, k0k, l74⟩ := kd.f4
  go_wp2_with fail
  have ke := rsign4_any n0 n1 n2 n3 (vdot v v) W30 ko.out
  (with_reducible refine ke.mono ?_)
  clear ke
  rintro e w75 ⟨rfl, k0⟩
  have kr := ka.below k0
  have ks := kb.below k0
  have kf := kc.below k0
  have kt := kd.below k0
  have ku := Lib.hid (Blw kn.out k0)
  clear k0
  obtain ⟨k0m, k0n, k0o, k0p, k0q, k0r, k0s, k0t, k0u, l94⟩ := kr.f8
  obtain ⟨k0w, k0x, k0y, k0z, k0A, k0B, k0C, k0D, k0E, k0F⟩ := ks.f8
  obtain ⟨kv, kw, kx, ky, kz, kA, kB, kC, k0G, k0H⟩ := kf.f8
  obtain ⟨k0I, k0J, k0K, k0L, k0M, k0N⟩ := kt.f4
  go_wp2
  have hkp := (Kp.refl w75).t8 (kf) (.bool false) (.slice none 0 0) (.bool false) (.slice none 0 0) (.bool false) (.slice none 0 0) (.bool false) (.slice none 0 0)
  refine bodyPost_ret (v := .tuple #[.agg #[.bool false, .slice none 0 0, .bool false, .slice none 0 0, .bool false, .slice none 0 0, .bool false, .slice none 0 0], .int .i64 1]) (by simp [results, Try.results11, go_sem, kv, kw, kx, ky, kz, kA, kB, kC]) rfl ⟨_, _, _, _, _, _, _, _, rfl, ?_, bel8 (ku.out) (by first | simp | omega)⟩
  exact VecV.zero _
set_option maxRecDepth 100000 in
theorem valn5_1 (j k : Nat) (a0 a1 a2 a3 a4 a5 a6 a7 b0 b1 b2 b3 b4 b5 b6 b7 : Value) (v : Rat × Rat) (u : Rat × Rat) (w : World) (ha : VecV w a0 a1 a2 a3 a4 a5 a6 a7 v) (hb : VecV w b0 b1 b2 b3 b4 b5 b6 b7 u) (ba : Bv j v) (bb : Bv k u) (hz : vdot v v ≠ 0) (hy : vdot u u = 0) (hk : 40 * (j + k) + 100 ≤ 800000000000) :
  Calls Try.prog 11 #[.agg #[a0, a1, a2, a3, a4, a5, a6, a7], .agg #[b0, b1, b2, b3, b4, b5, b6, b7]] w (RTE (0, 0) 1 w) := by
 obtain ⟨qa0, qa1, qa2, qa3, qa4, qa5, qa6, qa7⟩ := ha.ones
 obtain ⟨qb0, qb1, qb2, qb3, qb4, qb5, qb6, qb7⟩ := hb.ones
 have Hha := Lib.hid ha; have Hhb := Lib.hid hb; have Hba := Lib.hid ba; have Hbb := Lib.hid bb
 clear ha hb ba bb
 have hs1 := sgn_ne hz
 have hs2 := sgn_eq hy
 have HHZ := Lib.hid hz
 have HHY := Lib.hid hy
 clear hz hy
 go_enter Try.func11, Try.ntmps11
 go_upto_region 1 with fail
 generalize hW : ((w.alloc _).alloc _).alloc _ = W1
 obtain ⟨k3, k9, ka, hB⟩ := box3 hW
 have k4 := Lib.hid hB; clear hW hB
 have F6 := Lib.hid (Hha.out.kp (.of k4.out))
 have F7 := Lib.hid (Hhb.out.kp (.of k4.out))
 go_upto_region 1 with fail
 have l8 := k3.lt
 have l9 := k9.lt
 have kZ := ka.lt
 generalize hF : ({ tmps := _, defers := _ } : Act) = F
 have ev2 : F.eval (.tmp 2) = .pointer (some ⟨w.heap.size, 0, none⟩) := by rw [← hF]; rfl
 have HF := Lib.hid hF; clear hF
 refine wp_flow_tab false rfl 4 [(7, []), (8, []), (9, [0, 1]), (6, [])] [SC (.agg #[a0, a1, a2, a3, a4, a5, a6, a7]), SC (.agg #[a0, a1, a2, a3, a4, a5, a6, a7]), SR (vdot v v), SB W1 26 [.bool false, .slice none 0 0, .bool false, .slice none 0 0]] [false, false, false, true] (by kernel_rfl) (by kernel_rfl) (by kernel_rfl) (by kernel_rfl) (by kernel_rfl) (by rw [← HF.out]; simp) ⟨SC.mono _, SC.mono _, SR.mono _, SB.mono _ _ _, trivial⟩ ?_ ?_
 ·intro kq hkq a wx hB hp hs
  have hcase : kq = 0 ∨ kq = 1 ∨ kq = 2 ∨ kq = 3 := by omega
  rcases hcase with rfl | rfl | rfl | rfl
  ·exact ⟨_, rfl, ld_Vec rfl ((hs 2 rfl).trans ev2) (k3.below hB) rfl rfl rfl rfl rfl rfl rfl rfl⟩
  ·exact ⟨_, rfl, ld_Vec rfl ((hs 2 rfl).trans ev2) (k3.below hB) rfl rfl rfl rfl rfl rfl rfl rfl⟩
  ·obtain ⟨kx, ky, -⟩ := hp
   exact ⟨_, rfl, Does.rr (f := 38) (call2 rfl (fun _ => by simp [go_sem]) kx ky) (vdot5_any (j) (j) a0 a1 a2 a3 a4 a5 a6 a7 a0 a1 a2 a3 a4 a5 a6 a7 (v) (v) wx (F6.out.kp (.of hB)) (F6.out.kp (.of hB)) Hba.out Hba.out (by omega))⟩
  ·clear hp
   exact ⟨_, rfl, Does.box (by simp [execOp, go_sem]) hB⟩
 ·intro val wx hB hsp hdis
  obtain ⟨n0, n1, n2, n3, e2, h_n⟩ := hsp 2 (by omega)
  replace e2 : val 2 = .agg #[n0, n1, n2, n3] := e2
  obtain ⟨g11_3, e3, hg11_3, hbx11_3⟩ := hsp 3 (by omega)
  have hgw11_3 : w.heap.size ≤ g11_3 := Nat.le_trans k4.out.size hg11_3
  have hgl11_3 := hbx11_3.lt
  rw [← HF.out]
  change wpList _ _ _ [_] _ _
  simp only [puts, vals, List.map_cons, List.map_nil, List.foldl_cons, List.foldl_nil, if_true, Nat.zero_add, Nat.reduceAdd, e2, e3, List.setIfInBounds_toArray, List.set_cons_succ, List.set_cons_zero]
  clear hsp hdis HF e2 e3
  clear ev2
  obtain ⟨w12, rfl⟩ : ∃ W : World, W = wx := ⟨_, rfl⟩
  have kz := k3.below hB
  have kA := k9.below hB
  have kB := ka.below hB
  have kC := Lib.hid (F7.out.kp (.of hB))
  have kD := Lib.hid (Blw k4.out hB)
  have kE := Lib.hid h_n
  obtain ⟨o_n0, o_n1, o_n2, o_n3⟩ := h_n.ones
  clear h_n
  clear hB
  obtain ⟨k00, k01, k02, k03, k04, l25⟩ := hbx11_3.f4
  go_upto_region 2 with fail
  have k5 := (hbx11_3).set_ 0 (n0)
  have k6 := (k5).set_ 1 (n1)
  have k7 := (k6).set_ 2 (n2)
  have kc := (k7).set_ 3 (n3)
  have hkp : Kp w12 ((((w12.setCell ⟨g11_3, 0, none⟩ (n0)).setCell ⟨g11_3, 1, none⟩ (n1)).setCell ⟨g11_3, 2, none⟩ (n2)).setCell ⟨g11_3, 3, none⟩ (n3)) := ((((Kp.refl _).set_ (hbx11_3) (by decide) _).set_ (k5) (by decide) _).set_ (k6) (by decide) _).set_ (k7) (by decide) _
  obtain ⟨W30, hW⟩ : ∃ W, W = (((w12.setCell ⟨g11_3, 0, none⟩ (n0)).setCell ⟨g11_3, 1, none⟩ (n1)).setCell ⟨g11_3, 2, none⟩ (n2)).setCell ⟨g11_3, 3, none⟩ (n3) := ⟨_, rfl⟩
  rw [← hW]
  rw [← hW] at hkp
  have hB : Below w.heap.size w W30 := by rw [hW]; exact bel4 (kD.out) (by first | simp | omega)
  have kF := Lib.hid hB; clear hB
  have kG := Lib.hid (kC.out.kp hkp)
  have kH := Lib.hid (kE.out.kp hkp)
  have kd : Bx W30 (w.heap.size) 28 [a0, a1, a2, a3, a4, a5, a6, a7] := by rw [hW]; exact ((((kz).far_ (g' := g11_3) (j := 0) (by omega) (n0)).far_ (g' := g11_3) (j := 1) (by omega) (n1)).far_ (g' := g11_3) (j := 2) (by omega) (n2)).far_ (g' := g11_3) (j := 3) (by omega) (n3)
  have ke : Bx W30 (w.heap.size + 1) 28 [b0, b1, b2, b3, b4, b5, b6, b7] := by rw [hW]; exact ((((kA).far_ (g' := g11_3) (j := 0) (by omega) (n0)).far_ (g' := g11_3) (j := 1) (by omega) (n1)).far_ (g' := g11_3) (j := 2) (by omega) (n2)).far_ (g' := g11_3) (j := 3) (by omega) (n3)
  have kf : Bx W30 (w.heap.size + 1 + 1) 31 [.bool false, .slice none 0 0, .bool false, .slice none 0 0, .bool false, .slice none 0 0, .bool false, .slice none 0 0] := by rw [hW]; exact ((((kB).far_ (g' := g11_3) (j := 0) (by omega) (n0)).far_ (g' := g11_3) (j := 1) (by omega) (n1)).far_ (g' := g11_3) (j := 2) (by omega) (n2)).far_ (g' := g11_3) (j := 3) (by omega) (n3)
  have kg : Bx W30 (g11_3) 26 [n0, n1, n2, n3] := by rw [hW]; exact kc
  clear hW hkp k5 k6 k7 kc
  obtain ⟨k06, k07, k08, k09, k0a, k0b, k0c, k0d, k0e, l48⟩ := kd.f8
  obtain ⟨k0g, k0h, k0i, k0j, k0k, k0l, k0m, k0n, k0o, l58⟩ := ke.f8
  obtain ⟨k0q, k0r, k0s, k0t, k0u, k0v, k0w, k0x, k0y, l68⟩ := kf.f8
  obtain ⟨k0A, k0B, k0C, k0D, k0E, l74⟩ := kg.f4
  go_wp2_with fail
  have kh := rsign4_any n0 n1 n2 n3 (vdot v v) W30 kH.out
  (with_reducible refine kh.mono ?_)
  clear kh
  rintro e w75 ⟨rfl, k0⟩
  have ki := kd.below k0
  have kj := ke.below k0
  have kk := kf.below k0
  have kl := kg.below k0
  have km := Lib.hid (kG.out.kp (.of k0))
  have kI := Lib.hid (Blw kF.out k0)
  clear k0
  obtain ⟨k0G, k0H, k0I, k0J, k0K, k0L, k0M, k0N, k0O, l94⟩ := ki.f8
  obtain ⟨k0Q, k0R, k0S, k0T, k0U, k0V, k0W, k0X, k0Y, k0Z⟩ := kj.f8
  obtain ⟨k10, k11, k12, k13, k14, k15, k16, k17, k18, k19⟩ := kk.f8
  obtain ⟨k1a, k1b, k1c, k1d, k1e, k1f⟩ := kl.f4
  go_wp2_with fail
  have kn := vdot5_any (k) (k) b0 b1 b2 b3 b4 b5 b6 b7 b0 b1 b2 b3 b4 b5 b6 b7 (u) (u) w75 km.out km.out Hbb.out Hbb.out (by omega)
  (with_reducible refine kn.mono ?_)
  clear kn
  rintro e w121 ⟨m0, m1, m2, m3, rfl, k8, k1⟩
  have ko := ki.below k1
  have kr := kj.below k1
  have ks := kk.below k1
  have kt := kl.below k1
  have kJ := Lib.hid (Blw kI.out k1)
  have kK := Lib.hid k8
  obtain ⟨o_m0, o_m1, o_m2, o_m3⟩ := k8.ones
  clear k8 k1
  obtain ⟨k1g, k1h, k1i, k1j, k1k, k1l, k1m, k1n, k1o, k1p⟩ := ko.f8
  obtain ⟨k1q, k1r, k1s, k1t, k1u, k1v, k1w, k1x, k1y, k1z⟩ := kr.f8
  obtain ⟨k1A, k1B, k1C, k1D, k1E, k1F, k1G, k1H, k1I, k1J⟩ := ks.f8
  obtain ⟨k1K, k1L, k1M, k1N, k1O, k1P⟩ := kt.f4
  go_wp2_with fail
  have ku := rsign4_any m0 m1 m2 m3 (vdot u u) w121 kK.out
  (with_reducible refine ku.mono ?_)
  clear ku
  rintro e w168 ⟨rfl, k2⟩
  have kL := ko.below k2
  have kM := kr.below k2
  have kv := ks.below k2
  have kN := kt.below k2
  have kO := Lib.hid (Blw kJ.out k2)
  clear k2
  obtain ⟨k1Q, k1R, k1S, k1T, k1U, k1V, k1W, k1X, k1Y, k1Z⟩ := kL.f8
  obtain ⟨k20, k21, k22, k23, k24, k25, k26, k27, k28, k29⟩ := kM.f8
  obtain ⟨kP, kQ, kR, kS, kT, kU, kV, kW, k2a, k2b⟩ := kv.f8
  obtain ⟨k2c, k2d, k2e, k2f, k2g, k2h⟩ := kN.f4
  go_wp2
  have hkp := (Kp.refl w168).t8 (kv) (.bool false) (.slice none 0 0) (.bool false) (.slice none 0 0) (.bool false) (.slice none 0 0) (.bool false) (.slice none 0 0)
  refine bodyPost_ret (v := .tuple #[.agg #[.bool false, .slice none 0 0, .bool false, .slice none 0 0, .bool false, .slice none 0 0, .bool false, .slice none 0 0], .int .i64 1]) (by simp [results, Try.results11, go_sem, kP, kQ, kR, kS, kT, kU, kV, kW]) rfl ⟨_, _, _, _, _, _, _, _, rfl, ?_, bel8 (kO.out) (by first | simp | omega)⟩
  exact VecV.zero _
set_option maxRecDepth 100000 in
theorem valn5_2 (j k : Nat) (a0 a1 a2 a3 a4 a5 a6 a7 b0 b1 b2 b3 b4 b5 b6 b7 : Value) (v : Rat × Rat) (u : Rat × Rat) (w : World) (ha : VecV w a0 a1 a2 a3 a4 a5 a6 a7 v) (hb : VecV w b0 b1 b2 b3 b4 b5 b6 b7 u) (ba : Bv j v) (bb : Bv k u) (hz : vdot v v ≠ 0) (hy : vdot u u ≠ 0) (hd : vdot v v ≠ vdot u u) (hk : 40 * (j + k) + 100 ≤ 800000000000) :
  Calls Try.prog 11 #[.agg #[a0, a1, a2, a3, a4, a5, a6, a7], .agg #[b0, b1, b2, b3, b4, b5, b6, b7]] w (RTE (0, 0) 21 w) := by
 obtain ⟨qa0, qa1, qa2, qa3, qa4, qa5, qa6, qa7⟩ := ha.ones
 obtain ⟨qb0, qb1, qb2, qb3, qb4, qb5, qb6, qb7⟩ := hb.ones
 have Hha := Lib.hid ha; have Hhb := Lib.hid hb; have Hba := Lib.hid ba; have Hbb := Lib.hid bb
 clear ha hb ba bb
 have hs1 := sgn_ne hz
 have hs2 := sgn_ne hy
 have HHZ := Lib.hid hz
 have HHY := Lib.hid hy
 have HHD := Lib.hid hd
 clear hz hy hd
 go_enter Try.func11, Try.ntmps11
 go_upto_region 1 with fail
 generalize hW : ((w.alloc _).alloc _).alloc _ = W1
 obtain ⟨k5, kc, kd, hB⟩ := box3 hW
 have k6 := Lib.hid hB; clear hW hB
 have F6 := Lib.hid (Hha.out.kp (.of k6.out))
 have F7 := Lib.hid (Hhb.out.kp (.of k6.out))
 go_upto_region 1 with fail
 have l8 := k5.lt
 have l9 := kc.lt
 have l10 := kd.lt
 generalize hF : ({ tmps := _, defers := _ } : Act) = F
 have ev2 : F.eval (.tmp 2) = .pointer (some ⟨w.heap.size, 0, none⟩) := by rw [← hF]; rfl
 have HF := Lib.hid hF; clear hF
 refine wp_flow_tab false rfl 4 [(7, []), (8, []), (9, [0, 1]), (6, [])] [SC (.agg #[a0, a1, a2, a3, a4, a5, a6, a7]), SC (.agg #[a0, a1, a2, a3, a4, a5, a6, a7]), SR (vdot v v), SB W1 26 [.bool false, .slice none 0 0, .bool false, .slice none 0 0]] [false, false, false, true] (by kernel_rfl) (by kernel_rfl) (by kernel_rfl) (by kernel_rfl) (by kernel_rfl) (by rw [← HF.out]; simp) ⟨SC.mono _, SC.mono _, SR.mono _, SB.mono _ _ _, trivial⟩ ?_ ?_
 ·intro kq hkq a wx hB hp hs
  have hcase : kq = 0 ∨ kq = 1 ∨ kq = 2 ∨ kq = 3 := by omega
  rcases hcase with rfl | rfl | rfl | rfl
  ·exact ⟨_, rfl, ld_Vec rfl ((hs 2 rfl).trans ev2) (k5.below hB) rfl rfl rfl rfl rfl rfl rfl rfl⟩
  ·exact ⟨_, rfl, ld_Vec rfl ((hs 2 rfl).trans ev2) (k5.below hB) rfl rfl rfl rfl rfl rfl rfl rfl⟩
  ·obtain ⟨k3, k4, -⟩ := hp
   exact ⟨_, rfl, Does.rr (f := 38) (call2 rfl (fun _ => by simp [go_sem]) k3 k4) (vdot5_any (j) (j) a0 a1 a2 a3 a4 a5 a6 a7 a0 a1 a2 a3 a4 a5 a6 a7 (v) (v) wx (F6.out.kp (.of hB)) (F6.out.kp (.of hB)) Hba.out Hba.out (by omega))⟩
  ·clear hp
   exact ⟨_, rfl, Does.box (by simp [execOp, go_sem]) hB⟩
 ·intro val wx hB hsp hdis
  obtain ⟨n0, n1, n2, n3, e2, h_n⟩ := hsp 2 (by omega)
  replace e2 : val 2 = .agg #[n0, n1, n2, n3] := e2
  obtain ⟨g11_3, e3, hg11_3, hbx11_3⟩ := hsp 3 (by omega)
  have hgw11_3 : w.heap.size ≤ g11_3 := Nat.le_trans k6.out.size hg11_3
  have hgl11_3 := hbx11_3.lt
  rw [← HF.out]
  change wpList _ _ _ [_] _ _
  simp only [puts, vals, List.map_cons, List.map_nil, List.foldl_cons, List.foldl_nil, if_true, Nat.zero_add, Nat.reduceAdd, e2, e3, List.setIfInBounds_toArray, List.set_cons_succ, List.set_cons_zero]
  clear hsp hdis HF e2 e3
  clear ev2
  obtain ⟨w12, rfl⟩ : ∃ W : World, W = wx := ⟨_, rfl⟩
  have kJ := k5.below hB
  have kK := kc.below hB
  have kL := kd.below hB
  have kM := Lib.hid (F7.out.kp (.of hB))
  have kN := Lib.hid (Blw k6.out hB)
  have kO := Lib.hid h_n
  obtain ⟨o_n0, o_n1, o_n2, o_n3⟩ := h_n.ones
  clear h_n
  clear hB
  obtain ⟨k0h, k0i, k0j, k0k, k0l, l25⟩ := hbx11_3.f4
  go_upto_region 2 with fail
  have k7 := (hbx11_3).set_ 0 (n0)
  have k8 := (k7).set_ 1 (n1)
  have k9 := (k8).set_ 2 (n2)
  have kf := (k9).set_ 3 (n3)
  have hkp : Kp w12 ((((w12.setCell ⟨g11_3, 0, none⟩ (n0)).setCell ⟨g11_3, 1, none⟩ (n1)).setCell ⟨g11_3, 2, none⟩ (n2)).setCell ⟨g11_3, 3, none⟩ (n3)) := ((((Kp.refl _).set_ (hbx11_3) (by decide) _).set_ (k7) (by decide) _).set_ (k8) (by decide) _).set_ (k9) (by decide) _
  obtain ⟨W30, hW⟩ : ∃ W, W = (((w12.setCell ⟨g11_3, 0, none⟩ (n0)).setCell ⟨g11_3, 1, none⟩ (n1)).setCell ⟨g11_3, 2, none⟩ (n2)).setCell ⟨g11_3, 3, none⟩ (n3) := ⟨_, rfl⟩
  rw [← hW]
  rw [← hW] at hkp
  have hB : Below w.heap.size w W30 := by rw [hW]; exact bel4 (kN.out) (by first | simp | omega)
  have kP := Lib.hid hB; clear hB
  have kQ := Lib.hid (kM.out.kp hkp)
  have kg := Lib.hid (kO.out.kp hkp)
  have kh : Bx W30 (w.heap.size) 28 [a0, a1, a2, a3, a4, a5, a6, a7] := by rw [hW]; exact ((((kJ).far_ (g' := g11_3) (j := 0) (by omega) (n0)).far_ (g' := g11_3) (j := 1) (by omega) (n1)).far_ (g' := g11_3) (j := 2) (by omega) (n2)).far_ (g' := g11_3) (j := 3) (by omega) (n3)
  have ki : Bx W30 (w.heap.size + 1) 28 [b0, b1, b2, b3, b4, b5, b6, b7] := by rw [hW]; exact ((((kK).far_ (g' := g11_3) (j := 0) (by omega) (n0)).far_ (g' := g11_3) (j := 1) (by omega) (n1)).far_ (g' := g11_3) (j := 2) (by omega) (n2)).far_ (g' := g11_3) (j := 3) (by omega) (n3)
  have kj : Bx W30 (w.heap.size + 1 + 1) 31 [.bool false, .slice none 0 0, .bool false, .slice none 0 0, .bool false, .slice none 0 0, .bool false, .slice none 0 0] := by rw [hW]; exact ((((kL).far_ (g' := g11_3) (j := 0) (by omega) (n0)).far_ (g' := g11_3) (j := 1) (by omega) (n1)).far_ (g' := g11_3) (j := 2) (by omega) (n2)).far_ (g' := g11_3) (j := 3) (by omega) (n3)
  have kk : Bx W30 (g11_3) 26 [n0, n1, n2, n3] := by rw [hW]; exact kf
  clear hW hkp k7 k8 k9 kf
  obtain ⟨k0n, k0o, k0p, k0q, k0r, k0s, k0t, k0u, k0v, l48⟩ := kh.f8
  obtain ⟨k0x, k0y, k0z, k0A, k0B, k0C, k0D, k0E, k0F, l58⟩ := ki.f8
  obtain ⟨k0H, k0I, k0J, k0K, k0L, k0M, k0N, k0O, k0P, l68⟩ := kj.f8
  obtain ⟨k0R, k0S, k0T, k0U, k0V, l74⟩ := kk.f4
  go_wp2_with fail
  have kl := rsign4_any n0 n1 n2 n3 (vdot v v) W30 kg.out
  (with_reducible refine kl.mono ?_)
  clear kl
  rintro e w75 ⟨rfl, k0⟩
  have km := kh.below k0
  have kn := ki.below k0
  have ko := kj.below k0
  have kr := kk.below k0
  have ka := Lib.hid (kQ.out.kp (.of k0))
  have kR := Lib.hid (kg.out.kp (.of k0))
  have kS := Lib.hid (Blw kP.out k0)
  clear k0
  obtain ⟨k0X, k0Y, k0Z, k10, k11, k12, k13, k14, k15, l94⟩ := km.f8
  obtain ⟨k17, k18, k19, k1a, k1b, k1c, k1d, k1e, k1f, k1g⟩ := kn.f8
  obtain ⟨k1h, k1i, k1j, k1k, k1l, k1m, k1n, k1o, k1p, k1q⟩ := ko.f8
  obtain ⟨k1r, k1s, k1t, k1u, k1v, k1w⟩ := kr.f4
  go_wp2_with fail
  have ks := vdot5_any (k) (k) b0 b1 b2 b3 b4 b5 b6 b7 b0 b1 b2 b3 b4 b5 b6 b7 (u) (u) w75 ka.out ka.out Hbb.out Hbb.out (by omega)
  (with_reducible refine ks.mono ?_)
  clear ks
  rintro e w121 ⟨m0, m1, m2, m3, rfl, kb, k1⟩
  have kt := km.below k1
  have ku := kn.below k1
  have kv := ko.below k1
  have kw := kr.below k1
  have kT := Lib.hid (ka.out.kp (.of k1))
  have kU := Lib.hid (kR.out.kp (.of k1))
  have kV := Lib.hid (Blw kS.out k1)
  have kW := Lib.hid kb
  obtain ⟨o_m0, o_m1, o_m2, o_m3⟩ := kb.ones
  clear kb k1
  obtain ⟨k1x, k1y, k1z, k1A, k1B, k1C, k1D, k1E, k1F, k1G⟩ := kt.f8
  obtain ⟨k1H, k1I, k1J, k1K, k1L, k1M, k1N, k1O, k1P, k1Q⟩ := ku.f8
  obtain ⟨k1R, k1S, k1T, k1U, k1V, k1W, k1X, k1Y, k1Z, k20⟩ := kv.f8
  obtain ⟨k21, k22, k23, k24, k25, k26⟩ := kw.f4
  go_wp2_with fail
  have kx := rsign4_any m0 m1 m2 m3 (vdot u u) w121 kW.out
  (with_reducible refine kx.mono ?_)
  clear kx
  rintro e w168 ⟨rfl, k2⟩
  have kX := kt.below k2
  have ky := ku.below k2
  have kz := kv.below k2
  have kA := kw.below k2
  have kY := Lib.hid (kT.out.kp (.of k2))
  have kZ := Lib.hid (kU.out.kp (.of k2))
  have k00 := Lib.hid (Blw kV.out k2)
  clear k2
  obtain ⟨k27, k28, k29, k2a, k2b, k2c, k2d, k2e, k2f, k2g⟩ := kX.f8
  obtain ⟨k2h, k2i, k2j, k2k, k2l, k2m, k2n, k2o, k2p, k2q⟩ := ky.f8
  obtain ⟨k2r, k2s, k2t, k2u, k2v, k2w, k2x, k2y, k2z, k2A⟩ := kz.f8
  obtain ⟨k2B, k2C, k2D, k2E, k2F, k2G⟩ := kA.f4
  go_wp2_with fail
  go_upto_region 4 with fail
  generalize hW : w168.drew = W215
  have hB : Below w168.heap.size w168 W215 := by rw [← hW]; exact (Below.refl _ _).drew
  have kB := ky.below hB
  have k01 := kz.below hB
  have k02 := kA.below hB
  have kC := Lib.hid (kY.out.kp (.of hB))
  have k03 := Lib.hid (kZ.out.kp (.of hB))
  have k04 := Lib.hid (Blw k00.out hB)
  clear hB
  generalize hF : ({ tmps := _, defers := _ } : Act) = F
  have ev3 : F.eval (.tmp 3) = .pointer (some ⟨w.heap.size + 1, 0, none⟩) := by rw [← hF]; rfl
  have ev6 : F.eval (.tmp 6) = .pointer (some ⟨g11_3, 0, none⟩) := by rw [← hF]; rfl
  have HF := Lib.hid hF; clear hF
  refine wp_flow_tab true hW 6 [(21, []), (22, []), (23, []), (24, [1, 2]), (25, [0, 3]), (26, [4])] [SC (.agg #[n0, n1, n2, n3]), SC (.agg #[b0, b1, b2, b3, b4, b5, b6, b7]), SC (.agg #[b0, b1, b2, b3, b4, b5, b6, b7]), SR (vdot u u), SC (.bool false), SC (.bool true)] [false, false, false, false, false, false] (by kernel_rfl) (by kernel_rfl) (by kernel_rfl) (by kernel_rfl) (by kernel_rfl) (by rw [← HF.out]; simp) ⟨SC.mono _, SC.mono _, SC.mono _, SR.mono _, SC.mono _, SC.mono _, trivial⟩ ?_ ?_
  ·intro kq hkq a wx hB hp hs
   have hcase : kq = 0 ∨ kq = 1 ∨ kq = 2 ∨ kq = 3 ∨ kq = 4 ∨ kq = 5 := by omega
   rcases hcase with rfl | rfl | rfl | rfl | rfl | rfl
   ·exact ⟨_, rfl, ld_Rat rfl ((hs 6 rfl).trans ev6) (k02.below hB) rfl rfl rfl rfl⟩
   ·exact ⟨_, rfl, ld_Vec rfl ((hs 3 rfl).trans ev3) (kB.below hB) rfl rfl rfl rfl rfl rfl rfl rfl⟩
   ·exact ⟨_, rfl, ld_Vec rfl ((hs 3 rfl).trans ev3) (kB.below hB) rfl rfl rfl rfl rfl rfl rfl rfl⟩
   ·obtain ⟨k3, k4, -⟩ := hp
    exact ⟨_, rfl, Does.rr (f := 38) (call2 rfl (fun _ => by simp [go_sem]) k3 k4) (vdot5_any (k) (k) b0 b1 b2 b3 b4 b5 b6 b7 b0 b1 b2 b3 b4 b5 b6 b7 (u) (u) wx (kC.out.kp (.of hB)) (kC.out.kp (.of hB)) Hbb.out Hbb.out (by omega))⟩
   ·obtain ⟨k3, k4, -⟩ := hp
    obtain ⟨l0, l1, l2, l3, e1, h_l⟩ := k4
    replace e1 : a.eval (.tmp 24) = .agg #[l0, l1, l2, l3] := e1
    exact ⟨_, rfl, Does.rc (f := 37) (call2 rfl (fun _ => by simp [go_sem]) k3 e1) (rsame4_any n0 n1 n2 n3 l0 l1 l2 l3 (vdot v v) (vdot u u) wx (k03.out.kp (.of hB)) h_l false (decide_eq_false HHD.out).symm)⟩
   ·obtain ⟨k3, -⟩ := hp
    have e0 : a.eval (.tmp 25) = .bool false := k3
    simp [Act.eval] at e0
    exact ⟨_, rfl, Does.val (by simp [execOp, Act.eval, e0, go_sem]) rfl⟩
  ·intro val wx hB hsp hdis
   have e5 : val 5 = .bool true := hsp 5 (by omega)
   rw [← HF.out]
   change wpList _ _ _ [] _ _
   simp only [puts, vals, List.map_cons, List.map_nil, List.foldl_cons, List.foldl_nil, if_true, Nat.zero_add, Nat.reduceAdd, e5, List.setIfInBounds_toArray, List.set_cons_succ, List.set_cons_zero]
   clear hsp hdis HF e5
   clear ev3 ev6
   obtain ⟨w226, rfl⟩ : ∃ W : World, W = wx := ⟨_, rfl⟩
   have kH := k01.below hB
   have k05 := Lib.hid (Blw k04.out hB)
   clear hB
   obtain ⟨k06, k07, k08, k09, k0a, k0b, k0c, k0d, k2H, k2I⟩ := kH.f8
   go_wp2
   have hkp := (Kp.refl w226).t8 (kH) (.bool false) (.slice none 0 0) (.bool false) (.slice none 0 0) (.bool false) (.slice none 0 0) (.bool false) (.slice none 0 0)
   refine bodyPost_ret (v := .tuple #[.agg #[.bool false, .slice none 0 0, .bool false, .slice none 0 0, .bool false, .slice none 0 0, .bool false, .slice none 0 0], .int .i64 21]) (by simp [results, Try.results11, go_sem, k06, k07, k08, k09, k0a, k0b, k0c, k0d]) rfl ⟨_, _, _, _, _, _, _, _, rfl, ?_, bel8 (k05.out) (by first | simp | omega)⟩
   exact VecV.zero _
set_option maxRecDepth 100000 in
theorem valn5_3 (j k : Nat) (a0 a1 a2 a3 a4 a5 a6 a7 b0 b1 b2 b3 b4 b5 b6 b7 : Value) (v : Rat × Rat) (u : Rat × Rat) (w : World) (ha : VecV w a0 a1 a2 a3 a4 a5 a6 a7 v) (hb : VecV w b0 b1 b2 b3 b4 b5 b6 b7 u) (ba : Bv j v) (bb : Bv k u) (hz : vdot v v ≠ 0) (hy : vdot u u ≠ 0) (hd : vdot v v = vdot u u) (hk : 40 * (j + k) + 100 ≤ 800000000000) :
  Calls Try.prog 11 #[.agg #[a0, a1, a2, a3, a4, a5, a6, a7], .agg #[b0, b1, b2, b3, b4, b5, b6, b7]] w (RTE (vdot v u / vdot v v, vcrs v u / vdot v v) 0 w) := by
 obtain ⟨qa0, qa1, qa2, qa3, qa4, qa5, qa6, qa7⟩ := ha.ones
 obtain ⟨qb0, qb1, qb2, qb3, qb4, qb5, qb6, qb7⟩ := hb.ones
 have Hha := Lib.hid ha; have Hhb := Lib.hid hb; have Hba := Lib.hid ba; have Hbb := Lib.hid bb
 clear ha hb ba bb
 have hs1 := sgn_ne hz
 have hs2 := sgn_ne hy
 have HHZ := Lib.hid hz
 have HHY := Lib.hid hy
 have HHD := Lib.hid hd
 clear hz hy hd
 go_enter Try.func11, Try.ntmps11
 go_upto_region 1 with fail
 generalize hW : ((w.alloc _).alloc _).alloc _ = W1
 obtain ⟨k5, kf, kg, hB⟩ := box3 hW
 have k6 := Lib.hid hB; clear hW hB
 have F6 := Lib.hid (Hha.out.kp (.of k6.out))
 have F7 := Lib.hid (Hhb.out.kp (.of k6.out))
 go_upto_region 1 with fail
 have l8 := k5.lt
 have l9 := kf.lt
 have l10 := kg.lt
 generalize hF : ({ tmps := _, defers := _ } : Act) = F
 have ev2 : F.eval (.tmp 2) = .pointer (some ⟨w.heap.size, 0, none⟩) := by rw [← hF]; rfl
 have HF := Lib.hid hF; clear hF
 refine wp_flow_tab false rfl 4 [(7, []), (8, []), (9, [0, 1]), (6, [])] [SC (.agg #[a0, a1, a2, a3, a4, a5, a6, a7]), SC (.agg #[a0, a1, a2, a3, a4, a5, a6, a7]), SR (vdot v v), SB W1 26 [.bool false, .slice none 0 0, .bool false, .slice none 0 0]] [false, false, false, true] (by kernel_rfl) (by kernel_rfl) (by kernel_rfl) (by kernel_rfl) (by kernel_rfl) (by rw [← HF.out]; simp) ⟨SC.mono _, SC.mono _, SR.mono _, SB.mono _ _ _, trivial⟩ ?_ ?_
 ·intro kq hkq a wx hB hp hs
  have hcase : kq = 0 ∨ kq = 1 ∨ kq = 2 ∨ kq = 3 := by omega
  rcases hcase with rfl | rfl | rfl | rfl
  ·exact ⟨_, rfl, ld_Vec rfl ((hs 2 rfl).trans ev2) (k5.below hB) rfl rfl rfl rfl rfl rfl rfl rfl⟩
  ·exact ⟨_, rfl, ld_Vec rfl ((hs 2 rfl).trans ev2) (k5.below hB) rfl rfl rfl rfl rfl rfl rfl rfl⟩
  ·obtain ⟨k0, k1, -⟩ := hp
   exact ⟨_, rfl, Does.rr (f := 38) (call2 rfl (fun _ => by simp [go_sem]) k0 k1) (vdot5_any (j) (j) a0 a1 a2 a3 a4 a5 a6 a7 a0 a1 a2 a3 a4 a5 a6 a7 (v) (v) wx (F6.out.kp (.of hB)) (F6.out.kp (.of hB)) Hba.out Hba.out (by omega))⟩
  ·clear hp
   exact ⟨_, rfl, Does.box (by simp [execOp, go_sem]) hB⟩
 ·intro val wx hB hsp hdis
  obtain ⟨n0, n1, n2, n3, e2, h_n⟩ := hsp 2 (by omega)
  replace e2 : val 2 = .agg #[n0, n1, n2, n3] := e2
  obtain ⟨g11_3, e3, hg11_3, hbx11_3⟩ := hsp 3 (by omega)
  have hgw11_3 : w.heap.size ≤ g11_3 := Nat.le_trans k6.out.size hg11_3
  have hgl11_3 := hbx11_3.lt
  rw [← HF.out]
  change wpList _ _ _ [_] _ _
  simp only [puts, vals, List.map_cons, List.map_nil, List.foldl_cons, List.foldl_nil, if_true, Nat.zero_add, Nat.reduceAdd, e2, e3, List.setIfInBounds_toArray, List.set_cons_succ, List.set_cons_zero]
  clear hsp hdis HF e2 e3
  clear ev2
  obtain ⟨w12, rfl⟩ : ∃ W : World, W = wx := ⟨_, rfl⟩
  have kW := k5.below hB
  have kX := kf.below hB
  have kY := kg.below hB
  have kZ := Lib.hid (F6.out.kp (.of hB))
  have F17 := Lib.hid (F7.out.kp (.of hB))
  have k01 := Lib.hid (Blw k6.out hB)
  have F19 := Lib.hid h_n
  obtain ⟨o_n0, o_n1, o_n2, o_n3⟩ := h_n.ones
  clear h_n
  clear hB
  obtain ⟨k0J, k0K, k0L, k0M, k0N, l25⟩ := hbx11_3.f4
  go_upto_region 2 with fail
  have k8 := (hbx11_3).set_ 0 (n0)
  have k9 := (k8).set_ 1 (n1)
  have ka := (k9).set_ 2 (n2)
  have kh := (ka).set_ 3 (n3)
  have hkp : Kp w12 ((((w12.setCell ⟨g11_3, 0, none⟩ (n0)).setCell ⟨g11_3, 1, none⟩ (n1)).setCell ⟨g11_3, 2, none⟩ (n2)).setCell ⟨g11_3, 3, none⟩ (n3)) := ((((Kp.refl _).set_ (hbx11_3) (by decide) _).set_ (k8) (by decide) _).set_ (k9) (by decide) _).set_ (ka) (by decide) _
  obtain ⟨W30, hW⟩ : ∃ W, W = (((w12.setCell ⟨g11_3, 0, none⟩ (n0)).setCell ⟨g11_3, 1, none⟩ (n1)).setCell ⟨g11_3, 2, none⟩ (n2)).setCell ⟨g11_3, 3, none⟩ (n3) := ⟨_, rfl⟩
  rw [← hW]
  rw [← hW] at hkp
  have hB : Below w.heap.size w W30 := by rw [hW]; exact bel4 (k01.out) (by first | simp | omega)
  have k03 := Lib.hid hB; clear hB
  have F32 := Lib.hid (kZ.out.kp hkp)
  have F33 := Lib.hid (F17.out.kp hkp)
  have ki := Lib.hid (F19.out.kp hkp)
  have kj : Bx W30 (w.heap.size) 28 [a0, a1, a2, a3, a4, a5, a6, a7] := by rw [hW]; exact ((((kW).far_ (g' := g11_3) (j := 0) (by omega) (n0)).far_ (g' := g11_3) (j := 1) (by omega) (n1)).far_ (g' := g11_3) (j := 2) (by omega) (n2)).far_ (g' := g11_3) (j := 3) (by omega) (n3)
  have kk : Bx W30 (w.heap.size + 1) 28 [b0, b1, b2, b3, b4, b5, b6, b7] := by rw [hW]; exact ((((kX).far_ (g' := g11_3) (j := 0) (by omega) (n0)).far_ (g' := g11_3) (j := 1) (by omega) (n1)).far_ (g' := g11_3) (j := 2) (by omega) (n2)).far_ (g' := g11_3) (j := 3) (by omega) (n3)
  have kl : Bx W30 (w.heap.size + 1 + 1) 31 [.bool false, .slice none 0 0, .bool false, .slice none 0 0, .bool false, .slice none 0 0, .bool false, .slice none 0 0] := by rw [hW]; exact ((((kY).far_ (g' := g11_3) (j := 0) (by omega) (n0)).far_ (g' := g11_3) (j := 1) (by omega) (n1)).far_ (g' := g11_3) (j := 2) (by omega) (n2)).far_ (g' := g11_3) (j := 3) (by omega) (n3)
  have km : Bx W30 (g11_3) 26 [n0, n1, n2, n3] := by rw [hW]; exact kh
  clear hW hkp k8 k9 ka kh
  obtain ⟨k0P, k0Q, k0R, k0S, k0T, k0U, k0V, k0W, k0X, l48⟩ := kj.f8
  obtain ⟨k0Z, k10, k11, k12, k13, k14, k15, k16, k17, l58⟩ := kk.f8
  obtain ⟨k19, k1a, k1b, k1c, k1d, k1e, k1f, k1g, k1h, l68⟩ := kl.f8
  obtain ⟨k1j, k1k, k1l, k1m, k1n, l74⟩ := km.f4
  go_wp2_with fail
  have kn := rsign4_any n0 n1 n2 n3 (vdot v v) W30 ki.out
  (with_reducible refine kn.mono ?_)
  clear kn
  rintro e w75 ⟨rfl, k2⟩
  have ko := kj.below k2
  have kr := kk.below k2
  have ks := kl.below k2
  have kt := km.below k2
  have F81 := Lib.hid (F32.out.kp (.of k2))
  have kb := Lib.hid (F33.out.kp (.of k2))
  have F83 := Lib.hid (ki.out.kp (.of k2))
  have k08 := Lib.hid (Blw k03.out k2)
  clear k2
  obtain ⟨k1p, k1q, k1r, k1s, k1t, k1u, k1v, k1w, k1x, l94⟩ := ko.f8
  obtain ⟨k1z, k1A, k1B, k1C, k1D, k1E, k1F, k1G, k1H, k1I⟩ := kr.f8
  obtain ⟨k1J, k1K, k1L, k1M, k1N, k1O, k1P, k1Q, k1R, k1S⟩ := ks.f8
  obtain ⟨k1T, k1U, k1V, k1W, k1X, k1Y⟩ := kt.f4
  go_wp2_with fail
  have ku := vdot5_any (k) (k) b0 b1 b2 b3 b4 b5 b6 b7 b0 b1 b2 b3 b4 b5 b6 b7 (u) (u) w75 kb.out kb.out Hbb.out Hbb.out (by omega)
  (with_reducible refine ku.mono ?_)
  clear ku
  rintro e w121 ⟨m0, m1, m2, m3, rfl, kc, k3⟩
  have kv := ko.below k3
  have kw := kr.below k3
  have kx := ks.below k3
  have ky := kt.below k3
  have k09 := Lib.hid (F81.out.kp (.of k3))
  have k0a := Lib.hid (kb.out.kp (.of k3))
  have k0b := Lib.hid (F83.out.kp (.of k3))
  have k0c := Lib.hid (Blw k08.out k3)
  have k0d := Lib.hid kc
  obtain ⟨o_m0, o_m1, o_m2, o_m3⟩ := kc.ones
  clear kc k3
  obtain ⟨k1Z, k20, k21, k22, k23, k24, k25, k26, k27, k28⟩ := kv.f8
  obtain ⟨k29, k2a, k2b, k2c, k2d, k2e, k2f, k2g, k2h, k2i⟩ := kw.f8
  obtain ⟨k2j, k2k, k2l, k2m, k2n, k2o, k2p, k2q, k2r, k2s⟩ := kx.f8
  obtain ⟨k2t, k2u, k2v, k2w, k2x, k2y⟩ := ky.f4
  go_wp2_with fail
  have kz := rsign4_any m0 m1 m2 m3 (vdot u u) w121 k0d.out
  (with_reducible refine kz.mono ?_)
  clear kz
  rintro e w168 ⟨rfl, k4⟩
  have kA := kv.below k4
  have kB := kw.below k4
  have kC := kx.below k4
  have kD := ky.below k4
  have k0e := Lib.hid (k09.out.kp (.of k4))
  have k0f := Lib.hid (k0a.out.kp (.of k4))
  have k0g := Lib.hid (k0b.out.kp (.of k4))
  have k0h := Lib.hid (Blw k0c.out k4)
  clear k4
  obtain ⟨k2z, k2A, k2B, k2C, k2D, k2E, k2F, k2G, k2H, k2I⟩ := kA.f8
  obtain ⟨k2J, k2K, k2L, k2M, k2N, k2O, k2P, k2Q, k2R, k2S⟩ := kB.f8
  obtain ⟨k2T, k2U, k2V, k2W, k2X, k2Y, k2Z, k30, k31, k32⟩ := kC.f8
  obtain ⟨k33, k34, k35, k36, k37, k38⟩ := kD.f4
  go_wp2_with fail
  go_upto_region 4 with fail
  generalize hW : w168.drew = W215
  have hB : Below w168.heap.size w168 W215 := by rw [← hW]; exact (Below.refl _ _).drew
  have k0i := kA.below hB
  have kd := kB.below hB
  have k0j := kC.below hB
  have kE := kD.below hB
  have k0k := Lib.hid (k0e.out.kp (.of hB))
  have ke := Lib.hid (k0f.out.kp (.of hB))
  have kF := Lib.hid (k0g.out.kp (.of hB))
  have k0l := Lib.hid (Blw k0h.out hB)
  clear hB
  generalize hF : ({ tmps := _, defers := _ } : Act) = F
  have ev3 : F.eval (.tmp 3) = .pointer (some ⟨w.heap.size + 1, 0, none⟩) := by rw [← hF]; rfl
  have ev6 : F.eval (.tmp 6) = .pointer (some ⟨g11_3, 0, none⟩) := by rw [← hF]; rfl
  have HF := Lib.hid hF; clear hF
  refine wp_flow_tab true hW 6 [(21, []), (22, []), (23, []), (24, [1, 2]), (25, [0, 3]), (26, [4])] [SC (.agg #[n0, n1, n2, n3]), SC (.agg #[b0, b1, b2, b3, b4, b5, b6, b7]), SC (.agg #[b0, b1, b2, b3, b4, b5, b6, b7]), SR (vdot u u), SC (.bool true), SC (.bool false)] [false, false, false, false, false, false] (by kernel_rfl) (by kernel_rfl) (by kernel_rfl) (by kernel_rfl) (by kernel_rfl) (by rw [← HF.out]; simp) ⟨SC.mono _, SC.mono _, SC.mono _, SR.mono _, SC.mono _, SC.mono _, trivial⟩ ?_ ?_
  ·intro kq hkq a wx hB hp hs
   have hcase : kq = 0 ∨ kq = 1 ∨ kq = 2 ∨ kq = 3 ∨ kq = 4 ∨ kq = 5 := by omega
   rcases hcase with rfl | rfl | rfl | rfl | rfl | rfl
   ·exact ⟨_, rfl, ld_Rat rfl ((hs 6 rfl).trans ev6) (kE.below hB) rfl rfl rfl rfl⟩
   ·exact ⟨_, rfl, ld_Vec rfl ((hs 3 rfl).trans ev3) (kd.below hB) rfl rfl rfl rfl rfl rfl rfl rfl⟩
   ·exact ⟨_, rfl, ld_Vec rfl ((hs 3 rfl).trans ev3) (kd.below hB) rfl rfl rfl rfl rfl rfl rfl rfl⟩
   ·obtain ⟨k0, k1, -⟩ := hp
    exact ⟨_, rfl, Does.rr (f := 38) (call2 rfl (fun _ => by simp [go_sem]) k0 k1) (vdot5_any (k) (k) b0 b1 b2 b3 b4 b5 b6 b7 b0 b1 b2 b3 b4 b5 b6 b7 (u) (u) wx (ke.out.kp (.of hB)) (ke.out.kp (.of hB)) Hbb.out Hbb.out (by omega))⟩
   ·obtain ⟨k0, k1, -⟩ := hp
    obtain ⟨l0, l1, l2, l3, e1, h_l⟩ := k1
    replace e1 : a.eval (.tmp 24) = .agg #[l0, l1, l2, l3] := e1
    exact ⟨_, rfl, Does.rc (f := 37) (call2 rfl (fun _ => by simp [go_sem]) k0 e1) (rsame4_any n0 n1 n2 n3 l0 l1 l2 l3 (vdot v v) (vdot u u) wx (kF.out.kp (.of hB)) h_l true (decide_eq_true HHD.out).symm)⟩
   ·obtain ⟨k0, -⟩ := hp
    have e0 : a.eval (.tmp 25) = .bool true := k0
    simp [Act.eval] at e0
    exact ⟨_, rfl, Does.val (by simp [execOp, Act.eval, e0, go_sem]) rfl⟩
  ·intro val wx hB hsp hdis
   have e5 : val 5 = .bool false := hsp 5 (by omega)
   rw [← HF.out]
   change wpList _ _ _ [] _ _
   simp only [puts, vals, List.map_cons, List.map_nil, List.foldl_cons, List.foldl_nil, if_true, Nat.zero_add, Nat.reduceAdd, e5, List.setIfInBounds_toArray, List.set_cons_succ, List.set_cons_zero]
   clear hsp hdis HF e5
   clear ev3 ev6
   obtain ⟨w226, rfl⟩ : ∃ W : World, W = wx := ⟨_, rfl⟩
   have k0m := k0i.below hB
   have k0n := kd.below hB
   have k0o := k0j.below hB
   have k0p := kE.below hB
   have k0q := Lib.hid (k0k.out.kp (.of hB))
   have k0r := Lib.hid (ke.out.kp (.of hB))
   have k0s := Lib.hid (kF.out.kp (.of hB))
   have k0t := Lib.hid (Blw k0l.out hB)
   clear hB
   go_upto_region 6 with fail
   generalize hW : w226.drew = W236
   have hB : Below w226.heap.size w226 W236 := by rw [← hW]; exact (Below.refl _ _).drew
   have kK := k0m.below hB
   have kL := k0n.below hB
   have k0u := k0o.below hB
   have kM := k0p.below hB
   have kN := Lib.hid (k0q.out.kp (.of hB))
   have kO := Lib.hid (k0r.out.kp (.of hB))
   have kP := Lib.hid (k0s.out.kp (.of hB))
   have k0v := Lib.hid (Blw k0t.out hB)
   clear hB
   generalize hF : ({ tmps := _, defers := _ } : Act) = F
   have ev2 : F.eval (.tmp 2) = .pointer (some ⟨w.heap.size, 0, none⟩) := by rw [← hF]; rfl
   have ev3 : F.eval (.tmp 3) = .pointer (some ⟨w.heap.size + 1, 0, none⟩) := by rw [← hF]; rfl
   have ev6 : F.eval (.tmp 6) = .pointer (some ⟨g11_3, 0, none⟩) := by rw [← hF]; rfl
   have HF := Lib.hid hF; clear hF
   refine wp_flow_tab true hW 11 [(28, []), (29, []), (30, [0, 1]), (31, []), (32, [2, 3]), (33, []), (34, []), (35, [5, 6]), (36, []), (37, [7, 8]), (38, [4, 9])] [SC (.agg #[a0, a1, a2, a3, a4, a5, a6, a7]), SC (.agg #[b0, b1, b2, b3, b4, b5, b6, b7]), SR (vdot v u), SC (.agg #[n0, n1, n2, n3]), SR (vdot v u / vdot v v), SC (.agg #[a0, a1, a2, a3, a4, a5, a6, a7]), SC (.agg #[b0, b1, b2, b3, b4, b5, b6, b7]), SR (vcrs v u), SC (.agg #[n0, n1, n2, n3]), SR (vcrs v u / vdot v v), SV ((vdot v u / vdot v v, vcrs v u / vdot v v))] [false, false, false, false, false, false, false, false, false, false, false] (by kernel_rfl) (by kernel_rfl) (by kernel_rfl) (by kernel_rfl) (by kernel_rfl) (by rw [← HF.out]; simp) ⟨SC.mono _, SC.mono _, SR.mono _, SC.mono _, SR.mono _, SC.mono _, SC.mono _, SR.mono _, SC.mono _, SR.mono _, SV.mono _, trivial⟩ ?_ ?_
   ·intro kq hkq a wx hB hp hs
    have hcase : kq = 0 ∨ kq = 1 ∨ kq = 2 ∨ kq = 3 ∨ kq = 4 ∨ kq = 5 ∨ kq = 6 ∨ kq = 7 ∨ kq = 8 ∨ kq = 9 ∨ kq = 10 := by omega
    rcases hcase with rfl | rfl | rfl | rfl | rfl | rfl | rfl | rfl | rfl | rfl | rfl
    ·exact ⟨_, rfl, ld_Vec rfl ((hs 2 rfl).trans ev2) (kK.below hB) rfl rfl rfl rfl rfl rfl rfl rfl⟩
    ·exact ⟨_, rfl, ld_Vec rfl ((hs 3 rfl).trans ev3) (kL.below hB) rfl rfl rfl rfl rfl rfl rfl rfl⟩
    ·obtain ⟨k0, k1, -⟩ := hp
     exact ⟨_, rfl, Does.rr (f := 38) (call2 rfl (fun _ => by simp [go_sem]) k0 k1) (vdot5_any (j) (k) a0 a1 a2 a3 a4 a5 a6 a7 b0 b1 b2 b3 b4 b5 b6 b7 (v) (u) wx (kN.out.kp (.of hB)) (kO.out.kp (.of hB)) Hba.out Hbb.out (by omega))⟩
    ·exact ⟨_, rfl, ld_Rat rfl ((hs 6 rfl).trans ev6) (kM.below hB) rfl rfl rfl rfl⟩
    ·obtain ⟨k0, k1, -⟩ := hp
     obtain ⟨x0, x1, x2, x3, e0, h_x⟩ := k0
     replace e0 : a.eval (.tmp 30) = .agg #[x0, x1, x2, x3] := e0
     exact ⟨_, rfl, Does.rr (f := 52) (call2 rfl (fun _ => by simp [go_sem]) e0 k1) (rdiv4_any (2 * (j + k) + 1) (2 * (j + j) + 1) x0 x1 x2 x3 n0 n1 n2 n3 (vdot v u) (vdot v v) wx h_x (kP.out.kp (.of hB)) (Hba.out.dot Hbb.out) (Hba.out.dot Hba.out) (by omega))⟩
    ·exact ⟨_, rfl, ld_Vec rfl ((hs 2 rfl).trans ev2) (kK.below hB) rfl rfl rfl rfl rfl rfl rfl rfl⟩
    ·exact ⟨_, rfl, ld_Vec rfl ((hs 3 rfl).trans ev3) (kL.below hB) rfl rfl rfl rfl rfl rfl rfl rfl⟩
    ·obtain ⟨k0, k1, -⟩ := hp
     exact ⟨_, rfl, Does.rr (f := 39) (call2 rfl (fun _ => by simp [go_sem]) k0 k1) (vcrs5_any (j) (k) a0 a1 a2 a3 a4 a5 a6 a7 b0 b1 b2 b3 b4 b5 b6 b7 (v) (u) wx (kN.out.kp (.of hB)) (kO.out.kp (.of hB)) Hba.out Hbb.out (by omega))⟩
    ·exact ⟨_, rfl, ld_Rat rfl ((hs 6 rfl).trans ev6) (kM.below hB) rfl rfl rfl rfl⟩
    ·obtain ⟨k0, k1, -⟩ := hp
     obtain ⟨y0, y1, y2, y3, e0, h_y⟩ := k0
     replace e0 : a.eval (.tmp 35) = .agg #[y0, y1, y2, y3] := e0
     exact ⟨_, rfl, Does.rr (f := 52) (call2 rfl (fun _ => by simp [go_sem]) e0 k1) (rdiv4_any (2 * (j + k) + 1) (2 * (j + j) + 1) y0 y1 y2 y3 n0 n1 n2 n3 (vcrs v u) (vdot v v) wx h_y (kP.out.kp (.of hB)) (Hba.out.crs Hbb.out) (Hba.out.dot Hba.out) (by omega))⟩
    ·obtain ⟨k0, k1, -⟩ := hp
     obtain ⟨c0, c1, c2, c3, e0, h_c⟩ := k0
     replace e0 : a.eval (.tmp 32) = .agg #[c0, c1, c2, c3] := e0
     obtain ⟨d0, d1, d2, d3, e1, h_d⟩ := k1
     replace e1 : a.eval (.tmp 37) = .agg #[d0, d1, d2, d3] := e1
     simp [Act.eval] at e0
     simp [Act.eval] at e1
     exact ⟨_, rfl, Does.val (by simp [execOp, Act.eval, e0, e1, go_sem]) ⟨c0, c1, c2, c3, d0, d1, d2, d3, rfl, ⟨h_c, h_d⟩⟩⟩
   ·intro val wx hB hsp hdis
    obtain ⟨z0, z1, z2, z3, z4, z5, z6, z7, e10, h_z⟩ := hsp 10 (by omega)
    replace e10 : val 10 = .agg #[z0, z1, z2, z3, z4, z5, z6, z7] := e10
    rw [← HF.out]
    change wpList _ _ _ [_, _] _ _
    simp only [puts, vals, List.map_cons, List.map_nil, List.foldl_cons, List.foldl_nil, if_true, Nat.zero_add, Nat.reduceAdd, e10, List.setIfInBounds_toArray, List.set_cons_succ, List.set_cons_zero]
    clear hsp hdis HF e10
    clear ev2 ev3 ev6
    obtain ⟨w247, rfl⟩ : ∃ W : World, W = wx := ⟨_, rfl⟩
    have kU := k0u.below hB
    have k0w := Lib.hid (Blw k0v.out hB)
    have k0x := Lib.hid h_z
    obtain ⟨o_z0, o_z1, o_z2, o_z3, o_z4, o_z5, o_z6, o_z7⟩ := h_z.ones
    clear h_z
    clear hB
    obtain ⟨k0y, k0z, k0A, k0B, k0C, k0D, k0E, k0F, k39, k3a⟩ := kU.f8
    go_wp2
    have hkp := (Kp.refl w247).t8 (kU) z0 z1 z2 z3 z4 z5 z6 z7
    refine bodyPost_ret (v := .tuple #[.agg #[z0, z1, z2, z3, z4, z5, z6, z7], .int .i64 0]) (by simp [results, Try.results11, go_sem, k0y, k0z, k0A, k0B, k0C, k0D, k0E, k0F]) rfl ⟨_, _, _, _, _, _, _, _, rfl, ?_, bel8 (k0w.out) (by first | simp | omega)⟩
    exact k0x.out.kp hkp
theorem valn5_any (j k : Nat) (a0 a1 a2 a3 a4 a5 a6 a7 b0 b1 b2 b3 b4 b5 b6 b7 : Value) (v u : Rat × Rat) (w : World) (ha : VecV w a0 a1 a2 a3 a4 a5 a6 a7 v) (hb : VecV w b0 b1 b2 b3 b4 b5 b6 b7 u) (ba : Bv j v) (bb : Bv k u) (hk : 40 * (j + k) + 100 ≤ 800000000000) :
  Calls Try.prog 11 #[.agg #[a0, a1, a2, a3, a4, a5, a6, a7], .agg #[b0, b1, b2, b3, b4, b5, b6, b7]] w (RTE (valn v u).1 (valn v u).2 w) := by
 unfold valn
 by_cases hz : vdot v v = 0
 ·rw [if_pos (.inl hz)]
  exact valn5_0 j k a0 a1 a2 a3 a4 a5 a6 a7 b0 b1 b2 b3 b4 b5 b6 b7 v u w ha hb ba bb hz hk
 ·by_cases hy : vdot u u = 0
  ·rw [if_pos (.inr hy)]
   exact valn5_1 j k a0 a1 a2 a3 a4 a5 a6 a7 b0 b1 b2 b3 b4 b5 b6 b7 v u w ha hb ba bb hz hy hk
  ·rw [if_neg (by rintro (h | h); exact hz h; exact hy h)]
   by_cases hd : vdot v v = vdot u u
   ·rw [if_neg (by simp [hd])]
    exact valn5_3 j k a0 a1 a2 a3 a4 a5 a6 a7 b0 b1 b2 b3 b4 b5 b6 b7 v u w ha hb ba bb hz hy hd hk
   ·rw [if_pos hd]
    exact valn5_2 j k a0 a1 a2 a3 a4 a5 a6 a7 b0 b1 b2 b3 b4 b5 b6 b7 v u w ha hb ba bb hz hy hd hk
end Go.Proofs.Ytonkbckgbfcnkaa
