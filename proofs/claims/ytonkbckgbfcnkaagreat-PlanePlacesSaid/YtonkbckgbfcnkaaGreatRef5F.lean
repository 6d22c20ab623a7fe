/-
 THE WALKS of the reference of package plane: Put, Compose, Inverse, SamePlace, and the generator of places.
-/
import Derived.Test.YtonkbckgbfcnkaaGreatWalkPlE
import Derived.Test.YtonkbckgbfcnkaaGreatWalkPlC
import Derived.Test.YtonkbckgbfcnkaaGreatRef5A
import Derived.Test.YtonkbckgbfcnkaaGreatRef5B
import Derived.Test.YtonkbckgbfcnkaaGreatRef5E
namespace Go.Proofs.YtonkbckgbfcnkaaGreat
set_option maxHeartbeats 4000000
open Go.RowKit
attribute [local go_sem] run_store_one
set_option linter.unusedVariables false
theorem inv_eq (p : Pl) : (vbak p.1, vsub (0, 0) (vrot (vbak p.1) p.2)) = vinv p := by
 unfold vinv
 have h : (Rat.divInt (-1) 1 : Rat) = -1 := by decide +kernel
 rw [h]
 simp only [vsub, vsca]
 congr 1
 apply Prod.ext <;> (simp only; grind)
set_option maxRecDepth 100000 in
theorem vput5_any (j k : Nat) (p0 p1 p2 p3 p4 p5 p6 p7 p8 p9 p10 p11 p12 p13 p14 p15 a0 a1 a2 a3 a4 a5 a6 a7 : Value) (p : Pl) (v : Rat × Rat) (w : World) (hp : PlaceV w p0 p1 p2 p3 p4 p5 p6 p7 p8 p9 p10 p11 p12 p13 p14 p15 p) (ha : VecV w a0 a1 a2 a3 a4 a5 a6 a7 v) (bp : Bp j p) (ba : Bv k v) (hk : 40 * (j + k) + 100 ≤ 800000000000) :
  Calls Tryz.prog 11 #[.agg #[p0, p1, p2, p3, p4, p5, p6, p7, p8, p9, p10, p11, p12, p13, p14, p15], .agg #[a0, a1, a2, a3, a4, a5, a6, a7]] w (RV (vput p v) w) := by
 obtain ⟨qa0, qa1, qa2, qa3, qa4, qa5, qa6, qa7⟩ := ha.ones
 obtain ⟨o0, o1, o2, o3, o4, o5, o6, o7, o8, o9, o10, o11, o12, o13, o14, o15⟩ := hp.ones
 have HP := Lib.hid hp; have HA := Lib.hid ha; have HBP := Lib.hid bp; have HBA := Lib.hid ba
 clear hp ha bp ba
 go_enter Tryz.func11, Tryz.ntmps11
 go_wp2_with fail
 generalize hW : ((w.alloc _).alloc _).alloc _ = W1
 obtain ⟨k6, k7, k8, hB⟩ := box3 hW
 have k1 := Lib.hid hB; clear hW hB
 have F6 := Lib.hid (HP.out.kp (.of k1.out))
 have F7 := Lib.hid (HA.out.kp (.of k1.out))
 go_upto_region 1 with fail
 generalize hW : W1.drew = W8
 have hB : Below W1.heap.size W1 W8 := by rw [← hW]; exact (Below.refl _ _).drew
 have k3 := k6.below hB
 have kb := k7.below hB
 have kc := k8.below hB
 have k4 := Lib.hid (F6.out.kp (.of hB))
 have kd := Lib.hid (F7.out.kp (.of hB))
 have ke := Lib.hid (Blw k1.out hB)
 clear hB
 generalize hF : ({ tmps := _, defers := _ } : Act) = F
 have ev2 : F.eval (.tmp 2) = .pointer (some ⟨w.heap.size, 0, none⟩) := by rw [← hF]; rfl
 have ev3 : F.eval (.tmp 3) = .pointer (some ⟨w.heap.size + 1, 0, none⟩) := by rw [← hF]; rfl
 have HF := Lib.hid hF; clear hF
 refine wp_flow_tab true hW 7 [(5, []), (6, [0]), (7, []), (8, [1, 2]), (9, []), (10, [4]), (11, [3, 5])] [SC (.pointer (some ⟨w.heap.size, 0, none⟩)), SC (.agg #[p0, p1, p2, p3, p4, p5, p6, p7]), SC (.agg #[a0, a1, a2, a3, a4, a5, a6, a7]), SV (vrot p.1 v), SC (.pointer (some ⟨w.heap.size, 8, none⟩)), SC (.agg #[p8, p9, p10, p11, p12, p13, p14, p15]), SV (vput p v)] [false, false, false, false, false, false, false] (by kernel_rfl) (by kernel_rfl) (by kernel_rfl) (by kernel_rfl) (by kernel_rfl) (by rw [← HF.out]; simp) ⟨SC.mono _, SC.mono _, SC.mono _, SV.mono _, SC.mono _, SC.mono _, SV.mono _, trivial⟩ ?_ ?_
 ·intro kq hkq a wx hB hp hs
  have hcase : kq = 0 ∨ kq = 1 ∨ kq = 2 ∨ kq = 3 ∨ kq = 4 ∨ kq = 5 ∨ kq = 6 := by omega
  rcases hcase with rfl | rfl | rfl | rfl | rfl | rfl | rfl
  ·exact ⟨_, rfl, fa_Place0 rfl ((hs 2 rfl).trans ev2)⟩
  ·obtain ⟨k0, -⟩ := hp
   exact ⟨_, rfl, ld_Turn rfl k0 (k3.below hB) rfl rfl rfl rfl rfl rfl rfl rfl⟩
  ·exact ⟨_, rfl, ld_Vec rfl ((hs 3 rfl).trans ev3) (kb.below hB) rfl rfl rfl rfl rfl rfl rfl rfl⟩
  ·obtain ⟨k0, k2, -⟩ := hp
   exact ⟨_, rfl, Does.rv (f := 36) (call2 rfl (fun _ => by simp [go_sem]) k0 k2) (vrot5_any (j) (k) p0 p1 p2 p3 p4 p5 p6 p7 a0 a1 a2 a3 a4 a5 a6 a7 (p.1) (v) wx ((k4.out.kp (.of hB))).1 (kd.out.kp (.of hB)) HBP.out.1 HBA.out (by omega))⟩
  ·exact ⟨_, rfl, fa_Place1 rfl ((hs 2 rfl).trans ev2)⟩
  ·obtain ⟨k0, -⟩ := hp
   exact ⟨_, rfl, ld_Vec rfl k0 (k3.below hB) rfl rfl rfl rfl rfl rfl rfl rfl⟩
  ·obtain ⟨k0, k2, -⟩ := hp
   obtain ⟨x0, x1, x2, x3, x4, x5, x6, x7, e0, h_x⟩ := k0
   replace e0 : a.eval (.tmp 8) = .agg #[x0, x1, x2, x3, x4, x5, x6, x7] := e0
   exact ⟨_, rfl, Does.rv (f := 20) (call2 rfl (fun _ => by simp [go_sem]) e0 k2) (vadd5_any (2 * (j + k) + 1) (j) x0 x1 x2 x3 x4 x5 x6 x7 p8 p9 p10 p11 p12 p13 p14 p15 (vrot p.1 v) (p.2) wx h_x ((k4.out.kp (.of hB))).2 (HBP.out.1.rot HBA.out) HBP.out.2 (by omega))⟩
 ·intro val wx hB hsp hdis
  obtain ⟨z0, z1, z2, z3, z4, z5, z6, z7, e6, h_z⟩ := hsp 6 (by omega)
  replace e6 : val 6 = .agg #[z0, z1, z2, z3, z4, z5, z6, z7] := e6
  rw [← HF.out]
  change wpList _ _ _ [_] _ _
  simp only [puts, vals, List.map_cons, List.map_nil, List.foldl_cons, List.foldl_nil, if_true, Nat.zero_add, Nat.reduceAdd, e6, List.setIfInBounds_toArray, List.set_cons_succ, List.set_cons_zero]
  clear hsp hdis HF e6
  clear ev2 ev3
  obtain ⟨w16, rfl⟩ : ∃ W : World, W = wx := ⟨_, rfl⟩
  have k5 := kc.below hB
  have kf := Lib.hid (Blw ke.out hB)
  have kg := Lib.hid h_z
  obtain ⟨o_z0, o_z1, o_z2, o_z3, o_z4, o_z5, o_z6, o_z7⟩ := h_z.ones
  clear h_z
  clear hB
  obtain ⟨kh, ki, kj, kk, kl, km, kn, ko, kr, ks⟩ := k5.f8
  go_wp2
  have hkp := (Kp.refl w16).t8 (k5) z0 z1 z2 z3 z4 z5 z6 z7
  refine bodyPost_ret (v := .agg #[z0, z1, z2, z3, z4, z5, z6, z7]) (by simp [results, Tryz.results11, go_sem, kh, ki, kj, kk, kl, km, kn, ko]) rfl ⟨_, _, _, _, _, _, _, _, rfl, ?_, bel8 (kf.out) (by first | simp | omega)⟩
  exact kg.out.kp hkp
set_option maxRecDepth 100000 in
theorem vcmp5_any (j k : Nat) (p0 p1 p2 p3 p4 p5 p6 p7 p8 p9 p10 p11 p12 p13 p14 p15 q0 q1 q2 q3 q4 q5 q6 q7 q8 q9 q10 q11 q12 q13 q14 q15 : Value) (p q : Pl) (w : World) (hp : PlaceV w p0 p1 p2 p3 p4 p5 p6 p7 p8 p9 p10 p11 p12 p13 p14 p15 p) (hq : PlaceV w q0 q1 q2 q3 q4 q5 q6 q7 q8 q9 q10 q11 q12 q13 q14 q15 q) (bp : Bp j p) (bq : Bp k q) (hk : 400 * (j + k) + 1000 ≤ 800000000000) :
  Calls Tryz.prog 13 #[.agg #[p0, p1, p2, p3, p4, p5, p6, p7, p8, p9, p10, p11, p12, p13, p14, p15], .agg #[q0, q1, q2, q3, q4, q5, q6, q7, q8, q9, q10, q11, q12, q13, q14, q15]] w (RPl (vcmp p q) w) := by
 obtain ⟨o0, o1, o2, o3, o4, o5, o6, o7, o8, o9, o10, o11, o12, o13, o14, o15⟩ := hp.ones
 obtain ⟨r0, r1, r2, r3, r4, r5, r6, r7, r8, r9, r10, r11, r12, r13, r14, r15⟩ := hq.ones
 have HP := Lib.hid hp; have HQ := Lib.hid hq; have HBP := Lib.hid bp; have HBQ := Lib.hid bq
 clear hp hq bp bq
 go_enter Tryz.func13, Tryz.ntmps13
 go_upto_region 1 with fail
 generalize hW : ((w.alloc _).alloc _).alloc _ = W1
 obtain ⟨k8, k9, ka, hB⟩ := box3 hW
 have k2 := Lib.hid hB; clear hW hB
 have F6 := Lib.hid (HP.out.kp (.of k2.out))
 have F7 := Lib.hid (HQ.out.kp (.of k2.out))
 go_upto_region 1 with fail
 generalize hW : W1.drew = W8
 have hB : Below W1.heap.size W1 W8 := by rw [← hW]; exact (Below.refl _ _).drew
 have k3 := k8.below hB
 have k4 := k9.below hB
 have kd := ka.below hB
 have k5 := Lib.hid (F6.out.kp (.of hB))
 have k6 := Lib.hid (F7.out.kp (.of hB))
 have ke := Lib.hid (Blw k2.out hB)
 clear hB
 generalize hF : ({ tmps := _, defers := _ } : Act) = F
 have ev2 : F.eval (.tmp 2) = .pointer (some ⟨w.heap.size, 0, none⟩) := by rw [← hF]; rfl
 have ev3 : F.eval (.tmp 3) = .pointer (some ⟨w.heap.size + 1, 0, none⟩) := by rw [← hF]; rfl
 have HF := Lib.hid hF; clear hF
 refine wp_flow_tab true hW 10 [(5, []), (6, [0]), (7, []), (8, [2]), (9, [1, 3]), (10, []), (11, []), (12, [6]), (13, [5, 7]), (14, [4, 8])] [SC (.pointer (some ⟨w.heap.size, 0, none⟩)), SC (.agg #[p0, p1, p2, p3, p4, p5, p6, p7]), SC (.pointer (some ⟨w.heap.size + 1, 0, none⟩)), SC (.agg #[q0, q1, q2, q3, q4, q5, q6, q7]), SV (vrot p.1 q.1), SC (.agg #[p0, p1, p2, p3, p4, p5, p6, p7, p8, p9, p10, p11, p12, p13, p14, p15]), SC (.pointer (some ⟨w.heap.size + 1, 8, none⟩)), SC (.agg #[q8, q9, q10, q11, q12, q13, q14, q15]), SV (vput p q.2), SPl (vcmp p q)] [false, false, false, false, false, false, false, false, false, false] (by kernel_rfl) (by kernel_rfl) (by kernel_rfl) (by kernel_rfl) (by kernel_rfl) (by rw [← HF.out]; simp) ⟨SC.mono _, SC.mono _, SC.mono _, SC.mono _, SV.mono _, SC.mono _, SC.mono _, SC.mono _, SV.mono _, SPl.mono _, trivial⟩ ?_ ?_
 ·intro kq hkq a wx hB hp hs
  have hcase : kq = 0 ∨ kq = 1 ∨ kq = 2 ∨ kq = 3 ∨ kq = 4 ∨ kq = 5 ∨ kq = 6 ∨ kq = 7 ∨ kq = 8 ∨ kq = 9 := by omega
  rcases hcase with rfl | rfl | rfl | rfl | rfl | rfl | rfl | rfl | rfl | rfl
  ·exact ⟨_, rfl, fa_Place0 rfl ((hs 2 rfl).trans ev2)⟩
  ·obtain ⟨k0, -⟩ := hp
   exact ⟨_, rfl, ld_Turn rfl k0 (k3.below hB) rfl rfl rfl rfl rfl rfl rfl rfl⟩
  ·exact ⟨_, rfl, fa_Place0 rfl ((hs 3 rfl).trans ev3)⟩
  ·obtain ⟨k0, -⟩ := hp
   exact ⟨_, rfl, ld_Turn rfl k0 (k4.below hB) rfl rfl rfl rfl rfl rfl rfl rfl⟩
  ·obtain ⟨k0, k1, -⟩ := hp
   exact ⟨_, rfl, Does.rv (f := 38) (call2 rfl (fun _ => by simp [go_sem]) k0 k1) (vaft5_any (j) (k) p0 p1 p2 p3 p4 p5 p6 p7 q0 q1 q2 q3 q4 q5 q6 q7 (p.1) (q.1) wx ((k5.out.kp (.of hB))).1 ((k6.out.kp (.of hB))).1 HBP.out.1 HBQ.out.1 (by omega))⟩
  ·exact ⟨_, rfl, ld_Place rfl ((hs 2 rfl).trans ev2) (k3.below hB) rfl rfl rfl rfl rfl rfl rfl rfl rfl rfl rfl rfl rfl rfl rfl rfl⟩
  ·exact ⟨_, rfl, fa_Place1 rfl ((hs 3 rfl).trans ev3)⟩
  ·obtain ⟨k0, -⟩ := hp
   exact ⟨_, rfl, ld_Vec rfl k0 (k4.below hB) rfl rfl rfl rfl rfl rfl rfl rfl⟩
  ·obtain ⟨k0, k1, -⟩ := hp
   exact ⟨_, rfl, Does.rv (f := 11) (call2 rfl (fun _ => by simp [go_sem]) k0 k1) (vput5_any j k p0 p1 p2 p3 p4 p5 p6 p7 p8 p9 p10 p11 p12 p13 p14 p15 q8 q9 q10 q11 q12 q13 q14 q15 p q.2 wx (k5.out.kp (.of hB)) ((k6.out.kp (.of hB))).2 HBP.out HBQ.out.2 (by omega))⟩
  ·obtain ⟨k0, k1, -⟩ := hp
   obtain ⟨t0, t1, t2, t3, t4, t5, t6, t7, e0, h_t⟩ := k0
   replace e0 : a.eval (.tmp 9) = .agg #[t0, t1, t2, t3, t4, t5, t6, t7] := e0
   obtain ⟨x0, x1, x2, x3, x4, x5, x6, x7, e1, h_x⟩ := k1
   replace e1 : a.eval (.tmp 13) = .agg #[x0, x1, x2, x3, x4, x5, x6, x7] := e1
   simp [Act.eval] at e0
   simp [Act.eval] at e1
   exact ⟨_, rfl, Does.val (by simp [execOp, Act.eval, e0, e1, go_sem]) ⟨t0, t1, t2, t3, t4, t5, t6, t7, x0, x1, x2, x3, x4, x5, x6, x7, rfl, ⟨h_t, h_x⟩⟩⟩
 ·intro val wx hB hsp hdis
  obtain ⟨z0, z1, z2, z3, z4, z5, z6, z7, z8, z9, z10, z11, z12, z13, z14, z15, e9, h_z⟩ := hsp 9 (by omega)
  replace e9 : val 9 = .agg #[z0, z1, z2, z3, z4, z5, z6, z7, z8, z9, z10, z11, z12, z13, z14, z15] := e9
  rw [← HF.out]
  change wpList _ _ _ [_] _ _
  simp only [puts, vals, List.map_cons, List.map_nil, List.foldl_cons, List.foldl_nil, if_true, Nat.zero_add, Nat.reduceAdd, e9, List.setIfInBounds_toArray, List.set_cons_succ, List.set_cons_zero]
  clear hsp hdis HF e9
  clear ev2 ev3
  obtain ⟨w16, rfl⟩ : ∃ W : World, W = wx := ⟨_, rfl⟩
  have k7 := kd.below hB
  have kf := Lib.hid (Blw ke.out hB)
  have kg := Lib.hid h_z
  obtain ⟨o_z0, o_z1, o_z2, o_z3, o_z4, o_z5, o_z6, o_z7, o_z8, o_z9, o_z10, o_z11, o_z12, o_z13, o_z14, o_z15⟩ := h_z.ones
  clear h_z
  clear hB
  obtain ⟨kh, ki, kj, kk, kl, km, kn, ko, kr, ks, kt, ku, kv, kw, kx, ky, kz, kA⟩ := k7.f16
  go_wp2
  have hkp := (Kp.refl w16).t16 (k7) z0 z1 z2 z3 z4 z5 z6 z7 z8 z9 z10 z11 z12 z13 z14 z15
  refine bodyPost_ret (v := .agg #[z0, z1, z2, z3, z4, z5, z6, z7, z8, z9, z10, z11, z12, z13, z14, z15]) (by simp [results, Tryz.results13, go_sem, kh, ki, kj, kk, kl, km, kn, ko, kr, ks, kt, ku, kv, kw, kx, ky]) rfl ⟨_, _, _, _, _, _, _, _, _, _, _, _, _, _, _, _, rfl, ?_, bel16 (kf.out) (by first | simp | omega)⟩
  exact kg.out.kp hkp
set_option maxRecDepth 100000 in
theorem vinv5_any (j : Nat) (p0 p1 p2 p3 p4 p5 p6 p7 p8 p9 p10 p11 p12 p13 p14 p15 : Value) (p : Pl) (w : World) (hp : PlaceV w p0 p1 p2 p3 p4 p5 p6 p7 p8 p9 p10 p11 p12 p13 p14 p15 p) (bp : Bp j p) (hk : 100 * j + 1000 ≤ 800000000000) :
  Calls Tryz.prog 14 #[.agg #[p0, p1, p2, p3, p4, p5, p6, p7, p8, p9, p10, p11, p12, p13, p14, p15]] w (RPl (vinv p) w) := by
 obtain ⟨o0, o1, o2, o3, o4, o5, o6, o7, o8, o9, o10, o11, o12, o13, o14, o15⟩ := hp.ones
 have HP := Lib.hid hp; have HBP := Lib.hid bp
 clear hp bp
 rw [← inv_eq]
 go_enter Tryz.func14, Tryz.ntmps14
 go_upto_region 1 with fail
 generalize hW : (w.alloc _).alloc _ = W1
 obtain ⟨k2, kb, hB⟩ := box2 hW
 have k3 := Lib.hid hB; clear hW hB
 have F5 := Lib.hid (HP.out.kp (.of k3.out))
 go_upto_region 1 with fail
 have l6 := k2.lt
 have l7 := kb.lt
 generalize hF : ({ tmps := _, defers := _ } : Act) = F
 have ev1 : F.eval (.tmp 1) = .pointer (some ⟨w.heap.size, 0, none⟩) := by rw [← hF]; rfl
 have HF := Lib.hid hF; clear hF
 refine wp_flow_tab false rfl 4 [(4, []), (5, [0]), (6, [1]), (3, [])] [SC (.pointer (some ⟨w.heap.size, 0, none⟩)), SC (.agg #[p0, p1, p2, p3, p4, p5, p6, p7]), SV (vbak p.1), SB W1 28 [.bool false, .slice none 0 0, .bool false, .slice none 0 0, .bool false, .slice none 0 0, .bool false, .slice none 0 0]] [false, false, false, true] (by kernel_rfl) (by kernel_rfl) (by kernel_rfl) (by kernel_rfl) (by kernel_rfl) (by rw [← HF.out]; simp) ⟨SC.mono _, SC.mono _, SV.mono _, SB.mono _ _ _, trivial⟩ ?_ ?_
 ·intro kq hkq a wx hB hp hs
  have hcase : kq = 0 ∨ kq = 1 ∨ kq = 2 ∨ kq = 3 := by omega
  rcases hcase with rfl | rfl | rfl | rfl
  ·exact ⟨_, rfl, fa_Place0 rfl ((hs 1 rfl).trans ev1)⟩
  ·obtain ⟨k0, -⟩ := hp
   exact ⟨_, rfl, ld_Turn rfl k0 (k2.below hB) rfl rfl rfl rfl rfl rfl rfl rfl⟩
  ·obtain ⟨k0, -⟩ := hp
   exact ⟨_, rfl, Does.rv (f := 39) (call1 rfl (fun _ => by simp [go_sem]) k0) (vbak5_any p0 p1 p2 p3 p4 p5 p6 p7 (p.1) wx ((F5.out.kp (.of hB))).1)⟩
  ·clear hp
   exact ⟨_, rfl, Does.box (by simp [execOp, go_sem]) hB⟩
 ·intro val wx hB hsp hdis
  obtain ⟨t0, t1, t2, t3, t4, t5, t6, t7, e2, h_t⟩ := hsp 2 (by omega)
  replace e2 : val 2 = .agg #[t0, t1, t2, t3, t4, t5, t6, t7] := e2
  obtain ⟨g8_3, e3, hg8_3, hbx8_3⟩ := hsp 3 (by omega)
  have hgw8_3 : w.heap.size ≤ g8_3 := Nat.le_trans k3.out.size hg8_3
  have hgl8_3 := hbx8_3.lt
  rw [← HF.out]
  change wpList _ _ _ [_] _ _
  simp only [puts, vals, List.map_cons, List.map_nil, List.foldl_cons, List.foldl_nil, if_true, Nat.zero_add, Nat.reduceAdd, e2, e3, List.setIfInBounds_toArray, List.set_cons_succ, List.set_cons_zero]
  clear hsp hdis HF e2 e3
  clear ev1
  obtain ⟨w9, rfl⟩ : ∃ W : World, W = wx := ⟨_, rfl⟩
  have kr := k2.below hB
  have ks := kb.below hB
  have kt := Lib.hid (F5.out.kp (.of hB))
  have ku := Lib.hid (Blw k3.out hB)
  have kv := Lib.hid h_t
  obtain ⟨o_t0, o_t1, o_t2, o_t3, o_t4, o_t5, o_t6, o_t7⟩ := h_t.ones
  clear h_t
  clear hB
  obtain ⟨k00, k01, k02, k03, k04, k05, k06, k07, k08, l24⟩ := hbx8_3.f8
  go_upto_region 2 with fail
  have k4 := (hbx8_3).set_ 0 (t0)
  have k5 := (k4).set_ 1 (t1)
  have k6 := (k5).set_ 2 (t2)
  have k7 := (k6).set_ 3 (t3)
  have k8 := (k7).set_ 4 (t4)
  have k9 := (k8).set_ 5 (t5)
  have ka := (k9).set_ 6 (t6)
  have kd := (ka).set_ 7 (t7)
  have hkp : Kp w9 ((((((((w9.setCell ⟨g8_3, 0, none⟩ (t0)).setCell ⟨g8_3, 1, none⟩ (t1)).setCell ⟨g8_3, 2, none⟩ (t2)).setCell ⟨g8_3, 3, none⟩ (t3)).setCell ⟨g8_3, 4, none⟩ (t4)).setCell ⟨g8_3, 5, none⟩ (t5)).setCell ⟨g8_3, 6, none⟩ (t6)).setCell ⟨g8_3, 7, none⟩ (t7)) := ((((((((Kp.refl _).set_ (hbx8_3) (by decide) _).set_ (k4) (by decide) _).set_ (k5) (by decide) _).set_ (k6) (by decide) _).set_ (k7) (by decide) _).set_ (k8) (by decide) _).set_ (k9) (by decide) _).set_ (ka) (by decide) _
  obtain ⟨W33, hW⟩ : ∃ W, W = (((((((w9.setCell ⟨g8_3, 0, none⟩ (t0)).setCell ⟨g8_3, 1, none⟩ (t1)).setCell ⟨g8_3, 2, none⟩ (t2)).setCell ⟨g8_3, 3, none⟩ (t3)).setCell ⟨g8_3, 4, none⟩ (t4)).setCell ⟨g8_3, 5, none⟩ (t5)).setCell ⟨g8_3, 6, none⟩ (t6)).setCell ⟨g8_3, 7, none⟩ (t7) := ⟨_, rfl⟩
  rw [← hW]
  rw [← hW] at hkp
  have hB : Below w.heap.size w W33 := by rw [hW]; exact bel8 (ku.out) (by first | simp | omega)
  have kw := Lib.hid hB; clear hB
  have kx := Lib.hid (kt.out.kp hkp)
  have ky := Lib.hid (kv.out.kp hkp)
  have kz : Bx W33 (w.heap.size) 32 [p0, p1, p2, p3, p4, p5, p6, p7, p8, p9, p10, p11, p12, p13, p14, p15] := by rw [hW]; exact ((((((((kr).far_ (g' := g8_3) (j := 0) (by omega) (t0)).far_ (g' := g8_3) (j := 1) (by omega) (t1)).far_ (g' := g8_3) (j := 2) (by omega) (t2)).far_ (g' := g8_3) (j := 3) (by omega) (t3)).far_ (g' := g8_3) (j := 4) (by omega) (t4)).far_ (g' := g8_3) (j := 5) (by omega) (t5)).far_ (g' := g8_3) (j := 6) (by omega) (t6)).far_ (g' := g8_3) (j := 7) (by omega) (t7)
  have kA : Bx W33 (w.heap.size + 1) 32 [.bool false, .slice none 0 0, .bool false, .slice none 0 0, .bool false, .slice none 0 0, .bool false, .slice none 0 0, .bool false, .slice none 0 0, .bool false, .slice none 0 0, .bool false, .slice none 0 0, .bool false, .slice none 0 0] := by rw [hW]; exact ((((((((ks).far_ (g' := g8_3) (j := 0) (by omega) (t0)).far_ (g' := g8_3) (j := 1) (by omega) (t1)).far_ (g' := g8_3) (j := 2) (by omega) (t2)).far_ (g' := g8_3) (j := 3) (by omega) (t3)).far_ (g' := g8_3) (j := 4) (by omega) (t4)).far_ (g' := g8_3) (j := 5) (by omega) (t5)).far_ (g' := g8_3) (j := 6) (by omega) (t6)).far_ (g' := g8_3) (j := 7) (by omega) (t7)
  have kB : Bx W33 (g8_3) 28 [t0, t1, t2, t3, t4, t5, t6, t7] := by rw [hW]; exact kd
  clear hW hkp k4 k5 k6 k7 k8 k9 ka kd
  go_upto_region 2 with fail
  generalize hW : W33.drew = W40
  have hB : Below W33.heap.size W33 W40 := by rw [← hW]; exact (Below.refl _ _).drew
  have kC := kz.below hB
  have kD := kA.below hB
  have ke := kB.below hB
  have kE := Lib.hid (kx.out.kp (.of hB))
  have kf := Lib.hid (ky.out.kp (.of hB))
  have kF := Lib.hid (Blw kw.out hB)
  clear hB
  generalize hF : ({ tmps := _, defers := _ } : Act) = F
  have ev1 : F.eval (.tmp 1) = .pointer (some ⟨w.heap.size, 0, none⟩) := by rw [← hF]; rfl
  have ev3 : F.eval (.tmp 3) = .pointer (some ⟨g8_3, 0, none⟩) := by rw [← hF]; rfl
  have HF := Lib.hid hF; clear hF
  refine wp_flow_tab true hW 8 [(7, []), (8, []), (9, []), (10, []), (11, [3]), (12, [2, 4]), (13, [1, 5]), (14, [0, 6])] [SC (.agg #[t0, t1, t2, t3, t4, t5, t6, t7]), SV ((0, 0)), SC (.agg #[t0, t1, t2, t3, t4, t5, t6, t7]), SC (.pointer (some ⟨w.heap.size, 8, none⟩)), SC (.agg #[p8, p9, p10, p11, p12, p13, p14, p15]), SV (vrot (vbak p.1) p.2), SV (vsub (0, 0) (vrot (vbak p.1) p.2)), SPl ((vbak p.1, vsub (0, 0) (vrot (vbak p.1) p.2)))] [false, false, false, false, false, false, false, false] (by kernel_rfl) (by kernel_rfl) (by kernel_rfl) (by kernel_rfl) (by kernel_rfl) (by rw [← HF.out]; simp) ⟨SC.mono _, SV.mono _, SC.mono _, SC.mono _, SC.mono _, SV.mono _, SV.mono _, SPl.mono _, trivial⟩ ?_ ?_
  ·intro kq hkq a wx hB hp hs
   have hcase : kq = 0 ∨ kq = 1 ∨ kq = 2 ∨ kq = 3 ∨ kq = 4 ∨ kq = 5 ∨ kq = 6 ∨ kq = 7 := by omega
   rcases hcase with rfl | rfl | rfl | rfl | rfl | rfl | rfl | rfl
   ·exact ⟨_, rfl, ld_Turn rfl ((hs 3 rfl).trans ev3) (ke.below hB) rfl rfl rfl rfl rfl rfl rfl rfl⟩
   ·clear hp
    exact ⟨_, rfl, Does.val (by simp [execOp, Act.eval, go_sem]) ⟨.bool false, .slice none 0 0, .bool false, .slice none 0 0, .bool false, .slice none 0 0, .bool false, .slice none 0 0, rfl, VecV.zero _⟩⟩
   ·exact ⟨_, rfl, ld_Turn rfl ((hs 3 rfl).trans ev3) (ke.below hB) rfl rfl rfl rfl rfl rfl rfl rfl⟩
   ·exact ⟨_, rfl, fa_Place1 rfl ((hs 1 rfl).trans ev1)⟩
   ·obtain ⟨k0, -⟩ := hp
    exact ⟨_, rfl, ld_Vec rfl k0 (kC.below hB) rfl rfl rfl rfl rfl rfl rfl rfl⟩
   ·obtain ⟨k0, k1, -⟩ := hp
    exact ⟨_, rfl, Does.rv (f := 36) (call2 rfl (fun _ => by simp [go_sem]) k0 k1) (vrot5_any (j) (j) t0 t1 t2 t3 t4 t5 t6 t7 p8 p9 p10 p11 p12 p13 p14 p15 (vbak p.1) (p.2) wx (kf.out.kp (.of hB)) ((kE.out.kp (.of hB))).2 HBP.out.1.bak HBP.out.2 (by omega))⟩
   ·obtain ⟨k0, k1, -⟩ := hp
    obtain ⟨n0, n1, n2, n3, n4, n5, n6, n7, e0, h_n⟩ := k0
    replace e0 : a.eval (.tmp 8) = .agg #[n0, n1, n2, n3, n4, n5, n6, n7] := e0
    obtain ⟨x0, x1, x2, x3, x4, x5, x6, x7, e1, h_x⟩ := k1
    replace e1 : a.eval (.tmp 12) = .agg #[x0, x1, x2, x3, x4, x5, x6, x7] := e1
    exact ⟨_, rfl, Does.rv (f := 22) (call2 rfl (fun _ => by simp [go_sem]) e0 e1) (vsub5_any (1) (2 * (j + j) + 1) n0 n1 n2 n3 n4 n5 n6 n7 x0 x1 x2 x3 x4 x5 x6 x7 ((0, 0)) (vrot (vbak p.1) p.2) wx h_n h_x ⟨Bq.zero (by omega), Bq.zero (by omega)⟩ (HBP.out.1.bak.rot HBP.out.2) (by omega))⟩
   ·obtain ⟨k0, k1, -⟩ := hp
    have e0 : a.eval (.tmp 7) = .agg #[t0, t1, t2, t3, t4, t5, t6, t7] := k0
    obtain ⟨y0, y1, y2, y3, y4, y5, y6, y7, e1, h_y⟩ := k1
    replace e1 : a.eval (.tmp 13) = .agg #[y0, y1, y2, y3, y4, y5, y6, y7] := e1
    simp [Act.eval] at e0
    simp [Act.eval] at e1
    exact ⟨_, rfl, Does.val (by simp [execOp, Act.eval, e0, e1, go_sem]) ⟨t0, t1, t2, t3, t4, t5, t6, t7, y0, y1, y2, y3, y4, y5, y6, y7, rfl, ⟨(kf.out.kp (.of hB)), h_y⟩⟩⟩
  ·intro val wx hB hsp hdis
   obtain ⟨z0, z1, z2, z3, z4, z5, z6, z7, z8, z9, z10, z11, z12, z13, z14, z15, e7, h_z⟩ := hsp 7 (by omega)
   replace e7 : val 7 = .agg #[z0, z1, z2, z3, z4, z5, z6, z7, z8, z9, z10, z11, z12, z13, z14, z15] := e7
   rw [← HF.out]
   change wpList _ _ _ [_] _ _
   simp only [puts, vals, List.map_cons, List.map_nil, List.foldl_cons, List.foldl_nil, if_true, Nat.zero_add, Nat.reduceAdd, e7, List.setIfInBounds_toArray, List.set_cons_succ, List.set_cons_zero]
   clear hsp hdis HF e7
   clear ev1 ev3
   obtain ⟨w48, rfl⟩ : ∃ W : World, W = wx := ⟨_, rfl⟩
   have ko := kD.below hB
   have kG := Lib.hid (Blw kF.out hB)
   have kH := Lib.hid h_z
   obtain ⟨o_z0, o_z1, o_z2, o_z3, o_z4, o_z5, o_z6, o_z7, o_z8, o_z9, o_z10, o_z11, o_z12, o_z13, o_z14, o_z15⟩ := h_z.ones
   clear h_z
   clear hB
   obtain ⟨kI, kJ, kK, kL, kM, kN, kO, kP, kQ, kR, kS, kT, kU, kV, kW, kX, k0a, l73⟩ := ko.f16
   go_wp2
   have hkp := (Kp.refl w48).t16 (ko) z0 z1 z2 z3 z4 z5 z6 z7 z8 z9 z10 z11 z12 z13 z14 z15
   refine bodyPost_ret (v := .agg #[z0, z1, z2, z3, z4, z5, z6, z7, z8, z9, z10, z11, z12, z13, z14, z15]) (by simp [results, Tryz.results14, go_sem, kI, kJ, kK, kL, kM, kN, kO, kP, kQ, kR, kS, kT, kU, kV, kW, kX]) rfl ⟨_, _, _, _, _, _, _, _, _, _, _, _, _, _, _, _, rfl, ?_, bel16 (kG.out) (by first | simp | omega)⟩
   exact kH.out.kp hkp
set_option maxRecDepth 100000 in
theorem psame5_any (j k : Nat) (p0 p1 p2 p3 p4 p5 p6 p7 p8 p9 p10 p11 p12 p13 p14 p15 q0 q1 q2 q3 q4 q5 q6 q7 q8 q9 q10 q11 q12 q13 q14 q15 : Value) (p q : Pl) (w : World) (hp : PlaceV w p0 p1 p2 p3 p4 p5 p6 p7 p8 p9 p10 p11 p12 p13 p14 p15 p) (hq : PlaceV w q0 q1 q2 q3 q4 q5 q6 q7 q8 q9 q10 q11 q12 q13 q14 q15 q) (he : p = q) :
  Calls Tryz.prog 12 #[.agg #[p0, p1, p2, p3, p4, p5, p6, p7, p8, p9, p10, p11, p12, p13, p14, p15], .agg #[q0, q1, q2, q3, q4, q5, q6, q7, q8, q9, q10, q11, q12, q13, q14, q15]] w (fun e w' => e = .returned (.bool true) ∧ Below w.heap.size w w') := by
 obtain ⟨o0, o1, o2, o3, o4, o5, o6, o7, o8, o9, o10, o11, o12, o13, o14, o15⟩ := hp.ones
 obtain ⟨r0, r1, r2, r3, r4, r5, r6, r7, r8, r9, r10, r11, r12, r13, r14, r15⟩ := hq.ones
 have ht : true = decide (p.1 = q.1) := (decide_eq_true (congrArg Prod.fst he)).symm
 have hv : true = decide (p.2 = q.2) := (decide_eq_true (congrArg Prod.snd he)).symm
 have HP := Lib.hid hp; have HQ := Lib.hid hq; have HT := Lib.hid ht; have HV := Lib.hid hv
 clear hp hq he ht hv
 go_enter Tryz.func12, Tryz.ntmps12
 go_wp2_with fail
 generalize hW : (w.alloc _).alloc _ = W1
 obtain ⟨k9, ka, hB⟩ := box2 hW
 have k2 := Lib.hid hB; clear hW hB
 have F5 := Lib.hid (HP.out.kp (.of k2.out))
 have F6 := Lib.hid (HQ.out.kp (.of k2.out))
 skip
 have k5 := tsame5_any p0 p1 p2 p3 p4 p5 p6 p7 q0 q1 q2 q3 q4 q5 q6 q7 p.1 q.1 W1 (F5.out).1 (F6.out).1 true HT.out
 (with_reducible refine k5.mono ?_)
 clear k5
 rintro e w7 ⟨rfl, k0⟩
 have k6 := k9.below k0
 have k7 := ka.below k0
 have kb := Lib.hid (F5.out.kp (.of k0))
 have kc := Lib.hid (F6.out.kp (.of k0))
 have kd := Lib.hid (Blw k2.out k0)
 clear k0
 obtain ⟨kh, ki, kj, kk, kl, km, kn, ko, kq, kr, ks, kt, ku, kv, kw, kx, ky, kz⟩ := k6.f16
 obtain ⟨kA, kB, kC, kD, kE, kF, kG, kH, kI, kJ, kK, kL, kM, kN, kO, kP, kQ, kR⟩ := k7.f16
 go_wp2_with fail
 have k8 := vsame5_any p8 p9 p10 p11 p12 p13 p14 p15 q8 q9 q10 q11 q12 q13 q14 q15 p.2 q.2 w7 (kb.out).2 (kc.out).2 true HV.out
 (with_reducible refine k8.mono ?_)
 clear k8
 rintro e w50 ⟨rfl, k1⟩
 have ke := k6.below k1
 have kf := k7.below k1
 have kg := Lib.hid (Blw kd.out k1)
 clear k1
 obtain ⟨kS, kT, kU, kV, kW, kX, kY, kZ, k00, k01, k02, k03, k04, k05, k06, k07, k08, l74⟩ := ke.f16
 obtain ⟨k0a, k0b, k0c, k0d, k0e, k0f, k0g, k0h, k0i, k0j, k0k, k0l, k0m, k0n, k0o, k0p, k0q, l92⟩ := kf.f16
 go_wp2
 go_ret
 exact ⟨rfl, kg.out⟩
/-- What returns some small place. -/
def SmallP (w : World) (e : Ending) (w' : World) : Prop := ∃ p, Bp 7 p ∧ Unit1 p.1 ∧ RPl p w e w'
set_option maxRecDepth 100000 in
theorem place_any (v : Value) (l : List Int) (i : Int) (w : World) (hs : Sr w v l) (hl : ∀ x ∈ l, W.Is64 x) (h0 : 0 ≤ i) (h1 : i ≤ 900) : Calls Tryz.prog 5 #[v, .int .i64 i] w (SmallP w) := by
 have HL := Lib.hid hl; have HS := Lib.hid hs
 clear hl hs
 go_enter Tryz.func5, Tryz.ntmps5
 go_wp2_with fail
 generalize hW : w.alloc _ = W1
 obtain ⟨k4, hB⟩ := box1 hW
 have k5 := Lib.hid hB; clear hW hB
 obtain ⟨kC, kD, kE, kF, kG, kH, kI, kJ, kK, kL, kM, kN, kO, kP, kQ, kR, kS, kT⟩ := k4.f16
 refine (at_any v l i 64 W1 (HS.out.below k5.out) HL.out ⟨by omega, by omega⟩ (by omega) (by omega)).mono ?_
 rintro e w' ⟨m, rfl, hm0, hm1, rfl⟩
 go_wp2_with fail
 refine (turn_any m W1 ⟨by omega, by omega⟩).mono ?_
 rintro e w22 ⟨rx, hbqx, hu, x0, x1, x2, x3, x4, x5, x6, x7, rfl, k1, k2⟩
 have HBx := Lib.hid hbqx; clear hbqx
 have HU := Lib.hid hu; clear hu
 have k6 := k4.below k2
 have k7 := Lib.hid (Blw k5.out k2)
 have kh := Lib.hid k1
 obtain ⟨o_x0, o_x1, o_x2, o_x3, o_x4, o_x5, o_x6, o_x7⟩ := k1.ones
 clear k1 k2
 obtain ⟨kU, kV, kW, kX, kY, kZ, k00, k01, k02, k03, k04, k05, k06, k07, k08, k09, k0a, l44⟩ := k6.f16
 go_wp2_with fail
 refine (vec_any v l (i + 1) w22 (HS.out.below k7.out) HL.out (by omega) (by omega)).mono ?_
 rintro e w45 ⟨ry, hbqy, y0, y1, y2, y3, y4, y5, y6, y7, rfl, k3, k0⟩
 have HBy := Lib.hid hbqy; clear hbqy
 have kg := k6.below k0
 have ki := Lib.hid (kh.out.kp (.of k0))
 have kj := Lib.hid (Blw k7.out k0)
 have kk := Lib.hid k3
 obtain ⟨o_y0, o_y1, o_y2, o_y3, o_y4, o_y5, o_y6, o_y7⟩ := k3.ones
 clear k3 k0
 obtain ⟨kl, km, kn, ko, kq, kr, ks, kt, ku, kv, kw, kx, ky, kz, kA, kB, k0c, l68⟩ := kg.f16
 go_wp2
 have hkp := (Kp.refl w45).t16 (kg) x0 x1 x2 x3 x4 x5 x6 x7 y0 y1 y2 y3 y4 y5 y6 y7
 refine bodyPost_ret (v := .agg #[x0, x1, x2, x3, x4, x5, x6, x7, y0, y1, y2, y3, y4, y5, y6, y7]) (by simp [results, Tryz.results5, go_sem, kl, km, kn, ko, kq, kr, ks, kt, ku, kv, kw, kx, ky, kz, kA, kB]) rfl ⟨(rx, ry), ⟨HBx.out, HBy.out⟩, HU.out, _, _, _, _, _, _, _, _, _, _, _, _, _, _, _, _, rfl, ⟨?_, ?_⟩, bel16 (kj.out) (by first | simp | omega)⟩
 ·exact ki.out.kp hkp
 ·exact kk.out.kp hkp
end Go.Proofs.YtonkbckgbfcnkaaGreat
