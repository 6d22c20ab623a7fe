/-
 THE WALKS of the reference of package plane: Add, Sub, Scale, Back, Dot, Cross, Rotate, After.
-/
import Derived.Test.YtonkbckgbfcnkaaRef4B
import Derived.Test.YtonkbckgbfcnkaaWalkPlA
namespace Go.Proofs.Ytonkbckgbfcnkaa
set_option maxHeartbeats 4000000
open Go.RowKit
attribute [local go_sem] run_store_one
set_option linter.unusedVariables false
set_option maxRecDepth 100000 in
theorem vadd5_any (j k : Nat) (a0 a1 a2 a3 a4 a5 a6 a7 b0 b1 b2 b3 b4 b5 b6 b7 : Value) (v : Rat × Rat) (u : Rat × Rat) (w : World) (ha : VecV w a0 a1 a2 a3 a4 a5 a6 a7 v) (hb : VecV w b0 b1 b2 b3 b4 b5 b6 b7 u) (ba : Bv j v) (bb : Bv k u) (hk : 10 * (j + k) + 100 ≤ 800000000000) :
  Calls Try.prog 32 #[.agg #[a0, a1, a2, a3, a4, a5, a6, a7], .agg #[b0, b1, b2, b3, b4, b5, b6, b7]] w (RV (vadd v u) w) := by
 obtain ⟨qa0, qa1, qa2, qa3, qa4, qa5, qa6, qa7⟩ := ha.ones
 obtain ⟨qb0, qb1, qb2, qb3, qb4, qb5, qb6, qb7⟩ := hb.ones
 have Hha := Lib.hid ha; have Hhb := Lib.hid hb; have Hba := Lib.hid ba; have Hbb := Lib.hid bb
 clear ha hb ba bb
 go_enter Try.func32, Try.ntmps32
 go_wp2_with fail
 generalize hW : ((w.alloc _).alloc _).alloc _ = W1
 obtain ⟨kc, kd, ke, hB⟩ := box3 hW
 have k2 := Lib.hid hB; clear hW hB
 have F6 := Lib.hid (Hha.out.kp (.of k2.out))
 have F7 := Lib.hid (Hhb.out.kp (.of k2.out))
 go_upto_region 1 with fail
 generalize hW : W1.drew = W8
 have hB : Below W1.heap.size W1 W8 := by rw [← hW]; exact (Below.refl _ _).drew
 have k3 := kc.below hB
 have k4 := kd.below hB
 have kh := ke.below hB
 have k5 := Lib.hid (F6.out.kp (.of hB))
 have k6 := Lib.hid (F7.out.kp (.of hB))
 have ki := Lib.hid (Blw k2.out hB)
 clear hB
 generalize hF : ({ tmps := _, defers := _ } : Act) = F
 have ev2 : F.eval (.tmp 2) = .pointer (some ⟨w.heap.size, 0, none⟩) := by rw [← hF]; rfl
 have ev3 : F.eval (.tmp 3) = .pointer (some ⟨w.heap.size + 1, 0, none⟩) := by rw [← hF]; rfl
 have HF := Lib.hid hF; clear hF
 refine wp_flow_tab true hW 11 [(5, []), (6, [0]), (7, []), (8, [2]), (9, [1, 3]), (10, []), (11, [5]), (12, []), (13, [7]), (14, [6, 8]), (15, [4, 9])] [SC (.pointer (some ⟨w.heap.size, 0, none⟩)), SC (.agg #[a0, a1, a2, a3]), SC (.pointer (some ⟨w.heap.size + 1, 0, none⟩)), SC (.agg #[b0, b1, b2, b3]), SR (v.1 + u.1), SC (.pointer (some ⟨w.heap.size, 4, none⟩)), SC (.agg #[a4, a5, a6, a7]), SC (.pointer (some ⟨w.heap.size + 1, 4, none⟩)), SC (.agg #[b4, b5, b6, b7]), SR (v.2 + u.2), SV (vadd v u)] [false, false, false, false, false, false, false, false, false, false, false] (by kernel_rfl) (by kernel_rfl) (by kernel_rfl) (by kernel_rfl) (by kernel_rfl) (by rw [← HF.out]; simp) ⟨SC.mono _, SC.mono _, SC.mono _, SC.mono _, SR.mono _, SC.mono _, SC.mono _, SC.mono _, SC.mono _, SR.mono _, SV.mono _, trivial⟩ ?_ ?_
 ·intro kq hkq a wx hB hp hs
  have hcase : kq = 0 ∨ kq = 1 ∨ kq = 2 ∨ kq = 3 ∨ kq = 4 ∨ kq = 5 ∨ kq = 6 ∨ kq = 7 ∨ kq = 8 ∨ kq = 9 ∨ kq = 10 := by omega
  rcases hcase with rfl | rfl | rfl | rfl | rfl | rfl | rfl | rfl | rfl | rfl | rfl
  ·exact ⟨_, rfl, fa_Vec0 rfl ((hs 2 rfl).trans ev2)⟩
  ·obtain ⟨k0, -⟩ := hp
   exact ⟨_, rfl, ld_Rat rfl k0 (k3.below hB) rfl rfl rfl rfl⟩
  ·exact ⟨_, rfl, fa_Vec0 rfl ((hs 3 rfl).trans ev3)⟩
  ·obtain ⟨k0, -⟩ := hp
   exact ⟨_, rfl, ld_Rat rfl k0 (k4.below hB) rfl rfl rfl rfl⟩
  ·obtain ⟨k0, k1, -⟩ := hp
   exact ⟨_, rfl, Does.rr (f := 59) (call2 rfl (fun _ => by simp [go_sem]) k0 k1) (radd4_any (j) (k) a0 a1 a2 a3 b0 b1 b2 b3 (v.1) (u.1) wx ((k5.out.kp (.of hB))).1 ((k6.out.kp (.of hB))).1 Hba.out.1 Hbb.out.1 (by omega))⟩
  ·exact ⟨_, rfl, fa_Vec1 rfl ((hs 2 rfl).trans ev2)⟩
  ·obtain ⟨k0, -⟩ := hp
   exact ⟨_, rfl, ld_Rat rfl k0 (k3.below hB) rfl rfl rfl rfl⟩
  ·exact ⟨_, rfl, fa_Vec1 rfl ((hs 3 rfl).trans ev3)⟩
  ·obtain ⟨k0, -⟩ := hp
   exact ⟨_, rfl, ld_Rat rfl k0 (k4.below hB) rfl rfl rfl rfl⟩
  ·obtain ⟨k0, k1, -⟩ := hp
   exact ⟨_, rfl, Does.rr (f := 59) (call2 rfl (fun _ => by simp [go_sem]) k0 k1) (radd4_any (j) (k) a4 a5 a6 a7 b4 b5 b6 b7 (v.2) (u.2) wx ((k5.out.kp (.of hB))).2 ((k6.out.kp (.of hB))).2 Hba.out.2 Hbb.out.2 (by omega))⟩
  ·obtain ⟨k0, k1, -⟩ := hp
   obtain ⟨x0, x1, x2, x3, e0, h_x⟩ := k0
   replace e0 : a.eval (.tmp 9) = .agg #[x0, x1, x2, x3] := e0
   obtain ⟨y0, y1, y2, y3, e1, h_y⟩ := k1
   replace e1 : a.eval (.tmp 14) = .agg #[y0, y1, y2, y3] := e1
   simp [Act.eval] at e0
   simp [Act.eval] at e1
   exact ⟨_, rfl, Does.val (by simp [execOp, Act.eval, e0, e1, go_sem]) ⟨x0, x1, x2, x3, y0, y1, y2, y3, rfl, ⟨h_x, h_y⟩⟩⟩
 ·intro val wx hB hsp hdis
  obtain ⟨z0, z1, z2, z3, z4, z5, z6, z7, e10, h_z⟩ := hsp 10 (by omega)
  replace e10 : val 10 = .agg #[z0, z1, z2, z3, z4, z5, z6, z7] := e10
  rw [← HF.out]
  change wpList _ _ _ [_] _ _
  simp only [puts, vals, List.map_cons, List.map_nil, List.foldl_cons, List.foldl_nil, if_true, Nat.zero_add, Nat.reduceAdd, e10, List.setIfInBounds_toArray, List.set_cons_succ, List.set_cons_zero]
  clear hsp hdis HF e10
  clear ev2 ev3
  obtain ⟨w16, rfl⟩ : ∃ W : World, W = wx := ⟨_, rfl⟩
  have kb := kh.below hB
  have kj := Lib.hid (Blw ki.out hB)
  have kk := Lib.hid h_z
  obtain ⟨o_z0, o_z1, o_z2, o_z3, o_z4, o_z5, o_z6, o_z7⟩ := h_z.ones
  clear h_z
  clear hB
  obtain ⟨kl, km, kn, ko, kr, ks, kt, ku, kv, kw⟩ := kb.f8
  go_wp2
  have hkp := (Kp.refl w16).t8 (kb) z0 z1 z2 z3 z4 z5 z6 z7
  refine bodyPost_ret (v := .agg #[z0, z1, z2, z3, z4, z5, z6, z7]) (by simp [results, Try.results32, go_sem, kl, km, kn, ko, kr, ks, kt, ku]) rfl ⟨_, _, _, _, _, _, _, _, rfl, ?_, bel8 (kj.out) (by first | simp | omega)⟩
  exact kk.out.kp hkp
set_option maxRecDepth 100000 in
theorem vsub5_any (j k : Nat) (a0 a1 a2 a3 a4 a5 a6 a7 b0 b1 b2 b3 b4 b5 b6 b7 : Value) (v : Rat × Rat) (u : Rat × Rat) (w : World) (ha : VecV w a0 a1 a2 a3 a4 a5 a6 a7 v) (hb : VecV w b0 b1 b2 b3 b4 b5 b6 b7 u) (ba : Bv j v) (bb : Bv k u) (hk : 10 * (j + k) + 100 ≤ 800000000000) :
  Calls Try.prog 34 #[.agg #[a0, a1, a2, a3, a4, a5, a6, a7], .agg #[b0, b1, b2, b3, b4, b5, b6, b7]] w (RV (vsub v u) w) := by
 obtain ⟨qa0, qa1, qa2, qa3, qa4, qa5, qa6, qa7⟩ := ha.ones
 obtain ⟨qb0, qb1, qb2, qb3, qb4, qb5, qb6, qb7⟩ := hb.ones
 have Hha := Lib.hid ha; have Hhb := Lib.hid hb; have Hba := Lib.hid ba; have Hbb := Lib.hid bb
 clear ha hb ba bb
 go_enter Try.func34, Try.ntmps34
 go_wp2_with fail
 generalize hW : ((w.alloc _).alloc _).alloc _ = W1
 obtain ⟨kc, kd, ke, hB⟩ := box3 hW
 have k2 := Lib.hid hB; clear hW hB
 have F6 := Lib.hid (Hha.out.kp (.of k2.out))
 have F7 := Lib.hid (Hhb.out.kp (.of k2.out))
 go_upto_region 1 with fail
 generalize hW : W1.drew = W8
 have hB : Below W1.heap.size W1 W8 := by rw [← hW]; exact (Below.refl _ _).drew
 have k3 := kc.below hB
 have k4 := kd.below hB
 have kh := ke.below hB
 have k5 := Lib.hid (F6.out.kp (.of hB))
 have k6 := Lib.hid (F7.out.kp (.of hB))
 have ki := Lib.hid (Blw k2.out hB)
 clear hB
 generalize hF : ({ tmps := _, defers := _ } : Act) = F
 have ev2 : F.eval (.tmp 2) = .pointer (some ⟨w.heap.size, 0, none⟩) := by rw [← hF]; rfl
 have ev3 : F.eval (.tmp 3) = .pointer (some ⟨w.heap.size + 1, 0, none⟩) := by rw [← hF]; rfl
 have HF := Lib.hid hF; clear hF
 refine wp_flow_tab true hW 11 [(5, []), (6, [0]), (7, []), (8, [2]), (9, [1, 3]), (10, []), (11, [5]), (12, []), (13, [7]), (14, [6, 8]), (15, [4, 9])] [SC (.pointer (some ⟨w.heap.size, 0, none⟩)), SC (.agg #[a0, a1, a2, a3]), SC (.pointer (some ⟨w.heap.size + 1, 0, none⟩)), SC (.agg #[b0, b1, b2, b3]), SR (v.1 - u.1), SC (.pointer (some ⟨w.heap.size, 4, none⟩)), SC (.agg #[a4, a5, a6, a7]), SC (.pointer (some ⟨w.heap.size + 1, 4, none⟩)), SC (.agg #[b4, b5, b6, b7]), SR (v.2 - u.2), SV (vsub v u)] [false, false, false, false, false, false, false, false, false, false, false] (by kernel_rfl) (by kernel_rfl) (by kernel_rfl) (by kernel_rfl) (by kernel_rfl) (by rw [← HF.out]; simp) ⟨SC.mono _, SC.mono _, SC.mono _, SC.mono _, SR.mono _, SC.mono _, SC.mono _, SC.mono _, SC.mono _, SR.mono _, SV.mono _, trivial⟩ ?_ ?_
 ·intro kq hkq a wx hB hp hs
  have hcase : kq = 0 ∨ kq = 1 ∨ kq = 2 ∨ kq = 3 ∨ kq = 4 ∨ kq = 5 ∨ kq = 6 ∨ kq = 7 ∨ kq = 8 ∨ kq = 9 ∨ kq = 10 := by omega
  rcases hcase with rfl | rfl | rfl | rfl | rfl | rfl | rfl | rfl | rfl | rfl | rfl
  ·exact ⟨_, rfl, fa_Vec0 rfl ((hs 2 rfl).trans ev2)⟩
  ·obtain ⟨k0, -⟩ := hp
   exact ⟨_, rfl, ld_Rat rfl k0 (k3.below hB) rfl rfl rfl rfl⟩
  ·exact ⟨_, rfl, fa_Vec0 rfl ((hs 3 rfl).trans ev3)⟩
  ·obtain ⟨k0, -⟩ := hp
   exact ⟨_, rfl, ld_Rat rfl k0 (k4.below hB) rfl rfl rfl rfl⟩
  ·obtain ⟨k0, k1, -⟩ := hp
   exact ⟨_, rfl, Does.rr (f := 61) (call2 rfl (fun _ => by simp [go_sem]) k0 k1) (rsub4_any (j) (k) a0 a1 a2 a3 b0 b1 b2 b3 (v.1) (u.1) wx ((k5.out.kp (.of hB))).1 ((k6.out.kp (.of hB))).1 Hba.out.1 Hbb.out.1 (by omega))⟩
  ·exact ⟨_, rfl, fa_Vec1 rfl ((hs 2 rfl).trans ev2)⟩
  ·obtain ⟨k0, -⟩ := hp
   exact ⟨_, rfl, ld_Rat rfl k0 (k3.below hB) rfl rfl rfl rfl⟩
  ·exact ⟨_, rfl, fa_Vec1 rfl ((hs 3 rfl).trans ev3)⟩
  ·obtain ⟨k0, -⟩ := hp
   exact ⟨_, rfl, ld_Rat rfl k0 (k4.below hB) rfl rfl rfl rfl⟩
  ·obtain ⟨k0, k1, -⟩ := hp
   exact ⟨_, rfl, Does.rr (f := 61) (call2 rfl (fun _ => by simp [go_sem]) k0 k1) (rsub4_any (j) (k) a4 a5 a6 a7 b4 b5 b6 b7 (v.2) (u.2) wx ((k5.out.kp (.of hB))).2 ((k6.out.kp (.of hB))).2 Hba.out.2 Hbb.out.2 (by omega))⟩
  ·obtain ⟨k0, k1, -⟩ := hp
   obtain ⟨x0, x1, x2, x3, e0, h_x⟩ := k0
   replace e0 : a.eval (.tmp 9) = .agg #[x0, x1, x2, x3] := e0
   obtain ⟨y0, y1, y2, y3, e1, h_y⟩ := k1
   replace e1 : a.eval (.tmp 14) = .agg #[y0, y1, y2, y3] := e1
   simp [Act.eval] at e0
   simp [Act.eval] at e1
   exact ⟨_, rfl, Does.val (by simp [execOp, Act.eval, e0, e1, go_sem]) ⟨x0, x1, x2, x3, y0, y1, y2, y3, rfl, ⟨h_x, h_y⟩⟩⟩
 ·intro val wx hB hsp hdis
  obtain ⟨z0, z1, z2, z3, z4, z5, z6, z7, e10, h_z⟩ := hsp 10 (by omega)
  replace e10 : val 10 = .agg #[z0, z1, z2, z3, z4, z5, z6, z7] := e10
  rw [← HF.out]
  change wpList _ _ _ [_] _ _
  simp only [puts, vals, List.map_cons, List.map_nil, List.foldl_cons, List.foldl_nil, if_true, Nat.zero_add, Nat.reduceAdd, e10, List.setIfInBounds_toArray, List.set_cons_succ, List.set_cons_zero]
  clear hsp hdis HF e10
  clear ev2 ev3
  obtain ⟨w16, rfl⟩ : ∃ W : World, W = wx := ⟨_, rfl⟩
  have kb := kh.below hB
  have kj := Lib.hid (Blw ki.out hB)
  have kk := Lib.hid h_z
  obtain ⟨o_z0, o_z1, o_z2, o_z3, o_z4, o_z5, o_z6, o_z7⟩ := h_z.ones
  clear h_z
  clear hB
  obtain ⟨kl, km, kn, ko, kr, ks, kt, ku, kv, kw⟩ := kb.f8
  go_wp2
  have hkp := (Kp.refl w16).t8 (kb) z0 z1 z2 z3 z4 z5 z6 z7
  refine bodyPost_ret (v := .agg #[z0, z1, z2, z3, z4, z5, z6, z7]) (by simp [results, Try.results34, go_sem, kl, km, kn, ko, kr, ks, kt, ku]) rfl ⟨_, _, _, _, _, _, _, _, rfl, ?_, bel8 (kj.out) (by first | simp | omega)⟩
  exact kk.out.kp hkp
set_option maxRecDepth 100000 in
theorem vsca5_any (j k : Nat) (a0 a1 a2 a3 a4 a5 a6 a7 b0 b1 b2 b3 : Value) (v : Rat × Rat) (q : Rat) (w : World) (ha : VecV w a0 a1 a2 a3 a4 a5 a6 a7 v) (hb : RatV w b0 b1 b2 b3 q) (ba : Bv j v) (bb : Bq k q) (hk : 10 * (j + k) + 100 ≤ 800000000000) :
  Calls Try.prog 36 #[.agg #[a0, a1, a2, a3, a4, a5, a6, a7], .agg #[b0, b1, b2, b3]] w (RV (vsca v q) w) := by
 obtain ⟨qa0, qa1, qa2, qa3, qa4, qa5, qa6, qa7⟩ := ha.ones
 obtain ⟨qb0, qb1, qb2, qb3⟩ := hb.ones
 have Hha := Lib.hid ha; have Hhb := Lib.hid hb; have Hba := Lib.hid ba; have Hbb := Lib.hid bb
 clear ha hb ba bb
 go_enter Try.func36, Try.ntmps36
 go_wp2_with fail
 generalize hW : ((w.alloc _).alloc _).alloc _ = W1
 obtain ⟨kc, kd, ke, hB⟩ := box3 hW
 have k2 := Lib.hid hB; clear hW hB
 have F6 := Lib.hid (Hha.out.kp (.of k2.out))
 have F7 := Lib.hid (Hhb.out.kp (.of k2.out))
 go_upto_region 1 with fail
 generalize hW : W1.drew = W8
 have hB : Below W1.heap.size W1 W8 := by rw [← hW]; exact (Below.refl _ _).drew
 have k3 := kc.below hB
 have k4 := kd.below hB
 have kh := ke.below hB
 have k5 := Lib.hid (F6.out.kp (.of hB))
 have k6 := Lib.hid (F7.out.kp (.of hB))
 have ki := Lib.hid (Blw k2.out hB)
 clear hB
 generalize hF : ({ tmps := _, defers := _ } : Act) = F
 have ev2 : F.eval (.tmp 2) = .pointer (some ⟨w.heap.size, 0, none⟩) := by rw [← hF]; rfl
 have ev3 : F.eval (.tmp 3) = .pointer (some ⟨w.heap.size + 1, 0, none⟩) := by rw [← hF]; rfl
 have HF := Lib.hid hF; clear hF
 refine wp_flow_tab true hW 9 [(5, []), (6, [0]), (7, []), (8, [1, 2]), (9, []), (10, [4]), (11, []), (12, [5, 6]), (13, [3, 7])] [SC (.pointer (some ⟨w.heap.size, 0, none⟩)), SC (.agg #[a0, a1, a2, a3]), SC (.agg #[b0, b1, b2, b3]), SR (v.1 * q), SC (.pointer (some ⟨w.heap.size, 4, none⟩)), SC (.agg #[a4, a5, a6, a7]), SC (.agg #[b0, b1, b2, b3]), SR (v.2 * q), SV (vsca v q)] [false, false, false, false, false, false, false, false, false] (by kernel_rfl) (by kernel_rfl) (by kernel_rfl) (by kernel_rfl) (by kernel_rfl) (by rw [← HF.out]; simp) ⟨SC.mono _, SC.mono _, SC.mono _, SR.mono _, SC.mono _, SC.mono _, SC.mono _, SR.mono _, SV.mono _, trivial⟩ ?_ ?_
 ·intro kq hkq a wx hB hp hs
  have hcase : kq = 0 ∨ kq = 1 ∨ kq = 2 ∨ kq = 3 ∨ kq = 4 ∨ kq = 5 ∨ kq = 6 ∨ kq = 7 ∨ kq = 8 := by omega
  rcases hcase with rfl | rfl | rfl | rfl | rfl | rfl | rfl | rfl | rfl
  ·exact ⟨_, rfl, fa_Vec0 rfl ((hs 2 rfl).trans ev2)⟩
  ·obtain ⟨k0, -⟩ := hp
   exact ⟨_, rfl, ld_Rat rfl k0 (k3.below hB) rfl rfl rfl rfl⟩
  ·exact ⟨_, rfl, ld_Rat rfl ((hs 3 rfl).trans ev3) (k4.below hB) rfl rfl rfl rfl⟩
  ·obtain ⟨k0, k1, -⟩ := hp
   exact ⟨_, rfl, Does.rr (f := 60) (call2 rfl (fun _ => by simp [go_sem]) k0 k1) (rmul4_any (j) (k) a0 a1 a2 a3 b0 b1 b2 b3 (v.1) (q) wx ((k5.out.kp (.of hB))).1 (k6.out.kp (.of hB)) Hba.out.1 Hbb.out (by omega))⟩
  ·exact ⟨_, rfl, fa_Vec1 rfl ((hs 2 rfl).trans ev2)⟩
  ·obtain ⟨k0, -⟩ := hp
   exact ⟨_, rfl, ld_Rat rfl k0 (k3.below hB) rfl rfl rfl rfl⟩
  ·exact ⟨_, rfl, ld_Rat rfl ((hs 3 rfl).trans ev3) (k4.below hB) rfl rfl rfl rfl⟩
  ·obtain ⟨k0, k1, -⟩ := hp
   exact ⟨_, rfl, Does.rr (f := 60) (call2 rfl (fun _ => by simp [go_sem]) k0 k1) (rmul4_any (j) (k) a4 a5 a6 a7 b0 b1 b2 b3 (v.2) (q) wx ((k5.out.kp (.of hB))).2 (k6.out.kp (.of hB)) Hba.out.2 Hbb.out (by omega))⟩
  ·obtain ⟨k0, k1, -⟩ := hp
   obtain ⟨x0, x1, x2, x3, e0, h_x⟩ := k0
   replace e0 : a.eval (.tmp 8) = .agg #[x0, x1, x2, x3] := e0
   obtain ⟨y0, y1, y2, y3, e1, h_y⟩ := k1
   replace e1 : a.eval (.tmp 12) = .agg #[y0, y1, y2, y3] := e1
   simp [Act.eval] at e0
   simp [Act.eval] at e1
   exact ⟨_, rfl, Does.val (by simp [execOp, Act.eval, e0, e1, go_sem]) ⟨x0, x1, x2, x3, y0, y1, y2, y3, rfl, ⟨h_x, h_y⟩⟩⟩
 ·intro val wx hB hsp hdis
  obtain ⟨z0, z1, z2, z3, z4, z5, z6, z7, e8, h_z⟩ := hsp 8 (by omega)
  replace e8 : val 8 = .agg #[z0, z1, z2, z3, z4, z5, z6, z7] := e8
  rw [← HF.out]
  change wpList _ _ _ [_] _ _
  simp only [puts, vals, List.map_cons, List.map_nil, List.foldl_cons, List.foldl_nil, if_true, Nat.zero_add, Nat.reduceAdd, e8, List.setIfInBounds_toArray, List.set_cons_succ, List.set_cons_zero]
  clear hsp hdis HF e8
  clear ev2 ev3
  obtain ⟨w16, rfl⟩ : ∃ W : World, W = wx := ⟨_, rfl⟩
  have kb := kh.below hB
  have kj := Lib.hid (Blw ki.out hB)
  have kk := Lib.hid h_z
  obtain ⟨o_z0, o_z1, o_z2, o_z3, o_z4, o_z5, o_z6, o_z7⟩ := h_z.ones
  clear h_z
  clear hB
  obtain ⟨kl, km, kn, ko, kr, ks, kt, ku, kv, kw⟩ := kb.f8
  go_wp2
  have hkp := (Kp.refl w16).t8 (kb) z0 z1 z2 z3 z4 z5 z6 z7
  refine bodyPost_ret (v := .agg #[z0, z1, z2, z3, z4, z5, z6, z7]) (by simp [results, Try.results36, go_sem, kl, km, kn, ko, kr, ks, kt, ku]) rfl ⟨_, _, _, _, _, _, _, _, rfl, ?_, bel8 (kj.out) (by first | simp | omega)⟩
  exact kk.out.kp hkp
set_option maxRecDepth 100000 in
theorem vbak5_any (a0 a1 a2 a3 a4 a5 a6 a7 : Value) (t : Rat × Rat) (w : World) (ha : VecV w a0 a1 a2 a3 a4 a5 a6 a7 t)  :
  Calls Try.prog 27 #[.agg #[a0, a1, a2, a3, a4, a5, a6, a7]] w (RV (vbak t) w) := by
 obtain ⟨qa0, qa1, qa2, qa3, qa4, qa5, qa6, qa7⟩ := ha.ones
 have Hha := Lib.hid ha
 clear ha
 go_enter Try.func27, Try.ntmps27
 go_wp2_with fail
 generalize hW : (w.alloc _).alloc _ = W1
 obtain ⟨k5, k6, hB⟩ := box2 hW
 have k1 := Lib.hid hB; clear hW hB
 have F5 := Lib.hid (Hha.out.kp (.of k1.out))
 go_upto_region 1 with fail
 generalize hW : W1.drew = W6
 have hB : Below W1.heap.size W1 W6 := by rw [← hW]; exact (Below.refl _ _).drew
 have k2 := k5.below hB
 have k8 := k6.below hB
 have F9 := Lib.hid (F5.out.kp (.of hB))
 have k9 := Lib.hid (Blw k1.out hB)
 clear hB
 generalize hF : ({ tmps := _, defers := _ } : Act) = F
 have ev1 : F.eval (.tmp 1) = .pointer (some ⟨w.heap.size, 0, none⟩) := by rw [← hF]; rfl
 have HF := Lib.hid hF; clear hF
 refine wp_flow_tab true hW 6 [(3, []), (4, [0]), (5, []), (6, [2]), (7, [3]), (8, [1, 4])] [SC (.pointer (some ⟨w.heap.size, 0, none⟩)), SC (.agg #[a0, a1, a2, a3]), SC (.pointer (some ⟨w.heap.size, 4, none⟩)), SC (.agg #[a4, a5, a6, a7]), SR (-t.2), SV (vbak t)] [false, false, false, false, false, false] (by kernel_rfl) (by kernel_rfl) (by kernel_rfl) (by kernel_rfl) (by kernel_rfl) (by rw [← HF.out]; simp) ⟨SC.mono _, SC.mono _, SC.mono _, SC.mono _, SR.mono _, SV.mono _, trivial⟩ ?_ ?_
 ·intro kq hkq a wx hB hp hs
  have hcase : kq = 0 ∨ kq = 1 ∨ kq = 2 ∨ kq = 3 ∨ kq = 4 ∨ kq = 5 := by omega
  rcases hcase with rfl | rfl | rfl | rfl | rfl | rfl
  ·exact ⟨_, rfl, fa_Turn0 rfl ((hs 1 rfl).trans ev1)⟩
  ·obtain ⟨k0, -⟩ := hp
   exact ⟨_, rfl, ld_Rat rfl k0 (k2.below hB) rfl rfl rfl rfl⟩
  ·exact ⟨_, rfl, fa_Turn1 rfl ((hs 1 rfl).trans ev1)⟩
  ·obtain ⟨k0, -⟩ := hp
   exact ⟨_, rfl, ld_Rat rfl k0 (k2.below hB) rfl rfl rfl rfl⟩
  ·obtain ⟨k0, -⟩ := hp
   exact ⟨_, rfl, Does.rr (f := 45) (call1 rfl (fun _ => by simp [go_sem]) k0) (rneg4_any a4 a5 a6 a7 (t.2) wx ((F9.out.kp (.of hB))).2)⟩
  ·obtain ⟨k0, ka, -⟩ := hp
   have e0 : a.eval (.tmp 4) = .agg #[a0, a1, a2, a3] := k0
   obtain ⟨n0, n1, n2, n3, e1, h_n⟩ := ka
   replace e1 : a.eval (.tmp 7) = .agg #[n0, n1, n2, n3] := e1
   simp [Act.eval] at e0
   simp [Act.eval] at e1
   exact ⟨_, rfl, Does.val (by simp [execOp, Act.eval, e0, e1, go_sem]) ⟨a0, a1, a2, a3, n0, n1, n2, n3, rfl, ⟨((F9.out.kp (.of hB))).1, h_n⟩⟩⟩
 ·intro val wx hB hsp hdis
  obtain ⟨z0, z1, z2, z3, z4, z5, z6, z7, e5, h_z⟩ := hsp 5 (by omega)
  replace e5 : val 5 = .agg #[z0, z1, z2, z3, z4, z5, z6, z7] := e5
  rw [← HF.out]
  change wpList _ _ _ [_] _ _
  simp only [puts, vals, List.map_cons, List.map_nil, List.foldl_cons, List.foldl_nil, if_true, Nat.zero_add, Nat.reduceAdd, e5, List.setIfInBounds_toArray, List.set_cons_succ, List.set_cons_zero]
  clear hsp hdis HF e5
  clear ev1
  obtain ⟨w12, rfl⟩ : ∃ W : World, W = wx := ⟨_, rfl⟩
  have k4 := k8.below hB
  have kb := Lib.hid (Blw k9.out hB)
  have kc := Lib.hid h_z
  obtain ⟨o_z0, o_z1, o_z2, o_z3, o_z4, o_z5, o_z6, o_z7⟩ := h_z.ones
  clear h_z
  clear hB
  obtain ⟨kd, ke, kf, kg, kh, ki, kj, kk, kl, km⟩ := k4.f8
  go_wp2
  have hkp := (Kp.refl w12).t8 (k4) z0 z1 z2 z3 z4 z5 z6 z7
  refine bodyPost_ret (v := .agg #[z0, z1, z2, z3, z4, z5, z6, z7]) (by simp [results, Try.results27, go_sem, kd, ke, kf, kg, kh, ki, kj, kk]) rfl ⟨_, _, _, _, _, _, _, _, rfl, ?_, bel8 (kb.out) (by first | simp | omega)⟩
  exact kc.out.kp hkp
set_option maxRecDepth 100000 in
theorem vdot5_any (j k : Nat) (a0 a1 a2 a3 a4 a5 a6 a7 b0 b1 b2 b3 b4 b5 b6 b7 : Value) (v : Rat × Rat) (u : Rat × Rat) (w : World) (ha : VecV w a0 a1 a2 a3 a4 a5 a6 a7 v) (hb : VecV w b0 b1 b2 b3 b4 b5 b6 b7 u) (ba : Bv j v) (bb : Bv k u) (hk : 10 * (j + k) + 100 ≤ 800000000000) :
  Calls Try.prog 38 #[.agg #[a0, a1, a2, a3, a4, a5, a6, a7], .agg #[b0, b1, b2, b3, b4, b5, b6, b7]] w (RR (vdot v u) w) := by
 obtain ⟨qa0, qa1, qa2, qa3, qa4, qa5, qa6, qa7⟩ := ha.ones
 obtain ⟨qb0, qb1, qb2, qb3, qb4, qb5, qb6, qb7⟩ := hb.ones
 have Hha := Lib.hid ha; have Hhb := Lib.hid hb; have Hba := Lib.hid ba; have Hbb := Lib.hid bb
 clear ha hb ba bb
 go_enter Try.func38, Try.ntmps38
 go_wp2_with fail
 generalize hW : ((w.alloc _).alloc _).alloc _ = W1
 obtain ⟨kc, kd, ke, hB⟩ := box3 hW
 have k2 := Lib.hid hB; clear hW hB
 have F6 := Lib.hid (Hha.out.kp (.of k2.out))
 have F7 := Lib.hid (Hhb.out.kp (.of k2.out))
 go_upto_region 1 with fail
 generalize hW : W1.drew = W8
 have hB : Below W1.heap.size W1 W8 := by rw [← hW]; exact (Below.refl _ _).drew
 have k3 := kc.below hB
 have k4 := kd.below hB
 have kh := ke.below hB
 have k5 := Lib.hid (F6.out.kp (.of hB))
 have k6 := Lib.hid (F7.out.kp (.of hB))
 have ki := Lib.hid (Blw k2.out hB)
 clear hB
 generalize hF : ({ tmps := _, defers := _ } : Act) = F
 have ev2 : F.eval (.tmp 2) = .pointer (some ⟨w.heap.size, 0, none⟩) := by rw [← hF]; rfl
 have ev3 : F.eval (.tmp 3) = .pointer (some ⟨w.heap.size + 1, 0, none⟩) := by rw [← hF]; rfl
 have HF := Lib.hid hF; clear hF
 refine wp_flow_tab true hW 11 [(5, []), (6, [0]), (7, []), (8, [2]), (9, [1, 3]), (10, []), (11, [5]), (12, []), (13, [7]), (14, [6, 8]), (15, [4, 9])] [SC (.pointer (some ⟨w.heap.size, 0, none⟩)), SC (.agg #[a0, a1, a2, a3]), SC (.pointer (some ⟨w.heap.size + 1, 0, none⟩)), SC (.agg #[b0, b1, b2, b3]), SR (v.1 * u.1), SC (.pointer (some ⟨w.heap.size, 4, none⟩)), SC (.agg #[a4, a5, a6, a7]), SC (.pointer (some ⟨w.heap.size + 1, 4, none⟩)), SC (.agg #[b4, b5, b6, b7]), SR (v.2 * u.2), SR (v.1 * u.1 + v.2 * u.2)] [false, false, false, false, false, false, false, false, false, false, false] (by kernel_rfl) (by kernel_rfl) (by kernel_rfl) (by kernel_rfl) (by kernel_rfl) (by rw [← HF.out]; simp) ⟨SC.mono _, SC.mono _, SC.mono _, SC.mono _, SR.mono _, SC.mono _, SC.mono _, SC.mono _, SC.mono _, SR.mono _, SR.mono _, trivial⟩ ?_ ?_
 ·intro kq hkq a wx hB hp hs
  have hcase : kq = 0 ∨ kq = 1 ∨ kq = 2 ∨ kq = 3 ∨ kq = 4 ∨ kq = 5 ∨ kq = 6 ∨ kq = 7 ∨ kq = 8 ∨ kq = 9 ∨ kq = 10 := by omega
  rcases hcase with rfl | rfl | rfl | rfl | rfl | rfl | rfl | rfl | rfl | rfl | rfl
  ·exact ⟨_, rfl, fa_Vec0 rfl ((hs 2 rfl).trans ev2)⟩
  ·obtain ⟨k0, -⟩ := hp
   exact ⟨_, rfl, ld_Rat rfl k0 (k3.below hB) rfl rfl rfl rfl⟩
  ·exact ⟨_, rfl, fa_Vec0 rfl ((hs 3 rfl).trans ev3)⟩
  ·obtain ⟨k0, -⟩ := hp
   exact ⟨_, rfl, ld_Rat rfl k0 (k4.below hB) rfl rfl rfl rfl⟩
  ·obtain ⟨k0, k1, -⟩ := hp
   exact ⟨_, rfl, Does.rr (f := 60) (call2 rfl (fun _ => by simp [go_sem]) k0 k1) (rmul4_any (j) (k) a0 a1 a2 a3 b0 b1 b2 b3 (v.1) (u.1) wx ((k5.out.kp (.of hB))).1 ((k6.out.kp (.of hB))).1 Hba.out.1 Hbb.out.1 (by omega))⟩
  ·exact ⟨_, rfl, fa_Vec1 rfl ((hs 2 rfl).trans ev2)⟩
  ·obtain ⟨k0, -⟩ := hp
   exact ⟨_, rfl, ld_Rat rfl k0 (k3.below hB) rfl rfl rfl rfl⟩
  ·exact ⟨_, rfl, fa_Vec1 rfl ((hs 3 rfl).trans ev3)⟩
  ·obtain ⟨k0, -⟩ := hp
   exact ⟨_, rfl, ld_Rat rfl k0 (k4.below hB) rfl rfl rfl rfl⟩
  ·obtain ⟨k0, k1, -⟩ := hp
   exact ⟨_, rfl, Does.rr (f := 60) (call2 rfl (fun _ => by simp [go_sem]) k0 k1) (rmul4_any (j) (k) a4 a5 a6 a7 b4 b5 b6 b7 (v.2) (u.2) wx ((k5.out.kp (.of hB))).2 ((k6.out.kp (.of hB))).2 Hba.out.2 Hbb.out.2 (by omega))⟩
  ·obtain ⟨k0, k1, -⟩ := hp
   obtain ⟨x0, x1, x2, x3, e0, h_x⟩ := k0
   replace e0 : a.eval (.tmp 9) = .agg #[x0, x1, x2, x3] := e0
   obtain ⟨y0, y1, y2, y3, e1, h_y⟩ := k1
   replace e1 : a.eval (.tmp 14) = .agg #[y0, y1, y2, y3] := e1
   exact ⟨_, rfl, Does.rr (f := 59) (call2 rfl (fun _ => by simp [go_sem]) e0 e1) (radd4_any (j + k) (j + k) x0 x1 x2 x3 y0 y1 y2 y3 (v.1 * u.1) (v.2 * u.2) wx h_x h_y (Hba.out.1.mul Hbb.out.1) (Hba.out.2.mul Hbb.out.2) (by omega))⟩
 ·intro val wx hB hsp hdis
  obtain ⟨z0, z1, z2, z3, e10, h_z⟩ := hsp 10 (by omega)
  replace e10 : val 10 = .agg #[z0, z1, z2, z3] := e10
  rw [← HF.out]
  change wpList _ _ _ [_] _ _
  simp only [puts, vals, List.map_cons, List.map_nil, List.foldl_cons, List.foldl_nil, if_true, Nat.zero_add, Nat.reduceAdd, e10, List.setIfInBounds_toArray, List.set_cons_succ, List.set_cons_zero]
  clear hsp hdis HF e10
  clear ev2 ev3
  obtain ⟨w16, rfl⟩ : ∃ W : World, W = wx := ⟨_, rfl⟩
  have kb := kh.below hB
  have kj := Lib.hid (Blw ki.out hB)
  have kk := Lib.hid h_z
  obtain ⟨o_z0, o_z1, o_z2, o_z3⟩ := h_z.ones
  clear h_z
  clear hB
  obtain ⟨kl, km, kn, ko, kr, ks⟩ := kb.f4
  go_wp2
  have hkp := (Kp.refl w16).t4 (kb) z0 z1 z2 z3
  refine bodyPost_ret (v := .agg #[z0, z1, z2, z3]) (by simp [results, Try.results38, go_sem, kl, km, kn, ko]) rfl ⟨_, _, _, _, rfl, ?_, bel4 (kj.out) (by first | simp | omega)⟩
  exact kk.out.kp hkp
set_option maxRecDepth 100000 in
theorem vcrs5_any (j k : Nat) (a0 a1 a2 a3 a4 a5 a6 a7 b0 b1 b2 b3 b4 b5 b6 b7 : Value) (v : Rat × Rat) (u : Rat × Rat) (w : World) (ha : VecV w a0 a1 a2 a3 a4 a5 a6 a7 v) (hb : VecV w b0 b1 b2 b3 b4 b5 b6 b7 u) (ba : Bv j v) (bb : Bv k u) (hk : 10 * (j + k) + 100 ≤ 800000000000) :
  Calls Try.prog 39 #[.agg #[a0, a1, a2, a3, a4, a5, a6, a7], .agg #[b0, b1, b2, b3, b4, b5, b6, b7]] w (RR (vcrs v u) w) := by
 obtain ⟨qa0, qa1, qa2, qa3, qa4, qa5, qa6, qa7⟩ := ha.ones
 obtain ⟨qb0, qb1, qb2, qb3, qb4, qb5, qb6, qb7⟩ := hb.ones
 have Hha := Lib.hid ha; have Hhb := Lib.hid hb; have Hba := Lib.hid ba; have Hbb := Lib.hid bb
 clear ha hb ba bb
 go_enter Try.func39, Try.ntmps39
 go_wp2_with fail
 generalize hW : ((w.alloc _).alloc _).alloc _ = W1
 obtain ⟨kc, kd, ke, hB⟩ := box3 hW
 have k2 := Lib.hid hB; clear hW hB
 have F6 := Lib.hid (Hha.out.kp (.of k2.out))
 have F7 := Lib.hid (Hhb.out.kp (.of k2.out))
 go_upto_region 1 with fail
 generalize hW : W1.drew = W8
 have hB : Below W1.heap.size W1 W8 := by rw [← hW]; exact (Below.refl _ _).drew
 have k3 := kc.below hB
 have k4 := kd.below hB
 have kh := ke.below hB
 have k5 := Lib.hid (F6.out.kp (.of hB))
 have k6 := Lib.hid (F7.out.kp (.of hB))
 have ki := Lib.hid (Blw k2.out hB)
 clear hB
 generalize hF : ({ tmps := _, defers := _ } : Act) = F
 have ev2 : F.eval (.tmp 2) = .pointer (some ⟨w.heap.size, 0, none⟩) := by rw [← hF]; rfl
 have ev3 : F.eval (.tmp 3) = .pointer (some ⟨w.heap.size + 1, 0, none⟩) := by rw [← hF]; rfl
 have HF := Lib.hid hF; clear hF
 refine wp_flow_tab true hW 11 [(5, []), (6, [0]), (7, []), (8, [2]), (9, [1, 3]), (10, []), (11, [5]), (12, []), (13, [7]), (14, [6, 8]), (15, [4, 9])] [SC (.pointer (some ⟨w.heap.size, 0, none⟩)), SC (.agg #[a0, a1, a2, a3]), SC (.pointer (some ⟨w.heap.size + 1, 4, none⟩)), SC (.agg #[b4, b5, b6, b7]), SR (v.1 * u.2), SC (.pointer (some ⟨w.heap.size, 4, none⟩)), SC (.agg #[a4, a5, a6, a7]), SC (.pointer (some ⟨w.heap.size + 1, 0, none⟩)), SC (.agg #[b0, b1, b2, b3]), SR (v.2 * u.1), SR (v.1 * u.2 - v.2 * u.1)] [false, false, false, false, false, false, false, false, false, false, false] (by kernel_rfl) (by kernel_rfl) (by kernel_rfl) (by kernel_rfl) (by kernel_rfl) (by rw [← HF.out]; simp) ⟨SC.mono _, SC.mono _, SC.mono _, SC.mono _, SR.mono _, SC.mono _, SC.mono _, SC.mono _, SC.mono _, SR.mono _, SR.mono _, trivial⟩ ?_ ?_
 ·intro kq hkq a wx hB hp hs
  have hcase : kq = 0 ∨ kq = 1 ∨ kq = 2 ∨ kq = 3 ∨ kq = 4 ∨ kq = 5 ∨ kq = 6 ∨ kq = 7 ∨ kq = 8 ∨ kq = 9 ∨ kq = 10 := by omega
  rcases hcase with rfl | rfl | rfl | rfl | rfl | rfl | rfl | rfl | rfl | rfl | rfl
  ·exact ⟨_, rfl, fa_Vec0 rfl ((hs 2 rfl).trans ev2)⟩
  ·obtain ⟨k0, -⟩ := hp
   exact ⟨_, rfl, ld_Rat rfl k0 (k3.below hB) rfl rfl rfl rfl⟩
  ·exact ⟨_, rfl, fa_Vec1 rfl ((hs 3 rfl).trans ev3)⟩
  ·obtain ⟨k0, -⟩ := hp
   exact ⟨_, rfl, ld_Rat rfl k0 (k4.below hB) rfl rfl rfl rfl⟩
  ·obtain ⟨k0, k1, -⟩ := hp
   exact ⟨_, rfl, Does.rr (f := 60) (call2 rfl (fun _ => by simp [go_sem]) k0 k1) (rmul4_any (j) (k) a0 a1 a2 a3 b4 b5 b6 b7 (v.1) (u.2) wx ((k5.out.kp (.of hB))).1 ((k6.out.kp (.of hB))).2 Hba.out.1 Hbb.out.2 (by omega))⟩
  ·exact ⟨_, rfl, fa_Vec1 rfl ((hs 2 rfl).trans ev2)⟩
  ·obtain ⟨k0, -⟩ := hp
   exact ⟨_, rfl, ld_Rat rfl k0 (k3.below hB) rfl rfl rfl rfl⟩
  ·exact ⟨_, rfl, fa_Vec0 rfl ((hs 3 rfl).trans ev3)⟩
  ·obtain ⟨k0, -⟩ := hp
   exact ⟨_, rfl, ld_Rat rfl k0 (k4.below hB) rfl rfl rfl rfl⟩
  ·obtain ⟨k0, k1, -⟩ := hp
   exact ⟨_, rfl, Does.rr (f := 60) (call2 rfl (fun _ => by simp [go_sem]) k0 k1) (rmul4_any (j) (k) a4 a5 a6 a7 b0 b1 b2 b3 (v.2) (u.1) wx ((k5.out.kp (.of hB))).2 ((k6.out.kp (.of hB))).1 Hba.out.2 Hbb.out.1 (by omega))⟩
  ·obtain ⟨k0, k1, -⟩ := hp
   obtain ⟨x0, x1, x2, x3, e0, h_x⟩ := k0
   replace e0 : a.eval (.tmp 9) = .agg #[x0, x1, x2, x3] := e0
   obtain ⟨y0, y1, y2, y3, e1, h_y⟩ := k1
   replace e1 : a.eval (.tmp 14) = .agg #[y0, y1, y2, y3] := e1
   exact ⟨_, rfl, Does.rr (f := 61) (call2 rfl (fun _ => by simp [go_sem]) e0 e1) (rsub4_any (j + k) (j + k) x0 x1 x2 x3 y0 y1 y2 y3 (v.1 * u.2) (v.2 * u.1) wx h_x h_y (Hba.out.1.mul Hbb.out.2) (Hba.out.2.mul Hbb.out.1) (by omega))⟩
 ·intro val wx hB hsp hdis
  obtain ⟨z0, z1, z2, z3, e10, h_z⟩ := hsp 10 (by omega)
  replace e10 : val 10 = .agg #[z0, z1, z2, z3] := e10
  rw [← HF.out]
  change wpList _ _ _ [_] _ _
  simp only [puts, vals, List.map_cons, List.map_nil, List.foldl_cons, List.foldl_nil, if_true, Nat.zero_add, Nat.reduceAdd, e10, List.setIfInBounds_toArray, List.set_cons_succ, List.set_cons_zero]
  clear hsp hdis HF e10
  clear ev2 ev3
  obtain ⟨w16, rfl⟩ : ∃ W : World, W = wx := ⟨_, rfl⟩
  have kb := kh.below hB
  have kj := Lib.hid (Blw ki.out hB)
  have kk := Lib.hid h_z
  obtain ⟨o_z0, o_z1, o_z2, o_z3⟩ := h_z.ones
  clear h_z
  clear hB
  obtain ⟨kl, km, kn, ko, kr, ks⟩ := kb.f4
  go_wp2
  have hkp := (Kp.refl w16).t4 (kb) z0 z1 z2 z3
  refine bodyPost_ret (v := .agg #[z0, z1, z2, z3]) (by simp [results, Try.results39, go_sem, kl, km, kn, ko]) rfl ⟨_, _, _, _, rfl, ?_, bel4 (kj.out) (by first | simp | omega)⟩
  exact kk.out.kp hkp
set_option maxRecDepth 100000 in
theorem vrot5_any (j k : Nat) (a0 a1 a2 a3 a4 a5 a6 a7 b0 b1 b2 b3 b4 b5 b6 b7 : Value) (t : Rat × Rat) (u : Rat × Rat) (w : World) (ha : VecV w a0 a1 a2 a3 a4 a5 a6 a7 t) (hb : VecV w b0 b1 b2 b3 b4 b5 b6 b7 u) (ba : Bv j t) (bb : Bv k u) (hk : 10 * (j + k) + 100 ≤ 800000000000) :
  Calls Try.prog 24 #[.agg #[a0, a1, a2, a3, a4, a5, a6, a7], .agg #[b0, b1, b2, b3, b4, b5, b6, b7]] w (RV (vrot t u) w) := by
 obtain ⟨qa0, qa1, qa2, qa3, qa4, qa5, qa6, qa7⟩ := ha.ones
 obtain ⟨qb0, qb1, qb2, qb3, qb4, qb5, qb6, qb7⟩ := hb.ones
 have Hha := Lib.hid ha; have Hhb := Lib.hid hb; have Hba := Lib.hid ba; have Hbb := Lib.hid bb
 clear ha hb ba bb
 go_enter Try.func24, Try.ntmps24
 go_wp2_with fail
 generalize hW : ((w.alloc _).alloc _).alloc _ = W1
 obtain ⟨kz, kA, kB, hB⟩ := box3 hW
 have k6 := Lib.hid hB; clear hW hB
 have F6 := Lib.hid (Hha.out.kp (.of k6.out))
 have F7 := Lib.hid (Hhb.out.kp (.of k6.out))
 go_upto_region 1 with fail
 generalize hW : W1.drew = W8
 have hB : Below W1.heap.size W1 W8 := by rw [← hW]; exact (Below.refl _ _).drew
 have k2 := kz.below hB
 have k3 := kA.below hB
 have kf := kB.below hB
 have k7 := Lib.hid (F6.out.kp (.of hB))
 have k8 := Lib.hid (F7.out.kp (.of hB))
 have kg := Lib.hid (Blw k6.out hB)
 clear hB
 have l15 := k2.lt
 have l16 := k3.lt
 have l17 := kf.lt
 generalize hF : ({ tmps := _, defers := _ } : Act) = F
 have ev2 : F.eval (.tmp 2) = .pointer (some ⟨w.heap.size, 0, none⟩) := by rw [← hF]; rfl
 have ev3 : F.eval (.tmp 3) = .pointer (some ⟨w.heap.size + 1, 0, none⟩) := by rw [← hF]; rfl
 have HF := Lib.hid hF; clear hF
 refine wp_flow_tab true hW 12 [(7, []), (8, [0]), (9, []), (10, [2]), (11, [1, 3]), (12, []), (13, [5]), (14, []), (15, [7]), (16, [6, 8]), (17, [4, 9]), (5, [])] [SC (.pointer (some ⟨w.heap.size, 0, none⟩)), SC (.agg #[a0, a1, a2, a3]), SC (.pointer (some ⟨w.heap.size + 1, 0, none⟩)), SC (.agg #[b0, b1, b2, b3]), SR (t.1 * u.1), SC (.pointer (some ⟨w.heap.size, 4, none⟩)), SC (.agg #[a4, a5, a6, a7]), SC (.pointer (some ⟨w.heap.size + 1, 4, none⟩)), SC (.agg #[b4, b5, b6, b7]), SR (t.2 * u.2), SR (t.1 * u.1 - t.2 * u.2), SB W8 26 [.bool false, .slice none 0 0, .bool false, .slice none 0 0]] [false, false, false, false, false, false, false, false, false, false, false, true] (by kernel_rfl) (by kernel_rfl) (by kernel_rfl) (by kernel_rfl) (by kernel_rfl) (by rw [← HF.out]; simp) ⟨SC.mono _, SC.mono _, SC.mono _, SC.mono _, SR.mono _, SC.mono _, SC.mono _, SC.mono _, SC.mono _, SR.mono _, SR.mono _, SB.mono _ _ _, trivial⟩ ?_ ?_
 ·intro kq hkq a wx hB hp hs
  have hcase : kq = 0 ∨ kq = 1 ∨ kq = 2 ∨ kq = 3 ∨ kq = 4 ∨ kq = 5 ∨ kq = 6 ∨ kq = 7 ∨ kq = 8 ∨ kq = 9 ∨ kq = 10 ∨ kq = 11 := by omega
  rcases hcase with rfl | rfl | rfl | rfl | rfl | rfl | rfl | rfl | rfl | rfl | rfl | rfl
  ·exact ⟨_, rfl, fa_Turn0 rfl ((hs 2 rfl).trans ev2)⟩
  ·obtain ⟨k0, -⟩ := hp
   exact ⟨_, rfl, ld_Rat rfl k0 (k2.below hB) rfl rfl rfl rfl⟩
  ·exact ⟨_, rfl, fa_Vec0 rfl ((hs 3 rfl).trans ev3)⟩
  ·obtain ⟨k0, -⟩ := hp
   exact ⟨_, rfl, ld_Rat rfl k0 (k3.below hB) rfl rfl rfl rfl⟩
  ·obtain ⟨k0, k1, -⟩ := hp
   exact ⟨_, rfl, Does.rr (f := 60) (call2 rfl (fun _ => by simp [go_sem]) k0 k1) (rmul4_any (j) (k) a0 a1 a2 a3 b0 b1 b2 b3 (t.1) (u.1) wx ((k7.out.kp (.of hB))).1 ((k8.out.kp (.of hB))).1 Hba.out.1 Hbb.out.1 (by omega))⟩
  ·exact ⟨_, rfl, fa_Turn1 rfl ((hs 2 rfl).trans ev2)⟩
  ·obtain ⟨k0, -⟩ := hp
   exact ⟨_, rfl, ld_Rat rfl k0 (k2.below hB) rfl rfl rfl rfl⟩
  ·exact ⟨_, rfl, fa_Vec1 rfl ((hs 3 rfl).trans ev3)⟩
  ·obtain ⟨k0, -⟩ := hp
   exact ⟨_, rfl, ld_Rat rfl k0 (k3.below hB) rfl rfl rfl rfl⟩
  ·obtain ⟨k0, k1, -⟩ := hp
   exact ⟨_, rfl, Does.rr (f := 60) (call2 rfl (fun _ => by simp [go_sem]) k0 k1) (rmul4_any (j) (k) a4 a5 a6 a7 b4 b5 b6 b7 (t.2) (u.2) wx ((k7.out.kp (.of hB))).2 ((k8.out.kp (.of hB))).2 Hba.out.2 Hbb.out.2 (by omega))⟩
  ·obtain ⟨k0, k1, -⟩ := hp
   obtain ⟨x0, x1, x2, x3, e0, h_x⟩ := k0
   replace e0 : a.eval (.tmp 11) = .agg #[x0, x1, x2, x3] := e0
   obtain ⟨y0, y1, y2, y3, e1, h_y⟩ := k1
   replace e1 : a.eval (.tmp 16) = .agg #[y0, y1, y2, y3] := e1
   exact ⟨_, rfl, Does.rr (f := 61) (call2 rfl (fun _ => by simp [go_sem]) e0 e1) (rsub4_any (j + k) (j + k) x0 x1 x2 x3 y0 y1 y2 y3 (t.1 * u.1) (t.2 * u.2) wx h_x h_y (Hba.out.1.mul Hbb.out.1) (Hba.out.2.mul Hbb.out.2) (by omega))⟩
  ·clear hp
   exact ⟨_, rfl, Does.box (by simp [execOp, go_sem]) hB⟩
 ·intro val wx hB hsp hdis
  obtain ⟨c0, c1, c2, c3, e10, h_c⟩ := hsp 10 (by omega)
  replace e10 : val 10 = .agg #[c0, c1, c2, c3] := e10
  obtain ⟨g18_11, e11, hg18_11, hbx18_11⟩ := hsp 11 (by omega)
  have hgw18_11 : w.heap.size ≤ g18_11 := Nat.le_trans kg.out.size hg18_11
  have hgl18_11 := hbx18_11.lt
  rw [← HF.out]
  change wpList _ _ _ [_] _ _
  simp only [puts, vals, List.map_cons, List.map_nil, List.foldl_cons, List.foldl_nil, if_true, Nat.zero_add, Nat.reduceAdd, e10, e11, List.setIfInBounds_toArray, List.set_cons_succ, List.set_cons_zero]
  clear hsp hdis HF e10 e11
  clear ev2 ev3
  obtain ⟨w19, rfl⟩ : ∃ W : World, W = wx := ⟨_, rfl⟩
  have kE := k2.below hB
  have kF := k3.below hB
  have kG := kf.below hB
  have kH := Lib.hid (k7.out.kp (.of hB))
  have kI := Lib.hid (k8.out.kp (.of hB))
  have kJ := Lib.hid (Blw kg.out hB)
  have kK := Lib.hid h_c
  obtain ⟨o_c0, o_c1, o_c2, o_c3⟩ := h_c.ones
  clear h_c
  clear hB
  obtain ⟨k0k, k0l, k0m, k0n, k0o, l32⟩ := hbx18_11.f4
  go_wp2_with fail
  have k9 := (hbx18_11).set_ 0 (c0)
  have ka := (k9).set_ 1 (c1)
  have kb := (ka).set_ 2 (c2)
  have kl := (kb).set_ 3 (c3)
  have hkp : Kp w19 ((((w19.setCell ⟨g18_11, 0, none⟩ (c0)).setCell ⟨g18_11, 1, none⟩ (c1)).setCell ⟨g18_11, 2, none⟩ (c2)).setCell ⟨g18_11, 3, none⟩ (c3)) := ((((Kp.refl _).set_ (hbx18_11) (by decide) _).set_ (k9) (by decide) _).set_ (ka) (by decide) _).set_ (kb) (by decide) _
  obtain ⟨W37, hW⟩ : ∃ W, W = (((w19.setCell ⟨g18_11, 0, none⟩ (c0)).setCell ⟨g18_11, 1, none⟩ (c1)).setCell ⟨g18_11, 2, none⟩ (c2)).setCell ⟨g18_11, 3, none⟩ (c3) := ⟨_, rfl⟩
  rw [← hW]
  rw [← hW] at hkp
  have hB : Below w.heap.size w W37 := by rw [hW]; exact bel4 (kJ.out) (by first | simp | omega)
  have kL := Lib.hid hB; clear hB
  have kM := Lib.hid (kH.out.kp hkp)
  have kN := Lib.hid (kI.out.kp hkp)
  have kO := Lib.hid (kK.out.kp hkp)
  have kP : Bx W37 (w.heap.size) 31 [a0, a1, a2, a3, a4, a5, a6, a7] := by rw [hW]; exact ((((kE).far_ (g' := g18_11) (j := 0) (by omega) (c0)).far_ (g' := g18_11) (j := 1) (by omega) (c1)).far_ (g' := g18_11) (j := 2) (by omega) (c2)).far_ (g' := g18_11) (j := 3) (by omega) (c3)
  have kQ : Bx W37 (w.heap.size + 1) 28 [b0, b1, b2, b3, b4, b5, b6, b7] := by rw [hW]; exact ((((kF).far_ (g' := g18_11) (j := 0) (by omega) (c0)).far_ (g' := g18_11) (j := 1) (by omega) (c1)).far_ (g' := g18_11) (j := 2) (by omega) (c2)).far_ (g' := g18_11) (j := 3) (by omega) (c3)
  have kR : Bx W37 (w.heap.size + 1 + 1) 28 [.bool false, .slice none 0 0, .bool false, .slice none 0 0, .bool false, .slice none 0 0, .bool false, .slice none 0 0] := by rw [hW]; exact ((((kG).far_ (g' := g18_11) (j := 0) (by omega) (c0)).far_ (g' := g18_11) (j := 1) (by omega) (c1)).far_ (g' := g18_11) (j := 2) (by omega) (c2)).far_ (g' := g18_11) (j := 3) (by omega) (c3)
  have kS : Bx W37 (g18_11) 26 [c0, c1, c2, c3] := by rw [hW]; exact kl
  clear hW hkp k9 ka kb kl
  go_upto_region 2 with fail
  generalize hW : W37.drew = W46
  have hB : Below W37.heap.size W37 W46 := by rw [← hW]; exact (Below.refl _ _).drew
  have k4 := kP.below hB
  have k5 := kQ.below hB
  have km := kR.below hB
  have kn := kS.below hB
  have ko := Lib.hid (kM.out.kp (.of hB))
  have kr := Lib.hid (kN.out.kp (.of hB))
  have kT := Lib.hid (kO.out.kp (.of hB))
  have ks := Lib.hid (Blw kL.out hB)
  clear hB
  have l55 := k4.lt
  have l56 := k5.lt
  have l57 := km.lt
  have l58 := kn.lt
  generalize hF : ({ tmps := _, defers := _ } : Act) = F
  have ev2 : F.eval (.tmp 2) = .pointer (some ⟨w.heap.size, 0, none⟩) := by rw [← hF]; rfl
  have ev3 : F.eval (.tmp 3) = .pointer (some ⟨w.heap.size + 1, 0, none⟩) := by rw [← hF]; rfl
  have HF := Lib.hid hF; clear hF
  refine wp_flow_tab true hW 12 [(18, []), (19, [0]), (20, []), (21, [2]), (22, [1, 3]), (23, []), (24, [5]), (25, []), (26, [7]), (27, [6, 8]), (28, [4, 9]), (6, [])] [SC (.pointer (some ⟨w.heap.size, 4, none⟩)), SC (.agg #[a4, a5, a6, a7]), SC (.pointer (some ⟨w.heap.size + 1, 0, none⟩)), SC (.agg #[b0, b1, b2, b3]), SR (t.2 * u.1), SC (.pointer (some ⟨w.heap.size, 0, none⟩)), SC (.agg #[a0, a1, a2, a3]), SC (.pointer (some ⟨w.heap.size + 1, 4, none⟩)), SC (.agg #[b4, b5, b6, b7]), SR (t.1 * u.2), SR (t.2 * u.1 + t.1 * u.2), SB W46 26 [.bool false, .slice none 0 0, .bool false, .slice none 0 0]] [false, false, false, false, false, false, false, false, false, false, false, true] (by kernel_rfl) (by kernel_rfl) (by kernel_rfl) (by kernel_rfl) (by kernel_rfl) (by rw [← HF.out]; simp) ⟨SC.mono _, SC.mono _, SC.mono _, SC.mono _, SR.mono _, SC.mono _, SC.mono _, SC.mono _, SC.mono _, SR.mono _, SR.mono _, SB.mono _ _ _, trivial⟩ ?_ ?_
  ·intro kq hkq a wx hB hp hs
   have hcase : kq = 0 ∨ kq = 1 ∨ kq = 2 ∨ kq = 3 ∨ kq = 4 ∨ kq = 5 ∨ kq = 6 ∨ kq = 7 ∨ kq = 8 ∨ kq = 9 ∨ kq = 10 ∨ kq = 11 := by omega
   rcases hcase with rfl | rfl | rfl | rfl | rfl | rfl | rfl | rfl | rfl | rfl | rfl | rfl
   ·exact ⟨_, rfl, fa_Turn1 rfl ((hs 2 rfl).trans ev2)⟩
   ·obtain ⟨k0, -⟩ := hp
    exact ⟨_, rfl, ld_Rat rfl k0 (k4.below hB) rfl rfl rfl rfl⟩
   ·exact ⟨_, rfl, fa_Vec0 rfl ((hs 3 rfl).trans ev3)⟩
   ·obtain ⟨k0, -⟩ := hp
    exact ⟨_, rfl, ld_Rat rfl k0 (k5.below hB) rfl rfl rfl rfl⟩
   ·obtain ⟨k0, k1, -⟩ := hp
    exact ⟨_, rfl, Does.rr (f := 60) (call2 rfl (fun _ => by simp [go_sem]) k0 k1) (rmul4_any (j) (k) a4 a5 a6 a7 b0 b1 b2 b3 (t.2) (u.1) wx ((ko.out.kp (.of hB))).2 ((kr.out.kp (.of hB))).1 Hba.out.2 Hbb.out.1 (by omega))⟩
   ·exact ⟨_, rfl, fa_Turn0 rfl ((hs 2 rfl).trans ev2)⟩
   ·obtain ⟨k0, -⟩ := hp
    exact ⟨_, rfl, ld_Rat rfl k0 (k4.below hB) rfl rfl rfl rfl⟩
   ·exact ⟨_, rfl, fa_Vec1 rfl ((hs 3 rfl).trans ev3)⟩
   ·obtain ⟨k0, -⟩ := hp
    exact ⟨_, rfl, ld_Rat rfl k0 (k5.below hB) rfl rfl rfl rfl⟩
   ·obtain ⟨k0, k1, -⟩ := hp
    exact ⟨_, rfl, Does.rr (f := 60) (call2 rfl (fun _ => by simp [go_sem]) k0 k1) (rmul4_any (j) (k) a0 a1 a2 a3 b4 b5 b6 b7 (t.1) (u.2) wx ((ko.out.kp (.of hB))).1 ((kr.out.kp (.of hB))).2 Hba.out.1 Hbb.out.2 (by omega))⟩
   ·obtain ⟨k0, k1, -⟩ := hp
    obtain ⟨m0, m1, m2, m3, e0, h_m⟩ := k0
    replace e0 : a.eval (.tmp 22) = .agg #[m0, m1, m2, m3] := e0
    obtain ⟨l0, l1, l2, l3, e1, h_l⟩ := k1
    replace e1 : a.eval (.tmp 27) = .agg #[l0, l1, l2, l3] := e1
    exact ⟨_, rfl, Does.rr (f := 59) (call2 rfl (fun _ => by simp [go_sem]) e0 e1) (radd4_any (j + k) (j + k) m0 m1 m2 m3 l0 l1 l2 l3 (t.2 * u.1) (t.1 * u.2) wx h_m h_l (Hba.out.2.mul Hbb.out.1) (Hba.out.1.mul Hbb.out.2) (by omega))⟩
   ·clear hp
    exact ⟨_, rfl, Does.box (by simp [execOp, go_sem]) hB⟩
  ·intro val wx hB hsp hdis
   obtain ⟨d0, d1, d2, d3, e10, h_d⟩ := hsp 10 (by omega)
   replace e10 : val 10 = .agg #[d0, d1, d2, d3] := e10
   obtain ⟨g59_11, e11, hg59_11, hbx59_11⟩ := hsp 11 (by omega)
   have hgw59_11 : w.heap.size ≤ g59_11 := Nat.le_trans ks.out.size hg59_11
   have hgl59_11 := hbx59_11.lt
   rw [← HF.out]
   change wpList _ _ _ [_] _ _
   simp only [puts, vals, List.map_cons, List.map_nil, List.foldl_cons, List.foldl_nil, if_true, Nat.zero_add, Nat.reduceAdd, e10, e11, List.setIfInBounds_toArray, List.set_cons_succ, List.set_cons_zero]
   clear hsp hdis HF e10 e11
   clear ev2 ev3
   obtain ⟨w60, rfl⟩ : ∃ W : World, W = wx := ⟨_, rfl⟩
   have kU := k4.below hB
   have kV := k5.below hB
   have kW := km.below hB
   have kX := kn.below hB
   have kY := Lib.hid (kT.out.kp (.of hB))
   have kZ := Lib.hid (Blw ks.out hB)
   have F69 := Lib.hid h_d
   obtain ⟨o_d0, o_d1, o_d2, o_d3⟩ := h_d.ones
   clear h_d
   clear hB
   obtain ⟨k0u, k0v, k0w, k0x, k0y, l75⟩ := hbx59_11.f4
   go_upto_region 3 with fail
   have kc := (hbx59_11).set_ 0 (d0)
   have kd := (kc).set_ 1 (d1)
   have ke := (kd).set_ 2 (d2)
   have kx := (ke).set_ 3 (d3)
   have hkp : Kp w60 ((((w60.setCell ⟨g59_11, 0, none⟩ (d0)).setCell ⟨g59_11, 1, none⟩ (d1)).setCell ⟨g59_11, 2, none⟩ (d2)).setCell ⟨g59_11, 3, none⟩ (d3)) := ((((Kp.refl _).set_ (hbx59_11) (by decide) _).set_ (kc) (by decide) _).set_ (kd) (by decide) _).set_ (ke) (by decide) _
   obtain ⟨W80, hW⟩ : ∃ W, W = (((w60.setCell ⟨g59_11, 0, none⟩ (d0)).setCell ⟨g59_11, 1, none⟩ (d1)).setCell ⟨g59_11, 2, none⟩ (d2)).setCell ⟨g59_11, 3, none⟩ (d3) := ⟨_, rfl⟩
   rw [← hW]
   rw [← hW] at hkp
   have hB : Below w.heap.size w W80 := by rw [hW]; exact bel4 (kZ.out) (by first | simp | omega)
   have k01 := Lib.hid hB; clear hB
   have F84 := Lib.hid (kY.out.kp hkp)
   have F85 := Lib.hid (F69.out.kp hkp)
   have k0A : Bx W80 (w.heap.size) 31 [a0, a1, a2, a3, a4, a5, a6, a7] := by rw [hW]; exact ((((kU).far_ (g' := g59_11) (j := 0) (by omega) (d0)).far_ (g' := g59_11) (j := 1) (by omega) (d1)).far_ (g' := g59_11) (j := 2) (by omega) (d2)).far_ (g' := g59_11) (j := 3) (by omega) (d3)
   have k0B : Bx W80 (w.heap.size + 1) 28 [b0, b1, b2, b3, b4, b5, b6, b7] := by rw [hW]; exact ((((kV).far_ (g' := g59_11) (j := 0) (by omega) (d0)).far_ (g' := g59_11) (j := 1) (by omega) (d1)).far_ (g' := g59_11) (j := 2) (by omega) (d2)).far_ (g' := g59_11) (j := 3) (by omega) (d3)
   have k04 : Bx W80 (w.heap.size + 1 + 1) 28 [.bool false, .slice none 0 0, .bool false, .slice none 0 0, .bool false, .slice none 0 0, .bool false, .slice none 0 0] := by rw [hW]; exact ((((kW).far_ (g' := g59_11) (j := 0) (by omega) (d0)).far_ (g' := g59_11) (j := 1) (by omega) (d1)).far_ (g' := g59_11) (j := 2) (by omega) (d2)).far_ (g' := g59_11) (j := 3) (by omega) (d3)
   have k05 : Bx W80 (g18_11) 26 [c0, c1, c2, c3] := by rw [hW]; exact ((((kX).far_ (g' := g59_11) (j := 0) (by omega) (d0)).far_ (g' := g59_11) (j := 1) (by omega) (d1)).far_ (g' := g59_11) (j := 2) (by omega) (d2)).far_ (g' := g59_11) (j := 3) (by omega) (d3)
   have k06 : Bx W80 (g59_11) 26 [d0, d1, d2, d3] := by rw [hW]; exact kx
   clear hW hkp kc kd ke kx
   go_upto_region 3 with fail
   generalize hF : ({ tmps := _, defers := _ } : Act) = F
   have ev5 : F.eval (.tmp 5) = .pointer (some ⟨g18_11, 0, none⟩) := by rw [← hF]; rfl
   have ev6 : F.eval (.tmp 6) = .pointer (some ⟨g59_11, 0, none⟩) := by rw [← hF]; rfl
   have HF := Lib.hid hF; clear hF
   refine wp_flow_tab false rfl 3 [(29, []), (30, []), (31, [0, 1])] [SC (.agg #[c0, c1, c2, c3]), SC (.agg #[d0, d1, d2, d3]), SV (vrot t u)] [false, false, false] (by kernel_rfl) (by kernel_rfl) (by kernel_rfl) (by kernel_rfl) (by kernel_rfl) (by rw [← HF.out]; simp) ⟨SC.mono _, SC.mono _, SV.mono _, trivial⟩ ?_ ?_
   ·intro kq hkq a wx hB hp hs
    have hcase : kq = 0 ∨ kq = 1 ∨ kq = 2 := by omega
    rcases hcase with rfl | rfl | rfl
    ·exact ⟨_, rfl, ld_Rat rfl ((hs 5 rfl).trans ev5) (k05.below hB) rfl rfl rfl rfl⟩
    ·exact ⟨_, rfl, ld_Rat rfl ((hs 6 rfl).trans ev6) (k06.below hB) rfl rfl rfl rfl⟩
    ·obtain ⟨k0, k1, -⟩ := hp
     have e0 : a.eval (.tmp 29) = .agg #[c0, c1, c2, c3] := k0
     have e1 : a.eval (.tmp 30) = .agg #[d0, d1, d2, d3] := k1
     simp [Act.eval] at e0
     simp [Act.eval] at e1
     exact ⟨_, rfl, Does.val (by simp [execOp, Act.eval, e0, e1, go_sem]) ⟨c0, c1, c2, c3, d0, d1, d2, d3, rfl, ⟨(F84.out.kp (.of hB)), (F85.out.kp (.of hB))⟩⟩⟩
   ·intro val wx hB hsp hdis
    obtain ⟨z0, z1, z2, z3, z4, z5, z6, z7, e2, h_z⟩ := hsp 2 (by omega)
    replace e2 : val 2 = .agg #[z0, z1, z2, z3, z4, z5, z6, z7] := e2
    rw [← HF.out]
    change wpList _ _ _ [_] _ _
    simp only [puts, vals, List.map_cons, List.map_nil, List.foldl_cons, List.foldl_nil, if_true, Nat.zero_add, Nat.reduceAdd, e2, List.setIfInBounds_toArray, List.set_cons_succ, List.set_cons_zero]
    clear hsp hdis HF e2
    clear ev5 ev6
    obtain ⟨w92, rfl⟩ : ∃ W : World, W = wx := ⟨_, rfl⟩
    have ky := k04.below hB
    have k07 := Lib.hid (Blw k01.out hB)
    have k08 := Lib.hid h_z
    obtain ⟨o_z0, o_z1, o_z2, o_z3, o_z4, o_z5, o_z6, o_z7⟩ := h_z.ones
    clear h_z
    clear hB
    obtain ⟨k09, k0a, k0b, k0c, k0d, k0e, k0f, k0g, k0C, k0D⟩ := ky.f8
    go_wp2
    have hkp := (Kp.refl w92).t8 (ky) z0 z1 z2 z3 z4 z5 z6 z7
    refine bodyPost_ret (v := .agg #[z0, z1, z2, z3, z4, z5, z6, z7]) (by simp [results, Try.results24, go_sem, k09, k0a, k0b, k0c, k0d, k0e, k0f, k0g]) rfl ⟨_, _, _, _, _, _, _, _, rfl, ?_, bel8 (k07.out) (by first | simp | omega)⟩
    exact k08.out.kp hkp
set_option maxRecDepth 100000 in
theorem vaft5_any (j k : Nat) (a0 a1 a2 a3 a4 a5 a6 a7 b0 b1 b2 b3 b4 b5 b6 b7 : Value) (t : Rat × Rat) (u : Rat × Rat) (w : World) (ha : VecV w a0 a1 a2 a3 a4 a5 a6 a7 t) (hb : VecV w b0 b1 b2 b3 b4 b5 b6 b7 u) (ba : Bv j t) (bb : Bv k u) (hk : 10 * (j + k) + 100 ≤ 800000000000) :
  Calls Try.prog 26 #[.agg #[a0, a1, a2, a3, a4, a5, a6, a7], .agg #[b0, b1, b2, b3, b4, b5, b6, b7]] w (RV (vrot t u) w) := by
 obtain ⟨qa0, qa1, qa2, qa3, qa4, qa5, qa6, qa7⟩ := ha.ones
 obtain ⟨qb0, qb1, qb2, qb3, qb4, qb5, qb6, qb7⟩ := hb.ones
 have Hha := Lib.hid ha; have Hhb := Lib.hid hb; have Hba := Lib.hid ba; have Hbb := Lib.hid bb
 clear ha hb ba bb
 go_enter Try.func26, Try.ntmps26
 go_wp2_with fail
 generalize hW : ((w.alloc _).alloc _).alloc _ = W1
 obtain ⟨kz, kA, kB, hB⟩ := box3 hW
 have k6 := Lib.hid hB; clear hW hB
 have F6 := Lib.hid (Hha.out.kp (.of k6.out))
 have F7 := Lib.hid (Hhb.out.kp (.of k6.out))
 go_upto_region 1 with fail
 generalize hW : W1.drew = W8
 have hB : Below W1.heap.size W1 W8 := by rw [← hW]; exact (Below.refl _ _).drew
 have k2 := kz.below hB
 have k3 := kA.below hB
 have kf := kB.below hB
 have k7 := Lib.hid (F6.out.kp (.of hB))
 have k8 := Lib.hid (F7.out.kp (.of hB))
 have kg := Lib.hid (Blw k6.out hB)
 clear hB
 have l15 := k2.lt
 have l16 := k3.lt
 have l17 := kf.lt
 generalize hF : ({ tmps := _, defers := _ } : Act) = F
 have ev2 : F.eval (.tmp 2) = .pointer (some ⟨w.heap.size, 0, none⟩) := by rw [← hF]; rfl
 have ev3 : F.eval (.tmp 3) = .pointer (some ⟨w.heap.size + 1, 0, none⟩) := by rw [← hF]; rfl
 have HF := Lib.hid hF; clear hF
 refine wp_flow_tab true hW 12 [(7, []), (8, [0]), (9, []), (10, [2]), (11, [1, 3]), (12, []), (13, [5]), (14, []), (15, [7]), (16, [6, 8]), (17, [4, 9]), (5, [])] [SC (.pointer (some ⟨w.heap.size, 0, none⟩)), SC (.agg #[a0, a1, a2, a3]), SC (.pointer (some ⟨w.heap.size + 1, 0, none⟩)), SC (.agg #[b0, b1, b2, b3]), SR (t.1 * u.1), SC (.pointer (some ⟨w.heap.size, 4, none⟩)), SC (.agg #[a4, a5, a6, a7]), SC (.pointer (some ⟨w.heap.size + 1, 4, none⟩)), SC (.agg #[b4, b5, b6, b7]), SR (t.2 * u.2), SR (t.1 * u.1 - t.2 * u.2), SB W8 26 [.bool false, .slice none 0 0, .bool false, .slice none 0 0]] [false, false, false, false, false, false, false, false, false, false, false, true] (by kernel_rfl) (by kernel_rfl) (by kernel_rfl) (by kernel_rfl) (by kernel_rfl) (by rw [← HF.out]; simp) ⟨SC.mono _, SC.mono _, SC.mono _, SC.mono _, SR.mono _, SC.mono _, SC.mono _, SC.mono _, SC.mono _, SR.mono _, SR.mono _, SB.mono _ _ _, trivial⟩ ?_ ?_
 ·intro kq hkq a wx hB hp hs
  have hcase : kq = 0 ∨ kq = 1 ∨ kq = 2 ∨ kq = 3 ∨ kq = 4 ∨ kq = 5 ∨ kq = 6 ∨ kq = 7 ∨ kq = 8 ∨ kq = 9 ∨ kq = 10 ∨ kq = 11 := by omega
  rcases hcase with rfl | rfl | rfl | rfl | rfl | rfl | rfl | rfl | rfl | rfl | rfl | rfl
  ·exact ⟨_, rfl, fa_Turn0 rfl ((hs 2 rfl).trans ev2)⟩
  ·obtain ⟨k0, -⟩ := hp
   exact ⟨_, rfl, ld_Rat rfl k0 (k2.below hB) rfl rfl rfl rfl⟩
  ·exact ⟨_, rfl, fa_Turn0 rfl ((hs 3 rfl).trans ev3)⟩
  ·obtain ⟨k0, -⟩ := hp
   exact ⟨_, rfl, ld_Rat rfl k0 (k3.below hB) rfl rfl rfl rfl⟩
  ·obtain ⟨k0, k1, -⟩ := hp
   exact ⟨_, rfl, Does.rr (f := 60) (call2 rfl (fun _ => by simp [go_sem]) k0 k1) (rmul4_any (j) (k) a0 a1 a2 a3 b0 b1 b2 b3 (t.1) (u.1) wx ((k7.out.kp (.of hB))).1 ((k8.out.kp (.of hB))).1 Hba.out.1 Hbb.out.1 (by omega))⟩
  ·exact ⟨_, rfl, fa_Turn1 rfl ((hs 2 rfl).trans ev2)⟩
  ·obtain ⟨k0, -⟩ := hp
   exact ⟨_, rfl, ld_Rat rfl k0 (k2.below hB) rfl rfl rfl rfl⟩
  ·exact ⟨_, rfl, fa_Turn1 rfl ((hs 3 rfl).trans ev3)⟩
  ·obtain ⟨k0, -⟩ := hp
   exact ⟨_, rfl, ld_Rat rfl k0 (k3.below hB) rfl rfl rfl rfl⟩
  ·obtain ⟨k0, k1, -⟩ := hp
   exact ⟨_, rfl, Does.rr (f := 60) (call2 rfl (fun _ => by simp [go_sem]) k0 k1) (rmul4_any (j) (k) a4 a5 a6 a7 b4 b5 b6 b7 (t.2) (u.2) wx ((k7.out.kp (.of hB))).2 ((k8.out.kp (.of hB))).2 Hba.out.2 Hbb.out.2 (by omega))⟩
  ·obtain ⟨k0, k1, -⟩ := hp
   obtain ⟨x0, x1, x2, x3, e0, h_x⟩ := k0
   replace e0 : a.eval (.tmp 11) = .agg #[x0, x1, x2, x3] := e0
   obtain ⟨y0, y1, y2, y3, e1, h_y⟩ := k1
   replace e1 : a.eval (.tmp 16) = .agg #[y0, y1, y2, y3] := e1
   exact ⟨_, rfl, Does.rr (f := 61) (call2 rfl (fun _ => by simp [go_sem]) e0 e1) (rsub4_any (j + k) (j + k) x0 x1 x2 x3 y0 y1 y2 y3 (t.1 * u.1) (t.2 * u.2) wx h_x h_y (Hba.out.1.mul Hbb.out.1) (Hba.out.2.mul Hbb.out.2) (by omega))⟩
  ·clear hp
   exact ⟨_, rfl, Does.box (by simp [execOp, go_sem]) hB⟩
 ·intro val wx hB hsp hdis
  obtain ⟨c0, c1, c2, c3, e10, h_c⟩ := hsp 10 (by omega)
  replace e10 : val 10 = .agg #[c0, c1, c2, c3] := e10
  obtain ⟨g18_11, e11, hg18_11, hbx18_11⟩ := hsp 11 (by omega)
  have hgw18_11 : w.heap.size ≤ g18_11 := Nat.le_trans kg.out.size hg18_11
  have hgl18_11 := hbx18_11.lt
  rw [← HF.out]
  change wpList _ _ _ [_] _ _
  simp only [puts, vals, List.map_cons, List.map_nil, List.foldl_cons, List.foldl_nil, if_true, Nat.zero_add, Nat.reduceAdd, e10, e11, List.setIfInBounds_toArray, List.set_cons_succ, List.set_cons_zero]
  clear hsp hdis HF e10 e11
  clear ev2 ev3
  obtain ⟨w19, rfl⟩ : ∃ W : World, W = wx := ⟨_, rfl⟩
  have kE := k2.below hB
  have kF := k3.below hB
  have kG := kf.below hB
  have kH := Lib.hid (k7.out.kp (.of hB))
  have kI := Lib.hid (k8.out.kp (.of hB))
  have kJ := Lib.hid (Blw kg.out hB)
  have kK := Lib.hid h_c
  obtain ⟨o_c0, o_c1, o_c2, o_c3⟩ := h_c.ones
  clear h_c
  clear hB
  obtain ⟨k0k, k0l, k0m, k0n, k0o, l32⟩ := hbx18_11.f4
  go_wp2_with fail
  have k9 := (hbx18_11).set_ 0 (c0)
  have ka := (k9).set_ 1 (c1)
  have kb := (ka).set_ 2 (c2)
  have kl := (kb).set_ 3 (c3)
  have hkp : Kp w19 ((((w19.setCell ⟨g18_11, 0, none⟩ (c0)).setCell ⟨g18_11, 1, none⟩ (c1)).setCell ⟨g18_11, 2, none⟩ (c2)).setCell ⟨g18_11, 3, none⟩ (c3)) := ((((Kp.refl _).set_ (hbx18_11) (by decide) _).set_ (k9) (by decide) _).set_ (ka) (by decide) _).set_ (kb) (by decide) _
  obtain ⟨W37, hW⟩ : ∃ W, W = (((w19.setCell ⟨g18_11, 0, none⟩ (c0)).setCell ⟨g18_11, 1, none⟩ (c1)).setCell ⟨g18_11, 2, none⟩ (c2)).setCell ⟨g18_11, 3, none⟩ (c3) := ⟨_, rfl⟩
  rw [← hW]
  rw [← hW] at hkp
  have hB : Below w.heap.size w W37 := by rw [hW]; exact bel4 (kJ.out) (by first | simp | omega)
  have kL := Lib.hid hB; clear hB
  have kM := Lib.hid (kH.out.kp hkp)
  have kN := Lib.hid (kI.out.kp hkp)
  have kO := Lib.hid (kK.out.kp hkp)
  have kP : Bx W37 (w.heap.size) 31 [a0, a1, a2, a3, a4, a5, a6, a7] := by rw [hW]; exact ((((kE).far_ (g' := g18_11) (j := 0) (by omega) (c0)).far_ (g' := g18_11) (j := 1) (by omega) (c1)).far_ (g' := g18_11) (j := 2) (by omega) (c2)).far_ (g' := g18_11) (j := 3) (by omega) (c3)
  have kQ : Bx W37 (w.heap.size + 1) 31 [b0, b1, b2, b3, b4, b5, b6, b7] := by rw [hW]; exact ((((kF).far_ (g' := g18_11) (j := 0) (by omega) (c0)).far_ (g' := g18_11) (j := 1) (by omega) (c1)).far_ (g' := g18_11) (j := 2) (by omega) (c2)).far_ (g' := g18_11) (j := 3) (by omega) (c3)
  have kR : Bx W37 (w.heap.size + 1 + 1) 31 [.bool false, .slice none 0 0, .bool false, .slice none 0 0, .bool false, .slice none 0 0, .bool false, .slice none 0 0] := by rw [hW]; exact ((((kG).far_ (g' := g18_11) (j := 0) (by omega) (c0)).far_ (g' := g18_11) (j := 1) (by omega) (c1)).far_ (g' := g18_11) (j := 2) (by omega) (c2)).far_ (g' := g18_11) (j := 3) (by omega) (c3)
  have kS : Bx W37 (g18_11) 26 [c0, c1, c2, c3] := by rw [hW]; exact kl
  clear hW hkp k9 ka kb kl
  go_upto_region 2 with fail
  generalize hW : W37.drew = W46
  have hB : Below W37.heap.size W37 W46 := by rw [← hW]; exact (Below.refl _ _).drew
  have k4 := kP.below hB
  have k5 := kQ.below hB
  have km := kR.below hB
  have kn := kS.below hB
  have ko := Lib.hid (kM.out.kp (.of hB))
  have kr := Lib.hid (kN.out.kp (.of hB))
  have kT := Lib.hid (kO.out.kp (.of hB))
  have ks := Lib.hid (Blw kL.out hB)
  clear hB
  have l55 := k4.lt
  have l56 := k5.lt
  have l57 := km.lt
  have l58 := kn.lt
  generalize hF : ({ tmps := _, defers := _ } : Act) = F
  have ev2 : F.eval (.tmp 2) = .pointer (some ⟨w.heap.size, 0, none⟩) := by rw [← hF]; rfl
  have ev3 : F.eval (.tmp 3) = .pointer (some ⟨w.heap.size + 1, 0, none⟩) := by rw [← hF]; rfl
  have HF := Lib.hid hF; clear hF
  refine wp_flow_tab true hW 12 [(18, []), (19, [0]), (20, []), (21, [2]), (22, [1, 3]), (23, []), (24, [5]), (25, []), (26, [7]), (27, [6, 8]), (28, [4, 9]), (6, [])] [SC (.pointer (some ⟨w.heap.size, 4, none⟩)), SC (.agg #[a4, a5, a6, a7]), SC (.pointer (some ⟨w.heap.size + 1, 0, none⟩)), SC (.agg #[b0, b1, b2, b3]), SR (t.2 * u.1), SC (.pointer (some ⟨w.heap.size, 0, none⟩)), SC (.agg #[a0, a1, a2, a3]), SC (.pointer (some ⟨w.heap.size + 1, 4, none⟩)), SC (.agg #[b4, b5, b6, b7]), SR (t.1 * u.2), SR (t.2 * u.1 + t.1 * u.2), SB W46 26 [.bool false, .slice none 0 0, .bool false, .slice none 0 0]] [false, false, false, false, false, false, false, false, false, false, false, true] (by kernel_rfl) (by kernel_rfl) (by kernel_rfl) (by kernel_rfl) (by kernel_rfl) (by rw [← HF.out]; simp) ⟨SC.mono _, SC.mono _, SC.mono _, SC.mono _, SR.mono _, SC.mono _, SC.mono _, SC.mono _, SC.mono _, SR.mono _, SR.mono _, SB.mono _ _ _, trivial⟩ ?_ ?_
  ·intro kq hkq a wx hB hp hs
   have hcase : kq = 0 ∨ kq = 1 ∨ kq = 2 ∨ kq = 3 ∨ kq = 4 ∨ kq = 5 ∨ kq = 6 ∨ kq = 7 ∨ kq = 8 ∨ kq = 9 ∨ kq = 10 ∨ kq = 11 := by omega
   rcases hcase with rfl | rfl | rfl | rfl | rfl | rfl | rfl | rfl | rfl | rfl | rfl | rfl
   ·exact ⟨_, rfl, fa_Turn1 rfl ((hs 2 rfl).trans ev2)⟩
   ·obtain ⟨k0, -⟩ := hp
    exact ⟨_, rfl, ld_Rat rfl k0 (k4.below hB) rfl rfl rfl rfl⟩
   ·exact ⟨_, rfl, fa_Turn0 rfl ((hs 3 rfl).trans ev3)⟩
   ·obtain ⟨k0, -⟩ := hp
    exact ⟨_, rfl, ld_Rat rfl k0 (k5.below hB) rfl rfl rfl rfl⟩
   ·obtain ⟨k0, k1, -⟩ := hp
    exact ⟨_, rfl, Does.rr (f := 60) (call2 rfl (fun _ => by simp [go_sem]) k0 k1) (rmul4_any (j) (k) a4 a5 a6 a7 b0 b1 b2 b3 (t.2) (u.1) wx ((ko.out.kp (.of hB))).2 ((kr.out.kp (.of hB))).1 Hba.out.2 Hbb.out.1 (by omega))⟩
   ·exact ⟨_, rfl, fa_Turn0 rfl ((hs 2 rfl).trans ev2)⟩
   ·obtain ⟨k0, -⟩ := hp
    exact ⟨_, rfl, ld_Rat rfl k0 (k4.below hB) rfl rfl rfl rfl⟩
   ·exact ⟨_, rfl, fa_Turn1 rfl ((hs 3 rfl).trans ev3)⟩
   ·obtain ⟨k0, -⟩ := hp
    exact ⟨_, rfl, ld_Rat rfl k0 (k5.below hB) rfl rfl rfl rfl⟩
   ·obtain ⟨k0, k1, -⟩ := hp
    exact ⟨_, rfl, Does.rr (f := 60) (call2 rfl (fun _ => by simp [go_sem]) k0 k1) (rmul4_any (j) (k) a0 a1 a2 a3 b4 b5 b6 b7 (t.1) (u.2) wx ((ko.out.kp (.of hB))).1 ((kr.out.kp (.of hB))).2 Hba.out.1 Hbb.out.2 (by omega))⟩
   ·obtain ⟨k0, k1, -⟩ := hp
    obtain ⟨m0, m1, m2, m3, e0, h_m⟩ := k0
    replace e0 : a.eval (.tmp 22) = .agg #[m0, m1, m2, m3] := e0
    obtain ⟨l0, l1, l2, l3, e1, h_l⟩ := k1
    replace e1 : a.eval (.tmp 27) = .agg #[l0, l1, l2, l3] := e1
    exact ⟨_, rfl, Does.rr (f := 59) (call2 rfl (fun _ => by simp [go_sem]) e0 e1) (radd4_any (j + k) (j + k) m0 m1 m2 m3 l0 l1 l2 l3 (t.2 * u.1) (t.1 * u.2) wx h_m h_l (Hba.out.2.mul Hbb.out.1) (Hba.out.1.mul Hbb.out.2) (by omega))⟩
   ·clear hp
    exact ⟨_, rfl, Does.box (by simp [execOp, go_sem]) hB⟩
  ·intro val wx hB hsp hdis
   obtain ⟨d0, d1, d2, d3, e10, h_d⟩ := hsp 10 (by omega)
   replace e10 : val 10 = .agg #[d0, d1, d2, d3] := e10
   obtain ⟨g59_11, e11, hg59_11, hbx59_11⟩ := hsp 11 (by omega)
   have hgw59_11 : w.heap.size ≤ g59_11 := Nat.le_trans ks.out.size hg59_11
   have hgl59_11 := hbx59_11.lt
   rw [← HF.out]
   change wpList _ _ _ [_] _ _
   simp only [puts, vals, List.map_cons, List.map_nil, List.foldl_cons, List.foldl_nil, if_true, Nat.zero_add, Nat.reduceAdd, e10, e11, List.setIfInBounds_toArray, List.set_cons_succ, List.set_cons_zero]
   clear hsp hdis HF e10 e11
   clear ev2 ev3
   obtain ⟨w60, rfl⟩ : ∃ W : World, W = wx := ⟨_, rfl⟩
   have kU := k4.below hB
   have kV := k5.below hB
   have kW := km.below hB
   have kX := kn.below hB
   have kY := Lib.hid (kT.out.kp (.of hB))
   have kZ := Lib.hid (Blw ks.out hB)
   have F69 := Lib.hid h_d
   obtain ⟨o_d0, o_d1, o_d2, o_d3⟩ := h_d.ones
   clear h_d
   clear hB
   obtain ⟨k0u, k0v, k0w, k0x, k0y, l75⟩ := hbx59_11.f4
   go_upto_region 3 with fail
   have kc := (hbx59_11).set_ 0 (d0)
   have kd := (kc).set_ 1 (d1)
   have ke := (kd).set_ 2 (d2)
   have kx := (ke).set_ 3 (d3)
   have hkp : Kp w60 ((((w60.setCell ⟨g59_11, 0, none⟩ (d0)).setCell ⟨g59_11, 1, none⟩ (d1)).setCell ⟨g59_11, 2, none⟩ (d2)).setCell ⟨g59_11, 3, none⟩ (d3)) := ((((Kp.refl _).set_ (hbx59_11) (by decide) _).set_ (kc) (by decide) _).set_ (kd) (by decide) _).set_ (ke) (by decide) _
   obtain ⟨W80, hW⟩ : ∃ W, W = (((w60.setCell ⟨g59_11, 0, none⟩ (d0)).setCell ⟨g59_11, 1, none⟩ (d1)).setCell ⟨g59_11, 2, none⟩ (d2)).setCell ⟨g59_11, 3, none⟩ (d3) := ⟨_, rfl⟩
   rw [← hW]
   rw [← hW] at hkp
   have hB : Below w.heap.size w W80 := by rw [hW]; exact bel4 (kZ.out) (by first | simp | omega)
   have k01 := Lib.hid hB; clear hB
   have F84 := Lib.hid (kY.out.kp hkp)
   have F85 := Lib.hid (F69.out.kp hkp)
   have k0A : Bx W80 (w.heap.size) 31 [a0, a1, a2, a3, a4, a5, a6, a7] := by rw [hW]; exact ((((kU).far_ (g' := g59_11) (j := 0) (by omega) (d0)).far_ (g' := g59_11) (j := 1) (by omega) (d1)).far_ (g' := g59_11) (j := 2) (by omega) (d2)).far_ (g' := g59_11) (j := 3) (by omega) (d3)
   have k0B : Bx W80 (w.heap.size + 1) 31 [b0, b1, b2, b3, b4, b5, b6, b7] := by rw [hW]; exact ((((kV).far_ (g' := g59_11) (j := 0) (by omega) (d0)).far_ (g' := g59_11) (j := 1) (by omega) (d1)).far_ (g' := g59_11) (j := 2) (by omega) (d2)).far_ (g' := g59_11) (j := 3) (by omega) (d3)
   have k04 : Bx W80 (w.heap.size + 1 + 1) 31 [.bool false, .slice none 0 0, .bool false, .slice none 0 0, .bool false, .slice none 0 0, .bool false, .slice none 0 0] := by rw [hW]; exact ((((kW).far_ (g' := g59_11) (j := 0) (by omega) (d0)).far_ (g' := g59_11) (j := 1) (by omega) (d1)).far_ (g' := g59_11) (j := 2) (by omega) (d2)).far_ (g' := g59_11) (j := 3) (by omega) (d3)
   have k05 : Bx W80 (g18_11) 26 [c0, c1, c2, c3] := by rw [hW]; exact ((((kX).far_ (g' := g59_11) (j := 0) (by omega) (d0)).far_ (g' := g59_11) (j := 1) (by omega) (d1)).far_ (g' := g59_11) (j := 2) (by omega) (d2)).far_ (g' := g59_11) (j := 3) (by omega) (d3)
   have k06 : Bx W80 (g59_11) 26 [d0, d1, d2, d3] := by rw [hW]; exact kx
   clear hW hkp kc kd ke kx
   go_upto_region 3 with fail
   generalize hF : ({ tmps := _, defers := _ } : Act) = F
   have ev5 : F.eval (.tmp 5) = .pointer (some ⟨g18_11, 0, none⟩) := by rw [← hF]; rfl
   have ev6 : F.eval (.tmp 6) = .pointer (some ⟨g59_11, 0, none⟩) := by rw [← hF]; rfl
   have HF := Lib.hid hF; clear hF
   refine wp_flow_tab false rfl 3 [(29, []), (30, []), (31, [0, 1])] [SC (.agg #[c0, c1, c2, c3]), SC (.agg #[d0, d1, d2, d3]), SV (vrot t u)] [false, false, false] (by kernel_rfl) (by kernel_rfl) (by kernel_rfl) (by kernel_rfl) (by kernel_rfl) (by rw [← HF.out]; simp) ⟨SC.mono _, SC.mono _, SV.mono _, trivial⟩ ?_ ?_
   ·intro kq hkq a wx hB hp hs
    have hcase : kq = 0 ∨ kq = 1 ∨ kq = 2 := by omega
    rcases hcase with rfl | rfl | rfl
    ·exact ⟨_, rfl, ld_Rat rfl ((hs 5 rfl).trans ev5) (k05.below hB) rfl rfl rfl rfl⟩
    ·exact ⟨_, rfl, ld_Rat rfl ((hs 6 rfl).trans ev6) (k06.below hB) rfl rfl rfl rfl⟩
    ·obtain ⟨k0, k1, -⟩ := hp
     have e0 : a.eval (.tmp 29) = .agg #[c0, c1, c2, c3] := k0
     have e1 : a.eval (.tmp 30) = .agg #[d0, d1, d2, d3] := k1
     simp [Act.eval] at e0
     simp [Act.eval] at e1
     exact ⟨_, rfl, Does.val (by simp [execOp, Act.eval, e0, e1, go_sem]) ⟨c0, c1, c2, c3, d0, d1, d2, d3, rfl, ⟨(F84.out.kp (.of hB)), (F85.out.kp (.of hB))⟩⟩⟩
   ·intro val wx hB hsp hdis
    obtain ⟨z0, z1, z2, z3, z4, z5, z6, z7, e2, h_z⟩ := hsp 2 (by omega)
    replace e2 : val 2 = .agg #[z0, z1, z2, z3, z4, z5, z6, z7] := e2
    rw [← HF.out]
    change wpList _ _ _ [_] _ _
    simp only [puts, vals, List.map_cons, List.map_nil, List.foldl_cons, List.foldl_nil, if_true, Nat.zero_add, Nat.reduceAdd, e2, List.setIfInBounds_toArray, List.set_cons_succ, List.set_cons_zero]
    clear hsp hdis HF e2
    clear ev5 ev6
    obtain ⟨w92, rfl⟩ : ∃ W : World, W = wx := ⟨_, rfl⟩
    have ky := k04.below hB
    have k07 := Lib.hid (Blw k01.out hB)
    have k08 := Lib.hid h_z
    obtain ⟨o_z0, o_z1, o_z2, o_z3, o_z4, o_z5, o_z6, o_z7⟩ := h_z.ones
    clear h_z
    clear hB
    obtain ⟨k09, k0a, k0b, k0c, k0d, k0e, k0f, k0g, k0C, k0D⟩ := ky.f8
    go_wp2
    have hkp := (Kp.refl w92).t8 (ky) z0 z1 z2 z3 z4 z5 z6 z7
    refine bodyPost_ret (v := .agg #[z0, z1, z2, z3, z4, z5, z6, z7]) (by simp [results, Try.results26, go_sem, k09, k0a, k0b, k0c, k0d, k0e, k0f, k0g]) rfl ⟨_, _, _, _, _, _, _, _, rfl, ?_, bel8 (k07.out) (by first | simp | omega)⟩
    exact k08.out.kp hkp
end Go.Proofs.Ytonkbckgbfcnkaa
