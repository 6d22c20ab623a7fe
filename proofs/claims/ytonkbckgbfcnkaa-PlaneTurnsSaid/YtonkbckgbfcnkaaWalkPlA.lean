/-
 THE WALKS of package plane: Add, Sub, Scale, Back, Dot, Cross, Rotate, After.
-/
import Derived.Test.YtonkbckgbfcnkaaWalkSum
import Derived.Test.YtonkbckgbfcnkaaWalkRSub
import Derived.Deep.DeepCutAuto
namespace Go.Proofs.Ytonkbckgbfcnkaa
set_option maxHeartbeats 4000000
open Go.RowKit
attribute [local go_sem] run_store_one
set_option linter.unusedVariables false
theorem Bv.add {j k : Nat} {v u : Rat × Rat} (h : Bv j v) (g : Bv k u) : Bv (j + k + 1) (vadd v u) := ⟨h.1.add g.1, h.2.add g.2⟩
theorem Bv.sub {j k : Nat} {v u : Rat × Rat} (h : Bv j v) (g : Bv k u) : Bv (j + k + 1) (vsub v u) := ⟨h.1.sub g.1, h.2.sub g.2⟩
theorem Bv.sca {j k : Nat} {v : Rat × Rat} {r : Rat} (h : Bv j v) (g : Bq k r) : Bv (j + k) (vsca v r) := ⟨h.1.mul g, h.2.mul g⟩
theorem Bv.dot {j k : Nat} {v u : Rat × Rat} (h : Bv j v) (g : Bv k u) : Bq (2 * (j + k) + 1) (vdot v u) := ((h.1.mul g.1).add (h.2.mul g.2)).mono (by omega)
theorem Bv.crs {j k : Nat} {v u : Rat × Rat} (h : Bv j v) (g : Bv k u) : Bq (2 * (j + k) + 1) (vcrs v u) := ((h.1.mul g.2).sub (h.2.mul g.1)).mono (by omega)
theorem Bv.rot {j k : Nat} {t a : Rat × Rat} (h : Bv j t) (g : Bv k a) : Bv (2 * (j + k) + 1) (vrot t a) := ⟨((h.1.mul g.1).sub (h.2.mul g.2)).mono (by omega), ((h.2.mul g.1).add (h.1.mul g.2)).mono (by omega)⟩
theorem Bv.bak {k : Nat} {t : Rat × Rat} (h : Bv k t) : Bv k (vbak t) := ⟨h.1, h.2.neg⟩
theorem two_bits {k : Nat} {r t : Rat} (h : Bq k r) (g : Bq k t) : ∀ (i : Nat) (q : Rat), [r, t][i]? = some q → Bq k q := by
 intro i q hq
 match i, hq with
 | 0, hq => injection hq with hq; subst hq; exact h
 | 1, hq => injection hq with hq; subst hq; exact g
 | i + 2, hq => simp at hq
set_option maxRecDepth 100000 in
theorem vadd_any (j k : Nat) (a0 a1 a2 a3 a4 a5 a6 a7 b0 b1 b2 b3 b4 b5 b6 b7 : Value) (v : Rat × Rat) (u : Rat × Rat) (w : World) (ha : VecV w a0 a1 a2 a3 a4 a5 a6 a7 v) (hb : VecV w b0 b1 b2 b3 b4 b5 b6 b7 u) (ba : Bv j v) (bb : Bv k u) (hk : 10 * (j + k) + 100 ≤ 800000000000) :
  Calls Try.prog 31 #[.agg #[a0, a1, a2, a3, a4, a5, a6, a7], .agg #[b0, b1, b2, b3, b4, b5, b6, b7]] w (RV (vadd v u) w) := by
 obtain ⟨qa0, qa1, qa2, qa3, qa4, qa5, qa6, qa7⟩ := ha.ones
 obtain ⟨qb0, qb1, qb2, qb3, qb4, qb5, qb6, qb7⟩ := hb.ones
 have Hha := Lib.hid ha; have Hhb := Lib.hid hb; have Hba := Lib.hid ba; have Hbb := Lib.hid bb
 clear ha hb ba bb
 go_enter Try.func31, Try.ntmps31
 go_wp2_with fail
 generalize hW : ((w.alloc _).alloc _).alloc _ = W1
 obtain ⟨kc, kd, ke, hB⟩ := box3 hW
 have k2 := Lib.hid hB; clear hW hB
 have F6 := Lib.hid (Hha.out.kp (.of k2.out))
 have F7 := Lib.hid (Hhb.out.kp (.of k2.out))
 go_upto_region 1 with fail
 generalize hW : W1.drew = W8
 have hB : Below W1.heap.size W1 W8 := by rw [← hW]; exact (Below.refl _ _).drew
 have k3 := kc.below hB
 have k4 := kd.below hB
 have kh := ke.below hB
 have k5 := Lib.hid (F6.out.kp (.of hB))
 have k6 := Lib.hid (F7.out.kp (.of hB))
 have ki := Lib.hid (Blw k2.out hB)
 clear hB
 generalize hF : ({ tmps := _, defers := _ } : Act) = F
 have ev2 : F.eval (.tmp 2) = .pointer (some ⟨w.heap.size, 0, none⟩) := by rw [← hF]; rfl
 have ev3 : F.eval (.tmp 3) = .pointer (some ⟨w.heap.size + 1, 0, none⟩) := by rw [← hF]; rfl
 have HF := Lib.hid hF; clear hF
 refine wp_flow_tab true hW 11 [(5, []), (6, [0]), (7, []), (8, [2]), (9, [1, 3]), (10, []), (11, [5]), (12, []), (13, [7]), (14, [6, 8]), (15, [4, 9])] [SC (.pointer (some ⟨w.heap.size, 0, none⟩)), SC (.agg #[a0, a1, a2, a3]), SC (.pointer (some ⟨w.heap.size + 1, 0, none⟩)), SC (.agg #[b0, b1, b2, b3]), SR (v.1 + u.1), SC (.pointer (some ⟨w.heap.size, 4, none⟩)), SC (.agg #[a4, a5, a6, a7]), SC (.pointer (some ⟨w.heap.size + 1, 4, none⟩)), SC (.agg #[b4, b5, b6, b7]), SR (v.2 + u.2), SV (vadd v u)] [false, false, false, false, false, false, false, false, false, false, false] (by kernel_rfl) (by kernel_rfl) (by kernel_rfl) (by kernel_rfl) (by kernel_rfl) (by rw [← HF.out]; simp) ⟨SC.mono _, SC.mono _, SC.mono _, SC.mono _, SR.mono _, SC.mono _, SC.mono _, SC.mono _, SC.mono _, SR.mono _, SV.mono _, trivial⟩ ?_ ?_
 ·intro kq hkq a wx hB hp hs
  have hcase : kq = 0 ∨ kq = 1 ∨ kq = 2 ∨ kq = 3 ∨ kq = 4 ∨ kq = 5 ∨ kq = 6 ∨ kq = 7 ∨ kq = 8 ∨ kq = 9 ∨ kq = 10 := by omega
  rcases hcase with rfl | rfl | rfl | rfl | rfl | rfl | rfl | rfl | rfl | rfl | rfl
  ·exact ⟨_, rfl, fa_Vec0 rfl ((hs 2 rfl).trans ev2)⟩
  ·obtain ⟨k0, -⟩ := hp
   exact ⟨_, rfl, ld_Rat rfl k0 (k3.below hB) rfl rfl rfl rfl⟩
  ·exact ⟨_, rfl, fa_Vec0 rfl ((hs 3 rfl).trans ev3)⟩
  ·obtain ⟨k0, -⟩ := hp
   exact ⟨_, rfl, ld_Rat rfl k0 (k4.below hB) rfl rfl rfl rfl⟩
  ·obtain ⟨k0, k1, -⟩ := hp
   exact ⟨_, rfl, Does.rr (f := 64) (call2 rfl (fun _ => by simp [go_sem]) k0 k1) (radd_any (j) (k) a0 a1 a2 a3 b0 b1 b2 b3 (v.1) (u.1) wx ((k5.out.kp (.of hB))).1 ((k6.out.kp (.of hB))).1 Hba.out.1 Hbb.out.1 (by omega))⟩
  ·exact ⟨_, rfl, fa_Vec1 rfl ((hs 2 rfl).trans ev2)⟩
  ·obtain ⟨k0, -⟩ := hp
   exact ⟨_, rfl, ld_Rat rfl k0 (k3.below hB) rfl rfl rfl rfl⟩
  ·exact ⟨_, rfl, fa_Vec1 rfl ((hs 3 rfl).trans ev3)⟩
  ·obtain ⟨k0, -⟩ := hp
   exact ⟨_, rfl, ld_Rat rfl k0 (k4.below hB) rfl rfl rfl rfl⟩
  ·obtain ⟨k0, k1, -⟩ := hp
   exact ⟨_, rfl, Does.rr (f := 64) (call2 rfl (fun _ => by simp [go_sem]) k0 k1) (radd_any (j) (k) a4 a5 a6 a7 b4 b5 b6 b7 (v.2) (u.2) wx ((k5.out.kp (.of hB))).2 ((k6.out.kp (.of hB))).2 Hba.out.2 Hbb.out.2 (by omega))⟩
  ·obtain ⟨k0, k1, -⟩ := hp
   obtain ⟨x0, x1, x2, x3, e0, h_x⟩ := k0
   replace e0 : a.eval (.tmp 9) = .agg #[x0, x1, x2, x3] := e0
   obtain ⟨y0, y1, y2, y3, e1, h_y⟩ := k1
   replace e1 : a.eval (.tmp 14) = .agg #[y0, y1, y2, y3] := e1
   simp [Act.eval] at e0
   simp [Act.eval] at e1
   exact ⟨_, rfl, Does.val (by simp [execOp, Act.eval, e0, e1, go_sem]) ⟨x0, x1, x2, x3, y0, y1, y2, y3, rfl, ⟨h_x, h_y⟩⟩⟩
 ·intro val wx hB hsp hdis
  obtain ⟨z0, z1, z2, z3, z4, z5, z6, z7, e10, h_z⟩ := hsp 10 (by omega)
  replace e10 : val 10 = .agg #[z0, z1, z2, z3, z4, z5, z6, z7] := e10
  rw [← HF.out]
  change wpList _ _ _ [_] _ _
  simp only [puts, vals, List.map_cons, List.map_nil, List.foldl_cons, List.foldl_nil, if_true, Nat.zero_add, Nat.reduceAdd, e10, List.setIfInBounds_toArray, List.set_cons_succ, List.set_cons_zero]
  clear hsp hdis HF e10
  clear ev2 ev3
  obtain ⟨w16, rfl⟩ : ∃ W : World, W = wx := ⟨_, rfl⟩
  have kb := kh.below hB
  have kj := Lib.hid (Blw ki.out hB)
  have kk := Lib.hid h_z
  obtain ⟨o_z0, o_z1, o_z2, o_z3, o_z4, o_z5, o_z6, o_z7⟩ := h_z.ones
  clear h_z
  clear hB
  obtain ⟨kl, km, kn, ko, kr, ks, kt, ku, kv, kw⟩ := kb.f8
  go_wp2
  have hkp := (Kp.refl w16).t8 (kb) z0 z1 z2 z3 z4 z5 z6 z7
  refine bodyPost_ret (v := .agg #[z0, z1, z2, z3, z4, z5, z6, z7]) (by simp [results, Try.results31, go_sem, kl, km, kn, ko, kr, ks, kt, ku]) rfl ⟨_, _, _, _, _, _, _, _, rfl, ?_, bel8 (kj.out) (by first | simp | omega)⟩
  exact kk.out.kp hkp
set_option maxRecDepth 100000 in
theorem vsub_any (j k : Nat) (a0 a1 a2 a3 a4 a5 a6 a7 b0 b1 b2 b3 b4 b5 b6 b7 : Value) (v : Rat × Rat) (u : Rat × Rat) (w : World) (ha : VecV w a0 a1 a2 a3 a4 a5 a6 a7 v) (hb : VecV w b0 b1 b2 b3 b4 b5 b6 b7 u) (ba : Bv j v) (bb : Bv k u) (hk : 10 * (j + k) + 100 ≤ 800000000000) :
  Calls Try.prog 33 #[.agg #[a0, a1, a2, a3, a4, a5, a6, a7], .agg #[b0, b1, b2, b3, b4, b5, b6, b7]] w (RV (vsub v u) w) := by
 obtain ⟨qa0, qa1, qa2, qa3, qa4, qa5, qa6, qa7⟩ := ha.ones
 obtain ⟨qb0, qb1, qb2, qb3, qb4, qb5, qb6, qb7⟩ := hb.ones
 have Hha := Lib.hid ha; have Hhb := Lib.hid hb; have Hba := Lib.hid ba; have Hbb := Lib.hid bb
 clear ha hb ba bb
 go_enter Try.func33, Try.ntmps33
 go_wp2_with fail
 generalize hW : ((w.alloc _).alloc _).alloc _ = W1
 obtain ⟨kc, kd, ke, hB⟩ := box3 hW
 have k2 := Lib.hid hB; clear hW hB
 have F6 := Lib.hid (Hha.out.kp (.of k2.out))
 have F7 := Lib.hid (Hhb.out.kp (.of k2.out))
 go_upto_region 1 with fail
 generalize hW : W1.drew = W8
 have hB : Below W1.heap.size W1 W8 := by rw [← hW]; exact (Below.refl _ _).drew
 have k3 := kc.below hB
 have k4 := kd.below hB
 have kh := ke.below hB
 have k5 := Lib.hid (F6.out.kp (.of hB))
 have k6 := Lib.hid (F7.out.kp (.of hB))
 have ki := Lib.hid (Blw k2.out hB)
 clear hB
 generalize hF : ({ tmps := _, defers := _ } : Act) = F
 have ev2 : F.eval (.tmp 2) = .pointer (some ⟨w.heap.size, 0, none⟩) := by rw [← hF]; rfl
 have ev3 : F.eval (.tmp 3) = .pointer (some ⟨w.heap.size + 1, 0, none⟩) := by rw [← hF]; rfl
 have HF := Lib.hid hF; clear hF
 refine wp_flow_tab true hW 11 [(5, []), (6, [0]), (7, []), (8, [2]), (9, [1, 3]), (10, []), (11, [5]), (12, []), (13, [7]), (14, [6, 8]), (15, [4, 9])] [SC (.pointer (some ⟨w.heap.size, 0, none⟩)), SC (.agg #[a0, a1, a2, a3]), SC (.pointer (some ⟨w.heap.size + 1, 0, none⟩)), SC (.agg #[b0, b1, b2, b3]), SR (v.1 - u.1), SC (.pointer (some ⟨w.heap.size, 4, none⟩)), SC (.agg #[a4, a5, a6, a7]), SC (.pointer (some ⟨w.heap.size + 1, 4, none⟩)), SC (.agg #[b4, b5, b6, b7]), SR (v.2 - u.2), SV (vsub v u)] [false, false, false, false, false, false, false, false, false, false, false] (by kernel_rfl) (by kernel_rfl) (by kernel_rfl) (by kernel_rfl) (by kernel_rfl) (by rw [← HF.out]; simp) ⟨SC.mono _, SC.mono _, SC.mono _, SC.mono _, SR.mono _, SC.mono _, SC.mono _, SC.mono _, SC.mono _, SR.mono _, SV.mono _, trivial⟩ ?_ ?_
 ·intro kq hkq a wx hB hp hs
  have hcase : kq = 0 ∨ kq = 1 ∨ kq = 2 ∨ kq = 3 ∨ kq = 4 ∨ kq = 5 ∨ kq = 6 ∨ kq = 7 ∨ kq = 8 ∨ kq = 9 ∨ kq = 10 := by omega
  rcases hcase with rfl | rfl | rfl | rfl | rfl | rfl | rfl | rfl | rfl | rfl | rfl
  ·exact ⟨_, rfl, fa_Vec0 rfl ((hs 2 rfl).trans ev2)⟩
  ·obtain ⟨k0, -⟩ := hp
   exact ⟨_, rfl, ld_Rat rfl k0 (k3.below hB) rfl rfl rfl rfl⟩
  ·exact ⟨_, rfl, fa_Vec0 rfl ((hs 3 rfl).trans ev3)⟩
  ·obtain ⟨k0, -⟩ := hp
   exact ⟨_, rfl, ld_Rat rfl k0 (k4.below hB) rfl rfl rfl rfl⟩
  ·obtain ⟨k0, k1, -⟩ := hp
   exact ⟨_, rfl, Does.rr (f := 65) (call2 rfl (fun _ => by simp [go_sem]) k0 k1) (rsub_any (j) (k) a0 a1 a2 a3 b0 b1 b2 b3 (v.1) (u.1) wx ((k5.out.kp (.of hB))).1 ((k6.out.kp (.of hB))).1 Hba.out.1 Hbb.out.1 (by omega))⟩
  ·exact ⟨_, rfl, fa_Vec1 rfl ((hs 2 rfl).trans ev2)⟩
  ·obtain ⟨k0, -⟩ := hp
   exact ⟨_, rfl, ld_Rat rfl k0 (k3.below hB) rfl rfl rfl rfl⟩
  ·exact ⟨_, rfl, fa_Vec1 rfl ((hs 3 rfl).trans ev3)⟩
  ·obtain ⟨k0, -⟩ := hp
   exact ⟨_, rfl, ld_Rat rfl k0 (k4.below hB) rfl rfl rfl rfl⟩
  ·obtain ⟨k0, k1, -⟩ := hp
   exact ⟨_, rfl, Does.rr (f := 65) (call2 rfl (fun _ => by simp [go_sem]) k0 k1) (rsub_any (j) (k) a4 a5 a6 a7 b4 b5 b6 b7 (v.2) (u.2) wx ((k5.out.kp (.of hB))).2 ((k6.out.kp (.of hB))).2 Hba.out.2 Hbb.out.2 (by omega))⟩
  ·obtain ⟨k0, k1, -⟩ := hp
   obtain ⟨x0, x1, x2, x3, e0, h_x⟩ := k0
   replace e0 : a.eval (.tmp 9) = .agg #[x0, x1, x2, x3] := e0
   obtain ⟨y0, y1, y2, y3, e1, h_y⟩ := k1
   replace e1 : a.eval (.tmp 14) = .agg #[y0, y1, y2, y3] := e1
   simp [Act.eval] at e0
   simp [Act.eval] at e1
   exact ⟨_, rfl, Does.val (by simp [execOp, Act.eval, e0, e1, go_sem]) ⟨x0, x1, x2, x3, y0, y1, y2, y3, rfl, ⟨h_x, h_y⟩⟩⟩
 ·intro val wx hB hsp hdis
  obtain ⟨z0, z1, z2, z3, z4, z5, z6, z7, e10, h_z⟩ := hsp 10 (by omega)
  replace e10 : val 10 = .agg #[z0, z1, z2, z3, z4, z5, z6, z7] := e10
  rw [← HF.out]
  change wpList _ _ _ [_] _ _
  simp only [puts, vals, List.map_cons, List.map_nil, List.foldl_cons, List.foldl_nil, if_true, Nat.zero_add, Nat.reduceAdd, e10, List.setIfInBounds_toArray, List.set_cons_succ, List.set_cons_zero]
  clear hsp hdis HF e10
  clear ev2 ev3
  obtain ⟨w16, rfl⟩ : ∃ W : World, W = wx := ⟨_, rfl⟩
  have kb := kh.below hB
  have kj := Lib.hid (Blw ki.out hB)
  have kk := Lib.hid h_z
  obtain ⟨o_z0, o_z1, o_z2, o_z3, o_z4, o_z5, o_z6, o_z7⟩ := h_z.ones
  clear h_z
  clear hB
  obtain ⟨kl, km, kn, ko, kr, ks, kt, ku, kv, kw⟩ := kb.f8
  go_wp2
  have hkp := (Kp.refl w16).t8 (kb) z0 z1 z2 z3 z4 z5 z6 z7
  refine bodyPost_ret (v := .agg #[z0, z1, z2, z3, z4, z5, z6, z7]) (by simp [results, Try.results33, go_sem, kl, km, kn, ko, kr, ks, kt, ku]) rfl ⟨_, _, _, _, _, _, _, _, rfl, ?_, bel8 (kj.out) (by first | simp | omega)⟩
  exact kk.out.kp hkp
set_option maxRecDepth 100000 in
theorem vsca_any (j k : Nat) (a0 a1 a2 a3 a4 a5 a6 a7 b0 b1 b2 b3 : Value) (v : Rat × Rat) (q : Rat) (w : World) (ha : VecV w a0 a1 a2 a3 a4 a5 a6 a7 v) (hb : RatV w b0 b1 b2 b3 q) (ba : Bv j v) (bb : Bq k q) (hk : 10 * (j + k) + 100 ≤ 800000000000) :
  Calls Try.prog 35 #[.agg #[a0, a1, a2, a3, a4, a5, a6, a7], .agg #[b0, b1, b2, b3]] w (RV (vsca v q) w) := by
 obtain ⟨qa0, qa1, qa2, qa3, qa4, qa5, qa6, qa7⟩ := ha.ones
 obtain ⟨qb0, qb1, qb2, qb3⟩ := hb.ones
 have Hha := Lib.hid ha; have Hhb := Lib.hid hb; have Hba := Lib.hid ba; have Hbb := Lib.hid bb
 clear ha hb ba bb
 go_enter Try.func35, Try.ntmps35
 go_wp2_with fail
 generalize hW : ((w.alloc _).alloc _).alloc _ = W1
 obtain ⟨kc, kd, ke, hB⟩ := box3 hW
 have k2 := Lib.hid hB; clear hW hB
 have F6 := Lib.hid (Hha.out.kp (.of k2.out))
 have F7 := Lib.hid (Hhb.out.kp (.of k2.out))
 go_upto_region 1 with fail
 generalize hW : W1.drew = W8
 have hB : Below W1.heap.size W1 W8 := by rw [← hW]; exact (Below.refl _ _).drew
 have k3 := kc.below hB
 have k4 := kd.below hB
 have kh := ke.below hB
 have k5 := Lib.hid (F6.out.kp (.of hB))
 have k6 := Lib.hid (F7.out.kp (.of hB))
 have ki := Lib.hid (Blw k2.out hB)
 clear hB
 generalize hF : ({ tmps := _, defers := _ } : Act) = F
 have ev2 : F.eval (.tmp 2) = .pointer (some ⟨w.heap.size, 0, none⟩) := by rw [← hF]; rfl
 have ev3 : F.eval (.tmp 3) = .pointer (some ⟨w.heap.size + 1, 0, none⟩) := by rw [← hF]; rfl
 have HF := Lib.hid hF; clear hF
 refine wp_flow_tab true hW 9 [(5, []), (6, [0]), (7, []), (8, [1, 2]), (9, []), (10, [4]), (11, []), (12, [5, 6]), (13, [3, 7])] [SC (.pointer (some ⟨w.heap.size, 0, none⟩)), SC (.agg #[a0, a1, a2, a3]), SC (.agg #[b0, b1, b2, b3]), SR (v.1 * q), SC (.pointer (some ⟨w.heap.size, 4, none⟩)), SC (.agg #[a4, a5, a6, a7]), SC (.agg #[b0, b1, b2, b3]), SR (v.2 * q), SV (vsca v q)] [false, false, false, false, false, false, false, false, false] (by kernel_rfl) (by kernel_rfl) (by kernel_rfl) (by kernel_rfl) (by kernel_rfl) (by rw [← HF.out]; simp) ⟨SC.mono _, SC.mono _, SC.mono _, SR.mono _, SC.mono _, SC.mono _, SC.mono _, SR.mono _, SV.mono _, trivial⟩ ?_ ?_
 ·intro kq hkq a wx hB hp hs
  have hcase : kq = 0 ∨ kq = 1 ∨ kq = 2 ∨ kq = 3 ∨ kq = 4 ∨ kq = 5 ∨ kq = 6 ∨ kq = 7 ∨ kq = 8 := by omega
  rcases hcase with rfl | rfl | rfl | rfl | rfl | rfl | rfl | rfl | rfl
  ·exact ⟨_, rfl, fa_Vec0 rfl ((hs 2 rfl).trans ev2)⟩
  ·obtain ⟨k0, -⟩ := hp
   exact ⟨_, rfl, ld_Rat rfl k0 (k3.below hB) rfl rfl rfl rfl⟩
  ·exact ⟨_, rfl, ld_Rat rfl ((hs 3 rfl).trans ev3) (k4.below hB) rfl rfl rfl rfl⟩
  ·obtain ⟨k0, k1, -⟩ := hp
   exact ⟨_, rfl, Does.rr (f := 47) (call2 rfl (fun _ => by simp [go_sem]) k0 k1) (rmul_any (j) (k) a0 a1 a2 a3 b0 b1 b2 b3 (v.1) (q) wx ((k5.out.kp (.of hB))).1 (k6.out.kp (.of hB)) Hba.out.1 Hbb.out (by omega))⟩
  ·exact ⟨_, rfl, fa_Vec1 rfl ((hs 2 rfl).trans ev2)⟩
  ·obtain ⟨k0, -⟩ := hp
   exact ⟨_, rfl, ld_Rat rfl k0 (k3.below hB) rfl rfl rfl rfl⟩
  ·exact ⟨_, rfl, ld_Rat rfl ((hs 3 rfl).trans ev3) (k4.below hB) rfl rfl rfl rfl⟩
  ·obtain ⟨k0, k1, -⟩ := hp
   exact ⟨_, rfl, Does.rr (f := 47) (call2 rfl (fun _ => by simp [go_sem]) k0 k1) (rmul_any (j) (k) a4 a5 a6 a7 b0 b1 b2 b3 (v.2) (q) wx ((k5.out.kp (.of hB))).2 (k6.out.kp (.of hB)) Hba.out.2 Hbb.out (by omega))⟩
  ·obtain ⟨k0, k1, -⟩ := hp
   obtain ⟨x0, x1, x2, x3, e0, h_x⟩ := k0
   replace e0 : a.eval (.tmp 8) = .agg #[x0, x1, x2, x3] := e0
   obtain ⟨y0, y1, y2, y3, e1, h_y⟩ := k1
   replace e1 : a.eval (.tmp 12) = .agg #[y0, y1, y2, y3] := e1
   simp [Act.eval] at e0
   simp [Act.eval] at e1
   exact ⟨_, rfl, Does.val (by simp [execOp, Act.eval, e0, e1, go_sem]) ⟨x0, x1, x2, x3, y0, y1, y2, y3, rfl, ⟨h_x, h_y⟩⟩⟩
 ·intro val wx hB hsp hdis
  obtain ⟨z0, z1, z2, z3, z4, z5, z6, z7, e8, h_z⟩ := hsp 8 (by omega)
  replace e8 : val 8 = .agg #[z0, z1, z2, z3, z4, z5, z6, z7] := e8
  rw [← HF.out]
  change wpList _ _ _ [_] _ _
  simp only [puts, vals, List.map_cons, List.map_nil, List.foldl_cons, List.foldl_nil, if_true, Nat.zero_add, Nat.reduceAdd, e8, List.setIfInBounds_toArray, List.set_cons_succ, List.set_cons_zero]
  clear hsp hdis HF e8
  clear ev2 ev3
  obtain ⟨w16, rfl⟩ : ∃ W : World, W = wx := ⟨_, rfl⟩
  have kb := kh.below hB
  have kj := Lib.hid (Blw ki.out hB)
  have kk := Lib.hid h_z
  obtain ⟨o_z0, o_z1, o_z2, o_z3, o_z4, o_z5, o_z6, o_z7⟩ := h_z.ones
  clear h_z
  clear hB
  obtain ⟨kl, km, kn, ko, kr, ks, kt, ku, kv, kw⟩ := kb.f8
  go_wp2
  have hkp := (Kp.refl w16).t8 (kb) z0 z1 z2 z3 z4 z5 z6 z7
  refine bodyPost_ret (v := .agg #[z0, z1, z2, z3, z4, z5, z6, z7]) (by simp [results, Try.results35, go_sem, kl, km, kn, ko, kr, ks, kt, ku]) rfl ⟨_, _, _, _, _, _, _, _, rfl, ?_, bel8 (kj.out) (by first | simp | omega)⟩
  exact kk.out.kp hkp
set_option maxRecDepth 100000 in
theorem vbak_any (a0 a1 a2 a3 a4 a5 a6 a7 : Value) (t : Rat × Rat) (w : World) (ha : VecV w a0 a1 a2 a3 a4 a5 a6 a7 t)  :
  Calls Try.prog 17 #[.agg #[a0, a1, a2, a3, a4, a5, a6, a7]] w (RV (vbak t) w) := by
 obtain ⟨qa0, qa1, qa2, qa3, qa4, qa5, qa6, qa7⟩ := ha.ones
 have Hha := Lib.hid ha
 clear ha
 go_enter Try.func17, Try.ntmps17
 go_wp2_with fail
 generalize hW : (w.alloc _).alloc _ = W1
 obtain ⟨k5, k6, hB⟩ := box2 hW
 have k1 := Lib.hid hB; clear hW hB
 have F5 := Lib.hid (Hha.out.kp (.of k1.out))
 go_upto_region 1 with fail
 generalize hW : W1.drew = W6
 have hB : Below W1.heap.size W1 W6 := by rw [← hW]; exact (Below.refl _ _).drew
 have k2 := k5.below hB
 have k8 := k6.below hB
 have F9 := Lib.hid (F5.out.kp (.of hB))
 have k9 := Lib.hid (Blw k1.out hB)
 clear hB
 generalize hF : ({ tmps := _, defers := _ } : Act) = F
 have ev1 : F.eval (.tmp 1) = .pointer (some ⟨w.heap.size, 0, none⟩) := by rw [← hF]; rfl
 have HF := Lib.hid hF; clear hF
 refine wp_flow_tab true hW 6 [(3, []), (4, [0]), (5, []), (6, [2]), (7, [3]), (8, [1, 4])] [SC (.pointer (some ⟨w.heap.size, 0, none⟩)), SC (.agg #[a0, a1, a2, a3]), SC (.pointer (some ⟨w.heap.size, 4, none⟩)), SC (.agg #[a4, a5, a6, a7]), SR (-t.2), SV (vbak t)] [false, false, false, false, false, false] (by kernel_rfl) (by kernel_rfl) (by kernel_rfl) (by kernel_rfl) (by kernel_rfl) (by rw [← HF.out]; simp) ⟨SC.mono _, SC.mono _, SC.mono _, SC.mono _, SR.mono _, SV.mono _, trivial⟩ ?_ ?_
 ·intro kq hkq a wx hB hp hs
  have hcase : kq = 0 ∨ kq = 1 ∨ kq = 2 ∨ kq = 3 ∨ kq = 4 ∨ kq = 5 := by omega
  rcases hcase with rfl | rfl | rfl | rfl | rfl | rfl
  ·exact ⟨_, rfl, fa_Turn0 rfl ((hs 1 rfl).trans ev1)⟩
  ·obtain ⟨k0, -⟩ := hp
   exact ⟨_, rfl, ld_Rat rfl k0 (k2.below hB) rfl rfl rfl rfl⟩
  ·exact ⟨_, rfl, fa_Turn1 rfl ((hs 1 rfl).trans ev1)⟩
  ·obtain ⟨k0, -⟩ := hp
   exact ⟨_, rfl, ld_Rat rfl k0 (k2.below hB) rfl rfl rfl rfl⟩
  ·obtain ⟨k0, -⟩ := hp
   exact ⟨_, rfl, Does.rr (f := 48) (call1 rfl (fun _ => by simp [go_sem]) k0) (rneg_any a4 a5 a6 a7 (t.2) wx ((F9.out.kp (.of hB))).2)⟩
  ·obtain ⟨k0, ka, -⟩ := hp
   have e0 : a.eval (.tmp 4) = .agg #[a0, a1, a2, a3] := k0
   obtain ⟨n0, n1, n2, n3, e1, h_n⟩ := ka
   replace e1 : a.eval (.tmp 7) = .agg #[n0, n1, n2, n3] := e1
   simp [Act.eval] at e0
   simp [Act.eval] at e1
   exact ⟨_, rfl, Does.val (by simp [execOp, Act.eval, e0, e1, go_sem]) ⟨a0, a1, a2, a3, n0, n1, n2, n3, rfl, ⟨((F9.out.kp (.of hB))).1, h_n⟩⟩⟩
 ·intro val wx hB hsp hdis
  obtain ⟨z0, z1, z2, z3, z4, z5, z6, z7, e5, h_z⟩ := hsp 5 (by omega)
  replace e5 : val 5 = .agg #[z0, z1, z2, z3, z4, z5, z6, z7] := e5
  rw [← HF.out]
  change wpList _ _ _ [_] _ _
  simp only [puts, vals, List.map_cons, List.map_nil, List.foldl_cons, List.foldl_nil, if_true, Nat.zero_add, Nat.reduceAdd, e5, List.setIfInBounds_toArray, List.set_cons_succ, List.set_cons_zero]
  clear hsp hdis HF e5
  clear ev1
  obtain ⟨w12, rfl⟩ : ∃ W : World, W = wx := ⟨_, rfl⟩
  have k4 := k8.below hB
  have kb := Lib.hid (Blw k9.out hB)
  have kc := Lib.hid h_z
  obtain ⟨o_z0, o_z1, o_z2, o_z3, o_z4, o_z5, o_z6, o_z7⟩ := h_z.ones
  clear h_z
  clear hB
  obtain ⟨kd, ke, kf, kg, kh, ki, kj, kk, kl, km⟩ := k4.f8
  go_wp2
  have hkp := (Kp.refl w12).t8 (k4) z0 z1 z2 z3 z4 z5 z6 z7
  refine bodyPost_ret (v := .agg #[z0, z1, z2, z3, z4, z5, z6, z7]) (by simp [results, Try.results17, go_sem, kd, ke, kf, kg, kh, ki, kj, kk]) rfl ⟨_, _, _, _, _, _, _, _, rfl, ?_, bel8 (kb.out) (by first | simp | omega)⟩
  exact kc.out.kp hkp
set_option maxRecDepth 100000 in
theorem vdot_any (j k : Nat) (a0 a1 a2 a3 a4 a5 a6 a7 b0 b1 b2 b3 b4 b5 b6 b7 : Value) (v : Rat × Rat) (u : Rat × Rat) (w : World) (ha : VecV w a0 a1 a2 a3 a4 a5 a6 a7 v) (hb : VecV w b0 b1 b2 b3 b4 b5 b6 b7 u) (ba : Bv j v) (bb : Bv k u) (hk : 10 * (j + k) + 100 ≤ 800000000000) :
  Calls Try.prog 29 #[.agg #[a0, a1, a2, a3, a4, a5, a6, a7], .agg #[b0, b1, b2, b3, b4, b5, b6, b7]] w (RR (vdot v u) w) := by
 obtain ⟨qa0, qa1, qa2, qa3, qa4, qa5, qa6, qa7⟩ := ha.ones
 obtain ⟨qb0, qb1, qb2, qb3, qb4, qb5, qb6, qb7⟩ := hb.ones
 have Hha := Lib.hid ha; have Hhb := Lib.hid hb; have Hba := Lib.hid ba; have Hbb := Lib.hid bb
 clear ha hb ba bb
 go_enter Try.func29, Try.ntmps29
 go_wp2_with fail
 generalize hW : ((w.alloc _).alloc _).alloc _ = W1
 obtain ⟨k8, k9, ka, hB⟩ := box3 hW
 have k2 := Lib.hid hB; clear hW hB
 have F6 := Lib.hid (Hha.out.kp (.of k2.out))
 have F7 := Lib.hid (Hhb.out.kp (.of k2.out))
 go_upto_region 1 with fail
 generalize hW : W1.drew = W8
 have hB : Below W1.heap.size W1 W8 := by rw [← hW]; exact (Below.refl _ _).drew
 have k3 := k8.below hB
 have k4 := k9.below hB
 have kd := ka.below hB
 have k5 := Lib.hid (F6.out.kp (.of hB))
 have k6 := Lib.hid (F7.out.kp (.of hB))
 have ke := Lib.hid (Blw k2.out hB)
 clear hB
 generalize hF : ({ tmps := _, defers := _ } : Act) = F
 have ev2 : F.eval (.tmp 2) = .pointer (some ⟨w.heap.size, 0, none⟩) := by rw [← hF]; rfl
 have ev3 : F.eval (.tmp 3) = .pointer (some ⟨w.heap.size + 1, 0, none⟩) := by rw [← hF]; rfl
 have HF := Lib.hid hF; clear hF
 refine wp_flow_tab true hW 12 [(5, []), (6, [0]), (7, []), (8, [2]), (9, [1, 3]), (10, []), (11, [5]), (12, []), (13, [7]), (14, [6, 8]), (15, [4, 9]), (16, [10])] [SC (.pointer (some ⟨w.heap.size, 0, none⟩)), SC (.agg #[a0, a1, a2, a3]), SC (.pointer (some ⟨w.heap.size + 1, 0, none⟩)), SC (.agg #[b0, b1, b2, b3]), SR (v.1 * u.1), SC (.pointer (some ⟨w.heap.size, 4, none⟩)), SC (.agg #[a4, a5, a6, a7]), SC (.pointer (some ⟨w.heap.size + 1, 4, none⟩)), SC (.agg #[b4, b5, b6, b7]), SR (v.2 * u.2), SL [v.1 * u.1, v.2 * u.2], SR (rsum [v.1 * u.1, v.2 * u.2])] [false, false, false, false, false, false, false, false, false, false, false, false] (by kernel_rfl) (by kernel_rfl) (by kernel_rfl) (by kernel_rfl) (by kernel_rfl) (by rw [← HF.out]; simp) ⟨SC.mono _, SC.mono _, SC.mono _, SC.mono _, SR.mono _, SC.mono _, SC.mono _, SC.mono _, SC.mono _, SR.mono _, SL.mono _, SR.mono _, trivial⟩ ?_ ?_
 ·intro kq hkq a wx hB hp hs
  have hcase : kq = 0 ∨ kq = 1 ∨ kq = 2 ∨ kq = 3 ∨ kq = 4 ∨ kq = 5 ∨ kq = 6 ∨ kq = 7 ∨ kq = 8 ∨ kq = 9 ∨ kq = 10 ∨ kq = 11 := by omega
  rcases hcase with rfl | rfl | rfl | rfl | rfl | rfl | rfl | rfl | rfl | rfl | rfl | rfl
  ·exact ⟨_, rfl, fa_Vec0 rfl ((hs 2 rfl).trans ev2)⟩
  ·obtain ⟨k0, -⟩ := hp
   exact ⟨_, rfl, ld_Rat rfl k0 (k3.below hB) rfl rfl rfl rfl⟩
  ·exact ⟨_, rfl, fa_Vec0 rfl ((hs 3 rfl).trans ev3)⟩
  ·obtain ⟨k0, -⟩ := hp
   exact ⟨_, rfl, ld_Rat rfl k0 (k4.below hB) rfl rfl rfl rfl⟩
  ·obtain ⟨k0, k1, -⟩ := hp
   exact ⟨_, rfl, Does.rr (f := 47) (call2 rfl (fun _ => by simp [go_sem]) k0 k1) (rmul_any (j) (k) a0 a1 a2 a3 b0 b1 b2 b3 (v.1) (u.1) wx ((k5.out.kp (.of hB))).1 ((k6.out.kp (.of hB))).1 Hba.out.1 Hbb.out.1 (by omega))⟩
  ·exact ⟨_, rfl, fa_Vec1 rfl ((hs 2 rfl).trans ev2)⟩
  ·obtain ⟨k0, -⟩ := hp
   exact ⟨_, rfl, ld_Rat rfl k0 (k3.below hB) rfl rfl rfl rfl⟩
  ·exact ⟨_, rfl, fa_Vec1 rfl ((hs 3 rfl).trans ev3)⟩
  ·obtain ⟨k0, -⟩ := hp
   exact ⟨_, rfl, ld_Rat rfl k0 (k4.below hB) rfl rfl rfl rfl⟩
  ·obtain ⟨k0, k1, -⟩ := hp
   exact ⟨_, rfl, Does.rr (f := 47) (call2 rfl (fun _ => by simp [go_sem]) k0 k1) (rmul_any (j) (k) a4 a5 a6 a7 b4 b5 b6 b7 (v.2) (u.2) wx ((k5.out.kp (.of hB))).2 ((k6.out.kp (.of hB))).2 Hba.out.2 Hbb.out.2 (by omega))⟩
  ·obtain ⟨k0, k1, -⟩ := hp
   obtain ⟨x0, x1, x2, x3, e0, h_x⟩ := k0
   replace e0 : a.eval (.tmp 9) = .agg #[x0, x1, x2, x3] := e0
   obtain ⟨y0, y1, y2, y3, e1, h_y⟩ := k1
   replace e1 : a.eval (.tmp 14) = .agg #[y0, y1, y2, y3] := e1
   simp [Act.eval] at e0
   simp [Act.eval] at e1
   exact ⟨_, rfl, Does.two (T := 26) (by simp [execOp, Act.eval, e0, e1, go_sem]) h_x h_y⟩
  ·obtain ⟨k0, -⟩ := hp
   obtain ⟨vs10, e0⟩ : ∃ v, a.eval (.tmp 15) = v := ⟨_, rfl⟩
   have h_vs10 : RL wx vs10 [v.1 * u.1, v.2 * u.2] := e0 ▸ k0
   exact ⟨_, rfl, Does.rr (f := 46) (call1 rfl (fun _ => by simp [go_sem]) e0) (psum_any (j + k) vs10 [v.1 * u.1, v.2 * u.2] wx h_vs10 (two_bits (Hba.out.1.mul Hbb.out.1) (Hba.out.2.mul Hbb.out.2)) (by simp; omega))⟩
 ·intro val wx hB hsp hdis
  obtain ⟨z0, z1, z2, z3, e11, h_z⟩ := hsp 11 (by omega)
  replace e11 : val 11 = .agg #[z0, z1, z2, z3] := e11
  rw [← HF.out]
  change wpList _ _ _ [_] _ _
  simp only [puts, vals, List.map_cons, List.map_nil, List.foldl_cons, List.foldl_nil, if_true, Nat.zero_add, Nat.reduceAdd, e11, List.setIfInBounds_toArray, List.set_cons_succ, List.set_cons_zero]
  clear hsp hdis HF e11
  clear ev2 ev3
  obtain ⟨w16, rfl⟩ : ∃ W : World, W = wx := ⟨_, rfl⟩
  have k7 := kd.below hB
  have kj := Lib.hid (Blw ke.out hB)
  have kk := Lib.hid h_z
  obtain ⟨o_z0, o_z1, o_z2, o_z3⟩ := h_z.ones
  clear h_z
  clear hB
  obtain ⟨kl, km, kn, ko, kr, ks⟩ := k7.f4
  go_wp2
  have hkp := (Kp.refl w16).t4 (k7) z0 z1 z2 z3
  have e : vdot v u = rsum [v.1 * u.1, v.2 * u.2] := (rsum_two _ _).symm
  rw [e]
  refine bodyPost_ret (v := .agg #[z0, z1, z2, z3]) (by simp [results, Try.results29, go_sem, kl, km, kn, ko]) rfl ⟨_, _, _, _, rfl, ?_, bel4 (kj.out) (by first | simp | omega)⟩
  exact kk.out.kp hkp
set_option maxRecDepth 100000 in
theorem vcrs_any (j k : Nat) (a0 a1 a2 a3 a4 a5 a6 a7 b0 b1 b2 b3 b4 b5 b6 b7 : Value) (v : Rat × Rat) (u : Rat × Rat) (w : World) (ha : VecV w a0 a1 a2 a3 a4 a5 a6 a7 v) (hb : VecV w b0 b1 b2 b3 b4 b5 b6 b7 u) (ba : Bv j v) (bb : Bv k u) (hk : 10 * (j + k) + 100 ≤ 800000000000) :
  Calls Try.prog 30 #[.agg #[a0, a1, a2, a3, a4, a5, a6, a7], .agg #[b0, b1, b2, b3, b4, b5, b6, b7]] w (RR (vcrs v u) w) := by
 obtain ⟨qa0, qa1, qa2, qa3, qa4, qa5, qa6, qa7⟩ := ha.ones
 obtain ⟨qb0, qb1, qb2, qb3, qb4, qb5, qb6, qb7⟩ := hb.ones
 have Hha := Lib.hid ha; have Hhb := Lib.hid hb; have Hba := Lib.hid ba; have Hbb := Lib.hid bb
 clear ha hb ba bb
 go_enter Try.func30, Try.ntmps30
 go_wp2_with fail
 generalize hW : ((w.alloc _).alloc _).alloc _ = W1
 obtain ⟨kc, kd, ke, hB⟩ := box3 hW
 have k2 := Lib.hid hB; clear hW hB
 have F6 := Lib.hid (Hha.out.kp (.of k2.out))
 have F7 := Lib.hid (Hhb.out.kp (.of k2.out))
 go_upto_region 1 with fail
 generalize hW : W1.drew = W8
 have hB : Below W1.heap.size W1 W8 := by rw [← hW]; exact (Below.refl _ _).drew
 have k3 := kc.below hB
 have k4 := kd.below hB
 have kh := ke.below hB
 have k5 := Lib.hid (F6.out.kp (.of hB))
 have k6 := Lib.hid (F7.out.kp (.of hB))
 have ki := Lib.hid (Blw k2.out hB)
 clear hB
 generalize hF : ({ tmps := _, defers := _ } : Act) = F
 have ev2 : F.eval (.tmp 2) = .pointer (some ⟨w.heap.size, 0, none⟩) := by rw [← hF]; rfl
 have ev3 : F.eval (.tmp 3) = .pointer (some ⟨w.heap.size + 1, 0, none⟩) := by rw [← hF]; rfl
 have HF := Lib.hid hF; clear hF
 refine wp_flow_tab true hW 13 [(5, []), (6, [0]), (7, []), (8, [2]), (9, [1, 3]), (10, []), (11, [5]), (12, []), (13, [7]), (14, [6, 8]), (15, [9]), (16, [4, 10]), (17, [11])] [SC (.pointer (some ⟨w.heap.size, 0, none⟩)), SC (.agg #[a0, a1, a2, a3]), SC (.pointer (some ⟨w.heap.size + 1, 4, none⟩)), SC (.agg #[b4, b5, b6, b7]), SR (v.1 * u.2), SC (.pointer (some ⟨w.heap.size, 4, none⟩)), SC (.agg #[a4, a5, a6, a7]), SC (.pointer (some ⟨w.heap.size + 1, 0, none⟩)), SC (.agg #[b0, b1, b2, b3]), SR (v.2 * u.1), SR (-(v.2 * u.1)), SL [v.1 * u.2, -(v.2 * u.1)], SR (rsum [v.1 * u.2, -(v.2 * u.1)])] [false, false, false, false, false, false, false, false, false, false, false, false, false] (by kernel_rfl) (by kernel_rfl) (by kernel_rfl) (by kernel_rfl) (by kernel_rfl) (by rw [← HF.out]; simp) ⟨SC.mono _, SC.mono _, SC.mono _, SC.mono _, SR.mono _, SC.mono _, SC.mono _, SC.mono _, SC.mono _, SR.mono _, SR.mono _, SL.mono _, SR.mono _, trivial⟩ ?_ ?_
 ·intro kq hkq a wx hB hp hs
  have hcase : kq = 0 ∨ kq = 1 ∨ kq = 2 ∨ kq = 3 ∨ kq = 4 ∨ kq = 5 ∨ kq = 6 ∨ kq = 7 ∨ kq = 8 ∨ kq = 9 ∨ kq = 10 ∨ kq = 11 ∨ kq = 12 := by omega
  rcases hcase with rfl | rfl | rfl | rfl | rfl | rfl | rfl | rfl | rfl | rfl | rfl | rfl | rfl
  ·exact ⟨_, rfl, fa_Vec0 rfl ((hs 2 rfl).trans ev2)⟩
  ·obtain ⟨k0, -⟩ := hp
   exact ⟨_, rfl, ld_Rat rfl k0 (k3.below hB) rfl rfl rfl rfl⟩
  ·exact ⟨_, rfl, fa_Vec1 rfl ((hs 3 rfl).trans ev3)⟩
  ·obtain ⟨k0, -⟩ := hp
   exact ⟨_, rfl, ld_Rat rfl k0 (k4.below hB) rfl rfl rfl rfl⟩
  ·obtain ⟨k0, k1, -⟩ := hp
   exact ⟨_, rfl, Does.rr (f := 47) (call2 rfl (fun _ => by simp [go_sem]) k0 k1) (rmul_any (j) (k) a0 a1 a2 a3 b4 b5 b6 b7 (v.1) (u.2) wx ((k5.out.kp (.of hB))).1 ((k6.out.kp (.of hB))).2 Hba.out.1 Hbb.out.2 (by omega))⟩
  ·exact ⟨_, rfl, fa_Vec1 rfl ((hs 2 rfl).trans ev2)⟩
  ·obtain ⟨k0, -⟩ := hp
   exact ⟨_, rfl, ld_Rat rfl k0 (k3.below hB) rfl rfl rfl rfl⟩
  ·exact ⟨_, rfl, fa_Vec0 rfl ((hs 3 rfl).trans ev3)⟩
  ·obtain ⟨k0, -⟩ := hp
   exact ⟨_, rfl, ld_Rat rfl k0 (k4.below hB) rfl rfl rfl rfl⟩
  ·obtain ⟨k0, k1, -⟩ := hp
   exact ⟨_, rfl, Does.rr (f := 47) (call2 rfl (fun _ => by simp [go_sem]) k0 k1) (rmul_any (j) (k) a4 a5 a6 a7 b0 b1 b2 b3 (v.2) (u.1) wx ((k5.out.kp (.of hB))).2 ((k6.out.kp (.of hB))).1 Hba.out.2 Hbb.out.1 (by omega))⟩
  ·obtain ⟨k0, -⟩ := hp
   obtain ⟨y0, y1, y2, y3, e0, h_y⟩ := k0
   replace e0 : a.eval (.tmp 14) = .agg #[y0, y1, y2, y3] := e0
   exact ⟨_, rfl, Does.rr (f := 48) (call1 rfl (fun _ => by simp [go_sem]) e0) (rneg_any y0 y1 y2 y3 (v.2 * u.1) wx h_y)⟩
  ·obtain ⟨k0, k1, -⟩ := hp
   obtain ⟨x0, x1, x2, x3, e0, h_x⟩ := k0
   replace e0 : a.eval (.tmp 9) = .agg #[x0, x1, x2, x3] := e0
   obtain ⟨n0, n1, n2, n3, e1, h_n⟩ := k1
   replace e1 : a.eval (.tmp 15) = .agg #[n0, n1, n2, n3] := e1
   simp [Act.eval] at e0
   simp [Act.eval] at e1
   exact ⟨_, rfl, Does.two (T := 26) (by simp [execOp, Act.eval, e0, e1, go_sem]) h_x h_n⟩
  ·obtain ⟨k0, -⟩ := hp
   obtain ⟨vs11, e0⟩ : ∃ v, a.eval (.tmp 16) = v := ⟨_, rfl⟩
   have h_vs11 : RL wx vs11 [v.1 * u.2, -(v.2 * u.1)] := e0 ▸ k0
   exact ⟨_, rfl, Does.rr (f := 46) (call1 rfl (fun _ => by simp [go_sem]) e0) (psum_any (j + k) vs11 [v.1 * u.2, -(v.2 * u.1)] wx h_vs11 (two_bits (Hba.out.1.mul Hbb.out.2) (Hba.out.2.mul Hbb.out.1).neg) (by simp; omega))⟩
 ·intro val wx hB hsp hdis
  obtain ⟨z0, z1, z2, z3, e12, h_z⟩ := hsp 12 (by omega)
  replace e12 : val 12 = .agg #[z0, z1, z2, z3] := e12
  rw [← HF.out]
  change wpList _ _ _ [_] _ _
  simp only [puts, vals, List.map_cons, List.map_nil, List.foldl_cons, List.foldl_nil, if_true, Nat.zero_add, Nat.reduceAdd, e12, List.setIfInBounds_toArray, List.set_cons_succ, List.set_cons_zero]
  clear hsp hdis HF e12
  clear ev2 ev3
  obtain ⟨w16, rfl⟩ : ∃ W : World, W = wx := ⟨_, rfl⟩
  have kb := kh.below hB
  have kj := Lib.hid (Blw ki.out hB)
  have kk := Lib.hid h_z
  obtain ⟨o_z0, o_z1, o_z2, o_z3⟩ := h_z.ones
  clear h_z
  clear hB
  obtain ⟨kl, km, kn, ko, kr, ks⟩ := kb.f4
  go_wp2
  have hkp := (Kp.refl w16).t4 (kb) z0 z1 z2 z3
  have e : vcrs v u = rsum [v.1 * u.2, -(v.2 * u.1)] := by rw [rsum_two]; exact Rat.sub_eq_add_neg _ _
  rw [e]
  refine bodyPost_ret (v := .agg #[z0, z1, z2, z3]) (by simp [results, Try.results30, go_sem, kl, km, kn, ko]) rfl ⟨_, _, _, _, rfl, ?_, bel4 (kj.out) (by first | simp | omega)⟩
  exact kk.out.kp hkp
set_option maxRecDepth 100000 in
theorem vrot_any (j k : Nat) (a0 a1 a2 a3 a4 a5 a6 a7 b0 b1 b2 b3 b4 b5 b6 b7 : Value) (t : Rat × Rat) (u : Rat × Rat) (w : World) (ha : VecV w a0 a1 a2 a3 a4 a5 a6 a7 t) (hb : VecV w b0 b1 b2 b3 b4 b5 b6 b7 u) (ba : Bv j t) (bb : Bv k u) (hk : 10 * (j + k) + 100 ≤ 800000000000) :
  Calls Try.prog 9 #[.agg #[a0, a1, a2, a3, a4, a5, a6, a7], .agg #[b0, b1, b2, b3, b4, b5, b6, b7]] w (RV (vrot t u) w) := by
 obtain ⟨qa0, qa1, qa2, qa3, qa4, qa5, qa6, qa7⟩ := ha.ones
 obtain ⟨qb0, qb1, qb2, qb3, qb4, qb5, qb6, qb7⟩ := hb.ones
 have Hha := Lib.hid ha; have Hhb := Lib.hid hb; have Hba := Lib.hid ba; have Hbb := Lib.hid bb
 clear ha hb ba bb
 go_enter Try.func9, Try.ntmps9
 go_wp2_with fail
 generalize hW : ((w.alloc _).alloc _).alloc _ = W1
 obtain ⟨kc, kd, ke, hB⟩ := box3 hW
 have k6 := Lib.hid hB; clear hW hB
 have F6 := Lib.hid (Hha.out.kp (.of k6.out))
 have F7 := Lib.hid (Hhb.out.kp (.of k6.out))
 go_upto_region 1 with fail
 generalize hW : W1.drew = W8
 have hB : Below W1.heap.size W1 W8 := by rw [← hW]; exact (Below.refl _ _).drew
 have k2 := kc.below hB
 have k3 := kd.below hB
 have kh := ke.below hB
 have k4 := Lib.hid (F6.out.kp (.of hB))
 have k5 := Lib.hid (F7.out.kp (.of hB))
 have ki := Lib.hid (Blw k6.out hB)
 clear hB
 generalize hF : ({ tmps := _, defers := _ } : Act) = F
 have ev2 : F.eval (.tmp 2) = .pointer (some ⟨w.heap.size, 0, none⟩) := by rw [← hF]; rfl
 have ev3 : F.eval (.tmp 3) = .pointer (some ⟨w.heap.size + 1, 0, none⟩) := by rw [← hF]; rfl
 have HF := Lib.hid hF; clear hF
 refine wp_flow_tab true hW 26 [(5, []), (6, [0]), (7, []), (8, [2]), (9, [1, 3]), (10, []), (11, [5]), (12, []), (13, [7]), (14, [6, 8]), (15, [9]), (16, [4, 10]), (17, [11]), (18, []), (19, [13]), (20, []), (21, [15]), (22, [14, 16]), (23, []), (24, [18]), (25, []), (26, [20]), (27, [19, 21]), (28, [17, 22]), (29, [23]), (30, [12, 24])] [SC (.pointer (some ⟨w.heap.size, 0, none⟩)), SC (.agg #[a0, a1, a2, a3]), SC (.pointer (some ⟨w.heap.size + 1, 0, none⟩)), SC (.agg #[b0, b1, b2, b3]), SR (t.1 * u.1), SC (.pointer (some ⟨w.heap.size, 4, none⟩)), SC (.agg #[a4, a5, a6, a7]), SC (.pointer (some ⟨w.heap.size + 1, 4, none⟩)), SC (.agg #[b4, b5, b6, b7]), SR (t.2 * u.2), SR (-(t.2 * u.2)), SL [t.1 * u.1, -(t.2 * u.2)], SR (rsum [t.1 * u.1, -(t.2 * u.2)]), SC (.pointer (some ⟨w.heap.size, 4, none⟩)), SC (.agg #[a4, a5, a6, a7]), SC (.pointer (some ⟨w.heap.size + 1, 0, none⟩)), SC (.agg #[b0, b1, b2, b3]), SR (t.2 * u.1), SC (.pointer (some ⟨w.heap.size, 0, none⟩)), SC (.agg #[a0, a1, a2, a3]), SC (.pointer (some ⟨w.heap.size + 1, 4, none⟩)), SC (.agg #[b4, b5, b6, b7]), SR (t.1 * u.2), SL [t.2 * u.1, t.1 * u.2], SR (rsum [t.2 * u.1, t.1 * u.2]), SV (vrot t u)] [false, false, false, false, false, false, false, false, false, false, false, false, false, false, false, false, false, false, false, false, false, false, false, false, false, false] (by kernel_rfl) (by kernel_rfl) (by kernel_rfl) (by kernel_rfl) (by kernel_rfl) (by rw [← HF.out]; simp) ⟨SC.mono _, SC.mono _, SC.mono _, SC.mono _, SR.mono _, SC.mono _, SC.mono _, SC.mono _, SC.mono _, SR.mono _, SR.mono _, SL.mono _, SR.mono _, SC.mono _, SC.mono _, SC.mono _, SC.mono _, SR.mono _, SC.mono _, SC.mono _, SC.mono _, SC.mono _, SR.mono _, SL.mono _, SR.mono _, SV.mono _, trivial⟩ ?_ ?_
 ·intro kq hkq a wx hB hp hs
  have hcase : kq = 0 ∨ kq = 1 ∨ kq = 2 ∨ kq = 3 ∨ kq = 4 ∨ kq = 5 ∨ kq = 6 ∨ kq = 7 ∨ kq = 8 ∨ kq = 9 ∨ kq = 10 ∨ kq = 11 ∨ kq = 12 ∨ kq = 13 ∨ kq = 14 ∨ kq = 15 ∨ kq = 16 ∨ kq = 17 ∨ kq = 18 ∨ kq = 19 ∨ kq = 20 ∨ kq = 21 ∨ kq = 22 ∨ kq = 23 ∨ kq = 24 ∨ kq = 25 := by omega
  rcases hcase with rfl | rfl | rfl | rfl | rfl | rfl | rfl | rfl | rfl | rfl | rfl | rfl | rfl | rfl | rfl | rfl | rfl | rfl | rfl | rfl | rfl | rfl | rfl | rfl | rfl | rfl
  ·exact ⟨_, rfl, fa_Turn0 rfl ((hs 2 rfl).trans ev2)⟩
  ·obtain ⟨k0, -⟩ := hp
   exact ⟨_, rfl, ld_Rat rfl k0 (k2.below hB) rfl rfl rfl rfl⟩
  ·exact ⟨_, rfl, fa_Vec0 rfl ((hs 3 rfl).trans ev3)⟩
  ·obtain ⟨k0, -⟩ := hp
   exact ⟨_, rfl, ld_Rat rfl k0 (k3.below hB) rfl rfl rfl rfl⟩
  ·obtain ⟨k0, k1, -⟩ := hp
   exact ⟨_, rfl, Does.rr (f := 47) (call2 rfl (fun _ => by simp [go_sem]) k0 k1) (rmul_any (j) (k) a0 a1 a2 a3 b0 b1 b2 b3 (t.1) (u.1) wx ((k4.out.kp (.of hB))).1 ((k5.out.kp (.of hB))).1 Hba.out.1 Hbb.out.1 (by omega))⟩
  ·exact ⟨_, rfl, fa_Turn1 rfl ((hs 2 rfl).trans ev2)⟩
  ·obtain ⟨k0, -⟩ := hp
   exact ⟨_, rfl, ld_Rat rfl k0 (k2.below hB) rfl rfl rfl rfl⟩
  ·exact ⟨_, rfl, fa_Vec1 rfl ((hs 3 rfl).trans ev3)⟩
  ·obtain ⟨k0, -⟩ := hp
   exact ⟨_, rfl, ld_Rat rfl k0 (k3.below hB) rfl rfl rfl rfl⟩
  ·obtain ⟨k0, k1, -⟩ := hp
   exact ⟨_, rfl, Does.rr (f := 47) (call2 rfl (fun _ => by simp [go_sem]) k0 k1) (rmul_any (j) (k) a4 a5 a6 a7 b4 b5 b6 b7 (t.2) (u.2) wx ((k4.out.kp (.of hB))).2 ((k5.out.kp (.of hB))).2 Hba.out.2 Hbb.out.2 (by omega))⟩
  ·obtain ⟨k0, -⟩ := hp
   obtain ⟨y0, y1, y2, y3, e0, h_y⟩ := k0
   replace e0 : a.eval (.tmp 14) = .agg #[y0, y1, y2, y3] := e0
   exact ⟨_, rfl, Does.rr (f := 48) (call1 rfl (fun _ => by simp [go_sem]) e0) (rneg_any y0 y1 y2 y3 (t.2 * u.2) wx h_y)⟩
  ·obtain ⟨k0, k1, -⟩ := hp
   obtain ⟨x0, x1, x2, x3, e0, h_x⟩ := k0
   replace e0 : a.eval (.tmp 9) = .agg #[x0, x1, x2, x3] := e0
   obtain ⟨n0, n1, n2, n3, e1, h_n⟩ := k1
   replace e1 : a.eval (.tmp 15) = .agg #[n0, n1, n2, n3] := e1
   simp [Act.eval] at e0
   simp [Act.eval] at e1
   exact ⟨_, rfl, Does.two (T := 26) (by simp [execOp, Act.eval, e0, e1, go_sem]) h_x h_n⟩
  ·obtain ⟨k0, -⟩ := hp
   obtain ⟨vs11, e0⟩ : ∃ v, a.eval (.tmp 16) = v := ⟨_, rfl⟩
   have h_vs11 : RL wx vs11 [t.1 * u.1, -(t.2 * u.2)] := e0 ▸ k0
   exact ⟨_, rfl, Does.rr (f := 46) (call1 rfl (fun _ => by simp [go_sem]) e0) (psum_any (j + k) vs11 [t.1 * u.1, -(t.2 * u.2)] wx h_vs11 (two_bits (Hba.out.1.mul Hbb.out.1) (Hba.out.2.mul Hbb.out.2).neg) (by simp; omega))⟩
  ·exact ⟨_, rfl, fa_Turn1 rfl ((hs 2 rfl).trans ev2)⟩
  ·obtain ⟨k0, -⟩ := hp
   exact ⟨_, rfl, ld_Rat rfl k0 (k2.below hB) rfl rfl rfl rfl⟩
  ·exact ⟨_, rfl, fa_Vec0 rfl ((hs 3 rfl).trans ev3)⟩
  ·obtain ⟨k0, -⟩ := hp
   exact ⟨_, rfl, ld_Rat rfl k0 (k3.below hB) rfl rfl rfl rfl⟩
  ·obtain ⟨k0, k1, -⟩ := hp
   exact ⟨_, rfl, Does.rr (f := 47) (call2 rfl (fun _ => by simp [go_sem]) k0 k1) (rmul_any (j) (k) a4 a5 a6 a7 b0 b1 b2 b3 (t.2) (u.1) wx ((k4.out.kp (.of hB))).2 ((k5.out.kp (.of hB))).1 Hba.out.2 Hbb.out.1 (by omega))⟩
  ·exact ⟨_, rfl, fa_Turn0 rfl ((hs 2 rfl).trans ev2)⟩
  ·obtain ⟨k0, -⟩ := hp
   exact ⟨_, rfl, ld_Rat rfl k0 (k2.below hB) rfl rfl rfl rfl⟩
  ·exact ⟨_, rfl, fa_Vec1 rfl ((hs 3 rfl).trans ev3)⟩
  ·obtain ⟨k0, -⟩ := hp
   exact ⟨_, rfl, ld_Rat rfl k0 (k3.below hB) rfl rfl rfl rfl⟩
  ·obtain ⟨k0, k1, -⟩ := hp
   exact ⟨_, rfl, Does.rr (f := 47) (call2 rfl (fun _ => by simp [go_sem]) k0 k1) (rmul_any (j) (k) a0 a1 a2 a3 b4 b5 b6 b7 (t.1) (u.2) wx ((k4.out.kp (.of hB))).1 ((k5.out.kp (.of hB))).2 Hba.out.1 Hbb.out.2 (by omega))⟩
  ·obtain ⟨k0, k1, -⟩ := hp
   obtain ⟨m0, m1, m2, m3, e0, h_m⟩ := k0
   replace e0 : a.eval (.tmp 22) = .agg #[m0, m1, m2, m3] := e0
   obtain ⟨l0, l1, l2, l3, e1, h_l⟩ := k1
   replace e1 : a.eval (.tmp 27) = .agg #[l0, l1, l2, l3] := e1
   simp [Act.eval] at e0
   simp [Act.eval] at e1
   exact ⟨_, rfl, Does.two (T := 26) (by simp [execOp, Act.eval, e0, e1, go_sem]) h_m h_l⟩
  ·obtain ⟨k0, -⟩ := hp
   obtain ⟨vs23, e0⟩ : ∃ v, a.eval (.tmp 28) = v := ⟨_, rfl⟩
   have h_vs23 : RL wx vs23 [t.2 * u.1, t.1 * u.2] := e0 ▸ k0
   exact ⟨_, rfl, Does.rr (f := 46) (call1 rfl (fun _ => by simp [go_sem]) e0) (psum_any (j + k) vs23 [t.2 * u.1, t.1 * u.2] wx h_vs23 (two_bits (Hba.out.2.mul Hbb.out.1) (Hba.out.1.mul Hbb.out.2)) (by simp; omega))⟩
  ·obtain ⟨k0, k1, -⟩ := hp
   obtain ⟨c0, c1, c2, c3, e0, h_c⟩ := k0
   replace e0 : a.eval (.tmp 17) = .agg #[c0, c1, c2, c3] := e0
   obtain ⟨d0, d1, d2, d3, e1, h_d⟩ := k1
   replace e1 : a.eval (.tmp 29) = .agg #[d0, d1, d2, d3] := e1
   simp [Act.eval] at e0
   simp [Act.eval] at e1
   exact ⟨_, rfl, Does.val (by simp [execOp, Act.eval, e0, e1, go_sem]) ⟨c0, c1, c2, c3, d0, d1, d2, d3, rfl, ⟨by rw [show (vrot t u).1 = rsum [t.1 * u.1, -(t.2 * u.2)] from by rw [rsum_two]; exact Rat.sub_eq_add_neg _ _]; exact h_c, by rw [show (vrot t u).2 = rsum [t.2 * u.1, t.1 * u.2] from (rsum_two _ _).symm]; exact h_d⟩⟩⟩
 ·intro val wx hB hsp hdis
  obtain ⟨z0, z1, z2, z3, z4, z5, z6, z7, e25, h_z⟩ := hsp 25 (by omega)
  replace e25 : val 25 = .agg #[z0, z1, z2, z3, z4, z5, z6, z7] := e25
  rw [← HF.out]
  change wpList _ _ _ [_] _ _
  simp only [puts, vals, List.map_cons, List.map_nil, List.foldl_cons, List.foldl_nil, if_true, Nat.zero_add, Nat.reduceAdd, e25, List.setIfInBounds_toArray, List.set_cons_succ, List.set_cons_zero]
  clear hsp hdis HF e25
  clear ev2 ev3
  obtain ⟨w16, rfl⟩ : ∃ W : World, W = wx := ⟨_, rfl⟩
  have kb := kh.below hB
  have kn := Lib.hid (Blw ki.out hB)
  have ko := Lib.hid h_z
  obtain ⟨o_z0, o_z1, o_z2, o_z3, o_z4, o_z5, o_z6, o_z7⟩ := h_z.ones
  clear h_z
  clear hB
  obtain ⟨kr, ks, kt, ku, kv, kw, kx, ky, kz, kA⟩ := kb.f8
  go_wp2
  have hkp := (Kp.refl w16).t8 (kb) z0 z1 z2 z3 z4 z5 z6 z7
  refine bodyPost_ret (v := .agg #[z0, z1, z2, z3, z4, z5, z6, z7]) (by simp [results, Try.results9, go_sem, kr, ks, kt, ku, kv, kw, kx, ky]) rfl ⟨_, _, _, _, _, _, _, _, rfl, ?_, bel8 (kn.out) (by first | simp | omega)⟩
  exact ko.out.kp hkp
set_option maxRecDepth 100000 in
theorem vaft_any (j k : Nat) (a0 a1 a2 a3 a4 a5 a6 a7 b0 b1 b2 b3 b4 b5 b6 b7 : Value) (t : Rat × Rat) (u : Rat × Rat) (w : World) (ha : VecV w a0 a1 a2 a3 a4 a5 a6 a7 t) (hb : VecV w b0 b1 b2 b3 b4 b5 b6 b7 u) (ba : Bv j t) (bb : Bv k u) (hk : 10 * (j + k) + 100 ≤ 800000000000) :
  Calls Try.prog 25 #[.agg #[a0, a1, a2, a3, a4, a5, a6, a7], .agg #[b0, b1, b2, b3, b4, b5, b6, b7]] w (RV (vrot t u) w) := by
 obtain ⟨qa0, qa1, qa2, qa3, qa4, qa5, qa6, qa7⟩ := ha.ones
 obtain ⟨qb0, qb1, qb2, qb3, qb4, qb5, qb6, qb7⟩ := hb.ones
 have Hha := Lib.hid ha; have Hhb := Lib.hid hb; have Hba := Lib.hid ba; have Hbb := Lib.hid bb
 clear ha hb ba bb
 go_enter Try.func25, Try.ntmps25
 go_upto_region 1 with fail
 generalize hW : ((w.alloc _).alloc _).alloc _ = W1
 obtain ⟨k4, k2, kc, hB⟩ := box3 hW
 have k3 := Lib.hid hB; clear hW hB
 have F6 := Lib.hid (Hha.out.kp (.of k3.out))
 have F7 := Lib.hid (Hhb.out.kp (.of k3.out))
 go_upto_region 1 with fail
 have l8 := k4.lt
 have l9 := k2.lt
 have kM := kc.lt
 generalize hF : ({ tmps := _, defers := _ } : Act) = F
 have ev2 : F.eval (.tmp 2) = .pointer (some ⟨w.heap.size, 0, none⟩) := by rw [← hF]; rfl
 have ev3 : F.eval (.tmp 3) = .pointer (some ⟨w.heap.size + 1, 0, none⟩) := by rw [← hF]; rfl
 have HF := Lib.hid hF; clear hF
 refine wp_flow_tab false rfl 8 [(6, []), (7, []), (8, [1]), (9, []), (10, [3]), (11, [2, 4]), (12, [0, 5]), (5, [])] [SC (.agg #[a0, a1, a2, a3, a4, a5, a6, a7]), SC (.pointer (some ⟨w.heap.size + 1, 0, none⟩)), SC (.agg #[b0, b1, b2, b3]), SC (.pointer (some ⟨w.heap.size + 1, 4, none⟩)), SC (.agg #[b4, b5, b6, b7]), SV (u), SV (vrot t u), SB W1 28 [.bool false, .slice none 0 0, .bool false, .slice none 0 0, .bool false, .slice none 0 0, .bool false, .slice none 0 0]] [false, false, false, false, false, false, false, true] (by kernel_rfl) (by kernel_rfl) (by kernel_rfl) (by kernel_rfl) (by kernel_rfl) (by rw [← HF.out]; simp) ⟨SC.mono _, SC.mono _, SC.mono _, SC.mono _, SC.mono _, SV.mono _, SV.mono _, SB.mono _ _ _, trivial⟩ ?_ ?_
 ·intro kq hkq a wx hB hp hs
  have hcase : kq = 0 ∨ kq = 1 ∨ kq = 2 ∨ kq = 3 ∨ kq = 4 ∨ kq = 5 ∨ kq = 6 ∨ kq = 7 := by omega
  rcases hcase with rfl | rfl | rfl | rfl | rfl | rfl | rfl | rfl
  ·exact ⟨_, rfl, ld_Turn rfl ((hs 2 rfl).trans ev2) (k4.below hB) rfl rfl rfl rfl rfl rfl rfl rfl⟩
  ·exact ⟨_, rfl, fa_Turn0 rfl ((hs 3 rfl).trans ev3)⟩
  ·obtain ⟨k0, -⟩ := hp
   exact ⟨_, rfl, ld_Rat rfl k0 (k2.below hB) rfl rfl rfl rfl⟩
  ·exact ⟨_, rfl, fa_Turn1 rfl ((hs 3 rfl).trans ev3)⟩
  ·obtain ⟨k0, -⟩ := hp
   exact ⟨_, rfl, ld_Rat rfl k0 (k2.below hB) rfl rfl rfl rfl⟩
  ·obtain ⟨k0, k1, -⟩ := hp
   have e0 : a.eval (.tmp 8) = .agg #[b0, b1, b2, b3] := k0
   have e1 : a.eval (.tmp 10) = .agg #[b4, b5, b6, b7] := k1
   simp [Act.eval] at e0
   simp [Act.eval] at e1
   exact ⟨_, rfl, Does.val (by simp [execOp, Act.eval, e0, e1, go_sem]) ⟨b0, b1, b2, b3, b4, b5, b6, b7, rfl, (F7.out.kp (.of hB))⟩⟩
  ·obtain ⟨k0, k1, -⟩ := hp
   obtain ⟨y0, y1, y2, y3, y4, y5, y6, y7, e1, h_y⟩ := k1
   replace e1 : a.eval (.tmp 11) = .agg #[y0, y1, y2, y3, y4, y5, y6, y7] := e1
   exact ⟨_, rfl, Does.rv (f := 9) (call2 rfl (fun _ => by simp [go_sem]) k0 e1) (vrot_any (j) (k) a0 a1 a2 a3 a4 a5 a6 a7 y0 y1 y2 y3 y4 y5 y6 y7 (t) (u) wx (F6.out.kp (.of hB)) h_y Hba.out Hbb.out (by omega))⟩
  ·clear hp
   exact ⟨_, rfl, Does.box (by simp [execOp, go_sem]) hB⟩
 ·intro val wx hB hsp hdis
  obtain ⟨x0, x1, x2, x3, x4, x5, x6, x7, e6, h_x⟩ := hsp 6 (by omega)
  replace e6 : val 6 = .agg #[x0, x1, x2, x3, x4, x5, x6, x7] := e6
  obtain ⟨g11_7, e7, hg11_7, hbx11_7⟩ := hsp 7 (by omega)
  have hgw11_7 : w.heap.size ≤ g11_7 := Nat.le_trans k3.out.size hg11_7
  have hgl11_7 := hbx11_7.lt
  rw [← HF.out]
  change wpList _ _ _ [_] _ _
  simp only [puts, vals, List.map_cons, List.map_nil, List.foldl_cons, List.foldl_nil, if_true, Nat.zero_add, Nat.reduceAdd, e6, e7, List.setIfInBounds_toArray, List.set_cons_succ, List.set_cons_zero]
  clear hsp hdis HF e6 e7
  clear ev2 ev3
  obtain ⟨w12, rfl⟩ : ∃ W : World, W = wx := ⟨_, rfl⟩
  have ks := k4.below hB
  have kt := k2.below hB
  have ku := kc.below hB
  have kv := Lib.hid (Blw k3.out hB)
  have kw := Lib.hid h_x
  obtain ⟨o_x0, o_x1, o_x2, o_x3, o_x4, o_x5, o_x6, o_x7⟩ := h_x.ones
  clear h_x
  clear hB
  obtain ⟨kN, kO, kP, kQ, kR, kS, kT, kU, kV, kW⟩ := hbx11_7.f8
  go_upto_region 2 with fail
  have k5 := (hbx11_7).set_ 0 (x0)
  have k6 := (k5).set_ 1 (x1)
  have k7 := (k6).set_ 2 (x2)
  have k8 := (k7).set_ 3 (x3)
  have k9 := (k8).set_ 4 (x4)
  have ka := (k9).set_ 5 (x5)
  have kb := (ka).set_ 6 (x6)
  have kl := (kb).set_ 7 (x7)
  have hkp : Kp w12 ((((((((w12.setCell ⟨g11_7, 0, none⟩ (x0)).setCell ⟨g11_7, 1, none⟩ (x1)).setCell ⟨g11_7, 2, none⟩ (x2)).setCell ⟨g11_7, 3, none⟩ (x3)).setCell ⟨g11_7, 4, none⟩ (x4)).setCell ⟨g11_7, 5, none⟩ (x5)).setCell ⟨g11_7, 6, none⟩ (x6)).setCell ⟨g11_7, 7, none⟩ (x7)) := ((((((((Kp.refl _).set_ (hbx11_7) (by decide) _).set_ (k5) (by decide) _).set_ (k6) (by decide) _).set_ (k7) (by decide) _).set_ (k8) (by decide) _).set_ (k9) (by decide) _).set_ (ka) (by decide) _).set_ (kb) (by decide) _
  obtain ⟨W38, hW⟩ : ∃ W, W = (((((((w12.setCell ⟨g11_7, 0, none⟩ (x0)).setCell ⟨g11_7, 1, none⟩ (x1)).setCell ⟨g11_7, 2, none⟩ (x2)).setCell ⟨g11_7, 3, none⟩ (x3)).setCell ⟨g11_7, 4, none⟩ (x4)).setCell ⟨g11_7, 5, none⟩ (x5)).setCell ⟨g11_7, 6, none⟩ (x6)).setCell ⟨g11_7, 7, none⟩ (x7) := ⟨_, rfl⟩
  rw [← hW]
  rw [← hW] at hkp
  have hB : Below w.heap.size w W38 := by rw [hW]; exact bel8 (kv.out) (by first | simp | omega)
  have kx := Lib.hid hB; clear hB
  have ky := Lib.hid (kw.out.kp hkp)
  have kX : Bx W38 (w.heap.size) 31 [a0, a1, a2, a3, a4, a5, a6, a7] := by rw [hW]; exact ((((((((ks).far_ (g' := g11_7) (j := 0) (by omega) (x0)).far_ (g' := g11_7) (j := 1) (by omega) (x1)).far_ (g' := g11_7) (j := 2) (by omega) (x2)).far_ (g' := g11_7) (j := 3) (by omega) (x3)).far_ (g' := g11_7) (j := 4) (by omega) (x4)).far_ (g' := g11_7) (j := 5) (by omega) (x5)).far_ (g' := g11_7) (j := 6) (by omega) (x6)).far_ (g' := g11_7) (j := 7) (by omega) (x7)
  have kY : Bx W38 (w.heap.size + 1) 31 [b0, b1, b2, b3, b4, b5, b6, b7] := by rw [hW]; exact ((((((((kt).far_ (g' := g11_7) (j := 0) (by omega) (x0)).far_ (g' := g11_7) (j := 1) (by omega) (x1)).far_ (g' := g11_7) (j := 2) (by omega) (x2)).far_ (g' := g11_7) (j := 3) (by omega) (x3)).far_ (g' := g11_7) (j := 4) (by omega) (x4)).far_ (g' := g11_7) (j := 5) (by omega) (x5)).far_ (g' := g11_7) (j := 6) (by omega) (x6)).far_ (g' := g11_7) (j := 7) (by omega) (x7)
  have kz : Bx W38 (w.heap.size + 1 + 1) 31 [.bool false, .slice none 0 0, .bool false, .slice none 0 0, .bool false, .slice none 0 0, .bool false, .slice none 0 0] := by rw [hW]; exact ((((((((ku).far_ (g' := g11_7) (j := 0) (by omega) (x0)).far_ (g' := g11_7) (j := 1) (by omega) (x1)).far_ (g' := g11_7) (j := 2) (by omega) (x2)).far_ (g' := g11_7) (j := 3) (by omega) (x3)).far_ (g' := g11_7) (j := 4) (by omega) (x4)).far_ (g' := g11_7) (j := 5) (by omega) (x5)).far_ (g' := g11_7) (j := 6) (by omega) (x6)).far_ (g' := g11_7) (j := 7) (by omega) (x7)
  have km : Bx W38 (g11_7) 28 [x0, x1, x2, x3, x4, x5, x6, x7] := by rw [hW]; exact kl
  clear hW hkp k5 k6 k7 k8 k9 ka kb kl
  go_upto_region 2 with fail
  generalize hF : ({ tmps := _, defers := _ } : Act) = F
  have ev5 : F.eval (.tmp 5) = .pointer (some ⟨g11_7, 0, none⟩) := by rw [← hF]; rfl
  have HF := Lib.hid hF; clear hF
  refine wp_flow_tab false rfl 5 [(13, []), (14, [0]), (15, []), (16, [2]), (17, [1, 3])] [SC (.pointer (some ⟨g11_7, 0, none⟩)), SC (.agg #[x0, x1, x2, x3]), SC (.pointer (some ⟨g11_7, 4, none⟩)), SC (.agg #[x4, x5, x6, x7]), SV (vrot t u)] [false, false, false, false, false] (by kernel_rfl) (by kernel_rfl) (by kernel_rfl) (by kernel_rfl) (by kernel_rfl) (by rw [← HF.out]; simp) ⟨SC.mono _, SC.mono _, SC.mono _, SC.mono _, SV.mono _, trivial⟩ ?_ ?_
  ·intro kq hkq a wx hB hp hs
   have hcase : kq = 0 ∨ kq = 1 ∨ kq = 2 ∨ kq = 3 ∨ kq = 4 := by omega
   rcases hcase with rfl | rfl | rfl | rfl | rfl
   ·exact ⟨_, rfl, fa_Vec0 rfl ((hs 5 rfl).trans ev5)⟩
   ·obtain ⟨k0, -⟩ := hp
    exact ⟨_, rfl, ld_Rat rfl k0 (km.below hB) rfl rfl rfl rfl⟩
   ·exact ⟨_, rfl, fa_Vec1 rfl ((hs 5 rfl).trans ev5)⟩
   ·obtain ⟨k0, -⟩ := hp
    exact ⟨_, rfl, ld_Rat rfl k0 (km.below hB) rfl rfl rfl rfl⟩
   ·obtain ⟨k0, k1, -⟩ := hp
    have e0 : a.eval (.tmp 14) = .agg #[x0, x1, x2, x3] := k0
    have e1 : a.eval (.tmp 16) = .agg #[x4, x5, x6, x7] := k1
    simp [Act.eval] at e0
    simp [Act.eval] at e1
    exact ⟨_, rfl, Does.val (by simp [execOp, Act.eval, e0, e1, go_sem]) ⟨x0, x1, x2, x3, x4, x5, x6, x7, rfl, (ky.out.kp (.of hB))⟩⟩
  ·intro val wx hB hsp hdis
   obtain ⟨z0, z1, z2, z3, z4, z5, z6, z7, e4, h_z⟩ := hsp 4 (by omega)
   replace e4 : val 4 = .agg #[z0, z1, z2, z3, z4, z5, z6, z7] := e4
   rw [← HF.out]
   change wpList _ _ _ [_] _ _
   simp only [puts, vals, List.map_cons, List.map_nil, List.foldl_cons, List.foldl_nil, if_true, Nat.zero_add, Nat.reduceAdd, e4, List.setIfInBounds_toArray, List.set_cons_succ, List.set_cons_zero]
   clear hsp hdis HF e4
   clear ev5
   obtain ⟨w48, rfl⟩ : ∃ W : World, W = wx := ⟨_, rfl⟩
   have kn := kz.below hB
   have kA := Lib.hid (Blw kx.out hB)
   have kB := Lib.hid h_z
   obtain ⟨o_z0, o_z1, o_z2, o_z3, o_z4, o_z5, o_z6, o_z7⟩ := h_z.ones
   clear h_z
   clear hB
   obtain ⟨kC, kD, kE, kF, kG, kH, kI, kJ, kZ, l67⟩ := kn.f8
   go_wp2
   have hkp := (Kp.refl w48).t8 (kn) z0 z1 z2 z3 z4 z5 z6 z7
   refine bodyPost_ret (v := .agg #[z0, z1, z2, z3, z4, z5, z6, z7]) (by simp [results, Try.results25, go_sem, kC, kD, kE, kF, kG, kH, kI, kJ]) rfl ⟨_, _, _, _, _, _, _, _, rfl, ?_, bel8 (kA.out) (by first | simp | omega)⟩
   exact kB.out.kp hkp
end Go.Proofs.Ytonkbckgbfcnkaa
