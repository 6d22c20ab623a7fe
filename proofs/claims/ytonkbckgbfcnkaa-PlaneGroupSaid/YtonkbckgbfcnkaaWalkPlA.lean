/-
 THE WALKS of package plane: Add, Sub, Scale, Back, Dot, Cross, Rotate, After.
-/
import Derived.Test.YtonkbckgbfcnkaaWalkSum
import Derived.Test.YtonkbckgbfcnkaaWalkRSub
import Derived.Deep.DeepCutAuto
namespace Go.Proofs.Ytonkbckgbfcnkaa
set_option maxHeartbeats 4000000
open Go.RowKit
attribute [local go_sem] run_store_one
set_option linter.unusedVariables false
theorem Bv.add {j k : Nat} {v u : Rat × Rat} (h : Bv j v) (g : Bv k u) : Bv (j + k + 1) (vadd v u) := ⟨h.1.add g.1, h.2.add g.2⟩
theorem Bv.sub {j k : Nat} {v u : Rat × Rat} (h : Bv j v) (g : Bv k u) : Bv (j + k + 1) (vsub v u) := ⟨h.1.sub g.1, h.2.sub g.2⟩
theorem Bv.sca {j k : Nat} {v : Rat × Rat} {r : Rat} (h : Bv j v) (g : Bq k r) : Bv (j + k) (vsca v r) := ⟨h.1.mul g, h.2.mul g⟩
theorem Bv.dot {j k : Nat} {v u : Rat × Rat} (h : Bv j v) (g : Bv k u) : Bq (2 * (j + k) + 1) (vdot v u) := ((h.1.mul g.1).add (h.2.mul g.2)).mono (by omega)
theorem Bv.crs {j k : Nat} {v u : Rat × Rat} (h : Bv j v) (g : Bv k u) : Bq (2 * (j + k) + 1) (vcrs v u) := ((h.1.mul g.2).sub (h.2.mul g.1)).mono (by omega)
theorem Bv.rot {j k : Nat} {t a : Rat × Rat} (h : Bv j t) (g : Bv k a) : Bv (2 * (j + k) + 1) (vrot t a) := ⟨((h.1.mul g.1).sub (h.2.mul g.2)).mono (by omega), ((h.2.mul g.1).add (h.1.mul g.2)).mono (by omega)⟩
theorem Bv.bak {k : Nat} {t : Rat × Rat} (h : Bv k t) : Bv k (vbak t) := ⟨h.1, h.2.neg⟩
theorem two_bits {k : Nat} {r t : Rat} (h : Bq k r) (g : Bq k t) : ∀ (i : Nat) (q : Rat), [r, t][i]? = some q → Bq k q := by
 intro i q hq
 match i, hq with
 | 0, hq => injection hq with hq; subst hq; exact h
 | 1, hq => injection hq with hq; subst hq; exact g
 | i + 2, hq => simp at hq
set_option maxRecDepth 100000 in
theorem vadd_any (j k : Nat) (a0 a1 a2 a3 a4 a5 a6 a7 b0 b1 b2 b3 b4 b5 b6 b7 : Value) (v : Rat × Rat) (u : Rat × Rat) (w : World) (ha : VecV w a0 a1 a2 a3 a4 a5 a6 a7 v) (hb : VecV w b0 b1 b2 b3 b4 b5 b6 b7 u) (ba : Bv j v) (bb : Bv k u) (hk : 10 * (j + k) + 100 ≤ 800000000000) :
  Calls Try.prog 31 #[.agg #[a0, a1, a2, a3, a4, a5, a6, a7], .agg #[b0, b1, b2, b3, b4, b5, b6, b7]] w (RV (vadd v u) w) := by
 have qa0 := ha.one0
 have qa1 := ha.one1
 have qa2 := ha.one2
 have qa3 := ha.one3
 have qa4 := ha.one4
 have qa5 := ha.one5
 have qa6 := ha.one6
 have qa7 := ha.one7
 have qb0 := hb.one0
 have qb1 := hb.one1
 have qb2 := hb.one2
 have qb3 := hb.one3
 have qb4 := hb.one4
 have qb5 := hb.one5
 have qb6 := hb.one6
 have qb7 := hb.one7
 have Hha := Lib.hid ha; have Hhb := Lib.hid hb; have Hba := Lib.hid ba; have Hbb := Lib.hid bb
 clear ha hb ba bb
 go_enter Try.func31, Try.ntmps31
 go_wp2_with fail
 obtain ⟨W1, hW⟩ : ∃ W, W = ((w.alloc (.cells #[a0, a1, a2, a3, a4, a5, a6, a7] 28)).alloc (.cells #[b0, b1, b2, b3, b4, b5, b6, b7] 28)).alloc (.cells #[.bool false, .slice none 0 0, .bool false, .slice none 0 0, .bool false, .slice none 0 0, .bool false, .slice none 0 0] 28) := ⟨_, rfl⟩
 rw [← hW]
 have ki : Bx W1 (w.heap.size) 28 [a0, a1, a2, a3, a4, a5, a6, a7] := by rw [hW]; exact ((Bx.at_ rfl).alloc _).alloc _
 have kj : Bx W1 (w.heap.size + 1) 28 [b0, b1, b2, b3, b4, b5, b6, b7] := by rw [hW]; exact (Bx.at_ (by simp)).alloc _
 have kk : Bx W1 (w.heap.size + 1 + 1) 28 [.bool false, .slice none 0 0, .bool false, .slice none 0 0, .bool false, .slice none 0 0, .bool false, .slice none 0 0] := by rw [hW]; exact Bx.at_ (by simp)
 have hB : Below w.heap.size w W1 := by rw [hW]; exact (((Below.refl _ _).alloc (by simp) _).alloc (by simp) _).alloc (by simp; omega) _
 have k2 := Lib.hid hB; clear hW hB
 have F6 := Lib.hid (Hha.out.kp (.of k2.out))
 have F7 := Lib.hid (Hhb.out.kp (.of k2.out))
 go_upto_region 1 with fail
 generalize hW : W1.drew = W8
 have hB : Below W1.heap.size W1 W8 := by rw [← hW]; exact (Below.refl _ _).drew
 have k4 := ki.below hB
 have k5 := kj.below hB
 have kn := kk.below hB
 have k6 := Lib.hid (F6.out.kp (.of hB))
 have k7 := Lib.hid (F7.out.kp (.of hB))
 have ko := Lib.hid (Blw k2.out hB)
 clear hB
 generalize hF : ({ tmps := _, defers := _ } : Act) = F
 have ev2 : F.eval (.tmp 2) = .pointer (some ⟨w.heap.size, 0, none⟩) := by rw [← hF]; rfl
 have ev3 : F.eval (.tmp 3) = .pointer (some ⟨w.heap.size + 1, 0, none⟩) := by rw [← hF]; rfl
 have hsz : ∀ d ∈ ([(5, []), (6, [0]), (7, []), (8, [2]), (9, [1, 3]), (10, []), (11, [5]), (12, []), (13, [7]), (14, [6, 8]), (15, [4, 9])] : List (Nat × List Nat)).map (·.1), d < F.tmps.size := by rw [← hF]; simp
 have HF := Lib.hid hF; clear hF
 refine wp_flow_tab true hW 11 [(5, []), (6, [0]), (7, []), (8, [2]), (9, [1, 3]), (10, []), (11, [5]), (12, []), (13, [7]), (14, [6, 8]), (15, [4, 9])] [SC (.pointer (some ⟨w.heap.size, 0, none⟩)), SC (.agg #[a0, a1, a2, a3]), SC (.pointer (some ⟨w.heap.size + 1, 0, none⟩)), SC (.agg #[b0, b1, b2, b3]), SR (v.1 + u.1), SC (.pointer (some ⟨w.heap.size, 4, none⟩)), SC (.agg #[a4, a5, a6, a7]), SC (.pointer (some ⟨w.heap.size + 1, 4, none⟩)), SC (.agg #[b4, b5, b6, b7]), SR (v.2 + u.2), SV (vadd v u)] [false, false, false, false, false, false, false, false, false, false, false] (by kernel_rfl) (by kernel_rfl) (by kernel_rfl) (by kernel_rfl) (by kernel_rfl) hsz ⟨SC.mono _, SC.mono _, SC.mono _, SC.mono _, SR.mono _, SC.mono _, SC.mono _, SC.mono _, SC.mono _, SR.mono _, SV.mono _, trivial⟩ ?_ ?_
 ·intro kq hkq a wx hB hp hs
  have hcase : kq = 0 ∨ kq = 1 ∨ kq = 2 ∨ kq = 3 ∨ kq = 4 ∨ kq = 5 ∨ kq = 6 ∨ kq = 7 ∨ kq = 8 ∨ kq = 9 ∨ kq = 10 := by omega
  rcases hcase with rfl | rfl | rfl | rfl | rfl | rfl | rfl | rfl | rfl | rfl | rfl
  ·exact ⟨_, rfl, fa_Vec0 rfl ((hs 2 rfl).trans ev2)⟩
  ·obtain ⟨k0, -⟩ := hp
   exact ⟨_, rfl, ld_Rat rfl k0 (k4.below hB) rfl rfl rfl rfl⟩
  ·exact ⟨_, rfl, fa_Vec0 rfl ((hs 3 rfl).trans ev3)⟩
  ·obtain ⟨k0, -⟩ := hp
   exact ⟨_, rfl, ld_Rat rfl k0 (k5.below hB) rfl rfl rfl rfl⟩
  ·obtain ⟨k0, k1, -⟩ := hp
   have e0 : a.eval (.tmp 6) = .agg #[a0, a1, a2, a3] := k0
   have e1 : a.eval (.tmp 8) = .agg #[b0, b1, b2, b3] := k1
   exact ⟨_, rfl, Does.rr (f := 64) (call2 rfl (fun _ => by simp [go_sem]) e0 e1) (radd_any (j) (k) a0 a1 a2 a3 b0 b1 b2 b3 (v.1) (u.1) wx ((k6.out.kp (.of hB))).1 ((k7.out.kp (.of hB))).1 Hba.out.1 Hbb.out.1 (by omega))⟩
  ·exact ⟨_, rfl, fa_Vec1 rfl ((hs 2 rfl).trans ev2)⟩
  ·obtain ⟨k0, -⟩ := hp
   exact ⟨_, rfl, ld_Rat rfl k0 (k4.below hB) rfl rfl rfl rfl⟩
  ·exact ⟨_, rfl, fa_Vec1 rfl ((hs 3 rfl).trans ev3)⟩
  ·obtain ⟨k0, -⟩ := hp
   exact ⟨_, rfl, ld_Rat rfl k0 (k5.below hB) rfl rfl rfl rfl⟩
  ·obtain ⟨k0, k1, -⟩ := hp
   have e0 : a.eval (.tmp 11) = .agg #[a4, a5, a6, a7] := k0
   have e1 : a.eval (.tmp 13) = .agg #[b4, b5, b6, b7] := k1
   exact ⟨_, rfl, Does.rr (f := 64) (call2 rfl (fun _ => by simp [go_sem]) e0 e1) (radd_any (j) (k) a4 a5 a6 a7 b4 b5 b6 b7 (v.2) (u.2) wx ((k6.out.kp (.of hB))).2 ((k7.out.kp (.of hB))).2 Hba.out.2 Hbb.out.2 (by omega))⟩
  ·obtain ⟨k0, k1, -⟩ := hp
   obtain ⟨x0, x1, x2, x3, e0, h_x⟩ := k0
   replace e0 : a.eval (.tmp 9) = .agg #[x0, x1, x2, x3] := e0
   obtain ⟨y0, y1, y2, y3, e1, h_y⟩ := k1
   replace e1 : a.eval (.tmp 14) = .agg #[y0, y1, y2, y3] := e1
   simp [Act.eval] at e0
   simp [Act.eval] at e1
   exact ⟨_, rfl, Does.val (by simp [execOp, Act.eval, e0, e1, go_sem]) ⟨x0, x1, x2, x3, y0, y1, y2, y3, rfl, ⟨h_x, h_y⟩⟩⟩
 ·intro val wx hB hsp hdis
  obtain ⟨z0, z1, z2, z3, z4, z5, z6, z7, e10, h_z⟩ := hsp 10 (by omega)
  replace e10 : val 10 = .agg #[z0, z1, z2, z3, z4, z5, z6, z7] := e10
  rw [← HF.out]
  change wpList _ _ _ [_] _ _
  simp only [puts, vals, List.map_cons, List.map_nil, List.foldl_cons, List.foldl_nil, if_true, Nat.zero_add, Nat.reduceAdd, e10, List.setIfInBounds_toArray, List.set_cons_succ, List.set_cons_zero]
  clear hsp hdis HF hsz e10
  clear ev2 ev3
  obtain ⟨w16, rfl⟩ : ∃ W : World, W = wx := ⟨_, rfl⟩
  have k3 := kn.below hB
  have kr := Lib.hid (Blw ko.out hB)
  have ks := Lib.hid h_z
  have o_z0 := h_z.one0
  have o_z1 := h_z.one1
  have o_z2 := h_z.one2
  have o_z3 := h_z.one3
  have o_z4 := h_z.one4
  have o_z5 := h_z.one5
  have o_z6 := h_z.one6
  have o_z7 := h_z.one7
  clear h_z
  clear hB
  obtain ⟨kt, ku, kv, kw, kx, ky, kz, kA, kC, kD⟩ := k3.f8
  go_wp2
  have kc := (k3).set_ 0 (z0)
  have kd := (kc).set_ 1 (z1)
  have ke := (kd).set_ 2 (z2)
  have kf := (ke).set_ 3 (z3)
  have kg := (kf).set_ 4 (z4)
  have kh := (kg).set_ 5 (z5)
  have kB := (kh).set_ 6 (z6)
  have hkp : Kp w16 ((((((((w16.setCell ⟨w.heap.size + 1 + 1, 0, none⟩ (z0)).setCell ⟨w.heap.size + 1 + 1, 1, none⟩ (z1)).setCell ⟨w.heap.size + 1 + 1, 2, none⟩ (z2)).setCell ⟨w.heap.size + 1 + 1, 3, none⟩ (z3)).setCell ⟨w.heap.size + 1 + 1, 4, none⟩ (z4)).setCell ⟨w.heap.size + 1 + 1, 5, none⟩ (z5)).setCell ⟨w.heap.size + 1 + 1, 6, none⟩ (z6)).setCell ⟨w.heap.size + 1 + 1, 7, none⟩ (z7)) := ((((((((Kp.refl _).set_ (k3) (by decide) _).set_ (kc) (by decide) _).set_ (kd) (by decide) _).set_ (ke) (by decide) _).set_ (kf) (by decide) _).set_ (kg) (by decide) _).set_ (kh) (by decide) _).set_ (kB) (by decide) _
  refine bodyPost_ret (v := .agg #[z0, z1, z2, z3, z4, z5, z6, z7]) (by simp [results, Try.results31, go_sem, kt, ku, kv, kw, kx, ky, kz, kA]) rfl ⟨_, _, _, _, _, _, _, _, rfl, ?_, ((((((((kr.out).setCell (by simp <;> omega) _).setCell (by simp <;> omega) _).setCell (by simp <;> omega) _).setCell (by simp <;> omega) _).setCell (by simp <;> omega) _).setCell (by simp <;> omega) _).setCell (by simp <;> omega) _).setCell (by simp <;> omega) _⟩
  exact ks.out.kp hkp
set_option maxRecDepth 100000 in
theorem vsub_any (j k : Nat) (a0 a1 a2 a3 a4 a5 a6 a7 b0 b1 b2 b3 b4 b5 b6 b7 : Value) (v : Rat × Rat) (u : Rat × Rat) (w : World) (ha : VecV w a0 a1 a2 a3 a4 a5 a6 a7 v) (hb : VecV w b0 b1 b2 b3 b4 b5 b6 b7 u) (ba : Bv j v) (bb : Bv k u) (hk : 10 * (j + k) + 100 ≤ 800000000000) :
  Calls Try.prog 33 #[.agg #[a0, a1, a2, a3, a4, a5, a6, a7], .agg #[b0, b1, b2, b3, b4, b5, b6, b7]] w (RV (vsub v u) w) := by
 have qa0 := ha.one0
 have qa1 := ha.one1
 have qa2 := ha.one2
 have qa3 := ha.one3
 have qa4 := ha.one4
 have qa5 := ha.one5
 have qa6 := ha.one6
 have qa7 := ha.one7
 have qb0 := hb.one0
 have qb1 := hb.one1
 have qb2 := hb.one2
 have qb3 := hb.one3
 have qb4 := hb.one4
 have qb5 := hb.one5
 have qb6 := hb.one6
 have qb7 := hb.one7
 have Hha := Lib.hid ha; have Hhb := Lib.hid hb; have Hba := Lib.hid ba; have Hbb := Lib.hid bb
 clear ha hb ba bb
 go_enter Try.func33, Try.ntmps33
 go_wp2_with fail
 obtain ⟨W1, hW⟩ : ∃ W, W = ((w.alloc (.cells #[a0, a1, a2, a3, a4, a5, a6, a7] 28)).alloc (.cells #[b0, b1, b2, b3, b4, b5, b6, b7] 28)).alloc (.cells #[.bool false, .slice none 0 0, .bool false, .slice none 0 0, .bool false, .slice none 0 0, .bool false, .slice none 0 0] 28) := ⟨_, rfl⟩
 rw [← hW]
 have ki : Bx W1 (w.heap.size) 28 [a0, a1, a2, a3, a4, a5, a6, a7] := by rw [hW]; exact ((Bx.at_ rfl).alloc _).alloc _
 have kj : Bx W1 (w.heap.size + 1) 28 [b0, b1, b2, b3, b4, b5, b6, b7] := by rw [hW]; exact (Bx.at_ (by simp)).alloc _
 have kk : Bx W1 (w.heap.size + 1 + 1) 28 [.bool false, .slice none 0 0, .bool false, .slice none 0 0, .bool false, .slice none 0 0, .bool false, .slice none 0 0] := by rw [hW]; exact Bx.at_ (by simp)
 have hB : Below w.heap.size w W1 := by rw [hW]; exact (((Below.refl _ _).alloc (by simp) _).alloc (by simp) _).alloc (by simp; omega) _
 have k2 := Lib.hid hB; clear hW hB
 have F6 := Lib.hid (Hha.out.kp (.of k2.out))
 have F7 := Lib.hid (Hhb.out.kp (.of k2.out))
 go_upto_region 1 with fail
 generalize hW : W1.drew = W8
 have hB : Below W1.heap.size W1 W8 := by rw [← hW]; exact (Below.refl _ _).drew
 have k4 := ki.below hB
 have k5 := kj.below hB
 have kn := kk.below hB
 have k6 := Lib.hid (F6.out.kp (.of hB))
 have k7 := Lib.hid (F7.out.kp (.of hB))
 have ko := Lib.hid (Blw k2.out hB)
 clear hB
 generalize hF : ({ tmps := _, defers := _ } : Act) = F
 have ev2 : F.eval (.tmp 2) = .pointer (some ⟨w.heap.size, 0, none⟩) := by rw [← hF]; rfl
 have ev3 : F.eval (.tmp 3) = .pointer (some ⟨w.heap.size + 1, 0, none⟩) := by rw [← hF]; rfl
 have hsz : ∀ d ∈ ([(5, []), (6, [0]), (7, []), (8, [2]), (9, [1, 3]), (10, []), (11, [5]), (12, []), (13, [7]), (14, [6, 8]), (15, [4, 9])] : List (Nat × List Nat)).map (·.1), d < F.tmps.size := by rw [← hF]; simp
 have HF := Lib.hid hF; clear hF
 refine wp_flow_tab true hW 11 [(5, []), (6, [0]), (7, []), (8, [2]), (9, [1, 3]), (10, []), (11, [5]), (12, []), (13, [7]), (14, [6, 8]), (15, [4, 9])] [SC (.pointer (some ⟨w.heap.size, 0, none⟩)), SC (.agg #[a0, a1, a2, a3]), SC (.pointer (some ⟨w.heap.size + 1, 0, none⟩)), SC (.agg #[b0, b1, b2, b3]), SR (v.1 - u.1), SC (.pointer (some ⟨w.heap.size, 4, none⟩)), SC (.agg #[a4, a5, a6, a7]), SC (.pointer (some ⟨w.heap.size + 1, 4, none⟩)), SC (.agg #[b4, b5, b6, b7]), SR (v.2 - u.2), SV (vsub v u)] [false, false, false, false, false, false, false, false, false, false, false] (by kernel_rfl) (by kernel_rfl) (by kernel_rfl) (by kernel_rfl) (by kernel_rfl) hsz ⟨SC.mono _, SC.mono _, SC.mono _, SC.mono _, SR.mono _, SC.mono _, SC.mono _, SC.mono _, SC.mono _, SR.mono _, SV.mono _, trivial⟩ ?_ ?_
 ·intro kq hkq a wx hB hp hs
  have hcase : kq = 0 ∨ kq = 1 ∨ kq = 2 ∨ kq = 3 ∨ kq = 4 ∨ kq = 5 ∨ kq = 6 ∨ kq = 7 ∨ kq = 8 ∨ kq = 9 ∨ kq = 10 := by omega
  rcases hcase with rfl | rfl | rfl | rfl | rfl | rfl | rfl | rfl | rfl | rfl | rfl
  ·exact ⟨_, rfl, fa_Vec0 rfl ((hs 2 rfl).trans ev2)⟩
  ·obtain ⟨k0, -⟩ := hp
   exact ⟨_, rfl, ld_Rat rfl k0 (k4.below hB) rfl rfl rfl rfl⟩
  ·exact ⟨_, rfl, fa_Vec0 rfl ((hs 3 rfl).trans ev3)⟩
  ·obtain ⟨k0, -⟩ := hp
   exact ⟨_, rfl, ld_Rat rfl k0 (k5.below hB) rfl rfl rfl rfl⟩
  ·obtain ⟨k0, k1, -⟩ := hp
   have e0 : a.eval (.tmp 6) = .agg #[a0, a1, a2, a3] := k0
   have e1 : a.eval (.tmp 8) = .agg #[b0, b1, b2, b3] := k1
   exact ⟨_, rfl, Does.rr (f := 65) (call2 rfl (fun _ => by simp [go_sem]) e0 e1) (rsub_any (j) (k) a0 a1 a2 a3 b0 b1 b2 b3 (v.1) (u.1) wx ((k6.out.kp (.of hB))).1 ((k7.out.kp (.of hB))).1 Hba.out.1 Hbb.out.1 (by omega))⟩
  ·exact ⟨_, rfl, fa_Vec1 rfl ((hs 2 rfl).trans ev2)⟩
  ·obtain ⟨k0, -⟩ := hp
   exact ⟨_, rfl, ld_Rat rfl k0 (k4.below hB) rfl rfl rfl rfl⟩
  ·exact ⟨_, rfl, fa_Vec1 rfl ((hs 3 rfl).trans ev3)⟩
  ·obtain ⟨k0, -⟩ := hp
   exact ⟨_, rfl, ld_Rat rfl k0 (k5.below hB) rfl rfl rfl rfl⟩
  ·obtain ⟨k0, k1, -⟩ := hp
   have e0 : a.eval (.tmp 11) = .agg #[a4, a5, a6, a7] := k0
   have e1 : a.eval (.tmp 13) = .agg #[b4, b5, b6, b7] := k1
   exact ⟨_, rfl, Does.rr (f := 65) (call2 rfl (fun _ => by simp [go_sem]) e0 e1) (rsub_any (j) (k) a4 a5 a6 a7 b4 b5 b6 b7 (v.2) (u.2) wx ((k6.out.kp (.of hB))).2 ((k7.out.kp (.of hB))).2 Hba.out.2 Hbb.out.2 (by omega))⟩
  ·obtain ⟨k0, k1, -⟩ := hp
   obtain ⟨x0, x1, x2, x3, e0, h_x⟩ := k0
   replace e0 : a.eval (.tmp 9) = .agg #[x0, x1, x2, x3] := e0
   obtain ⟨y0, y1, y2, y3, e1, h_y⟩ := k1
   replace e1 : a.eval (.tmp 14) = .agg #[y0, y1, y2, y3] := e1
   simp [Act.eval] at e0
   simp [Act.eval] at e1
   exact ⟨_, rfl, Does.val (by simp [execOp, Act.eval, e0, e1, go_sem]) ⟨x0, x1, x2, x3, y0, y1, y2, y3, rfl, ⟨h_x, h_y⟩⟩⟩
 ·intro val wx hB hsp hdis
  obtain ⟨z0, z1, z2, z3, z4, z5, z6, z7, e10, h_z⟩ := hsp 10 (by omega)
  replace e10 : val 10 = .agg #[z0, z1, z2, z3, z4, z5, z6, z7] := e10
  rw [← HF.out]
  change wpList _ _ _ [_] _ _
  simp only [puts, vals, List.map_cons, List.map_nil, List.foldl_cons, List.foldl_nil, if_true, Nat.zero_add, Nat.reduceAdd, e10, List.setIfInBounds_toArray, List.set_cons_succ, List.set_cons_zero]
  clear hsp hdis HF hsz e10
  clear ev2 ev3
  obtain ⟨w16, rfl⟩ : ∃ W : World, W = wx := ⟨_, rfl⟩
  have k3 := kn.below hB
  have kr := Lib.hid (Blw ko.out hB)
  have ks := Lib.hid h_z
  have o_z0 := h_z.one0
  have o_z1 := h_z.one1
  have o_z2 := h_z.one2
  have o_z3 := h_z.one3
  have o_z4 := h_z.one4
  have o_z5 := h_z.one5
  have o_z6 := h_z.one6
  have o_z7 := h_z.one7
  clear h_z
  clear hB
  obtain ⟨kt, ku, kv, kw, kx, ky, kz, kA, kC, kD⟩ := k3.f8
  go_wp2
  have kc := (k3).set_ 0 (z0)
  have kd := (kc).set_ 1 (z1)
  have ke := (kd).set_ 2 (z2)
  have kf := (ke).set_ 3 (z3)
  have kg := (kf).set_ 4 (z4)
  have kh := (kg).set_ 5 (z5)
  have kB := (kh).set_ 6 (z6)
  have hkp : Kp w16 ((((((((w16.setCell ⟨w.heap.size + 1 + 1, 0, none⟩ (z0)).setCell ⟨w.heap.size + 1 + 1, 1, none⟩ (z1)).setCell ⟨w.heap.size + 1 + 1, 2, none⟩ (z2)).setCell ⟨w.heap.size + 1 + 1, 3, none⟩ (z3)).setCell ⟨w.heap.size + 1 + 1, 4, none⟩ (z4)).setCell ⟨w.heap.size + 1 + 1, 5, none⟩ (z5)).setCell ⟨w.heap.size + 1 + 1, 6, none⟩ (z6)).setCell ⟨w.heap.size + 1 + 1, 7, none⟩ (z7)) := ((((((((Kp.refl _).set_ (k3) (by decide) _).set_ (kc) (by decide) _).set_ (kd) (by decide) _).set_ (ke) (by decide) _).set_ (kf) (by decide) _).set_ (kg) (by decide) _).set_ (kh) (by decide) _).set_ (kB) (by decide) _
  refine bodyPost_ret (v := .agg #[z0, z1, z2, z3, z4, z5, z6, z7]) (by simp [results, Try.results33, go_sem, kt, ku, kv, kw, kx, ky, kz, kA]) rfl ⟨_, _, _, _, _, _, _, _, rfl, ?_, ((((((((kr.out).setCell (by simp <;> omega) _).setCell (by simp <;> omega) _).setCell (by simp <;> omega) _).setCell (by simp <;> omega) _).setCell (by simp <;> omega) _).setCell (by simp <;> omega) _).setCell (by simp <;> omega) _).setCell (by simp <;> omega) _⟩
  exact ks.out.kp hkp
set_option maxRecDepth 100000 in
theorem vsca_any (j k : Nat) (a0 a1 a2 a3 a4 a5 a6 a7 b0 b1 b2 b3 : Value) (v : Rat × Rat) (q : Rat) (w : World) (ha : VecV w a0 a1 a2 a3 a4 a5 a6 a7 v) (hb : RatV w b0 b1 b2 b3 q) (ba : Bv j v) (bb : Bq k q) (hk : 10 * (j + k) + 100 ≤ 800000000000) :
  Calls Try.prog 35 #[.agg #[a0, a1, a2, a3, a4, a5, a6, a7], .agg #[b0, b1, b2, b3]] w (RV (vsca v q) w) := by
 have qa0 := ha.one0
 have qa1 := ha.one1
 have qa2 := ha.one2
 have qa3 := ha.one3
 have qa4 := ha.one4
 have qa5 := ha.one5
 have qa6 := ha.one6
 have qa7 := ha.one7
 have qb0 := hb.one0
 have qb1 := hb.one1
 have qb2 := hb.one2
 have qb3 := hb.one3
 have Hha := Lib.hid ha; have Hhb := Lib.hid hb; have Hba := Lib.hid ba; have Hbb := Lib.hid bb
 clear ha hb ba bb
 go_enter Try.func35, Try.ntmps35
 go_wp2_with fail
 obtain ⟨W1, hW⟩ : ∃ W, W = ((w.alloc (.cells #[a0, a1, a2, a3, a4, a5, a6, a7] 28)).alloc (.cells #[b0, b1, b2, b3] 26)).alloc (.cells #[.bool false, .slice none 0 0, .bool false, .slice none 0 0, .bool false, .slice none 0 0, .bool false, .slice none 0 0] 28) := ⟨_, rfl⟩
 rw [← hW]
 have ki : Bx W1 (w.heap.size) 28 [a0, a1, a2, a3, a4, a5, a6, a7] := by rw [hW]; exact ((Bx.at_ rfl).alloc _).alloc _
 have kj : Bx W1 (w.heap.size + 1) 26 [b0, b1, b2, b3] := by rw [hW]; exact (Bx.at_ (by simp)).alloc _
 have kk : Bx W1 (w.heap.size + 1 + 1) 28 [.bool false, .slice none 0 0, .bool false, .slice none 0 0, .bool false, .slice none 0 0, .bool false, .slice none 0 0] := by rw [hW]; exact Bx.at_ (by simp)
 have hB : Below w.heap.size w W1 := by rw [hW]; exact (((Below.refl _ _).alloc (by simp) _).alloc (by simp) _).alloc (by simp; omega) _
 have k2 := Lib.hid hB; clear hW hB
 have F6 := Lib.hid (Hha.out.kp (.of k2.out))
 have F7 := Lib.hid (Hhb.out.kp (.of k2.out))
 go_upto_region 1 with fail
 generalize hW : W1.drew = W8
 have hB : Below W1.heap.size W1 W8 := by rw [← hW]; exact (Below.refl _ _).drew
 have k4 := ki.below hB
 have k5 := kj.below hB
 have kn := kk.below hB
 have k6 := Lib.hid (F6.out.kp (.of hB))
 have k7 := Lib.hid (F7.out.kp (.of hB))
 have ko := Lib.hid (Blw k2.out hB)
 clear hB
 generalize hF : ({ tmps := _, defers := _ } : Act) = F
 have ev2 : F.eval (.tmp 2) = .pointer (some ⟨w.heap.size, 0, none⟩) := by rw [← hF]; rfl
 have ev3 : F.eval (.tmp 3) = .pointer (some ⟨w.heap.size + 1, 0, none⟩) := by rw [← hF]; rfl
 have hsz : ∀ d ∈ ([(5, []), (6, [0]), (7, []), (8, [1, 2]), (9, []), (10, [4]), (11, []), (12, [5, 6]), (13, [3, 7])] : List (Nat × List Nat)).map (·.1), d < F.tmps.size := by rw [← hF]; simp
 have HF := Lib.hid hF; clear hF
 refine wp_flow_tab true hW 9 [(5, []), (6, [0]), (7, []), (8, [1, 2]), (9, []), (10, [4]), (11, []), (12, [5, 6]), (13, [3, 7])] [SC (.pointer (some ⟨w.heap.size, 0, none⟩)), SC (.agg #[a0, a1, a2, a3]), SC (.agg #[b0, b1, b2, b3]), SR (v.1 * q), SC (.pointer (some ⟨w.heap.size, 4, none⟩)), SC (.agg #[a4, a5, a6, a7]), SC (.agg #[b0, b1, b2, b3]), SR (v.2 * q), SV (vsca v q)] [false, false, false, false, false, false, false, false, false] (by kernel_rfl) (by kernel_rfl) (by kernel_rfl) (by kernel_rfl) (by kernel_rfl) hsz ⟨SC.mono _, SC.mono _, SC.mono _, SR.mono _, SC.mono _, SC.mono _, SC.mono _, SR.mono _, SV.mono _, trivial⟩ ?_ ?_
 ·intro kq hkq a wx hB hp hs
  have hcase : kq = 0 ∨ kq = 1 ∨ kq = 2 ∨ kq = 3 ∨ kq = 4 ∨ kq = 5 ∨ kq = 6 ∨ kq = 7 ∨ kq = 8 := by omega
  rcases hcase with rfl | rfl | rfl | rfl | rfl | rfl | rfl | rfl | rfl
  ·exact ⟨_, rfl, fa_Vec0 rfl ((hs 2 rfl).trans ev2)⟩
  ·obtain ⟨k0, -⟩ := hp
   exact ⟨_, rfl, ld_Rat rfl k0 (k4.below hB) rfl rfl rfl rfl⟩
  ·exact ⟨_, rfl, ld_Rat rfl ((hs 3 rfl).trans ev3) (k5.below hB) rfl rfl rfl rfl⟩
  ·obtain ⟨k0, k1, -⟩ := hp
   have e0 : a.eval (.tmp 6) = .agg #[a0, a1, a2, a3] := k0
   have e1 : a.eval (.tmp 7) = .agg #[b0, b1, b2, b3] := k1
   exact ⟨_, rfl, Does.rr (f := 47) (call2 rfl (fun _ => by simp [go_sem]) e0 e1) (rmul_any (j) (k) a0 a1 a2 a3 b0 b1 b2 b3 (v.1) (q) wx ((k6.out.kp (.of hB))).1 (k7.out.kp (.of hB)) Hba.out.1 Hbb.out (by omega))⟩
  ·exact ⟨_, rfl, fa_Vec1 rfl ((hs 2 rfl).trans ev2)⟩
  ·obtain ⟨k0, -⟩ := hp
   exact ⟨_, rfl, ld_Rat rfl k0 (k4.below hB) rfl rfl rfl rfl⟩
  ·exact ⟨_, rfl, ld_Rat rfl ((hs 3 rfl).trans ev3) (k5.below hB) rfl rfl rfl rfl⟩
  ·obtain ⟨k0, k1, -⟩ := hp
   have e0 : a.eval (.tmp 10) = .agg #[a4, a5, a6, a7] := k0
   have e1 : a.eval (.tmp 11) = .agg #[b0, b1, b2, b3] := k1
   exact ⟨_, rfl, Does.rr (f := 47) (call2 rfl (fun _ => by simp [go_sem]) e0 e1) (rmul_any (j) (k) a4 a5 a6 a7 b0 b1 b2 b3 (v.2) (q) wx ((k6.out.kp (.of hB))).2 (k7.out.kp (.of hB)) Hba.out.2 Hbb.out (by omega))⟩
  ·obtain ⟨k0, k1, -⟩ := hp
   obtain ⟨x0, x1, x2, x3, e0, h_x⟩ := k0
   replace e0 : a.eval (.tmp 8) = .agg #[x0, x1, x2, x3] := e0
   obtain ⟨y0, y1, y2, y3, e1, h_y⟩ := k1
   replace e1 : a.eval (.tmp 12) = .agg #[y0, y1, y2, y3] := e1
   simp [Act.eval] at e0
   simp [Act.eval] at e1
   exact ⟨_, rfl, Does.val (by simp [execOp, Act.eval, e0, e1, go_sem]) ⟨x0, x1, x2, x3, y0, y1, y2, y3, rfl, ⟨h_x, h_y⟩⟩⟩
 ·intro val wx hB hsp hdis
  obtain ⟨z0, z1, z2, z3, z4, z5, z6, z7, e8, h_z⟩ := hsp 8 (by omega)
  replace e8 : val 8 = .agg #[z0, z1, z2, z3, z4, z5, z6, z7] := e8
  rw [← HF.out]
  change wpList _ _ _ [_] _ _
  simp only [puts, vals, List.map_cons, List.map_nil, List.foldl_cons, List.foldl_nil, if_true, Nat.zero_add, Nat.reduceAdd, e8, List.setIfInBounds_toArray, List.set_cons_succ, List.set_cons_zero]
  clear hsp hdis HF hsz e8
  clear ev2 ev3
  obtain ⟨w16, rfl⟩ : ∃ W : World, W = wx := ⟨_, rfl⟩
  have k3 := kn.below hB
  have kr := Lib.hid (Blw ko.out hB)
  have ks := Lib.hid h_z
  have o_z0 := h_z.one0
  have o_z1 := h_z.one1
  have o_z2 := h_z.one2
  have o_z3 := h_z.one3
  have o_z4 := h_z.one4
  have o_z5 := h_z.one5
  have o_z6 := h_z.one6
  have o_z7 := h_z.one7
  clear h_z
  clear hB
  obtain ⟨kt, ku, kv, kw, kx, ky, kz, kA, kC, kD⟩ := k3.f8
  go_wp2
  have kc := (k3).set_ 0 (z0)
  have kd := (kc).set_ 1 (z1)
  have ke := (kd).set_ 2 (z2)
  have kf := (ke).set_ 3 (z3)
  have kg := (kf).set_ 4 (z4)
  have kh := (kg).set_ 5 (z5)
  have kB := (kh).set_ 6 (z6)
  have hkp : Kp w16 ((((((((w16.setCell ⟨w.heap.size + 1 + 1, 0, none⟩ (z0)).setCell ⟨w.heap.size + 1 + 1, 1, none⟩ (z1)).setCell ⟨w.heap.size + 1 + 1, 2, none⟩ (z2)).setCell ⟨w.heap.size + 1 + 1, 3, none⟩ (z3)).setCell ⟨w.heap.size + 1 + 1, 4, none⟩ (z4)).setCell ⟨w.heap.size + 1 + 1, 5, none⟩ (z5)).setCell ⟨w.heap.size + 1 + 1, 6, none⟩ (z6)).setCell ⟨w.heap.size + 1 + 1, 7, none⟩ (z7)) := ((((((((Kp.refl _).set_ (k3) (by decide) _).set_ (kc) (by decide) _).set_ (kd) (by decide) _).set_ (ke) (by decide) _).set_ (kf) (by decide) _).set_ (kg) (by decide) _).set_ (kh) (by decide) _).set_ (kB) (by decide) _
  refine bodyPost_ret (v := .agg #[z0, z1, z2, z3, z4, z5, z6, z7]) (by simp [results, Try.results35, go_sem, kt, ku, kv, kw, kx, ky, kz, kA]) rfl ⟨_, _, _, _, _, _, _, _, rfl, ?_, ((((((((kr.out).setCell (by simp <;> omega) _).setCell (by simp <;> omega) _).setCell (by simp <;> omega) _).setCell (by simp <;> omega) _).setCell (by simp <;> omega) _).setCell (by simp <;> omega) _).setCell (by simp <;> omega) _).setCell (by simp <;> omega) _⟩
  exact ks.out.kp hkp
set_option maxRecDepth 100000 in
theorem vbak_any (a0 a1 a2 a3 a4 a5 a6 a7 : Value) (t : Rat × Rat) (w : World) (ha : VecV w a0 a1 a2 a3 a4 a5 a6 a7 t)  :
  Calls Try.prog 17 #[.agg #[a0, a1, a2, a3, a4, a5, a6, a7]] w (RV (vbak t) w) := by
 have qa0 := ha.one0
 have qa1 := ha.one1
 have qa2 := ha.one2
 have qa3 := ha.one3
 have qa4 := ha.one4
 have qa5 := ha.one5
 have qa6 := ha.one6
 have qa7 := ha.one7
 have Hha := Lib.hid ha
 clear ha
 go_enter Try.func17, Try.ntmps17
 go_wp2_with fail
 obtain ⟨W1, hW⟩ : ∃ W, W = (w.alloc (.cells #[a0, a1, a2, a3, a4, a5, a6, a7] 31)).alloc (.cells #[.bool false, .slice none 0 0, .bool false, .slice none 0 0, .bool false, .slice none 0 0, .bool false, .slice none 0 0] 31) := ⟨_, rfl⟩
 rw [← hW]
 have kb : Bx W1 (w.heap.size) 31 [a0, a1, a2, a3, a4, a5, a6, a7] := by rw [hW]; exact (Bx.at_ rfl).alloc _
 have kc : Bx W1 (w.heap.size + 1) 31 [.bool false, .slice none 0 0, .bool false, .slice none 0 0, .bool false, .slice none 0 0, .bool false, .slice none 0 0] := by rw [hW]; exact Bx.at_ (by simp)
 have hB : Below w.heap.size w W1 := by rw [hW]; exact ((Below.refl _ _).alloc (by simp) _).alloc (by simp) _
 have k2 := Lib.hid hB; clear hW hB
 have F5 := Lib.hid (Hha.out.kp (.of k2.out))
 go_upto_region 1 with fail
 generalize hW : W1.drew = W6
 have hB : Below W1.heap.size W1 W6 := by rw [← hW]; exact (Below.refl _ _).drew
 have k3 := kb.below hB
 have ke := kc.below hB
 have F9 := Lib.hid (F5.out.kp (.of hB))
 have kf := Lib.hid (Blw k2.out hB)
 clear hB
 generalize hF : ({ tmps := _, defers := _ } : Act) = F
 have ev1 : F.eval (.tmp 1) = .pointer (some ⟨w.heap.size, 0, none⟩) := by rw [← hF]; rfl
 have hsz : ∀ d ∈ ([(3, []), (4, [0]), (5, []), (6, [2]), (7, [3]), (8, [1, 4])] : List (Nat × List Nat)).map (·.1), d < F.tmps.size := by rw [← hF]; simp
 have HF := Lib.hid hF; clear hF
 refine wp_flow_tab true hW 6 [(3, []), (4, [0]), (5, []), (6, [2]), (7, [3]), (8, [1, 4])] [SC (.pointer (some ⟨w.heap.size, 0, none⟩)), SC (.agg #[a0, a1, a2, a3]), SC (.pointer (some ⟨w.heap.size, 4, none⟩)), SC (.agg #[a4, a5, a6, a7]), SR (-t.2), SV (vbak t)] [false, false, false, false, false, false] (by kernel_rfl) (by kernel_rfl) (by kernel_rfl) (by kernel_rfl) (by kernel_rfl) hsz ⟨SC.mono _, SC.mono _, SC.mono _, SC.mono _, SR.mono _, SV.mono _, trivial⟩ ?_ ?_
 ·intro kq hkq a wx hB hp hs
  have hcase : kq = 0 ∨ kq = 1 ∨ kq = 2 ∨ kq = 3 ∨ kq = 4 ∨ kq = 5 := by omega
  rcases hcase with rfl | rfl | rfl | rfl | rfl | rfl
  ·exact ⟨_, rfl, fa_Turn0 rfl ((hs 1 rfl).trans ev1)⟩
  ·obtain ⟨k0, -⟩ := hp
   exact ⟨_, rfl, ld_Rat rfl k0 (k3.below hB) rfl rfl rfl rfl⟩
  ·exact ⟨_, rfl, fa_Turn1 rfl ((hs 1 rfl).trans ev1)⟩
  ·obtain ⟨k0, -⟩ := hp
   exact ⟨_, rfl, ld_Rat rfl k0 (k3.below hB) rfl rfl rfl rfl⟩
  ·obtain ⟨k0, -⟩ := hp
   have e0 : a.eval (.tmp 6) = .agg #[a4, a5, a6, a7] := k0
   exact ⟨_, rfl, Does.rr (f := 48) (call1 rfl (fun _ => by simp [go_sem]) e0) (rneg_any a4 a5 a6 a7 (t.2) wx ((F9.out.kp (.of hB))).2)⟩
  ·obtain ⟨k0, kg, -⟩ := hp
   have e0 : a.eval (.tmp 4) = .agg #[a0, a1, a2, a3] := k0
   obtain ⟨n0, n1, n2, n3, e1, h_n⟩ := kg
   replace e1 : a.eval (.tmp 7) = .agg #[n0, n1, n2, n3] := e1
   simp [Act.eval] at e0
   simp [Act.eval] at e1
   exact ⟨_, rfl, Does.val (by simp [execOp, Act.eval, e0, e1, go_sem]) ⟨a0, a1, a2, a3, n0, n1, n2, n3, rfl, ⟨((F9.out.kp (.of hB))).1, h_n⟩⟩⟩
 ·intro val wx hB hsp hdis
  obtain ⟨z0, z1, z2, z3, z4, z5, z6, z7, e5, h_z⟩ := hsp 5 (by omega)
  replace e5 : val 5 = .agg #[z0, z1, z2, z3, z4, z5, z6, z7] := e5
  rw [← HF.out]
  change wpList _ _ _ [_] _ _
  simp only [puts, vals, List.map_cons, List.map_nil, List.foldl_cons, List.foldl_nil, if_true, Nat.zero_add, Nat.reduceAdd, e5, List.setIfInBounds_toArray, List.set_cons_succ, List.set_cons_zero]
  clear hsp hdis HF hsz e5
  clear ev1
  obtain ⟨w12, rfl⟩ : ∃ W : World, W = wx := ⟨_, rfl⟩
  have k1 := ke.below hB
  have kh := Lib.hid (Blw kf.out hB)
  have ki := Lib.hid h_z
  have o_z0 := h_z.one0
  have o_z1 := h_z.one1
  have o_z2 := h_z.one2
  have o_z3 := h_z.one3
  have o_z4 := h_z.one4
  have o_z5 := h_z.one5
  have o_z6 := h_z.one6
  have o_z7 := h_z.one7
  clear h_z
  clear hB
  obtain ⟨kj, kk, kl, km, kn, ko, kr, ks, ku, kv⟩ := k1.f8
  go_wp2
  have k5 := (k1).set_ 0 (z0)
  have k6 := (k5).set_ 1 (z1)
  have k7 := (k6).set_ 2 (z2)
  have k8 := (k7).set_ 3 (z3)
  have k9 := (k8).set_ 4 (z4)
  have ka := (k9).set_ 5 (z5)
  have kt := (ka).set_ 6 (z6)
  have hkp : Kp w12 ((((((((w12.setCell ⟨w.heap.size + 1, 0, none⟩ (z0)).setCell ⟨w.heap.size + 1, 1, none⟩ (z1)).setCell ⟨w.heap.size + 1, 2, none⟩ (z2)).setCell ⟨w.heap.size + 1, 3, none⟩ (z3)).setCell ⟨w.heap.size + 1, 4, none⟩ (z4)).setCell ⟨w.heap.size + 1, 5, none⟩ (z5)).setCell ⟨w.heap.size + 1, 6, none⟩ (z6)).setCell ⟨w.heap.size + 1, 7, none⟩ (z7)) := ((((((((Kp.refl _).set_ (k1) (by decide) _).set_ (k5) (by decide) _).set_ (k6) (by decide) _).set_ (k7) (by decide) _).set_ (k8) (by decide) _).set_ (k9) (by decide) _).set_ (ka) (by decide) _).set_ (kt) (by decide) _
  refine bodyPost_ret (v := .agg #[z0, z1, z2, z3, z4, z5, z6, z7]) (by simp [results, Try.results17, go_sem, kj, kk, kl, km, kn, ko, kr, ks]) rfl ⟨_, _, _, _, _, _, _, _, rfl, ?_, ((((((((kh.out).setCell (by simp <;> omega) _).setCell (by simp <;> omega) _).setCell (by simp <;> omega) _).setCell (by simp <;> omega) _).setCell (by simp <;> omega) _).setCell (by simp <;> omega) _).setCell (by simp <;> omega) _).setCell (by simp <;> omega) _⟩
  exact ki.out.kp hkp
set_option maxRecDepth 100000 in
theorem vdot_any (j k : Nat) (a0 a1 a2 a3 a4 a5 a6 a7 b0 b1 b2 b3 b4 b5 b6 b7 : Value) (v : Rat × Rat) (u : Rat × Rat) (w : World) (ha : VecV w a0 a1 a2 a3 a4 a5 a6 a7 v) (hb : VecV w b0 b1 b2 b3 b4 b5 b6 b7 u) (ba : Bv j v) (bb : Bv k u) (hk : 10 * (j + k) + 100 ≤ 800000000000) :
  Calls Try.prog 29 #[.agg #[a0, a1, a2, a3, a4, a5, a6, a7], .agg #[b0, b1, b2, b3, b4, b5, b6, b7]] w (RR (vdot v u) w) := by
 have qa0 := ha.one0
 have qa1 := ha.one1
 have qa2 := ha.one2
 have qa3 := ha.one3
 have qa4 := ha.one4
 have qa5 := ha.one5
 have qa6 := ha.one6
 have qa7 := ha.one7
 have qb0 := hb.one0
 have qb1 := hb.one1
 have qb2 := hb.one2
 have qb3 := hb.one3
 have qb4 := hb.one4
 have qb5 := hb.one5
 have qb6 := hb.one6
 have qb7 := hb.one7
 have Hha := Lib.hid ha; have Hhb := Lib.hid hb; have Hba := Lib.hid ba; have Hbb := Lib.hid bb
 clear ha hb ba bb
 go_enter Try.func29, Try.ntmps29
 go_wp2_with fail
 obtain ⟨W1, hW⟩ : ∃ W, W = ((w.alloc (.cells #[a0, a1, a2, a3, a4, a5, a6, a7] 28)).alloc (.cells #[b0, b1, b2, b3, b4, b5, b6, b7] 28)).alloc (.cells #[.bool false, .slice none 0 0, .bool false, .slice none 0 0] 26) := ⟨_, rfl⟩
 rw [← hW]
 have ka : Bx W1 (w.heap.size) 28 [a0, a1, a2, a3, a4, a5, a6, a7] := by rw [hW]; exact ((Bx.at_ rfl).alloc _).alloc _
 have kb : Bx W1 (w.heap.size + 1) 28 [b0, b1, b2, b3, b4, b5, b6, b7] := by rw [hW]; exact (Bx.at_ (by simp)).alloc _
 have kc : Bx W1 (w.heap.size + 1 + 1) 26 [.bool false, .slice none 0 0, .bool false, .slice none 0 0] := by rw [hW]; exact Bx.at_ (by simp)
 have hB : Below w.heap.size w W1 := by rw [hW]; exact (((Below.refl _ _).alloc (by simp) _).alloc (by simp) _).alloc (by simp; omega) _
 have k2 := Lib.hid hB; clear hW hB
 have F6 := Lib.hid (Hha.out.kp (.of k2.out))
 have F7 := Lib.hid (Hhb.out.kp (.of k2.out))
 go_upto_region 1 with fail
 generalize hW : W1.drew = W8
 have hB : Below W1.heap.size W1 W8 := by rw [← hW]; exact (Below.refl _ _).drew
 have k4 := ka.below hB
 have k5 := kb.below hB
 have kf := kc.below hB
 have k6 := Lib.hid (F6.out.kp (.of hB))
 have k7 := Lib.hid (F7.out.kp (.of hB))
 have kg := Lib.hid (Blw k2.out hB)
 clear hB
 generalize hF : ({ tmps := _, defers := _ } : Act) = F
 have ev2 : F.eval (.tmp 2) = .pointer (some ⟨w.heap.size, 0, none⟩) := by rw [← hF]; rfl
 have ev3 : F.eval (.tmp 3) = .pointer (some ⟨w.heap.size + 1, 0, none⟩) := by rw [← hF]; rfl
 have hsz : ∀ d ∈ ([(5, []), (6, [0]), (7, []), (8, [2]), (9, [1, 3]), (10, []), (11, [5]), (12, []), (13, [7]), (14, [6, 8]), (15, [4, 9]), (16, [10])] : List (Nat × List Nat)).map (·.1), d < F.tmps.size := by rw [← hF]; simp
 have HF := Lib.hid hF; clear hF
 refine wp_flow_tab true hW 12 [(5, []), (6, [0]), (7, []), (8, [2]), (9, [1, 3]), (10, []), (11, [5]), (12, []), (13, [7]), (14, [6, 8]), (15, [4, 9]), (16, [10])] [SC (.pointer (some ⟨w.heap.size, 0, none⟩)), SC (.agg #[a0, a1, a2, a3]), SC (.pointer (some ⟨w.heap.size + 1, 0, none⟩)), SC (.agg #[b0, b1, b2, b3]), SR (v.1 * u.1), SC (.pointer (some ⟨w.heap.size, 4, none⟩)), SC (.agg #[a4, a5, a6, a7]), SC (.pointer (some ⟨w.heap.size + 1, 4, none⟩)), SC (.agg #[b4, b5, b6, b7]), SR (v.2 * u.2), SL [v.1 * u.1, v.2 * u.2], SR (rsum [v.1 * u.1, v.2 * u.2])] [false, false, false, false, false, false, false, false, false, false, false, false] (by kernel_rfl) (by kernel_rfl) (by kernel_rfl) (by kernel_rfl) (by kernel_rfl) hsz ⟨SC.mono _, SC.mono _, SC.mono _, SC.mono _, SR.mono _, SC.mono _, SC.mono _, SC.mono _, SC.mono _, SR.mono _, SL.mono _, SR.mono _, trivial⟩ ?_ ?_
 ·intro kq hkq a wx hB hp hs
  have hcase : kq = 0 ∨ kq = 1 ∨ kq = 2 ∨ kq = 3 ∨ kq = 4 ∨ kq = 5 ∨ kq = 6 ∨ kq = 7 ∨ kq = 8 ∨ kq = 9 ∨ kq = 10 ∨ kq = 11 := by omega
  rcases hcase with rfl | rfl | rfl | rfl | rfl | rfl | rfl | rfl | rfl | rfl | rfl | rfl
  ·exact ⟨_, rfl, fa_Vec0 rfl ((hs 2 rfl).trans ev2)⟩
  ·obtain ⟨k0, -⟩ := hp
   exact ⟨_, rfl, ld_Rat rfl k0 (k4.below hB) rfl rfl rfl rfl⟩
  ·exact ⟨_, rfl, fa_Vec0 rfl ((hs 3 rfl).trans ev3)⟩
  ·obtain ⟨k0, -⟩ := hp
   exact ⟨_, rfl, ld_Rat rfl k0 (k5.below hB) rfl rfl rfl rfl⟩
  ·obtain ⟨k0, k1, -⟩ := hp
   have e0 : a.eval (.tmp 6) = .agg #[a0, a1, a2, a3] := k0
   have e1 : a.eval (.tmp 8) = .agg #[b0, b1, b2, b3] := k1
   exact ⟨_, rfl, Does.rr (f := 47) (call2 rfl (fun _ => by simp [go_sem]) e0 e1) (rmul_any (j) (k) a0 a1 a2 a3 b0 b1 b2 b3 (v.1) (u.1) wx ((k6.out.kp (.of hB))).1 ((k7.out.kp (.of hB))).1 Hba.out.1 Hbb.out.1 (by omega))⟩
  ·exact ⟨_, rfl, fa_Vec1 rfl ((hs 2 rfl).trans ev2)⟩
  ·obtain ⟨k0, -⟩ := hp
   exact ⟨_, rfl, ld_Rat rfl k0 (k4.below hB) rfl rfl rfl rfl⟩
  ·exact ⟨_, rfl, fa_Vec1 rfl ((hs 3 rfl).trans ev3)⟩
  ·obtain ⟨k0, -⟩ := hp
   exact ⟨_, rfl, ld_Rat rfl k0 (k5.below hB) rfl rfl rfl rfl⟩
  ·obtain ⟨k0, k1, -⟩ := hp
   have e0 : a.eval (.tmp 11) = .agg #[a4, a5, a6, a7] := k0
   have e1 : a.eval (.tmp 13) = .agg #[b4, b5, b6, b7] := k1
   exact ⟨_, rfl, Does.rr (f := 47) (call2 rfl (fun _ => by simp [go_sem]) e0 e1) (rmul_any (j) (k) a4 a5 a6 a7 b4 b5 b6 b7 (v.2) (u.2) wx ((k6.out.kp (.of hB))).2 ((k7.out.kp (.of hB))).2 Hba.out.2 Hbb.out.2 (by omega))⟩
  ·obtain ⟨k0, k1, -⟩ := hp
   obtain ⟨x0, x1, x2, x3, e0, h_x⟩ := k0
   replace e0 : a.eval (.tmp 9) = .agg #[x0, x1, x2, x3] := e0
   obtain ⟨y0, y1, y2, y3, e1, h_y⟩ := k1
   replace e1 : a.eval (.tmp 14) = .agg #[y0, y1, y2, y3] := e1
   simp [Act.eval] at e0
   simp [Act.eval] at e1
   exact ⟨_, rfl, Does.two (T := 26) (by simp [execOp, Act.eval, e0, e1, go_sem]) h_x h_y⟩
  ·obtain ⟨k0, -⟩ := hp
   obtain ⟨vs10, e0⟩ : ∃ v, a.eval (.tmp 15) = v := ⟨_, rfl⟩
   have h_vs10 : RL wx vs10 [v.1 * u.1, v.2 * u.2] := e0 ▸ k0
   exact ⟨_, rfl, Does.rr (f := 46) (call1 rfl (fun _ => by simp [go_sem]) e0) (psum_any (j + k) vs10 [v.1 * u.1, v.2 * u.2] wx h_vs10 (two_bits (Hba.out.1.mul Hbb.out.1) (Hba.out.2.mul Hbb.out.2)) (by simp; omega))⟩
 ·intro val wx hB hsp hdis
  obtain ⟨z0, z1, z2, z3, e11, h_z⟩ := hsp 11 (by omega)
  replace e11 : val 11 = .agg #[z0, z1, z2, z3] := e11
  rw [← HF.out]
  change wpList _ _ _ [_] _ _
  simp only [puts, vals, List.map_cons, List.map_nil, List.foldl_cons, List.foldl_nil, if_true, Nat.zero_add, Nat.reduceAdd, e11, List.setIfInBounds_toArray, List.set_cons_succ, List.set_cons_zero]
  clear hsp hdis HF hsz e11
  clear ev2 ev3
  obtain ⟨w16, rfl⟩ : ∃ W : World, W = wx := ⟨_, rfl⟩
  have k3 := kf.below hB
  have kl := Lib.hid (Blw kg.out hB)
  have km := Lib.hid h_z
  have o_z0 := h_z.one0
  have o_z1 := h_z.one1
  have o_z2 := h_z.one2
  have o_z3 := h_z.one3
  clear h_z
  clear hB
  obtain ⟨kn, ko, kr, ks, ku, kv⟩ := k3.f4
  go_wp2
  have k8 := (k3).set_ 0 (z0)
  have k9 := (k8).set_ 1 (z1)
  have kt := (k9).set_ 2 (z2)
  have hkp : Kp w16 ((((w16.setCell ⟨w.heap.size + 1 + 1, 0, none⟩ (z0)).setCell ⟨w.heap.size + 1 + 1, 1, none⟩ (z1)).setCell ⟨w.heap.size + 1 + 1, 2, none⟩ (z2)).setCell ⟨w.heap.size + 1 + 1, 3, none⟩ (z3)) := ((((Kp.refl _).set_ (k3) (by decide) _).set_ (k8) (by decide) _).set_ (k9) (by decide) _).set_ (kt) (by decide) _
  have e : vdot v u = rsum [v.1 * u.1, v.2 * u.2] := (rsum_two _ _).symm
  rw [e]
  refine bodyPost_ret (v := .agg #[z0, z1, z2, z3]) (by simp [results, Try.results29, go_sem, kn, ko, kr, ks]) rfl ⟨_, _, _, _, rfl, ?_, ((((kl.out).setCell (by simp <;> omega) _).setCell (by simp <;> omega) _).setCell (by simp <;> omega) _).setCell (by simp <;> omega) _⟩
  exact km.out.kp hkp
set_option maxRecDepth 100000 in
theorem vcrs_any (j k : Nat) (a0 a1 a2 a3 a4 a5 a6 a7 b0 b1 b2 b3 b4 b5 b6 b7 : Value) (v : Rat × Rat) (u : Rat × Rat) (w : World) (ha : VecV w a0 a1 a2 a3 a4 a5 a6 a7 v) (hb : VecV w b0 b1 b2 b3 b4 b5 b6 b7 u) (ba : Bv j v) (bb : Bv k u) (hk : 10 * (j + k) + 100 ≤ 800000000000) :
  Calls Try.prog 30 #[.agg #[a0, a1, a2, a3, a4, a5, a6, a7], .agg #[b0, b1, b2, b3, b4, b5, b6, b7]] w (RR (vcrs v u) w) := by
 have qa0 := ha.one0
 have qa1 := ha.one1
 have qa2 := ha.one2
 have qa3 := ha.one3
 have qa4 := ha.one4
 have qa5 := ha.one5
 have qa6 := ha.one6
 have qa7 := ha.one7
 have qb0 := hb.one0
 have qb1 := hb.one1
 have qb2 := hb.one2
 have qb3 := hb.one3
 have qb4 := hb.one4
 have qb5 := hb.one5
 have qb6 := hb.one6
 have qb7 := hb.one7
 have Hha := Lib.hid ha; have Hhb := Lib.hid hb; have Hba := Lib.hid ba; have Hbb := Lib.hid bb
 clear ha hb ba bb
 go_enter Try.func30, Try.ntmps30
 go_wp2_with fail
 obtain ⟨W1, hW⟩ : ∃ W, W = ((w.alloc (.cells #[a0, a1, a2, a3, a4, a5, a6, a7] 28)).alloc (.cells #[b0, b1, b2, b3, b4, b5, b6, b7] 28)).alloc (.cells #[.bool false, .slice none 0 0, .bool false, .slice none 0 0] 26) := ⟨_, rfl⟩
 rw [← hW]
 have ke : Bx W1 (w.heap.size) 28 [a0, a1, a2, a3, a4, a5, a6, a7] := by rw [hW]; exact ((Bx.at_ rfl).alloc _).alloc _
 have kf : Bx W1 (w.heap.size + 1) 28 [b0, b1, b2, b3, b4, b5, b6, b7] := by rw [hW]; exact (Bx.at_ (by simp)).alloc _
 have kg : Bx W1 (w.heap.size + 1 + 1) 26 [.bool false, .slice none 0 0, .bool false, .slice none 0 0] := by rw [hW]; exact Bx.at_ (by simp)
 have hB : Below w.heap.size w W1 := by rw [hW]; exact (((Below.refl _ _).alloc (by simp) _).alloc (by simp) _).alloc (by simp; omega) _
 have k2 := Lib.hid hB; clear hW hB
 have F6 := Lib.hid (Hha.out.kp (.of k2.out))
 have F7 := Lib.hid (Hhb.out.kp (.of k2.out))
 go_upto_region 1 with fail
 generalize hW : W1.drew = W8
 have hB : Below W1.heap.size W1 W8 := by rw [← hW]; exact (Below.refl _ _).drew
 have k4 := ke.below hB
 have k5 := kf.below hB
 have kj := kg.below hB
 have k6 := Lib.hid (F6.out.kp (.of hB))
 have k7 := Lib.hid (F7.out.kp (.of hB))
 have kk := Lib.hid (Blw k2.out hB)
 clear hB
 generalize hF : ({ tmps := _, defers := _ } : Act) = F
 have ev2 : F.eval (.tmp 2) = .pointer (some ⟨w.heap.size, 0, none⟩) := by rw [← hF]; rfl
 have ev3 : F.eval (.tmp 3) = .pointer (some ⟨w.heap.size + 1, 0, none⟩) := by rw [← hF]; rfl
 have hsz : ∀ d ∈ ([(5, []), (6, [0]), (7, []), (8, [2]), (9, [1, 3]), (10, []), (11, [5]), (12, []), (13, [7]), (14, [6, 8]), (15, [9]), (16, [4, 10]), (17, [11])] : List (Nat × List Nat)).map (·.1), d < F.tmps.size := by rw [← hF]; simp
 have HF := Lib.hid hF; clear hF
 refine wp_flow_tab true hW 13 [(5, []), (6, [0]), (7, []), (8, [2]), (9, [1, 3]), (10, []), (11, [5]), (12, []), (13, [7]), (14, [6, 8]), (15, [9]), (16, [4, 10]), (17, [11])] [SC (.pointer (some ⟨w.heap.size, 0, none⟩)), SC (.agg #[a0, a1, a2, a3]), SC (.pointer (some ⟨w.heap.size + 1, 4, none⟩)), SC (.agg #[b4, b5, b6, b7]), SR (v.1 * u.2), SC (.pointer (some ⟨w.heap.size, 4, none⟩)), SC (.agg #[a4, a5, a6, a7]), SC (.pointer (some ⟨w.heap.size + 1, 0, none⟩)), SC (.agg #[b0, b1, b2, b3]), SR (v.2 * u.1), SR (-(v.2 * u.1)), SL [v.1 * u.2, -(v.2 * u.1)], SR (rsum [v.1 * u.2, -(v.2 * u.1)])] [false, false, false, false, false, false, false, false, false, false, false, false, false] (by kernel_rfl) (by kernel_rfl) (by kernel_rfl) (by kernel_rfl) (by kernel_rfl) hsz ⟨SC.mono _, SC.mono _, SC.mono _, SC.mono _, SR.mono _, SC.mono _, SC.mono _, SC.mono _, SC.mono _, SR.mono _, SR.mono _, SL.mono _, SR.mono _, trivial⟩ ?_ ?_
 ·intro kq hkq a wx hB hp hs
  have hcase : kq = 0 ∨ kq = 1 ∨ kq = 2 ∨ kq = 3 ∨ kq = 4 ∨ kq = 5 ∨ kq = 6 ∨ kq = 7 ∨ kq = 8 ∨ kq = 9 ∨ kq = 10 ∨ kq = 11 ∨ kq = 12 := by omega
  rcases hcase with rfl | rfl | rfl | rfl | rfl | rfl | rfl | rfl | rfl | rfl | rfl | rfl | rfl
  ·exact ⟨_, rfl, fa_Vec0 rfl ((hs 2 rfl).trans ev2)⟩
  ·obtain ⟨k0, -⟩ := hp
   exact ⟨_, rfl, ld_Rat rfl k0 (k4.below hB) rfl rfl rfl rfl⟩
  ·exact ⟨_, rfl, fa_Vec1 rfl ((hs 3 rfl).trans ev3)⟩
  ·obtain ⟨k0, -⟩ := hp
   exact ⟨_, rfl, ld_Rat rfl k0 (k5.below hB) rfl rfl rfl rfl⟩
  ·obtain ⟨k0, k1, -⟩ := hp
   have e0 : a.eval (.tmp 6) = .agg #[a0, a1, a2, a3] := k0
   have e1 : a.eval (.tmp 8) = .agg #[b4, b5, b6, b7] := k1
   exact ⟨_, rfl, Does.rr (f := 47) (call2 rfl (fun _ => by simp [go_sem]) e0 e1) (rmul_any (j) (k) a0 a1 a2 a3 b4 b5 b6 b7 (v.1) (u.2) wx ((k6.out.kp (.of hB))).1 ((k7.out.kp (.of hB))).2 Hba.out.1 Hbb.out.2 (by omega))⟩
  ·exact ⟨_, rfl, fa_Vec1 rfl ((hs 2 rfl).trans ev2)⟩
  ·obtain ⟨k0, -⟩ := hp
   exact ⟨_, rfl, ld_Rat rfl k0 (k4.below hB) rfl rfl rfl rfl⟩
  ·exact ⟨_, rfl, fa_Vec0 rfl ((hs 3 rfl).trans ev3)⟩
  ·obtain ⟨k0, -⟩ := hp
   exact ⟨_, rfl, ld_Rat rfl k0 (k5.below hB) rfl rfl rfl rfl⟩
  ·obtain ⟨k0, k1, -⟩ := hp
   have e0 : a.eval (.tmp 11) = .agg #[a4, a5, a6, a7] := k0
   have e1 : a.eval (.tmp 13) = .agg #[b0, b1, b2, b3] := k1
   exact ⟨_, rfl, Does.rr (f := 47) (call2 rfl (fun _ => by simp [go_sem]) e0 e1) (rmul_any (j) (k) a4 a5 a6 a7 b0 b1 b2 b3 (v.2) (u.1) wx ((k6.out.kp (.of hB))).2 ((k7.out.kp (.of hB))).1 Hba.out.2 Hbb.out.1 (by omega))⟩
  ·obtain ⟨k0, -⟩ := hp
   obtain ⟨y0, y1, y2, y3, e0, h_y⟩ := k0
   replace e0 : a.eval (.tmp 14) = .agg #[y0, y1, y2, y3] := e0
   exact ⟨_, rfl, Does.rr (f := 48) (call1 rfl (fun _ => by simp [go_sem]) e0) (rneg_any y0 y1 y2 y3 (v.2 * u.1) wx h_y)⟩
  ·obtain ⟨k0, k1, -⟩ := hp
   obtain ⟨x0, x1, x2, x3, e0, h_x⟩ := k0
   replace e0 : a.eval (.tmp 9) = .agg #[x0, x1, x2, x3] := e0
   obtain ⟨n0, n1, n2, n3, e1, h_n⟩ := k1
   replace e1 : a.eval (.tmp 15) = .agg #[n0, n1, n2, n3] := e1
   simp [Act.eval] at e0
   simp [Act.eval] at e1
   exact ⟨_, rfl, Does.two (T := 26) (by simp [execOp, Act.eval, e0, e1, go_sem]) h_x h_n⟩
  ·obtain ⟨k0, -⟩ := hp
   obtain ⟨vs11, e0⟩ : ∃ v, a.eval (.tmp 16) = v := ⟨_, rfl⟩
   have h_vs11 : RL wx vs11 [v.1 * u.2, -(v.2 * u.1)] := e0 ▸ k0
   exact ⟨_, rfl, Does.rr (f := 46) (call1 rfl (fun _ => by simp [go_sem]) e0) (psum_any (j + k) vs11 [v.1 * u.2, -(v.2 * u.1)] wx h_vs11 (two_bits (Hba.out.1.mul Hbb.out.2) (Hba.out.2.mul Hbb.out.1).neg) (by simp; omega))⟩
 ·intro val wx hB hsp hdis
  obtain ⟨z0, z1, z2, z3, e12, h_z⟩ := hsp 12 (by omega)
  replace e12 : val 12 = .agg #[z0, z1, z2, z3] := e12
  rw [← HF.out]
  change wpList _ _ _ [_] _ _
  simp only [puts, vals, List.map_cons, List.map_nil, List.foldl_cons, List.foldl_nil, if_true, Nat.zero_add, Nat.reduceAdd, e12, List.setIfInBounds_toArray, List.set_cons_succ, List.set_cons_zero]
  clear hsp hdis HF hsz e12
  clear ev2 ev3
  obtain ⟨w16, rfl⟩ : ∃ W : World, W = wx := ⟨_, rfl⟩
  have k3 := kj.below hB
  have kl := Lib.hid (Blw kk.out hB)
  have km := Lib.hid h_z
  have o_z0 := h_z.one0
  have o_z1 := h_z.one1
  have o_z2 := h_z.one2
  have o_z3 := h_z.one3
  clear h_z
  clear hB
  obtain ⟨kn, ko, kr, ks, ku, kv⟩ := k3.f4
  go_wp2
  have kc := (k3).set_ 0 (z0)
  have kd := (kc).set_ 1 (z1)
  have kt := (kd).set_ 2 (z2)
  have hkp : Kp w16 ((((w16.setCell ⟨w.heap.size + 1 + 1, 0, none⟩ (z0)).setCell ⟨w.heap.size + 1 + 1, 1, none⟩ (z1)).setCell ⟨w.heap.size + 1 + 1, 2, none⟩ (z2)).setCell ⟨w.heap.size + 1 + 1, 3, none⟩ (z3)) := ((((Kp.refl _).set_ (k3) (by decide) _).set_ (kc) (by decide) _).set_ (kd) (by decide) _).set_ (kt) (by decide) _
  have e : vcrs v u = rsum [v.1 * u.2, -(v.2 * u.1)] := by rw [rsum_two]; exact Rat.sub_eq_add_neg _ _
  rw [e]
  refine bodyPost_ret (v := .agg #[z0, z1, z2, z3]) (by simp [results, Try.results30, go_sem, kn, ko, kr, ks]) rfl ⟨_, _, _, _, rfl, ?_, ((((kl.out).setCell (by simp <;> omega) _).setCell (by simp <;> omega) _).setCell (by simp <;> omega) _).setCell (by simp <;> omega) _⟩
  exact km.out.kp hkp
set_option maxRecDepth 100000 in
theorem vrot_any (j k : Nat) (a0 a1 a2 a3 a4 a5 a6 a7 b0 b1 b2 b3 b4 b5 b6 b7 : Value) (t : Rat × Rat) (u : Rat × Rat) (w : World) (ha : VecV w a0 a1 a2 a3 a4 a5 a6 a7 t) (hb : VecV w b0 b1 b2 b3 b4 b5 b6 b7 u) (ba : Bv j t) (bb : Bv k u) (hk : 10 * (j + k) + 100 ≤ 800000000000) :
  Calls Try.prog 9 #[.agg #[a0, a1, a2, a3, a4, a5, a6, a7], .agg #[b0, b1, b2, b3, b4, b5, b6, b7]] w (RV (vrot t u) w) := by
 have qa0 := ha.one0
 have qa1 := ha.one1
 have qa2 := ha.one2
 have qa3 := ha.one3
 have qa4 := ha.one4
 have qa5 := ha.one5
 have qa6 := ha.one6
 have qa7 := ha.one7
 have qb0 := hb.one0
 have qb1 := hb.one1
 have qb2 := hb.one2
 have qb3 := hb.one3
 have qb4 := hb.one4
 have qb5 := hb.one5
 have qb6 := hb.one6
 have qb7 := hb.one7
 have Hha := Lib.hid ha; have Hhb := Lib.hid hb; have Hba := Lib.hid ba; have Hbb := Lib.hid bb
 clear ha hb ba bb
 go_enter Try.func9, Try.ntmps9
 go_wp2_with fail
 obtain ⟨W1, hW⟩ : ∃ W, W = ((w.alloc (.cells #[a0, a1, a2, a3, a4, a5, a6, a7] 31)).alloc (.cells #[b0, b1, b2, b3, b4, b5, b6, b7] 28)).alloc (.cells #[.bool false, .slice none 0 0, .bool false, .slice none 0 0, .bool false, .slice none 0 0, .bool false, .slice none 0 0] 28) := ⟨_, rfl⟩
 rw [← hW]
 have ki : Bx W1 (w.heap.size) 31 [a0, a1, a2, a3, a4, a5, a6, a7] := by rw [hW]; exact ((Bx.at_ rfl).alloc _).alloc _
 have kj : Bx W1 (w.heap.size + 1) 28 [b0, b1, b2, b3, b4, b5, b6, b7] := by rw [hW]; exact (Bx.at_ (by simp)).alloc _
 have kk : Bx W1 (w.heap.size + 1 + 1) 28 [.bool false, .slice none 0 0, .bool false, .slice none 0 0, .bool false, .slice none 0 0, .bool false, .slice none 0 0] := by rw [hW]; exact Bx.at_ (by simp)
 have hB : Below w.heap.size w W1 := by rw [hW]; exact (((Below.refl _ _).alloc (by simp) _).alloc (by simp) _).alloc (by simp; omega) _
 have k6 := Lib.hid hB; clear hW hB
 have F6 := Lib.hid (Hha.out.kp (.of k6.out))
 have F7 := Lib.hid (Hhb.out.kp (.of k6.out))
 go_upto_region 1 with fail
 generalize hW : W1.drew = W8
 have hB : Below W1.heap.size W1 W8 := by rw [← hW]; exact (Below.refl _ _).drew
 have k2 := ki.below hB
 have k3 := kj.below hB
 have kn := kk.below hB
 have k4 := Lib.hid (F6.out.kp (.of hB))
 have k5 := Lib.hid (F7.out.kp (.of hB))
 have ko := Lib.hid (Blw k6.out hB)
 clear hB
 generalize hF : ({ tmps := _, defers := _ } : Act) = F
 have ev2 : F.eval (.tmp 2) = .pointer (some ⟨w.heap.size, 0, none⟩) := by rw [← hF]; rfl
 have ev3 : F.eval (.tmp 3) = .pointer (some ⟨w.heap.size + 1, 0, none⟩) := by rw [← hF]; rfl
 have hsz : ∀ d ∈ ([(5, []), (6, [0]), (7, []), (8, [2]), (9, [1, 3]), (10, []), (11, [5]), (12, []), (13, [7]), (14, [6, 8]), (15, [9]), (16, [4, 10]), (17, [11]), (18, []), (19, [13]), (20, []), (21, [15]), (22, [14, 16]), (23, []), (24, [18]), (25, []), (26, [20]), (27, [19, 21]), (28, [17, 22]), (29, [23]), (30, [12, 24])] : List (Nat × List Nat)).map (·.1), d < F.tmps.size := by rw [← hF]; simp
 have HF := Lib.hid hF; clear hF
 refine wp_flow_tab true hW 26 [(5, []), (6, [0]), (7, []), (8, [2]), (9, [1, 3]), (10, []), (11, [5]), (12, []), (13, [7]), (14, [6, 8]), (15, [9]), (16, [4, 10]), (17, [11]), (18, []), (19, [13]), (20, []), (21, [15]), (22, [14, 16]), (23, []), (24, [18]), (25, []), (26, [20]), (27, [19, 21]), (28, [17, 22]), (29, [23]), (30, [12, 24])] [SC (.pointer (some ⟨w.heap.size, 0, none⟩)), SC (.agg #[a0, a1, a2, a3]), SC (.pointer (some ⟨w.heap.size + 1, 0, none⟩)), SC (.agg #[b0, b1, b2, b3]), SR (t.1 * u.1), SC (.pointer (some ⟨w.heap.size, 4, none⟩)), SC (.agg #[a4, a5, a6, a7]), SC (.pointer (some ⟨w.heap.size + 1, 4, none⟩)), SC (.agg #[b4, b5, b6, b7]), SR (t.2 * u.2), SR (-(t.2 * u.2)), SL [t.1 * u.1, -(t.2 * u.2)], SR (rsum [t.1 * u.1, -(t.2 * u.2)]), SC (.pointer (some ⟨w.heap.size, 4, none⟩)), SC (.agg #[a4, a5, a6, a7]), SC (.pointer (some ⟨w.heap.size + 1, 0, none⟩)), SC (.agg #[b0, b1, b2, b3]), SR (t.2 * u.1), SC (.pointer (some ⟨w.heap.size, 0, none⟩)), SC (.agg #[a0, a1, a2, a3]), SC (.pointer (some ⟨w.heap.size + 1, 4, none⟩)), SC (.agg #[b4, b5, b6, b7]), SR (t.1 * u.2), SL [t.2 * u.1, t.1 * u.2], SR (rsum [t.2 * u.1, t.1 * u.2]), SV (vrot t u)] [false, false, false, false, false, false, false, false, false, false, false, false, false, false, false, false, false, false, false, false, false, false, false, false, false, false] (by kernel_rfl) (by kernel_rfl) (by kernel_rfl) (by kernel_rfl) (by kernel_rfl) hsz ⟨SC.mono _, SC.mono _, SC.mono _, SC.mono _, SR.mono _, SC.mono _, SC.mono _, SC.mono _, SC.mono _, SR.mono _, SR.mono _, SL.mono _, SR.mono _, SC.mono _, SC.mono _, SC.mono _, SC.mono _, SR.mono _, SC.mono _, SC.mono _, SC.mono _, SC.mono _, SR.mono _, SL.mono _, SR.mono _, SV.mono _, trivial⟩ ?_ ?_
 ·intro kq hkq a wx hB hp hs
  have hcase : kq = 0 ∨ kq = 1 ∨ kq = 2 ∨ kq = 3 ∨ kq = 4 ∨ kq = 5 ∨ kq = 6 ∨ kq = 7 ∨ kq = 8 ∨ kq = 9 ∨ kq = 10 ∨ kq = 11 ∨ kq = 12 ∨ kq = 13 ∨ kq = 14 ∨ kq = 15 ∨ kq = 16 ∨ kq = 17 ∨ kq = 18 ∨ kq = 19 ∨ kq = 20 ∨ kq = 21 ∨ kq = 22 ∨ kq = 23 ∨ kq = 24 ∨ kq = 25 := by omega
  rcases hcase with rfl | rfl | rfl | rfl | rfl | rfl | rfl | rfl | rfl | rfl | rfl | rfl | rfl | rfl | rfl | rfl | rfl | rfl | rfl | rfl | rfl | rfl | rfl | rfl | rfl | rfl
  ·exact ⟨_, rfl, fa_Turn0 rfl ((hs 2 rfl).trans ev2)⟩
  ·obtain ⟨k0, -⟩ := hp
   exact ⟨_, rfl, ld_Rat rfl k0 (k2.below hB) rfl rfl rfl rfl⟩
  ·exact ⟨_, rfl, fa_Vec0 rfl ((hs 3 rfl).trans ev3)⟩
  ·obtain ⟨k0, -⟩ := hp
   exact ⟨_, rfl, ld_Rat rfl k0 (k3.below hB) rfl rfl rfl rfl⟩
  ·obtain ⟨k0, k1, -⟩ := hp
   have e0 : a.eval (.tmp 6) = .agg #[a0, a1, a2, a3] := k0
   have e1 : a.eval (.tmp 8) = .agg #[b0, b1, b2, b3] := k1
   exact ⟨_, rfl, Does.rr (f := 47) (call2 rfl (fun _ => by simp [go_sem]) e0 e1) (rmul_any (j) (k) a0 a1 a2 a3 b0 b1 b2 b3 (t.1) (u.1) wx ((k4.out.kp (.of hB))).1 ((k5.out.kp (.of hB))).1 Hba.out.1 Hbb.out.1 (by omega))⟩
  ·exact ⟨_, rfl, fa_Turn1 rfl ((hs 2 rfl).trans ev2)⟩
  ·obtain ⟨k0, -⟩ := hp
   exact ⟨_, rfl, ld_Rat rfl k0 (k2.below hB) rfl rfl rfl rfl⟩
  ·exact ⟨_, rfl, fa_Vec1 rfl ((hs 3 rfl).trans ev3)⟩
  ·obtain ⟨k0, -⟩ := hp
   exact ⟨_, rfl, ld_Rat rfl k0 (k3.below hB) rfl rfl rfl rfl⟩
  ·obtain ⟨k0, k1, -⟩ := hp
   have e0 : a.eval (.tmp 11) = .agg #[a4, a5, a6, a7] := k0
   have e1 : a.eval (.tmp 13) = .agg #[b4, b5, b6, b7] := k1
   exact ⟨_, rfl, Does.rr (f := 47) (call2 rfl (fun _ => by simp [go_sem]) e0 e1) (rmul_any (j) (k) a4 a5 a6 a7 b4 b5 b6 b7 (t.2) (u.2) wx ((k4.out.kp (.of hB))).2 ((k5.out.kp (.of hB))).2 Hba.out.2 Hbb.out.2 (by omega))⟩
  ·obtain ⟨k0, -⟩ := hp
   obtain ⟨y0, y1, y2, y3, e0, h_y⟩ := k0
   replace e0 : a.eval (.tmp 14) = .agg #[y0, y1, y2, y3] := e0
   exact ⟨_, rfl, Does.rr (f := 48) (call1 rfl (fun _ => by simp [go_sem]) e0) (rneg_any y0 y1 y2 y3 (t.2 * u.2) wx h_y)⟩
  ·obtain ⟨k0, k1, -⟩ := hp
   obtain ⟨x0, x1, x2, x3, e0, h_x⟩ := k0
   replace e0 : a.eval (.tmp 9) = .agg #[x0, x1, x2, x3] := e0
   obtain ⟨n0, n1, n2, n3, e1, h_n⟩ := k1
   replace e1 : a.eval (.tmp 15) = .agg #[n0, n1, n2, n3] := e1
   simp [Act.eval] at e0
   simp [Act.eval] at e1
   exact ⟨_, rfl, Does.two (T := 26) (by simp [execOp, Act.eval, e0, e1, go_sem]) h_x h_n⟩
  ·obtain ⟨k0, -⟩ := hp
   obtain ⟨vs11, e0⟩ : ∃ v, a.eval (.tmp 16) = v := ⟨_, rfl⟩
   have h_vs11 : RL wx vs11 [t.1 * u.1, -(t.2 * u.2)] := e0 ▸ k0
   exact ⟨_, rfl, Does.rr (f := 46) (call1 rfl (fun _ => by simp [go_sem]) e0) (psum_any (j + k) vs11 [t.1 * u.1, -(t.2 * u.2)] wx h_vs11 (two_bits (Hba.out.1.mul Hbb.out.1) (Hba.out.2.mul Hbb.out.2).neg) (by simp; omega))⟩
  ·exact ⟨_, rfl, fa_Turn1 rfl ((hs 2 rfl).trans ev2)⟩
  ·obtain ⟨k0, -⟩ := hp
   exact ⟨_, rfl, ld_Rat rfl k0 (k2.below hB) rfl rfl rfl rfl⟩
  ·exact ⟨_, rfl, fa_Vec0 rfl ((hs 3 rfl).trans ev3)⟩
  ·obtain ⟨k0, -⟩ := hp
   exact ⟨_, rfl, ld_Rat rfl k0 (k3.below hB) rfl rfl rfl rfl⟩
  ·obtain ⟨k0, k1, -⟩ := hp
   have e0 : a.eval (.tmp 19) = .agg #[a4, a5, a6, a7] := k0
   have e1 : a.eval (.tmp 21) = .agg #[b0, b1, b2, b3] := k1
   exact ⟨_, rfl, Does.rr (f := 47) (call2 rfl (fun _ => by simp [go_sem]) e0 e1) (rmul_any (j) (k) a4 a5 a6 a7 b0 b1 b2 b3 (t.2) (u.1) wx ((k4.out.kp (.of hB))).2 ((k5.out.kp (.of hB))).1 Hba.out.2 Hbb.out.1 (by omega))⟩
  ·exact ⟨_, rfl, fa_Turn0 rfl ((hs 2 rfl).trans ev2)⟩
  ·obtain ⟨k0, -⟩ := hp
   exact ⟨_, rfl, ld_Rat rfl k0 (k2.below hB) rfl rfl rfl rfl⟩
  ·exact ⟨_, rfl, fa_Vec1 rfl ((hs 3 rfl).trans ev3)⟩
  ·obtain ⟨k0, -⟩ := hp
   exact ⟨_, rfl, ld_Rat rfl k0 (k3.below hB) rfl rfl rfl rfl⟩
  ·obtain ⟨k0, k1, -⟩ := hp
   have e0 : a.eval (.tmp 24) = .agg #[a0, a1, a2, a3] := k0
   have e1 : a.eval (.tmp 26) = .agg #[b4, b5, b6, b7] := k1
   exact ⟨_, rfl, Does.rr (f := 47) (call2 rfl (fun _ => by simp [go_sem]) e0 e1) (rmul_any (j) (k) a0 a1 a2 a3 b4 b5 b6 b7 (t.1) (u.2) wx ((k4.out.kp (.of hB))).1 ((k5.out.kp (.of hB))).2 Hba.out.1 Hbb.out.2 (by omega))⟩
  ·obtain ⟨k0, k1, -⟩ := hp
   obtain ⟨m0, m1, m2, m3, e0, h_m⟩ := k0
   replace e0 : a.eval (.tmp 22) = .agg #[m0, m1, m2, m3] := e0
   obtain ⟨l0, l1, l2, l3, e1, h_l⟩ := k1
   replace e1 : a.eval (.tmp 27) = .agg #[l0, l1, l2, l3] := e1
   simp [Act.eval] at e0
   simp [Act.eval] at e1
   exact ⟨_, rfl, Does.two (T := 26) (by simp [execOp, Act.eval, e0, e1, go_sem]) h_m h_l⟩
  ·obtain ⟨k0, -⟩ := hp
   obtain ⟨vs23, e0⟩ : ∃ v, a.eval (.tmp 28) = v := ⟨_, rfl⟩
   have h_vs23 : RL wx vs23 [t.2 * u.1, t.1 * u.2] := e0 ▸ k0
   exact ⟨_, rfl, Does.rr (f := 46) (call1 rfl (fun _ => by simp [go_sem]) e0) (psum_any (j + k) vs23 [t.2 * u.1, t.1 * u.2] wx h_vs23 (two_bits (Hba.out.2.mul Hbb.out.1) (Hba.out.1.mul Hbb.out.2)) (by simp; omega))⟩
  ·obtain ⟨k0, k1, -⟩ := hp
   obtain ⟨c0, c1, c2, c3, e0, h_c⟩ := k0
   replace e0 : a.eval (.tmp 17) = .agg #[c0, c1, c2, c3] := e0
   obtain ⟨d0, d1, d2, d3, e1, h_d⟩ := k1
   replace e1 : a.eval (.tmp 29) = .agg #[d0, d1, d2, d3] := e1
   simp [Act.eval] at e0
   simp [Act.eval] at e1
   exact ⟨_, rfl, Does.val (by simp [execOp, Act.eval, e0, e1, go_sem]) ⟨c0, c1, c2, c3, d0, d1, d2, d3, rfl, ⟨by rw [show (vrot t u).1 = rsum [t.1 * u.1, -(t.2 * u.2)] from by rw [rsum_two]; exact Rat.sub_eq_add_neg _ _]; exact h_c, by rw [show (vrot t u).2 = rsum [t.2 * u.1, t.1 * u.2] from (rsum_two _ _).symm]; exact h_d⟩⟩⟩
 ·intro val wx hB hsp hdis
  obtain ⟨z0, z1, z2, z3, z4, z5, z6, z7, e25, h_z⟩ := hsp 25 (by omega)
  replace e25 : val 25 = .agg #[z0, z1, z2, z3, z4, z5, z6, z7] := e25
  rw [← HF.out]
  change wpList _ _ _ [_] _ _
  simp only [puts, vals, List.map_cons, List.map_nil, List.foldl_cons, List.foldl_nil, if_true, Nat.zero_add, Nat.reduceAdd, e25, List.setIfInBounds_toArray, List.set_cons_succ, List.set_cons_zero]
  clear hsp hdis HF hsz e25
  clear ev2 ev3
  obtain ⟨w16, rfl⟩ : ∃ W : World, W = wx := ⟨_, rfl⟩
  have k7 := kn.below hB
  have kv := Lib.hid (Blw ko.out hB)
  have kw := Lib.hid h_z
  have o_z0 := h_z.one0
  have o_z1 := h_z.one1
  have o_z2 := h_z.one2
  have o_z3 := h_z.one3
  have o_z4 := h_z.one4
  have o_z5 := h_z.one5
  have o_z6 := h_z.one6
  have o_z7 := h_z.one7
  clear h_z
  clear hB
  obtain ⟨kx, ky, kz, kA, kB, kC, kD, kE, kG, kH⟩ := k7.f8
  go_wp2
  have kc := (k7).set_ 0 (z0)
  have kd := (kc).set_ 1 (z1)
  have ke := (kd).set_ 2 (z2)
  have kf := (ke).set_ 3 (z3)
  have kg := (kf).set_ 4 (z4)
  have kh := (kg).set_ 5 (z5)
  have kF := (kh).set_ 6 (z6)
  have hkp : Kp w16 ((((((((w16.setCell ⟨w.heap.size + 1 + 1, 0, none⟩ (z0)).setCell ⟨w.heap.size + 1 + 1, 1, none⟩ (z1)).setCell ⟨w.heap.size + 1 + 1, 2, none⟩ (z2)).setCell ⟨w.heap.size + 1 + 1, 3, none⟩ (z3)).setCell ⟨w.heap.size + 1 + 1, 4, none⟩ (z4)).setCell ⟨w.heap.size + 1 + 1, 5, none⟩ (z5)).setCell ⟨w.heap.size + 1 + 1, 6, none⟩ (z6)).setCell ⟨w.heap.size + 1 + 1, 7, none⟩ (z7)) := ((((((((Kp.refl _).set_ (k7) (by decide) _).set_ (kc) (by decide) _).set_ (kd) (by decide) _).set_ (ke) (by decide) _).set_ (kf) (by decide) _).set_ (kg) (by decide) _).set_ (kh) (by decide) _).set_ (kF) (by decide) _
  refine bodyPost_ret (v := .agg #[z0, z1, z2, z3, z4, z5, z6, z7]) (by simp [results, Try.results9, go_sem, kx, ky, kz, kA, kB, kC, kD, kE]) rfl ⟨_, _, _, _, _, _, _, _, rfl, ?_, ((((((((kv.out).setCell (by simp <;> omega) _).setCell (by simp <;> omega) _).setCell (by simp <;> omega) _).setCell (by simp <;> omega) _).setCell (by simp <;> omega) _).setCell (by simp <;> omega) _).setCell (by simp <;> omega) _).setCell (by simp <;> omega) _⟩
  exact kw.out.kp hkp
set_option maxRecDepth 100000 in
theorem vaft_any (j k : Nat) (a0 a1 a2 a3 a4 a5 a6 a7 b0 b1 b2 b3 b4 b5 b6 b7 : Value) (t : Rat × Rat) (u : Rat × Rat) (w : World) (ha : VecV w a0 a1 a2 a3 a4 a5 a6 a7 t) (hb : VecV w b0 b1 b2 b3 b4 b5 b6 b7 u) (ba : Bv j t) (bb : Bv k u) (hk : 10 * (j + k) + 100 ≤ 800000000000) :
  Calls Try.prog 25 #[.agg #[a0, a1, a2, a3, a4, a5, a6, a7], .agg #[b0, b1, b2, b3, b4, b5, b6, b7]] w (RV (vrot t u) w) := by
 have qa0 := ha.one0
 have qa1 := ha.one1
 have qa2 := ha.one2
 have qa3 := ha.one3
 have qa4 := ha.one4
 have qa5 := ha.one5
 have qa6 := ha.one6
 have qa7 := ha.one7
 have qb0 := hb.one0
 have qb1 := hb.one1
 have qb2 := hb.one2
 have qb3 := hb.one3
 have qb4 := hb.one4
 have qb5 := hb.one5
 have qb6 := hb.one6
 have qb7 := hb.one7
 have Hha := Lib.hid ha; have Hhb := Lib.hid hb; have Hba := Lib.hid ba; have Hbb := Lib.hid bb
 clear ha hb ba bb
 go_enter Try.func25, Try.ntmps25
 go_upto_region 1 with fail
 obtain ⟨W1, hW⟩ : ∃ W, W = ((w.alloc (.cells #[a0, a1, a2, a3, a4, a5, a6, a7] 31)).alloc (.cells #[b0, b1, b2, b3, b4, b5, b6, b7] 31)).alloc (.cells #[.bool false, .slice none 0 0, .bool false, .slice none 0 0, .bool false, .slice none 0 0, .bool false, .slice none 0 0] 31) := ⟨_, rfl⟩
 rw [← hW]
 have k4 : Bx W1 (w.heap.size) 31 [a0, a1, a2, a3, a4, a5, a6, a7] := by rw [hW]; exact ((Bx.at_ rfl).alloc _).alloc _
 have k2 : Bx W1 (w.heap.size + 1) 31 [b0, b1, b2, b3, b4, b5, b6, b7] := by rw [hW]; exact (Bx.at_ (by simp)).alloc _
 have k6 : Bx W1 (w.heap.size + 1 + 1) 31 [.bool false, .slice none 0 0, .bool false, .slice none 0 0, .bool false, .slice none 0 0, .bool false, .slice none 0 0] := by rw [hW]; exact Bx.at_ (by simp)
 have hB : Below w.heap.size w W1 := by rw [hW]; exact (((Below.refl _ _).alloc (by simp) _).alloc (by simp) _).alloc (by simp; omega) _
 have k3 := Lib.hid hB; clear hW hB
 have F6 := Lib.hid (Hha.out.kp (.of k3.out))
 have F7 := Lib.hid (Hhb.out.kp (.of k3.out))
 go_upto_region 1 with fail
 have l8 := k4.lt
 have l9 := k2.lt
 have kT := k6.lt
 generalize hF : ({ tmps := _, defers := _ } : Act) = F
 have ev2 : F.eval (.tmp 2) = .pointer (some ⟨w.heap.size, 0, none⟩) := by rw [← hF]; rfl
 have ev3 : F.eval (.tmp 3) = .pointer (some ⟨w.heap.size + 1, 0, none⟩) := by rw [← hF]; rfl
 have hsz : ∀ d ∈ ([(6, []), (7, []), (8, [1]), (9, []), (10, [3]), (11, [2, 4]), (12, [0, 5]), (5, [])] : List (Nat × List Nat)).map (·.1), d < F.tmps.size := by rw [← hF]; simp
 have HF := Lib.hid hF; clear hF
 refine wp_flow_tab false rfl 8 [(6, []), (7, []), (8, [1]), (9, []), (10, [3]), (11, [2, 4]), (12, [0, 5]), (5, [])] [SC (.agg #[a0, a1, a2, a3, a4, a5, a6, a7]), SC (.pointer (some ⟨w.heap.size + 1, 0, none⟩)), SC (.agg #[b0, b1, b2, b3]), SC (.pointer (some ⟨w.heap.size + 1, 4, none⟩)), SC (.agg #[b4, b5, b6, b7]), SV (u), SV (vrot t u), SB W1 28 [.bool false, .slice none 0 0, .bool false, .slice none 0 0, .bool false, .slice none 0 0, .bool false, .slice none 0 0]] [false, false, false, false, false, false, false, true] (by kernel_rfl) (by kernel_rfl) (by kernel_rfl) (by kernel_rfl) (by kernel_rfl) hsz ⟨SC.mono _, SC.mono _, SC.mono _, SC.mono _, SC.mono _, SV.mono _, SV.mono _, SB.mono _ _ _, trivial⟩ ?_ ?_
 ·intro kq hkq a wx hB hp hs
  have hcase : kq = 0 ∨ kq = 1 ∨ kq = 2 ∨ kq = 3 ∨ kq = 4 ∨ kq = 5 ∨ kq = 6 ∨ kq = 7 := by omega
  rcases hcase with rfl | rfl | rfl | rfl | rfl | rfl | rfl | rfl
  ·exact ⟨_, rfl, ld_Turn rfl ((hs 2 rfl).trans ev2) (k4.below hB) rfl rfl rfl rfl rfl rfl rfl rfl⟩
  ·exact ⟨_, rfl, fa_Turn0 rfl ((hs 3 rfl).trans ev3)⟩
  ·obtain ⟨k0, -⟩ := hp
   exact ⟨_, rfl, ld_Rat rfl k0 (k2.below hB) rfl rfl rfl rfl⟩
  ·exact ⟨_, rfl, fa_Turn1 rfl ((hs 3 rfl).trans ev3)⟩
  ·obtain ⟨k0, -⟩ := hp
   exact ⟨_, rfl, ld_Rat rfl k0 (k2.below hB) rfl rfl rfl rfl⟩
  ·obtain ⟨k0, k1, -⟩ := hp
   have e0 : a.eval (.tmp 8) = .agg #[b0, b1, b2, b3] := k0
   have e1 : a.eval (.tmp 10) = .agg #[b4, b5, b6, b7] := k1
   simp [Act.eval] at e0
   simp [Act.eval] at e1
   exact ⟨_, rfl, Does.val (by simp [execOp, Act.eval, e0, e1, go_sem]) ⟨b0, b1, b2, b3, b4, b5, b6, b7, rfl, (F7.out.kp (.of hB))⟩⟩
  ·obtain ⟨k0, k1, -⟩ := hp
   have e0 : a.eval (.tmp 6) = .agg #[a0, a1, a2, a3, a4, a5, a6, a7] := k0
   obtain ⟨y0, y1, y2, y3, y4, y5, y6, y7, e1, h_y⟩ := k1
   replace e1 : a.eval (.tmp 11) = .agg #[y0, y1, y2, y3, y4, y5, y6, y7] := e1
   exact ⟨_, rfl, Does.rv (f := 9) (call2 rfl (fun _ => by simp [go_sem]) e0 e1) (vrot_any (j) (k) a0 a1 a2 a3 a4 a5 a6 a7 y0 y1 y2 y3 y4 y5 y6 y7 (t) (u) wx (F6.out.kp (.of hB)) h_y Hba.out Hbb.out (by omega))⟩
  ·clear hp
   exact ⟨_, rfl, Does.box (by simp [execOp, go_sem]) hB⟩
 ·intro val wx hB hsp hdis
  obtain ⟨x0, x1, x2, x3, x4, x5, x6, x7, e6, h_x⟩ := hsp 6 (by omega)
  replace e6 : val 6 = .agg #[x0, x1, x2, x3, x4, x5, x6, x7] := e6
  obtain ⟨g11_7, e7, hg11_7, hbx11_7⟩ := hsp 7 (by omega)
  have hgw11_7 : w.heap.size ≤ g11_7 := Nat.le_trans k3.out.size hg11_7
  have hgl11_7 := hbx11_7.lt
  rw [← HF.out]
  change wpList _ _ _ [_] _ _
  simp only [puts, vals, List.map_cons, List.map_nil, List.foldl_cons, List.foldl_nil, if_true, Nat.zero_add, Nat.reduceAdd, e6, e7, List.setIfInBounds_toArray, List.set_cons_succ, List.set_cons_zero]
  clear hsp hdis HF hsz e6 e7
  clear ev2 ev3
  obtain ⟨w12, rfl⟩ : ∃ W : World, W = wx := ⟨_, rfl⟩
  have kx := k4.below hB
  have ky := k2.below hB
  have kz := k6.below hB
  have kA := Lib.hid (Blw k3.out hB)
  have kB := Lib.hid h_x
  have o_x0 := h_x.one0
  have o_x1 := h_x.one1
  have o_x2 := h_x.one2
  have o_x3 := h_x.one3
  have o_x4 := h_x.one4
  have o_x5 := h_x.one5
  have o_x6 := h_x.one6
  have o_x7 := h_x.one7
  clear h_x
  clear hB
  obtain ⟨kU, kV, kW, kX, kY, kZ, k00, k01, k02, l29⟩ := hbx11_7.f8
  go_upto_region 2 with fail
  have kf := (hbx11_7).set_ 0 (x0)
  have kg := (kf).set_ 1 (x1)
  have kh := (kg).set_ 2 (x2)
  have ki := (kh).set_ 3 (x3)
  have kj := (ki).set_ 4 (x4)
  have kk := (kj).set_ 5 (x5)
  have kl := (kk).set_ 6 (x6)
  have kC := (kl).set_ 7 (x7)
  have hkp : Kp w12 ((((((((w12.setCell ⟨g11_7, 0, none⟩ (x0)).setCell ⟨g11_7, 1, none⟩ (x1)).setCell ⟨g11_7, 2, none⟩ (x2)).setCell ⟨g11_7, 3, none⟩ (x3)).setCell ⟨g11_7, 4, none⟩ (x4)).setCell ⟨g11_7, 5, none⟩ (x5)).setCell ⟨g11_7, 6, none⟩ (x6)).setCell ⟨g11_7, 7, none⟩ (x7)) := ((((((((Kp.refl _).set_ (hbx11_7) (by decide) _).set_ (kf) (by decide) _).set_ (kg) (by decide) _).set_ (kh) (by decide) _).set_ (ki) (by decide) _).set_ (kj) (by decide) _).set_ (kk) (by decide) _).set_ (kl) (by decide) _
  obtain ⟨W38, hW⟩ : ∃ W, W = (((((((w12.setCell ⟨g11_7, 0, none⟩ (x0)).setCell ⟨g11_7, 1, none⟩ (x1)).setCell ⟨g11_7, 2, none⟩ (x2)).setCell ⟨g11_7, 3, none⟩ (x3)).setCell ⟨g11_7, 4, none⟩ (x4)).setCell ⟨g11_7, 5, none⟩ (x5)).setCell ⟨g11_7, 6, none⟩ (x6)).setCell ⟨g11_7, 7, none⟩ (x7) := ⟨_, rfl⟩
  rw [← hW]
  rw [← hW] at hkp
  have hB : Below w.heap.size w W38 := by rw [hW]; exact ((((((((kA.out).setCell (by simp <;> omega) _).setCell (by simp <;> omega) _).setCell (by simp <;> omega) _).setCell (by simp <;> omega) _).setCell (by simp <;> omega) _).setCell (by simp <;> omega) _).setCell (by simp <;> omega) _).setCell (by simp <;> omega) _
  have kD := Lib.hid hB; clear hB
  have kE := Lib.hid (kB.out.kp hkp)
  have k04 : Bx W38 (w.heap.size) 31 [a0, a1, a2, a3, a4, a5, a6, a7] := by rw [hW]; exact ((((((((kx).far_ (g' := g11_7) (j := 0) (by omega) (x0)).far_ (g' := g11_7) (j := 1) (by omega) (x1)).far_ (g' := g11_7) (j := 2) (by omega) (x2)).far_ (g' := g11_7) (j := 3) (by omega) (x3)).far_ (g' := g11_7) (j := 4) (by omega) (x4)).far_ (g' := g11_7) (j := 5) (by omega) (x5)).far_ (g' := g11_7) (j := 6) (by omega) (x6)).far_ (g' := g11_7) (j := 7) (by omega) (x7)
  have k05 : Bx W38 (w.heap.size + 1) 31 [b0, b1, b2, b3, b4, b5, b6, b7] := by rw [hW]; exact ((((((((ky).far_ (g' := g11_7) (j := 0) (by omega) (x0)).far_ (g' := g11_7) (j := 1) (by omega) (x1)).far_ (g' := g11_7) (j := 2) (by omega) (x2)).far_ (g' := g11_7) (j := 3) (by omega) (x3)).far_ (g' := g11_7) (j := 4) (by omega) (x4)).far_ (g' := g11_7) (j := 5) (by omega) (x5)).far_ (g' := g11_7) (j := 6) (by omega) (x6)).far_ (g' := g11_7) (j := 7) (by omega) (x7)
  have kF : Bx W38 (w.heap.size + 1 + 1) 31 [.bool false, .slice none 0 0, .bool false, .slice none 0 0, .bool false, .slice none 0 0, .bool false, .slice none 0 0] := by rw [hW]; exact ((((((((kz).far_ (g' := g11_7) (j := 0) (by omega) (x0)).far_ (g' := g11_7) (j := 1) (by omega) (x1)).far_ (g' := g11_7) (j := 2) (by omega) (x2)).far_ (g' := g11_7) (j := 3) (by omega) (x3)).far_ (g' := g11_7) (j := 4) (by omega) (x4)).far_ (g' := g11_7) (j := 5) (by omega) (x5)).far_ (g' := g11_7) (j := 6) (by omega) (x6)).far_ (g' := g11_7) (j := 7) (by omega) (x7)
  have km : Bx W38 (g11_7) 28 [x0, x1, x2, x3, x4, x5, x6, x7] := by rw [hW]; exact kC
  clear hW hkp
  go_upto_region 2 with fail
  generalize hF : ({ tmps := _, defers := _ } : Act) = F
  have ev5 : F.eval (.tmp 5) = .pointer (some ⟨g11_7, 0, none⟩) := by rw [← hF]; rfl
  have hsz : ∀ d ∈ ([(13, []), (14, [0]), (15, []), (16, [2]), (17, [1, 3])] : List (Nat × List Nat)).map (·.1), d < F.tmps.size := by rw [← hF]; simp
  have HF := Lib.hid hF; clear hF
  refine wp_flow_tab false rfl 5 [(13, []), (14, [0]), (15, []), (16, [2]), (17, [1, 3])] [SC (.pointer (some ⟨g11_7, 0, none⟩)), SC (.agg #[x0, x1, x2, x3]), SC (.pointer (some ⟨g11_7, 4, none⟩)), SC (.agg #[x4, x5, x6, x7]), SV (vrot t u)] [false, false, false, false, false] (by kernel_rfl) (by kernel_rfl) (by kernel_rfl) (by kernel_rfl) (by kernel_rfl) hsz ⟨SC.mono _, SC.mono _, SC.mono _, SC.mono _, SV.mono _, trivial⟩ ?_ ?_
  ·intro kq hkq a wx hB hp hs
   have hcase : kq = 0 ∨ kq = 1 ∨ kq = 2 ∨ kq = 3 ∨ kq = 4 := by omega
   rcases hcase with rfl | rfl | rfl | rfl | rfl
   ·exact ⟨_, rfl, fa_Vec0 rfl ((hs 5 rfl).trans ev5)⟩
   ·obtain ⟨k0, -⟩ := hp
    exact ⟨_, rfl, ld_Rat rfl k0 (km.below hB) rfl rfl rfl rfl⟩
   ·exact ⟨_, rfl, fa_Vec1 rfl ((hs 5 rfl).trans ev5)⟩
   ·obtain ⟨k0, -⟩ := hp
    exact ⟨_, rfl, ld_Rat rfl k0 (km.below hB) rfl rfl rfl rfl⟩
   ·obtain ⟨k0, k1, -⟩ := hp
    have e0 : a.eval (.tmp 14) = .agg #[x0, x1, x2, x3] := k0
    have e1 : a.eval (.tmp 16) = .agg #[x4, x5, x6, x7] := k1
    simp [Act.eval] at e0
    simp [Act.eval] at e1
    exact ⟨_, rfl, Does.val (by simp [execOp, Act.eval, e0, e1, go_sem]) ⟨x0, x1, x2, x3, x4, x5, x6, x7, rfl, (kE.out.kp (.of hB))⟩⟩
  ·intro val wx hB hsp hdis
   obtain ⟨z0, z1, z2, z3, z4, z5, z6, z7, e4, h_z⟩ := hsp 4 (by omega)
   replace e4 : val 4 = .agg #[z0, z1, z2, z3, z4, z5, z6, z7] := e4
   rw [← HF.out]
   change wpList _ _ _ [_] _ _
   simp only [puts, vals, List.map_cons, List.map_nil, List.foldl_cons, List.foldl_nil, if_true, Nat.zero_add, Nat.reduceAdd, e4, List.setIfInBounds_toArray, List.set_cons_succ, List.set_cons_zero]
   clear hsp hdis HF hsz e4
   clear ev5
   obtain ⟨w48, rfl⟩ : ∃ W : World, W = wx := ⟨_, rfl⟩
   have k5 := kF.below hB
   have kG := Lib.hid (Blw kD.out hB)
   have kH := Lib.hid h_z
   have o_z0 := h_z.one0
   have o_z1 := h_z.one1
   have o_z2 := h_z.one2
   have o_z3 := h_z.one3
   have o_z4 := h_z.one4
   have o_z5 := h_z.one5
   have o_z6 := h_z.one6
   have o_z7 := h_z.one7
   clear h_z
   clear hB
   obtain ⟨kI, kJ, kK, kL, kM, kN, kO, kP, k06, l67⟩ := k5.f8
   go_wp2
   have kn := (k5).set_ 0 (z0)
   have ko := (kn).set_ 1 (z1)
   have kr := (ko).set_ 2 (z2)
   have ks := (kr).set_ 3 (z3)
   have kt := (ks).set_ 4 (z4)
   have ku := (kt).set_ 5 (z5)
   have kQ := (ku).set_ 6 (z6)
   have hkp : Kp w48 ((((((((w48.setCell ⟨w.heap.size + 1 + 1, 0, none⟩ (z0)).setCell ⟨w.heap.size + 1 + 1, 1, none⟩ (z1)).setCell ⟨w.heap.size + 1 + 1, 2, none⟩ (z2)).setCell ⟨w.heap.size + 1 + 1, 3, none⟩ (z3)).setCell ⟨w.heap.size + 1 + 1, 4, none⟩ (z4)).setCell ⟨w.heap.size + 1 + 1, 5, none⟩ (z5)).setCell ⟨w.heap.size + 1 + 1, 6, none⟩ (z6)).setCell ⟨w.heap.size + 1 + 1, 7, none⟩ (z7)) := ((((((((Kp.refl _).set_ (k5) (by decide) _).set_ (kn) (by decide) _).set_ (ko) (by decide) _).set_ (kr) (by decide) _).set_ (ks) (by decide) _).set_ (kt) (by decide) _).set_ (ku) (by decide) _).set_ (kQ) (by decide) _
   refine bodyPost_ret (v := .agg #[z0, z1, z2, z3, z4, z5, z6, z7]) (by simp [results, Try.results25, go_sem, kI, kJ, kK, kL, kM, kN, kO, kP]) rfl ⟨_, _, _, _, _, _, _, _, rfl, ?_, ((((((((kG.out).setCell (by simp <;> omega) _).setCell (by simp <;> omega) _).setCell (by simp <;> omega) _).setCell (by simp <;> omega) _).setCell (by simp <;> omega) _).setCell (by simp <;> omega) _).setCell (by simp <;> omega) _).setCell (by simp <;> omega) _⟩
   exact kH.out.kp hkp
end Go.Proofs.Ytonkbckgbfcnkaa
