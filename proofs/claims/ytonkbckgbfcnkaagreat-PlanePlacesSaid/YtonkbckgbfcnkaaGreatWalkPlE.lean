/-
 THE WALK of plane.Compose.
-/
import Derived.Test.YtonkbckgbfcnkaaGreatWalkPlD
namespace Go.Proofs.YtonkbckgbfcnkaaGreat
set_option maxHeartbeats 4000000
open Go.RowKit
attribute [local go_sem] run_store_one
set_option linter.unusedVariables false
def vcmp (p q : Pl) : Pl := (vrot p.1 q.1, vput p q.2)
/-- A place whose numbers have fewer than k bits. -/
def Bp (k : Nat) (p : Pl) : Prop := Bv k p.1 ∧ Bv k p.2
theorem Bp.put {j k : Nat} {p : Pl} {a : Rat × Rat} (h : Bp j p) (g : Bv k a) : Bv (3 * (j + k) + 2) (vput p a) := ((h.1.rot g).add h.2).mono (by omega)
theorem Bp.cmp {j k : Nat} {p q : Pl} (h : Bp j p) (g : Bp k q) : Bp (3 * (j + k) + 2) (vcmp p q) := ⟨(h.1.rot g.1).mono (by omega), h.put g.2⟩
theorem bq_m1 : Bq 2 (Rat.divInt (-1) 1) := Bq.divInt (by unfold I.Bd; decide) (by unfold I.Bd; decide) (by omega)
theorem Bp.inv {k : Nat} {p : Pl} (h : Bp k p) : Bp (4 * k + 3) (vinv p) := ⟨h.1.bak.mono (by omega), ((h.1.bak.rot h.2).sca bq_m1).mono (by omega)⟩
set_option maxRecDepth 100000 in
theorem vcmp_any (j k : Nat) (p0 p1 p2 p3 p4 p5 p6 p7 p8 p9 p10 p11 p12 p13 p14 p15 q0 q1 q2 q3 q4 q5 q6 q7 q8 q9 q10 q11 q12 q13 q14 q15 : Value) (p q : Pl) (w : World) (hp : PlaceV w p0 p1 p2 p3 p4 p5 p6 p7 p8 p9 p10 p11 p12 p13 p14 p15 p) (hq : PlaceV w q0 q1 q2 q3 q4 q5 q6 q7 q8 q9 q10 q11 q12 q13 q14 q15 q) (bp : Bp j p) (bq : Bp k q) (hk : 400 * (j + k) + 1000 ≤ 800000000000) :
  Calls Tryz.prog 7 #[.agg #[p0, p1, p2, p3, p4, p5, p6, p7, p8, p9, p10, p11, p12, p13, p14, p15], .agg #[q0, q1, q2, q3, q4, q5, q6, q7, q8, q9, q10, q11, q12, q13, q14, q15]] w (RPl (vcmp p q) w) := by
 obtain ⟨o0, o1, o2, o3, o4, o5, o6, o7, o8, o9, o10, o11, o12, o13, o14, o15⟩ := hp.ones
 obtain ⟨r0, r1, r2, r3, r4, r5, r6, r7, r8, r9, r10, r11, r12, r13, r14, r15⟩ := hq.ones
 have HP := Lib.hid hp; have HQ := Lib.hid hq; have HBP := Lib.hid bp; have HBQ := Lib.hid bq
 clear hp hq bp bq
 go_enter Tryz.func7, Tryz.ntmps7
 go_upto_region 1 with fail
 generalize hW : ((w.alloc _).alloc _).alloc _ = W1
 obtain ⟨k8, k9, ka, hB⟩ := box3 hW
 have k2 := Lib.hid hB; clear hW hB
 have F6 := Lib.hid (HP.out.kp (.of k2.out))
 have F7 := Lib.hid (HQ.out.kp (.of k2.out))
 go_upto_region 1 with fail
 generalize hW : W1.drew = W8
 have hB : Below W1.heap.size W1 W8 := by rw [← hW]; exact (Below.refl _ _).drew
 have k4 := k8.below hB
 have k5 := k9.below hB
 have kd := ka.below hB
 have k3 := Lib.hid (F6.out.kp (.of hB))
 have k6 := Lib.hid (F7.out.kp (.of hB))
 have ke := Lib.hid (Blw k2.out hB)
 clear hB
 generalize hF : ({ tmps := _, defers := _ } : Act) = F
 have ev2 : F.eval (.tmp 2) = .pointer (some ⟨w.heap.size, 0, none⟩) := by rw [← hF]; rfl
 have ev3 : F.eval (.tmp 3) = .pointer (some ⟨w.heap.size + 1, 0, none⟩) := by rw [← hF]; rfl
 have HF := Lib.hid hF; clear hF
 refine wp_flow_tab true hW 11 [(5, []), (6, [0]), (7, []), (8, [2]), (9, [1, 3]), (10, []), (11, [5]), (12, []), (13, [7]), (14, [6, 8]), (15, [4, 9])] [SC (.pointer (some ⟨w.heap.size, 0, none⟩)), SC (.agg #[p0, p1, p2, p3, p4, p5, p6, p7]), SC (.pointer (some ⟨w.heap.size + 1, 0, none⟩)), SC (.agg #[q0, q1, q2, q3, q4, q5, q6, q7]), SV (vrot p.1 q.1), SC (.agg #[p0, p1, p2, p3, p4, p5, p6, p7, p8, p9, p10, p11, p12, p13, p14, p15]), SCl 59 32 [p0, p1, p2, p3, p4, p5, p6, p7, p8, p9, p10, p11, p12, p13, p14, p15], SC (.pointer (some ⟨w.heap.size + 1, 8, none⟩)), SC (.agg #[q8, q9, q10, q11, q12, q13, q14, q15]), SV (vput p q.2), SPl (vcmp p q)] [false, false, false, false, false, false, false, false, false, false, false] (by kernel_rfl) (by kernel_rfl) (by kernel_rfl) (by kernel_rfl) (by kernel_rfl) (by rw [← HF.out]; simp) ⟨SC.mono _, SC.mono _, SC.mono _, SC.mono _, SV.mono _, SC.mono _, SCl.mono _ _ _, SC.mono _, SC.mono _, SV.mono _, SPl.mono _, trivial⟩ ?_ ?_
 ·intro kq hkq a wx hB hp hs
  have hcase : kq = 0 ∨ kq = 1 ∨ kq = 2 ∨ kq = 3 ∨ kq = 4 ∨ kq = 5 ∨ kq = 6 ∨ kq = 7 ∨ kq = 8 ∨ kq = 9 ∨ kq = 10 := by omega
  rcases hcase with rfl | rfl | rfl | rfl | rfl | rfl | rfl | rfl | rfl | rfl | rfl
  ·exact ⟨_, rfl, fa_Place0 rfl ((hs 2 rfl).trans ev2)⟩
  ·obtain ⟨k0, -⟩ := hp
   exact ⟨_, rfl, ld_Turn rfl k0 (k4.below hB) rfl rfl rfl rfl rfl rfl rfl rfl⟩
  ·exact ⟨_, rfl, fa_Place0 rfl ((hs 3 rfl).trans ev3)⟩
  ·obtain ⟨k0, -⟩ := hp
   exact ⟨_, rfl, ld_Turn rfl k0 (k5.below hB) rfl rfl rfl rfl rfl rfl rfl rfl⟩
  ·obtain ⟨k0, k1, -⟩ := hp
   exact ⟨_, rfl, Does.rv (f := 29) (call2 rfl (fun _ => by simp [go_sem]) k0 k1) (vaft_any (j) (k) p0 p1 p2 p3 p4 p5 p6 p7 q0 q1 q2 q3 q4 q5 q6 q7 (p.1) (q.1) wx ((k3.out.kp (.of hB))).1 ((k6.out.kp (.of hB))).1 HBP.out.1 HBQ.out.1 (by omega))⟩
  ·exact ⟨_, rfl, ld_Place rfl ((hs 2 rfl).trans ev2) (k4.below hB) rfl rfl rfl rfl rfl rfl rfl rfl rfl rfl rfl rfl rfl rfl rfl rfl⟩
  ·obtain ⟨k0, -⟩ := hp
   have e0 : a.eval (.tmp 10) = .agg #[p0, p1, p2, p3, p4, p5, p6, p7, p8, p9, p10, p11, p12, p13, p14, p15] := k0
   simp [Act.eval] at e0
   exact ⟨_, rfl, .inr ⟨rfl, 30, #[.agg #[p0, p1, p2, p3, p4, p5, p6, p7, p8, p9, p10, p11, p12, p13, p14, p15]], by simp [execOp, Act.eval, e0, go_sem], mover_any p0 p1 p2 p3 p4 p5 p6 p7 p8 p9 p10 p11 p12 p13 p14 p15 p wx (k3.out.kp (.of hB))⟩⟩
  ·exact ⟨_, rfl, fa_Place1 rfl ((hs 3 rfl).trans ev3)⟩
  ·obtain ⟨k0, -⟩ := hp
   exact ⟨_, rfl, ld_Vec rfl k0 (k5.below hB) rfl rfl rfl rfl rfl rfl rfl rfl⟩
  ·obtain ⟨k0, k1, -⟩ := hp
   obtain ⟨gm, e0, hgm⟩ := k0
   replace e0 : a.eval (.tmp 11) = .func (.func 59) #[] #[.pointer (some ⟨gm, 0, none⟩)] := e0
   have e1 : a.eval (.tmp 13) = .agg #[q8, q9, q10, q11, q12, q13, q14, q15] := k1
   simp [Act.eval] at e0
   simp [Act.eval] at e1
   exact ⟨_, rfl, Does.rv (f := 59) (args := #[.agg #[q8, q9, q10, q11, q12, q13, q14, q15], .pointer (some ⟨gm, 0, none⟩)]) (by simp [execOp, Act.eval, e0, e1, go_sem]) (mover1_any j k gm p0 p1 p2 p3 p4 p5 p6 p7 p8 p9 p10 p11 p12 p13 p14 p15 q8 q9 q10 q11 q12 q13 q14 q15 p q.2 wx hgm (k3.out.kp (.of hB)) (k6.out.kp (.of hB)).2 HBP.out HBQ.out.2 (by omega))⟩
  ·obtain ⟨k0, k1, -⟩ := hp
   obtain ⟨t0, t1, t2, t3, t4, t5, t6, t7, e0, h_t⟩ := k0
   replace e0 : a.eval (.tmp 9) = .agg #[t0, t1, t2, t3, t4, t5, t6, t7] := e0
   obtain ⟨x0, x1, x2, x3, x4, x5, x6, x7, e1, h_x⟩ := k1
   replace e1 : a.eval (.tmp 14) = .agg #[x0, x1, x2, x3, x4, x5, x6, x7] := e1
   simp [Act.eval] at e0
   simp [Act.eval] at e1
   exact ⟨_, rfl, Does.val (by simp [execOp, Act.eval, e0, e1, go_sem]) ⟨t0, t1, t2, t3, t4, t5, t6, t7, x0, x1, x2, x3, x4, x5, x6, x7, rfl, ⟨h_t, h_x⟩⟩⟩
 ·intro val wx hB hsp hdis
  obtain ⟨z0, z1, z2, z3, z4, z5, z6, z7, z8, z9, z10, z11, z12, z13, z14, z15, e10, h_z⟩ := hsp 10 (by omega)
  replace e10 : val 10 = .agg #[z0, z1, z2, z3, z4, z5, z6, z7, z8, z9, z10, z11, z12, z13, z14, z15] := e10
  rw [← HF.out]
  change wpList _ _ _ [_] _ _
  simp only [puts, vals, List.map_cons, List.map_nil, List.foldl_cons, List.foldl_nil, if_true, Nat.zero_add, Nat.reduceAdd, e10, List.setIfInBounds_toArray, List.set_cons_succ, List.set_cons_zero]
  clear hsp hdis HF e10
  clear ev2 ev3
  obtain ⟨w16, rfl⟩ : ∃ W : World, W = wx := ⟨_, rfl⟩
  have k7 := kd.below hB
  have kf := Lib.hid (Blw ke.out hB)
  have kg := Lib.hid h_z
  obtain ⟨o_z0, o_z1, o_z2, o_z3, o_z4, o_z5, o_z6, o_z7, o_z8, o_z9, o_z10, o_z11, o_z12, o_z13, o_z14, o_z15⟩ := h_z.ones
  clear h_z
  clear hB
  obtain ⟨kh, ki, kj, kk, kl, km, kn, ko, kr, ks, kt, ku, kv, kw, kx, ky, kz, kA⟩ := k7.f16
  go_wp2
  have hkp := (Kp.refl w16).t16 (k7) z0 z1 z2 z3 z4 z5 z6 z7 z8 z9 z10 z11 z12 z13 z14 z15
  refine bodyPost_ret (v := .agg #[z0, z1, z2, z3, z4, z5, z6, z7, z8, z9, z10, z11, z12, z13, z14, z15]) (by simp [results, Tryz.results7, go_sem, kh, ki, kj, kk, kl, km, kn, ko, kr, ks, kt, ku, kv, kw, kx, ky]) rfl ⟨_, _, _, _, _, _, _, _, _, _, _, _, _, _, _, _, rfl, ?_, bel16 (kf.out) (by first | simp | omega)⟩
  exact kg.out.kp hkp
end Go.Proofs.YtonkbckgbfcnkaaGreat
