/-
 THE WALKS of package plane: mover, Put, Inverse, Side.
-/
import Derived.Test.YtonkbckgbfcnkaaWalkPlB
namespace Go.Proofs.Ytonkbckgbfcnkaa
set_option maxHeartbeats 4000000
open Go.RowKit
attribute [local go_sem] run_store_one
set_option linter.unusedVariables false
section
variable {w w' : World} {a0 a1 a2 a3 a4 a5 a6 a7 a8 a9 a10 a11 a12 a13 a14 a15 : Value} {p : Pl}
theorem PlaceV.kp (H : PlaceV w a0 a1 a2 a3 a4 a5 a6 a7 a8 a9 a10 a11 a12 a13 a14 a15 p) (k : Kp w w') : PlaceV w' a0 a1 a2 a3 a4 a5 a6 a7 a8 a9 a10 a11 a12 a13 a14 a15 p := ⟨H.1.kp k, H.2.kp k⟩
theorem PlaceV.below (H : PlaceV w a0 a1 a2 a3 a4 a5 a6 a7 a8 a9 a10 a11 a12 a13 a14 a15 p) (hb : Below w.heap.size w w') : PlaceV w' a0 a1 a2 a3 a4 a5 a6 a7 a8 a9 a10 a11 a12 a13 a14 a15 p := H.kp (.of hb)
theorem PlaceV.one0 (H : PlaceV w a0 a1 a2 a3 a4 a5 a6 a7 a8 a9 a10 a11 a12 a13 a14 a15 p) : a0.oneCell' = true := H.1.one0
theorem PlaceV.one1 (H : PlaceV w a0 a1 a2 a3 a4 a5 a6 a7 a8 a9 a10 a11 a12 a13 a14 a15 p) : a1.oneCell' = true := H.1.one1
theorem PlaceV.one2 (H : PlaceV w a0 a1 a2 a3 a4 a5 a6 a7 a8 a9 a10 a11 a12 a13 a14 a15 p) : a2.oneCell' = true := H.1.one2
theorem PlaceV.one3 (H : PlaceV w a0 a1 a2 a3 a4 a5 a6 a7 a8 a9 a10 a11 a12 a13 a14 a15 p) : a3.oneCell' = true := H.1.one3
theorem PlaceV.one4 (H : PlaceV w a0 a1 a2 a3 a4 a5 a6 a7 a8 a9 a10 a11 a12 a13 a14 a15 p) : a4.oneCell' = true := H.1.one4
theorem PlaceV.one5 (H : PlaceV w a0 a1 a2 a3 a4 a5 a6 a7 a8 a9 a10 a11 a12 a13 a14 a15 p) : a5.oneCell' = true := H.1.one5
theorem PlaceV.one6 (H : PlaceV w a0 a1 a2 a3 a4 a5 a6 a7 a8 a9 a10 a11 a12 a13 a14 a15 p) : a6.oneCell' = true := H.1.one6
theorem PlaceV.one7 (H : PlaceV w a0 a1 a2 a3 a4 a5 a6 a7 a8 a9 a10 a11 a12 a13 a14 a15 p) : a7.oneCell' = true := H.1.one7
theorem PlaceV.one8 (H : PlaceV w a0 a1 a2 a3 a4 a5 a6 a7 a8 a9 a10 a11 a12 a13 a14 a15 p) : a8.oneCell' = true := H.2.one0
theorem PlaceV.one9 (H : PlaceV w a0 a1 a2 a3 a4 a5 a6 a7 a8 a9 a10 a11 a12 a13 a14 a15 p) : a9.oneCell' = true := H.2.one1
theorem PlaceV.one10 (H : PlaceV w a0 a1 a2 a3 a4 a5 a6 a7 a8 a9 a10 a11 a12 a13 a14 a15 p) : a10.oneCell' = true := H.2.one2
theorem PlaceV.one11 (H : PlaceV w a0 a1 a2 a3 a4 a5 a6 a7 a8 a9 a10 a11 a12 a13 a14 a15 p) : a11.oneCell' = true := H.2.one3
theorem PlaceV.one12 (H : PlaceV w a0 a1 a2 a3 a4 a5 a6 a7 a8 a9 a10 a11 a12 a13 a14 a15 p) : a12.oneCell' = true := H.2.one4
theorem PlaceV.one13 (H : PlaceV w a0 a1 a2 a3 a4 a5 a6 a7 a8 a9 a10 a11 a12 a13 a14 a15 p) : a13.oneCell' = true := H.2.one5
theorem PlaceV.one14 (H : PlaceV w a0 a1 a2 a3 a4 a5 a6 a7 a8 a9 a10 a11 a12 a13 a14 a15 p) : a14.oneCell' = true := H.2.one6
theorem PlaceV.one15 (H : PlaceV w a0 a1 a2 a3 a4 a5 a6 a7 a8 a9 a10 a11 a12 a13 a14 a15 p) : a15.oneCell' = true := H.2.one7
end
theorem PlaceV.ones {w : World} {a0 a1 a2 a3 a4 a5 a6 a7 a8 a9 a10 a11 a12 a13 a14 a15 : Value} {x : Pl} (H : PlaceV w a0 a1 a2 a3 a4 a5 a6 a7 a8 a9 a10 a11 a12 a13 a14 a15 x) : a0.oneCell' = true ∧ a1.oneCell' = true ∧ a2.oneCell' = true ∧ a3.oneCell' = true ∧ a4.oneCell' = true ∧ a5.oneCell' = true ∧ a6.oneCell' = true ∧ a7.oneCell' = true ∧ a8.oneCell' = true ∧ a9.oneCell' = true ∧ a10.oneCell' = true ∧ a11.oneCell' = true ∧ a12.oneCell' = true ∧ a13.oneCell' = true ∧ a14.oneCell' = true ∧ a15.oneCell' = true := ⟨H.one0, H.one1, H.one2, H.one3, H.one4, H.one5, H.one6, H.one7, H.one8, H.one9, H.one10, H.one11, H.one12, H.one13, H.one14, H.one15⟩
def SPl (p : Pl) : Sp := fun w u => ∃ a0 a1 a2 a3 a4 a5 a6 a7 a8 a9 a10 a11 a12 a13 a14 a15, u = .agg #[a0, a1, a2, a3, a4, a5, a6, a7, a8, a9, a10, a11, a12, a13, a14, a15] ∧ PlaceV w a0 a1 a2 a3 a4 a5 a6 a7 a8 a9 a10 a11 a12 a13 a14 a15 p
theorem SPl.mono (p : Pl) : Mono (SPl p) := fun _ _ _ ⟨a0, a1, a2, a3, a4, a5, a6, a7, a8, a9, a10, a11, a12, a13, a14, a15, h1, h2⟩ hb => ⟨a0, a1, a2, a3, a4, a5, a6, a7, a8, a9, a10, a11, a12, a13, a14, a15, h1, h2.below hb⟩
/-- What returns a place. -/
def RPl (p : Pl) (w : World) (e : Ending) (w' : World) : Prop := ∃ a0 a1 a2 a3 a4 a5 a6 a7 a8 a9 a10 a11 a12 a13 a14 a15, e = .returned (.agg #[a0, a1, a2, a3, a4, a5, a6, a7, a8, a9, a10, a11, a12, a13, a14, a15]) ∧ PlaceV w' a0 a1 a2 a3 a4 a5 a6 a7 a8 a9 a10 a11 a12 a13 a14 a15 p ∧ Below w.heap.size w w'
theorem Does.rp {P : Program} {o : Oper} {a : Act} {wx : World} {f : FuncId} {args : Array Value} {p : Pl} (hr : (execOp a.eval o).run P wx = .ok (.enter f args) wx) (hc : Calls P f args wx (RPl p wx)) : Does P o (SPl p) false a wx :=
 .inr ⟨rfl, f, args, hr, hc.mono fun _ _ ⟨a0, a1, a2, a3, a4, a5, a6, a7, a8, a9, a10, a11, a12, a13, a14, a15, h1, h2, h3⟩ => ⟨_, h1, h3, a0, a1, a2, a3, a4, a5, a6, a7, a8, a9, a10, a11, a12, a13, a14, a15, rfl, h2⟩⟩
/-- A closure over a box. -/
def SCl (f : FuncId) (T : Nat) (cs : List Value) : Sp := fun w v => ∃ g, v = .func (.func f) #[] #[.pointer (some ⟨g, 0, none⟩)] ∧ Bx w g T cs
theorem SCl.mono (f : FuncId) (T : Nat) (cs : List Value) : Mono (SCl f T cs) := fun _ _ _ ⟨g, h1, h2⟩ hb => ⟨g, h1, h2.below hb⟩
def vput (p : Pl) (a : Rat × Rat) : Rat × Rat := vadd (vrot p.1 a) p.2
def vinv (p : Pl) : Pl := (vbak p.1, vsca (vrot (vbak p.1) p.2) (Rat.divInt (-1) 1))
def vside (a b c : Rat × Rat) : Int := sgnZ (vcrs (vsub b a) (vsub c a)).num
set_option maxRecDepth 100000 in
theorem mover_any (p0 p1 p2 p3 p4 p5 p6 p7 p8 p9 p10 p11 p12 p13 p14 p15 : Value) (p : Pl) (w : World) (hp : PlaceV w p0 p1 p2 p3 p4 p5 p6 p7 p8 p9 p10 p11 p12 p13 p14 p15 p) : Calls Try.prog 81 #[.agg #[p0, p1, p2, p3, p4, p5, p6, p7, p8, p9, p10, p11, p12, p13, p14, p15]] w fun e w' => ∃ v, e = .returned v ∧ Below w.heap.size w w' ∧ SCl 97 62 [p0, p1, p2, p3, p4, p5, p6, p7, p8, p9, p10, p11, p12, p13, p14, p15] w' v := by
 obtain ⟨o0, o1, o2, o3, o4, o5, o6, o7, o8, o9, o10, o11, o12, o13, o14, o15⟩ := hp.ones
 clear hp
 go_enter Try.func81, Try.ntmps81
 go_wp2
 go_ret
 exact ⟨_, rfl, (Below.refl _ _).alloc (Nat.le_refl _) _, w.heap.size, rfl, Bx.new w _ _⟩
set_option maxRecDepth 100000 in
theorem mover1_any (j k : Nat) (gp : Nat) (p0 p1 p2 p3 p4 p5 p6 p7 p8 p9 p10 p11 p12 p13 p14 p15 a0 a1 a2 a3 a4 a5 a6 a7 : Value) (p : Pl) (v : Rat × Rat) (w : World) (hx : Bx w gp 62 [p0, p1, p2, p3, p4, p5, p6, p7, p8, p9, p10, p11, p12, p13, p14, p15]) (hp : PlaceV w p0 p1 p2 p3 p4 p5 p6 p7 p8 p9 p10 p11 p12 p13 p14 p15 p) (ha : VecV w a0 a1 a2 a3 a4 a5 a6 a7 v) (bp : Bv j p.1 ∧ Bv j p.2) (ba : Bv k v) (hk : 40 * (j + k) + 100 ≤ 800000000000) :
  Calls Try.prog 97 #[.agg #[a0, a1, a2, a3, a4, a5, a6, a7], .pointer (some ⟨gp, 0, none⟩)] w (RV (vput p v) w) := by
 obtain ⟨qa0, qa1, qa2, qa3, qa4, qa5, qa6, qa7⟩ := ha.ones
 have HX := Lib.hid hx; have HP := Lib.hid hp; have HA := Lib.hid ha; have HBP := Lib.hid bp; have HBA := Lib.hid ba
 have hgl := hx.lt
 clear hx hp ha bp ba
 go_enter Try.func97, Try.ntmps97
 go_wp2_with fail
 generalize hW : (w.alloc _).alloc _ = W1
 obtain ⟨k6, k7, hB⟩ := box2 hW
 have k1 := Lib.hid hB; clear hW hB
 have F5 := Lib.hid (HP.out.kp (.of k1.out))
 have F6 := Lib.hid (HA.out.kp (.of k1.out))
 have hxp := HX.out.below k1.out
 go_upto_region 1 with fail
 generalize hW : W1.drew = W7
 have hB : Below W1.heap.size W1 W7 := by rw [← hW]; exact (Below.refl _ _).drew
 have ka := k6.below hB
 have kb := k7.below hB
 have k3 := hxp.below hB
 have k4 := Lib.hid (F5.out.kp (.of hB))
 have kc := Lib.hid (F6.out.kp (.of hB))
 have kd := Lib.hid (Blw k1.out hB)
 clear hB
 generalize hF : ({ tmps := _, defers := _ } : Act) = F
 have ev1 : F.eval (.tmp 1) = .pointer (some ⟨gp, 0, none⟩) := by rw [← hF]; rfl
 have ev2 : F.eval (.tmp 2) = .pointer (some ⟨w.heap.size, 0, none⟩) := by rw [← hF]; rfl
 have HF := Lib.hid hF; clear hF
 refine wp_flow_tab true hW 7 [(4, []), (5, [0]), (6, []), (7, [1, 2]), (8, []), (9, [4]), (10, [3, 5])] [SC (.pointer (some ⟨gp, 0, none⟩)), SC (.agg #[p0, p1, p2, p3, p4, p5, p6, p7]), SC (.agg #[a0, a1, a2, a3, a4, a5, a6, a7]), SV (vrot p.1 v), SC (.pointer (some ⟨gp, 8, none⟩)), SC (.agg #[p8, p9, p10, p11, p12, p13, p14, p15]), SV (vadd (vrot p.1 v) p.2)] [false, false, false, false, false, false, false] (by kernel_rfl) (by kernel_rfl) (by kernel_rfl) (by kernel_rfl) (by kernel_rfl) (by rw [← HF.out]; simp) ⟨SC.mono _, SC.mono _, SC.mono _, SV.mono _, SC.mono _, SC.mono _, SV.mono _, trivial⟩ ?_ ?_
 ·intro kq hkq a wx hB hp hs
  have hcase : kq = 0 ∨ kq = 1 ∨ kq = 2 ∨ kq = 3 ∨ kq = 4 ∨ kq = 5 ∨ kq = 6 := by omega
  rcases hcase with rfl | rfl | rfl | rfl | rfl | rfl | rfl
  ·exact ⟨_, rfl, fa_Place0 rfl ((hs 1 rfl).trans ev1)⟩
  ·obtain ⟨k0, -⟩ := hp
   exact ⟨_, rfl, ld_Turn rfl k0 (k3.below hB) rfl rfl rfl rfl rfl rfl rfl rfl⟩
  ·exact ⟨_, rfl, ld_Vec rfl ((hs 2 rfl).trans ev2) (ka.below hB) rfl rfl rfl rfl rfl rfl rfl rfl⟩
  ·obtain ⟨k0, k2, -⟩ := hp
   exact ⟨_, rfl, Does.rv (f := 9) (call2 rfl (fun _ => by simp [go_sem]) k0 k2) (vrot_any (j) (k) p0 p1 p2 p3 p4 p5 p6 p7 a0 a1 a2 a3 a4 a5 a6 a7 (p.1) (v) wx ((k4.out.kp (.of hB))).1 (kc.out.kp (.of hB)) HBP.out.1 HBA.out (by omega))⟩
  ·exact ⟨_, rfl, fa_Place1 rfl ((hs 1 rfl).trans ev1)⟩
  ·obtain ⟨k0, -⟩ := hp
   exact ⟨_, rfl, ld_Vec rfl k0 (k3.below hB) rfl rfl rfl rfl rfl rfl rfl rfl⟩
  ·obtain ⟨k0, k2, -⟩ := hp
   obtain ⟨x0, x1, x2, x3, x4, x5, x6, x7, e0, h_x⟩ := k0
   replace e0 : a.eval (.tmp 7) = .agg #[x0, x1, x2, x3, x4, x5, x6, x7] := e0
   exact ⟨_, rfl, Does.rv (f := 31) (call2 rfl (fun _ => by simp [go_sem]) e0 k2) (vadd_any (2 * (j + k) + 1) (j) x0 x1 x2 x3 x4 x5 x6 x7 p8 p9 p10 p11 p12 p13 p14 p15 (vrot p.1 v) (p.2) wx h_x ((k4.out.kp (.of hB))).2 (HBP.out.1.rot HBA.out) HBP.out.2 (by omega))⟩
 ·intro val wx hB hsp hdis
  obtain ⟨z0, z1, z2, z3, z4, z5, z6, z7, e6, h_z⟩ := hsp 6 (by omega)
  replace e6 : val 6 = .agg #[z0, z1, z2, z3, z4, z5, z6, z7] := e6
  rw [← HF.out]
  change wpList _ _ _ [_] _ _
  simp only [puts, vals, List.map_cons, List.map_nil, List.foldl_cons, List.foldl_nil, if_true, Nat.zero_add, Nat.reduceAdd, e6, List.setIfInBounds_toArray, List.set_cons_succ, List.set_cons_zero]
  clear hsp hdis HF e6
  clear ev1 ev2
  obtain ⟨w15, rfl⟩ : ∃ W : World, W = wx := ⟨_, rfl⟩
  have k5 := kb.below hB
  have ke := Lib.hid (Blw kd.out hB)
  have kf := Lib.hid h_z
  obtain ⟨o_z0, o_z1, o_z2, o_z3, o_z4, o_z5, o_z6, o_z7⟩ := h_z.ones
  clear h_z
  clear hB
  obtain ⟨kg, kh, ki, kj, kk, kl, km, kn, ko, kr⟩ := k5.f8
  go_wp2
  have hkp := (Kp.refl w15).t8 (k5) z0 z1 z2 z3 z4 z5 z6 z7
  refine bodyPost_ret (v := .agg #[z0, z1, z2, z3, z4, z5, z6, z7]) (by simp [results, Try.results97, go_sem, kg, kh, ki, kj, kk, kl, km, kn]) rfl ⟨_, _, _, _, _, _, _, _, rfl, ?_, bel8 (ke.out) (by first | simp | omega)⟩
  exact kf.out.kp hkp
set_option maxRecDepth 100000 in
theorem vput_any (j k : Nat) (p0 p1 p2 p3 p4 p5 p6 p7 p8 p9 p10 p11 p12 p13 p14 p15 a0 a1 a2 a3 a4 a5 a6 a7 : Value) (p : Pl) (v : Rat × Rat) (w : World) (hp : PlaceV w p0 p1 p2 p3 p4 p5 p6 p7 p8 p9 p10 p11 p12 p13 p14 p15 p) (ha : VecV w a0 a1 a2 a3 a4 a5 a6 a7 v) (bp : Bv j p.1 ∧ Bv j p.2) (ba : Bv k v) (hk : 40 * (j + k) + 100 ≤ 800000000000) :
  Calls Try.prog 54 #[.agg #[p0, p1, p2, p3, p4, p5, p6, p7, p8, p9, p10, p11, p12, p13, p14, p15], .agg #[a0, a1, a2, a3, a4, a5, a6, a7]] w (RV (vput p v) w) := by
 obtain ⟨qa0, qa1, qa2, qa3, qa4, qa5, qa6, qa7⟩ := ha.ones
 obtain ⟨o0, o1, o2, o3, o4, o5, o6, o7, o8, o9, o10, o11, o12, o13, o14, o15⟩ := hp.ones
 have HP := Lib.hid hp; have HA := Lib.hid ha; have HBP := Lib.hid bp; have HBA := Lib.hid ba
 clear hp ha bp ba
 go_enter Try.func54, Try.ntmps54
 go_wp2_with fail
 generalize hW : ((w.alloc _).alloc _).alloc _ = W1
 obtain ⟨k4, k5, k6, hB⟩ := box3 hW
 have k0 := Lib.hid hB; clear hW hB
 have F6 := Lib.hid (HP.out.kp (.of k0.out))
 have F7 := Lib.hid (HA.out.kp (.of k0.out))
 go_upto_region 1 with fail
 generalize hW : W1.drew = W8
 have hB : Below W1.heap.size W1 W8 := by rw [← hW]; exact (Below.refl _ _).drew
 have k9 := k4.below hB
 have ka := k5.below hB
 have kb := k6.below hB
 have k2 := Lib.hid (F6.out.kp (.of hB))
 have kc := Lib.hid (F7.out.kp (.of hB))
 have kd := Lib.hid (Blw k0.out hB)
 clear hB
 generalize hF : ({ tmps := _, defers := _ } : Act) = F
 have ev2 : F.eval (.tmp 2) = .pointer (some ⟨w.heap.size, 0, none⟩) := by rw [← hF]; rfl
 have ev3 : F.eval (.tmp 3) = .pointer (some ⟨w.heap.size + 1, 0, none⟩) := by rw [← hF]; rfl
 have HF := Lib.hid hF; clear hF
 refine wp_flow_tab true hW 4 [(5, []), (6, [0]), (7, []), (8, [1, 2])] [SC (.agg #[p0, p1, p2, p3, p4, p5, p6, p7, p8, p9, p10, p11, p12, p13, p14, p15]), SCl 97 62 [p0, p1, p2, p3, p4, p5, p6, p7, p8, p9, p10, p11, p12, p13, p14, p15], SC (.agg #[a0, a1, a2, a3, a4, a5, a6, a7]), SV (vput p v)] [false, false, false, false] (by kernel_rfl) (by kernel_rfl) (by kernel_rfl) (by kernel_rfl) (by kernel_rfl) (by rw [← HF.out]; simp) ⟨SC.mono _, SCl.mono _ _ _, SC.mono _, SV.mono _, trivial⟩ ?_ ?_
 ·intro kq hkq a wx hB hp hs
  have hcase : kq = 0 ∨ kq = 1 ∨ kq = 2 ∨ kq = 3 := by omega
  rcases hcase with rfl | rfl | rfl | rfl
  ·exact ⟨_, rfl, ld_Place rfl ((hs 2 rfl).trans ev2) (k9.below hB) rfl rfl rfl rfl rfl rfl rfl rfl rfl rfl rfl rfl rfl rfl rfl rfl⟩
  ·obtain ⟨k1, -⟩ := hp
   have e0 : a.eval (.tmp 5) = .agg #[p0, p1, p2, p3, p4, p5, p6, p7, p8, p9, p10, p11, p12, p13, p14, p15] := k1
   simp [Act.eval] at e0
   exact ⟨_, rfl, .inr ⟨rfl, 81, #[.agg #[p0, p1, p2, p3, p4, p5, p6, p7, p8, p9, p10, p11, p12, p13, p14, p15]], by simp [execOp, Act.eval, e0, go_sem], mover_any p0 p1 p2 p3 p4 p5 p6 p7 p8 p9 p10 p11 p12 p13 p14 p15 p wx (k2.out.kp (.of hB))⟩⟩
  ·exact ⟨_, rfl, ld_Vec rfl ((hs 3 rfl).trans ev3) (ka.below hB) rfl rfl rfl rfl rfl rfl rfl rfl⟩
  ·obtain ⟨k1, ke, -⟩ := hp
   obtain ⟨gm, e0, hgm⟩ := k1
   replace e0 : a.eval (.tmp 6) = .func (.func 97) #[] #[.pointer (some ⟨gm, 0, none⟩)] := e0
   have e1 : a.eval (.tmp 7) = .agg #[a0, a1, a2, a3, a4, a5, a6, a7] := ke
   simp [Act.eval] at e0
   simp [Act.eval] at e1
   exact ⟨_, rfl, Does.rv (f := 97) (args := #[.agg #[a0, a1, a2, a3, a4, a5, a6, a7], .pointer (some ⟨gm, 0, none⟩)]) (by simp [execOp, Act.eval, e0, e1, go_sem]) (mover1_any j k gm p0 p1 p2 p3 p4 p5 p6 p7 p8 p9 p10 p11 p12 p13 p14 p15 a0 a1 a2 a3 a4 a5 a6 a7 p v wx hgm (k2.out.kp (.of hB)) (kc.out.kp (.of hB)) HBP.out HBA.out hk)⟩
 ·intro val wx hB hsp hdis
  obtain ⟨z0, z1, z2, z3, z4, z5, z6, z7, e3, h_z⟩ := hsp 3 (by omega)
  replace e3 : val 3 = .agg #[z0, z1, z2, z3, z4, z5, z6, z7] := e3
  rw [← HF.out]
  change wpList _ _ _ [_] _ _
  simp only [puts, vals, List.map_cons, List.map_nil, List.foldl_cons, List.foldl_nil, if_true, Nat.zero_add, Nat.reduceAdd, e3, List.setIfInBounds_toArray, List.set_cons_succ, List.set_cons_zero]
  clear hsp hdis HF e3
  clear ev2 ev3
  obtain ⟨w16, rfl⟩ : ∃ W : World, W = wx := ⟨_, rfl⟩
  have k3 := kb.below hB
  have kf := Lib.hid (Blw kd.out hB)
  have kg := Lib.hid h_z
  obtain ⟨o_z0, o_z1, o_z2, o_z3, o_z4, o_z5, o_z6, o_z7⟩ := h_z.ones
  clear h_z
  clear hB
  obtain ⟨kh, ki, kj, kk, kl, km, kn, ko, kr, ks⟩ := k3.f8
  go_wp2
  have hkp := (Kp.refl w16).t8 (k3) z0 z1 z2 z3 z4 z5 z6 z7
  refine bodyPost_ret (v := .agg #[z0, z1, z2, z3, z4, z5, z6, z7]) (by simp [results, Try.results54, go_sem, kh, ki, kj, kk, kl, km, kn, ko]) rfl ⟨_, _, _, _, _, _, _, _, rfl, ?_, bel8 (kf.out) (by first | simp | omega)⟩
  exact kg.out.kp hkp
set_option maxRecDepth 100000 in
theorem vinv_any (j : Nat) (p0 p1 p2 p3 p4 p5 p6 p7 p8 p9 p10 p11 p12 p13 p14 p15 : Value) (p : Pl) (w : World) (hp : PlaceV w p0 p1 p2 p3 p4 p5 p6 p7 p8 p9 p10 p11 p12 p13 p14 p15 p) (bp : Bv j p.1 ∧ Bv j p.2) (hk : 100 * j + 1000 ≤ 800000000000) :
  Calls Try.prog 55 #[.agg #[p0, p1, p2, p3, p4, p5, p6, p7, p8, p9, p10, p11, p12, p13, p14, p15]] w (RPl (vinv p) w) := by
 obtain ⟨o0, o1, o2, o3, o4, o5, o6, o7, o8, o9, o10, o11, o12, o13, o14, o15⟩ := hp.ones
 have HP := Lib.hid hp; have HBP := Lib.hid bp
 have hone : Bq 2 (Rat.divInt (-1) 1) := Bq.divInt (by unfold I.Bd; decide) (by unfold I.Bd; decide) (by omega)
 have HONE := Lib.hid hone
 clear hp bp hone
 go_enter Try.func55, Try.ntmps55
 go_upto_region 1 with fail
 generalize hW : (w.alloc _).alloc _ = W1
 obtain ⟨k2, kb, hB⟩ := box2 hW
 have k3 := Lib.hid hB; clear hW hB
 have F5 := Lib.hid (HP.out.kp (.of k3.out))
 go_upto_region 1 with fail
 have l6 := k2.lt
 have l7 := kb.lt
 generalize hF : ({ tmps := _, defers := _ } : Act) = F
 have ev1 : F.eval (.tmp 1) = .pointer (some ⟨w.heap.size, 0, none⟩) := by rw [← hF]; rfl
 have HF := Lib.hid hF; clear hF
 refine wp_flow_tab false rfl 4 [(4, []), (5, [0]), (6, [1]), (3, [])] [SC (.pointer (some ⟨w.heap.size, 0, none⟩)), SC (.agg #[p0, p1, p2, p3, p4, p5, p6, p7]), SV (vbak p.1), SB W1 31 [.bool false, .slice none 0 0, .bool false, .slice none 0 0, .bool false, .slice none 0 0, .bool false, .slice none 0 0]] [false, false, false, true] (by kernel_rfl) (by kernel_rfl) (by kernel_rfl) (by kernel_rfl) (by kernel_rfl) (by rw [← HF.out]; simp) ⟨SC.mono _, SC.mono _, SV.mono _, SB.mono _ _ _, trivial⟩ ?_ ?_
 ·intro kq hkq a wx hB hp hs
  have hcase : kq = 0 ∨ kq = 1 ∨ kq = 2 ∨ kq = 3 := by omega
  rcases hcase with rfl | rfl | rfl | rfl
  ·exact ⟨_, rfl, fa_Place0 rfl ((hs 1 rfl).trans ev1)⟩
  ·obtain ⟨k0, -⟩ := hp
   exact ⟨_, rfl, ld_Turn rfl k0 (k2.below hB) rfl rfl rfl rfl rfl rfl rfl rfl⟩
  ·obtain ⟨k0, -⟩ := hp
   exact ⟨_, rfl, Does.rv (f := 17) (call1 rfl (fun _ => by simp [go_sem]) k0) (vbak_any p0 p1 p2 p3 p4 p5 p6 p7 (p.1) wx ((F5.out.kp (.of hB))).1)⟩
  ·clear hp
   exact ⟨_, rfl, Does.box (by simp [execOp, go_sem]) hB⟩
 ·intro val wx hB hsp hdis
  obtain ⟨t0, t1, t2, t3, t4, t5, t6, t7, e2, h_t⟩ := hsp 2 (by omega)
  replace e2 : val 2 = .agg #[t0, t1, t2, t3, t4, t5, t6, t7] := e2
  obtain ⟨g8_3, e3, hg8_3, hbx8_3⟩ := hsp 3 (by omega)
  have hgw8_3 : w.heap.size ≤ g8_3 := Nat.le_trans k3.out.size hg8_3
  have hgl8_3 := hbx8_3.lt
  rw [← HF.out]
  change wpList _ _ _ [_] _ _
  simp only [puts, vals, List.map_cons, List.map_nil, List.foldl_cons, List.foldl_nil, if_true, Nat.zero_add, Nat.reduceAdd, e2, e3, List.setIfInBounds_toArray, List.set_cons_succ, List.set_cons_zero]
  clear hsp hdis HF e2 e3
  clear ev1
  obtain ⟨w9, rfl⟩ : ∃ W : World, W = wx := ⟨_, rfl⟩
  have kr := k2.below hB
  have ks := kb.below hB
  have kt := Lib.hid (F5.out.kp (.of hB))
  have ku := Lib.hid (Blw k3.out hB)
  have kv := Lib.hid h_t
  obtain ⟨o_t0, o_t1, o_t2, o_t3, o_t4, o_t5, o_t6, o_t7⟩ := h_t.ones
  clear h_t
  clear hB
  obtain ⟨k00, k01, k02, k03, k04, k05, k06, k07, k08, l24⟩ := hbx8_3.f8
  go_upto_region 2 with fail
  have k4 := (hbx8_3).set_ 0 (t0)
  have k5 := (k4).set_ 1 (t1)
  have k6 := (k5).set_ 2 (t2)
  have k7 := (k6).set_ 3 (t3)
  have k8 := (k7).set_ 4 (t4)
  have k9 := (k8).set_ 5 (t5)
  have ka := (k9).set_ 6 (t6)
  have kd := (ka).set_ 7 (t7)
  have hkp : Kp w9 ((((((((w9.setCell ⟨g8_3, 0, none⟩ (t0)).setCell ⟨g8_3, 1, none⟩ (t1)).setCell ⟨g8_3, 2, none⟩ (t2)).setCell ⟨g8_3, 3, none⟩ (t3)).setCell ⟨g8_3, 4, none⟩ (t4)).setCell ⟨g8_3, 5, none⟩ (t5)).setCell ⟨g8_3, 6, none⟩ (t6)).setCell ⟨g8_3, 7, none⟩ (t7)) := ((((((((Kp.refl _).set_ (hbx8_3) (by decide) _).set_ (k4) (by decide) _).set_ (k5) (by decide) _).set_ (k6) (by decide) _).set_ (k7) (by decide) _).set_ (k8) (by decide) _).set_ (k9) (by decide) _).set_ (ka) (by decide) _
  obtain ⟨W33, hW⟩ : ∃ W, W = (((((((w9.setCell ⟨g8_3, 0, none⟩ (t0)).setCell ⟨g8_3, 1, none⟩ (t1)).setCell ⟨g8_3, 2, none⟩ (t2)).setCell ⟨g8_3, 3, none⟩ (t3)).setCell ⟨g8_3, 4, none⟩ (t4)).setCell ⟨g8_3, 5, none⟩ (t5)).setCell ⟨g8_3, 6, none⟩ (t6)).setCell ⟨g8_3, 7, none⟩ (t7) := ⟨_, rfl⟩
  rw [← hW]
  rw [← hW] at hkp
  have hB : Below w.heap.size w W33 := by rw [hW]; exact bel8 (ku.out) (by first | simp | omega)
  have kw := Lib.hid hB; clear hB
  have kx := Lib.hid (kt.out.kp hkp)
  have ky := Lib.hid (kv.out.kp hkp)
  have kz : Bx W33 (w.heap.size) 62 [p0, p1, p2, p3, p4, p5, p6, p7, p8, p9, p10, p11, p12, p13, p14, p15] := by rw [hW]; exact ((((((((kr).far_ (g' := g8_3) (j := 0) (by omega) (t0)).far_ (g' := g8_3) (j := 1) (by omega) (t1)).far_ (g' := g8_3) (j := 2) (by omega) (t2)).far_ (g' := g8_3) (j := 3) (by omega) (t3)).far_ (g' := g8_3) (j := 4) (by omega) (t4)).far_ (g' := g8_3) (j := 5) (by omega) (t5)).far_ (g' := g8_3) (j := 6) (by omega) (t6)).far_ (g' := g8_3) (j := 7) (by omega) (t7)
  have kA : Bx W33 (w.heap.size + 1) 62 [.bool false, .slice none 0 0, .bool false, .slice none 0 0, .bool false, .slice none 0 0, .bool false, .slice none 0 0, .bool false, .slice none 0 0, .bool false, .slice none 0 0, .bool false, .slice none 0 0, .bool false, .slice none 0 0] := by rw [hW]; exact ((((((((ks).far_ (g' := g8_3) (j := 0) (by omega) (t0)).far_ (g' := g8_3) (j := 1) (by omega) (t1)).far_ (g' := g8_3) (j := 2) (by omega) (t2)).far_ (g' := g8_3) (j := 3) (by omega) (t3)).far_ (g' := g8_3) (j := 4) (by omega) (t4)).far_ (g' := g8_3) (j := 5) (by omega) (t5)).far_ (g' := g8_3) (j := 6) (by omega) (t6)).far_ (g' := g8_3) (j := 7) (by omega) (t7)
  have kB : Bx W33 (g8_3) 31 [t0, t1, t2, t3, t4, t5, t6, t7] := by rw [hW]; exact kd
  clear hW hkp k4 k5 k6 k7 k8 k9 ka kd
  go_upto_region 2 with fail
  generalize hW : W33.drew = W40
  have hB : Below W33.heap.size W33 W40 := by rw [← hW]; exact (Below.refl _ _).drew
  have kC := kz.below hB
  have kD := kA.below hB
  have ke := kB.below hB
  have kE := Lib.hid (kx.out.kp (.of hB))
  have kf := Lib.hid (ky.out.kp (.of hB))
  have kF := Lib.hid (Blw kw.out hB)
  clear hB
  generalize hF : ({ tmps := _, defers := _ } : Act) = F
  have ev1 : F.eval (.tmp 1) = .pointer (some ⟨w.heap.size, 0, none⟩) := by rw [← hF]; rfl
  have ev3 : F.eval (.tmp 3) = .pointer (some ⟨g8_3, 0, none⟩) := by rw [← hF]; rfl
  have HF := Lib.hid hF; clear hF
  refine wp_flow_tab true hW 8 [(7, []), (8, []), (9, []), (10, [2]), (11, [1, 3]), (12, []), (13, [4, 5]), (14, [0, 6])] [SC (.agg #[t0, t1, t2, t3, t4, t5, t6, t7]), SC (.agg #[t0, t1, t2, t3, t4, t5, t6, t7]), SC (.pointer (some ⟨w.heap.size, 8, none⟩)), SC (.agg #[p8, p9, p10, p11, p12, p13, p14, p15]), SV (vrot (vbak p.1) p.2), SR (Rat.divInt (-1) 1), SV (vsca (vrot (vbak p.1) p.2) (Rat.divInt (-1) 1)), SPl (vinv p)] [false, false, false, false, false, false, false, false] (by kernel_rfl) (by kernel_rfl) (by kernel_rfl) (by kernel_rfl) (by kernel_rfl) (by rw [← HF.out]; simp) ⟨SC.mono _, SC.mono _, SC.mono _, SC.mono _, SV.mono _, SR.mono _, SV.mono _, SPl.mono _, trivial⟩ ?_ ?_
  ·intro kq hkq a wx hB hp hs
   have hcase : kq = 0 ∨ kq = 1 ∨ kq = 2 ∨ kq = 3 ∨ kq = 4 ∨ kq = 5 ∨ kq = 6 ∨ kq = 7 := by omega
   rcases hcase with rfl | rfl | rfl | rfl | rfl | rfl | rfl | rfl
   ·exact ⟨_, rfl, ld_Turn rfl ((hs 3 rfl).trans ev3) (ke.below hB) rfl rfl rfl rfl rfl rfl rfl rfl⟩
   ·exact ⟨_, rfl, ld_Turn rfl ((hs 3 rfl).trans ev3) (ke.below hB) rfl rfl rfl rfl rfl rfl rfl rfl⟩
   ·exact ⟨_, rfl, fa_Place1 rfl ((hs 1 rfl).trans ev1)⟩
   ·obtain ⟨k0, -⟩ := hp
    exact ⟨_, rfl, ld_Vec rfl k0 (kC.below hB) rfl rfl rfl rfl rfl rfl rfl rfl⟩
   ·obtain ⟨k0, k1, -⟩ := hp
    exact ⟨_, rfl, Does.rv (f := 9) (call2 rfl (fun _ => by simp [go_sem]) k0 k1) (vrot_any (j) (j) t0 t1 t2 t3 t4 t5 t6 t7 p8 p9 p10 p11 p12 p13 p14 p15 (vbak p.1) (p.2) wx (kf.out.kp (.of hB)) ((kE.out.kp (.of hB))).2 HBP.out.1.bak HBP.out.2 (by omega))⟩
   ·clear hp
    exact ⟨_, rfl, Does.rr (f := 42) (call2 rfl (fun _ => by simp [go_sem]) rfl rfl) (rof_any (-1) 1 wx ⟨by omega, by omega⟩ ⟨by omega, by omega⟩)⟩
   ·obtain ⟨k0, k1, -⟩ := hp
    obtain ⟨x0, x1, x2, x3, x4, x5, x6, x7, e0, h_x⟩ := k0
    replace e0 : a.eval (.tmp 11) = .agg #[x0, x1, x2, x3, x4, x5, x6, x7] := e0
    obtain ⟨m0, m1, m2, m3, e1, h_m⟩ := k1
    replace e1 : a.eval (.tmp 12) = .agg #[m0, m1, m2, m3] := e1
    exact ⟨_, rfl, Does.rv (f := 35) (call2 rfl (fun _ => by simp [go_sem]) e0 e1) (vsca_any (2 * (j + j) + 1) (2) x0 x1 x2 x3 x4 x5 x6 x7 m0 m1 m2 m3 (vrot (vbak p.1) p.2) (Rat.divInt (-1) 1) wx h_x h_m (HBP.out.1.bak.rot HBP.out.2) HONE.out (by omega))⟩
   ·obtain ⟨k0, k1, -⟩ := hp
    have e0 : a.eval (.tmp 7) = .agg #[t0, t1, t2, t3, t4, t5, t6, t7] := k0
    obtain ⟨y0, y1, y2, y3, y4, y5, y6, y7, e1, h_y⟩ := k1
    replace e1 : a.eval (.tmp 13) = .agg #[y0, y1, y2, y3, y4, y5, y6, y7] := e1
    simp [Act.eval] at e0
    simp [Act.eval] at e1
    exact ⟨_, rfl, Does.val (by simp [execOp, Act.eval, e0, e1, go_sem]) ⟨t0, t1, t2, t3, t4, t5, t6, t7, y0, y1, y2, y3, y4, y5, y6, y7, rfl, ⟨(kf.out.kp (.of hB)), h_y⟩⟩⟩
  ·intro val wx hB hsp hdis
   obtain ⟨z0, z1, z2, z3, z4, z5, z6, z7, z8, z9, z10, z11, z12, z13, z14, z15, e7, h_z⟩ := hsp 7 (by omega)
   replace e7 : val 7 = .agg #[z0, z1, z2, z3, z4, z5, z6, z7, z8, z9, z10, z11, z12, z13, z14, z15] := e7
   rw [← HF.out]
   change wpList _ _ _ [_] _ _
   simp only [puts, vals, List.map_cons, List.map_nil, List.foldl_cons, List.foldl_nil, if_true, Nat.zero_add, Nat.reduceAdd, e7, List.setIfInBounds_toArray, List.set_cons_succ, List.set_cons_zero]
   clear hsp hdis HF e7
   clear ev1 ev3
   obtain ⟨w48, rfl⟩ : ∃ W : World, W = wx := ⟨_, rfl⟩
   have ko := kD.below hB
   have kG := Lib.hid (Blw kF.out hB)
   have kH := Lib.hid h_z
   obtain ⟨o_z0, o_z1, o_z2, o_z3, o_z4, o_z5, o_z6, o_z7, o_z8, o_z9, o_z10, o_z11, o_z12, o_z13, o_z14, o_z15⟩ := h_z.ones
   clear h_z
   clear hB
   obtain ⟨kI, kJ, kK, kL, kM, kN, kO, kP, kQ, kR, kS, kT, kU, kV, kW, kX, k0a, l73⟩ := ko.f16
   go_wp2
   have hkp := (Kp.refl w48).t16 (ko) z0 z1 z2 z3 z4 z5 z6 z7 z8 z9 z10 z11 z12 z13 z14 z15
   refine bodyPost_ret (v := .agg #[z0, z1, z2, z3, z4, z5, z6, z7, z8, z9, z10, z11, z12, z13, z14, z15]) (by simp [results, Try.results55, go_sem, kI, kJ, kK, kL, kM, kN, kO, kP, kQ, kR, kS, kT, kU, kV, kW, kX]) rfl ⟨_, _, _, _, _, _, _, _, _, _, _, _, _, _, _, _, rfl, ?_, bel16 (kG.out) (by first | simp | omega)⟩
   exact kH.out.kp hkp
set_option maxRecDepth 100000 in
theorem vside_any (k : Nat) (a0 a1 a2 a3 a4 a5 a6 a7 b0 b1 b2 b3 b4 b5 b6 b7 c0 c1 c2 c3 c4 c5 c6 c7 : Value) (u : Rat × Rat) (v : Rat × Rat) (x_ : Rat × Rat) (w : World) (ha : VecV w a0 a1 a2 a3 a4 a5 a6 a7 u) (hb : VecV w b0 b1 b2 b3 b4 b5 b6 b7 v) (hc : VecV w c0 c1 c2 c3 c4 c5 c6 c7 x_) (ba : Bv k u) (bb : Bv k v) (bc : Bv k x_) (hk : 100 * k + 1000 ≤ 800000000000) :
  Calls Try.prog 56 #[.agg #[a0, a1, a2, a3, a4, a5, a6, a7], .agg #[b0, b1, b2, b3, b4, b5, b6, b7], .agg #[c0, c1, c2, c3, c4, c5, c6, c7]] w (fun e w' => e = .returned (.int .i64 (vside u v x_)) ∧ Below w.heap.size w w') := by
 obtain ⟨qa0, qa1, qa2, qa3, qa4, qa5, qa6, qa7⟩ := ha.ones
 obtain ⟨qb0, qb1, qb2, qb3, qb4, qb5, qb6, qb7⟩ := hb.ones
 obtain ⟨qc0, qc1, qc2, qc3, qc4, qc5, qc6, qc7⟩ := hc.ones
 have Hha := Lib.hid ha; have Hhb := Lib.hid hb; have Hhc := Lib.hid hc; have Hba := Lib.hid ba; have Hbb := Lib.hid bb; have Hbc := Lib.hid bc
 clear ha hb hc ba bb bc
 go_enter Try.func56, Try.ntmps56
 go_wp2_with fail
 generalize hW : ((w.alloc _).alloc _).alloc _ = W1
 obtain ⟨k9, ka, kb, hB⟩ := box3 hW
 have k2 := Lib.hid hB; clear hW hB
 have F6 := Lib.hid (Hha.out.kp (.of k2.out))
 have F7 := Lib.hid (Hhb.out.kp (.of k2.out))
 have F8 := Lib.hid (Hhc.out.kp (.of k2.out))
 go_upto_region 1 with fail
 generalize hW : W1.drew = W9
 have hB : Below W1.heap.size W1 W9 := by rw [← hW]; exact (Below.refl _ _).drew
 have k3 := k9.below hB
 have kf := ka.below hB
 have kg := kb.below hB
 have k4 := Lib.hid (F6.out.kp (.of hB))
 have kh := Lib.hid (F7.out.kp (.of hB))
 have ki := Lib.hid (F8.out.kp (.of hB))
 have kj := Lib.hid (Blw k2.out hB)
 clear hB
 generalize hF : ({ tmps := _, defers := _ } : Act) = F
 have ev3 : F.eval (.tmp 3) = .pointer (some ⟨w.heap.size, 0, none⟩) := by rw [← hF]; rfl
 have ev4 : F.eval (.tmp 4) = .pointer (some ⟨w.heap.size + 1, 0, none⟩) := by rw [← hF]; rfl
 have ev5 : F.eval (.tmp 5) = .pointer (some ⟨w.heap.size + 1 + 1, 0, none⟩) := by rw [← hF]; rfl
 have HF := Lib.hid hF; clear hF
 refine wp_flow_tab true hW 9 [(7, []), (8, []), (9, [0, 1]), (10, []), (11, []), (12, [3, 4]), (13, [2, 5]), (14, [6]), (6, [7])] [SC (.agg #[b0, b1, b2, b3, b4, b5, b6, b7]), SC (.agg #[a0, a1, a2, a3, a4, a5, a6, a7]), SV (vsub v u), SC (.agg #[c0, c1, c2, c3, c4, c5, c6, c7]), SC (.agg #[a0, a1, a2, a3, a4, a5, a6, a7]), SV (vsub x_ u), SR (vcrs (vsub v u) (vsub x_ u)), SC (.int .i64 (vside u v x_)), SC (.int .i64 (vside u v x_))] [false, false, false, false, false, false, false, false, false] (by kernel_rfl) (by kernel_rfl) (by kernel_rfl) (by kernel_rfl) (by kernel_rfl) (by rw [← HF.out]; simp) ⟨SC.mono _, SC.mono _, SV.mono _, SC.mono _, SC.mono _, SV.mono _, SR.mono _, SC.mono _, SC.mono _, trivial⟩ ?_ ?_
 ·intro kq hkq a wx hB hp hs
  have hcase : kq = 0 ∨ kq = 1 ∨ kq = 2 ∨ kq = 3 ∨ kq = 4 ∨ kq = 5 ∨ kq = 6 ∨ kq = 7 ∨ kq = 8 := by omega
  rcases hcase with rfl | rfl | rfl | rfl | rfl | rfl | rfl | rfl | rfl
  ·exact ⟨_, rfl, ld_Vec rfl ((hs 4 rfl).trans ev4) (kf.below hB) rfl rfl rfl rfl rfl rfl rfl rfl⟩
  ·exact ⟨_, rfl, ld_Vec rfl ((hs 3 rfl).trans ev3) (k3.below hB) rfl rfl rfl rfl rfl rfl rfl rfl⟩
  ·obtain ⟨k0, k1, -⟩ := hp
   exact ⟨_, rfl, Does.rv (f := 33) (call2 rfl (fun _ => by simp [go_sem]) k0 k1) (vsub_any (k) (k) b0 b1 b2 b3 b4 b5 b6 b7 a0 a1 a2 a3 a4 a5 a6 a7 (v) (u) wx (kh.out.kp (.of hB)) (k4.out.kp (.of hB)) Hbb.out Hba.out (by omega))⟩
  ·exact ⟨_, rfl, ld_Vec rfl ((hs 5 rfl).trans ev5) (kg.below hB) rfl rfl rfl rfl rfl rfl rfl rfl⟩
  ·exact ⟨_, rfl, ld_Vec rfl ((hs 3 rfl).trans ev3) (k3.below hB) rfl rfl rfl rfl rfl rfl rfl rfl⟩
  ·obtain ⟨k0, k1, -⟩ := hp
   exact ⟨_, rfl, Does.rv (f := 33) (call2 rfl (fun _ => by simp [go_sem]) k0 k1) (vsub_any (k) (k) c0 c1 c2 c3 c4 c5 c6 c7 a0 a1 a2 a3 a4 a5 a6 a7 (x_) (u) wx (ki.out.kp (.of hB)) (k4.out.kp (.of hB)) Hbc.out Hba.out (by omega))⟩
  ·obtain ⟨k0, k1, -⟩ := hp
   obtain ⟨m0, m1, m2, m3, m4, m5, m6, m7, e0, h_m⟩ := k0
   replace e0 : a.eval (.tmp 9) = .agg #[m0, m1, m2, m3, m4, m5, m6, m7] := e0
   obtain ⟨n0, n1, n2, n3, n4, n5, n6, n7, e1, h_n⟩ := k1
   replace e1 : a.eval (.tmp 12) = .agg #[n0, n1, n2, n3, n4, n5, n6, n7] := e1
   exact ⟨_, rfl, Does.rr (f := 30) (call2 rfl (fun _ => by simp [go_sem]) e0 e1) (vcrs_any (k + k + 1) (k + k + 1) m0 m1 m2 m3 m4 m5 m6 m7 n0 n1 n2 n3 n4 n5 n6 n7 (vsub v u) (vsub x_ u) wx h_m h_n (Hbb.out.sub Hba.out) (Hbc.out.sub Hba.out) (by omega))⟩
  ·obtain ⟨k0, -⟩ := hp
   obtain ⟨l0, l1, l2, l3, e0, h_l⟩ := k0
   replace e0 : a.eval (.tmp 13) = .agg #[l0, l1, l2, l3] := e0
   exact ⟨_, rfl, Does.rc (f := 49) (call1 rfl (fun _ => by simp [go_sem]) e0) (rsign_any l0 l1 l2 l3 _ wx h_l)⟩
  ·obtain ⟨k0, -⟩ := hp
   have e0 : a.eval (.tmp 14) = .int .i64 (vside u v x_) := k0
   simp [Act.eval] at e0
   exact ⟨_, rfl, Does.val (by simp [execOp, Act.eval, e0, go_sem]) rfl⟩
 ·intro val wx hB hsp hdis
  have e8 : val 8 = .int .i64 (vside u v x_) := hsp 8 (by omega)
  rw [← HF.out]
  change wpList _ _ _ [] _ _
  simp only [puts, vals, List.map_cons, List.map_nil, List.foldl_cons, List.foldl_nil, if_true, Nat.zero_add, Nat.reduceAdd, e8, List.setIfInBounds_toArray, List.set_cons_succ, List.set_cons_zero]
  clear hsp hdis HF e8
  clear ev3 ev4 ev5
  obtain ⟨w18, rfl⟩ : ∃ W : World, W = wx := ⟨_, rfl⟩
  have kk := Lib.hid (Blw kj.out hB)
  clear hB
  go_wp2
  go_ret
  exact ⟨rfl, kk.out⟩
end Go.Proofs.Ytonkbckgbfcnkaa
