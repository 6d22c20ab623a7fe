/-
 THE WALKS of the reference of package rat: Of, Add, Neg, Sub, Mul, Div, Sign.
-/
import Derived.Test.YtonkbckgbfcnkaaRef4A
import Derived.Test.YtonkbckgbfcnkaaMemV
namespace Go.Proofs.Ytonkbckgbfcnkaa
set_option maxHeartbeats 4000000
open Go.RowKit
attribute [local go_sem] run_store_one
set_option linter.unusedVariables false
set_option maxRecDepth 100000 in
theorem rof4_any (x y : Int) (w : World) (hx : W.Is64 x) (hy : W.Is64 y) : Calls Try.prog 44 #[.int .i64 x, .int .i64 y] w (RR (Rat.divInt x y) w) := by
 have bx := bd64 hx
 have bY := bd64 hy
 have HX := Lib.hid hx; have HY := Lib.hid hy; have HBX := Lib.hid bx; have HBY := Lib.hid bY
 clear hx hy bx bY
 go_enter Try.func44, Try.ntmps44
 go_wp2_with fail
 generalize hW : w.alloc _ = W1
 obtain ⟨kc, hB⟩ := box1 hW
 have kd := Lib.hid hB; clear hW hB
 have k6 := rof3_any x W1 HX.out
 (with_reducible refine k6.mono ?_)
 clear k6
 rintro e w4 ⟨p0, p1, rfl, k1, k2⟩
 have k7 := kc.below k2
 have ke := Lib.hid (Blw kd.out k2)
 have F8 := Lib.hid k1
 obtain ⟨o_p0, o_p1⟩ := k1.ones
 clear k1 k2
 obtain ⟨kq, kr, ks, kt, ku, kv⟩ := k7.f4
 go_wp2_with fail
 have k8 := rof3_any y w4 HY.out
 (with_reducible refine k8.mono ?_)
 clear k8
 rintro e w15 ⟨q0, q1, rfl, k3, k0⟩
 have k9 := k7.below k0
 have kg := Lib.hid (F8.out.kp (.of k0))
 have kh := Lib.hid (Blw ke.out k0)
 have ki := Lib.hid k3
 obtain ⟨o_q0, o_q1⟩ := k3.ones
 clear k3 k0
 obtain ⟨kw, kx, ky, kz, kA, kB⟩ := k9.f4
 go_wp2_with fail
 have ka := make4_any 64 p0 p1 q0 q1 x y w15 kg.out ki.out HBX.out HBY.out (by omega)
 (with_reducible refine ka.mono ?_)
 clear ka
 rintro e w27 ⟨z0, z1, z2, z3, rfl, k4, k5⟩
 have kb := k9.below k5
 have kj := Lib.hid (Blw kh.out k5)
 have kk := Lib.hid k4
 obtain ⟨o_z0, o_z1, o_z2, o_z3⟩ := k4.ones
 clear k4 k5
 obtain ⟨kl, km, kn, ko, kC, kD⟩ := kb.f4
 go_wp2
 have hkp := (Kp.refl w27).t4 (kb) z0 z1 z2 z3
 refine bodyPost_ret (v := .agg #[z0, z1, z2, z3]) (by simp [results, Try.results44, go_sem, kl, km, kn, ko]) rfl ⟨_, _, _, _, rfl, ?_, bel4 (kj.out) (by first | simp | omega)⟩
 exact kk.out.kp hkp
set_option maxRecDepth 100000 in
theorem radd4_any (j k : Nat) (a0 a1 a2 a3 b0 b1 b2 b3 : Value) (r t : Rat) (w : World) (hr : RatV w a0 a1 a2 a3 r) (ht : RatV w b0 b1 b2 b3 t) (br : Bq j r) (bt : Bq k t) (hk : j + k + 1 ≤ 800000000000) :
  Calls Try.prog 59 #[.agg #[a0, a1, a2, a3], .agg #[b0, b1, b2, b3]] w (RR (r + t) w) := by
 obtain ⟨o_a0, o_a1, o_a2, o_a3⟩ := hr.ones
 obtain ⟨o_b0, o_b1, o_b2, o_b3⟩ := ht.ones
 have HHR := Lib.hid hr; have HHT := Lib.hid ht; have HBR := Lib.hid br; have HBT := Lib.hid bt
 clear hr ht br bt
 go_enter Try.func59, Try.ntmps59
 go_wp2_with fail
 generalize hW : ((w.alloc _).alloc _).alloc _ = W1
 obtain ⟨kn, ko, kr, hB⟩ := box3 hW
 have k2 := Lib.hid hB; clear hW hB
 have F6 := Lib.hid (HHR.out.kp (.of k2.out))
 have F7 := Lib.hid (HHT.out.kp (.of k2.out))
 go_upto_region 1 with fail
 generalize hW : W1.drew = W8
 have hB : Below W1.heap.size W1 W8 := by rw [← hW]; exact (Below.refl _ _).drew
 have k3 := kn.below hB
 have k4 := ko.below hB
 have k9 := kr.below hB
 have ka := Lib.hid (F6.out.kp (.of hB))
 have kb := Lib.hid (F7.out.kp (.of hB))
 have kc := Lib.hid (Blw k2.out hB)
 clear hB
 have l15 := k3.lt
 have l16 := k4.lt
 have l17 := k9.lt
 generalize hF : ({ tmps := _, defers := _ } : Act) = F
 have ev2 : F.eval (.tmp 2) = .pointer (some ⟨w.heap.size, 0, none⟩) := by rw [← hF]; rfl
 have ev3 : F.eval (.tmp 3) = .pointer (some ⟨w.heap.size + 1, 0, none⟩) := by rw [← hF]; rfl
 have HF := Lib.hid hF; clear hF
 refine wp_flow_tab true hW 6 [(7, []), (8, [0]), (9, []), (10, [2]), (11, [1, 3]), (5, [])] [SC (.pointer (some ⟨w.heap.size, 0, none⟩)), SC (.agg #[a0, a1]), SC (.agg #[b0, b1, b2, b3]), SI ((t.den : Int)), SI (r.num * t.den), SB W8 24 [.bool false, .slice none 0 0]] [false, false, false, false, false, true] (by kernel_rfl) (by kernel_rfl) (by kernel_rfl) (by kernel_rfl) (by kernel_rfl) (by rw [← HF.out]; simp) ⟨SC.mono _, SC.mono _, SC.mono _, SI.mono _, SI.mono _, SB.mono _ _ _, trivial⟩ ?_ ?_
 ·intro kq hkq a wx hB hp hs
  have hcase : kq = 0 ∨ kq = 1 ∨ kq = 2 ∨ kq = 3 ∨ kq = 4 ∨ kq = 5 := by omega
  rcases hcase with rfl | rfl | rfl | rfl | rfl | rfl
  ·exact ⟨_, rfl, fa_Rat0 rfl ((hs 2 rfl).trans ev2)⟩
  ·obtain ⟨k0, -⟩ := hp
   exact ⟨_, rfl, ld_Int rfl k0 (k3.below hB) rfl rfl⟩
  ·exact ⟨_, rfl, ld_Rat rfl ((hs 3 rfl).trans ev3) (k4.below hB) rfl rfl rfl rfl⟩
  ·obtain ⟨k0, -⟩ := hp
   exact ⟨_, rfl, Does.ri (f := 80) (call1 rfl (fun _ => by simp [go_sem]) k0) (den4_any b0 b1 b2 b3 t wx (kb.out.kp (.of hB)))⟩
  ·obtain ⟨k0, k1, -⟩ := hp
   obtain ⟨p0, p1, e1, h_p⟩ := k1
   replace e1 : a.eval (.tmp 10) = .agg #[p0, p1] := e1
   exact ⟨_, rfl, Does.ri (f := 79) (call2 rfl (fun _ => by simp [go_sem]) k0 e1) (rmul3_any j k a0 a1 p0 p1 r.num t.den wx ((ka.out.kp (.of hB))).1 h_p HBR.out.1 HBT.out.2 (by omega))⟩
  ·clear hp
   exact ⟨_, rfl, Does.box (by simp [execOp, go_sem]) hB⟩
 ·intro val wx hB hsp hdis
  obtain ⟨u0, u1, e4, h_u⟩ := hsp 4 (by omega)
  replace e4 : val 4 = .agg #[u0, u1] := e4
  obtain ⟨g18_5, e5, hg18_5, hbx18_5⟩ := hsp 5 (by omega)
  have hgw18_5 : w.heap.size ≤ g18_5 := Nat.le_trans kc.out.size hg18_5
  have hgl18_5 := hbx18_5.lt
  rw [← HF.out]
  change wpList _ _ _ [_] _ _
  simp only [puts, vals, List.map_cons, List.map_nil, List.foldl_cons, List.foldl_nil, if_true, Nat.zero_add, Nat.reduceAdd, e4, e5, List.setIfInBounds_toArray, List.set_cons_succ, List.set_cons_zero]
  clear hsp hdis HF e4 e5
  clear ev2 ev3
  obtain ⟨w19, rfl⟩ : ∃ W : World, W = wx := ⟨_, rfl⟩
  have ku := k3.below hB
  have kv := k4.below hB
  have kw := k9.below hB
  have kx := Lib.hid (ka.out.kp (.of hB))
  have ky := Lib.hid (kb.out.kp (.of hB))
  have kz := Lib.hid (Blw kc.out hB)
  have kA := Lib.hid h_u
  obtain ⟨o_u0, o_u1⟩ := h_u.ones
  clear h_u
  clear hB
  obtain ⟨k0m, k0n, k0o, l30⟩ := hbx18_5.f2
  go_wp2_with fail
  have k5 := (hbx18_5).set_ 0 (u0)
  have kd := (k5).set_ 1 (u1)
  have hkp : Kp w19 ((w19.setCell ⟨g18_5, 0, none⟩ (u0)).setCell ⟨g18_5, 1, none⟩ (u1)) := ((Kp.refl _).set_ (hbx18_5) (by decide) _).set_ (k5) (by decide) _
  obtain ⟨W33, hW⟩ : ∃ W, W = (w19.setCell ⟨g18_5, 0, none⟩ (u0)).setCell ⟨g18_5, 1, none⟩ (u1) := ⟨_, rfl⟩
  rw [← hW]
  rw [← hW] at hkp
  have hB : Below w.heap.size w W33 := by rw [hW]; exact bel2 (kz.out) (by first | simp | omega)
  have kB := Lib.hid hB; clear hB
  have kC := Lib.hid (kx.out.kp hkp)
  have kD := Lib.hid (ky.out.kp hkp)
  have kE := Lib.hid (kA.out.kp hkp)
  have kF : Bx W33 (w.heap.size) 26 [a0, a1, a2, a3] := by rw [hW]; exact ((ku).far_ (g' := g18_5) (j := 0) (by omega) (u0)).far_ (g' := g18_5) (j := 1) (by omega) (u1)
  have kG : Bx W33 (w.heap.size + 1) 26 [b0, b1, b2, b3] := by rw [hW]; exact ((kv).far_ (g' := g18_5) (j := 0) (by omega) (u0)).far_ (g' := g18_5) (j := 1) (by omega) (u1)
  have kH : Bx W33 (w.heap.size + 1 + 1) 26 [.bool false, .slice none 0 0, .bool false, .slice none 0 0] := by rw [hW]; exact ((kw).far_ (g' := g18_5) (j := 0) (by omega) (u0)).far_ (g' := g18_5) (j := 1) (by omega) (u1)
  have kI : Bx W33 (g18_5) 24 [u0, u1] := by rw [hW]; exact kd
  clear hW hkp k5 kd
  go_upto_region 2 with fail
  generalize hW : W33.drew = W42
  have hB : Below W33.heap.size W33 W42 := by rw [← hW]; exact (Below.refl _ _).drew
  have k6 := kF.below hB
  have k7 := kG.below hB
  have ke := kH.below hB
  have kf := kI.below hB
  have kg := Lib.hid (kC.out.kp (.of hB))
  have kh := Lib.hid (kD.out.kp (.of hB))
  have kJ := Lib.hid (kE.out.kp (.of hB))
  have ki := Lib.hid (Blw kB.out hB)
  clear hB
  have l51 := k6.lt
  have l52 := k7.lt
  have l53 := ke.lt
  have l54 := kf.lt
  generalize hF : ({ tmps := _, defers := _ } : Act) = F
  have ev2 : F.eval (.tmp 2) = .pointer (some ⟨w.heap.size, 0, none⟩) := by rw [← hF]; rfl
  have ev3 : F.eval (.tmp 3) = .pointer (some ⟨w.heap.size + 1, 0, none⟩) := by rw [← hF]; rfl
  have HF := Lib.hid hF; clear hF
  refine wp_flow_tab true hW 6 [(12, []), (13, [0]), (14, []), (15, [2]), (16, [1, 3]), (6, [])] [SC (.pointer (some ⟨w.heap.size + 1, 0, none⟩)), SC (.agg #[b0, b1]), SC (.agg #[a0, a1, a2, a3]), SI ((r.den : Int)), SI (t.num * r.den), SB W42 24 [.bool false, .slice none 0 0]] [false, false, false, false, false, true] (by kernel_rfl) (by kernel_rfl) (by kernel_rfl) (by kernel_rfl) (by kernel_rfl) (by rw [← HF.out]; simp) ⟨SC.mono _, SC.mono _, SC.mono _, SI.mono _, SI.mono _, SB.mono _ _ _, trivial⟩ ?_ ?_
  ·intro kq hkq a wx hB hp hs
   have hcase : kq = 0 ∨ kq = 1 ∨ kq = 2 ∨ kq = 3 ∨ kq = 4 ∨ kq = 5 := by omega
   rcases hcase with rfl | rfl | rfl | rfl | rfl | rfl
   ·exact ⟨_, rfl, fa_Rat0 rfl ((hs 3 rfl).trans ev3)⟩
   ·obtain ⟨k0, -⟩ := hp
    exact ⟨_, rfl, ld_Int rfl k0 (k7.below hB) rfl rfl⟩
   ·exact ⟨_, rfl, ld_Rat rfl ((hs 2 rfl).trans ev2) (k6.below hB) rfl rfl rfl rfl⟩
   ·obtain ⟨k0, -⟩ := hp
    exact ⟨_, rfl, Does.ri (f := 80) (call1 rfl (fun _ => by simp [go_sem]) k0) (den4_any a0 a1 a2 a3 r wx (kg.out.kp (.of hB)))⟩
   ·obtain ⟨k0, k1, -⟩ := hp
    obtain ⟨q0, q1, e1, h_q⟩ := k1
    replace e1 : a.eval (.tmp 15) = .agg #[q0, q1] := e1
    exact ⟨_, rfl, Does.ri (f := 79) (call2 rfl (fun _ => by simp [go_sem]) k0 e1) (rmul3_any k j b0 b1 q0 q1 t.num r.den wx ((kh.out.kp (.of hB))).1 h_q HBT.out.1 HBR.out.2 (by omega))⟩
   ·clear hp
    exact ⟨_, rfl, Does.box (by simp [execOp, go_sem]) hB⟩
  ·intro val wx hB hsp hdis
   obtain ⟨v0, v1, e4, h_v⟩ := hsp 4 (by omega)
   replace e4 : val 4 = .agg #[v0, v1] := e4
   obtain ⟨g55_5, e5, hg55_5, hbx55_5⟩ := hsp 5 (by omega)
   have hgw55_5 : w.heap.size ≤ g55_5 := Nat.le_trans ki.out.size hg55_5
   have hgl55_5 := hbx55_5.lt
   rw [← HF.out]
   change wpList _ _ _ [_] _ _
   simp only [puts, vals, List.map_cons, List.map_nil, List.foldl_cons, List.foldl_nil, if_true, Nat.zero_add, Nat.reduceAdd, e4, e5, List.setIfInBounds_toArray, List.set_cons_succ, List.set_cons_zero]
   clear hsp hdis HF e4 e5
   clear ev2 ev3
   obtain ⟨w56, rfl⟩ : ∃ W : World, W = wx := ⟨_, rfl⟩
   have kK := k6.below hB
   have kL := k7.below hB
   have kM := ke.below hB
   have kN := kf.below hB
   have kO := Lib.hid (kg.out.kp (.of hB))
   have kP := Lib.hid (kh.out.kp (.of hB))
   have kQ := Lib.hid (kJ.out.kp (.of hB))
   have kR := Lib.hid (Blw ki.out hB)
   have kS := Lib.hid h_v
   obtain ⟨o_v0, o_v1⟩ := h_v.ones
   clear h_v
   clear hB
   obtain ⟨k0u, k0v, k0w, l69⟩ := hbx55_5.f2
   go_wp2_with fail
   have k8 := (hbx55_5).set_ 0 (v0)
   have kj := (k8).set_ 1 (v1)
   have hkp : Kp w56 ((w56.setCell ⟨g55_5, 0, none⟩ (v0)).setCell ⟨g55_5, 1, none⟩ (v1)) := ((Kp.refl _).set_ (hbx55_5) (by decide) _).set_ (k8) (by decide) _
   obtain ⟨W72, hW⟩ : ∃ W, W = (w56.setCell ⟨g55_5, 0, none⟩ (v0)).setCell ⟨g55_5, 1, none⟩ (v1) := ⟨_, rfl⟩
   rw [← hW]
   rw [← hW] at hkp
   have hB : Below w.heap.size w W72 := by rw [hW]; exact bel2 (kR.out) (by first | simp | omega)
   have kT := Lib.hid hB; clear hB
   have kU := Lib.hid (kO.out.kp hkp)
   have kV := Lib.hid (kP.out.kp hkp)
   have kW := Lib.hid (kQ.out.kp hkp)
   have kX := Lib.hid (kS.out.kp hkp)
   have kY : Bx W72 (w.heap.size) 26 [a0, a1, a2, a3] := by rw [hW]; exact ((kK).far_ (g' := g55_5) (j := 0) (by omega) (v0)).far_ (g' := g55_5) (j := 1) (by omega) (v1)
   have kZ : Bx W72 (w.heap.size + 1) 26 [b0, b1, b2, b3] := by rw [hW]; exact ((kL).far_ (g' := g55_5) (j := 0) (by omega) (v0)).far_ (g' := g55_5) (j := 1) (by omega) (v1)
   have k00 : Bx W72 (w.heap.size + 1 + 1) 26 [.bool false, .slice none 0 0, .bool false, .slice none 0 0] := by rw [hW]; exact ((kM).far_ (g' := g55_5) (j := 0) (by omega) (v0)).far_ (g' := g55_5) (j := 1) (by omega) (v1)
   have k01 : Bx W72 (g18_5) 24 [u0, u1] := by rw [hW]; exact ((kN).far_ (g' := g55_5) (j := 0) (by omega) (v0)).far_ (g' := g55_5) (j := 1) (by omega) (v1)
   have k02 : Bx W72 (g55_5) 24 [v0, v1] := by rw [hW]; exact kj
   clear hW hkp k8 kj
   go_upto_region 3 with fail
   generalize hW : W72.drew = W83
   have hB : Below W72.heap.size W72 W83 := by rw [← hW]; exact (Below.refl _ _).drew
   have k03 := kY.below hB
   have k04 := kZ.below hB
   have k05 := k00.below hB
   have k06 := k01.below hB
   have k07 := k02.below hB
   have F89 := Lib.hid (kU.out.kp (.of hB))
   have F90 := Lib.hid (kV.out.kp (.of hB))
   have F91 := Lib.hid (kW.out.kp (.of hB))
   have F92 := Lib.hid (kX.out.kp (.of hB))
   have k0c := Lib.hid (Blw kT.out hB)
   clear hB
   generalize hF : ({ tmps := _, defers := _ } : Act) = F
   have ev2 : F.eval (.tmp 2) = .pointer (some ⟨w.heap.size, 0, none⟩) := by rw [← hF]; rfl
   have ev3 : F.eval (.tmp 3) = .pointer (some ⟨w.heap.size + 1, 0, none⟩) := by rw [← hF]; rfl
   have ev5 : F.eval (.tmp 5) = .pointer (some ⟨g18_5, 0, none⟩) := by rw [← hF]; rfl
   have ev6 : F.eval (.tmp 6) = .pointer (some ⟨g55_5, 0, none⟩) := by rw [← hF]; rfl
   have HF := Lib.hid hF; clear hF
   refine wp_flow_tab true hW 9 [(17, []), (18, []), (19, [0, 1]), (20, []), (21, [3]), (22, []), (23, [5]), (24, [4, 6]), (25, [2, 7])] [SC (.agg #[u0, u1]), SC (.agg #[v0, v1]), SI (r.num * t.den + t.num * r.den), SC (.agg #[a0, a1, a2, a3]), SI ((r.den : Int)), SC (.agg #[b0, b1, b2, b3]), SI ((t.den : Int)), SI ((r.den : Int) * t.den), SR (Rat.divInt (r.num * t.den + t.num * r.den) (r.den * t.den))] [false, false, false, false, false, false, false, false, false] (by kernel_rfl) (by kernel_rfl) (by kernel_rfl) (by kernel_rfl) (by kernel_rfl) (by rw [← HF.out]; simp) ⟨SC.mono _, SC.mono _, SI.mono _, SC.mono _, SI.mono _, SC.mono _, SI.mono _, SI.mono _, SR.mono _, trivial⟩ ?_ ?_
   ·intro kq hkq a wx hB hp hs
    have hcase : kq = 0 ∨ kq = 1 ∨ kq = 2 ∨ kq = 3 ∨ kq = 4 ∨ kq = 5 ∨ kq = 6 ∨ kq = 7 ∨ kq = 8 := by omega
    rcases hcase with rfl | rfl | rfl | rfl | rfl | rfl | rfl | rfl | rfl
    ·exact ⟨_, rfl, ld_Int rfl ((hs 5 rfl).trans ev5) (k06.below hB) rfl rfl⟩
    ·exact ⟨_, rfl, ld_Int rfl ((hs 6 rfl).trans ev6) (k07.below hB) rfl rfl⟩
    ·obtain ⟨k0, k1, -⟩ := hp
     exact ⟨_, rfl, Does.ri (f := 88) (call2 rfl (fun _ => by simp [go_sem]) k0 k1) (radd3_any (j + k) u0 u1 v0 v1 (r.num * t.den) (t.num * r.den) wx (F91.out.kp (.of hB)) (F92.out.kp (.of hB)) (HBR.out.1.mul HBT.out.2) (by rw [Nat.add_comm]; exact HBT.out.1.mul HBR.out.2) (by omega))⟩
    ·exact ⟨_, rfl, ld_Rat rfl ((hs 2 rfl).trans ev2) (k03.below hB) rfl rfl rfl rfl⟩
    ·obtain ⟨k0, -⟩ := hp
     exact ⟨_, rfl, Does.ri (f := 80) (call1 rfl (fun _ => by simp [go_sem]) k0) (den4_any a0 a1 a2 a3 r wx (F89.out.kp (.of hB)))⟩
    ·exact ⟨_, rfl, ld_Rat rfl ((hs 3 rfl).trans ev3) (k04.below hB) rfl rfl rfl rfl⟩
    ·obtain ⟨k0, -⟩ := hp
     exact ⟨_, rfl, Does.ri (f := 80) (call1 rfl (fun _ => by simp [go_sem]) k0) (den4_any b0 b1 b2 b3 t wx (F90.out.kp (.of hB)))⟩
    ·obtain ⟨k0, k1, -⟩ := hp
     obtain ⟨x0, x1, e0, h_x⟩ := k0
     replace e0 : a.eval (.tmp 21) = .agg #[x0, x1] := e0
     obtain ⟨y0, y1, e1, h_y⟩ := k1
     replace e1 : a.eval (.tmp 23) = .agg #[y0, y1] := e1
     exact ⟨_, rfl, Does.ri (f := 79) (call2 rfl (fun _ => by simp [go_sem]) e0 e1) (rmul3_any j k x0 x1 y0 y1 r.den t.den wx h_x h_y HBR.out.2 HBT.out.2 (by omega))⟩
    ·obtain ⟨k0, k1, -⟩ := hp
     obtain ⟨m0, m1, e0, h_m⟩ := k0
     replace e0 : a.eval (.tmp 19) = .agg #[m0, m1] := e0
     obtain ⟨d0, d1, e1, h_d⟩ := k1
     replace e1 : a.eval (.tmp 24) = .agg #[d0, d1] := e1
     exact ⟨_, rfl, Does.rr (f := 70) (call2 rfl (fun _ => by simp [go_sem]) e0 e1) (make4_any (j + k + 1) m0 m1 d0 d1 (r.num * t.den + t.num * r.den) (r.den * t.den) wx h_m h_d ((HBR.out.1.mul HBT.out.2).add' (by rw [Nat.add_comm]; exact HBT.out.1.mul HBR.out.2)) ((HBR.out.2.mul HBT.out.2).mono (by omega)) hk)⟩
   ·intro val wx hB hsp hdis
    obtain ⟨z0, z1, z2, z3, e8, h_z⟩ := hsp 8 (by omega)
    replace e8 : val 8 = .agg #[z0, z1, z2, z3] := e8
    rw [← HF.out]
    change wpList _ _ _ [_] _ _
    simp only [puts, vals, List.map_cons, List.map_nil, List.foldl_cons, List.foldl_nil, if_true, Nat.zero_add, Nat.reduceAdd, e8, List.setIfInBounds_toArray, List.set_cons_succ, List.set_cons_zero]
    clear hsp hdis HF e8
    clear ev2 ev3 ev5 ev6
    obtain ⟨w95, rfl⟩ : ∃ W : World, W = wx := ⟨_, rfl⟩
    have km := k05.below hB
    have k0d := Lib.hid (Blw k0c.out hB)
    have k0e := Lib.hid h_z
    obtain ⟨o_z0, o_z1, o_z2, o_z3⟩ := h_z.ones
    clear h_z
    clear hB
    obtain ⟨k0f, k0g, k0h, k0i, k0y, k0z⟩ := km.f4
    go_wp2
    have hkp := (Kp.refl w95).t4 (km) z0 z1 z2 z3
    rw [← q_add]
    refine bodyPost_ret (v := .agg #[z0, z1, z2, z3]) (by simp [results, Try.results59, go_sem, k0f, k0g, k0h, k0i]) rfl ⟨_, _, _, _, rfl, ?_, bel4 (k0d.out) (by first | simp | omega)⟩
    exact k0e.out.kp hkp
set_option maxRecDepth 100000 in
theorem rneg4_any (a0 a1 a2 a3 : Value) (r : Rat) (w : World) (hr : RatV w a0 a1 a2 a3 r) :
  Calls Try.prog 45 #[.agg #[a0, a1, a2, a3]] w (RR (-r) w) := by
 obtain ⟨o_a0, o_a1, o_a2, o_a3⟩ := hr.ones
 have HHR := Lib.hid hr
 clear hr
 go_enter Try.func45, Try.ntmps45
 go_wp2_with fail
 generalize hW : (w.alloc _).alloc _ = W1
 obtain ⟨k5, k6, hB⟩ := box2 hW
 have k1 := Lib.hid hB; clear hW hB
 have F5 := Lib.hid (HHR.out.kp (.of k1.out))
 go_upto_region 1 with fail
 generalize hW : W1.drew = W6
 have hB : Below W1.heap.size W1 W6 := by rw [← hW]; exact (Below.refl _ _).drew
 have k2 := k5.below hB
 have k8 := k6.below hB
 have F9 := Lib.hid (F5.out.kp (.of hB))
 have k9 := Lib.hid (Blw k1.out hB)
 clear hB
 generalize hF : ({ tmps := _, defers := _ } : Act) = F
 have ev1 : F.eval (.tmp 1) = .pointer (some ⟨w.heap.size, 0, none⟩) := by rw [← hF]; rfl
 have HF := Lib.hid hF; clear hF
 refine wp_flow_tab true hW 6 [(3, []), (4, [0]), (5, [1]), (6, []), (7, [3]), (8, [2, 4])] [SC (.pointer (some ⟨w.heap.size, 0, none⟩)), SC (.agg #[a0, a1]), SI (-r.num), SC (.pointer (some ⟨w.heap.size, 2, none⟩)), SC (.agg #[a2, a3]), SR (-r)] [false, false, false, false, false, false] (by kernel_rfl) (by kernel_rfl) (by kernel_rfl) (by kernel_rfl) (by kernel_rfl) (by rw [← HF.out]; simp) ⟨SC.mono _, SC.mono _, SI.mono _, SC.mono _, SC.mono _, SR.mono _, trivial⟩ ?_ ?_
 ·intro kq hkq a wx hB hp hs
  have hcase : kq = 0 ∨ kq = 1 ∨ kq = 2 ∨ kq = 3 ∨ kq = 4 ∨ kq = 5 := by omega
  rcases hcase with rfl | rfl | rfl | rfl | rfl | rfl
  ·exact ⟨_, rfl, fa_Rat0 rfl ((hs 1 rfl).trans ev1)⟩
  ·obtain ⟨k0, -⟩ := hp
   exact ⟨_, rfl, ld_Int rfl k0 (k2.below hB) rfl rfl⟩
  ·obtain ⟨k0, -⟩ := hp
   exact ⟨_, rfl, Does.ri (f := 72) (call1 rfl (fun _ => by simp [go_sem]) k0) (rneg3_any a0 a1 r.num wx ((F9.out.kp (.of hB))).1)⟩
  ·exact ⟨_, rfl, fa_Rat1 rfl ((hs 1 rfl).trans ev1)⟩
  ·obtain ⟨k0, -⟩ := hp
   exact ⟨_, rfl, ld_Int rfl k0 (k2.below hB) rfl rfl⟩
  ·obtain ⟨k0, ka, -⟩ := hp
   obtain ⟨n0, n1, e0, h_n⟩ := k0
   replace e0 : a.eval (.tmp 5) = .agg #[n0, n1] := e0
   have e1 : a.eval (.tmp 7) = .agg #[a2, a3] := ka
   simp [Act.eval] at e0
   simp [Act.eval] at e1
   exact ⟨_, rfl, Does.val (by simp [execOp, Act.eval, e0, e1, go_sem]) ⟨n0, n1, a2, a3, rfl, ⟨by rw [Rat.neg_num]; exact h_n, by rw [show dq (-r) = dq r from by unfold dq; rw [Rat.neg_den]]; exact ((F9.out.kp (.of hB))).2⟩⟩⟩
 ·intro val wx hB hsp hdis
  obtain ⟨z0, z1, z2, z3, e5, h_z⟩ := hsp 5 (by omega)
  replace e5 : val 5 = .agg #[z0, z1, z2, z3] := e5
  rw [← HF.out]
  change wpList _ _ _ [_] _ _
  simp only [puts, vals, List.map_cons, List.map_nil, List.foldl_cons, List.foldl_nil, if_true, Nat.zero_add, Nat.reduceAdd, e5, List.setIfInBounds_toArray, List.set_cons_succ, List.set_cons_zero]
  clear hsp hdis HF e5
  clear ev1
  obtain ⟨w12, rfl⟩ : ∃ W : World, W = wx := ⟨_, rfl⟩
  have k4 := k8.below hB
  have kb := Lib.hid (Blw k9.out hB)
  have kc := Lib.hid h_z
  obtain ⟨o_z0, o_z1, o_z2, o_z3⟩ := h_z.ones
  clear h_z
  clear hB
  obtain ⟨kd, ke, kf, kg, kh, ki⟩ := k4.f4
  go_wp2
  have hkp := (Kp.refl w12).t4 (k4) z0 z1 z2 z3
  refine bodyPost_ret (v := .agg #[z0, z1, z2, z3]) (by simp [results, Try.results45, go_sem, kd, ke, kf, kg]) rfl ⟨_, _, _, _, rfl, ?_, bel4 (kb.out) (by first | simp | omega)⟩
  exact kc.out.kp hkp
set_option maxRecDepth 100000 in
theorem rsub4_any (j k : Nat) (a0 a1 a2 a3 b0 b1 b2 b3 : Value) (r t : Rat) (w : World) (hr : RatV w a0 a1 a2 a3 r) (ht : RatV w b0 b1 b2 b3 t) (br : Bq j r) (bt : Bq k t) (hk : j + k + 1 ≤ 800000000000) :
  Calls Try.prog 61 #[.agg #[a0, a1, a2, a3], .agg #[b0, b1, b2, b3]] w (RR (r - t) w) := by
 obtain ⟨o_a0, o_a1, o_a2, o_a3⟩ := hr.ones
 obtain ⟨o_b0, o_b1, o_b2, o_b3⟩ := ht.ones
 have HHR := Lib.hid hr; have HHT := Lib.hid ht; have HBR := Lib.hid br; have HBT := Lib.hid bt
 clear hr ht br bt
 go_enter Try.func61, Try.ntmps61
 go_wp2_with fail
 generalize hW : ((w.alloc _).alloc _).alloc _ = W1
 obtain ⟨k3, k4, k5, hB⟩ := box3 hW
 have k0 := Lib.hid hB; clear hW hB
 have F6 := Lib.hid (HHR.out.kp (.of k0.out))
 have F7 := Lib.hid (HHT.out.kp (.of k0.out))
 go_upto_region 1 with fail
 generalize hW : W1.drew = W8
 have hB : Below W1.heap.size W1 W8 := by rw [← hW]; exact (Below.refl _ _).drew
 have k8 := k3.below hB
 have k9 := k4.below hB
 have ka := k5.below hB
 have kb := Lib.hid (F6.out.kp (.of hB))
 have kc := Lib.hid (F7.out.kp (.of hB))
 have kd := Lib.hid (Blw k0.out hB)
 clear hB
 generalize hF : ({ tmps := _, defers := _ } : Act) = F
 have ev2 : F.eval (.tmp 2) = .pointer (some ⟨w.heap.size, 0, none⟩) := by rw [← hF]; rfl
 have ev3 : F.eval (.tmp 3) = .pointer (some ⟨w.heap.size + 1, 0, none⟩) := by rw [← hF]; rfl
 have HF := Lib.hid hF; clear hF
 refine wp_flow_tab true hW 4 [(5, []), (6, []), (7, [1]), (8, [0, 2])] [SC (.agg #[a0, a1, a2, a3]), SC (.agg #[b0, b1, b2, b3]), SR (-t), SR (r + -t)] [false, false, false, false] (by kernel_rfl) (by kernel_rfl) (by kernel_rfl) (by kernel_rfl) (by kernel_rfl) (by rw [← HF.out]; simp) ⟨SC.mono _, SC.mono _, SR.mono _, SR.mono _, trivial⟩ ?_ ?_
 ·intro kq hkq a wx hB hp hs
  have hcase : kq = 0 ∨ kq = 1 ∨ kq = 2 ∨ kq = 3 := by omega
  rcases hcase with rfl | rfl | rfl | rfl
  ·exact ⟨_, rfl, ld_Rat rfl ((hs 2 rfl).trans ev2) (k8.below hB) rfl rfl rfl rfl⟩
  ·exact ⟨_, rfl, ld_Rat rfl ((hs 3 rfl).trans ev3) (k9.below hB) rfl rfl rfl rfl⟩
  ·obtain ⟨k1, -⟩ := hp
   exact ⟨_, rfl, Does.rr (f := 45) (call1 rfl (fun _ => by simp [go_sem]) k1) (rneg4_any b0 b1 b2 b3 t wx (kc.out.kp (.of hB)))⟩
  ·obtain ⟨k1, ke, -⟩ := hp
   obtain ⟨n0, n1, n2, n3, e1, h_n⟩ := ke
   replace e1 : a.eval (.tmp 7) = .agg #[n0, n1, n2, n3] := e1
   exact ⟨_, rfl, Does.rr (f := 59) (call2 rfl (fun _ => by simp [go_sem]) k1 e1) (radd4_any j k a0 a1 a2 a3 n0 n1 n2 n3 r (-t) wx (kb.out.kp (.of hB)) h_n HBR.out HBT.out.neg hk)⟩
 ·intro val wx hB hsp hdis
  obtain ⟨z0, z1, z2, z3, e3, h_z⟩ := hsp 3 (by omega)
  replace e3 : val 3 = .agg #[z0, z1, z2, z3] := e3
  rw [← HF.out]
  change wpList _ _ _ [_] _ _
  simp only [puts, vals, List.map_cons, List.map_nil, List.foldl_cons, List.foldl_nil, if_true, Nat.zero_add, Nat.reduceAdd, e3, List.setIfInBounds_toArray, List.set_cons_succ, List.set_cons_zero]
  clear hsp hdis HF e3
  clear ev2 ev3
  obtain ⟨w16, rfl⟩ : ∃ W : World, W = wx := ⟨_, rfl⟩
  have k2 := ka.below hB
  have kf := Lib.hid (Blw kd.out hB)
  have kg := Lib.hid h_z
  obtain ⟨o_z0, o_z1, o_z2, o_z3⟩ := h_z.ones
  clear h_z
  clear hB
  obtain ⟨kh, ki, kj, kk, kl, km⟩ := k2.f4
  go_wp2
  have hkp := (Kp.refl w16).t4 (k2) z0 z1 z2 z3
  rw [Rat.sub_eq_add_neg]
  refine bodyPost_ret (v := .agg #[z0, z1, z2, z3]) (by simp [results, Try.results61, go_sem, kh, ki, kj, kk]) rfl ⟨_, _, _, _, rfl, ?_, bel4 (kf.out) (by first | simp | omega)⟩
  exact kg.out.kp hkp
set_option maxRecDepth 100000 in
theorem rmul4_any (j k : Nat) (a0 a1 a2 a3 b0 b1 b2 b3 : Value) (r t : Rat) (w : World) (hr : RatV w a0 a1 a2 a3 r) (ht : RatV w b0 b1 b2 b3 t) (br : Bq j r) (bt : Bq k t) (hk : j + k + 1 ≤ 800000000000) :
  Calls Try.prog 60 #[.agg #[a0, a1, a2, a3], .agg #[b0, b1, b2, b3]] w (RR (r * t) w) := by
 obtain ⟨o_a0, o_a1, o_a2, o_a3⟩ := hr.ones
 obtain ⟨o_b0, o_b1, o_b2, o_b3⟩ := ht.ones
 have HHR := Lib.hid hr; have HHT := Lib.hid ht; have HBR := Lib.hid br; have HBT := Lib.hid bt
 clear hr ht br bt
 go_enter Try.func60, Try.ntmps60
 go_wp2_with fail
 generalize hW : ((w.alloc _).alloc _).alloc _ = W1
 obtain ⟨ka, kb, kc, hB⟩ := box3 hW
 have k2 := Lib.hid hB; clear hW hB
 have F6 := Lib.hid (HHR.out.kp (.of k2.out))
 have F7 := Lib.hid (HHT.out.kp (.of k2.out))
 go_upto_region 1 with fail
 generalize hW : W1.drew = W8
 have hB : Below W1.heap.size W1 W8 := by rw [← hW]; exact (Below.refl _ _).drew
 have k3 := ka.below hB
 have k4 := kb.below hB
 have kf := kc.below hB
 have k5 := Lib.hid (F6.out.kp (.of hB))
 have k6 := Lib.hid (F7.out.kp (.of hB))
 have kg := Lib.hid (Blw k2.out hB)
 clear hB
 generalize hF : ({ tmps := _, defers := _ } : Act) = F
 have ev2 : F.eval (.tmp 2) = .pointer (some ⟨w.heap.size, 0, none⟩) := by rw [← hF]; rfl
 have ev3 : F.eval (.tmp 3) = .pointer (some ⟨w.heap.size + 1, 0, none⟩) := by rw [← hF]; rfl
 have HF := Lib.hid hF; clear hF
 refine wp_flow_tab true hW 11 [(5, []), (6, [0]), (7, []), (8, [2]), (9, [1, 3]), (10, []), (11, [5]), (12, []), (13, [7]), (14, [6, 8]), (15, [4, 9])] [SC (.pointer (some ⟨w.heap.size, 0, none⟩)), SC (.agg #[a0, a1]), SC (.pointer (some ⟨w.heap.size + 1, 0, none⟩)), SC (.agg #[b0, b1]), SI (r.num * t.num), SC (.agg #[a0, a1, a2, a3]), SI ((r.den : Int)), SC (.agg #[b0, b1, b2, b3]), SI ((t.den : Int)), SI ((r.den : Int) * t.den), SR (Rat.divInt (r.num * t.num) (r.den * t.den))] [false, false, false, false, false, false, false, false, false, false, false] (by kernel_rfl) (by kernel_rfl) (by kernel_rfl) (by kernel_rfl) (by kernel_rfl) (by rw [← HF.out]; simp) ⟨SC.mono _, SC.mono _, SC.mono _, SC.mono _, SI.mono _, SC.mono _, SI.mono _, SC.mono _, SI.mono _, SI.mono _, SR.mono _, trivial⟩ ?_ ?_
 ·intro kq hkq a wx hB hp hs
  have hcase : kq = 0 ∨ kq = 1 ∨ kq = 2 ∨ kq = 3 ∨ kq = 4 ∨ kq = 5 ∨ kq = 6 ∨ kq = 7 ∨ kq = 8 ∨ kq = 9 ∨ kq = 10 := by omega
  rcases hcase with rfl | rfl | rfl | rfl | rfl | rfl | rfl | rfl | rfl | rfl | rfl
  ·exact ⟨_, rfl, fa_Rat0 rfl ((hs 2 rfl).trans ev2)⟩
  ·obtain ⟨k0, -⟩ := hp
   exact ⟨_, rfl, ld_Int rfl k0 (k3.below hB) rfl rfl⟩
  ·exact ⟨_, rfl, fa_Rat0 rfl ((hs 3 rfl).trans ev3)⟩
  ·obtain ⟨k0, -⟩ := hp
   exact ⟨_, rfl, ld_Int rfl k0 (k4.below hB) rfl rfl⟩
  ·obtain ⟨k0, k1, -⟩ := hp
   exact ⟨_, rfl, Does.ri (f := 79) (call2 rfl (fun _ => by simp [go_sem]) k0 k1) (rmul3_any j k a0 a1 b0 b1 r.num t.num wx ((k5.out.kp (.of hB))).1 ((k6.out.kp (.of hB))).1 HBR.out.1 HBT.out.1 (by omega))⟩
  ·exact ⟨_, rfl, ld_Rat rfl ((hs 2 rfl).trans ev2) (k3.below hB) rfl rfl rfl rfl⟩
  ·obtain ⟨k0, -⟩ := hp
   exact ⟨_, rfl, Does.ri (f := 80) (call1 rfl (fun _ => by simp [go_sem]) k0) (den4_any a0 a1 a2 a3 r wx (k5.out.kp (.of hB)))⟩
  ·exact ⟨_, rfl, ld_Rat rfl ((hs 3 rfl).trans ev3) (k4.below hB) rfl rfl rfl rfl⟩
  ·obtain ⟨k0, -⟩ := hp
   exact ⟨_, rfl, Does.ri (f := 80) (call1 rfl (fun _ => by simp [go_sem]) k0) (den4_any b0 b1 b2 b3 t wx (k6.out.kp (.of hB)))⟩
  ·obtain ⟨k0, k1, -⟩ := hp
   obtain ⟨x0, x1, e0, h_x⟩ := k0
   replace e0 : a.eval (.tmp 11) = .agg #[x0, x1] := e0
   obtain ⟨y0, y1, e1, h_y⟩ := k1
   replace e1 : a.eval (.tmp 13) = .agg #[y0, y1] := e1
   exact ⟨_, rfl, Does.ri (f := 79) (call2 rfl (fun _ => by simp [go_sem]) e0 e1) (rmul3_any j k x0 x1 y0 y1 r.den t.den wx h_x h_y HBR.out.2 HBT.out.2 (by omega))⟩
  ·obtain ⟨k0, k1, -⟩ := hp
   obtain ⟨m0, m1, e0, h_m⟩ := k0
   replace e0 : a.eval (.tmp 9) = .agg #[m0, m1] := e0
   obtain ⟨d0, d1, e1, h_d⟩ := k1
   replace e1 : a.eval (.tmp 14) = .agg #[d0, d1] := e1
   exact ⟨_, rfl, Does.rr (f := 70) (call2 rfl (fun _ => by simp [go_sem]) e0 e1) (make4_any (j + k + 1) m0 m1 d0 d1 (r.num * t.num) (r.den * t.den) wx h_m h_d ((HBR.out.1.mul HBT.out.1).mono (by omega)) ((HBR.out.2.mul HBT.out.2).mono (by omega)) hk)⟩
 ·intro val wx hB hsp hdis
  obtain ⟨z0, z1, z2, z3, e10, h_z⟩ := hsp 10 (by omega)
  replace e10 : val 10 = .agg #[z0, z1, z2, z3] := e10
  rw [← HF.out]
  change wpList _ _ _ [_] _ _
  simp only [puts, vals, List.map_cons, List.map_nil, List.foldl_cons, List.foldl_nil, if_true, Nat.zero_add, Nat.reduceAdd, e10, List.setIfInBounds_toArray, List.set_cons_succ, List.set_cons_zero]
  clear hsp hdis HF e10
  clear ev2 ev3
  obtain ⟨w16, rfl⟩ : ∃ W : World, W = wx := ⟨_, rfl⟩
  have k9 := kf.below hB
  have kh := Lib.hid (Blw kg.out hB)
  have ki := Lib.hid h_z
  obtain ⟨o_z0, o_z1, o_z2, o_z3⟩ := h_z.ones
  clear h_z
  clear hB
  obtain ⟨kj, kk, kl, km, kn, ko⟩ := k9.f4
  go_wp2
  have hkp := (Kp.refl w16).t4 (k9) z0 z1 z2 z3
  rw [← q_mul]
  refine bodyPost_ret (v := .agg #[z0, z1, z2, z3]) (by simp [results, Try.results60, go_sem, kj, kk, kl, km]) rfl ⟨_, _, _, _, rfl, ?_, bel4 (kh.out) (by first | simp | omega)⟩
  exact ki.out.kp hkp
theorem q_div (r t : Rat) : Rat.divInt (r.num * t.den) (r.den * t.num) = r / t := by
 rw [← Rat.divInt_mul_divInt, Rat.num_divInt_den, Rat.div_def, Rat.inv_def]
set_option maxRecDepth 100000 in
theorem rdiv4_any (j k : Nat) (a0 a1 a2 a3 b0 b1 b2 b3 : Value) (r t : Rat) (w : World) (hr : RatV w a0 a1 a2 a3 r) (ht : RatV w b0 b1 b2 b3 t) (br : Bq j r) (bt : Bq k t) (hk : j + k + 1 ≤ 800000000000) :
  Calls Try.prog 52 #[.agg #[a0, a1, a2, a3], .agg #[b0, b1, b2, b3]] w (RR (r / t) w) := by
 obtain ⟨o_a0, o_a1, o_a2, o_a3⟩ := hr.ones
 obtain ⟨o_b0, o_b1, o_b2, o_b3⟩ := ht.ones
 have HHR := Lib.hid hr; have HHT := Lib.hid ht; have HBR := Lib.hid br; have HBT := Lib.hid bt
 clear hr ht br bt
 go_enter Try.func52, Try.ntmps52
 go_wp2_with fail
 generalize hW : ((w.alloc _).alloc _).alloc _ = W1
 obtain ⟨ka, kb, kc, hB⟩ := box3 hW
 have k2 := Lib.hid hB; clear hW hB
 have F6 := Lib.hid (HHR.out.kp (.of k2.out))
 have F7 := Lib.hid (HHT.out.kp (.of k2.out))
 go_upto_region 1 with fail
 generalize hW : W1.drew = W8
 have hB : Below W1.heap.size W1 W8 := by rw [← hW]; exact (Below.refl _ _).drew
 have k3 := ka.below hB
 have k4 := kb.below hB
 have kf := kc.below hB
 have k5 := Lib.hid (F6.out.kp (.of hB))
 have k6 := Lib.hid (F7.out.kp (.of hB))
 have kg := Lib.hid (Blw k2.out hB)
 clear hB
 generalize hF : ({ tmps := _, defers := _ } : Act) = F
 have ev2 : F.eval (.tmp 2) = .pointer (some ⟨w.heap.size, 0, none⟩) := by rw [← hF]; rfl
 have ev3 : F.eval (.tmp 3) = .pointer (some ⟨w.heap.size + 1, 0, none⟩) := by rw [← hF]; rfl
 have HF := Lib.hid hF; clear hF
 refine wp_flow_tab true hW 11 [(5, []), (6, [0]), (7, []), (8, [2]), (9, [1, 3]), (10, []), (11, [5]), (12, []), (13, [7]), (14, [6, 8]), (15, [4, 9])] [SC (.pointer (some ⟨w.heap.size, 0, none⟩)), SC (.agg #[a0, a1]), SC (.agg #[b0, b1, b2, b3]), SI ((t.den : Int)), SI (r.num * t.den), SC (.agg #[a0, a1, a2, a3]), SI ((r.den : Int)), SC (.pointer (some ⟨w.heap.size + 1, 0, none⟩)), SC (.agg #[b0, b1]), SI ((r.den : Int) * t.num), SR (Rat.divInt (r.num * t.den) (r.den * t.num))] [false, false, false, false, false, false, false, false, false, false, false] (by kernel_rfl) (by kernel_rfl) (by kernel_rfl) (by kernel_rfl) (by kernel_rfl) (by rw [← HF.out]; simp) ⟨SC.mono _, SC.mono _, SC.mono _, SI.mono _, SI.mono _, SC.mono _, SI.mono _, SC.mono _, SC.mono _, SI.mono _, SR.mono _, trivial⟩ ?_ ?_
 ·intro kq hkq a wx hB hp hs
  have hcase : kq = 0 ∨ kq = 1 ∨ kq = 2 ∨ kq = 3 ∨ kq = 4 ∨ kq = 5 ∨ kq = 6 ∨ kq = 7 ∨ kq = 8 ∨ kq = 9 ∨ kq = 10 := by omega
  rcases hcase with rfl | rfl | rfl | rfl | rfl | rfl | rfl | rfl | rfl | rfl | rfl
  ·exact ⟨_, rfl, fa_Rat0 rfl ((hs 2 rfl).trans ev2)⟩
  ·obtain ⟨k0, -⟩ := hp
   exact ⟨_, rfl, ld_Int rfl k0 (k3.below hB) rfl rfl⟩
  ·exact ⟨_, rfl, ld_Rat rfl ((hs 3 rfl).trans ev3) (k4.below hB) rfl rfl rfl rfl⟩
  ·obtain ⟨k0, -⟩ := hp
   exact ⟨_, rfl, Does.ri (f := 80) (call1 rfl (fun _ => by simp [go_sem]) k0) (den4_any b0 b1 b2 b3 t wx (k6.out.kp (.of hB)))⟩
  ·obtain ⟨k0, k1, -⟩ := hp
   obtain ⟨y0, y1, e1, h_y⟩ := k1
   replace e1 : a.eval (.tmp 8) = .agg #[y0, y1] := e1
   exact ⟨_, rfl, Does.ri (f := 79) (call2 rfl (fun _ => by simp [go_sem]) k0 e1) (rmul3_any j k a0 a1 y0 y1 r.num t.den wx ((k5.out.kp (.of hB))).1 h_y HBR.out.1 HBT.out.2 (by omega))⟩
  ·exact ⟨_, rfl, ld_Rat rfl ((hs 2 rfl).trans ev2) (k3.below hB) rfl rfl rfl rfl⟩
  ·obtain ⟨k0, -⟩ := hp
   exact ⟨_, rfl, Does.ri (f := 80) (call1 rfl (fun _ => by simp [go_sem]) k0) (den4_any a0 a1 a2 a3 r wx (k5.out.kp (.of hB)))⟩
  ·exact ⟨_, rfl, fa_Rat0 rfl ((hs 3 rfl).trans ev3)⟩
  ·obtain ⟨k0, -⟩ := hp
   exact ⟨_, rfl, ld_Int rfl k0 (k4.below hB) rfl rfl⟩
  ·obtain ⟨k0, k1, -⟩ := hp
   obtain ⟨x0, x1, e0, h_x⟩ := k0
   replace e0 : a.eval (.tmp 11) = .agg #[x0, x1] := e0
   exact ⟨_, rfl, Does.ri (f := 79) (call2 rfl (fun _ => by simp [go_sem]) e0 k1) (rmul3_any j k x0 x1 b0 b1 r.den t.num wx h_x ((k6.out.kp (.of hB))).1 HBR.out.2 HBT.out.1 (by omega))⟩
  ·obtain ⟨k0, k1, -⟩ := hp
   obtain ⟨m0, m1, e0, h_m⟩ := k0
   replace e0 : a.eval (.tmp 9) = .agg #[m0, m1] := e0
   obtain ⟨d0, d1, e1, h_d⟩ := k1
   replace e1 : a.eval (.tmp 14) = .agg #[d0, d1] := e1
   exact ⟨_, rfl, Does.rr (f := 70) (call2 rfl (fun _ => by simp [go_sem]) e0 e1) (make4_any (j + k + 1) m0 m1 d0 d1 (r.num * t.den) (r.den * t.num) wx h_m h_d ((HBR.out.1.mul HBT.out.2).mono (by omega)) ((HBR.out.2.mul HBT.out.1).mono (by omega)) hk)⟩
 ·intro val wx hB hsp hdis
  obtain ⟨z0, z1, z2, z3, e10, h_z⟩ := hsp 10 (by omega)
  replace e10 : val 10 = .agg #[z0, z1, z2, z3] := e10
  rw [← HF.out]
  change wpList _ _ _ [_] _ _
  simp only [puts, vals, List.map_cons, List.map_nil, List.foldl_cons, List.foldl_nil, if_true, Nat.zero_add, Nat.reduceAdd, e10, List.setIfInBounds_toArray, List.set_cons_succ, List.set_cons_zero]
  clear hsp hdis HF e10
  clear ev2 ev3
  obtain ⟨w16, rfl⟩ : ∃ W : World, W = wx := ⟨_, rfl⟩
  have k9 := kf.below hB
  have kh := Lib.hid (Blw kg.out hB)
  have ki := Lib.hid h_z
  obtain ⟨o_z0, o_z1, o_z2, o_z3⟩ := h_z.ones
  clear h_z
  clear hB
  obtain ⟨kj, kk, kl, km, kn, ko⟩ := k9.f4
  go_wp2
  have hkp := (Kp.refl w16).t4 (k9) z0 z1 z2 z3
  rw [← q_div]
  refine bodyPost_ret (v := .agg #[z0, z1, z2, z3]) (by simp [results, Try.results52, go_sem, kj, kk, kl, km]) rfl ⟨_, _, _, _, rfl, ?_, bel4 (kh.out) (by first | simp | omega)⟩
  exact ki.out.kp hkp
set_option maxRecDepth 100000 in
theorem rsign4_any (a0 a1 a2 a3 : Value) (r : Rat) (w : World) (hr : RatV w a0 a1 a2 a3 r) :
  Calls Try.prog 51 #[.agg #[a0, a1, a2, a3]] w (fun e w' => e = .returned (.int .i64 (sgnZ r.num)) ∧ Below w.heap.size w w') := by
 obtain ⟨o_a0, o_a1, o_a2, o_a3⟩ := hr.ones
 have HHR := Lib.hid hr
 clear hr
 go_enter Try.func51, Try.ntmps51
 go_wp2_with fail
 generalize hW : w.alloc _ = W1
 obtain ⟨k3, hB⟩ := box1 hW
 have k1 := Lib.hid hB; clear hW hB
 have F4 := Lib.hid (HHR.out.kp (.of k1.out))
 have k2 := rsign3_any a0 a1 r.num W1 (F4.out).1
 (with_reducible refine k2.mono ?_)
 clear k2
 rintro e w5 ⟨rfl, k0⟩
 have k5 := k3.below k0
 have k6 := Lib.hid (Blw k1.out k0)
 clear k0
 obtain ⟨k7, k8, k9, ka, kb, kc⟩ := k5.f4
 go_wp2
 go_ret
 exact ⟨rfl, k6.out⟩
end Go.Proofs.Ytonkbckgbfcnkaa
