/-
 THE WALKS of Valid for numbers that are not canonical.
-/
import Derived.Test.YtonkbckgbfcnkaaWalkValid
namespace Go.Proofs.Ytonkbckgbfcnkaa
set_option maxHeartbeats 2000000
open Go.RowKit
attribute [local go_sem] run_store_one
set_option linter.unusedVariables false
theorem dig_one {d : Int} (h0 : 0 ≤ d) (h1 : d < 1000000000) : I.Dig [d] := by
 intro x hx
 simp at hx
 subst hx
 exact ⟨h0, h1⟩
theorem sl_form {w : World} {q : Value} {d : Int} (h : Sl w q [d]) : ∃ b o c, q = .slice (some ⟨b, o, none⟩) 1 c ∧ 1 ≤ c ∧ c ≤ maxLen ∧ b < w.heap.size ∧ w.cell? ⟨b, o, none⟩ = some (.int .i64 d) := by
 obtain ⟨A, n, c, rfl, rfl, hc, hm, hr, _⟩ := h
 obtain ⟨b, o, rfl, hb, hcell⟩ := hr (by simp)
 exact ⟨b, o, c, rfl, hc, hm, hb, hcell 0 _ rfl⟩
theorem sl_one {w : World} {q : Value} {l : List Int} (h : Sl w q l) : q.oneCell' = true := by
 obtain ⟨A, n, c, rfl, _⟩ := h
 rfl
set_option maxRecDepth 100000 in
theorem ivalid_z (q : Value) (w : World) (hs : Sl w q [0]) : Calls Try.prog 82 #[.agg #[.bool false, q]] w fun e w' => e = .returned (.bool false) ∧ Below w.heap.size w w' := by
 obtain ⟨b, o, c, rfl, k8, k4, hb, hcell⟩ := sl_form hs
 unfold maxLen at k4
 have HS := Lib.hid hs; have HC := Lib.hid hcell
 clear hs hcell
 go_enter Try.func82, Try.ntmps82
 go_wp2_with fail
 generalize hW : w.alloc _ = W1
 obtain ⟨k5, hB⟩ := box1 hW
 have k1 := Lib.hid hB; clear hW hB
 have F4 := Lib.hid (HS.out.kp (.of k1.out))
 have k2 := contains_any (.slice (some ⟨b, o, none⟩) 1 c) [0] W1 F4.out (dig_one (by omega) (by omega))
 (with_reducible refine k2.mono ?_)
 clear k2
 rintro e w5 ⟨rfl, k0⟩
 have k7 := k5.below k0
 have k3 := Lib.hid (Blw k1.out k0)
 clear k0
 have q2 := kc HC.out k3.out hb
 obtain ⟨k9, ka, kb, kd⟩ := k7.f2
 go_wp2
 go_ret
 exact ⟨rfl, k3.out⟩
set_option maxRecDepth 100000 in
theorem rvalid_z (k : Nat) (a0 a1 q : Value) (x : Int) (w : World) (hx : IntV w a0 a1 x) (hq : Sl w q [0]) : Calls Try.prog 57 #[.agg #[a0, a1, .bool false, q]] w fun e w' => e = .returned (.bool false) ∧ Below w.heap.size w w' := by
 obtain ⟨o0, o1⟩ := hx.ones
 have o3 := sl_one hq
 have HX := Lib.hid hx; have HQ := Lib.hid hq
 clear hx hq
 go_enter Try.func57, Try.ntmps57
 go_wp2_with fail
 generalize hW : w.alloc _ = W1
 obtain ⟨k6, hB⟩ := box1 hW
 have k1 := Lib.hid hB; clear hW hB
 have F4 := Lib.hid (HX.out.kp (.of k1.out))
 have F5 := Lib.hid (HQ.out.kp (.of k1.out))
 have k3 := ivalid_any a0 a1 x W1 F4.out
 (with_reducible refine k3.mono ?_)
 clear k3
 rintro e w6 ⟨rfl, k0⟩
 have k4 := k6.below k0
 have k9 := Lib.hid (F5.out.kp (.of k0))
 have ka := Lib.hid (Blw k1.out k0)
 clear k0
 obtain ⟨kd, ke, kf, kg, kh, ki⟩ := k4.f4
 go_wp2_with fail
 have k5 := ivalid_z q w6 k9.out
 (with_reducible refine k5.mono ?_)
 clear k5
 rintro e w18 ⟨rfl, k2⟩
 have kb := k4.below k2
 have kc := Lib.hid (Blw ka.out k2)
 clear k2
 obtain ⟨kj, kk, kl, km, kn, ko⟩ := kb.f4
 go_wp2
 go_ret
 exact ⟨rfl, kc.out⟩
set_option maxRecDepth 100000 in
theorem rvalid_o (k : Nat) (a0 a1 q : Value) (x : Int) (w : World) (hx : IntV w a0 a1 x) (hq : IntV w (.bool false) q 1) : Calls Try.prog 57 #[.agg #[a0, a1, .bool false, q]] w fun e w' => e = .returned (.bool false) ∧ Below w.heap.size w w' := by
 obtain ⟨o0, o1⟩ := hx.ones
 have o3 := hq.one1
 have HX := Lib.hid hx; have HQ := Lib.hid hq
 clear hx hq
 go_enter Try.func57, Try.ntmps57
 go_wp2_with fail
 generalize hW : w.alloc _ = W1
 obtain ⟨ka, hB⟩ := box1 hW
 have k2 := Lib.hid hB; clear hW hB
 have F4 := Lib.hid (HX.out.kp (.of k2.out))
 have F5 := Lib.hid (HQ.out.kp (.of k2.out))
 have k4 := ivalid_any a0 a1 x W1 F4.out
 (with_reducible refine k4.mono ?_)
 clear k4
 rintro e w6 ⟨rfl, k0⟩
 have k5 := ka.below k0
 have k6 := Lib.hid (F5.out.kp (.of k0))
 have kd := Lib.hid (Blw k2.out k0)
 clear k0
 obtain ⟨ki, kj, kk, kl, km, kn⟩ := k5.f4
 go_wp2_with fail
 have k7 := ivalid_any (.bool false) q 1 w6 k6.out
 (with_reducible refine k7.mono ?_)
 clear k7
 rintro e w18 ⟨rfl, k1⟩
 have k8 := k5.below k1
 have ke := Lib.hid (k6.out.kp (.of k1))
 have kf := Lib.hid (Blw kd.out k1)
 clear k1
 obtain ⟨ko, kq, kr, ks, kt, ku⟩ := k8.f4
 go_wp2_with fail
 have k9 := unit_yes (.bool false) q 1 w18 ke.out rfl
 (with_reducible refine k9.mono ?_)
 clear k9
 rintro e w30 ⟨rfl, k3⟩
 have kg := k8.below k3
 have kh := Lib.hid (Blw kf.out k3)
 clear k3
 obtain ⟨kv, kw, kx, ky, kz, kA⟩ := kg.f4
 go_wp2
 go_ret
 exact ⟨rfl, kh.out⟩
set_option maxRecDepth 100000 in
theorem rvalid_g (k : Nat) (a0 a1 q : Value) (x : Int) (w : World) (hx : IntV w a0 a1 x) (hq : IntV w (.bool false) q 2) (bx : I.Bd k x) (hk : k + 2 ≤ 800000000000) (hg : Int.gcd x 2 ≠ 1) : Calls Try.prog 57 #[.agg #[a0, a1, .bool false, q]] w fun e w' => e = .returned (.bool false) ∧ Below w.heap.size w w' := by
 obtain ⟨o0, o1⟩ := hx.ones
 obtain ⟨_, A, n, c, e1, rfl⟩ := hq.form
 have hn0 := hq.len.2
 have hn : ((n : Int) == 0) = false := ne0 (fun h => by have := hn0.1 h; omega)
 have b2 : I.Bd (k + 2) 2 := I.Bd.mono (show I.Bd 2 2 by unfold I.Bd; decide) (by omega)
 have HX := Lib.hid hx; have HQ := Lib.hid hq; have HBX := Lib.hid bx; have HG := Lib.hid hg; have B2 := Lib.hid b2
 clear hx hq bx hg b2 e1 hn0
 go_enter Try.func57, Try.ntmps57
 go_wp2_with fail
 generalize hW : w.alloc _ = W1
 obtain ⟨kj, hB⟩ := box1 hW
 have k3 := Lib.hid hB; clear hW hB
 have F4 := Lib.hid (HX.out.kp (.of k3.out))
 have F5 := Lib.hid (HQ.out.kp (.of k3.out))
 have k8 := ivalid_any a0 a1 x W1 F4.out
 (with_reducible refine k8.mono ?_)
 clear k8
 rintro e w6 ⟨rfl, k0⟩
 have k9 := kj.below k0
 have F9 := Lib.hid (F4.out.kp (.of k0))
 have ka := Lib.hid (F5.out.kp (.of k0))
 have km := Lib.hid (Blw k3.out k0)
 clear k0
 obtain ⟨kx, ky, kz, kA, kB, kC⟩ := k9.f4
 go_wp2_with fail
 have kb := ivalid_any (.bool false) (.slice A n c) 2 w6 ka.out
 (with_reducible refine kb.mono ?_)
 clear kb
 rintro e w18 ⟨rfl, k1⟩
 have kc := k9.below k1
 have kn := Lib.hid (F9.out.kp (.of k1))
 have kd := Lib.hid (ka.out.kp (.of k1))
 have ko := Lib.hid (Blw km.out k1)
 clear k1
 obtain ⟨kD, kE, kF, kG, kH, kI⟩ := kc.f4
 go_wp2_with fail
 have ke := unit_no (.bool false) (.slice A n c) 2 w18 kd.out (by omega)
 (with_reducible refine ke.mono ?_)
 clear ke
 rintro e w30 ⟨rfl, k2⟩
 have kf := kc.below k2
 have kq := Lib.hid (kn.out.kp (.of k2))
 have kr := Lib.hid (kd.out.kp (.of k2))
 have ks := Lib.hid (Blw ko.out k2)
 clear k2
 obtain ⟨kJ, kK, kL, kM, kN, kO⟩ := kf.f4
 go_wp2_with fail
 have kg := igcd_any (k + 2) a0 a1 (.bool false) (.slice A n c) x 2 w30 kq.out kr.out (HBX.out.mono (by omega)) B2.out (by omega)
 (with_reducible refine kg.mono ?_)
 clear kg
 rintro e w42 ⟨g0, g1, rfl, k4, k5⟩
 have kh := kf.below k5
 have kt := Lib.hid (Blw ks.out k5)
 have ku := Lib.hid k4
 obtain ⟨o_g0, o_g1⟩ := k4.ones
 clear k4 k5
 obtain ⟨kP, kQ, kR, kS, kT, kU⟩ := kh.f4
 go_wp2_with fail
 have ki := unit_no g0 g1 _ w42 ku.out (by have := HG.out; omega)
 (with_reducible refine ki.mono ?_)
 clear ki
 rintro e w55 ⟨rfl, k6⟩
 have kv := kh.below k6
 have kw := Lib.hid (Blw kt.out k6)
 clear k6
 obtain ⟨kV, kW, kX, kY, kZ, l67⟩ := kv.f4
 go_wp2
 go_ret
 exact ⟨rfl, kw.out⟩
set_option maxRecDepth 100000 in
theorem tvalid_c (a0 a1 a2 a3 a4 a5 a6 a7 : Value) (w : World) (o0 : a0.oneCell' = true) (o1 : a1.oneCell' = true) (o2 : a2.oneCell' = true) (o3 : a3.oneCell' = true) (o4 : a4.oneCell' = true) (o5 : a5.oneCell' = true) (o6 : a6.oneCell' = true) (o7 : a7.oneCell' = true) (hc : ∀ W, Below w.heap.size w W → Calls Try.prog 57 #[.agg #[a0, a1, a2, a3]] W fun e w' => e = .returned (.bool false) ∧ Below W.heap.size W w') :
  Calls Try.prog 20 #[.agg #[a0, a1, a2, a3, a4, a5, a6, a7]] w fun e w' => e = .returned (.bool false) ∧ Below w.heap.size w w' := by
 have HC := Lib.hid hc
 clear hc
 go_enter Try.func20, Try.ntmps20
 go_wp2_with fail
 generalize hW : w.alloc _ = W1
 obtain ⟨k5, hB⟩ := box1 hW
 have k6 := Lib.hid hB; clear hW hB
 go_upto_region 1 with fail
 generalize hW : W1.drew = W4
 have hB : Below W1.heap.size W1 W4 := by rw [← hW]; exact (Below.refl _ _).drew
 have k3 := k5.below hB
 have k4 := Lib.hid (Blw k6.out hB)
 clear hB
 generalize hF : ({ tmps := _, defers := _ } : Act) = F
 have ev1 : F.eval (.tmp 1) = .pointer (some ⟨w.heap.size, 0, none⟩) := by rw [← hF]; rfl
 have HF := Lib.hid hF; clear hF
 refine wp_flow_tabG true hW 25 [(3, []), (4, [0]), (5, [1]), (6, [2]), (7, [3]), (8, [4, 3]), (9, [5, 3]), (10, [3, 6]), (11, [7]), (12, [8]), (13, [9, 8]), (14, [8]), (15, [11, 8]), (16, [10, 12, 8]), (17, [8]), (18, [14, 8]), (19, [8]), (20, [16, 8]), (21, [15, 17, 8]), (22, [13, 18, 8]), (23, [19, 8]), (24, [8]), (25, [20, 21, 8]), (26, [8, 22]), (2, [23])] [SC (.pointer (some ⟨w.heap.size, 0, none⟩)), SC (.agg #[a0, a1, a2, a3]), SC (.bool false), SC (.bool false), SC undef, SC undef, SC undef, SC (.bool false), SC (.bool false), SC undef, SC undef, SC undef, SC undef, SC undef, SC undef, SC undef, SC undef, SC undef, SC undef, SC undef, SC undef, SC undef, SC undef, SC (.bool false), SC (.bool false)] [false, false, false, false, false, false, false, false, false, false, false, false, false, false, false, false, false, false, false, false, false, false, false, false, false] (by kernel_rfl) (by kernel_rfl) (by kernel_rfl) (by kernel_rfl) (by kernel_rfl) (by rw [← HF.out]; simp) ⟨SC.mono _, SC.mono _, SC.mono _, SC.mono _, SC.mono _, SC.mono _, SC.mono _, SC.mono _, SC.mono _, SC.mono _, SC.mono _, SC.mono _, SC.mono _, SC.mono _, SC.mono _, SC.mono _, SC.mono _, SC.mono _, SC.mono _, SC.mono _, SC.mono _, SC.mono _, SC.mono _, SC.mono _, SC.mono _, trivial⟩ ?_ ?_
 ·intro kq hkq a wx hB hp hs
  have hcase : kq = 0 ∨ kq = 1 ∨ kq = 2 ∨ kq = 3 ∨ kq = 4 ∨ kq = 5 ∨ kq = 6 ∨ kq = 7 ∨ kq = 8 ∨ kq = 9 ∨ kq = 10 ∨ kq = 11 ∨ kq = 12 ∨ kq = 13 ∨ kq = 14 ∨ kq = 15 ∨ kq = 16 ∨ kq = 17 ∨ kq = 18 ∨ kq = 19 ∨ kq = 20 ∨ kq = 21 ∨ kq = 22 ∨ kq = 23 ∨ kq = 24 := by omega
  rcases hcase with rfl | rfl | rfl | rfl | rfl | rfl | rfl | rfl | rfl | rfl | rfl | rfl | rfl | rfl | rfl | rfl | rfl | rfl | rfl | rfl | rfl | rfl | rfl | rfl | rfl
  ·exact ⟨_, rfl, .inl ⟨wanted_none rfl, fa_Turn0 rfl ((hs 1 rfl).trans ev1)⟩⟩
  ·obtain ⟨k0, -⟩ := hp
   exact ⟨_, rfl, .inl ⟨wanted_none rfl, ld_Rat rfl k0 (k3.below hB) rfl rfl rfl rfl⟩⟩
  ·obtain ⟨k0, -⟩ := hp
   exact ⟨_, rfl, .inl ⟨wanted_none rfl, Does.rc (f := 57) (call1 rfl (fun _ => by simp [go_sem]) k0) (HC.out wx (Blw k4.out hB))⟩⟩
  ·obtain ⟨k0, -⟩ := hp
   have e0 : a.eval (.tmp 5) = .bool false := k0
   simp [Act.eval] at e0
   exact ⟨_, rfl, .inl ⟨wanted_none rfl, Does.val (by simp [execOp, Act.eval, e0, go_sem]) rfl⟩⟩
  ·obtain ⟨k0, -⟩ := hp
   have e0 : a.eval (.tmp 6) = .bool false := k0
   have b1 := (hs 1 rfl).trans ev1
   have hgd := e0
   exact ⟨_, rfl, .inr ⟨(wanted_of rfl rfl hgd).trans rfl, rfl, rfl⟩⟩
  ·obtain ⟨k0, k1, -⟩ := hp
   have e0 : a.eval (.tmp 7) = undef := k0
   have e1 : a.eval (.tmp 6) = .bool false := k1
   have hgd := e1
   exact ⟨_, rfl, .inr ⟨(wanted_of rfl rfl hgd).trans rfl, rfl, rfl⟩⟩
  ·obtain ⟨k0, k1, -⟩ := hp
   have e0 : a.eval (.tmp 8) = undef := k0
   have e1 : a.eval (.tmp 6) = .bool false := k1
   have hgd := e1
   exact ⟨_, rfl, .inr ⟨(wanted_of rfl rfl hgd).trans rfl, rfl, rfl⟩⟩
  ·obtain ⟨k0, k1, -⟩ := hp
   have e0 : a.eval (.tmp 6) = .bool false := k0
   have e1 : a.eval (.tmp 9) = undef := k1
   simp [Act.eval] at e0
   simp [Act.eval] at e1
   exact ⟨_, rfl, .inl ⟨wanted_none rfl, Does.val (by simp [execOp, Act.eval, e0, e1, go_sem]) rfl⟩⟩
  ·obtain ⟨k0, -⟩ := hp
   have e0 : a.eval (.tmp 10) = .bool false := k0
   simp [Act.eval] at e0
   exact ⟨_, rfl, .inl ⟨wanted_none rfl, Does.val (by simp [execOp, Act.eval, e0, go_sem]) rfl⟩⟩
  ·obtain ⟨k0, -⟩ := hp
   have e0 : a.eval (.tmp 11) = .bool false := k0
   have b1 := (hs 1 rfl).trans ev1
   have hgd := e0
   exact ⟨_, rfl, .inr ⟨(wanted_of rfl rfl hgd).trans rfl, rfl, rfl⟩⟩
  ·obtain ⟨k0, k1, -⟩ := hp
   have e0 : a.eval (.tmp 12) = undef := k0
   have e1 : a.eval (.tmp 11) = .bool false := k1
   have hgd := e1
   exact ⟨_, rfl, .inr ⟨(wanted_of rfl rfl hgd).trans rfl, rfl, rfl⟩⟩
  ·obtain ⟨k0, -⟩ := hp
   have e0 : a.eval (.tmp 11) = .bool false := k0
   have b1 := (hs 1 rfl).trans ev1
   have hgd := e0
   exact ⟨_, rfl, .inr ⟨(wanted_of rfl rfl hgd).trans rfl, rfl, rfl⟩⟩
  ·obtain ⟨k0, k1, -⟩ := hp
   have e0 : a.eval (.tmp 14) = undef := k0
   have e1 : a.eval (.tmp 11) = .bool false := k1
   have hgd := e1
   exact ⟨_, rfl, .inr ⟨(wanted_of rfl rfl hgd).trans rfl, rfl, rfl⟩⟩
  ·obtain ⟨k0, k1, k2, -⟩ := hp
   have e0 : a.eval (.tmp 13) = undef := k0
   have e1 : a.eval (.tmp 15) = undef := k1
   have e2 : a.eval (.tmp 11) = .bool false := k2
   have hgd := e2
   exact ⟨_, rfl, .inr ⟨(wanted_of rfl rfl hgd).trans rfl, rfl, rfl⟩⟩
  ·obtain ⟨k0, -⟩ := hp
   have e0 : a.eval (.tmp 11) = .bool false := k0
   have b1 := (hs 1 rfl).trans ev1
   have hgd := e0
   exact ⟨_, rfl, .inr ⟨(wanted_of rfl rfl hgd).trans rfl, rfl, rfl⟩⟩
  ·obtain ⟨k0, k1, -⟩ := hp
   have e0 : a.eval (.tmp 17) = undef := k0
   have e1 : a.eval (.tmp 11) = .bool false := k1
   have hgd := e1
   exact ⟨_, rfl, .inr ⟨(wanted_of rfl rfl hgd).trans rfl, rfl, rfl⟩⟩
  ·obtain ⟨k0, -⟩ := hp
   have e0 : a.eval (.tmp 11) = .bool false := k0
   have b1 := (hs 1 rfl).trans ev1
   have hgd := e0
   exact ⟨_, rfl, .inr ⟨(wanted_of rfl rfl hgd).trans rfl, rfl, rfl⟩⟩
  ·obtain ⟨k0, k1, -⟩ := hp
   have e0 : a.eval (.tmp 19) = undef := k0
   have e1 : a.eval (.tmp 11) = .bool false := k1
   have hgd := e1
   exact ⟨_, rfl, .inr ⟨(wanted_of rfl rfl hgd).trans rfl, rfl, rfl⟩⟩
  ·obtain ⟨k0, k1, k2, -⟩ := hp
   have e0 : a.eval (.tmp 18) = undef := k0
   have e1 : a.eval (.tmp 20) = undef := k1
   have e2 : a.eval (.tmp 11) = .bool false := k2
   have hgd := e2
   exact ⟨_, rfl, .inr ⟨(wanted_of rfl rfl hgd).trans rfl, rfl, rfl⟩⟩
  ·obtain ⟨k0, k1, k2, -⟩ := hp
   have e0 : a.eval (.tmp 16) = undef := k0
   have e1 : a.eval (.tmp 21) = undef := k1
   have e2 : a.eval (.tmp 11) = .bool false := k2
   have hgd := e2
   exact ⟨_, rfl, .inr ⟨(wanted_of rfl rfl hgd).trans rfl, rfl, rfl⟩⟩
  ·obtain ⟨k0, k1, -⟩ := hp
   have e0 : a.eval (.tmp 22) = undef := k0
   have e1 : a.eval (.tmp 11) = .bool false := k1
   have hgd := e1
   exact ⟨_, rfl, .inr ⟨(wanted_of rfl rfl hgd).trans rfl, rfl, rfl⟩⟩
  ·obtain ⟨k0, -⟩ := hp
   have e0 : a.eval (.tmp 11) = .bool false := k0
   have hgd := e0
   exact ⟨_, rfl, .inr ⟨(wanted_of rfl rfl hgd).trans rfl, rfl, rfl⟩⟩
  ·obtain ⟨k0, k1, k2, -⟩ := hp
   have e0 : a.eval (.tmp 23) = undef := k0
   have e1 : a.eval (.tmp 24) = undef := k1
   have e2 : a.eval (.tmp 11) = .bool false := k2
   have hgd := e2
   exact ⟨_, rfl, .inr ⟨(wanted_of rfl rfl hgd).trans rfl, rfl, rfl⟩⟩
  ·obtain ⟨k0, k1, -⟩ := hp
   have e0 : a.eval (.tmp 11) = .bool false := k0
   have e1 : a.eval (.tmp 25) = undef := k1
   simp [Act.eval] at e0
   simp [Act.eval] at e1
   exact ⟨_, rfl, .inl ⟨wanted_none rfl, Does.val (by simp [execOp, Act.eval, e0, e1, go_sem]) rfl⟩⟩
  ·obtain ⟨k0, -⟩ := hp
   have e0 : a.eval (.tmp 26) = .bool false := k0
   simp [Act.eval] at e0
   exact ⟨_, rfl, .inl ⟨wanted_none rfl, Does.val (by simp [execOp, Act.eval, e0, go_sem]) rfl⟩⟩
 ·intro val wx hB hsp hdis
  have e24 : val 24 = .bool false := hsp 24 (by omega)
  rw [← HF.out]
  change wpList _ _ _ [] _ _
  simp only [puts, vals, List.map_cons, List.map_nil, List.foldl_cons, List.foldl_nil, if_true, Nat.zero_add, Nat.reduceAdd, e24, List.setIfInBounds_toArray, List.set_cons_succ, List.set_cons_zero]
  clear hsp hdis HF e24
  clear ev1
  obtain ⟨w8, rfl⟩ : ∃ W : World, W = wx := ⟨_, rfl⟩
  have k7 := k3.below hB
  have k8 := Lib.hid (Blw k4.out hB)
  clear hB
  obtain ⟨k9, ka, kb, kc, kd, ke, kf, kg, kh, ki⟩ := k7.f8
  go_wp2
  go_ret
  exact ⟨rfl, k8.out⟩
end Go.Proofs.Ytonkbckgbfcnkaa
