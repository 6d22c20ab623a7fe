/-
 THE WALKS of package rat: Of, Sign.
-/
import Derived.Test.YtonkbckgbfcnkaaWalkMake
namespace Go.Proofs.Ytonkbckgbfcnkaa
set_option maxHeartbeats 1000000
open Go.RowKit
attribute [local go_sem] run_store_one
set_option linter.unusedVariables false
theorem bd64 {x : Int} (h : W.Is64 x) : I.Bd 64 x := by
 unfold W.Is64 at h
 unfold I.Bd
 omega
theorem rof_any (x y : Int) (w : World) (hx : W.Is64 x) (hy : W.Is64 y) : Calls Try.prog 42 #[.int .i64 x, .int .i64 y] w (RR (Rat.divInt x y) w) := by
 have HX := Lib.hid hx; have HY := Lib.hid hy
 clear hx hy
 go_enter Try.func42, Try.ntmps42
 go_wp2_with fail
 generalize hW : w.alloc _ = W1
 obtain ⟨k6, hB⟩ := box1 hW
 have ka := Lib.hid hB; clear hW hB
 obtain ⟨kq, kr, ks, kt, ku, l9⟩ := k6.f4
 have k7 := iof_any x W1 HX.out
 (with_reducible refine k7.mono ?_)
 clear k7
 rintro e w10 ⟨u0, u1, rfl, k1, k2⟩
 obtain ⟨kb, kw, kx, ky, kz, kA, kB⟩ := k6.b4 k2
 have kc := Lib.hid (Blw ka.out k2)
 have kd := Lib.hid k1
 obtain ⟨o_u0, o_u1⟩ := k1.ones
 clear k1 k2
 go_wp2_with fail
 have k8 := iof_any y w10 HY.out
 (with_reducible refine k8.mono ?_)
 clear k8
 rintro e w21 ⟨v0, v1, rfl, k3, k0⟩
 obtain ⟨ke, kC, kD, kE, kF, kG, kH⟩ := kb.b4 k0
 have kf := Lib.hid (kd.out.kp (.of k0))
 have kg := Lib.hid (Blw kc.out k0)
 have kh := Lib.hid k3
 obtain ⟨o_v0, o_v1⟩ := k3.ones
 clear k3 k0
 go_wp2_with fail
 have k9 := make_any 64 _ _ _ _ x y w21 kf.out kh.out (bd64 HX.out) (bd64 HY.out) (by omega)
 (with_reducible refine k9.mono ?_)
 clear k9
 rintro e w33 ⟨r0, r1, r2, r3, rfl, k4, k5⟩
 obtain ⟨ki, kj, kk, kl, km, kI, kJ⟩ := ke.b4 k5
 have kn := Lib.hid (Blw kg.out k5)
 have ko := Lib.hid k4
 obtain ⟨o_r0, o_r1, o_r2, o_r3⟩ := k4.ones
 clear k4 k5
 go_wp2_with fail
 have hkp := (Kp.refl w33).t4 ki r0 r1 r2 r3
 refine bodyPost_ret (v := .agg #[r0, r1, r2, r3]) (by simp [results, Try.results42, go_sem, kj, kk, kl, km]) rfl ⟨_, _, _, _, rfl, ?_, bel4 (kn.out) (by first | simp | omega)⟩
 exact ko.out.kp hkp
theorem rsign_any (a0 a1 a2 a3 : Value) (r : Rat) (w : World) (hr : RatV w a0 a1 a2 a3 r) : Calls Try.prog 49 #[.agg #[a0, a1, a2, a3]] w fun e w' => e = .returned (.int .i64 (sgnZ r.num)) ∧ Below w.heap.size w w' := by
 obtain ⟨o0, o1, o2, o3⟩ := hr.ones
 have HN_ := Lib.hid hr.1
 clear hr
 go_enter Try.func49, Try.ntmps49
 go_wp2_with fail
 generalize hW : w.alloc _ = W1
 obtain ⟨k1, hB⟩ := box1 hW
 have k2 := Lib.hid hB; clear hW hB
 have F4 := Lib.hid (HN_.out.kp (.of k2.out))
 obtain ⟨k6, k7, k8, k9, ka, kb⟩ := k1.f4
 have k3 := isign_any a0 a1 r.num W1 F4.out
 (with_reducible refine k3.mono ?_)
 clear k3
 rintro e w11 ⟨rfl, k0⟩
 obtain ⟨kc, kd, ke, kf, kg, kh, ki⟩ := k1.b4 k0
 have k5 := Lib.hid (Blw k2.out k0)
 clear k0
 go_wp2_with fail
 go_ret
 exact ⟨rfl, k5.out⟩
end Go.Proofs.Ytonkbckgbfcnkaa
