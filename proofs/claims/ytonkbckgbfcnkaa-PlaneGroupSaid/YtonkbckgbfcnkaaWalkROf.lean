/-
 THE WALKS of package rat: Of, Sign.
-/
import Derived.Test.YtonkbckgbfcnkaaWalkMake
namespace Go.Proofs.Ytonkbckgbfcnkaa
set_option maxHeartbeats 1000000
open Go.RowKit
attribute [local go_sem] run_store_one
set_option linter.unusedVariables false
theorem bd64 {x : Int} (h : W.Is64 x) : I.Bd 64 x := by
 unfold W.Is64 at h
 unfold I.Bd
 omega
theorem rof_any (x y : Int) (w : World) (hx : W.Is64 x) (hy : W.Is64 y) : Calls Try.prog 42 #[.int .i64 x, .int .i64 y] w (RR (Rat.divInt x y) w) := by
 have HX := Lib.hid hx; have HY := Lib.hid hy
 clear hx hy
 go_enter Try.func42, Try.ntmps42
 go_wp2_with fail
 obtain ⟨W1, hW⟩ : ∃ W, W = w.alloc (.cells #[.bool false, .slice none 0 0, .bool false, .slice none 0 0] 26) := ⟨_, rfl⟩
 rw [← hW]
 have k6 : Bx W1 (w.heap.size) 26 [.bool false, .slice none 0 0, .bool false, .slice none 0 0] := by rw [hW]; exact Bx.at_ rfl
 have hB : Below w.heap.size w W1 := by rw [hW]; exact (Below.refl _ _).alloc (by simp) _
 have kd := Lib.hid hB; clear hW hB
 obtain ⟨kt, ku, kv, kw, kx, l9⟩ := k6.f4
 have k7 := iof_any x W1 HX.out
 (with_reducible refine k7.mono ?_)
 clear k7
 rintro e w10 ⟨u0, u1, rfl, k1, k4⟩
 obtain ⟨ke, kz, kA, kB, kC, kD, kE⟩ := k6.b4 k4
 have kf := Lib.hid (Blw kd.out k4)
 have kg := Lib.hid k1
 have o_u0 := k1.one0
 have o_u1 := k1.one1
 clear k1 k4
 go_wp2_with fail
 have k8 := iof_any y w10 HY.out
 (with_reducible refine k8.mono ?_)
 clear k8
 rintro e w21 ⟨v0, v1, rfl, k2, k3⟩
 obtain ⟨kh, kF, kG, kH, kI, kJ, kK⟩ := ke.b4 k3
 have ki := Lib.hid (kg.out.kp (.of k3))
 have kj := Lib.hid (Blw kf.out k3)
 have kk := Lib.hid k2
 have o_v0 := k2.one0
 have o_v1 := k2.one1
 clear k2 k3
 go_wp2_with fail
 have k9 := make_any 64 _ _ _ _ x y w21 ki.out kk.out (bd64 HX.out) (bd64 HY.out) (by omega)
 (with_reducible refine k9.mono ?_)
 clear k9
 rintro e w33 ⟨r0, r1, r2, r3, rfl, k0, k5⟩
 obtain ⟨ka, kl, km, kn, ko, kL, kM⟩ := kh.b4 k5
 have kq := Lib.hid (Blw kj.out k5)
 have kr := Lib.hid k0
 have o_r0 := k0.one0
 have o_r1 := k0.one1
 have o_r2 := k0.one2
 have o_r3 := k0.one3
 clear k0 k5
 go_wp2_with fail
 have kb := ka.set_ 0 (r0)
 have kc := kb.set_ 1 (r1)
 have ks := kc.set_ 2 (r2)
 have hkp : Kp w33 ((((w33.setCell ⟨w.heap.size, 0, none⟩ (r0)).setCell ⟨w.heap.size, 1, none⟩ (r1)).setCell ⟨w.heap.size, 2, none⟩ (r2)).setCell ⟨w.heap.size, 3, none⟩ (r3)) := ((((Kp.refl _).set_ ka (by decide) _).set_ kb (by decide) _).set_ kc (by decide) _).set_ ks (by decide) _
 refine bodyPost_ret (v := .agg #[r0, r1, r2, r3]) (by simp [results, Try.results42, go_sem, kl, km, kn, ko]) rfl ⟨_, _, _, _, rfl, ?_, ((((kq.out).setCell (by simp) _).setCell (by simp) _).setCell (by simp) _).setCell (by simp) _⟩
 exact kr.out.kp hkp
theorem rsign_any (a0 a1 a2 a3 : Value) (r : Rat) (w : World) (hr : RatV w a0 a1 a2 a3 r) : Calls Try.prog 49 #[.agg #[a0, a1, a2, a3]] w fun e w' => e = .returned (.int .i64 (sgnZ r.num)) ∧ Below w.heap.size w w' := by
 have o0 := hr.one0
 have o1 := hr.one1
 have o2 := hr.one2
 have o3 := hr.one3
 have HN_ := Lib.hid hr.1
 clear hr
 go_enter Try.func49, Try.ntmps49
 go_wp2_with fail
 obtain ⟨W1, hW⟩ : ∃ W, W = w.alloc (.cells #[a0, a1, a2, a3] 26) := ⟨_, rfl⟩
 rw [← hW]
 have k1 : Bx W1 (w.heap.size) 26 [a0, a1, a2, a3] := by rw [hW]; exact Bx.at_ rfl
 have hB : Below w.heap.size w W1 := by rw [hW]; exact (Below.refl _ _).alloc (by simp) _
 have k2 := Lib.hid hB; clear hW hB
 have F4 := Lib.hid (HN_.out.kp (.of k2.out))
 obtain ⟨k6, k7, k8, k9, ka, kb⟩ := k1.f4
 have k3 := isign_any a0 a1 r.num W1 F4.out
 (with_reducible refine k3.mono ?_)
 clear k3
 rintro e w11 ⟨rfl, k0⟩
 obtain ⟨kc, kd, ke, kf, kg, kh, ki⟩ := k1.b4 k0
 have k5 := Lib.hid (Blw k2.out k0)
 clear k0
 go_wp2_with fail
 go_ret
 exact ⟨rfl, k5.out⟩
end Go.Proofs.Ytonkbckgbfcnkaa
