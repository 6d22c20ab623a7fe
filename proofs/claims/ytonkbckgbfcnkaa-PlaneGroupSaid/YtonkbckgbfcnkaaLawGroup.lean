/-
 THE LAW PlaneGroup: it returns true.
-/
import Derived.Test.YtonkbckgbfcnkaaWalkLives
import Derived.Test.YtonkbckgbfcnkaaRef5E
namespace Go.Proofs.Ytonkbckgbfcnkaa
set_option maxHeartbeats 8000000
open Go.RowKit
attribute [local go_sem] run_store_one
set_option linter.unusedVariables false
theorem u_dot {t a b : Rat × Rat} (h : Unit1 t) : vdot (vrot t a) (vrot t b) = vdot a b := by
 unfold Unit1 at h; simp only [vdot, vrot]; grind
theorem u_crs {t a b : Rat × Rat} (h : Unit1 t) : vcrs (vrot t a) (vrot t b) = vcrs a b := by
 unfold Unit1 at h; simp only [vcrs, vrot]; grind
theorem r_ass {t u a : Rat × Rat} : vrot (vrot t u) a = vrot t (vrot u a) := by
 apply Prod.ext <;> (simp only [vrot]; grind)
theorem u_rot {t u : Rat × Rat} (h : Unit1 t) (g : Unit1 u) : Unit1 (vrot t u) := by
 unfold Unit1 at *; simp only [vrot]; grind
theorem u_bak {t : Rat × Rat} (h : Unit1 t) : Unit1 (vbak t) := by
 unfold Unit1 at *; simp only [vbak]; grind
theorem r_bak {t : Rat × Rat} (h : Unit1 t) : vrot t (vbak t) = (Rat.divInt 1 1, 0) := by
 rw [one_one]; unfold Unit1 at h; apply Prod.ext <;> (simp only [vrot, vbak]; grind)
theorem b_rot {t : Rat × Rat} (h : Unit1 t) : vrot (vbak t) t = (Rat.divInt 1 1, 0) := by
 rw [one_one]; unfold Unit1 at h; apply Prod.ext <;> (simp only [vrot, vbak]; grind)
theorem r_one {a : Rat × Rat} : vrot (Rat.divInt 1 1, 0) a = a := by
 rw [one_one]; apply Prod.ext <;> (simp only [vrot]; grind)
theorem bv_one : Bv 7 (Rat.divInt 1 1, 0) := ⟨Bq.divInt (by unfold I.Bd; decide) (by unfold I.Bd; decide) (by omega), Bq.zero (by omega)⟩
theorem tru {a b : Rat × Rat} (h : a = b) : true = decide (a = b) := (decide_eq_true h).symm
theorem truu {t : Rat × Rat} (h : Unit1 t) : true = decide (t.1 * t.1 + t.2 * t.2 = 1) := (decide_eq_true (p := t.1 * t.1 + t.2 * t.2 = 1) h).symm
theorem truq {a b : Rat} (h : a = b) : true = decide (a = b) := (decide_eq_true h).symm
set_option maxRecDepth 100000 in
theorem group_walk (sl : Value) (l : List Int) (n m k : Int) (w : World) (hs : Sr w sl l) (hl : ∀ x ∈ l, W.Is64 x) (hn : W.Is64 n) (hm : W.Is64 m) (hk : W.Is64 k) :
  Calls Try.prog 5 #[sl, .int .i64 n, .int .i64 m, .int .i64 k] w fun e w' => e = .returned (.bool true) ∧ Below w.heap.size w w' := by
 have HS := Lib.hid hs; have HL := Lib.hid hl; have HN := Lib.hid hn; have HM := Lib.hid hm; have HK := Lib.hid hk
 clear hs hl hn hm hk
 go_enter Try.func5, Try.ntmps5
 go_wp2_with fail
 have HBREFL := Lib.hid (Below.refl w.heap.size w)
 have hc2 := turn_any n w HN.out
 (with_reducible refine hc2.mono ?_)
 clear hc2
 rintro e w1 ⟨t, hb7t, hut, tc0, tc1, tc2, tc3, tc4, tc5, tc6, tc7, rfl, k6, hb2⟩
 have HBt := Lib.hid hb7t; clear hb7t
 have HUt := Lib.hid hut; clear hut
 have HB3 := Lib.hid (Blw HBREFL.out hb2)
 have F4 := Lib.hid k6
 have o_tc0 := k6.one0
 have o_tc1 := k6.one1
 have o_tc2 := k6.one2
 have o_tc3 := k6.one3
 have o_tc4 := k6.one4
 have o_tc5 := k6.one5
 have o_tc6 := k6.one6
 have o_tc7 := k6.one7
 clear k6 hb2
 go_wp2_with fail
 obtain ⟨W5, hW⟩ : ∃ W, W = w1.alloc (.cells #[tc0, tc1, tc2, tc3, tc4, tc5, tc6, tc7] 31) := ⟨_, rfl⟩
 rw [← hW]
 have hB : Below w1.heap.size w1 W5 := by rw [hW]; exact (Below.refl _ _).alloc (by simp) _
 have k0G : Bx W5 (w1.heap.size) 31 [tc0, tc1, tc2, tc3, tc4, tc5, tc6, tc7] := by rw [hW]; exact Bx.at_ rfl
 clear hW
 have F7 := Lib.hid (F4.out.kp (.of hB))
 have HB8 := Lib.hid (Blw HB3.out hB)
 clear hB
 have k06 := turn_any m W5 HM.out
 (with_reducible refine k06.mono ?_)
 clear k06
 rintro e w9 ⟨u, hb7u, huu, uc0, uc1, uc2, uc3, uc4, uc5, uc6, uc7, rfl, k7, kr⟩
 have HBu := Lib.hid hb7u; clear hb7u
 have HUu := Lib.hid huu; clear huu
 have kw := k0G.below kr
 have F12 := Lib.hid (F7.out.kp (.of kr))
 have k0K := Lib.hid (Blw HB8.out kr)
 have F14 := Lib.hid k7
 have o_uc0 := k7.one0
 have o_uc1 := k7.one1
 have o_uc2 := k7.one2
 have o_uc3 := k7.one3
 have o_uc4 := k7.one4
 have o_uc5 := k7.one5
 have o_uc6 := k7.one6
 have o_uc7 := k7.one7
 clear k7 kr
 obtain ⟨k2H, k2I, k2J, k2K, k2L, k2M, k2N, k2O, k2P, l24⟩ := kw.f8
 go_wp2_with fail
 obtain ⟨W25, hW⟩ : ∃ W, W = w9.alloc (.cells #[uc0, uc1, uc2, uc3, uc4, uc5, uc6, uc7] 31) := ⟨_, rfl⟩
 rw [← hW]
 have hB : Below w9.heap.size w9 W25 := by rw [hW]; exact (Below.refl _ _).alloc (by simp) _
 have k2R := kw.lt
 have k0M : Bx W25 (w9.heap.size) 31 [uc0, uc1, uc2, uc3, uc4, uc5, uc6, uc7] := by rw [hW]; exact Bx.at_ rfl
 clear hW
 have k0N := kw.below hB
 have F29 := Lib.hid (F12.out.kp (.of hB))
 have F30 := Lib.hid (F14.out.kp (.of hB))
 have k0Q := Lib.hid (Blw k0K.out hB)
 clear hB
 have k07 := turn_any k W25 HK.out
 (with_reducible refine k07.mono ?_)
 clear k07
 rintro e w32 ⟨v, hb7v, huv, vc0, vc1, vc2, vc3, vc4, vc5, vc6, vc7, rfl, k8, ko⟩
 have HBv := Lib.hid hb7v; clear hb7v
 have HUv := Lib.hid huv; clear huv
 have kx := k0N.below ko
 have ky := k0M.below ko
 have F36 := Lib.hid (F29.out.kp (.of ko))
 have F37 := Lib.hid (F30.out.kp (.of ko))
 have k0T := Lib.hid (Blw k0Q.out ko)
 have F39 := Lib.hid k8
 have o_vc0 := k8.one0
 have o_vc1 := k8.one1
 have o_vc2 := k8.one2
 have o_vc3 := k8.one3
 have o_vc4 := k8.one4
 have o_vc5 := k8.one5
 have o_vc6 := k8.one6
 have o_vc7 := k8.one7
 clear k8 ko
 obtain ⟨k2S, k2T, k2U, k2V, k2W, k2X, k2Y, k2Z, k30, l49⟩ := kx.f8
 obtain ⟨k32, k33, k34, k35, k36, k37, k38, k39, k3a, l59⟩ := ky.f8
 go_wp2_with fail
 obtain ⟨W60, hW⟩ : ∃ W, W = w32.alloc (.cells #[vc0, vc1, vc2, vc3, vc4, vc5, vc6, vc7] 31) := ⟨_, rfl⟩
 rw [← hW]
 have hB : Below w32.heap.size w32 W60 := by rw [hW]; exact (Below.refl _ _).alloc (by simp) _
 have k3c := kx.lt
 have k3d := ky.lt
 have k0V : Bx W60 (w32.heap.size) 31 [vc0, vc1, vc2, vc3, vc4, vc5, vc6, vc7] := by rw [hW]; exact Bx.at_ rfl
 clear hW
 have k0W := kx.below hB
 have k0X := ky.below hB
 have F66 := Lib.hid (F36.out.kp (.of hB))
 have F67 := Lib.hid (F37.out.kp (.of hB))
 have F68 := Lib.hid (F39.out.kp (.of hB))
 have k08 := Lib.hid (Blw k0T.out hB)
 clear hB
 have k09 := vec_any sl l 0 W60 (HS.out.below k08.out) HL.out (by omega) (by omega)
 (with_reducible refine k09.mono ?_)
 clear k09
 rintro e w70 ⟨aa, hb7aa, aac0, aac1, aac2, aac3, aac4, aac5, aac6, aac7, rfl, k9, kf⟩
 have HBaa := Lib.hid hb7aa; clear hb7aa
 have kz := k0W.below kf
 have kA := k0X.below kf
 have kB := k0V.below kf
 have F75 := Lib.hid (F66.out.kp (.of kf))
 have F76 := Lib.hid (F67.out.kp (.of kf))
 have F77 := Lib.hid (F68.out.kp (.of kf))
 have k14 := Lib.hid (Blw k08.out kf)
 have F79 := Lib.hid k9
 have o_aac0 := k9.one0
 have o_aac1 := k9.one1
 have o_aac2 := k9.one2
 have o_aac3 := k9.one3
 have o_aac4 := k9.one4
 have o_aac5 := k9.one5
 have o_aac6 := k9.one6
 have o_aac7 := k9.one7
 clear k9 kf
 obtain ⟨k3e, k3f, k3g, k3h, k3i, k3j, k3k, k3l, k3m, l89⟩ := kz.f8
 obtain ⟨k3o, k3p, k3q, k3r, k3s, k3t, k3u, k3v, k3w, l99⟩ := kA.f8
 obtain ⟨k3y, k3z, k3A, k3B, k3C, k3D, k3E, k3F, k3G, k3H⟩ := kB.f8
 go_wp2_with fail
 obtain ⟨W110, hW⟩ : ∃ W, W = w70.alloc (.cells #[aac0, aac1, aac2, aac3, aac4, aac5, aac6, aac7] 28) := ⟨_, rfl⟩
 rw [← hW]
 have hB : Below w70.heap.size w70 W110 := by rw [hW]; exact (Below.refl _ _).alloc (by simp) _
 have k3I := kz.lt
 have k3J := kA.lt
 have k3K := kB.lt
 have k16 : Bx W110 (w70.heap.size) 28 [aac0, aac1, aac2, aac3, aac4, aac5, aac6, aac7] := by rw [hW]; exact Bx.at_ rfl
 clear hW
 have k17 := kz.below hB
 have k18 := kA.below hB
 have k19 := kB.below hB
 have k1a := Lib.hid (F75.out.kp (.of hB))
 have k1b := Lib.hid (F76.out.kp (.of hB))
 have k1c := Lib.hid (F77.out.kp (.of hB))
 have k1d := Lib.hid (F79.out.kp (.of hB))
 have k0a := Lib.hid (Blw k14.out hB)
 clear hB
 have k0b := vec_any sl l 2 W110 (HS.out.below k0a.out) HL.out (by omega) (by omega)
 (with_reducible refine k0b.mono ?_)
 clear k0b
 rintro e w123 ⟨bb, hb7bb, bbc0, bbc1, bbc2, bbc3, bbc4, bbc5, bbc6, bbc7, rfl, ka, kb⟩
 have HBbb := Lib.hid hb7bb; clear hb7bb
 have kC := k17.below kb
 have kD := k18.below kb
 have kE := k19.below kb
 have kF := k16.below kb
 have k1e := Lib.hid (k1a.out.kp (.of kb))
 have k1f := Lib.hid (k1b.out.kp (.of kb))
 have k1g := Lib.hid (k1c.out.kp (.of kb))
 have k1h := Lib.hid (k1d.out.kp (.of kb))
 have k1i := Lib.hid (Blw k0a.out kb)
 have k1j := Lib.hid ka
 have o_bbc0 := ka.one0
 have o_bbc1 := ka.one1
 have o_bbc2 := ka.one2
 have o_bbc3 := ka.one3
 have o_bbc4 := ka.one4
 have o_bbc5 := ka.one5
 have o_bbc6 := ka.one6
 have o_bbc7 := ka.one7
 clear ka kb
 obtain ⟨k3L, k3M, k3N, k3O, k3P, k3Q, k3R, k3S, k3T, k3U⟩ := kC.f8
 obtain ⟨k3V, k3W, k3X, k3Y, k3Z, k40, k41, k42, k43, k44⟩ := kD.f8
 obtain ⟨k45, k46, k47, k48, k49, k4a, k4b, k4c, k4d, k4e⟩ := kE.f8
 obtain ⟨k4f, k4g, k4h, k4i, k4j, k4k, k4l, k4m, k4n, k4o⟩ := kF.f8
 go_wp2_with fail
 obtain ⟨W175, hW⟩ : ∃ W, W = w123.alloc (.cells #[bbc0, bbc1, bbc2, bbc3, bbc4, bbc5, bbc6, bbc7] 28) := ⟨_, rfl⟩
 rw [← hW]
 have hB : Below w123.heap.size w123 W175 := by rw [hW]; exact (Below.refl _ _).alloc (by simp) _
 have k4p := kC.lt
 have k4q := kD.lt
 have k4r := kE.lt
 have k4s := kF.lt
 have k1k : Bx W175 (w123.heap.size) 28 [bbc0, bbc1, bbc2, bbc3, bbc4, bbc5, bbc6, bbc7] := by rw [hW]; exact Bx.at_ rfl
 clear hW
 have k1l := kC.below hB
 have k1m := kD.below hB
 have k1n := kE.below hB
 have k1o := kF.below hB
 have k0c := Lib.hid (k1e.out.kp (.of hB))
 have k1p := Lib.hid (k1f.out.kp (.of hB))
 have k1q := Lib.hid (k1g.out.kp (.of hB))
 have k0d := Lib.hid (k1h.out.kp (.of hB))
 have k1r := Lib.hid (k1j.out.kp (.of hB))
 have k1s := Lib.hid (Blw k1i.out hB)
 clear hB
 have k0e := vrot_any (7) (7) tc0 tc1 tc2 tc3 tc4 tc5 tc6 tc7 aac0 aac1 aac2 aac3 aac4 aac5 aac6 aac7 (t) (aa) W175 k0c.out k0d.out HBt.out HBaa.out (by omega)
 (with_reducible refine k0e.mono ?_)
 clear k0e
 rintro e w191 ⟨x0, x1, x2, x3, x4, x5, x6, x7, rfl, kc, k5⟩
 have kG := k1l.below k5
 have kH := k1m.below k5
 have kI := k1n.below k5
 have kJ := k1o.below k5
 have kK := k1k.below k5
 have k1t := Lib.hid (k0c.out.kp (.of k5))
 have k1u := Lib.hid (k1p.out.kp (.of k5))
 have k1v := Lib.hid (k1q.out.kp (.of k5))
 have k1w := Lib.hid (k0d.out.kp (.of k5))
 have k1x := Lib.hid (k1r.out.kp (.of k5))
 have k1y := Lib.hid (Blw k1s.out k5)
 have k1z := Lib.hid kc
 have o_x0 := kc.one0
 have o_x1 := kc.one1
 have o_x2 := kc.one2
 have o_x3 := kc.one3
 have o_x4 := kc.one4
 have o_x5 := kc.one5
 have o_x6 := kc.one6
 have o_x7 := kc.one7
 clear kc k5
 obtain ⟨k4t, k4u, k4v, k4w, k4x, k4y, k4z, k4A, k4B, k4C⟩ := kG.f8
 obtain ⟨k4D, k4E, k4F, k4G, k4H, k4I, k4J, k4K, k4L, k4M⟩ := kH.f8
 obtain ⟨k4N, k4O, k4P, k4Q, k4R, k4S, k4T, k4U, k4V, k4W⟩ := kI.f8
 obtain ⟨k4X, k4Y, k4Z, k50, k51, k52, k53, k54, k55, k56⟩ := kJ.f8
 obtain ⟨k57, k58, k59, k5a, k5b, k5c, k5d, k5e, k5f, k5g⟩ := kK.f8
 go_wp2_with fail
 obtain ⟨W255, hW⟩ : ∃ W, W = w191.alloc (.cells #[x0, x1, x2, x3, x4, x5, x6, x7] 28) := ⟨_, rfl⟩
 rw [← hW]
 have hB : Below w191.heap.size w191 W255 := by rw [hW]; exact (Below.refl _ _).alloc (by simp) _
 have k5h := kG.lt
 have k5i := kH.lt
 have k5j := kI.lt
 have k5k := kJ.lt
 have k5l := kK.lt
 have k1A : Bx W255 (w191.heap.size) 28 [x0, x1, x2, x3, x4, x5, x6, x7] := by rw [hW]; exact Bx.at_ rfl
 clear hW
 have k1B := kG.below hB
 have k1C := kH.below hB
 have k1D := kI.below hB
 have k1E := kJ.below hB
 have k1F := kK.below hB
 have k0f := Lib.hid (k1t.out.kp (.of hB))
 have k1G := Lib.hid (k1u.out.kp (.of hB))
 have k1H := Lib.hid (k1v.out.kp (.of hB))
 have k1I := Lib.hid (k1w.out.kp (.of hB))
 have k0g := Lib.hid (k1x.out.kp (.of hB))
 have k1J := Lib.hid (k1z.out.kp (.of hB))
 have k1K := Lib.hid (Blw k1y.out hB)
 clear hB
 have k0h := vrot_any (7) (7) tc0 tc1 tc2 tc3 tc4 tc5 tc6 tc7 bbc0 bbc1 bbc2 bbc3 bbc4 bbc5 bbc6 bbc7 (t) (bb) W255 k0f.out k0g.out HBt.out HBbb.out (by omega)
 (with_reducible refine k0h.mono ?_)
 clear k0h
 rintro e w274 ⟨y0, y1, y2, y3, y4, y5, y6, y7, rfl, kd, k3⟩
 have kL := k1B.below k3
 have kM := k1C.below k3
 have kN := k1D.below k3
 have kO := k1E.below k3
 have kP := k1F.below k3
 have kQ := k1A.below k3
 have k1L := Lib.hid (k0f.out.kp (.of k3))
 have k1M := Lib.hid (k1G.out.kp (.of k3))
 have k1N := Lib.hid (k1H.out.kp (.of k3))
 have k1O := Lib.hid (k1I.out.kp (.of k3))
 have k1P := Lib.hid (k0g.out.kp (.of k3))
 have k1Q := Lib.hid (k1J.out.kp (.of k3))
 have k1R := Lib.hid (Blw k1K.out k3)
 have k1S := Lib.hid kd
 have o_y0 := kd.one0
 have o_y1 := kd.one1
 have o_y2 := kd.one2
 have o_y3 := kd.one3
 have o_y4 := kd.one4
 have o_y5 := kd.one5
 have o_y6 := kd.one6
 have o_y7 := kd.one7
 clear kd k3
 obtain ⟨k5m, k5n, k5o, k5p, k5q, k5r, k5s, k5t, k5u, k5v⟩ := kL.f8
 obtain ⟨k5w, k5x, k5y, k5z, k5A, k5B, k5C, k5D, k5E, k5F⟩ := kM.f8
 obtain ⟨k5G, k5H, k5I, k5J, k5K, k5L, k5M, k5N, k5O, k5P⟩ := kN.f8
 obtain ⟨k5Q, k5R, k5S, k5T, k5U, k5V, k5W, k5X, k5Y, k5Z⟩ := kO.f8
 obtain ⟨k60, k61, k62, k63, k64, k65, k66, k67, k68, k69⟩ := kP.f8
 obtain ⟨k6a, k6b, k6c, k6d, k6e, k6f, k6g, k6h, k6i, k6j⟩ := kQ.f8
 go_upto_region 8 with fail
 obtain ⟨W350, hW⟩ : ∃ W, W = w274.alloc (.cells #[y0, y1, y2, y3, y4, y5, y6, y7] 28) := ⟨_, rfl⟩
 rw [← hW]
 have hB : Below w274.heap.size w274 W350 := by rw [hW]; exact (Below.refl _ _).alloc (by simp) _
 have k6k := kL.lt
 have k6l := kM.lt
 have k6m := kN.lt
 have k6n := kO.lt
 have k6o := kP.lt
 have k6p := kQ.lt
 have k1T : Bx W350 (w274.heap.size) 28 [y0, y1, y2, y3, y4, y5, y6, y7] := by rw [hW]; exact Bx.at_ rfl
 clear hW
 have k1U := kL.below hB
 have k1V := kM.below hB
 have k1W := kN.below hB
 have k1X := kO.below hB
 have k1Y := kP.below hB
 have k1Z := kQ.below hB
 have k20 := Lib.hid (k1L.out.kp (.of hB))
 have k21 := Lib.hid (k1M.out.kp (.of hB))
 have k22 := Lib.hid (k1N.out.kp (.of hB))
 have k23 := Lib.hid (k1O.out.kp (.of hB))
 have k24 := Lib.hid (k1P.out.kp (.of hB))
 have k25 := Lib.hid (k1Q.out.kp (.of hB))
 have k26 := Lib.hid (k1S.out.kp (.of hB))
 have k27 := Lib.hid (Blw k1R.out hB)
 clear hB
 go_upto_region 8 with fail
 generalize hW : W350.drew = W372
 have hB : Below W350.heap.size W350 W372 := by rw [← hW]; exact (Below.refl _ _).drew
 have k28 := k1U.below hB
 have k29 := k1V.below hB
 have k2a := k1W.below hB
 have kR := k1X.below hB
 have kS := k1Y.below hB
 have kT := k1Z.below hB
 have kU := k1T.below hB
 have k2b := Lib.hid (k20.out.kp (.of hB))
 have k2c := Lib.hid (k21.out.kp (.of hB))
 have k2d := Lib.hid (k22.out.kp (.of hB))
 have kV := Lib.hid (k23.out.kp (.of hB))
 have k0i := Lib.hid (k24.out.kp (.of hB))
 have k0j := Lib.hid (k25.out.kp (.of hB))
 have k0k := Lib.hid (k26.out.kp (.of hB))
 have k2e := Lib.hid (Blw k27.out hB)
 clear hB
 generalize hF : ({ tmps := _, defers := _ } : Act) = F
 have ev12 : F.eval (.tmp 12) = .pointer (some ⟨w70.heap.size, 0, none⟩) := by rw [← hF]; rfl
 have ev13 : F.eval (.tmp 13) = .pointer (some ⟨w123.heap.size, 0, none⟩) := by rw [← hF]; rfl
 have ev14 : F.eval (.tmp 14) = .pointer (some ⟨w191.heap.size, 0, none⟩) := by rw [← hF]; rfl
 have ev15 : F.eval (.tmp 15) = .pointer (some ⟨w274.heap.size, 0, none⟩) := by rw [← hF]; rfl
 have hsz : ∀ d ∈ ([(33, []), (34, []), (35, [0, 1]), (36, []), (37, []), (38, [3, 4]), (39, [2, 5]), (40, [6]), (41, [7]), (42, [8]), (43, [8]), (44, [9, 10, 8]), (45, [8]), (46, [8]), (47, [12, 13, 8]), (48, [11, 14, 8]), (49, [15, 8]), (50, [8, 16])] : List (Nat × List Nat)).map (·.1), d < F.tmps.size := by rw [← hF]; simp
 have HF := Lib.hid hF; clear hF
 refine wp_flow_tabG true hW 18 [(33, []), (34, []), (35, [0, 1]), (36, []), (37, []), (38, [3, 4]), (39, [2, 5]), (40, [6]), (41, [7]), (42, [8]), (43, [8]), (44, [9, 10, 8]), (45, [8]), (46, [8]), (47, [12, 13, 8]), (48, [11, 14, 8]), (49, [15, 8]), (50, [8, 16])] [SC (.agg #[x0, x1, x2, x3, x4, x5, x6, x7]), SC (.agg #[y0, y1, y2, y3, y4, y5, y6, y7]), SR (vdot (vrot t aa) (vrot t bb)), SC (.agg #[aac0, aac1, aac2, aac3, aac4, aac5, aac6, aac7]), SC (.agg #[bbc0, bbc1, bbc2, bbc3, bbc4, bbc5, bbc6, bbc7]), SR (vdot aa bb), SC (.bool true), SC (.bool false), SC (.bool false), SC (.agg #[x0, x1, x2, x3, x4, x5, x6, x7]), SC (.agg #[y0, y1, y2, y3, y4, y5, y6, y7]), SR (vcrs (vrot t aa) (vrot t bb)), SC (.agg #[aac0, aac1, aac2, aac3, aac4, aac5, aac6, aac7]), SC (.agg #[bbc0, bbc1, bbc2, bbc3, bbc4, bbc5, bbc6, bbc7]), SR (vcrs aa bb), SC (.bool true), SC (.bool false), SC (.bool false)] [false, false, false, false, false, false, false, false, false, false, false, false, false, false, false, false, false, false] (by kernel_rfl) (by kernel_rfl) (by kernel_rfl) (by kernel_rfl) (by kernel_rfl) hsz ⟨SC.mono _, SC.mono _, SR.mono _, SC.mono _, SC.mono _, SR.mono _, SC.mono _, SC.mono _, SC.mono _, SC.mono _, SC.mono _, SR.mono _, SC.mono _, SC.mono _, SR.mono _, SC.mono _, SC.mono _, SC.mono _, trivial⟩ ?_ ?_
 ·intro kq hkq a wx hB hp hs
  have hcase : kq = 0 ∨ kq = 1 ∨ kq = 2 ∨ kq = 3 ∨ kq = 4 ∨ kq = 5 ∨ kq = 6 ∨ kq = 7 ∨ kq = 8 ∨ kq = 9 ∨ kq = 10 ∨ kq = 11 ∨ kq = 12 ∨ kq = 13 ∨ kq = 14 ∨ kq = 15 ∨ kq = 16 ∨ kq = 17 := by omega
  rcases hcase with rfl | rfl | rfl | rfl | rfl | rfl | rfl | rfl | rfl | rfl | rfl | rfl | rfl | rfl | rfl | rfl | rfl | rfl
  ·exact ⟨_, rfl, .inl ⟨wanted_none rfl, ld_Vec rfl ((hs 14 rfl).trans ev14) (kT.below hB) rfl rfl rfl rfl rfl rfl rfl rfl⟩⟩
  ·exact ⟨_, rfl, .inl ⟨wanted_none rfl, ld_Vec rfl ((hs 15 rfl).trans ev15) (kU.below hB) rfl rfl rfl rfl rfl rfl rfl rfl⟩⟩
  ·obtain ⟨k0, k1, -⟩ := hp
   have e0 : a.eval (.tmp 33) = .agg #[x0, x1, x2, x3, x4, x5, x6, x7] := k0
   have e1 : a.eval (.tmp 34) = .agg #[y0, y1, y2, y3, y4, y5, y6, y7] := k1
   exact ⟨_, rfl, .inl ⟨wanted_none rfl, Does.rr (f := 29) (call2 rfl (fun _ => by simp [go_sem]) e0 e1) (vdot_any (29) (29) x0 x1 x2 x3 x4 x5 x6 x7 y0 y1 y2 y3 y4 y5 y6 y7 (vrot t aa) (vrot t bb) wx (k0j.out.kp (.of hB)) (k0k.out.kp (.of hB)) (HBt.out.rot HBaa.out) (HBt.out.rot HBbb.out) (by omega))⟩⟩
  ·exact ⟨_, rfl, .inl ⟨wanted_none rfl, ld_Vec rfl ((hs 12 rfl).trans ev12) (kR.below hB) rfl rfl rfl rfl rfl rfl rfl rfl⟩⟩
  ·exact ⟨_, rfl, .inl ⟨wanted_none rfl, ld_Vec rfl ((hs 13 rfl).trans ev13) (kS.below hB) rfl rfl rfl rfl rfl rfl rfl rfl⟩⟩
  ·obtain ⟨k0, k1, -⟩ := hp
   have e0 : a.eval (.tmp 36) = .agg #[aac0, aac1, aac2, aac3, aac4, aac5, aac6, aac7] := k0
   have e1 : a.eval (.tmp 37) = .agg #[bbc0, bbc1, bbc2, bbc3, bbc4, bbc5, bbc6, bbc7] := k1
   exact ⟨_, rfl, .inl ⟨wanted_none rfl, Does.rr (f := 29) (call2 rfl (fun _ => by simp [go_sem]) e0 e1) (vdot_any (7) (7) aac0 aac1 aac2 aac3 aac4 aac5 aac6 aac7 bbc0 bbc1 bbc2 bbc3 bbc4 bbc5 bbc6 bbc7 (aa) (bb) wx (kV.out.kp (.of hB)) (k0i.out.kp (.of hB)) HBaa.out HBbb.out (by omega))⟩⟩
  ·obtain ⟨k0, k1, -⟩ := hp
   obtain ⟨d0, d1, d2, d3, e0, h_d⟩ := k0
   replace e0 : a.eval (.tmp 35) = .agg #[d0, d1, d2, d3] := e0
   obtain ⟨e_0, e_1, e_2, e_3, e1, h_e_⟩ := k1
   replace e1 : a.eval (.tmp 38) = .agg #[e_0, e_1, e_2, e_3] := e1
   exact ⟨_, rfl, .inl ⟨wanted_none rfl, Does.rc (f := 28) (call2 rfl (fun _ => by simp [go_sem]) e0 e1) (rsame_any d0 d1 d2 d3 e_0 e_1 e_2 e_3 _ _ wx h_d h_e_ true (truq (u_dot HUt.out)))⟩⟩
  ·obtain ⟨k0, -⟩ := hp
   have e0 : a.eval (.tmp 39) = .bool true := k0
   simp [Act.eval] at e0
   exact ⟨_, rfl, .inl ⟨wanted_none rfl, Does.val (by simp [execOp, Act.eval, e0, go_sem]) rfl⟩⟩
  ·obtain ⟨k0, -⟩ := hp
   have e0 : a.eval (.tmp 40) = .bool false := k0
   simp [Act.eval] at e0
   exact ⟨_, rfl, .inl ⟨wanted_none rfl, Does.val (by simp [execOp, Act.eval, e0, go_sem]) rfl⟩⟩
  ·obtain ⟨k0, -⟩ := hp
   have e0 : a.eval (.tmp 41) = .bool false := k0
   have hgd := e0
   exact ⟨_, rfl, .inl ⟨(wanted_of rfl rfl hgd).trans rfl, ld_Vec rfl ((hs 14 rfl).trans ev14) (kT.below hB) rfl rfl rfl rfl rfl rfl rfl rfl⟩⟩
  ·obtain ⟨k0, -⟩ := hp
   have e0 : a.eval (.tmp 41) = .bool false := k0
   have hgd := e0
   exact ⟨_, rfl, .inl ⟨(wanted_of rfl rfl hgd).trans rfl, ld_Vec rfl ((hs 15 rfl).trans ev15) (kU.below hB) rfl rfl rfl rfl rfl rfl rfl rfl⟩⟩
  ·obtain ⟨k0, k1, k2, -⟩ := hp
   have e0 : a.eval (.tmp 42) = .agg #[x0, x1, x2, x3, x4, x5, x6, x7] := k0
   have e1 : a.eval (.tmp 43) = .agg #[y0, y1, y2, y3, y4, y5, y6, y7] := k1
   have e2 : a.eval (.tmp 41) = .bool false := k2
   have hgd := e2
   exact ⟨_, rfl, .inl ⟨(wanted_of rfl rfl hgd).trans rfl, Does.rr (f := 30) (call2 rfl (fun _ => by simp [go_sem]) e0 e1) (vcrs_any (29) (29) x0 x1 x2 x3 x4 x5 x6 x7 y0 y1 y2 y3 y4 y5 y6 y7 (vrot t aa) (vrot t bb) wx (k0j.out.kp (.of hB)) (k0k.out.kp (.of hB)) (HBt.out.rot HBaa.out) (HBt.out.rot HBbb.out) (by omega))⟩⟩
  ·obtain ⟨k0, -⟩ := hp
   have e0 : a.eval (.tmp 41) = .bool false := k0
   have hgd := e0
   exact ⟨_, rfl, .inl ⟨(wanted_of rfl rfl hgd).trans rfl, ld_Vec rfl ((hs 12 rfl).trans ev12) (kR.below hB) rfl rfl rfl rfl rfl rfl rfl rfl⟩⟩
  ·obtain ⟨k0, -⟩ := hp
   have e0 : a.eval (.tmp 41) = .bool false := k0
   have hgd := e0
   exact ⟨_, rfl, .inl ⟨(wanted_of rfl rfl hgd).trans rfl, ld_Vec rfl ((hs 13 rfl).trans ev13) (kS.below hB) rfl rfl rfl rfl rfl rfl rfl rfl⟩⟩
  ·obtain ⟨k0, k1, k2, -⟩ := hp
   have e0 : a.eval (.tmp 45) = .agg #[aac0, aac1, aac2, aac3, aac4, aac5, aac6, aac7] := k0
   have e1 : a.eval (.tmp 46) = .agg #[bbc0, bbc1, bbc2, bbc3, bbc4, bbc5, bbc6, bbc7] := k1
   have e2 : a.eval (.tmp 41) = .bool false := k2
   have hgd := e2
   exact ⟨_, rfl, .inl ⟨(wanted_of rfl rfl hgd).trans rfl, Does.rr (f := 30) (call2 rfl (fun _ => by simp [go_sem]) e0 e1) (vcrs_any (7) (7) aac0 aac1 aac2 aac3 aac4 aac5 aac6 aac7 bbc0 bbc1 bbc2 bbc3 bbc4 bbc5 bbc6 bbc7 (aa) (bb) wx (kV.out.kp (.of hB)) (k0i.out.kp (.of hB)) HBaa.out HBbb.out (by omega))⟩⟩
  ·obtain ⟨k0, k1, k2, -⟩ := hp
   obtain ⟨f_0, f_1, f_2, f_3, e0, h_f_⟩ := k0
   replace e0 : a.eval (.tmp 44) = .agg #[f_0, f_1, f_2, f_3] := e0
   obtain ⟨g_0, g_1, g_2, g_3, e1, h_g_⟩ := k1
   replace e1 : a.eval (.tmp 47) = .agg #[g_0, g_1, g_2, g_3] := e1
   have e2 : a.eval (.tmp 41) = .bool false := k2
   have hgd := e2
   exact ⟨_, rfl, .inl ⟨(wanted_of rfl rfl hgd).trans rfl, Does.rc (f := 28) (call2 rfl (fun _ => by simp [go_sem]) e0 e1) (rsame_any f_0 f_1 f_2 f_3 g_0 g_1 g_2 g_3 _ _ wx h_f_ h_g_ true (truq (u_crs HUt.out)))⟩⟩
  ·obtain ⟨k0, k1, -⟩ := hp
   have e0 : a.eval (.tmp 48) = .bool true := k0
   have e1 : a.eval (.tmp 41) = .bool false := k1
   have hgd := e1
   simp [Act.eval] at e0
   exact ⟨_, rfl, .inl ⟨(wanted_of rfl rfl hgd).trans rfl, Does.val (by simp [execOp, Act.eval, e0, go_sem]) rfl⟩⟩
  ·obtain ⟨k0, k1, -⟩ := hp
   have e0 : a.eval (.tmp 41) = .bool false := k0
   have e1 : a.eval (.tmp 49) = .bool false := k1
   simp [Act.eval] at e0
   simp [Act.eval] at e1
   exact ⟨_, rfl, .inl ⟨wanted_none rfl, Does.val (by simp [execOp, Act.eval, e0, e1, go_sem]) rfl⟩⟩
 ·intro val wx hB hsp hdis
  have e17 : val 17 = .bool false := hsp 17 (by omega)
  rw [← HF.out]
  change wpList _ _ _ [] _ _
  simp only [puts, vals, List.map_cons, List.map_nil, List.foldl_cons, List.foldl_nil, if_true, Nat.zero_add, Nat.reduceAdd, e17, List.setIfInBounds_toArray, List.set_cons_succ, List.set_cons_zero]
  clear hsp hdis HF hsz e17
  clear ev12 ev13 ev14 ev15
  obtain ⟨w389, rfl⟩ : ∃ W : World, W = wx := ⟨_, rfl⟩
  have k0l := k28.below hB
  have k0m := k29.below hB
  have k0n := k2a.below hB
  have k0o := kR.below hB
  have k0p := kS.below hB
  have k0q := kT.below hB
  have k0r := kU.below hB
  have k0s := Lib.hid (k2b.out.kp (.of hB))
  have k0t := Lib.hid (k2c.out.kp (.of hB))
  have k2f := Lib.hid (k2d.out.kp (.of hB))
  have k2g := Lib.hid (kV.out.kp (.of hB))
  have k2h := Lib.hid (Blw k2e.out hB)
  clear hB
  obtain ⟨k6q, k6r, k6s, k6t, k6u, k6v, k6w, k6x, k6y, k6z⟩ := k0l.f8
  obtain ⟨k6A, k6B, k6C, k6D, k6E, k6F, k6G, k6H, k6I, k6J⟩ := k0m.f8
  obtain ⟨k6K, k6L, k6M, k6N, k6O, k6P, k6Q, k6R, k6S, k6T⟩ := k0n.f8
  obtain ⟨k6U, k6V, k6W, k6X, k6Y, k6Z, k70, k71, k72, k73⟩ := k0o.f8
  obtain ⟨k74, k75, k76, k77, k78, k79, k7a, k7b, k7c, k7d⟩ := k0p.f8
  obtain ⟨k7e, k7f, k7g, k7h, k7i, k7j, k7k, k7l, k7m, k7n⟩ := k0q.f8
  obtain ⟨k7o, k7p, k7q, k7r, k7s, k7t, k7u, k7v, k7w, k7x⟩ := k0r.f8
  go_wp2_with fail
  have k0u := vaft_any (7) (7) tc0 tc1 tc2 tc3 tc4 tc5 tc6 tc7 uc0 uc1 uc2 uc3 uc4 uc5 uc6 uc7 (t) (u) w389 k0s.out k0t.out HBt.out HBu.out (by omega)
  (with_reducible refine k0u.mono ?_)
  clear k0u
  rintro e w475 ⟨ww0, ww1, ww2, ww3, ww4, ww5, ww6, ww7, rfl, ke, k4⟩
  have kW := k0l.below k4
  have kX := k0m.below k4
  have kY := k0n.below k4
  have kZ := k0o.below k4
  have k0v := k0p.below k4
  have k0w := k0q.below k4
  have k0x := k0r.below k4
  have k2i := Lib.hid (k0s.out.kp (.of k4))
  have k2j := Lib.hid (k0t.out.kp (.of k4))
  have k2k := Lib.hid (k2f.out.kp (.of k4))
  have k2l := Lib.hid (k2g.out.kp (.of k4))
  have k2m := Lib.hid (Blw k2h.out k4)
  have k2n := Lib.hid ke
  have o_ww0 := ke.one0
  have o_ww1 := ke.one1
  have o_ww2 := ke.one2
  have o_ww3 := ke.one3
  have o_ww4 := ke.one4
  have o_ww5 := ke.one5
  have o_ww6 := ke.one6
  have o_ww7 := ke.one7
  clear ke k4
  obtain ⟨k7y, k7z, k7A, k7B, k7C, k7D, k7E, k7F, k7G, k7H⟩ := kW.f8
  obtain ⟨k7I, k7J, k7K, k7L, k7M, k7N, k7O, k7P, k7Q, k7R⟩ := kX.f8
  obtain ⟨k7S, k7T, k7U, k7V, k7W, k7X, k7Y, k7Z, k80, k81⟩ := kY.f8
  obtain ⟨k82, k83, k84, k85, k86, k87, k88, k89, k8a, k8b⟩ := kZ.f8
  obtain ⟨k8c, k8d, k8e, k8f, k8g, k8h, k8i, k8j, k8k, k8l⟩ := k0v.f8
  obtain ⟨k8m, k8n, k8o, k8p, k8q, k8r, k8s, k8t, k8u, k8v⟩ := k0w.f8
  obtain ⟨k8w, k8x, k8y, k8z, k8A, k8B, k8C, k8D, k8E, k8F⟩ := k0x.f8
  go_upto_region 11 with fail
  obtain ⟨W563, hW⟩ : ∃ W, W = w475.alloc (.cells #[ww0, ww1, ww2, ww3, ww4, ww5, ww6, ww7] 31) := ⟨_, rfl⟩
  rw [← hW]
  have hB : Below w475.heap.size w475 W563 := by rw [hW]; exact (Below.refl _ _).alloc (by simp) _
  have k8G := kW.lt
  have k8H := kX.lt
  have k8I := kY.lt
  have k8J := kZ.lt
  have k8K := k0v.lt
  have k8L := k0w.lt
  have k8M := k0x.lt
  have k2o : Bx W563 (w475.heap.size) 31 [ww0, ww1, ww2, ww3, ww4, ww5, ww6, ww7] := by rw [hW]; exact Bx.at_ rfl
  clear hW
  have k2p := kW.below hB
  have k2q := kX.below hB
  have k2r := kY.below hB
  have k2s := kZ.below hB
  have k2t := Lib.hid (k2i.out.kp (.of hB))
  have k2u := Lib.hid (k2j.out.kp (.of hB))
  have k2v := Lib.hid (k2k.out.kp (.of hB))
  have k2w := Lib.hid (k2l.out.kp (.of hB))
  have k2x := Lib.hid (k2n.out.kp (.of hB))
  have k2y := Lib.hid (Blw k2m.out hB)
  clear hB
  go_upto_region 11 with fail
  generalize hW : W563.drew = W588
  have hB : Below W563.heap.size W563 W588 := by rw [← hW]; exact (Below.refl _ _).drew
  have ks := k2p.below hB
  have k0y := k2q.below hB
  have k0z := k2r.below hB
  have k00 := k2s.below hB
  have k01 := k2o.below hB
  have kt := Lib.hid (k2t.out.kp (.of hB))
  have k0A := Lib.hid (k2u.out.kp (.of hB))
  have k0B := Lib.hid (k2v.out.kp (.of hB))
  have k02 := Lib.hid (k2w.out.kp (.of hB))
  have k03 := Lib.hid (k2x.out.kp (.of hB))
  have k2z := Lib.hid (Blw k2y.out hB)
  clear hB
  generalize hF : ({ tmps := _, defers := _ } : Act) = F
  have ev9 : F.eval (.tmp 9) = .pointer (some ⟨w1.heap.size, 0, none⟩) := by rw [← hF]; rfl
  have ev10 : F.eval (.tmp 10) = .pointer (some ⟨w9.heap.size, 0, none⟩) := by rw [← hF]; rfl
  have ev11 : F.eval (.tmp 11) = .pointer (some ⟨w32.heap.size, 0, none⟩) := by rw [← hF]; rfl
  have ev12 : F.eval (.tmp 12) = .pointer (some ⟨w70.heap.size, 0, none⟩) := by rw [← hF]; rfl
  have ev16 : F.eval (.tmp 16) = .pointer (some ⟨w475.heap.size, 0, none⟩) := by rw [← hF]; rfl
  have hsz : ∀ d ∈ ([(54, []), (55, []), (56, [0, 1]), (57, []), (58, []), (59, []), (60, [4, 5]), (61, [3, 6]), (62, [2, 7]), (63, [8]), (64, [9]), (65, [10]), (66, [10]), (67, [11, 12, 10]), (68, [10]), (69, [10]), (70, [10]), (71, [15, 16, 10]), (72, [14, 17, 10]), (73, [13, 18, 10]), (74, [19, 10]), (75, [10, 20]), (76, [21]), (77, [22]), (78, [23, 22]), (79, [24, 22]), (80, [22, 25]), (81, [26]), (82, [27]), (83, [28, 27]), (84, [29, 27]), (85, [30, 27]), (86, [27, 31])] : List (Nat × List Nat)).map (·.1), d < F.tmps.size := by rw [← hF]; simp
  have HF := Lib.hid hF; clear hF
  refine wp_flow_tabG true hW 33 [(54, []), (55, []), (56, [0, 1]), (57, []), (58, []), (59, []), (60, [4, 5]), (61, [3, 6]), (62, [2, 7]), (63, [8]), (64, [9]), (65, [10]), (66, [10]), (67, [11, 12, 10]), (68, [10]), (69, [10]), (70, [10]), (71, [15, 16, 10]), (72, [14, 17, 10]), (73, [13, 18, 10]), (74, [19, 10]), (75, [10, 20]), (76, [21]), (77, [22]), (78, [23, 22]), (79, [24, 22]), (80, [22, 25]), (81, [26]), (82, [27]), (83, [28, 27]), (84, [29, 27]), (85, [30, 27]), (86, [27, 31])] [SC (.agg #[ww0, ww1, ww2, ww3, ww4, ww5, ww6, ww7]), SC (.agg #[aac0, aac1, aac2, aac3, aac4, aac5, aac6, aac7]), SV (vrot (vrot t u) aa), SC (.agg #[tc0, tc1, tc2, tc3, tc4, tc5, tc6, tc7]), SC (.agg #[uc0, uc1, uc2, uc3, uc4, uc5, uc6, uc7]), SC (.agg #[aac0, aac1, aac2, aac3, aac4, aac5, aac6, aac7]), SV (vrot u aa), SV (vrot t (vrot u aa)), SC (.bool true), SC (.bool false), SC (.bool false), SC (.agg #[ww0, ww1, ww2, ww3, ww4, ww5, ww6, ww7]), SC (.agg #[vc0, vc1, vc2, vc3, vc4, vc5, vc6, vc7]), SV (vrot (vrot t u) v), SC (.agg #[tc0, tc1, tc2, tc3, tc4, tc5, tc6, tc7]), SC (.agg #[uc0, uc1, uc2, uc3, uc4, uc5, uc6, uc7]), SC (.agg #[vc0, vc1, vc2, vc3, vc4, vc5, vc6, vc7]), SV (vrot u v), SV (vrot t (vrot u v)), SC (.bool true), SC (.bool false), SC (.bool false), SC (.bool false), SC (.agg #[ww0, ww1, ww2, ww3, ww4, ww5, ww6, ww7]), SC (.bool true), SC (.bool false), SC (.bool false), SC (.bool false), SC (.agg #[tc0, tc1, tc2, tc3, tc4, tc5, tc6, tc7]), SV (vbak t), SC (.bool true), SC (.bool false), SC (.bool false)] [false, false, false, false, false, false, false, false, false, false, false, false, false, false, false, false, false, false, false, false, false, false, false, false, false, false, false, false, false, false, false, false, false] (by kernel_rfl) (by kernel_rfl) (by kernel_rfl) (by kernel_rfl) (by kernel_rfl) hsz ⟨SC.mono _, SC.mono _, SV.mono _, SC.mono _, SC.mono _, SC.mono _, SV.mono _, SV.mono _, SC.mono _, SC.mono _, SC.mono _, SC.mono _, SC.mono _, SV.mono _, SC.mono _, SC.mono _, SC.mono _, SV.mono _, SV.mono _, SC.mono _, SC.mono _, SC.mono _, SC.mono _, SC.mono _, SC.mono _, SC.mono _, SC.mono _, SC.mono _, SC.mono _, SV.mono _, SC.mono _, SC.mono _, SC.mono _, trivial⟩ ?_ ?_
  ·intro kq hkq a wx hB hp hs
   have hcase : kq = 0 ∨ kq = 1 ∨ kq = 2 ∨ kq = 3 ∨ kq = 4 ∨ kq = 5 ∨ kq = 6 ∨ kq = 7 ∨ kq = 8 ∨ kq = 9 ∨ kq = 10 ∨ kq = 11 ∨ kq = 12 ∨ kq = 13 ∨ kq = 14 ∨ kq = 15 ∨ kq = 16 ∨ kq = 17 ∨ kq = 18 ∨ kq = 19 ∨ kq = 20 ∨ kq = 21 ∨ kq = 22 ∨ kq = 23 ∨ kq = 24 ∨ kq = 25 ∨ kq = 26 ∨ kq = 27 ∨ kq = 28 ∨ kq = 29 ∨ kq = 30 ∨ kq = 31 ∨ kq = 32 := by omega
   rcases hcase with rfl | rfl | rfl | rfl | rfl | rfl | rfl | rfl | rfl | rfl | rfl | rfl | rfl | rfl | rfl | rfl | rfl | rfl | rfl | rfl | rfl | rfl | rfl | rfl | rfl | rfl | rfl | rfl | rfl | rfl | rfl | rfl | rfl
   ·exact ⟨_, rfl, .inl ⟨wanted_none rfl, ld_Turn rfl ((hs 16 rfl).trans ev16) (k01.below hB) rfl rfl rfl rfl rfl rfl rfl rfl⟩⟩
   ·exact ⟨_, rfl, .inl ⟨wanted_none rfl, ld_Vec rfl ((hs 12 rfl).trans ev12) (k00.below hB) rfl rfl rfl rfl rfl rfl rfl rfl⟩⟩
   ·obtain ⟨k0, k1, -⟩ := hp
    have e0 : a.eval (.tmp 54) = .agg #[ww0, ww1, ww2, ww3, ww4, ww5, ww6, ww7] := k0
    have e1 : a.eval (.tmp 55) = .agg #[aac0, aac1, aac2, aac3, aac4, aac5, aac6, aac7] := k1
    exact ⟨_, rfl, .inl ⟨wanted_none rfl, Does.rv (f := 9) (call2 rfl (fun _ => by simp [go_sem]) e0 e1) (vrot_any (29) (7) ww0 ww1 ww2 ww3 ww4 ww5 ww6 ww7 aac0 aac1 aac2 aac3 aac4 aac5 aac6 aac7 (vrot t u) (aa) wx (k03.out.kp (.of hB)) (k02.out.kp (.of hB)) (HBt.out.rot HBu.out) HBaa.out (by omega))⟩⟩
   ·exact ⟨_, rfl, .inl ⟨wanted_none rfl, ld_Turn rfl ((hs 9 rfl).trans ev9) (ks.below hB) rfl rfl rfl rfl rfl rfl rfl rfl⟩⟩
   ·exact ⟨_, rfl, .inl ⟨wanted_none rfl, ld_Turn rfl ((hs 10 rfl).trans ev10) (k0y.below hB) rfl rfl rfl rfl rfl rfl rfl rfl⟩⟩
   ·exact ⟨_, rfl, .inl ⟨wanted_none rfl, ld_Vec rfl ((hs 12 rfl).trans ev12) (k00.below hB) rfl rfl rfl rfl rfl rfl rfl rfl⟩⟩
   ·obtain ⟨k0, k1, -⟩ := hp
    have e0 : a.eval (.tmp 58) = .agg #[uc0, uc1, uc2, uc3, uc4, uc5, uc6, uc7] := k0
    have e1 : a.eval (.tmp 59) = .agg #[aac0, aac1, aac2, aac3, aac4, aac5, aac6, aac7] := k1
    exact ⟨_, rfl, .inl ⟨wanted_none rfl, Does.rv (f := 9) (call2 rfl (fun _ => by simp [go_sem]) e0 e1) (vrot_any (7) (7) uc0 uc1 uc2 uc3 uc4 uc5 uc6 uc7 aac0 aac1 aac2 aac3 aac4 aac5 aac6 aac7 (u) (aa) wx (k0A.out.kp (.of hB)) (k02.out.kp (.of hB)) HBu.out HBaa.out (by omega))⟩⟩
   ·obtain ⟨k0, k1, -⟩ := hp
    have e0 : a.eval (.tmp 57) = .agg #[tc0, tc1, tc2, tc3, tc4, tc5, tc6, tc7] := k0
    obtain ⟨q0, q1, q2, q3, q4, q5, q6, q7, e1, h_q⟩ := k1
    replace e1 : a.eval (.tmp 60) = .agg #[q0, q1, q2, q3, q4, q5, q6, q7] := e1
    exact ⟨_, rfl, .inl ⟨wanted_none rfl, Does.rv (f := 9) (call2 rfl (fun _ => by simp [go_sem]) e0 e1) (vrot_any (7) (29) tc0 tc1 tc2 tc3 tc4 tc5 tc6 tc7 q0 q1 q2 q3 q4 q5 q6 q7 (t) (vrot u aa) wx (kt.out.kp (.of hB)) h_q HBt.out (HBu.out.rot HBaa.out) (by omega))⟩⟩
   ·obtain ⟨k0, k1, -⟩ := hp
    obtain ⟨p0, p1, p2, p3, p4, p5, p6, p7, e0, h_p⟩ := k0
    replace e0 : a.eval (.tmp 56) = .agg #[p0, p1, p2, p3, p4, p5, p6, p7] := e0
    obtain ⟨r0, r1, r2, r3, r4, r5, r6, r7, e1, h_r⟩ := k1
    replace e1 : a.eval (.tmp 61) = .agg #[r0, r1, r2, r3, r4, r5, r6, r7] := e1
    exact ⟨_, rfl, .inl ⟨wanted_none rfl, Does.rc (f := 13) (call2 rfl (fun _ => by simp [go_sem]) e0 e1) (vsame_any p0 p1 p2 p3 p4 p5 p6 p7 r0 r1 r2 r3 r4 r5 r6 r7 _ _ wx h_p h_r true (tru r_ass))⟩⟩
   ·obtain ⟨k0, -⟩ := hp
    have e0 : a.eval (.tmp 62) = .bool true := k0
    simp [Act.eval] at e0
    exact ⟨_, rfl, .inl ⟨wanted_none rfl, Does.val (by simp [execOp, Act.eval, e0, go_sem]) rfl⟩⟩
   ·obtain ⟨k0, -⟩ := hp
    have e0 : a.eval (.tmp 63) = .bool false := k0
    simp [Act.eval] at e0
    exact ⟨_, rfl, .inl ⟨wanted_none rfl, Does.val (by simp [execOp, Act.eval, e0, go_sem]) rfl⟩⟩
   ·obtain ⟨k0, -⟩ := hp
    have e0 : a.eval (.tmp 64) = .bool false := k0
    have hgd := e0
    exact ⟨_, rfl, .inl ⟨(wanted_of rfl rfl hgd).trans rfl, ld_Turn rfl ((hs 16 rfl).trans ev16) (k01.below hB) rfl rfl rfl rfl rfl rfl rfl rfl⟩⟩
   ·obtain ⟨k0, -⟩ := hp
    have e0 : a.eval (.tmp 64) = .bool false := k0
    have hgd := e0
    exact ⟨_, rfl, .inl ⟨(wanted_of rfl rfl hgd).trans rfl, ld_Turn rfl ((hs 11 rfl).trans ev11) (k0z.below hB) rfl rfl rfl rfl rfl rfl rfl rfl⟩⟩
   ·obtain ⟨k0, k1, k2, -⟩ := hp
    have e0 : a.eval (.tmp 65) = .agg #[ww0, ww1, ww2, ww3, ww4, ww5, ww6, ww7] := k0
    have e1 : a.eval (.tmp 66) = .agg #[vc0, vc1, vc2, vc3, vc4, vc5, vc6, vc7] := k1
    have e2 : a.eval (.tmp 64) = .bool false := k2
    have hgd := e2
    exact ⟨_, rfl, .inl ⟨(wanted_of rfl rfl hgd).trans rfl, Does.rv (f := 25) (call2 rfl (fun _ => by simp [go_sem]) e0 e1) (vaft_any (29) (7) ww0 ww1 ww2 ww3 ww4 ww5 ww6 ww7 vc0 vc1 vc2 vc3 vc4 vc5 vc6 vc7 (vrot t u) (v) wx (k03.out.kp (.of hB)) (k0B.out.kp (.of hB)) (HBt.out.rot HBu.out) HBv.out (by omega))⟩⟩
   ·obtain ⟨k0, -⟩ := hp
    have e0 : a.eval (.tmp 64) = .bool false := k0
    have hgd := e0
    exact ⟨_, rfl, .inl ⟨(wanted_of rfl rfl hgd).trans rfl, ld_Turn rfl ((hs 9 rfl).trans ev9) (ks.below hB) rfl rfl rfl rfl rfl rfl rfl rfl⟩⟩
   ·obtain ⟨k0, -⟩ := hp
    have e0 : a.eval (.tmp 64) = .bool false := k0
    have hgd := e0
    exact ⟨_, rfl, .inl ⟨(wanted_of rfl rfl hgd).trans rfl, ld_Turn rfl ((hs 10 rfl).trans ev10) (k0y.below hB) rfl rfl rfl rfl rfl rfl rfl rfl⟩⟩
   ·obtain ⟨k0, -⟩ := hp
    have e0 : a.eval (.tmp 64) = .bool false := k0
    have hgd := e0
    exact ⟨_, rfl, .inl ⟨(wanted_of rfl rfl hgd).trans rfl, ld_Turn rfl ((hs 11 rfl).trans ev11) (k0z.below hB) rfl rfl rfl rfl rfl rfl rfl rfl⟩⟩
   ·obtain ⟨k0, k1, k2, -⟩ := hp
    have e0 : a.eval (.tmp 69) = .agg #[uc0, uc1, uc2, uc3, uc4, uc5, uc6, uc7] := k0
    have e1 : a.eval (.tmp 70) = .agg #[vc0, vc1, vc2, vc3, vc4, vc5, vc6, vc7] := k1
    have e2 : a.eval (.tmp 64) = .bool false := k2
    have hgd := e2
    exact ⟨_, rfl, .inl ⟨(wanted_of rfl rfl hgd).trans rfl, Does.rv (f := 25) (call2 rfl (fun _ => by simp [go_sem]) e0 e1) (vaft_any (7) (7) uc0 uc1 uc2 uc3 uc4 uc5 uc6 uc7 vc0 vc1 vc2 vc3 vc4 vc5 vc6 vc7 (u) (v) wx (k0A.out.kp (.of hB)) (k0B.out.kp (.of hB)) HBu.out HBv.out (by omega))⟩⟩
   ·obtain ⟨k0, k1, k2, -⟩ := hp
    have e0 : a.eval (.tmp 68) = .agg #[tc0, tc1, tc2, tc3, tc4, tc5, tc6, tc7] := k0
    obtain ⟨j0, j1, j2, j3, j4, j5, j6, j7, e1, h_j⟩ := k1
    replace e1 : a.eval (.tmp 71) = .agg #[j0, j1, j2, j3, j4, j5, j6, j7] := e1
    have e2 : a.eval (.tmp 64) = .bool false := k2
    have hgd := e2
    exact ⟨_, rfl, .inl ⟨(wanted_of rfl rfl hgd).trans rfl, Does.rv (f := 25) (call2 rfl (fun _ => by simp [go_sem]) e0 e1) (vaft_any (7) (29) tc0 tc1 tc2 tc3 tc4 tc5 tc6 tc7 j0 j1 j2 j3 j4 j5 j6 j7 (t) (vrot u v) wx (kt.out.kp (.of hB)) h_j HBt.out (HBu.out.rot HBv.out) (by omega))⟩⟩
   ·obtain ⟨k0, k1, k2, -⟩ := hp
    obtain ⟨i0, i1, i2, i3, i4, i5, i6, i7, e0, h_i⟩ := k0
    replace e0 : a.eval (.tmp 67) = .agg #[i0, i1, i2, i3, i4, i5, i6, i7] := e0
    obtain ⟨k_0, k_1, k_2, k_3, k_4, k_5, k_6, k_7, e1, h_k_⟩ := k1
    replace e1 : a.eval (.tmp 72) = .agg #[k_0, k_1, k_2, k_3, k_4, k_5, k_6, k_7] := e1
    have e2 : a.eval (.tmp 64) = .bool false := k2
    have hgd := e2
    exact ⟨_, rfl, .inl ⟨(wanted_of rfl rfl hgd).trans rfl, Does.rc (f := 16) (call2 rfl (fun _ => by simp [go_sem]) e0 e1) (tsame_any i0 i1 i2 i3 i4 i5 i6 i7 k_0 k_1 k_2 k_3 k_4 k_5 k_6 k_7 _ _ wx h_i h_k_ true (tru r_ass))⟩⟩
   ·obtain ⟨k0, k1, -⟩ := hp
    have e0 : a.eval (.tmp 73) = .bool true := k0
    have e1 : a.eval (.tmp 64) = .bool false := k1
    have hgd := e1
    simp [Act.eval] at e0
    exact ⟨_, rfl, .inl ⟨(wanted_of rfl rfl hgd).trans rfl, Does.val (by simp [execOp, Act.eval, e0, go_sem]) rfl⟩⟩
   ·obtain ⟨k0, k1, -⟩ := hp
    have e0 : a.eval (.tmp 64) = .bool false := k0
    have e1 : a.eval (.tmp 74) = .bool false := k1
    simp [Act.eval] at e0
    simp [Act.eval] at e1
    exact ⟨_, rfl, .inl ⟨wanted_none rfl, Does.val (by simp [execOp, Act.eval, e0, e1, go_sem]) rfl⟩⟩
   ·obtain ⟨k0, -⟩ := hp
    have e0 : a.eval (.tmp 75) = .bool false := k0
    simp [Act.eval] at e0
    exact ⟨_, rfl, .inl ⟨wanted_none rfl, Does.val (by simp [execOp, Act.eval, e0, go_sem]) rfl⟩⟩
   ·obtain ⟨k0, -⟩ := hp
    have e0 : a.eval (.tmp 76) = .bool false := k0
    have hgd := e0
    exact ⟨_, rfl, .inl ⟨(wanted_of rfl rfl hgd).trans rfl, ld_Turn rfl ((hs 16 rfl).trans ev16) (k01.below hB) rfl rfl rfl rfl rfl rfl rfl rfl⟩⟩
   ·obtain ⟨k0, k1, -⟩ := hp
    have e0 : a.eval (.tmp 77) = .agg #[ww0, ww1, ww2, ww3, ww4, ww5, ww6, ww7] := k0
    have e1 : a.eval (.tmp 76) = .bool false := k1
    have hgd := e1
    exact ⟨_, rfl, .inl ⟨(wanted_of rfl rfl hgd).trans rfl, Does.rc (f := 20) (call1 rfl (fun _ => by simp [go_sem]) e0) (tvalid_any 29 ww0 ww1 ww2 ww3 ww4 ww5 ww6 ww7 (vrot t u) wx (k03.out.kp (.of hB)) (HBt.out.rot HBu.out) (by omega) true (truu (u_rot HUt.out HUu.out)))⟩⟩
   ·obtain ⟨k0, k1, -⟩ := hp
    have e0 : a.eval (.tmp 78) = .bool true := k0
    have e1 : a.eval (.tmp 76) = .bool false := k1
    have hgd := e1
    simp [Act.eval] at e0
    exact ⟨_, rfl, .inl ⟨(wanted_of rfl rfl hgd).trans rfl, Does.val (by simp [execOp, Act.eval, e0, go_sem]) rfl⟩⟩
   ·obtain ⟨k0, k1, -⟩ := hp
    have e0 : a.eval (.tmp 76) = .bool false := k0
    have e1 : a.eval (.tmp 79) = .bool false := k1
    simp [Act.eval] at e0
    simp [Act.eval] at e1
    exact ⟨_, rfl, .inl ⟨wanted_none rfl, Does.val (by simp [execOp, Act.eval, e0, e1, go_sem]) rfl⟩⟩
   ·obtain ⟨k0, -⟩ := hp
    have e0 : a.eval (.tmp 80) = .bool false := k0
    simp [Act.eval] at e0
    exact ⟨_, rfl, .inl ⟨wanted_none rfl, Does.val (by simp [execOp, Act.eval, e0, go_sem]) rfl⟩⟩
   ·obtain ⟨k0, -⟩ := hp
    have e0 : a.eval (.tmp 81) = .bool false := k0
    have hgd := e0
    exact ⟨_, rfl, .inl ⟨(wanted_of rfl rfl hgd).trans rfl, ld_Turn rfl ((hs 9 rfl).trans ev9) (ks.below hB) rfl rfl rfl rfl rfl rfl rfl rfl⟩⟩
   ·obtain ⟨k0, k1, -⟩ := hp
    have e0 : a.eval (.tmp 82) = .agg #[tc0, tc1, tc2, tc3, tc4, tc5, tc6, tc7] := k0
    have e1 : a.eval (.tmp 81) = .bool false := k1
    have hgd := e1
    exact ⟨_, rfl, .inl ⟨(wanted_of rfl rfl hgd).trans rfl, Does.rv (f := 17) (call1 rfl (fun _ => by simp [go_sem]) e0) (vbak_any tc0 tc1 tc2 tc3 tc4 tc5 tc6 tc7 (t) wx (kt.out.kp (.of hB)))⟩⟩
   ·obtain ⟨k0, k1, -⟩ := hp
    obtain ⟨l_0, l_1, l_2, l_3, l_4, l_5, l_6, l_7, e0, h_l_⟩ := k0
    replace e0 : a.eval (.tmp 83) = .agg #[l_0, l_1, l_2, l_3, l_4, l_5, l_6, l_7] := e0
    have e1 : a.eval (.tmp 81) = .bool false := k1
    have hgd := e1
    exact ⟨_, rfl, .inl ⟨(wanted_of rfl rfl hgd).trans rfl, Does.rc (f := 20) (call1 rfl (fun _ => by simp [go_sem]) e0) (tvalid_any 7 l_0 l_1 l_2 l_3 l_4 l_5 l_6 l_7 (vbak t) wx h_l_ HBt.out.bak (by omega) true (truu (u_bak HUt.out)))⟩⟩
   ·obtain ⟨k0, k1, -⟩ := hp
    have e0 : a.eval (.tmp 84) = .bool true := k0
    have e1 : a.eval (.tmp 81) = .bool false := k1
    have hgd := e1
    simp [Act.eval] at e0
    exact ⟨_, rfl, .inl ⟨(wanted_of rfl rfl hgd).trans rfl, Does.val (by simp [execOp, Act.eval, e0, go_sem]) rfl⟩⟩
   ·obtain ⟨k0, k1, -⟩ := hp
    have e0 : a.eval (.tmp 81) = .bool false := k0
    have e1 : a.eval (.tmp 85) = .bool false := k1
    simp [Act.eval] at e0
    simp [Act.eval] at e1
    exact ⟨_, rfl, .inl ⟨wanted_none rfl, Does.val (by simp [execOp, Act.eval, e0, e1, go_sem]) rfl⟩⟩
  ·intro val wx hB hsp hdis
   have e32 : val 32 = .bool false := hsp 32 (by omega)
   rw [← HF.out]
   change wpList _ _ _ [] _ _
   simp only [puts, vals, List.map_cons, List.map_nil, List.foldl_cons, List.foldl_nil, if_true, Nat.zero_add, Nat.reduceAdd, e32, List.setIfInBounds_toArray, List.set_cons_succ, List.set_cons_zero]
   clear hsp hdis HF hsz e32
   clear ev9 ev10 ev11 ev12 ev16
   obtain ⟨w607, rfl⟩ : ∃ W : World, W = wx := ⟨_, rfl⟩
   have k2A := ks.below hB
   have k2B := k00.below hB
   have k2C := Lib.hid (kt.out.kp (.of hB))
   have k2D := Lib.hid (k02.out.kp (.of hB))
   have k2E := Lib.hid (Blw k2z.out hB)
   clear hB
   go_upto_region 13 with fail
   go_upto_region 13 with fail
   generalize hW : w607.drew = W625
   have hB : Below w607.heap.size w607 W625 := by rw [← hW]; exact (Below.refl _ _).drew
   have ku := k2A.below hB
   have k0C := k2B.below hB
   have kv := Lib.hid (k2C.out.kp (.of hB))
   have k0D := Lib.hid (k2D.out.kp (.of hB))
   have k2F := Lib.hid (Blw k2E.out hB)
   clear hB
   generalize hF : ({ tmps := _, defers := _ } : Act) = F
   have ev9 : F.eval (.tmp 9) = .pointer (some ⟨w1.heap.size, 0, none⟩) := by rw [← hF]; rfl
   have ev12 : F.eval (.tmp 12) = .pointer (some ⟨w70.heap.size, 0, none⟩) := by rw [← hF]; rfl
   have hsz : ∀ d ∈ ([(87, []), (88, []), (89, [1]), (90, [0, 2]), (91, []), (92, [3, 4]), (93, [5]), (94, [6]), (95, [7, 6]), (96, [6]), (97, [8, 9, 6]), (98, [6]), (99, [10, 11, 6]), (100, [6, 12]), (101, [13]), (102, [14]), (103, [14]), (104, [15, 16, 14]), (105, [14]), (106, [17, 18, 14]), (107, [14, 19]), (108, [20]), (109, [21]), (110, [21, 22]), (8, [23])] : List (Nat × List Nat)).map (·.1), d < F.tmps.size := by rw [← hF]; simp
   have HF := Lib.hid hF; clear hF
   refine wp_flow_tabG true hW 25 [(87, []), (88, []), (89, [1]), (90, [0, 2]), (91, []), (92, [3, 4]), (93, [5]), (94, [6]), (95, [7, 6]), (96, [6]), (97, [8, 9, 6]), (98, [6]), (99, [10, 11, 6]), (100, [6, 12]), (101, [13]), (102, [14]), (103, [14]), (104, [15, 16, 14]), (105, [14]), (106, [17, 18, 14]), (107, [14, 19]), (108, [20]), (109, [21]), (110, [21, 22]), (8, [23])] [SC (.agg #[tc0, tc1, tc2, tc3, tc4, tc5, tc6, tc7]), SC (.agg #[tc0, tc1, tc2, tc3, tc4, tc5, tc6, tc7]), SV (vbak t), SV (vrot t (vbak t)), SV ((Rat.divInt 1 1, 0)), SC (.bool true), SC (.bool true), SC (.agg #[tc0, tc1, tc2, tc3, tc4, tc5, tc6, tc7]), SV (vbak t), SC (.agg #[tc0, tc1, tc2, tc3, tc4, tc5, tc6, tc7]), SV (vrot (vbak t) t), SV ((Rat.divInt 1 1, 0)), SC (.bool true), SC (.bool true), SC (.bool true), SV ((Rat.divInt 1 1, 0)), SC (.agg #[aac0, aac1, aac2, aac3, aac4, aac5, aac6, aac7]), SV (vrot (Rat.divInt 1 1, 0) aa), SC (.agg #[aac0, aac1, aac2, aac3, aac4, aac5, aac6, aac7]), SC (.bool true), SC (.bool true), SC (.bool true), SC (.bool true), SC (.bool true), SC (.bool true)] [false, false, false, false, false, false, false, false, false, false, false, false, false, false, false, false, false, false, false, false, false, false, false, false, false] (by kernel_rfl) (by kernel_rfl) (by kernel_rfl) (by kernel_rfl) (by kernel_rfl) hsz ⟨SC.mono _, SC.mono _, SV.mono _, SV.mono _, SV.mono _, SC.mono _, SC.mono _, SC.mono _, SV.mono _, SC.mono _, SV.mono _, SV.mono _, SC.mono _, SC.mono _, SC.mono _, SV.mono _, SC.mono _, SV.mono _, SC.mono _, SC.mono _, SC.mono _, SC.mono _, SC.mono _, SC.mono _, SC.mono _, trivial⟩ ?_ ?_
   ·intro kq hkq a wx hB hp hs
    have hcase : kq = 0 ∨ kq = 1 ∨ kq = 2 ∨ kq = 3 ∨ kq = 4 ∨ kq = 5 ∨ kq = 6 ∨ kq = 7 ∨ kq = 8 ∨ kq = 9 ∨ kq = 10 ∨ kq = 11 ∨ kq = 12 ∨ kq = 13 ∨ kq = 14 ∨ kq = 15 ∨ kq = 16 ∨ kq = 17 ∨ kq = 18 ∨ kq = 19 ∨ kq = 20 ∨ kq = 21 ∨ kq = 22 ∨ kq = 23 ∨ kq = 24 := by omega
    rcases hcase with rfl | rfl | rfl | rfl | rfl | rfl | rfl | rfl | rfl | rfl | rfl | rfl | rfl | rfl | rfl | rfl | rfl | rfl | rfl | rfl | rfl | rfl | rfl | rfl | rfl
    ·exact ⟨_, rfl, .inl ⟨wanted_none rfl, ld_Turn rfl ((hs 9 rfl).trans ev9) (ku.below hB) rfl rfl rfl rfl rfl rfl rfl rfl⟩⟩
    ·exact ⟨_, rfl, .inl ⟨wanted_none rfl, ld_Turn rfl ((hs 9 rfl).trans ev9) (ku.below hB) rfl rfl rfl rfl rfl rfl rfl rfl⟩⟩
    ·obtain ⟨k0, -⟩ := hp
     have e0 : a.eval (.tmp 88) = .agg #[tc0, tc1, tc2, tc3, tc4, tc5, tc6, tc7] := k0
     exact ⟨_, rfl, .inl ⟨wanted_none rfl, Does.rv (f := 17) (call1 rfl (fun _ => by simp [go_sem]) e0) (vbak_any tc0 tc1 tc2 tc3 tc4 tc5 tc6 tc7 (t) wx (kv.out.kp (.of hB)))⟩⟩
    ·obtain ⟨k0, k1, -⟩ := hp
     have e0 : a.eval (.tmp 87) = .agg #[tc0, tc1, tc2, tc3, tc4, tc5, tc6, tc7] := k0
     obtain ⟨m_0, m_1, m_2, m_3, m_4, m_5, m_6, m_7, e1, h_m_⟩ := k1
     replace e1 : a.eval (.tmp 89) = .agg #[m_0, m_1, m_2, m_3, m_4, m_5, m_6, m_7] := e1
     exact ⟨_, rfl, .inl ⟨wanted_none rfl, Does.rv (f := 25) (call2 rfl (fun _ => by simp [go_sem]) e0 e1) (vaft_any (7) (7) tc0 tc1 tc2 tc3 tc4 tc5 tc6 tc7 m_0 m_1 m_2 m_3 m_4 m_5 m_6 m_7 (t) (vbak t) wx (kv.out.kp (.of hB)) h_m_ HBt.out HBt.out.bak (by omega))⟩⟩
    ·clear hp
     exact ⟨_, rfl, .inl ⟨wanted_none rfl, Does.rv (f := 22) (call0 rfl (fun _ => by simp [go_sem])) (still_any wx)⟩⟩
    ·obtain ⟨k0, k1, -⟩ := hp
     obtain ⟨n_0, n_1, n_2, n_3, n_4, n_5, n_6, n_7, e0, h_n_⟩ := k0
     replace e0 : a.eval (.tmp 90) = .agg #[n_0, n_1, n_2, n_3, n_4, n_5, n_6, n_7] := e0
     obtain ⟨o_0, o_1, o_2, o_3, o_4, o_5, o_6, o_7, e1, h_o_⟩ := k1
     replace e1 : a.eval (.tmp 91) = .agg #[o_0, o_1, o_2, o_3, o_4, o_5, o_6, o_7] := e1
     exact ⟨_, rfl, .inl ⟨wanted_none rfl, Does.rc (f := 16) (call2 rfl (fun _ => by simp [go_sem]) e0 e1) (tsame_any n_0 n_1 n_2 n_3 n_4 n_5 n_6 n_7 o_0 o_1 o_2 o_3 o_4 o_5 o_6 o_7 _ _ wx h_n_ h_o_ true (tru (r_bak HUt.out)))⟩⟩
    ·obtain ⟨k0, -⟩ := hp
     have e0 : a.eval (.tmp 92) = .bool true := k0
     simp [Act.eval] at e0
     exact ⟨_, rfl, .inl ⟨wanted_none rfl, Does.val (by simp [execOp, Act.eval, e0, go_sem]) rfl⟩⟩
    ·obtain ⟨k0, -⟩ := hp
     have e0 : a.eval (.tmp 93) = .bool true := k0
     have hgd := e0
     exact ⟨_, rfl, .inl ⟨(wanted_of rfl rfl hgd).trans rfl, ld_Turn rfl ((hs 9 rfl).trans ev9) (ku.below hB) rfl rfl rfl rfl rfl rfl rfl rfl⟩⟩
    ·obtain ⟨k0, k1, -⟩ := hp
     have e0 : a.eval (.tmp 94) = .agg #[tc0, tc1, tc2, tc3, tc4, tc5, tc6, tc7] := k0
     have e1 : a.eval (.tmp 93) = .bool true := k1
     have hgd := e1
     exact ⟨_, rfl, .inl ⟨(wanted_of rfl rfl hgd).trans rfl, Does.rv (f := 17) (call1 rfl (fun _ => by simp [go_sem]) e0) (vbak_any tc0 tc1 tc2 tc3 tc4 tc5 tc6 tc7 (t) wx (kv.out.kp (.of hB)))⟩⟩
    ·obtain ⟨k0, -⟩ := hp
     have e0 : a.eval (.tmp 93) = .bool true := k0
     have hgd := e0
     exact ⟨_, rfl, .inl ⟨(wanted_of rfl rfl hgd).trans rfl, ld_Turn rfl ((hs 9 rfl).trans ev9) (ku.below hB) rfl rfl rfl rfl rfl rfl rfl rfl⟩⟩
    ·obtain ⟨k0, k1, k2, -⟩ := hp
     obtain ⟨q_0, q_1, q_2, q_3, q_4, q_5, q_6, q_7, e0, h_q_⟩ := k0
     replace e0 : a.eval (.tmp 95) = .agg #[q_0, q_1, q_2, q_3, q_4, q_5, q_6, q_7] := e0
     have e1 : a.eval (.tmp 96) = .agg #[tc0, tc1, tc2, tc3, tc4, tc5, tc6, tc7] := k1
     have e2 : a.eval (.tmp 93) = .bool true := k2
     have hgd := e2
     exact ⟨_, rfl, .inl ⟨(wanted_of rfl rfl hgd).trans rfl, Does.rv (f := 25) (call2 rfl (fun _ => by simp [go_sem]) e0 e1) (vaft_any (7) (7) q_0 q_1 q_2 q_3 q_4 q_5 q_6 q_7 tc0 tc1 tc2 tc3 tc4 tc5 tc6 tc7 (vbak t) (t) wx h_q_ (kv.out.kp (.of hB)) HBt.out.bak HBt.out (by omega))⟩⟩
    ·obtain ⟨k0, -⟩ := hp
     have e0 : a.eval (.tmp 93) = .bool true := k0
     have hgd := e0
     exact ⟨_, rfl, .inl ⟨(wanted_of rfl rfl hgd).trans rfl, Does.rv (f := 22) (call0 rfl (fun _ => by simp [go_sem])) (still_any wx)⟩⟩
    ·obtain ⟨k0, k1, k2, -⟩ := hp
     obtain ⟨r_0, r_1, r_2, r_3, r_4, r_5, r_6, r_7, e0, h_r_⟩ := k0
     replace e0 : a.eval (.tmp 97) = .agg #[r_0, r_1, r_2, r_3, r_4, r_5, r_6, r_7] := e0
     obtain ⟨s_0, s_1, s_2, s_3, s_4, s_5, s_6, s_7, e1, h_s_⟩ := k1
     replace e1 : a.eval (.tmp 98) = .agg #[s_0, s_1, s_2, s_3, s_4, s_5, s_6, s_7] := e1
     have e2 : a.eval (.tmp 93) = .bool true := k2
     have hgd := e2
     exact ⟨_, rfl, .inl ⟨(wanted_of rfl rfl hgd).trans rfl, Does.rc (f := 16) (call2 rfl (fun _ => by simp [go_sem]) e0 e1) (tsame_any r_0 r_1 r_2 r_3 r_4 r_5 r_6 r_7 s_0 s_1 s_2 s_3 s_4 s_5 s_6 s_7 _ _ wx h_r_ h_s_ true (tru (b_rot HUt.out)))⟩⟩
    ·obtain ⟨k0, k1, -⟩ := hp
     have e0 : a.eval (.tmp 93) = .bool true := k0
     have e1 : a.eval (.tmp 99) = .bool true := k1
     simp [Act.eval] at e0
     simp [Act.eval] at e1
     exact ⟨_, rfl, .inl ⟨wanted_none rfl, Does.val (by simp [execOp, Act.eval, e0, e1, go_sem]) rfl⟩⟩
    ·obtain ⟨k0, -⟩ := hp
     have e0 : a.eval (.tmp 100) = .bool true := k0
     simp [Act.eval] at e0
     exact ⟨_, rfl, .inl ⟨wanted_none rfl, Does.val (by simp [execOp, Act.eval, e0, go_sem]) rfl⟩⟩
    ·obtain ⟨k0, -⟩ := hp
     have e0 : a.eval (.tmp 101) = .bool true := k0
     have hgd := e0
     exact ⟨_, rfl, .inl ⟨(wanted_of rfl rfl hgd).trans rfl, Does.rv (f := 22) (call0 rfl (fun _ => by simp [go_sem])) (still_any wx)⟩⟩
    ·obtain ⟨k0, -⟩ := hp
     have e0 : a.eval (.tmp 101) = .bool true := k0
     have hgd := e0
     exact ⟨_, rfl, .inl ⟨(wanted_of rfl rfl hgd).trans rfl, ld_Vec rfl ((hs 12 rfl).trans ev12) (k0C.below hB) rfl rfl rfl rfl rfl rfl rfl rfl⟩⟩
    ·obtain ⟨k0, k1, k2, -⟩ := hp
     obtain ⟨z_0, z_1, z_2, z_3, z_4, z_5, z_6, z_7, e0, h_z_⟩ := k0
     replace e0 : a.eval (.tmp 102) = .agg #[z_0, z_1, z_2, z_3, z_4, z_5, z_6, z_7] := e0
     have e1 : a.eval (.tmp 103) = .agg #[aac0, aac1, aac2, aac3, aac4, aac5, aac6, aac7] := k1
     have e2 : a.eval (.tmp 101) = .bool true := k2
     have hgd := e2
     exact ⟨_, rfl, .inl ⟨(wanted_of rfl rfl hgd).trans rfl, Does.rv (f := 9) (call2 rfl (fun _ => by simp [go_sem]) e0 e1) (vrot_any (7) (7) z_0 z_1 z_2 z_3 z_4 z_5 z_6 z_7 aac0 aac1 aac2 aac3 aac4 aac5 aac6 aac7 ((Rat.divInt 1 1, 0)) (aa) wx h_z_ (k0D.out.kp (.of hB)) bv_one HBaa.out (by omega))⟩⟩
    ·obtain ⟨k0, -⟩ := hp
     have e0 : a.eval (.tmp 101) = .bool true := k0
     have hgd := e0
     exact ⟨_, rfl, .inl ⟨(wanted_of rfl rfl hgd).trans rfl, ld_Vec rfl ((hs 12 rfl).trans ev12) (k0C.below hB) rfl rfl rfl rfl rfl rfl rfl rfl⟩⟩
    ·obtain ⟨k0, k1, k2, -⟩ := hp
     obtain ⟨y_0, y_1, y_2, y_3, y_4, y_5, y_6, y_7, e0, h_y_⟩ := k0
     replace e0 : a.eval (.tmp 104) = .agg #[y_0, y_1, y_2, y_3, y_4, y_5, y_6, y_7] := e0
     have e1 : a.eval (.tmp 105) = .agg #[aac0, aac1, aac2, aac3, aac4, aac5, aac6, aac7] := k1
     have e2 : a.eval (.tmp 101) = .bool true := k2
     have hgd := e2
     exact ⟨_, rfl, .inl ⟨(wanted_of rfl rfl hgd).trans rfl, Does.rc (f := 13) (call2 rfl (fun _ => by simp [go_sem]) e0 e1) (vsame_any y_0 y_1 y_2 y_3 y_4 y_5 y_6 y_7 aac0 aac1 aac2 aac3 aac4 aac5 aac6 aac7 _ _ wx h_y_ (k0D.out.kp (.of hB)) true (tru r_one))⟩⟩
    ·obtain ⟨k0, k1, -⟩ := hp
     have e0 : a.eval (.tmp 101) = .bool true := k0
     have e1 : a.eval (.tmp 106) = .bool true := k1
     simp [Act.eval] at e0
     simp [Act.eval] at e1
     exact ⟨_, rfl, .inl ⟨wanted_none rfl, Does.val (by simp [execOp, Act.eval, e0, e1, go_sem]) rfl⟩⟩
    ·obtain ⟨k0, -⟩ := hp
     have e0 : a.eval (.tmp 107) = .bool true := k0
     simp [Act.eval] at e0
     exact ⟨_, rfl, .inl ⟨wanted_none rfl, Does.val (by simp [execOp, Act.eval, e0, go_sem]) rfl⟩⟩
    ·obtain ⟨k0, -⟩ := hp
     have e0 : a.eval (.tmp 108) = .bool true := k0
     have hgd := e0
     exact ⟨_, rfl, .inl ⟨(wanted_of rfl rfl hgd).trans rfl, Does.rc (f := 14) (call0 rfl (fun _ => by simp [go_sem])) (lives_any wx)⟩⟩
    ·obtain ⟨k0, k1, -⟩ := hp
     have e0 : a.eval (.tmp 108) = .bool true := k0
     have e1 : a.eval (.tmp 109) = .bool true := k1
     simp [Act.eval] at e0
     simp [Act.eval] at e1
     exact ⟨_, rfl, .inl ⟨wanted_none rfl, Does.val (by simp [execOp, Act.eval, e0, e1, go_sem]) rfl⟩⟩
    ·obtain ⟨k0, -⟩ := hp
     have e0 : a.eval (.tmp 110) = .bool true := k0
     simp [Act.eval] at e0
     exact ⟨_, rfl, .inl ⟨wanted_none rfl, Does.val (by simp [execOp, Act.eval, e0, go_sem]) rfl⟩⟩
   ·intro val wx hB hsp hdis
    have e24 : val 24 = .bool true := hsp 24 (by omega)
    rw [← HF.out]
    change wpList _ _ _ [] _ _
    simp only [puts, vals, List.map_cons, List.map_nil, List.foldl_cons, List.foldl_nil, if_true, Nat.zero_add, Nat.reduceAdd, e24, List.setIfInBounds_toArray, List.set_cons_succ, List.set_cons_zero]
    clear hsp hdis HF hsz e24
    clear ev9 ev12
    obtain ⟨w644, rfl⟩ : ∃ W : World, W = wx := ⟨_, rfl⟩
    have k2G := Lib.hid (Blw k2F.out hB)
    clear hB
    go_wp2
    go_ret
    exact ⟨rfl, k2G.out⟩
end Go.Proofs.Ytonkbckgbfcnkaa
