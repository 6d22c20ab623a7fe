/-
 THE WALKS of package rat: lowest, Make.
-/
import Derived.Test.YtonkbckgbfcnkaaWalkRat
import Derived.Test.YtonkbckgbfcnkaaWalkDiv
import Derived.Test.YtonkbckgbfcnkaaWalkGcd
namespace Go.Proofs.Ytonkbckgbfcnkaa
set_option maxHeartbeats 4000000
open Go.RowKit
attribute [local go_sem] run_store_one
set_option linter.unusedVariables false
theorem divInt_pos {p q : Int} (h : 0 < q) (hg : Int.gcd p q = 1) : (Rat.divInt p q).num = p ∧ ((Rat.divInt p q).den : Int) = q := by
 obtain ⟨d, rfl⟩ := Int.eq_ofNat_of_zero_le (Int.le_of_lt h)
 have := Rat.mk_eq_divInt (num := p) (den := d) (nz := by omega) (c := by simpa [Int.gcd] using hg)
 rw [← this]
 exact ⟨rfl, rfl⟩
theorem divInt_neg_ {p q : Int} (h : q < 0) (hg : Int.gcd p q = 1) : (Rat.divInt p q).num = -p ∧ ((Rat.divInt p q).den : Int) = -q := by
 have h2 := divInt_pos (p := -p) (q := -q) (by omega) (by rw [Int.gcd_neg, Int.neg_gcd]; exact hg)
 rw [← Rat.neg_divInt_neg]
 exact h2
theorem gcd_ne {x y : Int} (hy : y ≠ 0) : (Int.gcd x y : Int) ≠ 0 := by
 have := Int.gcd_pos_of_ne_zero_right x hy
 omega
theorem divInt_low {x y : Int} (hy : y ≠ 0) : Rat.divInt (x / (Int.gcd x y : Int)) (y / (Int.gcd x y : Int)) = Rat.divInt x y := by
 have h1 := Int.ediv_mul_cancel (Int.gcd_dvd_left (a := x) (b := y))
 have h2 := Int.ediv_mul_cancel (Int.gcd_dvd_right (a := x) (b := y))
 have := Rat.divInt_mul_right (n := x / (Int.gcd x y : Int)) (d := y / (Int.gcd x y : Int)) (gcd_ne (x := x) hy)
 rw [h1, h2] at this
 exact this.symm
theorem gcd_low {x y : Int} (hy : y ≠ 0) : Int.gcd (x / (Int.gcd x y : Int)) (y / (Int.gcd x y : Int)) = 1 := by
 have := Int.gcd_pos_of_ne_zero_right x hy
 rw [Int.gcd_ediv_gcd_ediv_gcd this]
theorem low_ne {x y : Int} (hy : y ≠ 0) : y / (Int.gcd x y : Int) ≠ 0 := by
 have h2 := Int.ediv_mul_cancel (Int.gcd_dvd_right (a := x) (b := y))
 intro h
 rw [h] at h2
 omega
theorem unit_yes (a0 a1 : Value) (x : Int) (w : World) (hx : IntV w a0 a1 x) (h : x = 1) : Calls Try.prog 83 #[.agg #[a0, a1]] w fun e w' => e = .returned (.bool true) ∧ Below w.heap.size w w' := by
 have h1 := unit_any a0 a1 x w hx
 rw [decide_eq_true h] at h1
 exact h1
theorem unit_no (a0 a1 : Value) (x : Int) (w : World) (hx : IntV w a0 a1 x) (h : ¬ x = 1) : Calls Try.prog 83 #[.agg #[a0, a1]] w fun e w' => e = .returned (.bool false) ∧ Below w.heap.size w w' := by
 have h1 := unit_any a0 a1 x w hx
 rw [decide_eq_false h] at h1
 exact h1
theorem low_p (p0 p1 q1 : Value) (x y : Int) (w : World) (hx : IntV w p0 p1 x) (hy : IntV w (.bool false) q1 y) (hy0 : 0 < y) (h1 : ¬ y = 1) (hg : Int.gcd x y = 1) :
  Calls Try.prog 75 #[.agg #[p0, p1], .agg #[.bool false, q1]] w (RR (Rat.divInt x y) w) := by
 have hnd := divInt_pos hy0 hg
 have hdq : dq (Rat.divInt x y) = y := by
  rw [dq_more (by have := hnd.2; omega)]; exact hnd.2
 obtain ⟨r, hr⟩ : ∃ r, r = Rat.divInt x y := ⟨_, rfl⟩
 rw [← hr] at hnd hdq ⊢
 have HNUM := Lib.hid hnd.1; have HDQ := Lib.hid hdq; have H1 := Lib.hid h1
 obtain ⟨o_p0, o_p1⟩ := hx.ones
 have o_q1 := hy.one1
 have HX := Lib.hid hx; have HY := Lib.hid hy
 clear hnd hdq hr h1 hg hx hy hy0
 go_enter Try.func75, Try.ntmps75
 go_wp2_with fail
 generalize hW : ((w.alloc _).alloc _).alloc _ = W1
 obtain ⟨k2, k3, k4, hB⟩ := box3 hW
 have k1 := Lib.hid hB; clear hW hB
 have F6 := Lib.hid (HX.out.kp (.of k1.out))
 have F7 := Lib.hid (HY.out.kp (.of k1.out))
 obtain ⟨kg, kh, ki, kj⟩ := k2.f2
 obtain ⟨kk, kl, km, kn⟩ := k3.f2
 obtain ⟨ko, kq, kr, ks, kt, ku⟩ := k4.f4
 have k6 := unit_no (.bool false) q1 (y) W1 F7.out H1.out
 (with_reducible refine k6.mono ?_)
 clear k6
 rintro e w22 ⟨rfl, k0⟩
 obtain ⟨kv, kw, kx, ky, kz⟩ := k2.b2 k0
 obtain ⟨kA, kB, kC, kD, kE⟩ := k3.b2 k0
 obtain ⟨k8, k9, ka, kb, kc, kF, kG⟩ := k4.b4 k0
 have kd := Lib.hid (F6.out.kp (.of k0))
 have ke := Lib.hid (F7.out.kp (.of k0))
 have kf := Lib.hid (Blw k1.out k0)
 clear k0
 go_wp2_with fail
 have hkp := (Kp.refl w22).t4 k8 p0 p1 (.bool false) q1
 refine bodyPost_ret (v := .agg #[p0, p1, .bool false, q1]) (by simp [results, Try.results75, go_sem, k9, ka, kb, kc]) rfl ⟨_, _, _, _, rfl, ⟨?_, ?_⟩, bel4 (kf.out) (by first | simp | omega)⟩
 ·rw [HNUM.out]; exact kd.out.kp hkp
 ·rw [HDQ.out]; exact ke.out.kp hkp
theorem low_p1 (p0 p1 q1 : Value) (x y : Int) (w : World) (hx : IntV w p0 p1 x) (hy : IntV w (.bool false) q1 y) (hy0 : 0 < y) (h1 : y = 1) (hg : Int.gcd x y = 1) :
  Calls Try.prog 75 #[.agg #[p0, p1], .agg #[.bool false, q1]] w (RR (Rat.divInt x y) w) := by
 have hnd := divInt_pos hy0 hg
 have hdq : dq (Rat.divInt x y) = 0 := by
  exact dq_one (by have := hnd.2; omega)
 obtain ⟨r, hr⟩ : ∃ r, r = Rat.divInt x y := ⟨_, rfl⟩
 rw [← hr] at hnd hdq ⊢
 have HNUM := Lib.hid hnd.1; have HDQ := Lib.hid hdq; have H1 := Lib.hid h1
 obtain ⟨o_p0, o_p1⟩ := hx.ones
 have o_q1 := hy.one1
 have HX := Lib.hid hx; have HY := Lib.hid hy
 clear hnd hdq hr h1 hg hx hy hy0
 go_enter Try.func75, Try.ntmps75
 go_wp2_with fail
 generalize hW : ((w.alloc _).alloc _).alloc _ = W1
 obtain ⟨k2, k3, k4, hB⟩ := box3 hW
 have k1 := Lib.hid hB; clear hW hB
 have F6 := Lib.hid (HX.out.kp (.of k1.out))
 have F7 := Lib.hid (HY.out.kp (.of k1.out))
 obtain ⟨kf, kg, kh, ki⟩ := k2.f2
 obtain ⟨kj, kk, kl, km⟩ := k3.f2
 obtain ⟨kn, ko, kq, kr, ks, kt⟩ := k4.f4
 have k5 := unit_yes (.bool false) q1 (y) W1 F7.out H1.out
 (with_reducible refine k5.mono ?_)
 clear k5
 rintro e w22 ⟨rfl, k0⟩
 obtain ⟨ku, kv, kw, kx, ky⟩ := k2.b2 k0
 obtain ⟨kz, kA, kB, kC, kD⟩ := k3.b2 k0
 obtain ⟨k8, k9, ka, kb, kc, kE, kF⟩ := k4.b4 k0
 have kd := Lib.hid (F6.out.kp (.of k0))
 have ke := Lib.hid (Blw k1.out k0)
 clear k0
 go_wp2_with fail
 have hkp := (Kp.refl w22).t4 k8 p0 p1 (.bool false) (.slice none 0 0)
 refine bodyPost_ret (v := .agg #[p0, p1, .bool false, .slice none 0 0]) (by simp [results, Try.results75, go_sem, k9, ka, kb, kc]) rfl ⟨_, _, _, _, rfl, ⟨?_, ?_⟩, bel4 (ke.out) (by first | simp | omega)⟩
 ·rw [HNUM.out]; exact kd.out.kp hkp
 ·rw [HDQ.out]; exact IntV.zero _
theorem low_n (p0 p1 q1 : Value) (x y : Int) (w : World) (hx : IntV w p0 p1 x) (hy : IntV w (.bool true) q1 y) (hy0 : y < 0) (h1 : ¬ -y = 1) (hg : Int.gcd x y = 1) :
  Calls Try.prog 75 #[.agg #[p0, p1], .agg #[.bool true, q1]] w (RR (Rat.divInt x y) w) := by
 have hnd := divInt_neg_ hy0 hg
 have hdq : dq (Rat.divInt x y) = -y := by
  rw [dq_more (by have := hnd.2; omega)]; exact hnd.2
 obtain ⟨r, hr⟩ : ∃ r, r = Rat.divInt x y := ⟨_, rfl⟩
 rw [← hr] at hnd hdq ⊢
 have HNUM := Lib.hid hnd.1; have HDQ := Lib.hid hdq; have H1 := Lib.hid h1
 obtain ⟨o_p0, o_p1⟩ := hx.ones
 have o_q1 := hy.one1
 have HX := Lib.hid hx; have HY := Lib.hid hy
 clear hnd hdq hr h1 hg hx hy hy0
 go_enter Try.func75, Try.ntmps75
 go_wp2_with fail
 generalize hW : ((w.alloc _).alloc _).alloc _ = W1
 obtain ⟨ko, kq, kr, hB⟩ := box3 hW
 have kd := Lib.hid hB; clear hW hB
 have F6 := Lib.hid (HX.out.kp (.of kd.out))
 have F7 := Lib.hid (HY.out.kp (.of kd.out))
 obtain ⟨kQ, kR, kS, kT⟩ := ko.f2
 obtain ⟨kU, kV, kW, kX⟩ := kq.f2
 obtain ⟨kY, kZ, k00, k01, k02, l21⟩ := kr.f4
 go_upto_region 2 with fail
 go_cut [] (fun wx => ∃ u0 u1 v0 v1, Bx wx w.heap.size 24 [u0, u1] ∧ Bx wx (w.heap.size + 1) 24 [v0, v1] ∧ Bx wx (w.heap.size + 1 + 1) 26 [.bool false, .slice none 0 0, .bool false, .slice none 0 0] ∧ IntV wx u0 u1 (-x) ∧ IntV wx v0 v1 (-y) ∧ Below w.heap.size w wx)
 case first =>
  rename_i J_ K_ hJ_ hK_
  go_region_with (first | (go_at_call 76; have kt := ineg_any p0 p1 x W1.drew (F6.out.kp (Kp.refl _).drew); (with_reducible refine kt.mono ?_); clear kt; rintro e w22 ⟨u0, u1, rfl, ka, k0⟩; have k0 := bdDl k0; have k7 := ko.below k0; have k04 := k7.cell (i := 0) rfl; have k05 := k7.cell (i := 1) rfl; have k06 := k7.frozen; have l28 := k7.lt; have k8 := kq.below k0; have k08 := k8.cell (i := 0) rfl; have k09 := k8.cell (i := 1) rfl; have k0a := k8.frozen; have l33 := k8.lt; have k3 := kr.below k0; have k0c := k3.cell (i := 0) rfl; have k0d := k3.cell (i := 1) rfl; have k0e := k3.cell (i := 2) rfl; have k0f := k3.cell (i := 3) rfl; have k0g := k3.frozen; have l40 := k3.lt; have kB := Lib.hid (F6.out.kp (.of k0)); have ku := Lib.hid (F7.out.kp (.of k0)); have kC := Lib.hid (Blw kd.out k0); have kD := Lib.hid ka; have o_u0 := ka.one0; have o_u1 := ka.one1; clear ka k0) | (go_at_call 76; have kv := ineg_any (.bool true) q1 y w22 ku.out; (with_reducible refine kv.mono ?_); clear kv; rintro e w45 ⟨v0, v1, rfl, kb, k1⟩; have k4 := k7.below k1; have k0i := k4.cell (i := 0) rfl; have k0j := k4.cell (i := 1) rfl; have k0k := k4.frozen; have l51 := k4.lt; have k5 := k8.below k1; have k0m := k5.cell (i := 0) rfl; have k0n := k5.cell (i := 1) rfl; have k0o := k5.frozen; have l56 := k5.lt; have k2 := k3.below k1; have k0q := k2.cell (i := 0) rfl; have k0r := k2.cell (i := 1) rfl; have k0s := k2.cell (i := 2) rfl; have k0t := k2.cell (i := 3) rfl; have k0u := k2.frozen; have l63 := k2.lt; have F64 := Lib.hid (kB.out.kp (.of k1)); have F65 := Lib.hid (ku.out.kp (.of k1)); have kw := Lib.hid (kD.out.kp (.of k1)); have kx := Lib.hid (Blw kC.out k1); have ky := Lib.hid kb; have o_v0 := kb.one0; have o_v1 := kb.one1; clear kb k1))
  all_goals first | refine hK_ _ _ (Met.intro (hJ_ _ _ ?_)) | refine Met.intro (hJ_ _ _ ?_) | refine hJ_ _ _ ?_
  all_goals ((repeat apply Exists.intro); refine ⟨?_, rfl⟩)
  all_goals first
   | (
   have kc := k4.set_ 0 (u0)
   have ke := k5.far_ (g' := w.heap.size) (j := 0) (by omega) (u0)
   have kf := k2.far_ (g' := w.heap.size) (j := 0) (by omega) (u0)
   have kg := kc.set_ 1 (u1)
   have k9 := ke.far_ (g' := w.heap.size) (j := 1) (by omega) (u1)
   have kh := kf.far_ (g' := w.heap.size) (j := 1) (by omega) (u1)
   have ki := k9.set_ 0 (v0)
   have kj := kg.far_ (g' := w.heap.size + 1) (j := 0) (by omega) (v0)
   have kk := kh.far_ (g' := w.heap.size + 1) (j := 0) (by omega) (v0)
   have kl := ki.set_ 1 (v1)
   have km := kj.far_ (g' := w.heap.size + 1) (j := 1) (by omega) (v1)
   have kn := kk.far_ (g' := w.heap.size + 1) (j := 1) (by omega) (v1)
   have hkp := ((Kp.refl w45).t2 k4 u0 u1).t2 k9 v0 v1
   exact ⟨u0, u1, v0, v1, km, kl, kn, kw.out.kp hkp, ky.out.kp hkp, ((((kx.out).setCell (by simp) _).setCell (by simp) _).setCell (by simp <;> omega) _).setCell (by simp <;> omega) _⟩)
   | (
   have kc := k5.set_ 0 (v0)
   have ke := k4.far_ (g' := w.heap.size + 1) (j := 0) (by omega) (v0)
   have kf := k2.far_ (g' := w.heap.size + 1) (j := 0) (by omega) (v0)
   have kg := kc.set_ 1 (v1)
   have k9 := ke.far_ (g' := w.heap.size + 1) (j := 1) (by omega) (v1)
   have kh := kf.far_ (g' := w.heap.size + 1) (j := 1) (by omega) (v1)
   have ki := k9.set_ 0 (u0)
   have kj := kg.far_ (g' := w.heap.size) (j := 0) (by omega) (u0)
   have kk := kh.far_ (g' := w.heap.size) (j := 0) (by omega) (u0)
   have kl := ki.set_ 1 (u1)
   have km := kj.far_ (g' := w.heap.size) (j := 1) (by omega) (u1)
   have kn := kk.far_ (g' := w.heap.size) (j := 1) (by omega) (u1)
   have hkp := ((Kp.refl w45).t2 k5 v0 v1).t2 k9 u0 u1
   exact ⟨u0, u1, v0, v1, kl, km, kn, kw.out.kp hkp, ky.out.kp hkp, ((((kx.out).setCell (by simp <;> omega) _).setCell (by simp <;> omega) _).setCell (by simp) _).setCell (by simp) _⟩)
 case rest =>
  obtain ⟨u0, u1, v0, v1, hq0, hq1, hq2, hu, hv, hbw⟩ := hcut
  obtain ⟨ou0, ou1⟩ := hu.ones
  obtain ⟨ov0, ov1⟩ := hv.ones
  have HU := Lib.hid hu; have HV := Lib.hid hv; have HBW := Lib.hid hbw
  clear hu hv hbw
  obtain ⟨k0y, k0z, k0A, l25⟩ := hq0.f2
  obtain ⟨k0C, k0D, k0E, l29⟩ := hq1.f2
  obtain ⟨k0G, k0H, k0I, k0J, k0K, l35⟩ := hq2.f4
  go_wp2_with fail
  have kz := unit_no v0 v1 (-y) wc HV.out H1.out
  (with_reducible refine kz.mono ?_)
  clear kz
  rintro e w36 ⟨rfl, k6⟩
  obtain ⟨k0M, k0N, k0O, k0P, l42⟩ := hq0.b2 k6
  obtain ⟨kE, k0R, k0S, k0T, l47⟩ := hq1.b2 k6
  obtain ⟨kF, kG, kH, kI, kJ, k0V, l54⟩ := hq2.b4 k6
  have kK := Lib.hid (HU.out.kp (.of k6))
  have kL := Lib.hid (HV.out.kp (.of k6))
  have kM := Lib.hid (Blw HBW.out k6)
  clear k6
  go_wp2_with fail
  have kN := kE.far_ (g' := w.heap.size + 1 + 1) (j := 0) (by omega) (u0)
  have kO := kN.far_ (g' := w.heap.size + 1 + 1) (j := 1) (by omega) (u1)
  have kP := kO.far_ (g' := w.heap.size + 1 + 1) (j := 2) (by omega) (v0)
  have kc := kP.far_ (g' := w.heap.size + 1 + 1) (j := 3) (by omega) (v1)
  have hkp := (Kp.refl w36).t4 kF u0 u1 v0 v1
  refine bodyPost_ret (v := .agg #[u0, u1, v0, v1]) (by simp [results, Try.results75, go_sem, kG, kH, kI, kJ]) rfl ⟨_, _, _, _, rfl, ⟨?_, ?_⟩, bel4 (kM.out) (by first | simp | omega)⟩
  ·rw [HNUM.out]; exact kK.out.kp hkp
  ·rw [HDQ.out]; exact kL.out.kp hkp
theorem low_n1 (p0 p1 q1 : Value) (x y : Int) (w : World) (hx : IntV w p0 p1 x) (hy : IntV w (.bool true) q1 y) (hy0 : y < 0) (h1 : -y = 1) (hg : Int.gcd x y = 1) :
  Calls Try.prog 75 #[.agg #[p0, p1], .agg #[.bool true, q1]] w (RR (Rat.divInt x y) w) := by
 have hnd := divInt_neg_ hy0 hg
 have hdq : dq (Rat.divInt x y) = 0 := by
  exact dq_one (by have := hnd.2; omega)
 obtain ⟨r, hr⟩ : ∃ r, r = Rat.divInt x y := ⟨_, rfl⟩
 rw [← hr] at hnd hdq ⊢
 have HNUM := Lib.hid hnd.1; have HDQ := Lib.hid hdq; have H1 := Lib.hid h1
 obtain ⟨o_p0, o_p1⟩ := hx.ones
 have o_q1 := hy.one1
 have HX := Lib.hid hx; have HY := Lib.hid hy
 clear hnd hdq hr h1 hg hx hy hy0
 go_enter Try.func75, Try.ntmps75
 go_wp2_with fail
 generalize hW : ((w.alloc _).alloc _).alloc _ = W1
 obtain ⟨ko, kq, kr, hB⟩ := box3 hW
 have kd := Lib.hid hB; clear hW hB
 have F6 := Lib.hid (HX.out.kp (.of kd.out))
 have F7 := Lib.hid (HY.out.kp (.of kd.out))
 obtain ⟨kP, kQ, kR, kS⟩ := ko.f2
 obtain ⟨kT, kU, kV, kW⟩ := kq.f2
 obtain ⟨kX, kY, kZ, k00, k01, l21⟩ := kr.f4
 go_upto_region 2 with fail
 go_cut [] (fun wx => ∃ u0 u1 v0 v1, Bx wx w.heap.size 24 [u0, u1] ∧ Bx wx (w.heap.size + 1) 24 [v0, v1] ∧ Bx wx (w.heap.size + 1 + 1) 26 [.bool false, .slice none 0 0, .bool false, .slice none 0 0] ∧ IntV wx u0 u1 (-x) ∧ IntV wx v0 v1 (-y) ∧ Below w.heap.size w wx)
 case first =>
  rename_i J_ K_ hJ_ hK_
  go_region_with (first | (go_at_call 76; have kt := ineg_any p0 p1 x W1.drew (F6.out.kp (Kp.refl _).drew); (with_reducible refine kt.mono ?_); clear kt; rintro e w22 ⟨u0, u1, rfl, ka, k0⟩; have k0 := bdDl k0; have k7 := ko.below k0; have k03 := k7.cell (i := 0) rfl; have k04 := k7.cell (i := 1) rfl; have k05 := k7.frozen; have l28 := k7.lt; have k8 := kq.below k0; have k07 := k8.cell (i := 0) rfl; have k08 := k8.cell (i := 1) rfl; have k09 := k8.frozen; have l33 := k8.lt; have k3 := kr.below k0; have k0b := k3.cell (i := 0) rfl; have k0c := k3.cell (i := 1) rfl; have k0d := k3.cell (i := 2) rfl; have k0e := k3.cell (i := 3) rfl; have k0f := k3.frozen; have l40 := k3.lt; have kB := Lib.hid (F6.out.kp (.of k0)); have ku := Lib.hid (F7.out.kp (.of k0)); have kC := Lib.hid (Blw kd.out k0); have kD := Lib.hid ka; have o_u0 := ka.one0; have o_u1 := ka.one1; clear ka k0) | (go_at_call 76; have kv := ineg_any (.bool true) q1 y w22 ku.out; (with_reducible refine kv.mono ?_); clear kv; rintro e w45 ⟨v0, v1, rfl, kb, k1⟩; have k4 := k7.below k1; have k0h := k4.cell (i := 0) rfl; have k0i := k4.cell (i := 1) rfl; have k0j := k4.frozen; have l51 := k4.lt; have k5 := k8.below k1; have k0l := k5.cell (i := 0) rfl; have k0m := k5.cell (i := 1) rfl; have k0n := k5.frozen; have l56 := k5.lt; have k2 := k3.below k1; have k0p := k2.cell (i := 0) rfl; have k0q := k2.cell (i := 1) rfl; have k0r := k2.cell (i := 2) rfl; have k0s := k2.cell (i := 3) rfl; have k0t := k2.frozen; have l63 := k2.lt; have F64 := Lib.hid (kB.out.kp (.of k1)); have F65 := Lib.hid (ku.out.kp (.of k1)); have kw := Lib.hid (kD.out.kp (.of k1)); have kx := Lib.hid (Blw kC.out k1); have ky := Lib.hid kb; have o_v0 := kb.one0; have o_v1 := kb.one1; clear kb k1))
  all_goals first | refine hK_ _ _ (Met.intro (hJ_ _ _ ?_)) | refine Met.intro (hJ_ _ _ ?_) | refine hJ_ _ _ ?_
  all_goals ((repeat apply Exists.intro); refine ⟨?_, rfl⟩)
  all_goals first
   | (
   have kc := k4.set_ 0 (u0)
   have ke := k5.far_ (g' := w.heap.size) (j := 0) (by omega) (u0)
   have kf := k2.far_ (g' := w.heap.size) (j := 0) (by omega) (u0)
   have kg := kc.set_ 1 (u1)
   have k9 := ke.far_ (g' := w.heap.size) (j := 1) (by omega) (u1)
   have kh := kf.far_ (g' := w.heap.size) (j := 1) (by omega) (u1)
   have ki := k9.set_ 0 (v0)
   have kj := kg.far_ (g' := w.heap.size + 1) (j := 0) (by omega) (v0)
   have kk := kh.far_ (g' := w.heap.size + 1) (j := 0) (by omega) (v0)
   have kl := ki.set_ 1 (v1)
   have km := kj.far_ (g' := w.heap.size + 1) (j := 1) (by omega) (v1)
   have kn := kk.far_ (g' := w.heap.size + 1) (j := 1) (by omega) (v1)
   have hkp := ((Kp.refl w45).t2 k4 u0 u1).t2 k9 v0 v1
   exact ⟨u0, u1, v0, v1, km, kl, kn, kw.out.kp hkp, ky.out.kp hkp, ((((kx.out).setCell (by simp) _).setCell (by simp) _).setCell (by simp <;> omega) _).setCell (by simp <;> omega) _⟩)
   | (
   have kc := k5.set_ 0 (v0)
   have ke := k4.far_ (g' := w.heap.size + 1) (j := 0) (by omega) (v0)
   have kf := k2.far_ (g' := w.heap.size + 1) (j := 0) (by omega) (v0)
   have kg := kc.set_ 1 (v1)
   have k9 := ke.far_ (g' := w.heap.size + 1) (j := 1) (by omega) (v1)
   have kh := kf.far_ (g' := w.heap.size + 1) (j := 1) (by omega) (v1)
   have ki := k9.set_ 0 (u0)
   have kj := kg.far_ (g' := w.heap.size) (j := 0) (by omega) (u0)
   have kk := kh.far_ (g' := w.heap.size) (j := 0) (by omega) (u0)
   have kl := ki.set_ 1 (u1)
   have km := kj.far_ (g' := w.heap.size) (j := 1) (by omega) (u1)
   have kn := kk.far_ (g' := w.heap.size) (j := 1) (by omega) (u1)
   have hkp := ((Kp.refl w45).t2 k5 v0 v1).t2 k9 u0 u1
   exact ⟨u0, u1, v0, v1, kl, km, kn, kw.out.kp hkp, ky.out.kp hkp, ((((kx.out).setCell (by simp <;> omega) _).setCell (by simp <;> omega) _).setCell (by simp) _).setCell (by simp) _⟩)
 case rest =>
  obtain ⟨u0, u1, v0, v1, hq0, hq1, hq2, hu, hv, hbw⟩ := hcut
  obtain ⟨ou0, ou1⟩ := hu.ones
  obtain ⟨ov0, ov1⟩ := hv.ones
  have HU := Lib.hid hu; have HV := Lib.hid hv; have HBW := Lib.hid hbw
  clear hu hv hbw
  obtain ⟨k0x, k0y, k0z, l25⟩ := hq0.f2
  obtain ⟨k0B, k0C, k0D, l29⟩ := hq1.f2
  obtain ⟨k0F, k0G, k0H, k0I, k0J, l35⟩ := hq2.f4
  go_wp2_with fail
  have kz := unit_yes v0 v1 (-y) wc HV.out H1.out
  (with_reducible refine kz.mono ?_)
  clear kz
  rintro e w36 ⟨rfl, k6⟩
  obtain ⟨k0L, k0M, k0N, k0O, l42⟩ := hq0.b2 k6
  obtain ⟨kE, k0Q, k0R, k0S, l47⟩ := hq1.b2 k6
  obtain ⟨kF, kG, kH, kI, kJ, k0U, l54⟩ := hq2.b4 k6
  have kK := Lib.hid (HU.out.kp (.of k6))
  have kL := Lib.hid (Blw HBW.out k6)
  clear k6
  go_wp2_with fail
  have kM := kE.far_ (g' := w.heap.size + 1 + 1) (j := 0) (by omega) (u0)
  have kN := kM.far_ (g' := w.heap.size + 1 + 1) (j := 1) (by omega) (u1)
  have kO := kN.far_ (g' := w.heap.size + 1 + 1) (j := 2) (by omega) (.bool false)
  have kc := kO.far_ (g' := w.heap.size + 1 + 1) (j := 3) (by omega) (.slice none 0 0)
  have hkp := (Kp.refl w36).t4 kF u0 u1 (.bool false) (.slice none 0 0)
  refine bodyPost_ret (v := .agg #[u0, u1, .bool false, .slice none 0 0]) (by simp [results, Try.results75, go_sem, kG, kH, kI, kJ]) rfl ⟨_, _, _, _, rfl, ⟨?_, ?_⟩, bel4 (kL.out) (by first | simp | omega)⟩
  ·rw [HNUM.out]; exact kK.out.kp hkp
  ·rw [HDQ.out]; exact IntV.zero _
theorem lowest_any (p0 p1 q0 q1 : Value) (x y : Int) (w : World) (hx : IntV w p0 p1 x) (hy : IntV w q0 q1 y) (hy0 : y ≠ 0) (hg : Int.gcd x y = 1) :
  Calls Try.prog 75 #[.agg #[p0, p1], .agg #[q0, q1]] w (RR (Rat.divInt x y) w) := by
 have hy' := hy
 obtain ⟨g, A, n, c, rfl, rfl⟩ := hy'.form
 have hg2 := hy.len.1
 by_cases h : y < 0
 ·rw [decide_eq_true h] at hg2
  subst hg2
  by_cases h1 : -y = 1
  ·exact low_n1 _ _ _ x y w hx hy h h1 hg
  ·exact low_n _ _ _ x y w hx hy h h1 hg
 ·rw [decide_eq_false h] at hg2
  subst hg2
  by_cases h1 : y = 1
  ·exact low_p1 _ _ _ x y w hx hy (by omega) h1 hg
  ·exact low_p _ _ _ x y w hx hy (by omega) h1 hg
theorem make_y0 (k : Nat) (gx gy : Bool) (Ax Ay : Option Addr) (nx cx ny cy : Nat) (x y : Int) (w : World) (hx : IntV w (.bool gx) (.slice Ax nx cx) x) (hy : IntV w (.bool gy) (.slice Ay 0 cy) y) (bx : I.Bd k x) (by_ : I.Bd k y) (hk : k ≤ 1000000000000) :
  Calls Try.prog 68 #[.agg #[.bool gx, .slice Ax nx cx], .agg #[.bool gy, .slice Ay 0 cy]] w (RR 0 w) := by
 have HX := Lib.hid hx; have HY := Lib.hid hy; have HBX := Lib.hid bx; have HBY := Lib.hid by_
 clear hx hy bx by_
 go_enter Try.func68, Try.ntmps68
 go_wp2_with fail
 refine bodyPost_ret (v := .agg #[.bool false, .slice none 0 0, .bool false, .slice none 0 0]) (by simp [results, Try.results68, go_sem]) rfl ⟨_, _, _, _, rfl, ⟨IntV.zero _, by rw [dq_one (by rfl)]; exact IntV.zero _⟩, ?_⟩
 first
  | exact ((((Below.refl _ _).alloc (Nat.le_refl _) _).alloc (by simp) _).alloc (by simp <;> omega) _)
  | exact ((((((Below.refl _ _).alloc (Nat.le_refl _) _).alloc (by simp) _).alloc (by simp <;> omega) _).setCell (by simp <;> omega) _).setCell (by simp <;> omega) _).setCell (by simp <;> omega) _ |>.setCell (by simp <;> omega) _
theorem make_x0 (k : Nat) (gx gy : Bool) (Ax Ay : Option Addr) (nx cx ny cy : Nat) (x y : Int) (w : World) (hx : IntV w (.bool gx) (.slice Ax 0 cx) x) (hy : IntV w (.bool gy) (.slice Ay ny cy) y) (bx : I.Bd k x) (by_ : I.Bd k y) (hk : k ≤ 1000000000000) (hny : 0 < (ny : Int)) (hny2 : 0 < ny) :
  Calls Try.prog 68 #[.agg #[.bool gx, .slice Ax 0 cx], .agg #[.bool gy, .slice Ay ny cy]] w (RR 0 w) := by
 have HX := Lib.hid hx; have HY := Lib.hid hy; have HBX := Lib.hid bx; have HBY := Lib.hid by_
 clear hx hy bx by_
 go_enter Try.func68, Try.ntmps68
 go_wp2_with fail
 refine bodyPost_ret (v := .agg #[.bool false, .slice none 0 0, .bool false, .slice none 0 0]) (by simp [results, Try.results68, go_sem]) rfl ⟨_, _, _, _, rfl, ⟨IntV.zero _, by rw [dq_one (by rfl)]; exact IntV.zero _⟩, ?_⟩
 first
  | exact ((((Below.refl _ _).alloc (Nat.le_refl _) _).alloc (by simp) _).alloc (by simp <;> omega) _)
  | exact ((((((Below.refl _ _).alloc (Nat.le_refl _) _).alloc (by simp) _).alloc (by simp <;> omega) _).setCell (by simp <;> omega) _).setCell (by simp <;> omega) _).setCell (by simp <;> omega) _ |>.setCell (by simp <;> omega) _
theorem make_unit (k : Nat) (gx gy : Bool) (Ax Ay : Option Addr) (nx cx ny cy : Nat) (x y : Int) (w : World) (hx : IntV w (.bool gx) (.slice Ax nx cx) x) (hy : IntV w (.bool gy) (.slice Ay ny cy) y) (bx : I.Bd k x) (by_ : I.Bd k y) (hk : k ≤ 1000000000000) (hnx : 0 < (nx : Int)) (hnx2 : 0 < nx) (hny : 0 < (ny : Int)) (hny2 : 0 < ny) (hy0 : y ≠ 0) (h1 : (Int.gcd x y : Int) = 1) :
  Calls Try.prog 68 #[.agg #[.bool gx, .slice Ax nx cx], .agg #[.bool gy, .slice Ay ny cy]] w (RR (Rat.divInt x y) w) := by
 have HX := Lib.hid hx; have HY := Lib.hid hy; have HBX := Lib.hid bx; have HBY := Lib.hid by_
 clear hx hy bx by_
 have hbx : ((nx : Int) == 0) = false := beq_eq_false_iff_ne.2 (by omega)
 have hby : ((ny : Int) == 0) = false := beq_eq_false_iff_ne.2 (by omega)
 obtain ⟨r, hr⟩ : ∃ r, r = Rat.divInt x y := ⟨_, rfl⟩
 rw [← hr]
 obtain ⟨D, hD⟩ : ∃ D : Int, D = (Int.gcd x y : Int) := ⟨_, rfl⟩
 rw [← hD] at h1
 have HR := Lib.hid hr; have HD := Lib.hid hD; have H1 := Lib.hid h1; have HY0 := Lib.hid hy0
 have HBD := Lib.hid (show I.Bd k D from HBY.out.of_le (by rw [hD, Int.natAbs_natCast]; exact Nat.gcd_le_right _ (by omega)))
 clear hr hD h1 hy0
 go_enter Try.func68, Try.ntmps68
 go_wp2_with fail
 generalize hW : ((w.alloc _).alloc _).alloc _ = W1
 obtain ⟨k8, k9, ka, hB⟩ := box3 hW
 have k3 := Lib.hid hB; clear hW hB
 have F6 := Lib.hid (HX.out.kp (.of k3.out))
 have F7 := Lib.hid (HY.out.kp (.of k3.out))
 obtain ⟨kI, kJ, kK, kL⟩ := k8.f2
 obtain ⟨kM, kN, kO, kP⟩ := k9.f2
 obtain ⟨kQ, kR, kS, kT, kU, kV⟩ := ka.f4
 have k4 := igcd_any k _ _ _ _ x y W1 F6.out F7.out HBX.out HBY.out hk
 rw [← HD.out] at k4
 (with_reducible refine k4.mono ?_)
 clear k4
 rintro e w22 ⟨d0, d1, rfl, k5, k1⟩
 obtain ⟨kd, kW, kX, kY, kZ⟩ := k8.b2 k1
 obtain ⟨ke, k00, k01, k02, l33⟩ := k9.b2 k1
 obtain ⟨kf, k04, k05, k06, k07, k08, l40⟩ := ka.b4 k1
 have ki := Lib.hid (F6.out.kp (.of k1))
 have kj := Lib.hid (F7.out.kp (.of k1))
 have kk := Lib.hid (Blw k3.out k1)
 have kl := Lib.hid k5
 obtain ⟨o_d0, o_d1⟩ := k5.ones
 clear k5 k1
 go_wp2_with fail
 generalize hW : w22.alloc _ = W45
 obtain ⟨kg, hB⟩ := box1 hW
 have k0a := kd.lt
 have k0b := ke.lt
 have k0c := kf.lt
 clear hW
 obtain ⟨km, k0d, k0e, k0f, l54⟩ := kd.b2 hB
 obtain ⟨kn, k0h, k0i, k0j, l59⟩ := ke.b2 hB
 obtain ⟨ko, k0l, k0m, k0n, k0o, k0p, l66⟩ := kf.b4 hB
 have kq := Lib.hid (ki.out.kp (.of hB))
 have kr := Lib.hid (kj.out.kp (.of hB))
 have ks := Lib.hid (kl.out.kp (.of hB))
 have kt := Lib.hid (Blw kk.out hB)
 clear hB
 obtain ⟨k0r, k0s, k0t, l74⟩ := kg.f2
 have kh := unit_yes d0 d1 D W45 ks.out H1.out
 (with_reducible refine kh.mono ?_)
 clear kh
 rintro e w75 ⟨rfl, k0⟩
 obtain ⟨ku, k0v, k0w, k0x, l81⟩ := km.b2 k0
 obtain ⟨kv, k0z, k0A, k0B, l86⟩ := kn.b2 k0
 obtain ⟨kw, k0D, k0E, k0F, k0G, k0H, l93⟩ := ko.b4 k0
 obtain ⟨kx, k0J, k0K, k0L, l98⟩ := kg.b2 k0
 have ky := Lib.hid (kq.out.kp (.of k0))
 have kz := Lib.hid (kr.out.kp (.of k0))
 have kA := Lib.hid (Blw kt.out k0)
 clear k0
 go_wp2_with fail
 have k6 := lowest_any _ _ _ _ x y w75 ky.out kz.out HY0.out (by have := HD.out; have := H1.out; omega)
 rw [← HR.out] at k6
 (with_reducible refine k6.mono ?_)
 clear k6
 rintro e w103 ⟨u0, u1, u2, u3, rfl, k7, k2⟩
 obtain ⟨k0N, k0O, k0P, k0Q, k0R⟩ := ku.b2 k2
 obtain ⟨k0S, k0T, k0U, k0V, k0W⟩ := kv.b2 k2
 obtain ⟨kB, kC, kD, kE, kF, k0X, k0Y⟩ := kw.b4 k2
 obtain ⟨k0Z, k10, k11, k12, k13⟩ := kx.b2 k2
 have kG := Lib.hid (Blw kA.out k2)
 have kH := Lib.hid k7
 obtain ⟨o_u0, o_u1, o_u2, o_u3⟩ := k7.ones
 clear k7 k2
 go_wp2_with fail
 have hkp := (Kp.refl w103).t4 kB u0 u1 u2 u3
 refine bodyPost_ret (v := .agg #[u0, u1, u2, u3]) (by simp [results, Try.results68, go_sem, kC, kD, kE, kF]) rfl ⟨_, _, _, _, rfl, ?_, bel4 (kG.out) (by first | simp | omega)⟩
 exact kH.out.kp hkp
theorem make_more (k : Nat) (gx gy : Bool) (Ax Ay : Option Addr) (nx cx ny cy : Nat) (x y : Int) (w : World) (hx : IntV w (.bool gx) (.slice Ax nx cx) x) (hy : IntV w (.bool gy) (.slice Ay ny cy) y) (bx : I.Bd k x) (by_ : I.Bd k y) (hk : k ≤ 1000000000000) (hnx : 0 < (nx : Int)) (hnx2 : 0 < nx) (hny : 0 < (ny : Int)) (hny2 : 0 < ny) (hy0 : y ≠ 0) (h1 : ¬ (Int.gcd x y : Int) = 1) :
  Calls Try.prog 68 #[.agg #[.bool gx, .slice Ax nx cx], .agg #[.bool gy, .slice Ay ny cy]] w (RR (Rat.divInt x y) w) := by
 have HX := Lib.hid hx; have HY := Lib.hid hy; have HBX := Lib.hid bx; have HBY := Lib.hid by_
 clear hx hy bx by_
 have hbx : ((nx : Int) == 0) = false := beq_eq_false_iff_ne.2 (by omega)
 have hby : ((ny : Int) == 0) = false := beq_eq_false_iff_ne.2 (by omega)
 obtain ⟨r, hr⟩ : ∃ r, r = Rat.divInt x y := ⟨_, rfl⟩
 rw [← hr]
 obtain ⟨D, hD⟩ : ∃ D : Int, D = (Int.gcd x y : Int) := ⟨_, rfl⟩
 rw [← hD] at h1
 have HR := Lib.hid hr; have HD := Lib.hid hD; have H1 := Lib.hid h1; have HY0 := Lib.hid hy0
 have HBD := Lib.hid (show I.Bd k D from HBY.out.of_le (by rw [hD, Int.natAbs_natCast]; exact Nat.gcd_le_right _ (by omega)))
 clear hr hD h1 hy0
 go_enter Try.func68, Try.ntmps68
 go_wp2_with fail
 generalize hW : ((w.alloc _).alloc _).alloc _ = W1
 obtain ⟨ke, kf, kg, hB⟩ := box3 hW
 have k5 := Lib.hid hB; clear hW hB
 have F6 := Lib.hid (HX.out.kp (.of k5.out))
 have F7 := Lib.hid (HY.out.kp (.of k5.out))
 obtain ⟨k0B, k0C, k0D, l11⟩ := ke.f2
 obtain ⟨k0F, k0G, k0H, l15⟩ := kf.f2
 obtain ⟨k0J, k0K, k0L, k0M, k0N, l21⟩ := kg.f4
 have k6 := igcd_any k _ _ _ _ x y W1 F6.out F7.out HBX.out HBY.out hk
 rw [← HD.out] at k6
 (with_reducible refine k6.mono ?_)
 clear k6
 rintro e w22 ⟨d0, d1, rfl, k7, k2⟩
 obtain ⟨kj, k0P, k0Q, k0R, l28⟩ := ke.b2 k2
 obtain ⟨kk, k0T, k0U, k0V, l33⟩ := kf.b2 k2
 obtain ⟨kl, k0X, k0Y, k0Z, k10, k11, l40⟩ := kg.b4 k2
 have kT := Lib.hid (F6.out.kp (.of k2))
 have kU := Lib.hid (F7.out.kp (.of k2))
 have kV := Lib.hid (Blw k5.out k2)
 have kW := Lib.hid k7
 obtain ⟨o_d0, o_d1⟩ := k7.ones
 clear k7 k2
 go_wp2_with fail
 generalize hW : w22.alloc _ = W45
 obtain ⟨km, hB⟩ := box1 hW
 have k13 := kj.lt
 have k14 := kk.lt
 have k15 := kl.lt
 clear hW
 obtain ⟨kX, k16, k17, k18, l54⟩ := kj.b2 hB
 obtain ⟨kY, k1a, k1b, k1c, l59⟩ := kk.b2 hB
 obtain ⟨kZ, k1e, k1f, k1g, k1h, k1i, l66⟩ := kl.b4 hB
 have F67 := Lib.hid (kT.out.kp (.of hB))
 have F68 := Lib.hid (kU.out.kp (.of hB))
 have kn := Lib.hid (kW.out.kp (.of hB))
 have k02 := Lib.hid (Blw kV.out hB)
 clear hB
 obtain ⟨k1k, k1l, k1m, l74⟩ := km.f2
 have ko := unit_no d0 d1 D W45 kn.out H1.out
 (with_reducible refine ko.mono ?_)
 clear ko
 rintro e w75 ⟨rfl, k0⟩
 obtain ⟨k03, k1o, k1p, k1q, l81⟩ := kX.b2 k0
 obtain ⟨k04, k1s, k1t, k1u, l86⟩ := kY.b2 k0
 obtain ⟨k05, k1w, k1x, k1y, k1z, k1A, l93⟩ := kZ.b4 k0
 obtain ⟨k06, k1C, k1D, k1E, l98⟩ := km.b2 k0
 have F99 := Lib.hid (F67.out.kp (.of k0))
 have k08 := Lib.hid (F68.out.kp (.of k0))
 have kq := Lib.hid (kn.out.kp (.of k0))
 have k09 := Lib.hid (Blw k02.out k0)
 clear k0
 go_wp2_with fail
 have kr := idiv_any k _ _ d0 d1 x D w75 F99.out kq.out HBX.out HBD.out hk (by rw [HD.out]; exact gcd_ne HY0.out)
 (with_reducible refine kr.mono ?_)
 clear kr
 rintro e w103 ⟨a0, a1, b0, b1, rfl, k8, ks, k1⟩
 obtain ⟨kt, k1G, k1H, k1I, k1J⟩ := k03.b2 k1
 obtain ⟨k0a, k1K, k1L, k1M, k1N⟩ := k04.b2 k1
 obtain ⟨k0b, k1O, k1P, k1Q, k1R, k1S, k1T⟩ := k05.b4 k1
 obtain ⟨k0c, k1U, k1V, k1W, k1X⟩ := k06.b2 k1
 have k0d := Lib.hid (k08.out.kp (.of k1))
 have k0e := Lib.hid (kq.out.kp (.of k1))
 have k0f := Lib.hid (Blw k09.out k1)
 have k0g := Lib.hid k8
 obtain ⟨o_a0, o_a1⟩ := k8.ones
 obtain ⟨o_b0, o_b1⟩ := ks.ones
 clear k8 ks k1
 go_wp2_with fail
 have k9 := kt.set_ 0 (a0)
 have ku := k0a.far_ (g' := w.heap.size) (j := 0) (by omega) (a0)
 have kv := k0b.far_ (g' := w.heap.size) (j := 0) (by omega) (a0)
 have kw := k0c.far_ (g' := w.heap.size) (j := 0) (by omega) (a0)
 have kx := k9.set_ 1 (a1)
 have ky := ku.far_ (g' := w.heap.size) (j := 1) (by omega) (a1)
 have kz := kv.far_ (g' := w.heap.size) (j := 1) (by omega) (a1)
 have kA := kw.far_ (g' := w.heap.size) (j := 1) (by omega) (a1)
 have hkp : Kp w103 ((w103.setCell ⟨w.heap.size, 0, none⟩ (a0)).setCell ⟨w.heap.size, 1, none⟩ (a1)) := ((Kp.refl _).set_ kt (by decide) _).set_ k9 (by decide) _
 obtain ⟨W141, hW⟩ : ∃ W, W = (w103.setCell ⟨w.heap.size, 0, none⟩ (a0)).setCell ⟨w.heap.size, 1, none⟩ (a1) := ⟨_, rfl⟩
 rw [← hW]
 rw [← hW] at hkp
 have hB : Below w.heap.size w W141 := by rw [hW]; exact bel2 (k0f.out) (by first | simp | omega)
 have k0h := Lib.hid hB; clear hB
 have k0i := Lib.hid (k0d.out.kp hkp)
 have k0j := Lib.hid (k0e.out.kp hkp)
 have k0k := Lib.hid (k0g.out.kp hkp)
 have kB : Bx W141 (w.heap.size) 24 [a0, a1] := by rw [hW]; exact kx
 have kC : Bx W141 (w.heap.size + 1) 24 [.bool gy, .slice Ay ny cy] := by rw [hW]; exact ky
 have kD : Bx W141 (w.heap.size + 1 + 1) 26 [.bool false, .slice none 0 0, .bool false, .slice none 0 0] := by rw [hW]; exact kz
 have kE : Bx W141 (w22.heap.size) 24 [d0, d1] := by rw [hW]; exact kA
 clear hW hkp k9 ku kv kw kx ky kz kA
 obtain ⟨k1Y, k1Z, k20, k21⟩ := kB.f2
 obtain ⟨k22, k23, k24, k25⟩ := kC.f2
 obtain ⟨k26, k27, k28, k29, k2a, k2b⟩ := kD.f4
 obtain ⟨k2c, k2d, k2e, k2f⟩ := kE.f2
 have kF := idiv_any k _ _ d0 d1 y D W141 k0i.out k0j.out HBY.out HBD.out hk (by rw [HD.out]; exact gcd_ne HY0.out)
 (with_reducible refine kF.mono ?_)
 clear kF
 rintro e w170 ⟨e0, e1, f0, f1, rfl, ka, kG, k3⟩
 obtain ⟨k0l, k2g, k2h, k2i, k2j⟩ := kB.b2 k3
 obtain ⟨kH, k2k, k2l, k2m, k2n⟩ := kC.b2 k3
 obtain ⟨k0m, k2o, k2p, k2q, k2r, k2s, k2t⟩ := kD.b4 k3
 obtain ⟨k0n, k2u, k2v, k2w, k2x⟩ := kE.b2 k3
 have k0o := Lib.hid (k0k.out.kp (.of k3))
 have k0p := Lib.hid (Blw k0h.out k3)
 have k0q := Lib.hid ka
 obtain ⟨o_e0, o_e1⟩ := ka.ones
 obtain ⟨o_f0, o_f1⟩ := kG.ones
 clear ka kG k3
 go_wp2_with fail
 have kb := kH.set_ 0 (e0)
 have kI := k0l.far_ (g' := w.heap.size + 1) (j := 0) (by omega) (e0)
 have kJ := k0m.far_ (g' := w.heap.size + 1) (j := 0) (by omega) (e0)
 have kK := k0n.far_ (g' := w.heap.size + 1) (j := 0) (by omega) (e0)
 have kL := kb.set_ 1 (e1)
 have kM := kI.far_ (g' := w.heap.size + 1) (j := 1) (by omega) (e1)
 have kN := kJ.far_ (g' := w.heap.size + 1) (j := 1) (by omega) (e1)
 have kO := kK.far_ (g' := w.heap.size + 1) (j := 1) (by omega) (e1)
 have hkp : Kp w170 ((w170.setCell ⟨w.heap.size + 1, 0, none⟩ (e0)).setCell ⟨w.heap.size + 1, 1, none⟩ (e1)) := ((Kp.refl _).set_ kH (by decide) _).set_ kb (by decide) _
 obtain ⟨W210, hW⟩ : ∃ W, W = (w170.setCell ⟨w.heap.size + 1, 0, none⟩ (e0)).setCell ⟨w.heap.size + 1, 1, none⟩ (e1) := ⟨_, rfl⟩
 rw [← hW]
 rw [← hW] at hkp
 have hB : Below w.heap.size w W210 := by rw [hW]; exact bel2 (k0p.out) (by first | simp | omega)
 have k0r := Lib.hid hB; clear hB
 have k0s := Lib.hid (k0o.out.kp hkp)
 have k0t := Lib.hid (k0q.out.kp hkp)
 have kP : Bx W210 (w.heap.size) 24 [a0, a1] := by rw [hW]; exact kM
 have kQ : Bx W210 (w.heap.size + 1) 24 [e0, e1] := by rw [hW]; exact kL
 have kR : Bx W210 (w.heap.size + 1 + 1) 26 [.bool false, .slice none 0 0, .bool false, .slice none 0 0] := by rw [hW]; exact kN
 have kS : Bx W210 (w22.heap.size) 24 [d0, d1] := by rw [hW]; exact kO
 clear hW hkp kb kI kJ kK kL kM kN kO
 obtain ⟨k2y, k2z, k2A, k2B⟩ := kP.f2
 obtain ⟨k2C, k2D, k2E, k2F⟩ := kQ.f2
 obtain ⟨k2G, k2H, k2I, k2J, k2K, k2L⟩ := kR.f4
 obtain ⟨k2M, k2N, k2O, k2P⟩ := kS.f2
 have kc := lowest_any a0 a1 e0 e1 (x / D) (y / D) W210 k0s.out k0t.out (by rw [HD.out]; exact low_ne HY0.out) (by rw [HD.out]; exact gcd_low HY0.out)
 rw [show Rat.divInt (x / D) (y / D) = r by rw [HD.out, divInt_low HY0.out, HR.out]] at kc
 (with_reducible refine kc.mono ?_)
 clear kc
 rintro e w241 ⟨u0, u1, u2, u3, rfl, kd, k4⟩
 obtain ⟨k2Q, k2R, k2S, k2T, k2U⟩ := kP.b2 k4
 obtain ⟨k2V, k2W, k2X, k2Y, k2Z⟩ := kQ.b2 k4
 obtain ⟨k0u, k0v, k0w, k0x, k0y, k30, k31⟩ := kR.b4 k4
 obtain ⟨k32, k33, k34, k35, k36⟩ := kS.b2 k4
 have k0z := Lib.hid (Blw k0r.out k4)
 have k0A := Lib.hid kd
 obtain ⟨o_u0, o_u1, o_u2, o_u3⟩ := kd.ones
 clear kd k4
 go_wp2_with fail
 have hkp := (Kp.refl w241).t4 k0u u0 u1 u2 u3
 refine bodyPost_ret (v := .agg #[u0, u1, u2, u3]) (by simp [results, Try.results68, go_sem, k0v, k0w, k0x, k0y]) rfl ⟨_, _, _, _, rfl, ?_, bel4 (k0z.out) (by first | simp | omega)⟩
 exact k0A.out.kp hkp
theorem make_any (k : Nat) (p0 p1 q0 q1 : Value) (x y : Int) (w : World) (hx : IntV w p0 p1 x) (hy : IntV w q0 q1 y) (bx : I.Bd k x) (by_ : I.Bd k y) (hk : k ≤ 1000000000000) :
  Calls Try.prog 68 #[.agg #[p0, p1], .agg #[q0, q1]] w (RR (Rat.divInt x y) w) := by
 obtain ⟨gx, Ax, nx, cx, rfl, rfl⟩ := hx.form
 obtain ⟨gy, Ay, ny, cy, rfl, rfl⟩ := hy.form
 have h1 := hx.len.2
 have h2 := hy.len.2
 by_cases hy0 : ny = 0
 ·subst hy0
  rw [h2.1 rfl, Rat.divInt_zero]
  exact make_y0 k gx gy Ax Ay nx cx 0 cy x y w hx hy bx by_ hk
 ·by_cases hx0 : nx = 0
  ·subst hx0
   rw [h1.1 rfl, Rat.zero_divInt]
   exact make_x0 k gx gy Ax Ay 0 cx ny cy x y w hx hy bx by_ hk (by omega) (by omega)
  ·by_cases h3 : (Int.gcd x y : Int) = 1
   ·exact make_unit k gx gy Ax Ay nx cx ny cy x y w hx hy bx by_ hk (by omega) (by omega) (by omega) (by omega) (fun h => hy0 (h2.2 h)) h3
   ·exact make_more k gx gy Ax Ay nx cx ny cy x y w hx hy bx by_ hk (by omega) (by omega) (by omega) (by omega) (fun h => hy0 (h2.2 h)) h3
end Go.Proofs.Ytonkbckgbfcnkaa
