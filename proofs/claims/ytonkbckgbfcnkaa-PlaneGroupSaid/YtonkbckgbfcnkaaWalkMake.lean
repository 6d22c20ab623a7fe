/-
 THE WALKS of package rat: lowest, Make.
-/
import Derived.Test.YtonkbckgbfcnkaaWalkRat
import Derived.Test.YtonkbckgbfcnkaaWalkDiv
import Derived.Test.YtonkbckgbfcnkaaWalkGcd
namespace Go.Proofs.Ytonkbckgbfcnkaa
set_option maxHeartbeats 4000000
open Go.RowKit
attribute [local go_sem] run_store_one
set_option linter.unusedVariables false
theorem divInt_pos {p q : Int} (h : 0 < q) (hg : Int.gcd p q = 1) : (Rat.divInt p q).num = p ∧ ((Rat.divInt p q).den : Int) = q := by
 obtain ⟨d, rfl⟩ := Int.eq_ofNat_of_zero_le (Int.le_of_lt h)
 have := Rat.mk_eq_divInt (num := p) (den := d) (nz := by omega) (c := by simpa [Int.gcd] using hg)
 rw [← this]
 exact ⟨rfl, rfl⟩
theorem divInt_neg_ {p q : Int} (h : q < 0) (hg : Int.gcd p q = 1) : (Rat.divInt p q).num = -p ∧ ((Rat.divInt p q).den : Int) = -q := by
 have h2 := divInt_pos (p := -p) (q := -q) (by omega) (by rw [Int.gcd_neg, Int.neg_gcd]; exact hg)
 rw [← Rat.neg_divInt_neg]
 exact h2
theorem gcd_ne {x y : Int} (hy : y ≠ 0) : (Int.gcd x y : Int) ≠ 0 := by
 have := Int.gcd_pos_of_ne_zero_right x hy
 omega
theorem divInt_low {x y : Int} (hy : y ≠ 0) : Rat.divInt (x / (Int.gcd x y : Int)) (y / (Int.gcd x y : Int)) = Rat.divInt x y := by
 have h1 := Int.ediv_mul_cancel (Int.gcd_dvd_left (a := x) (b := y))
 have h2 := Int.ediv_mul_cancel (Int.gcd_dvd_right (a := x) (b := y))
 have := Rat.divInt_mul_right (n := x / (Int.gcd x y : Int)) (d := y / (Int.gcd x y : Int)) (gcd_ne (x := x) hy)
 rw [h1, h2] at this
 exact this.symm
theorem gcd_low {x y : Int} (hy : y ≠ 0) : Int.gcd (x / (Int.gcd x y : Int)) (y / (Int.gcd x y : Int)) = 1 := by
 have := Int.gcd_pos_of_ne_zero_right x hy
 rw [Int.gcd_ediv_gcd_ediv_gcd this]
theorem low_ne {x y : Int} (hy : y ≠ 0) : y / (Int.gcd x y : Int) ≠ 0 := by
 have h2 := Int.ediv_mul_cancel (Int.gcd_dvd_right (a := x) (b := y))
 intro h
 rw [h] at h2
 omega
theorem unit_yes (a0 a1 : Value) (x : Int) (w : World) (hx : IntV w a0 a1 x) (h : x = 1) : Calls Try.prog 83 #[.agg #[a0, a1]] w fun e w' => e = .returned (.bool true) ∧ Below w.heap.size w w' := by
 have h1 := unit_any a0 a1 x w hx
 rw [decide_eq_true h] at h1
 exact h1
theorem unit_no (a0 a1 : Value) (x : Int) (w : World) (hx : IntV w a0 a1 x) (h : ¬ x = 1) : Calls Try.prog 83 #[.agg #[a0, a1]] w fun e w' => e = .returned (.bool false) ∧ Below w.heap.size w w' := by
 have h1 := unit_any a0 a1 x w hx
 rw [decide_eq_false h] at h1
 exact h1
theorem low_p (p0 p1 q1 : Value) (x y : Int) (w : World) (hx : IntV w p0 p1 x) (hy : IntV w (.bool false) q1 y) (hy0 : 0 < y) (h1 : ¬ y = 1) (hg : Int.gcd x y = 1) :
  Calls Try.prog 75 #[.agg #[p0, p1], .agg #[.bool false, q1]] w (RR (Rat.divInt x y) w) := by
 have hnd := divInt_pos hy0 hg
 have hdq : dq (Rat.divInt x y) = y := by
  rw [dq_more (by have := hnd.2; omega)]; exact hnd.2
 obtain ⟨r, hr⟩ : ∃ r, r = Rat.divInt x y := ⟨_, rfl⟩
 rw [← hr] at hnd hdq ⊢
 have HNUM := Lib.hid hnd.1; have HDQ := Lib.hid hdq; have H1 := Lib.hid h1
 have o_p0 := hx.one0
 have o_p1 := hx.one1
 have o_q1 := hy.one1
 have HX := Lib.hid hx; have HY := Lib.hid hy
 clear hnd hdq hr h1 hg hx hy hy0
 go_enter Try.func75, Try.ntmps75
 go_wp2_with fail
 obtain ⟨W1, hW⟩ : ∃ W, W = ((w.alloc (.cells #[p0, p1] 24)).alloc (.cells #[.bool false, q1] 24)).alloc (.cells #[.bool false, .slice none 0 0, .bool false, .slice none 0 0] 26) := ⟨_, rfl⟩
 rw [← hW]
 have k2 : Bx W1 (w.heap.size) 24 [p0, p1] := by rw [hW]; exact ((Bx.at_ rfl).alloc _).alloc _
 have k3 : Bx W1 (w.heap.size + 1) 24 [.bool false, q1] := by rw [hW]; exact (Bx.at_ (by simp)).alloc _
 have k4 : Bx W1 (w.heap.size + 1 + 1) 26 [.bool false, .slice none 0 0, .bool false, .slice none 0 0] := by rw [hW]; exact Bx.at_ (by simp)
 have hB : Below w.heap.size w W1 := by rw [hW]; exact (((Below.refl _ _).alloc (by simp) _).alloc (by simp) _).alloc (by simp; omega) _
 have k1 := Lib.hid hB; clear hW hB
 have F6 := Lib.hid (HX.out.kp (.of k1.out))
 have F7 := Lib.hid (HY.out.kp (.of k1.out))
 obtain ⟨kj, kk, kl, km⟩ := k2.f2
 obtain ⟨kn, ko, kq, kr⟩ := k3.f2
 obtain ⟨ks, kt, ku, kv, kw, kx⟩ := k4.f4
 have k6 := unit_no (.bool false) q1 (y) W1 F7.out H1.out
 (with_reducible refine k6.mono ?_)
 clear k6
 rintro e w22 ⟨rfl, k0⟩
 obtain ⟨ky, kz, kA, kB, kC⟩ := k2.b2 k0
 obtain ⟨kD, kE, kF, kG, kH⟩ := k3.b2 k0
 obtain ⟨k7, kb, kc, kd, ke, kI, kJ⟩ := k4.b4 k0
 have kf := Lib.hid (F6.out.kp (.of k0))
 have kg := Lib.hid (F7.out.kp (.of k0))
 have kh := Lib.hid (Blw k1.out k0)
 clear k0
 go_wp2_with fail
 have k8 := k7.set_ 0 (p0)
 have k9 := k8.set_ 1 (p1)
 have ki := k9.set_ 2 (.bool false)
 have hkp : Kp w22 ((((w22.setCell ⟨w.heap.size + 1 + 1, 0, none⟩ (p0)).setCell ⟨w.heap.size + 1 + 1, 1, none⟩ (p1)).setCell ⟨w.heap.size + 1 + 1, 2, none⟩ (.bool false)).setCell ⟨w.heap.size + 1 + 1, 3, none⟩ (q1)) := ((((Kp.refl _).set_ k7 (by decide) _).set_ k8 (by decide) _).set_ k9 (by decide) _).set_ ki (by decide) _
 refine bodyPost_ret (v := .agg #[p0, p1, .bool false, q1]) (by simp [results, Try.results75, go_sem, kb, kc, kd, ke]) rfl ⟨_, _, _, _, rfl, ⟨?_, ?_⟩, ((((kh.out).setCell (by simp <;> omega) _).setCell (by simp <;> omega) _).setCell (by simp <;> omega) _).setCell (by simp <;> omega) _⟩
 ·rw [HNUM.out]; exact kf.out.kp hkp
 ·rw [HDQ.out]; exact kg.out.kp hkp
theorem low_p1 (p0 p1 q1 : Value) (x y : Int) (w : World) (hx : IntV w p0 p1 x) (hy : IntV w (.bool false) q1 y) (hy0 : 0 < y) (h1 : y = 1) (hg : Int.gcd x y = 1) :
  Calls Try.prog 75 #[.agg #[p0, p1], .agg #[.bool false, q1]] w (RR (Rat.divInt x y) w) := by
 have hnd := divInt_pos hy0 hg
 have hdq : dq (Rat.divInt x y) = 0 := by
  exact dq_one (by have := hnd.2; omega)
 obtain ⟨r, hr⟩ : ∃ r, r = Rat.divInt x y := ⟨_, rfl⟩
 rw [← hr] at hnd hdq ⊢
 have HNUM := Lib.hid hnd.1; have HDQ := Lib.hid hdq; have H1 := Lib.hid h1
 have o_p0 := hx.one0
 have o_p1 := hx.one1
 have o_q1 := hy.one1
 have HX := Lib.hid hx; have HY := Lib.hid hy
 clear hnd hdq hr h1 hg hx hy hy0
 go_enter Try.func75, Try.ntmps75
 go_wp2_with fail
 obtain ⟨W1, hW⟩ : ∃ W, W = ((w.alloc (.cells #[p0, p1] 24)).alloc (.cells #[.bool false, q1] 24)).alloc (.cells #[.bool false, .slice none 0 0, .bool false, .slice none 0 0] 26) := ⟨_, rfl⟩
 rw [← hW]
 have k2 : Bx W1 (w.heap.size) 24 [p0, p1] := by rw [hW]; exact ((Bx.at_ rfl).alloc _).alloc _
 have k3 : Bx W1 (w.heap.size + 1) 24 [.bool false, q1] := by rw [hW]; exact (Bx.at_ (by simp)).alloc _
 have k4 : Bx W1 (w.heap.size + 1 + 1) 26 [.bool false, .slice none 0 0, .bool false, .slice none 0 0] := by rw [hW]; exact Bx.at_ (by simp)
 have hB : Below w.heap.size w W1 := by rw [hW]; exact (((Below.refl _ _).alloc (by simp) _).alloc (by simp) _).alloc (by simp; omega) _
 have k1 := Lib.hid hB; clear hW hB
 have F6 := Lib.hid (HX.out.kp (.of k1.out))
 have F7 := Lib.hid (HY.out.kp (.of k1.out))
 obtain ⟨ki, kj, kk, kl⟩ := k2.f2
 obtain ⟨km, kn, ko, kq⟩ := k3.f2
 obtain ⟨kr, ks, kt, ku, kv, kw⟩ := k4.f4
 have k5 := unit_yes (.bool false) q1 (y) W1 F7.out H1.out
 (with_reducible refine k5.mono ?_)
 clear k5
 rintro e w22 ⟨rfl, k0⟩
 obtain ⟨kx, ky, kz, kA, kB⟩ := k2.b2 k0
 obtain ⟨kC, kD, kE, kF, kG⟩ := k3.b2 k0
 obtain ⟨k6, kb, kc, kd, ke, kH, kI⟩ := k4.b4 k0
 have kf := Lib.hid (F6.out.kp (.of k0))
 have kg := Lib.hid (Blw k1.out k0)
 clear k0
 go_wp2_with fail
 have k7 := k6.set_ 0 (p0)
 have k8 := k7.set_ 1 (p1)
 have kh := k8.set_ 2 (.bool false)
 have hkp : Kp w22 ((((w22.setCell ⟨w.heap.size + 1 + 1, 0, none⟩ (p0)).setCell ⟨w.heap.size + 1 + 1, 1, none⟩ (p1)).setCell ⟨w.heap.size + 1 + 1, 2, none⟩ (.bool false)).setCell ⟨w.heap.size + 1 + 1, 3, none⟩ (.slice none 0 0)) := ((((Kp.refl _).set_ k6 (by decide) _).set_ k7 (by decide) _).set_ k8 (by decide) _).set_ kh (by decide) _
 refine bodyPost_ret (v := .agg #[p0, p1, .bool false, .slice none 0 0]) (by simp [results, Try.results75, go_sem, kb, kc, kd, ke]) rfl ⟨_, _, _, _, rfl, ⟨?_, ?_⟩, ((((kg.out).setCell (by simp <;> omega) _).setCell (by simp <;> omega) _).setCell (by simp <;> omega) _).setCell (by simp <;> omega) _⟩
 ·rw [HNUM.out]; exact kf.out.kp hkp
 ·rw [HDQ.out]; exact IntV.zero _
theorem low_n (p0 p1 q1 : Value) (x y : Int) (w : World) (hx : IntV w p0 p1 x) (hy : IntV w (.bool true) q1 y) (hy0 : y < 0) (h1 : ¬ -y = 1) (hg : Int.gcd x y = 1) :
  Calls Try.prog 75 #[.agg #[p0, p1], .agg #[.bool true, q1]] w (RR (Rat.divInt x y) w) := by
 have hnd := divInt_neg_ hy0 hg
 have hdq : dq (Rat.divInt x y) = -y := by
  rw [dq_more (by have := hnd.2; omega)]; exact hnd.2
 obtain ⟨r, hr⟩ : ∃ r, r = Rat.divInt x y := ⟨_, rfl⟩
 rw [← hr] at hnd hdq ⊢
 have HNUM := Lib.hid hnd.1; have HDQ := Lib.hid hdq; have H1 := Lib.hid h1
 have o_p0 := hx.one0
 have o_p1 := hx.one1
 have o_q1 := hy.one1
 have HX := Lib.hid hx; have HY := Lib.hid hy
 clear hnd hdq hr h1 hg hx hy hy0
 go_enter Try.func75, Try.ntmps75
 go_wp2_with fail
 obtain ⟨W1, hW⟩ : ∃ W, W = ((w.alloc (.cells #[p0, p1] 24)).alloc (.cells #[.bool true, q1] 24)).alloc (.cells #[.bool false, .slice none 0 0, .bool false, .slice none 0 0] 26) := ⟨_, rfl⟩
 rw [← hW]
 have ko : Bx W1 (w.heap.size) 24 [p0, p1] := by rw [hW]; exact ((Bx.at_ rfl).alloc _).alloc _
 have kq : Bx W1 (w.heap.size + 1) 24 [.bool true, q1] := by rw [hW]; exact (Bx.at_ (by simp)).alloc _
 have kr : Bx W1 (w.heap.size + 1 + 1) 26 [.bool false, .slice none 0 0, .bool false, .slice none 0 0] := by rw [hW]; exact Bx.at_ (by simp)
 have hB : Below w.heap.size w W1 := by rw [hW]; exact (((Below.refl _ _).alloc (by simp) _).alloc (by simp) _).alloc (by simp; omega) _
 have ke := Lib.hid hB; clear hW hB
 have F6 := Lib.hid (HX.out.kp (.of ke.out))
 have F7 := Lib.hid (HY.out.kp (.of ke.out))
 obtain ⟨kT, kU, kV, kW⟩ := ko.f2
 obtain ⟨kX, kY, kZ, l15⟩ := kq.f2
 obtain ⟨k01, k02, k03, k04, k05, l21⟩ := kr.f4
 go_upto_region 2 with fail
 go_cut [] (fun wx => ∃ u0 u1 v0 v1, Bx wx w.heap.size 24 [u0, u1] ∧ Bx wx (w.heap.size + 1) 24 [v0, v1] ∧ Bx wx (w.heap.size + 1 + 1) 26 [.bool false, .slice none 0 0, .bool false, .slice none 0 0] ∧ IntV wx u0 u1 (-x) ∧ IntV wx v0 v1 (-y) ∧ Below w.heap.size w wx)
 case first =>
  rename_i J_ K_ hJ_ hK_
  go_region_with (first | (go_at_call 76; have kt := ineg_any p0 p1 x W1.drew (F6.out.kp (Kp.refl _).drew); (with_reducible refine kt.mono ?_); clear kt; rintro e w22 ⟨u0, u1, rfl, kc, k0⟩; have k0 := bdDl k0; have k8 := ko.below k0; have k07 := k8.cell (i := 0) rfl; have k08 := k8.cell (i := 1) rfl; have k09 := k8.frozen; have l28 := k8.lt; have k9 := kq.below k0; have k0b := k9.cell (i := 0) rfl; have k0c := k9.cell (i := 1) rfl; have k0d := k9.frozen; have l33 := k9.lt; have k3 := kr.below k0; have k0f := k3.cell (i := 0) rfl; have k0g := k3.cell (i := 1) rfl; have k0h := k3.cell (i := 2) rfl; have k0i := k3.cell (i := 3) rfl; have k0j := k3.frozen; have l40 := k3.lt; have kE := Lib.hid (F6.out.kp (.of k0)); have ku := Lib.hid (F7.out.kp (.of k0)); have kF := Lib.hid (Blw ke.out k0); have kG := Lib.hid kc; have o_u0 := kc.one0; have o_u1 := kc.one1; clear kc k0) | (go_at_call 76; have kv := ineg_any (.bool true) q1 y w22 ku.out; (with_reducible refine kv.mono ?_); clear kv; rintro e w45 ⟨v0, v1, rfl, kd, k1⟩; have k4 := k8.below k1; have k0l := k4.cell (i := 0) rfl; have k0m := k4.cell (i := 1) rfl; have k0n := k4.frozen; have l51 := k4.lt; have k5 := k9.below k1; have k0p := k5.cell (i := 0) rfl; have k0q := k5.cell (i := 1) rfl; have k0r := k5.frozen; have l56 := k5.lt; have k2 := k3.below k1; have k0t := k2.cell (i := 0) rfl; have k0u := k2.cell (i := 1) rfl; have k0v := k2.cell (i := 2) rfl; have k0w := k2.cell (i := 3) rfl; have k0x := k2.frozen; have l63 := k2.lt; have F64 := Lib.hid (kE.out.kp (.of k1)); have F65 := Lib.hid (ku.out.kp (.of k1)); have kw := Lib.hid (kG.out.kp (.of k1)); have kx := Lib.hid (Blw kF.out k1); have ky := Lib.hid kd; have o_v0 := kd.one0; have o_v1 := kd.one1; clear kd k1))
  all_goals first | refine hK_ _ _ (Met.intro (hJ_ _ _ ?_)) | refine Met.intro (hJ_ _ _ ?_) | refine hJ_ _ _ ?_
  all_goals ((repeat apply Exists.intro); refine ⟨?_, rfl⟩)
  all_goals first
   | (
   have k7 := k4.set_ 0 (u0)
   have kf := k5.far_ (g' := w.heap.size) (j := 0) (by omega) (u0)
   have kg := k2.far_ (g' := w.heap.size) (j := 0) (by omega) (u0)
   have kh := k7.set_ 1 (u1)
   have ka := kf.far_ (g' := w.heap.size) (j := 1) (by omega) (u1)
   have ki := kg.far_ (g' := w.heap.size) (j := 1) (by omega) (u1)
   have kb := ka.set_ 0 (v0)
   have kj := kh.far_ (g' := w.heap.size + 1) (j := 0) (by omega) (v0)
   have kk := ki.far_ (g' := w.heap.size + 1) (j := 0) (by omega) (v0)
   have kl := kb.set_ 1 (v1)
   have km := kj.far_ (g' := w.heap.size + 1) (j := 1) (by omega) (v1)
   have kn := kk.far_ (g' := w.heap.size + 1) (j := 1) (by omega) (v1)
   have hkp : Kp w45 ((((w45.setCell ⟨w.heap.size, 0, none⟩ (u0)).setCell ⟨w.heap.size, 1, none⟩ (u1)).setCell ⟨w.heap.size + 1, 0, none⟩ (v0)).setCell ⟨w.heap.size + 1, 1, none⟩ (v1)) := ((((Kp.refl _).set_ k4 (by decide) _).set_ k7 (by decide) _).set_ ka (by decide) _).set_ kb (by decide) _
   exact ⟨u0, u1, v0, v1, km, kl, kn, kw.out.kp hkp, ky.out.kp hkp, ((((kx.out).setCell (by simp) _).setCell (by simp) _).setCell (by simp <;> omega) _).setCell (by simp <;> omega) _⟩)
   | (
   have k7 := k5.set_ 0 (v0)
   have kf := k4.far_ (g' := w.heap.size + 1) (j := 0) (by omega) (v0)
   have kg := k2.far_ (g' := w.heap.size + 1) (j := 0) (by omega) (v0)
   have kh := k7.set_ 1 (v1)
   have ka := kf.far_ (g' := w.heap.size + 1) (j := 1) (by omega) (v1)
   have ki := kg.far_ (g' := w.heap.size + 1) (j := 1) (by omega) (v1)
   have kb := ka.set_ 0 (u0)
   have kj := kh.far_ (g' := w.heap.size) (j := 0) (by omega) (u0)
   have kk := ki.far_ (g' := w.heap.size) (j := 0) (by omega) (u0)
   have kl := kb.set_ 1 (u1)
   have km := kj.far_ (g' := w.heap.size) (j := 1) (by omega) (u1)
   have kn := kk.far_ (g' := w.heap.size) (j := 1) (by omega) (u1)
   have hkp : Kp w45 ((((w45.setCell ⟨w.heap.size + 1, 0, none⟩ (v0)).setCell ⟨w.heap.size + 1, 1, none⟩ (v1)).setCell ⟨w.heap.size, 0, none⟩ (u0)).setCell ⟨w.heap.size, 1, none⟩ (u1)) := ((((Kp.refl _).set_ k5 (by decide) _).set_ k7 (by decide) _).set_ ka (by decide) _).set_ kb (by decide) _
   exact ⟨u0, u1, v0, v1, kl, km, kn, kw.out.kp hkp, ky.out.kp hkp, ((((kx.out).setCell (by simp <;> omega) _).setCell (by simp <;> omega) _).setCell (by simp) _).setCell (by simp) _⟩)
 case rest =>
  obtain ⟨u0, u1, v0, v1, hq0, hq1, hq2, hu, hv, hbw⟩ := hcut
  have ou0 := hu.one0
  have ou1 := hu.one1
  have ov0 := hv.one0
  have ov1 := hv.one1
  have HU := Lib.hid hu; have HV := Lib.hid hv; have HBW := Lib.hid hbw
  clear hu hv hbw
  obtain ⟨k0B, k0C, k0D, l25⟩ := hq0.f2
  obtain ⟨k0F, k0G, k0H, l29⟩ := hq1.f2
  obtain ⟨k0J, k0K, k0L, k0M, k0N, l35⟩ := hq2.f4
  go_wp2_with fail
  have kz := unit_no v0 v1 (-y) wc HV.out H1.out
  (with_reducible refine kz.mono ?_)
  clear kz
  rintro e w36 ⟨rfl, k6⟩
  obtain ⟨k0P, k0Q, k0R, k0S, l42⟩ := hq0.b2 k6
  obtain ⟨kH, k0U, k0V, k0W, l47⟩ := hq1.b2 k6
  obtain ⟨kA, kI, kJ, kK, kL, k0Y, l54⟩ := hq2.b4 k6
  have kM := Lib.hid (HU.out.kp (.of k6))
  have kN := Lib.hid (HV.out.kp (.of k6))
  have kO := Lib.hid (Blw HBW.out k6)
  clear k6
  go_wp2_with fail
  have kB := kA.set_ 0 (u0)
  have kP := kH.far_ (g' := w.heap.size + 1 + 1) (j := 0) (by omega) (u0)
  have kC := kB.set_ 1 (u1)
  have kQ := kP.far_ (g' := w.heap.size + 1 + 1) (j := 1) (by omega) (u1)
  have kR := kC.set_ 2 (v0)
  have kS := kQ.far_ (g' := w.heap.size + 1 + 1) (j := 2) (by omega) (v0)
  have k7 := kS.far_ (g' := w.heap.size + 1 + 1) (j := 3) (by omega) (v1)
  have hkp : Kp w36 ((((w36.setCell ⟨w.heap.size + 1 + 1, 0, none⟩ (u0)).setCell ⟨w.heap.size + 1 + 1, 1, none⟩ (u1)).setCell ⟨w.heap.size + 1 + 1, 2, none⟩ (v0)).setCell ⟨w.heap.size + 1 + 1, 3, none⟩ (v1)) := ((((Kp.refl _).set_ kA (by decide) _).set_ kB (by decide) _).set_ kC (by decide) _).set_ kR (by decide) _
  refine bodyPost_ret (v := .agg #[u0, u1, v0, v1]) (by simp [results, Try.results75, go_sem, kI, kJ, kK, kL]) rfl ⟨_, _, _, _, rfl, ⟨?_, ?_⟩, ((((kO.out).setCell (by simp <;> omega) _).setCell (by simp <;> omega) _).setCell (by simp <;> omega) _).setCell (by simp <;> omega) _⟩
  ·rw [HNUM.out]; exact kM.out.kp hkp
  ·rw [HDQ.out]; exact kN.out.kp hkp
theorem low_n1 (p0 p1 q1 : Value) (x y : Int) (w : World) (hx : IntV w p0 p1 x) (hy : IntV w (.bool true) q1 y) (hy0 : y < 0) (h1 : -y = 1) (hg : Int.gcd x y = 1) :
  Calls Try.prog 75 #[.agg #[p0, p1], .agg #[.bool true, q1]] w (RR (Rat.divInt x y) w) := by
 have hnd := divInt_neg_ hy0 hg
 have hdq : dq (Rat.divInt x y) = 0 := by
  exact dq_one (by have := hnd.2; omega)
 obtain ⟨r, hr⟩ : ∃ r, r = Rat.divInt x y := ⟨_, rfl⟩
 rw [← hr] at hnd hdq ⊢
 have HNUM := Lib.hid hnd.1; have HDQ := Lib.hid hdq; have H1 := Lib.hid h1
 have o_p0 := hx.one0
 have o_p1 := hx.one1
 have o_q1 := hy.one1
 have HX := Lib.hid hx; have HY := Lib.hid hy
 clear hnd hdq hr h1 hg hx hy hy0
 go_enter Try.func75, Try.ntmps75
 go_wp2_with fail
 obtain ⟨W1, hW⟩ : ∃ W, W = ((w.alloc (.cells #[p0, p1] 24)).alloc (.cells #[.bool true, q1] 24)).alloc (.cells #[.bool false, .slice none 0 0, .bool false, .slice none 0 0] 26) := ⟨_, rfl⟩
 rw [← hW]
 have ko : Bx W1 (w.heap.size) 24 [p0, p1] := by rw [hW]; exact ((Bx.at_ rfl).alloc _).alloc _
 have kq : Bx W1 (w.heap.size + 1) 24 [.bool true, q1] := by rw [hW]; exact (Bx.at_ (by simp)).alloc _
 have kr : Bx W1 (w.heap.size + 1 + 1) 26 [.bool false, .slice none 0 0, .bool false, .slice none 0 0] := by rw [hW]; exact Bx.at_ (by simp)
 have hB : Below w.heap.size w W1 := by rw [hW]; exact (((Below.refl _ _).alloc (by simp) _).alloc (by simp) _).alloc (by simp; omega) _
 have ke := Lib.hid hB; clear hW hB
 have F6 := Lib.hid (HX.out.kp (.of ke.out))
 have F7 := Lib.hid (HY.out.kp (.of ke.out))
 obtain ⟨kS, kT, kU, kV⟩ := ko.f2
 obtain ⟨kW, kX, kY, kZ⟩ := kq.f2
 obtain ⟨k00, k01, k02, k03, k04, l21⟩ := kr.f4
 go_upto_region 2 with fail
 go_cut [] (fun wx => ∃ u0 u1 v0 v1, Bx wx w.heap.size 24 [u0, u1] ∧ Bx wx (w.heap.size + 1) 24 [v0, v1] ∧ Bx wx (w.heap.size + 1 + 1) 26 [.bool false, .slice none 0 0, .bool false, .slice none 0 0] ∧ IntV wx u0 u1 (-x) ∧ IntV wx v0 v1 (-y) ∧ Below w.heap.size w wx)
 case first =>
  rename_i J_ K_ hJ_ hK_
  go_region_with (first | (go_at_call 76; have kt := ineg_any p0 p1 x W1.drew (F6.out.kp (Kp.refl _).drew); (with_reducible refine kt.mono ?_); clear kt; rintro e w22 ⟨u0, u1, rfl, kc, k0⟩; have k0 := bdDl k0; have k8 := ko.below k0; have k06 := k8.cell (i := 0) rfl; have k07 := k8.cell (i := 1) rfl; have k08 := k8.frozen; have l28 := k8.lt; have k9 := kq.below k0; have k0a := k9.cell (i := 0) rfl; have k0b := k9.cell (i := 1) rfl; have k0c := k9.frozen; have l33 := k9.lt; have k3 := kr.below k0; have k0e := k3.cell (i := 0) rfl; have k0f := k3.cell (i := 1) rfl; have k0g := k3.cell (i := 2) rfl; have k0h := k3.cell (i := 3) rfl; have k0i := k3.frozen; have l40 := k3.lt; have kE := Lib.hid (F6.out.kp (.of k0)); have ku := Lib.hid (F7.out.kp (.of k0)); have kF := Lib.hid (Blw ke.out k0); have kG := Lib.hid kc; have o_u0 := kc.one0; have o_u1 := kc.one1; clear kc k0) | (go_at_call 76; have kv := ineg_any (.bool true) q1 y w22 ku.out; (with_reducible refine kv.mono ?_); clear kv; rintro e w45 ⟨v0, v1, rfl, kd, k1⟩; have k4 := k8.below k1; have k0k := k4.cell (i := 0) rfl; have k0l := k4.cell (i := 1) rfl; have k0m := k4.frozen; have l51 := k4.lt; have k5 := k9.below k1; have k0o := k5.cell (i := 0) rfl; have k0p := k5.cell (i := 1) rfl; have k0q := k5.frozen; have l56 := k5.lt; have k2 := k3.below k1; have k0s := k2.cell (i := 0) rfl; have k0t := k2.cell (i := 1) rfl; have k0u := k2.cell (i := 2) rfl; have k0v := k2.cell (i := 3) rfl; have k0w := k2.frozen; have l63 := k2.lt; have F64 := Lib.hid (kE.out.kp (.of k1)); have F65 := Lib.hid (ku.out.kp (.of k1)); have kw := Lib.hid (kG.out.kp (.of k1)); have kx := Lib.hid (Blw kF.out k1); have ky := Lib.hid kd; have o_v0 := kd.one0; have o_v1 := kd.one1; clear kd k1))
  all_goals first | refine hK_ _ _ (Met.intro (hJ_ _ _ ?_)) | refine Met.intro (hJ_ _ _ ?_) | refine hJ_ _ _ ?_
  all_goals ((repeat apply Exists.intro); refine ⟨?_, rfl⟩)
  all_goals first
   | (
   have k6 := k4.set_ 0 (u0)
   have kf := k5.far_ (g' := w.heap.size) (j := 0) (by omega) (u0)
   have kg := k2.far_ (g' := w.heap.size) (j := 0) (by omega) (u0)
   have kh := k6.set_ 1 (u1)
   have ka := kf.far_ (g' := w.heap.size) (j := 1) (by omega) (u1)
   have ki := kg.far_ (g' := w.heap.size) (j := 1) (by omega) (u1)
   have kb := ka.set_ 0 (v0)
   have kj := kh.far_ (g' := w.heap.size + 1) (j := 0) (by omega) (v0)
   have kk := ki.far_ (g' := w.heap.size + 1) (j := 0) (by omega) (v0)
   have kl := kb.set_ 1 (v1)
   have km := kj.far_ (g' := w.heap.size + 1) (j := 1) (by omega) (v1)
   have kn := kk.far_ (g' := w.heap.size + 1) (j := 1) (by omega) (v1)
   have hkp : Kp w45 ((((w45.setCell ⟨w.heap.size, 0, none⟩ (u0)).setCell ⟨w.heap.size, 1, none⟩ (u1)).setCell ⟨w.heap.size + 1, 0, none⟩ (v0)).setCell ⟨w.heap.size + 1, 1, none⟩ (v1)) := ((((Kp.refl _).set_ k4 (by decide) _).set_ k6 (by decide) _).set_ ka (by decide) _).set_ kb (by decide) _
   exact ⟨u0, u1, v0, v1, km, kl, kn, kw.out.kp hkp, ky.out.kp hkp, ((((kx.out).setCell (by simp) _).setCell (by simp) _).setCell (by simp <;> omega) _).setCell (by simp <;> omega) _⟩)
   | (
   have k6 := k5.set_ 0 (v0)
   have kf := k4.far_ (g' := w.heap.size + 1) (j := 0) (by omega) (v0)
   have kg := k2.far_ (g' := w.heap.size + 1) (j := 0) (by omega) (v0)
   have kh := k6.set_ 1 (v1)
   have ka := kf.far_ (g' := w.heap.size + 1) (j := 1) (by omega) (v1)
   have ki := kg.far_ (g' := w.heap.size + 1) (j := 1) (by omega) (v1)
   have kb := ka.set_ 0 (u0)
   have kj := kh.far_ (g' := w.heap.size) (j := 0) (by omega) (u0)
   have kk := ki.far_ (g' := w.heap.size) (j := 0) (by omega) (u0)
   have kl := kb.set_ 1 (u1)
   have km := kj.far_ (g' := w.heap.size) (j := 1) (by omega) (u1)
   have kn := kk.far_ (g' := w.heap.size) (j := 1) (by omega) (u1)
   have hkp : Kp w45 ((((w45.setCell ⟨w.heap.size + 1, 0, none⟩ (v0)).setCell ⟨w.heap.size + 1, 1, none⟩ (v1)).setCell ⟨w.heap.size, 0, none⟩ (u0)).setCell ⟨w.heap.size, 1, none⟩ (u1)) := ((((Kp.refl _).set_ k5 (by decide) _).set_ k6 (by decide) _).set_ ka (by decide) _).set_ kb (by decide) _
   exact ⟨u0, u1, v0, v1, kl, km, kn, kw.out.kp hkp, ky.out.kp hkp, ((((kx.out).setCell (by simp <;> omega) _).setCell (by simp <;> omega) _).setCell (by simp) _).setCell (by simp) _⟩)
 case rest =>
  obtain ⟨u0, u1, v0, v1, hq0, hq1, hq2, hu, hv, hbw⟩ := hcut
  have ou0 := hu.one0
  have ou1 := hu.one1
  have ov0 := hv.one0
  have ov1 := hv.one1
  have HU := Lib.hid hu; have HV := Lib.hid hv; have HBW := Lib.hid hbw
  clear hu hv hbw
  obtain ⟨k0A, k0B, k0C, l25⟩ := hq0.f2
  obtain ⟨k0E, k0F, k0G, l29⟩ := hq1.f2
  obtain ⟨k0I, k0J, k0K, k0L, k0M, l35⟩ := hq2.f4
  go_wp2_with fail
  have kz := unit_yes v0 v1 (-y) wc HV.out H1.out
  (with_reducible refine kz.mono ?_)
  clear kz
  rintro e w36 ⟨rfl, k7⟩
  obtain ⟨k0O, k0P, k0Q, k0R, l42⟩ := hq0.b2 k7
  obtain ⟨kH, k0T, k0U, k0V, l47⟩ := hq1.b2 k7
  obtain ⟨kA, kI, kJ, kK, kL, k0X, l54⟩ := hq2.b4 k7
  have kM := Lib.hid (HU.out.kp (.of k7))
  have kN := Lib.hid (Blw HBW.out k7)
  clear k7
  go_wp2_with fail
  have kB := kA.set_ 0 (u0)
  have kO := kH.far_ (g' := w.heap.size + 1 + 1) (j := 0) (by omega) (u0)
  have kC := kB.set_ 1 (u1)
  have kP := kO.far_ (g' := w.heap.size + 1 + 1) (j := 1) (by omega) (u1)
  have kQ := kC.set_ 2 (.bool false)
  have kR := kP.far_ (g' := w.heap.size + 1 + 1) (j := 2) (by omega) (.bool false)
  have k6 := kR.far_ (g' := w.heap.size + 1 + 1) (j := 3) (by omega) (.slice none 0 0)
  have hkp : Kp w36 ((((w36.setCell ⟨w.heap.size + 1 + 1, 0, none⟩ (u0)).setCell ⟨w.heap.size + 1 + 1, 1, none⟩ (u1)).setCell ⟨w.heap.size + 1 + 1, 2, none⟩ (.bool false)).setCell ⟨w.heap.size + 1 + 1, 3, none⟩ (.slice none 0 0)) := ((((Kp.refl _).set_ kA (by decide) _).set_ kB (by decide) _).set_ kC (by decide) _).set_ kQ (by decide) _
  refine bodyPost_ret (v := .agg #[u0, u1, .bool false, .slice none 0 0]) (by simp [results, Try.results75, go_sem, kI, kJ, kK, kL]) rfl ⟨_, _, _, _, rfl, ⟨?_, ?_⟩, ((((kN.out).setCell (by simp <;> omega) _).setCell (by simp <;> omega) _).setCell (by simp <;> omega) _).setCell (by simp <;> omega) _⟩
  ·rw [HNUM.out]; exact kM.out.kp hkp
  ·rw [HDQ.out]; exact IntV.zero _
theorem lowest_any (p0 p1 q0 q1 : Value) (x y : Int) (w : World) (hx : IntV w p0 p1 x) (hy : IntV w q0 q1 y) (hy0 : y ≠ 0) (hg : Int.gcd x y = 1) :
  Calls Try.prog 75 #[.agg #[p0, p1], .agg #[q0, q1]] w (RR (Rat.divInt x y) w) := by
 have hy' := hy
 obtain ⟨g, A, n, c, rfl, rfl⟩ := hy'.form
 have hg2 := hy.len.1
 by_cases h : y < 0
 ·rw [decide_eq_true h] at hg2
  subst hg2
  by_cases h1 : -y = 1
  ·exact low_n1 _ _ _ x y w hx hy h h1 hg
  ·exact low_n _ _ _ x y w hx hy h h1 hg
 ·rw [decide_eq_false h] at hg2
  subst hg2
  by_cases h1 : y = 1
  ·exact low_p1 _ _ _ x y w hx hy (by omega) h1 hg
  ·exact low_p _ _ _ x y w hx hy (by omega) h1 hg
theorem make_y0 (k : Nat) (gx gy : Bool) (Ax Ay : Option Addr) (nx cx ny cy : Nat) (x y : Int) (w : World) (hx : IntV w (.bool gx) (.slice Ax nx cx) x) (hy : IntV w (.bool gy) (.slice Ay 0 cy) y) (bx : I.Bd k x) (by_ : I.Bd k y) (hk : k ≤ 1000000000000) :
  Calls Try.prog 68 #[.agg #[.bool gx, .slice Ax nx cx], .agg #[.bool gy, .slice Ay 0 cy]] w (RR 0 w) := by
 have HX := Lib.hid hx; have HY := Lib.hid hy; have HBX := Lib.hid bx; have HBY := Lib.hid by_
 clear hx hy bx by_
 go_enter Try.func68, Try.ntmps68
 go_wp2_with fail
 refine bodyPost_ret (v := .agg #[.bool false, .slice none 0 0, .bool false, .slice none 0 0]) (by simp [results, Try.results68, go_sem]) rfl ⟨_, _, _, _, rfl, ⟨IntV.zero _, by rw [dq_one (by rfl)]; exact IntV.zero _⟩, ?_⟩
 first
  | exact ((((Below.refl _ _).alloc (Nat.le_refl _) _).alloc (by simp) _).alloc (by simp <;> omega) _)
  | exact ((((((Below.refl _ _).alloc (Nat.le_refl _) _).alloc (by simp) _).alloc (by simp <;> omega) _).setCell (by simp <;> omega) _).setCell (by simp <;> omega) _).setCell (by simp <;> omega) _ |>.setCell (by simp <;> omega) _
theorem make_x0 (k : Nat) (gx gy : Bool) (Ax Ay : Option Addr) (nx cx ny cy : Nat) (x y : Int) (w : World) (hx : IntV w (.bool gx) (.slice Ax 0 cx) x) (hy : IntV w (.bool gy) (.slice Ay ny cy) y) (bx : I.Bd k x) (by_ : I.Bd k y) (hk : k ≤ 1000000000000) (hny : 0 < (ny : Int)) (hny2 : 0 < ny) :
  Calls Try.prog 68 #[.agg #[.bool gx, .slice Ax 0 cx], .agg #[.bool gy, .slice Ay ny cy]] w (RR 0 w) := by
 have HX := Lib.hid hx; have HY := Lib.hid hy; have HBX := Lib.hid bx; have HBY := Lib.hid by_
 clear hx hy bx by_
 go_enter Try.func68, Try.ntmps68
 go_wp2_with fail
 refine bodyPost_ret (v := .agg #[.bool false, .slice none 0 0, .bool false, .slice none 0 0]) (by simp [results, Try.results68, go_sem]) rfl ⟨_, _, _, _, rfl, ⟨IntV.zero _, by rw [dq_one (by rfl)]; exact IntV.zero _⟩, ?_⟩
 first
  | exact ((((Below.refl _ _).alloc (Nat.le_refl _) _).alloc (by simp) _).alloc (by simp <;> omega) _)
  | exact ((((((Below.refl _ _).alloc (Nat.le_refl _) _).alloc (by simp) _).alloc (by simp <;> omega) _).setCell (by simp <;> omega) _).setCell (by simp <;> omega) _).setCell (by simp <;> omega) _ |>.setCell (by simp <;> omega) _
theorem make_unit (k : Nat) (gx gy : Bool) (Ax Ay : Option Addr) (nx cx ny cy : Nat) (x y : Int) (w : World) (hx : IntV w (.bool gx) (.slice Ax nx cx) x) (hy : IntV w (.bool gy) (.slice Ay ny cy) y) (bx : I.Bd k x) (by_ : I.Bd k y) (hk : k ≤ 1000000000000) (hnx : 0 < (nx : Int)) (hnx2 : 0 < nx) (hny : 0 < (ny : Int)) (hny2 : 0 < ny) (hy0 : y ≠ 0) (h1 : (Int.gcd x y : Int) = 1) :
  Calls Try.prog 68 #[.agg #[.bool gx, .slice Ax nx cx], .agg #[.bool gy, .slice Ay ny cy]] w (RR (Rat.divInt x y) w) := by
 have HX := Lib.hid hx; have HY := Lib.hid hy; have HBX := Lib.hid bx; have HBY := Lib.hid by_
 clear hx hy bx by_
 have hbx : ((nx : Int) == 0) = false := beq_eq_false_iff_ne.2 (by omega)
 have hby : ((ny : Int) == 0) = false := beq_eq_false_iff_ne.2 (by omega)
 obtain ⟨r, hr⟩ : ∃ r, r = Rat.divInt x y := ⟨_, rfl⟩
 rw [← hr]
 obtain ⟨D, hD⟩ : ∃ D : Int, D = (Int.gcd x y : Int) := ⟨_, rfl⟩
 rw [← hD] at h1
 have HR := Lib.hid hr; have HD := Lib.hid hD; have H1 := Lib.hid h1; have HY0 := Lib.hid hy0
 have HBD := Lib.hid (show I.Bd k D from HBY.out.of_le (by rw [hD, Int.natAbs_natCast]; exact Nat.gcd_le_right _ (by omega)))
 clear hr hD h1 hy0
 go_enter Try.func68, Try.ntmps68
 go_wp2_with fail
 obtain ⟨W1, hW⟩ : ∃ W, W = ((w.alloc (.cells #[.bool gx, .slice Ax nx cx] 24)).alloc (.cells #[.bool gy, .slice Ay ny cy] 24)).alloc (.cells #[.bool false, .slice none 0 0, .bool false, .slice none 0 0] 26) := ⟨_, rfl⟩
 rw [← hW]
 have k8 : Bx W1 (w.heap.size) 24 [.bool gx, .slice Ax nx cx] := by rw [hW]; exact ((Bx.at_ rfl).alloc _).alloc _
 have k9 : Bx W1 (w.heap.size + 1) 24 [.bool gy, .slice Ay ny cy] := by rw [hW]; exact (Bx.at_ (by simp)).alloc _
 have ka : Bx W1 (w.heap.size + 1 + 1) 26 [.bool false, .slice none 0 0, .bool false, .slice none 0 0] := by rw [hW]; exact Bx.at_ (by simp)
 have hB : Below w.heap.size w W1 := by rw [hW]; exact (((Below.refl _ _).alloc (by simp) _).alloc (by simp) _).alloc (by simp; omega) _
 have k5 := Lib.hid hB; clear hW hB
 have F6 := Lib.hid (HX.out.kp (.of k5.out))
 have F7 := Lib.hid (HY.out.kp (.of k5.out))
 obtain ⟨kL, kM, kN, kO⟩ := k8.f2
 obtain ⟨kP, kQ, kR, kS⟩ := k9.f2
 obtain ⟨kT, kU, kV, kW, kX, kY⟩ := ka.f4
 have k6 := igcd_any k _ _ _ _ x y W1 F6.out F7.out HBX.out HBY.out hk
 rw [← HD.out] at k6
 (with_reducible refine k6.mono ?_)
 clear k6
 rintro e w22 ⟨d0, d1, rfl, k4, k1⟩
 obtain ⟨kd, kZ, k00, k01, l28⟩ := k8.b2 k1
 obtain ⟨ke, k03, k04, k05, l33⟩ := k9.b2 k1
 obtain ⟨kf, k07, k08, k09, k0a, k0b, l40⟩ := ka.b4 k1
 have kl := Lib.hid (F6.out.kp (.of k1))
 have km := Lib.hid (F7.out.kp (.of k1))
 have kn := Lib.hid (Blw k5.out k1)
 have ko := Lib.hid k4
 have o_d0 := k4.one0
 have o_d1 := k4.one1
 clear k4 k1
 go_wp2_with fail
 obtain ⟨W45, hW⟩ : ∃ W, W = w22.alloc (.cells #[d0, d1] 24) := ⟨_, rfl⟩
 rw [← hW]
 have hB : Below w22.heap.size w22 W45 := by rw [hW]; exact (Below.refl _ _).alloc (by simp) _
 have k0d := kd.lt
 have k0e := ke.lt
 have k0f := kf.lt
 have kg : Bx W45 (w22.heap.size) 24 [d0, d1] := by rw [hW]; exact Bx.at_ rfl
 clear hW
 obtain ⟨kq, k0g, k0h, k0i, l54⟩ := kd.b2 hB
 obtain ⟨kr, k0k, k0l, k0m, l59⟩ := ke.b2 hB
 obtain ⟨ks, k0o, k0p, k0q, k0r, k0s, l66⟩ := kf.b4 hB
 have kt := Lib.hid (kl.out.kp (.of hB))
 have ku := Lib.hid (km.out.kp (.of hB))
 have kv := Lib.hid (ko.out.kp (.of hB))
 have kw := Lib.hid (Blw kn.out hB)
 clear hB
 obtain ⟨k0u, k0v, k0w, l74⟩ := kg.f2
 have kh := unit_yes d0 d1 D W45 kv.out H1.out
 (with_reducible refine kh.mono ?_)
 clear kh
 rintro e w75 ⟨rfl, k0⟩
 obtain ⟨kx, k0y, k0z, k0A, l81⟩ := kq.b2 k0
 obtain ⟨ky, k0C, k0D, k0E, l86⟩ := kr.b2 k0
 obtain ⟨kz, k0G, k0H, k0I, k0J, k0K, l93⟩ := ks.b4 k0
 obtain ⟨kA, k0M, k0N, k0O, l98⟩ := kg.b2 k0
 have kB := Lib.hid (kt.out.kp (.of k0))
 have kC := Lib.hid (ku.out.kp (.of k0))
 have kD := Lib.hid (Blw kw.out k0)
 clear k0
 go_wp2_with fail
 have k7 := lowest_any _ _ _ _ x y w75 kB.out kC.out HY0.out (by have := HD.out; have := H1.out; omega)
 rw [← HR.out] at k7
 (with_reducible refine k7.mono ?_)
 clear k7
 rintro e w103 ⟨u0, u1, u2, u3, rfl, k2, k3⟩
 obtain ⟨k0Q, k0R, k0S, k0T, k0U⟩ := kx.b2 k3
 obtain ⟨k0V, k0W, k0X, k0Y, k0Z⟩ := ky.b2 k3
 obtain ⟨ki, kE, kF, kG, kH, k10, k11⟩ := kz.b4 k3
 obtain ⟨k12, k13, k14, k15, k16⟩ := kA.b2 k3
 have kI := Lib.hid (Blw kD.out k3)
 have kJ := Lib.hid k2
 have o_u0 := k2.one0
 have o_u1 := k2.one1
 have o_u2 := k2.one2
 have o_u3 := k2.one3
 clear k2 k3
 go_wp2_with fail
 have kj := ki.set_ 0 (u0)
 have kk := kj.set_ 1 (u1)
 have kK := kk.set_ 2 (u2)
 have hkp : Kp w103 ((((w103.setCell ⟨w.heap.size + 1 + 1, 0, none⟩ (u0)).setCell ⟨w.heap.size + 1 + 1, 1, none⟩ (u1)).setCell ⟨w.heap.size + 1 + 1, 2, none⟩ (u2)).setCell ⟨w.heap.size + 1 + 1, 3, none⟩ (u3)) := ((((Kp.refl _).set_ ki (by decide) _).set_ kj (by decide) _).set_ kk (by decide) _).set_ kK (by decide) _
 refine bodyPost_ret (v := .agg #[u0, u1, u2, u3]) (by simp [results, Try.results68, go_sem, kE, kF, kG, kH]) rfl ⟨_, _, _, _, rfl, ?_, ((((kI.out).setCell (by simp <;> omega) _).setCell (by simp <;> omega) _).setCell (by simp <;> omega) _).setCell (by simp <;> omega) _⟩
 exact kJ.out.kp hkp
theorem make_more (k : Nat) (gx gy : Bool) (Ax Ay : Option Addr) (nx cx ny cy : Nat) (x y : Int) (w : World) (hx : IntV w (.bool gx) (.slice Ax nx cx) x) (hy : IntV w (.bool gy) (.slice Ay ny cy) y) (bx : I.Bd k x) (by_ : I.Bd k y) (hk : k ≤ 1000000000000) (hnx : 0 < (nx : Int)) (hnx2 : 0 < nx) (hny : 0 < (ny : Int)) (hny2 : 0 < ny) (hy0 : y ≠ 0) (h1 : ¬ (Int.gcd x y : Int) = 1) :
  Calls Try.prog 68 #[.agg #[.bool gx, .slice Ax nx cx], .agg #[.bool gy, .slice Ay ny cy]] w (RR (Rat.divInt x y) w) := by
 have HX := Lib.hid hx; have HY := Lib.hid hy; have HBX := Lib.hid bx; have HBY := Lib.hid by_
 clear hx hy bx by_
 have hbx : ((nx : Int) == 0) = false := beq_eq_false_iff_ne.2 (by omega)
 have hby : ((ny : Int) == 0) = false := beq_eq_false_iff_ne.2 (by omega)
 obtain ⟨r, hr⟩ : ∃ r, r = Rat.divInt x y := ⟨_, rfl⟩
 rw [← hr]
 obtain ⟨D, hD⟩ : ∃ D : Int, D = (Int.gcd x y : Int) := ⟨_, rfl⟩
 rw [← hD] at h1
 have HR := Lib.hid hr; have HD := Lib.hid hD; have H1 := Lib.hid h1; have HY0 := Lib.hid hy0
 have HBD := Lib.hid (show I.Bd k D from HBY.out.of_le (by rw [hD, Int.natAbs_natCast]; exact Nat.gcd_le_right _ (by omega)))
 clear hr hD h1 hy0
 go_enter Try.func68, Try.ntmps68
 go_wp2_with fail
 obtain ⟨W1, hW⟩ : ∃ W, W = ((w.alloc (.cells #[.bool gx, .slice Ax nx cx] 24)).alloc (.cells #[.bool gy, .slice Ay ny cy] 24)).alloc (.cells #[.bool false, .slice none 0 0, .bool false, .slice none 0 0] 26) := ⟨_, rfl⟩
 rw [← hW]
 have ke : Bx W1 (w.heap.size) 24 [.bool gx, .slice Ax nx cx] := by rw [hW]; exact ((Bx.at_ rfl).alloc _).alloc _
 have kf : Bx W1 (w.heap.size + 1) 24 [.bool gy, .slice Ay ny cy] := by rw [hW]; exact (Bx.at_ (by simp)).alloc _
 have kg : Bx W1 (w.heap.size + 1 + 1) 26 [.bool false, .slice none 0 0, .bool false, .slice none 0 0] := by rw [hW]; exact Bx.at_ (by simp)
 have hB : Below w.heap.size w W1 := by rw [hW]; exact (((Below.refl _ _).alloc (by simp) _).alloc (by simp) _).alloc (by simp; omega) _
 have k9 := Lib.hid hB; clear hW hB
 have F6 := Lib.hid (HX.out.kp (.of k9.out))
 have F7 := Lib.hid (HY.out.kp (.of k9.out))
 obtain ⟨k0E, k0F, k0G, l11⟩ := ke.f2
 obtain ⟨k0I, k0J, k0K, l15⟩ := kf.f2
 obtain ⟨k0M, k0N, k0O, k0P, k0Q, l21⟩ := kg.f4
 have ka := igcd_any k _ _ _ _ x y W1 F6.out F7.out HBX.out HBY.out hk
 rw [← HD.out] at ka
 (with_reducible refine ka.mono ?_)
 clear ka
 rintro e w22 ⟨d0, d1, rfl, k6, k2⟩
 obtain ⟨kj, k0S, k0T, k0U, l28⟩ := ke.b2 k2
 obtain ⟨kk, k0W, k0X, k0Y, l33⟩ := kf.b2 k2
 obtain ⟨kl, k10, k11, k12, k13, k14, l40⟩ := kg.b4 k2
 have kI := Lib.hid (F6.out.kp (.of k2))
 have kJ := Lib.hid (F7.out.kp (.of k2))
 have kK := Lib.hid (Blw k9.out k2)
 have kL := Lib.hid k6
 have o_d0 := k6.one0
 have o_d1 := k6.one1
 clear k6 k2
 go_wp2_with fail
 obtain ⟨W45, hW⟩ : ∃ W, W = w22.alloc (.cells #[d0, d1] 24) := ⟨_, rfl⟩
 rw [← hW]
 have hB : Below w22.heap.size w22 W45 := by rw [hW]; exact (Below.refl _ _).alloc (by simp) _
 have k16 := kj.lt
 have k17 := kk.lt
 have k18 := kl.lt
 have km : Bx W45 (w22.heap.size) 24 [d0, d1] := by rw [hW]; exact Bx.at_ rfl
 clear hW
 obtain ⟨kM, k19, k1a, k1b, l54⟩ := kj.b2 hB
 obtain ⟨kN, k1d, k1e, k1f, l59⟩ := kk.b2 hB
 obtain ⟨kO, k1h, k1i, k1j, k1k, k1l, l66⟩ := kl.b4 hB
 have kP := Lib.hid (kI.out.kp (.of hB))
 have kQ := Lib.hid (kJ.out.kp (.of hB))
 have kn := Lib.hid (kL.out.kp (.of hB))
 have kR := Lib.hid (Blw kK.out hB)
 clear hB
 obtain ⟨k1n, k1o, k1p, l74⟩ := km.f2
 have ko := unit_no d0 d1 D W45 kn.out H1.out
 (with_reducible refine ko.mono ?_)
 clear ko
 rintro e w75 ⟨rfl, k0⟩
 obtain ⟨kS, k1r, k1s, k1t, l81⟩ := kM.b2 k0
 obtain ⟨kT, k1v, k1w, k1x, l86⟩ := kN.b2 k0
 obtain ⟨kU, k1z, k1A, k1B, k1C, k1D, l93⟩ := kO.b4 k0
 obtain ⟨kV, k1F, k1G, k1H, l98⟩ := km.b2 k0
 have kW := Lib.hid (kP.out.kp (.of k0))
 have kX := Lib.hid (kQ.out.kp (.of k0))
 have kq := Lib.hid (kn.out.kp (.of k0))
 have kY := Lib.hid (Blw kR.out k0)
 clear k0
 go_wp2_with fail
 have kr := idiv_any k _ _ d0 d1 x D w75 kW.out kq.out HBX.out HBD.out hk (by rw [HD.out]; exact gcd_ne HY0.out)
 (with_reducible refine kr.mono ?_)
 clear kr
 rintro e w103 ⟨a0, a1, b0, b1, rfl, k7, kb, k1⟩
 obtain ⟨ks, k1J, k1K, k1L, k1M⟩ := kS.b2 k1
 obtain ⟨kZ, k1N, k1O, k1P, k1Q⟩ := kT.b2 k1
 obtain ⟨k00, k1R, k1S, k1T, k1U, k1V, k1W⟩ := kU.b4 k1
 obtain ⟨k01, k1X, k1Y, k1Z, k20⟩ := kV.b2 k1
 have k02 := Lib.hid (kX.out.kp (.of k1))
 have k03 := Lib.hid (kq.out.kp (.of k1))
 have k04 := Lib.hid (Blw kY.out k1)
 have k05 := Lib.hid k7
 have o_a0 := k7.one0
 have o_a1 := k7.one1
 have o_b0 := kb.one0
 have o_b1 := kb.one1
 clear k7 kb k1
 go_wp2_with fail
 have kt := ks.set_ 0 (a0)
 have k06 := kZ.far_ (g' := w.heap.size) (j := 0) (by omega) (a0)
 have k07 := k00.far_ (g' := w.heap.size) (j := 0) (by omega) (a0)
 have k08 := k01.far_ (g' := w.heap.size) (j := 0) (by omega) (a0)
 have k09 := kt.set_ 1 (a1)
 have k0a := k06.far_ (g' := w.heap.size) (j := 1) (by omega) (a1)
 have k0b := k07.far_ (g' := w.heap.size) (j := 1) (by omega) (a1)
 have k0c := k08.far_ (g' := w.heap.size) (j := 1) (by omega) (a1)
 have hkp : Kp w103 ((w103.setCell ⟨w.heap.size, 0, none⟩ (a0)).setCell ⟨w.heap.size, 1, none⟩ (a1)) := ((Kp.refl _).set_ ks (by decide) _).set_ kt (by decide) _
 obtain ⟨W141, hW⟩ : ∃ W, W = (w103.setCell ⟨w.heap.size, 0, none⟩ (a0)).setCell ⟨w.heap.size, 1, none⟩ (a1) := ⟨_, rfl⟩
 rw [← hW]
 rw [← hW] at hkp
 have hB : Below w.heap.size w W141 := by rw [hW]; exact ((k04.out).setCell (by simp) _).setCell (by simp) _
 have k0d := Lib.hid hB; clear hB
 have k0e := Lib.hid (k02.out.kp hkp)
 have k0f := Lib.hid (k03.out.kp hkp)
 have k0g := Lib.hid (k05.out.kp hkp)
 have ku : Bx W141 (w.heap.size) 24 [a0, a1] := by rw [hW]; exact k09
 have kv : Bx W141 (w.heap.size + 1) 24 [.bool gy, .slice Ay ny cy] := by rw [hW]; exact k0a
 have kw : Bx W141 (w.heap.size + 1 + 1) 26 [.bool false, .slice none 0 0, .bool false, .slice none 0 0] := by rw [hW]; exact k0b
 have kx : Bx W141 (w22.heap.size) 24 [d0, d1] := by rw [hW]; exact k0c
 clear hW hkp
 obtain ⟨k21, k22, k23, k24⟩ := ku.f2
 obtain ⟨k25, k26, k27, k28⟩ := kv.f2
 obtain ⟨k29, k2a, k2b, k2c, k2d, k2e⟩ := kw.f4
 obtain ⟨k2f, k2g, k2h, k2i⟩ := kx.f2
 have ky := idiv_any k _ _ d0 d1 y D W141 k0e.out k0f.out HBY.out HBD.out hk (by rw [HD.out]; exact gcd_ne HY0.out)
 (with_reducible refine ky.mono ?_)
 clear ky
 rintro e w170 ⟨e0, e1, f0, f1, rfl, k8, kc, k3⟩
 obtain ⟨k0h, k2j, k2k, k2l, k2m⟩ := ku.b2 k3
 obtain ⟨kz, k2n, k2o, k2p, k2q⟩ := kv.b2 k3
 obtain ⟨k0i, k2r, k2s, k2t, k2u, k2v, k2w⟩ := kw.b4 k3
 obtain ⟨k0j, k2x, k2y, k2z, k2A⟩ := kx.b2 k3
 have k0k := Lib.hid (k0g.out.kp (.of k3))
 have k0l := Lib.hid (Blw k0d.out k3)
 have k0m := Lib.hid k8
 have o_e0 := k8.one0
 have o_e1 := k8.one1
 have o_f0 := kc.one0
 have o_f1 := kc.one1
 clear k8 kc k3
 go_wp2_with fail
 have kA := kz.set_ 0 (e0)
 have k0n := k0h.far_ (g' := w.heap.size + 1) (j := 0) (by omega) (e0)
 have k0o := k0i.far_ (g' := w.heap.size + 1) (j := 0) (by omega) (e0)
 have k0p := k0j.far_ (g' := w.heap.size + 1) (j := 0) (by omega) (e0)
 have k0q := kA.set_ 1 (e1)
 have k0r := k0n.far_ (g' := w.heap.size + 1) (j := 1) (by omega) (e1)
 have k0s := k0o.far_ (g' := w.heap.size + 1) (j := 1) (by omega) (e1)
 have k0t := k0p.far_ (g' := w.heap.size + 1) (j := 1) (by omega) (e1)
 have hkp : Kp w170 ((w170.setCell ⟨w.heap.size + 1, 0, none⟩ (e0)).setCell ⟨w.heap.size + 1, 1, none⟩ (e1)) := ((Kp.refl _).set_ kz (by decide) _).set_ kA (by decide) _
 obtain ⟨W210, hW⟩ : ∃ W, W = (w170.setCell ⟨w.heap.size + 1, 0, none⟩ (e0)).setCell ⟨w.heap.size + 1, 1, none⟩ (e1) := ⟨_, rfl⟩
 rw [← hW]
 rw [← hW] at hkp
 have hB : Below w.heap.size w W210 := by rw [hW]; exact ((k0l.out).setCell (by simp <;> omega) _).setCell (by simp <;> omega) _
 have k0u := Lib.hid hB; clear hB
 have k0v := Lib.hid (k0k.out.kp hkp)
 have k0w := Lib.hid (k0m.out.kp hkp)
 have kB : Bx W210 (w.heap.size) 24 [a0, a1] := by rw [hW]; exact k0r
 have kC : Bx W210 (w.heap.size + 1) 24 [e0, e1] := by rw [hW]; exact k0q
 have kD : Bx W210 (w.heap.size + 1 + 1) 26 [.bool false, .slice none 0 0, .bool false, .slice none 0 0] := by rw [hW]; exact k0s
 have kE : Bx W210 (w22.heap.size) 24 [d0, d1] := by rw [hW]; exact k0t
 clear hW hkp
 obtain ⟨k2B, k2C, k2D, k2E⟩ := kB.f2
 obtain ⟨k2F, k2G, k2H, k2I⟩ := kC.f2
 obtain ⟨k2J, k2K, k2L, k2M, k2N, k2O⟩ := kD.f4
 obtain ⟨k2P, k2Q, k2R, k2S⟩ := kE.f2
 have kd := lowest_any a0 a1 e0 e1 (x / D) (y / D) W210 k0v.out k0w.out (by rw [HD.out]; exact low_ne HY0.out) (by rw [HD.out]; exact gcd_low HY0.out)
 rw [show Rat.divInt (x / D) (y / D) = r by rw [HD.out, divInt_low HY0.out, HR.out]] at kd
 (with_reducible refine kd.mono ?_)
 clear kd
 rintro e w241 ⟨u0, u1, u2, u3, rfl, k4, k5⟩
 obtain ⟨k2T, k2U, k2V, k2W, k2X⟩ := kB.b2 k5
 obtain ⟨k2Y, k2Z, k30, k31, k32⟩ := kC.b2 k5
 obtain ⟨kF, k0x, k0y, k0z, k0A, k33, k34⟩ := kD.b4 k5
 obtain ⟨k35, k36, k37, k38, k39⟩ := kE.b2 k5
 have k0B := Lib.hid (Blw k0u.out k5)
 have k0C := Lib.hid k4
 have o_u0 := k4.one0
 have o_u1 := k4.one1
 have o_u2 := k4.one2
 have o_u3 := k4.one3
 clear k4 k5
 go_wp2_with fail
 have kG := kF.set_ 0 (u0)
 have kH := kG.set_ 1 (u1)
 have k0D := kH.set_ 2 (u2)
 have hkp : Kp w241 ((((w241.setCell ⟨w.heap.size + 1 + 1, 0, none⟩ (u0)).setCell ⟨w.heap.size + 1 + 1, 1, none⟩ (u1)).setCell ⟨w.heap.size + 1 + 1, 2, none⟩ (u2)).setCell ⟨w.heap.size + 1 + 1, 3, none⟩ (u3)) := ((((Kp.refl _).set_ kF (by decide) _).set_ kG (by decide) _).set_ kH (by decide) _).set_ k0D (by decide) _
 refine bodyPost_ret (v := .agg #[u0, u1, u2, u3]) (by simp [results, Try.results68, go_sem, k0x, k0y, k0z, k0A]) rfl ⟨_, _, _, _, rfl, ?_, ((((k0B.out).setCell (by simp <;> omega) _).setCell (by simp <;> omega) _).setCell (by simp <;> omega) _).setCell (by simp <;> omega) _⟩
 exact k0C.out.kp hkp
theorem make_any (k : Nat) (p0 p1 q0 q1 : Value) (x y : Int) (w : World) (hx : IntV w p0 p1 x) (hy : IntV w q0 q1 y) (bx : I.Bd k x) (by_ : I.Bd k y) (hk : k ≤ 1000000000000) :
  Calls Try.prog 68 #[.agg #[p0, p1], .agg #[q0, q1]] w (RR (Rat.divInt x y) w) := by
 obtain ⟨gx, Ax, nx, cx, rfl, rfl⟩ := hx.form
 obtain ⟨gy, Ay, ny, cy, rfl, rfl⟩ := hy.form
 have h1 := hx.len.2
 have h2 := hy.len.2
 by_cases hy0 : ny = 0
 ·subst hy0
  rw [h2.1 rfl, Rat.divInt_zero]
  exact make_y0 k gx gy Ax Ay nx cx 0 cy x y w hx hy bx by_ hk
 ·by_cases hx0 : nx = 0
  ·subst hx0
   rw [h1.1 rfl, Rat.zero_divInt]
   exact make_x0 k gx gy Ax Ay 0 cx ny cy x y w hx hy bx by_ hk (by omega) (by omega)
  ·by_cases h3 : (Int.gcd x y : Int) = 1
   ·exact make_unit k gx gy Ax Ay nx cx ny cy x y w hx hy bx by_ hk (by omega) (by omega) (by omega) (by omega) (fun h => hy0 (h2.2 h)) h3
   ·exact make_more k gx gy Ax Ay nx cx ny cy x y w hx hy bx by_ hk (by omega) (by omega) (by omega) (by omega) (fun h => hy0 (h2.2 h)) h3
end Go.Proofs.Ytonkbckgbfcnkaa
