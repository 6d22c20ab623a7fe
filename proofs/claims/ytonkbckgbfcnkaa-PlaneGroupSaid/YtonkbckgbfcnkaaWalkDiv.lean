/-
 THE WALKS of package integer: Div.
-/
import Derived.Test.YtonkbckgbfcnkaaWalkDvd
import Derived.RegionTactic
import Derived.BigRegion
import Derived.ChangeAlike
import Derived.Test.YtonkbckgbfcnkaaWalkPlus
import Derived.Test.YtonkbckgbfcnkaaWalkMinus
namespace Go.Proofs.Ytonkbckgbfcnkaa
set_option maxHeartbeats 4000000
open Go.RowKit
attribute [local go_sem] run_store_one
set_option linter.unusedVariables false
set_option maxRecDepth 100000 in
theorem div_ff (va : Value) (B : Option Addr) (cb : Nat) (a b : List Int) (w : World) (ha : Sl w va a) (hb : Sl w (.slice B b.length cb) b) (ca : I.Can a) (cbb : I.Can b) (hl : a.length ≤ 1000000000000) (hlb : b.length ≤ 1000000000000) (hb0 : 0 < I.val b) (oa : va.oneCell' = true) :
  Calls Try.prog 90 #[.agg #[.bool false, va], .agg #[.bool false, .slice B b.length cb]] w (RII (I.val a / I.val b) (I.val a % I.val b) w) := by
 have HSA := Lib.hid ha; have HSB := Lib.hid hb; have HCA := Lib.hid ca; have HCB := Lib.hid cbb; have kh := Lib.hid hb0
 have hbl : ((b.length : Int) == 0) = false := beq_eq_false_iff_ne.2 (by
  intro h
  have := List.eq_nil_of_length_eq_zero (show b.length = 0 by omega)
  subst this
  simp [I.val] at hb0)
 have hm0 : 0 ≤ I.val a % I.val b := Int.emod_nonneg _ (by omega)
 have hm1 : I.val a % I.val b < I.val b := Int.emod_lt_of_pos _ hb0
 have hq0 : 0 ≤ I.val a / I.val b := Int.ediv_nonneg (I.val_nonneg ca.1) (by omega)
 obtain ⟨Q, hQ⟩ : ∃ Q, Q = I.val a / I.val b := ⟨_, rfl⟩
 obtain ⟨R, hR⟩ : ∃ R, R = I.val a % I.val b := ⟨_, rfl⟩
 rw [← hR] at hm0 hm1
 rw [← hQ] at hq0
 skip
 skip
 rw [← hQ, ← hR]
 have HQ := Lib.hid hQ; have HR := Lib.hid hR; have HM0 := Lib.hid hm0; have HM1 := Lib.hid hm1; have HQ0 := Lib.hid hq0
 clear ha hb ca cbb hb0 hQ hR hm0 hm1 hq0
 go_enter Try.func90, Try.ntmps90
 go_wp2_with fail
 obtain ⟨W1, hW⟩ : ∃ W, W = (((w.alloc (.cells #[.bool false, va] 24)).alloc (.cells #[.bool false, .slice B b.length cb] 24)).alloc (.cells #[.bool false, .slice none 0 0] 24)).alloc (.cells #[.bool false, .slice none 0 0] 24) := ⟨_, rfl⟩
 rw [← hW]
 have k7 : Bx W1 (w.heap.size) 24 [.bool false, va] := by rw [hW]; exact (((Bx.at_ rfl).alloc _).alloc _).alloc _
 have k8 : Bx W1 (w.heap.size + 1) 24 [.bool false, .slice B b.length cb] := by rw [hW]; exact ((Bx.at_ (by simp)).alloc _).alloc _
 have k9 : Bx W1 (w.heap.size + 1 + 1) 24 [.bool false, .slice none 0 0] := by rw [hW]; exact (Bx.at_ (by simp)).alloc _
 have ka : Bx W1 (w.heap.size + 1 + 1 + 1) 24 [.bool false, .slice none 0 0] := by rw [hW]; exact Bx.at_ (by simp)
 have hB : Below w.heap.size w W1 := by rw [hW]; exact ((((Below.refl _ _).alloc (by simp) _).alloc (by simp) _).alloc (by simp; omega) _).alloc (by simp; omega) _
 have k3 := Lib.hid hB; clear hW hB
 have F7 := Lib.hid (HSA.out.kp (.of k3.out))
 have F8 := Lib.hid (HSB.out.kp (.of k3.out))
 obtain ⟨kz, kA, kB, kC⟩ := k7.f2
 obtain ⟨kD, kE, kF, kG⟩ := k8.f2
 obtain ⟨kH, kI, kJ, kK⟩ := k9.f2
 obtain ⟨kL, kM, kN, kO⟩ := ka.f2
 have k4 := divide_any va (.slice B b.length cb) a b W1 F7.out F8.out HCA.out HCB.out hl kh.out
 rw [← HQ.out, ← HR.out] at k4
 (with_reducible refine k4.mono ?_)
 clear k4
 rintro e w25 ⟨q0, q1, r0, r1, rfl, k1, k2, k0⟩
 obtain ⟨kb, kP, kQ, kR, kS⟩ := k7.b2 k0
 obtain ⟨kc, kT, kU, kV, kW⟩ := k8.b2 k0
 obtain ⟨kd, kX, kY, kZ, l41⟩ := k9.b2 k0
 obtain ⟨ke, k01, k02, k03, l46⟩ := ka.b2 k0
 have kk := Lib.hid (Blw k3.out k0)
 have k5 := Lib.hid k1
 have o_q0 := k1.one0
 have o_q1 := k1.one1
 have k6 := Lib.hid k2
 have o_r0 := k2.one0
 have o_r1 := k2.one1
 clear k1 k2 k0
 obtain ⟨gq, Aq, nq, cq, rfl, rfl⟩ := k5.out.form
 obtain ⟨gr, Ar, nr, cr, rfl, rfl⟩ := k6.out.form
 have hlr := k6.out.len
 have hlq := k5.out.len
 clear hlr hlq
 go_wp2_with fail
 obtain ⟨W52, hW⟩ : ∃ W, W = (w25.alloc (.cells #[.bool false, .slice Aq nq cq] 24)).alloc (.cells #[.bool gr, .slice Ar nr cr] 24) := ⟨_, rfl⟩
 rw [← hW]
 have hB : Below w25.heap.size w25 W52 := by rw [hW]; exact ((Below.refl _ _).alloc (by simp) _).alloc (by simp <;> omega) _
 have k05 := kb.lt
 have k06 := kc.lt
 have k07 := kd.lt
 have k08 := ke.lt
 have kl : Bx W52 (w25.heap.size) 24 [.bool false, .slice Aq nq cq] := by rw [hW]; exact (Bx.at_ rfl).alloc _
 have km : Bx W52 (w25.heap.size + 1) 24 [.bool gr, .slice Ar nr cr] := by rw [hW]; exact Bx.at_ (by simp)
 clear hW
 obtain ⟨k09, k0a, k0b, k0c, l63⟩ := kb.b2 hB
 obtain ⟨k0e, k0f, k0g, k0h, l68⟩ := kc.b2 hB
 obtain ⟨kf, kn, ko, k0j, l73⟩ := kd.b2 hB
 obtain ⟨kq, kr, ks, k0l, l78⟩ := ke.b2 hB
 have kt := Lib.hid (k5.out.kp (.of hB))
 have ku := Lib.hid (k6.out.kp (.of hB))
 have kv := Lib.hid (Blw kk.out hB)
 clear hB
 obtain ⟨k0n, k0o, k0p, l87⟩ := kl.f2
 obtain ⟨k0r, k0s, k0t, l91⟩ := km.f2
 have HFQ := Lib.hid (kt.out.sign (g := false) (y := Q) (by have := HQ0.out; symm; simp; omega) (by omega))
 go_region
 have kw := kf.set_ 0 (.bool false)
 have kx := kq.far_ (g' := w.heap.size + 1 + 1) (j := 0) (by omega) (.bool false)
 have kg := kx.far_ (g' := w.heap.size + 1 + 1) (j := 1) (by omega) (.slice Aq nq cq)
 have ky := kg.set_ 0 (.bool gr)
 have hkp : Kp W52 (((((W52.setCell ⟨w.heap.size + 1 + 1, 0, none⟩ (.bool false)).setCell ⟨w.heap.size + 1 + 1, 1, none⟩ (.slice Aq nq cq)).setCell ⟨w.heap.size + 1 + 1 + 1, 0, none⟩ (.bool gr)).setCell ⟨w.heap.size + 1 + 1 + 1, 1, none⟩ (.slice Ar nr cr)).drew) := (((((Kp.refl _).set_ kf (by decide) _).set_ kw (by decide) _).set_ kg (by decide) _).set_ ky (by decide) _).drew
 go_wp2
 refine bodyPost_ret (v := .tuple #[.agg #[.bool false, .slice Aq nq cq], .agg #[.bool gr, .slice Ar nr cr]]) (by simp [results, Try.results90, go_sem, kn, ko, kr, ks]) rfl ⟨_, _, _, _, rfl, ?_, ?_, (((((kv.out).setCell (by simp <;> omega) _).setCell (by simp <;> omega) _).setCell (by simp <;> omega) _).setCell (by simp <;> omega) _).drew⟩
 ·exact HFQ.out.kp hkp
 ·exact ku.out.kp hkp
set_option maxRecDepth 100000 in
theorem div_ft0 (va : Value) (B : Option Addr) (cb : Nat) (a b : List Int) (w : World) (ha : Sl w va a) (hb : Sl w (.slice B b.length cb) b) (ca : I.Can a) (cbb : I.Can b) (hl : a.length ≤ 1000000000000) (hlb : b.length ≤ 1000000000000) (hb0 : 0 < I.val b) (oa : va.oneCell' = true) (hq : I.val a / I.val b = 0) :
  Calls Try.prog 90 #[.agg #[.bool false, va], .agg #[.bool true, .slice B b.length cb]] w (RII (-(I.val a / I.val b)) (I.val a % I.val b) w) := by
 have HSA := Lib.hid ha; have HSB := Lib.hid hb; have HCA := Lib.hid ca; have HCB := Lib.hid cbb; have kh := Lib.hid hb0
 have hbl : ((b.length : Int) == 0) = false := beq_eq_false_iff_ne.2 (by
  intro h
  have := List.eq_nil_of_length_eq_zero (show b.length = 0 by omega)
  subst this
  simp [I.val] at hb0)
 have hm0 : 0 ≤ I.val a % I.val b := Int.emod_nonneg _ (by omega)
 have hm1 : I.val a % I.val b < I.val b := Int.emod_lt_of_pos _ hb0
 have hq0 : 0 ≤ I.val a / I.val b := Int.ediv_nonneg (I.val_nonneg ca.1) (by omega)
 obtain ⟨Q, hQ⟩ : ∃ Q, Q = I.val a / I.val b := ⟨_, rfl⟩
 obtain ⟨R, hR⟩ : ∃ R, R = I.val a % I.val b := ⟨_, rfl⟩
 rw [← hR] at hm0 hm1
 rw [← hQ] at hq0
 skip
 rw [← hQ] at hq
 rw [← hQ, ← hR]
 have HQ := Lib.hid hQ; have HR := Lib.hid hR; have HM0 := Lib.hid hm0; have HM1 := Lib.hid hm1; have HQ0 := Lib.hid hq0
 clear ha hb ca cbb hb0 hQ hR hm0 hm1 hq0
 have HQQ := Lib.hid hq; clear hq
 go_enter Try.func90, Try.ntmps90
 go_wp2_with fail
 obtain ⟨W1, hW⟩ : ∃ W, W = (((w.alloc (.cells #[.bool false, va] 24)).alloc (.cells #[.bool true, .slice B b.length cb] 24)).alloc (.cells #[.bool false, .slice none 0 0] 24)).alloc (.cells #[.bool false, .slice none 0 0] 24) := ⟨_, rfl⟩
 rw [← hW]
 have k7 : Bx W1 (w.heap.size) 24 [.bool false, va] := by rw [hW]; exact (((Bx.at_ rfl).alloc _).alloc _).alloc _
 have k8 : Bx W1 (w.heap.size + 1) 24 [.bool true, .slice B b.length cb] := by rw [hW]; exact ((Bx.at_ (by simp)).alloc _).alloc _
 have k9 : Bx W1 (w.heap.size + 1 + 1) 24 [.bool false, .slice none 0 0] := by rw [hW]; exact (Bx.at_ (by simp)).alloc _
 have ka : Bx W1 (w.heap.size + 1 + 1 + 1) 24 [.bool false, .slice none 0 0] := by rw [hW]; exact Bx.at_ (by simp)
 have hB : Below w.heap.size w W1 := by rw [hW]; exact ((((Below.refl _ _).alloc (by simp) _).alloc (by simp) _).alloc (by simp; omega) _).alloc (by simp; omega) _
 have k3 := Lib.hid hB; clear hW hB
 have F7 := Lib.hid (HSA.out.kp (.of k3.out))
 have F8 := Lib.hid (HSB.out.kp (.of k3.out))
 obtain ⟨kz, kA, kB, kC⟩ := k7.f2
 obtain ⟨kD, kE, kF, kG⟩ := k8.f2
 obtain ⟨kH, kI, kJ, kK⟩ := k9.f2
 obtain ⟨kL, kM, kN, kO⟩ := ka.f2
 have k4 := divide_any va (.slice B b.length cb) a b W1 F7.out F8.out HCA.out HCB.out hl kh.out
 rw [← HQ.out, ← HR.out] at k4
 (with_reducible refine k4.mono ?_)
 clear k4
 rintro e w25 ⟨q0, q1, r0, r1, rfl, k1, k2, k0⟩
 obtain ⟨kb, kP, kQ, kR, kS⟩ := k7.b2 k0
 obtain ⟨kc, kT, kU, kV, kW⟩ := k8.b2 k0
 obtain ⟨kd, kX, kY, kZ, l41⟩ := k9.b2 k0
 obtain ⟨ke, k01, k02, k03, l46⟩ := ka.b2 k0
 have kk := Lib.hid (Blw k3.out k0)
 have k5 := Lib.hid k1
 have o_q0 := k1.one0
 have o_q1 := k1.one1
 have k6 := Lib.hid k2
 have o_r0 := k2.one0
 have o_r1 := k2.one1
 clear k1 k2 k0
 obtain ⟨gq, Aq, nq, cq, rfl, rfl⟩ := k5.out.form
 obtain ⟨gr, Ar, nr, cr, rfl, rfl⟩ := k6.out.form
 have hlr := k6.out.len
 have hlq := k5.out.len
 obtain rfl : nq = 0 := hlq.2.2 HQQ.out
 clear hlr hlq
 go_wp2_with fail
 obtain ⟨W52, hW⟩ : ∃ W, W = (w25.alloc (.cells #[.bool false, .slice Aq 0 cq] 24)).alloc (.cells #[.bool gr, .slice Ar nr cr] 24) := ⟨_, rfl⟩
 rw [← hW]
 have hB : Below w25.heap.size w25 W52 := by rw [hW]; exact ((Below.refl _ _).alloc (by simp) _).alloc (by simp <;> omega) _
 have k05 := kb.lt
 have k06 := kc.lt
 have k07 := kd.lt
 have k08 := ke.lt
 have kl : Bx W52 (w25.heap.size) 24 [.bool false, .slice Aq 0 cq] := by rw [hW]; exact (Bx.at_ rfl).alloc _
 have km : Bx W52 (w25.heap.size + 1) 24 [.bool gr, .slice Ar nr cr] := by rw [hW]; exact Bx.at_ (by simp)
 clear hW
 obtain ⟨k09, k0a, k0b, k0c, l63⟩ := kb.b2 hB
 obtain ⟨k0e, k0f, k0g, k0h, l68⟩ := kc.b2 hB
 obtain ⟨kf, kn, ko, k0j, l73⟩ := kd.b2 hB
 obtain ⟨kq, kr, ks, k0l, l78⟩ := ke.b2 hB
 have kt := Lib.hid (k5.out.kp (.of hB))
 have ku := Lib.hid (k6.out.kp (.of hB))
 have kv := Lib.hid (Blw kk.out hB)
 clear hB
 obtain ⟨k0n, k0o, k0p, l87⟩ := kl.f2
 obtain ⟨k0r, k0s, k0t, l91⟩ := km.f2
 have HFQ := Lib.hid (kt.out.sign (g := false) (y := -Q) (by have := HQ0.out; have := HQQ.out; symm; simp; omega) (by omega))
 go_region
 have kw := kf.set_ 0 (.bool false)
 have kx := kq.far_ (g' := w.heap.size + 1 + 1) (j := 0) (by omega) (.bool false)
 have kg := kx.far_ (g' := w.heap.size + 1 + 1) (j := 1) (by omega) (.slice Aq 0 cq)
 have ky := kg.set_ 0 (.bool gr)
 have hkp : Kp W52 (((((W52.setCell ⟨w.heap.size + 1 + 1, 0, none⟩ (.bool false)).setCell ⟨w.heap.size + 1 + 1, 1, none⟩ (.slice Aq 0 cq)).setCell ⟨w.heap.size + 1 + 1 + 1, 0, none⟩ (.bool gr)).setCell ⟨w.heap.size + 1 + 1 + 1, 1, none⟩ (.slice Ar nr cr)).drew) := (((((Kp.refl _).set_ kf (by decide) _).set_ kw (by decide) _).set_ kg (by decide) _).set_ ky (by decide) _).drew
 go_wp2
 refine bodyPost_ret (v := .tuple #[.agg #[.bool false, .slice Aq 0 cq], .agg #[.bool gr, .slice Ar nr cr]]) (by simp [results, Try.results90, go_sem, kn, ko, kr, ks]) rfl ⟨_, _, _, _, rfl, ?_, ?_, (((((kv.out).setCell (by simp <;> omega) _).setCell (by simp <;> omega) _).setCell (by simp <;> omega) _).setCell (by simp <;> omega) _).drew⟩
 ·exact HFQ.out.kp hkp
 ·exact ku.out.kp hkp
set_option maxRecDepth 100000 in
theorem div_ft1 (va : Value) (B : Option Addr) (cb : Nat) (a b : List Int) (w : World) (ha : Sl w va a) (hb : Sl w (.slice B b.length cb) b) (ca : I.Can a) (cbb : I.Can b) (hl : a.length ≤ 1000000000000) (hlb : b.length ≤ 1000000000000) (hb0 : 0 < I.val b) (oa : va.oneCell' = true) (hq : 0 < I.val a / I.val b) :
  Calls Try.prog 90 #[.agg #[.bool false, va], .agg #[.bool true, .slice B b.length cb]] w (RII (-(I.val a / I.val b)) (I.val a % I.val b) w) := by
 have HSA := Lib.hid ha; have HSB := Lib.hid hb; have HCA := Lib.hid ca; have HCB := Lib.hid cbb; have kh := Lib.hid hb0
 have hbl : ((b.length : Int) == 0) = false := beq_eq_false_iff_ne.2 (by
  intro h
  have := List.eq_nil_of_length_eq_zero (show b.length = 0 by omega)
  subst this
  simp [I.val] at hb0)
 have hm0 : 0 ≤ I.val a % I.val b := Int.emod_nonneg _ (by omega)
 have hm1 : I.val a % I.val b < I.val b := Int.emod_lt_of_pos _ hb0
 have hq0 : 0 ≤ I.val a / I.val b := Int.ediv_nonneg (I.val_nonneg ca.1) (by omega)
 obtain ⟨Q, hQ⟩ : ∃ Q, Q = I.val a / I.val b := ⟨_, rfl⟩
 obtain ⟨R, hR⟩ : ∃ R, R = I.val a % I.val b := ⟨_, rfl⟩
 rw [← hR] at hm0 hm1
 rw [← hQ] at hq0
 skip
 rw [← hQ] at hq
 rw [← hQ, ← hR]
 have HQ := Lib.hid hQ; have HR := Lib.hid hR; have HM0 := Lib.hid hm0; have HM1 := Lib.hid hm1; have HQ0 := Lib.hid hq0
 clear ha hb ca cbb hb0 hQ hR hm0 hm1 hq0
 have HQQ := Lib.hid hq; clear hq
 go_enter Try.func90, Try.ntmps90
 go_wp2_with fail
 obtain ⟨W1, hW⟩ : ∃ W, W = (((w.alloc (.cells #[.bool false, va] 24)).alloc (.cells #[.bool true, .slice B b.length cb] 24)).alloc (.cells #[.bool false, .slice none 0 0] 24)).alloc (.cells #[.bool false, .slice none 0 0] 24) := ⟨_, rfl⟩
 rw [← hW]
 have k7 : Bx W1 (w.heap.size) 24 [.bool false, va] := by rw [hW]; exact (((Bx.at_ rfl).alloc _).alloc _).alloc _
 have k8 : Bx W1 (w.heap.size + 1) 24 [.bool true, .slice B b.length cb] := by rw [hW]; exact ((Bx.at_ (by simp)).alloc _).alloc _
 have k9 : Bx W1 (w.heap.size + 1 + 1) 24 [.bool false, .slice none 0 0] := by rw [hW]; exact (Bx.at_ (by simp)).alloc _
 have ka : Bx W1 (w.heap.size + 1 + 1 + 1) 24 [.bool false, .slice none 0 0] := by rw [hW]; exact Bx.at_ (by simp)
 have hB : Below w.heap.size w W1 := by rw [hW]; exact ((((Below.refl _ _).alloc (by simp) _).alloc (by simp) _).alloc (by simp; omega) _).alloc (by simp; omega) _
 have k3 := Lib.hid hB; clear hW hB
 have F7 := Lib.hid (HSA.out.kp (.of k3.out))
 have F8 := Lib.hid (HSB.out.kp (.of k3.out))
 obtain ⟨kz, kA, kB, kC⟩ := k7.f2
 obtain ⟨kD, kE, kF, kG⟩ := k8.f2
 obtain ⟨kH, kI, kJ, kK⟩ := k9.f2
 obtain ⟨kL, kM, kN, kO⟩ := ka.f2
 have k4 := divide_any va (.slice B b.length cb) a b W1 F7.out F8.out HCA.out HCB.out hl kh.out
 rw [← HQ.out, ← HR.out] at k4
 (with_reducible refine k4.mono ?_)
 clear k4
 rintro e w25 ⟨q0, q1, r0, r1, rfl, k1, k2, k0⟩
 obtain ⟨kb, kP, kQ, kR, kS⟩ := k7.b2 k0
 obtain ⟨kc, kT, kU, kV, kW⟩ := k8.b2 k0
 obtain ⟨kd, kX, kY, kZ, l41⟩ := k9.b2 k0
 obtain ⟨ke, k01, k02, k03, l46⟩ := ka.b2 k0
 have kk := Lib.hid (Blw k3.out k0)
 have k5 := Lib.hid k1
 have o_q0 := k1.one0
 have o_q1 := k1.one1
 have k6 := Lib.hid k2
 have o_r0 := k2.one0
 have o_r1 := k2.one1
 clear k1 k2 k0
 obtain ⟨gq, Aq, nq, cq, rfl, rfl⟩ := k5.out.form
 obtain ⟨gr, Ar, nr, cr, rfl, rfl⟩ := k6.out.form
 have hlr := k6.out.len
 have hlq := k5.out.len
 have hnq : 0 < (nq : Int) := by
  have h1 := HQQ.out
  have h2 := hlq.2
  rcases Nat.eq_zero_or_pos nq with h3 | h3
  ·have := h2.1 h3; omega
  ·omega
 have hnq2 : 0 < nq := by omega
 clear hlr hlq
 go_wp2_with fail
 obtain ⟨W52, hW⟩ : ∃ W, W = (w25.alloc (.cells #[.bool true, .slice Aq nq cq] 24)).alloc (.cells #[.bool gr, .slice Ar nr cr] 24) := ⟨_, rfl⟩
 rw [← hW]
 have hB : Below w25.heap.size w25 W52 := by rw [hW]; exact ((Below.refl _ _).alloc (by simp) _).alloc (by simp <;> omega) _
 have k05 := kb.lt
 have k06 := kc.lt
 have k07 := kd.lt
 have k08 := ke.lt
 have kl : Bx W52 (w25.heap.size) 24 [.bool true, .slice Aq nq cq] := by rw [hW]; exact (Bx.at_ rfl).alloc _
 have km : Bx W52 (w25.heap.size + 1) 24 [.bool gr, .slice Ar nr cr] := by rw [hW]; exact Bx.at_ (by simp)
 clear hW
 obtain ⟨k09, k0a, k0b, k0c, l63⟩ := kb.b2 hB
 obtain ⟨k0e, k0f, k0g, k0h, l68⟩ := kc.b2 hB
 obtain ⟨kf, kn, ko, k0j, l73⟩ := kd.b2 hB
 obtain ⟨kq, kr, ks, k0l, l78⟩ := ke.b2 hB
 have kt := Lib.hid (k5.out.kp (.of hB))
 have ku := Lib.hid (k6.out.kp (.of hB))
 have kv := Lib.hid (Blw kk.out hB)
 clear hB
 obtain ⟨k0n, k0o, k0p, l87⟩ := kl.f2
 obtain ⟨k0r, k0s, k0t, l91⟩ := km.f2
 have HFQ := Lib.hid (kt.out.sign (g := true) (y := -Q) (by have := HQ0.out; have := HQQ.out; symm; simp; omega) (by omega))
 go_region
 have kw := kf.set_ 0 (.bool true)
 have kx := kq.far_ (g' := w.heap.size + 1 + 1) (j := 0) (by omega) (.bool true)
 have kg := kx.far_ (g' := w.heap.size + 1 + 1) (j := 1) (by omega) (.slice Aq nq cq)
 have ky := kg.set_ 0 (.bool gr)
 have hkp : Kp W52 (((((W52.setCell ⟨w.heap.size + 1 + 1, 0, none⟩ (.bool true)).setCell ⟨w.heap.size + 1 + 1, 1, none⟩ (.slice Aq nq cq)).setCell ⟨w.heap.size + 1 + 1 + 1, 0, none⟩ (.bool gr)).setCell ⟨w.heap.size + 1 + 1 + 1, 1, none⟩ (.slice Ar nr cr)).drew) := (((((Kp.refl _).set_ kf (by decide) _).set_ kw (by decide) _).set_ kg (by decide) _).set_ ky (by decide) _).drew
 go_wp2
 refine bodyPost_ret (v := .tuple #[.agg #[.bool true, .slice Aq nq cq], .agg #[.bool gr, .slice Ar nr cr]]) (by simp [results, Try.results90, go_sem, kn, ko, kr, ks]) rfl ⟨_, _, _, _, rfl, ?_, ?_, (((((kv.out).setCell (by simp <;> omega) _).setCell (by simp <;> omega) _).setCell (by simp <;> omega) _).setCell (by simp <;> omega) _).drew⟩
 ·exact HFQ.out.kp hkp
 ·exact ku.out.kp hkp
set_option maxRecDepth 100000 in
theorem div_tf0 (va : Value) (B : Option Addr) (cb : Nat) (a b : List Int) (w : World) (ha : Sl w va a) (hb : Sl w (.slice B b.length cb) b) (ca : I.Can a) (cbb : I.Can b) (hl : a.length ≤ 1000000000000) (hlb : b.length ≤ 1000000000000) (hb0 : 0 < I.val b) (oa : va.oneCell' = true) (hr : I.val a % I.val b = 0) (hq : I.val a / I.val b = 0) :
  Calls Try.prog 90 #[.agg #[.bool true, va], .agg #[.bool false, .slice B b.length cb]] w (RII (-(I.val a / I.val b)) (I.val a % I.val b) w) := by
 have HSA := Lib.hid ha; have HSB := Lib.hid hb; have HCA := Lib.hid ca; have HCB := Lib.hid cbb; have kh := Lib.hid hb0
 have hbl : ((b.length : Int) == 0) = false := beq_eq_false_iff_ne.2 (by
  intro h
  have := List.eq_nil_of_length_eq_zero (show b.length = 0 by omega)
  subst this
  simp [I.val] at hb0)
 have hm0 : 0 ≤ I.val a % I.val b := Int.emod_nonneg _ (by omega)
 have hm1 : I.val a % I.val b < I.val b := Int.emod_lt_of_pos _ hb0
 have hq0 : 0 ≤ I.val a / I.val b := Int.ediv_nonneg (I.val_nonneg ca.1) (by omega)
 obtain ⟨Q, hQ⟩ : ∃ Q, Q = I.val a / I.val b := ⟨_, rfl⟩
 obtain ⟨R, hR⟩ : ∃ R, R = I.val a % I.val b := ⟨_, rfl⟩
 rw [← hR] at hm0 hm1
 rw [← hQ] at hq0
 rw [← hR] at hr
 rw [← hQ] at hq
 rw [← hQ, ← hR]
 have HQ := Lib.hid hQ; have HR := Lib.hid hR; have HM0 := Lib.hid hm0; have HM1 := Lib.hid hm1; have HQ0 := Lib.hid hq0
 clear ha hb ca cbb hb0 hQ hR hm0 hm1 hq0
 have HRR := Lib.hid hr; clear hr
 have HQQ := Lib.hid hq; clear hq
 go_enter Try.func90, Try.ntmps90
 go_wp2_with fail
 obtain ⟨W1, hW⟩ : ∃ W, W = (((w.alloc (.cells #[.bool true, va] 24)).alloc (.cells #[.bool false, .slice B b.length cb] 24)).alloc (.cells #[.bool false, .slice none 0 0] 24)).alloc (.cells #[.bool false, .slice none 0 0] 24) := ⟨_, rfl⟩
 rw [← hW]
 have k7 : Bx W1 (w.heap.size) 24 [.bool true, va] := by rw [hW]; exact (((Bx.at_ rfl).alloc _).alloc _).alloc _
 have k8 : Bx W1 (w.heap.size + 1) 24 [.bool false, .slice B b.length cb] := by rw [hW]; exact ((Bx.at_ (by simp)).alloc _).alloc _
 have k9 : Bx W1 (w.heap.size + 1 + 1) 24 [.bool false, .slice none 0 0] := by rw [hW]; exact (Bx.at_ (by simp)).alloc _
 have ka : Bx W1 (w.heap.size + 1 + 1 + 1) 24 [.bool false, .slice none 0 0] := by rw [hW]; exact Bx.at_ (by simp)
 have hB : Below w.heap.size w W1 := by rw [hW]; exact ((((Below.refl _ _).alloc (by simp) _).alloc (by simp) _).alloc (by simp; omega) _).alloc (by simp; omega) _
 have k3 := Lib.hid hB; clear hW hB
 have F7 := Lib.hid (HSA.out.kp (.of k3.out))
 have F8 := Lib.hid (HSB.out.kp (.of k3.out))
 obtain ⟨kz, kA, kB, kC⟩ := k7.f2
 obtain ⟨kD, kE, kF, kG⟩ := k8.f2
 obtain ⟨kH, kI, kJ, kK⟩ := k9.f2
 obtain ⟨kL, kM, kN, kO⟩ := ka.f2
 have k4 := divide_any va (.slice B b.length cb) a b W1 F7.out F8.out HCA.out HCB.out hl kh.out
 rw [← HQ.out, ← HR.out] at k4
 (with_reducible refine k4.mono ?_)
 clear k4
 rintro e w25 ⟨q0, q1, r0, r1, rfl, k1, k2, k0⟩
 obtain ⟨kb, kP, kQ, kR, kS⟩ := k7.b2 k0
 obtain ⟨kc, kT, kU, kV, kW⟩ := k8.b2 k0
 obtain ⟨kd, kX, kY, kZ, l41⟩ := k9.b2 k0
 obtain ⟨ke, k01, k02, k03, l46⟩ := ka.b2 k0
 have kk := Lib.hid (Blw k3.out k0)
 have k5 := Lib.hid k1
 have o_q0 := k1.one0
 have o_q1 := k1.one1
 have k6 := Lib.hid k2
 have o_r0 := k2.one0
 have o_r1 := k2.one1
 clear k1 k2 k0
 obtain ⟨gq, Aq, nq, cq, rfl, rfl⟩ := k5.out.form
 obtain ⟨gr, Ar, nr, cr, rfl, rfl⟩ := k6.out.form
 have hlr := k6.out.len
 have hlq := k5.out.len
 obtain rfl : nr = 0 := hlr.2.2 HRR.out
 obtain rfl : nq = 0 := hlq.2.2 HQQ.out
 clear hlr hlq
 go_wp2_with fail
 obtain ⟨W52, hW⟩ : ∃ W, W = (w25.alloc (.cells #[.bool false, .slice Aq 0 cq] 24)).alloc (.cells #[.bool gr, .slice Ar 0 cr] 24) := ⟨_, rfl⟩
 rw [← hW]
 have hB : Below w25.heap.size w25 W52 := by rw [hW]; exact ((Below.refl _ _).alloc (by simp) _).alloc (by simp <;> omega) _
 have k05 := kb.lt
 have k06 := kc.lt
 have k07 := kd.lt
 have k08 := ke.lt
 have kl : Bx W52 (w25.heap.size) 24 [.bool false, .slice Aq 0 cq] := by rw [hW]; exact (Bx.at_ rfl).alloc _
 have km : Bx W52 (w25.heap.size + 1) 24 [.bool gr, .slice Ar 0 cr] := by rw [hW]; exact Bx.at_ (by simp)
 clear hW
 obtain ⟨k09, k0a, k0b, k0c, l63⟩ := kb.b2 hB
 obtain ⟨k0e, k0f, k0g, k0h, l68⟩ := kc.b2 hB
 obtain ⟨kf, kn, ko, k0j, l73⟩ := kd.b2 hB
 obtain ⟨kq, kr, ks, k0l, l78⟩ := ke.b2 hB
 have kt := Lib.hid (k5.out.kp (.of hB))
 have ku := Lib.hid (k6.out.kp (.of hB))
 have kv := Lib.hid (Blw kk.out hB)
 clear hB
 obtain ⟨k0n, k0o, k0p, l87⟩ := kl.f2
 obtain ⟨k0r, k0s, k0t, l91⟩ := km.f2
 have HFQ := Lib.hid (kt.out.sign (g := false) (y := -Q) (by have := HQ0.out; have := HQQ.out; symm; simp; omega) (by omega))
 go_region
 have kw := kf.set_ 0 (.bool false)
 have kx := kq.far_ (g' := w.heap.size + 1 + 1) (j := 0) (by omega) (.bool false)
 have kg := kx.far_ (g' := w.heap.size + 1 + 1) (j := 1) (by omega) (.slice Aq 0 cq)
 have ky := kg.set_ 0 (.bool gr)
 have hkp : Kp W52 (((((W52.setCell ⟨w.heap.size + 1 + 1, 0, none⟩ (.bool false)).setCell ⟨w.heap.size + 1 + 1, 1, none⟩ (.slice Aq 0 cq)).setCell ⟨w.heap.size + 1 + 1 + 1, 0, none⟩ (.bool gr)).setCell ⟨w.heap.size + 1 + 1 + 1, 1, none⟩ (.slice Ar 0 cr)).drew) := (((((Kp.refl _).set_ kf (by decide) _).set_ kw (by decide) _).set_ kg (by decide) _).set_ ky (by decide) _).drew
 go_wp2
 refine bodyPost_ret (v := .tuple #[.agg #[.bool false, .slice Aq 0 cq], .agg #[.bool gr, .slice Ar 0 cr]]) (by simp [results, Try.results90, go_sem, kn, ko, kr, ks]) rfl ⟨_, _, _, _, rfl, ?_, ?_, (((((kv.out).setCell (by simp <;> omega) _).setCell (by simp <;> omega) _).setCell (by simp <;> omega) _).setCell (by simp <;> omega) _).drew⟩
 ·exact HFQ.out.kp hkp
 ·exact ku.out.kp hkp
set_option maxRecDepth 100000 in
theorem div_tf1 (va : Value) (B : Option Addr) (cb : Nat) (a b : List Int) (w : World) (ha : Sl w va a) (hb : Sl w (.slice B b.length cb) b) (ca : I.Can a) (cbb : I.Can b) (hl : a.length ≤ 1000000000000) (hlb : b.length ≤ 1000000000000) (hb0 : 0 < I.val b) (oa : va.oneCell' = true) (hr : I.val a % I.val b = 0) (hq : 0 < I.val a / I.val b) :
  Calls Try.prog 90 #[.agg #[.bool true, va], .agg #[.bool false, .slice B b.length cb]] w (RII (-(I.val a / I.val b)) (I.val a % I.val b) w) := by
 have HSA := Lib.hid ha; have HSB := Lib.hid hb; have HCA := Lib.hid ca; have HCB := Lib.hid cbb; have kh := Lib.hid hb0
 have hbl : ((b.length : Int) == 0) = false := beq_eq_false_iff_ne.2 (by
  intro h
  have := List.eq_nil_of_length_eq_zero (show b.length = 0 by omega)
  subst this
  simp [I.val] at hb0)
 have hm0 : 0 ≤ I.val a % I.val b := Int.emod_nonneg _ (by omega)
 have hm1 : I.val a % I.val b < I.val b := Int.emod_lt_of_pos _ hb0
 have hq0 : 0 ≤ I.val a / I.val b := Int.ediv_nonneg (I.val_nonneg ca.1) (by omega)
 obtain ⟨Q, hQ⟩ : ∃ Q, Q = I.val a / I.val b := ⟨_, rfl⟩
 obtain ⟨R, hR⟩ : ∃ R, R = I.val a % I.val b := ⟨_, rfl⟩
 rw [← hR] at hm0 hm1
 rw [← hQ] at hq0
 rw [← hR] at hr
 rw [← hQ] at hq
 rw [← hQ, ← hR]
 have HQ := Lib.hid hQ; have HR := Lib.hid hR; have HM0 := Lib.hid hm0; have HM1 := Lib.hid hm1; have HQ0 := Lib.hid hq0
 clear ha hb ca cbb hb0 hQ hR hm0 hm1 hq0
 have HRR := Lib.hid hr; clear hr
 have HQQ := Lib.hid hq; clear hq
 go_enter Try.func90, Try.ntmps90
 go_wp2_with fail
 obtain ⟨W1, hW⟩ : ∃ W, W = (((w.alloc (.cells #[.bool true, va] 24)).alloc (.cells #[.bool false, .slice B b.length cb] 24)).alloc (.cells #[.bool false, .slice none 0 0] 24)).alloc (.cells #[.bool false, .slice none 0 0] 24) := ⟨_, rfl⟩
 rw [← hW]
 have k7 : Bx W1 (w.heap.size) 24 [.bool true, va] := by rw [hW]; exact (((Bx.at_ rfl).alloc _).alloc _).alloc _
 have k8 : Bx W1 (w.heap.size + 1) 24 [.bool false, .slice B b.length cb] := by rw [hW]; exact ((Bx.at_ (by simp)).alloc _).alloc _
 have k9 : Bx W1 (w.heap.size + 1 + 1) 24 [.bool false, .slice none 0 0] := by rw [hW]; exact (Bx.at_ (by simp)).alloc _
 have ka : Bx W1 (w.heap.size + 1 + 1 + 1) 24 [.bool false, .slice none 0 0] := by rw [hW]; exact Bx.at_ (by simp)
 have hB : Below w.heap.size w W1 := by rw [hW]; exact ((((Below.refl _ _).alloc (by simp) _).alloc (by simp) _).alloc (by simp; omega) _).alloc (by simp; omega) _
 have k3 := Lib.hid hB; clear hW hB
 have F7 := Lib.hid (HSA.out.kp (.of k3.out))
 have F8 := Lib.hid (HSB.out.kp (.of k3.out))
 obtain ⟨kz, kA, kB, kC⟩ := k7.f2
 obtain ⟨kD, kE, kF, kG⟩ := k8.f2
 obtain ⟨kH, kI, kJ, kK⟩ := k9.f2
 obtain ⟨kL, kM, kN, kO⟩ := ka.f2
 have k4 := divide_any va (.slice B b.length cb) a b W1 F7.out F8.out HCA.out HCB.out hl kh.out
 rw [← HQ.out, ← HR.out] at k4
 (with_reducible refine k4.mono ?_)
 clear k4
 rintro e w25 ⟨q0, q1, r0, r1, rfl, k1, k2, k0⟩
 obtain ⟨kb, kP, kQ, kR, kS⟩ := k7.b2 k0
 obtain ⟨kc, kT, kU, kV, kW⟩ := k8.b2 k0
 obtain ⟨kd, kX, kY, kZ, l41⟩ := k9.b2 k0
 obtain ⟨ke, k01, k02, k03, l46⟩ := ka.b2 k0
 have kk := Lib.hid (Blw k3.out k0)
 have k5 := Lib.hid k1
 have o_q0 := k1.one0
 have o_q1 := k1.one1
 have k6 := Lib.hid k2
 have o_r0 := k2.one0
 have o_r1 := k2.one1
 clear k1 k2 k0
 obtain ⟨gq, Aq, nq, cq, rfl, rfl⟩ := k5.out.form
 obtain ⟨gr, Ar, nr, cr, rfl, rfl⟩ := k6.out.form
 have hlr := k6.out.len
 have hlq := k5.out.len
 obtain rfl : nr = 0 := hlr.2.2 HRR.out
 have hnq : 0 < (nq : Int) := by
  have h1 := HQQ.out
  have h2 := hlq.2
  rcases Nat.eq_zero_or_pos nq with h3 | h3
  ·have := h2.1 h3; omega
  ·omega
 have hnq2 : 0 < nq := by omega
 clear hlr hlq
 go_wp2_with fail
 obtain ⟨W52, hW⟩ : ∃ W, W = (w25.alloc (.cells #[.bool true, .slice Aq nq cq] 24)).alloc (.cells #[.bool gr, .slice Ar 0 cr] 24) := ⟨_, rfl⟩
 rw [← hW]
 have hB : Below w25.heap.size w25 W52 := by rw [hW]; exact ((Below.refl _ _).alloc (by simp) _).alloc (by simp <;> omega) _
 have k05 := kb.lt
 have k06 := kc.lt
 have k07 := kd.lt
 have k08 := ke.lt
 have kl : Bx W52 (w25.heap.size) 24 [.bool true, .slice Aq nq cq] := by rw [hW]; exact (Bx.at_ rfl).alloc _
 have km : Bx W52 (w25.heap.size + 1) 24 [.bool gr, .slice Ar 0 cr] := by rw [hW]; exact Bx.at_ (by simp)
 clear hW
 obtain ⟨k09, k0a, k0b, k0c, l63⟩ := kb.b2 hB
 obtain ⟨k0e, k0f, k0g, k0h, l68⟩ := kc.b2 hB
 obtain ⟨kf, kn, ko, k0j, l73⟩ := kd.b2 hB
 obtain ⟨kq, kr, ks, k0l, l78⟩ := ke.b2 hB
 have kt := Lib.hid (k5.out.kp (.of hB))
 have ku := Lib.hid (k6.out.kp (.of hB))
 have kv := Lib.hid (Blw kk.out hB)
 clear hB
 obtain ⟨k0n, k0o, k0p, l87⟩ := kl.f2
 obtain ⟨k0r, k0s, k0t, l91⟩ := km.f2
 have HFQ := Lib.hid (kt.out.sign (g := true) (y := -Q) (by have := HQ0.out; have := HQQ.out; symm; simp; omega) (by omega))
 go_region
 have kw := kf.set_ 0 (.bool true)
 have kx := kq.far_ (g' := w.heap.size + 1 + 1) (j := 0) (by omega) (.bool true)
 have kg := kx.far_ (g' := w.heap.size + 1 + 1) (j := 1) (by omega) (.slice Aq nq cq)
 have ky := kg.set_ 0 (.bool gr)
 have hkp : Kp W52 (((((W52.setCell ⟨w.heap.size + 1 + 1, 0, none⟩ (.bool true)).setCell ⟨w.heap.size + 1 + 1, 1, none⟩ (.slice Aq nq cq)).setCell ⟨w.heap.size + 1 + 1 + 1, 0, none⟩ (.bool gr)).setCell ⟨w.heap.size + 1 + 1 + 1, 1, none⟩ (.slice Ar 0 cr)).drew) := (((((Kp.refl _).set_ kf (by decide) _).set_ kw (by decide) _).set_ kg (by decide) _).set_ ky (by decide) _).drew
 go_wp2
 refine bodyPost_ret (v := .tuple #[.agg #[.bool true, .slice Aq nq cq], .agg #[.bool gr, .slice Ar 0 cr]]) (by simp [results, Try.results90, go_sem, kn, ko, kr, ks]) rfl ⟨_, _, _, _, rfl, ?_, ?_, (((((kv.out).setCell (by simp <;> omega) _).setCell (by simp <;> omega) _).setCell (by simp <;> omega) _).setCell (by simp <;> omega) _).drew⟩
 ·exact HFQ.out.kp hkp
 ·exact ku.out.kp hkp
set_option maxRecDepth 100000 in
theorem div_tfm (va : Value) (B : Option Addr) (cb : Nat) (a b : List Int) (w : World) (ha : Sl w va a) (hb : Sl w (.slice B b.length cb) b) (ca : I.Can a) (cbb : I.Can b) (hl : a.length ≤ 1000000000000) (hlb : b.length ≤ 1000000000000) (hb0 : 0 < I.val b) (oa : va.oneCell' = true) (hr : 0 < I.val a % I.val b) :
  Calls Try.prog 90 #[.agg #[.bool true, va], .agg #[.bool false, .slice B b.length cb]] w (RII (-(I.val a / I.val b + 1)) (I.val b - I.val a % I.val b) w) := by
 have HSA := Lib.hid ha; have HSB := Lib.hid hb; have HCA := Lib.hid ca; have HCB := Lib.hid cbb; have kR := Lib.hid hb0
 have hbl : ((b.length : Int) == 0) = false := beq_eq_false_iff_ne.2 (by
  intro h
  have := List.eq_nil_of_length_eq_zero (show b.length = 0 by omega)
  subst this
  simp [I.val] at hb0)
 have hm0 : 0 ≤ I.val a % I.val b := Int.emod_nonneg _ (by omega)
 have hm1 : I.val a % I.val b < I.val b := Int.emod_lt_of_pos _ hb0
 have hq0 : 0 ≤ I.val a / I.val b := Int.ediv_nonneg (I.val_nonneg ca.1) (by omega)
 obtain ⟨Q, hQ⟩ : ∃ Q, Q = I.val a / I.val b := ⟨_, rfl⟩
 obtain ⟨R, hR⟩ : ∃ R, R = I.val a % I.val b := ⟨_, rfl⟩
 rw [← hR] at hm0 hm1
 rw [← hQ] at hq0
 rw [← hR] at hr
 skip
 rw [← hQ, ← hR]
 have HQ := Lib.hid hQ; have HR := Lib.hid hR; have HM0 := Lib.hid hm0; have HM1 := Lib.hid hm1; have HQ0 := Lib.hid hq0
 clear ha hb ca cbb hb0 hQ hR hm0 hm1 hq0
 have HRR := Lib.hid hr; clear hr
 go_enter Try.func90, Try.ntmps90
 go_wp2_with fail
 obtain ⟨W1, hW⟩ : ∃ W, W = (((w.alloc (.cells #[.bool true, va] 24)).alloc (.cells #[.bool false, .slice B b.length cb] 24)).alloc (.cells #[.bool false, .slice none 0 0] 24)).alloc (.cells #[.bool false, .slice none 0 0] 24) := ⟨_, rfl⟩
 rw [← hW]
 have km : Bx W1 (w.heap.size) 24 [.bool true, va] := by rw [hW]; exact (((Bx.at_ rfl).alloc _).alloc _).alloc _
 have kn : Bx W1 (w.heap.size + 1) 24 [.bool false, .slice B b.length cb] := by rw [hW]; exact ((Bx.at_ (by simp)).alloc _).alloc _
 have ko : Bx W1 (w.heap.size + 1 + 1) 24 [.bool false, .slice none 0 0] := by rw [hW]; exact (Bx.at_ (by simp)).alloc _
 have kq : Bx W1 (w.heap.size + 1 + 1 + 1) 24 [.bool false, .slice none 0 0] := by rw [hW]; exact Bx.at_ (by simp)
 have hB : Below w.heap.size w W1 := by rw [hW]; exact ((((Below.refl _ _).alloc (by simp) _).alloc (by simp) _).alloc (by simp; omega) _).alloc (by simp; omega) _
 have kf := Lib.hid hB; clear hW hB
 have F7 := Lib.hid (HSA.out.kp (.of kf.out))
 have F8 := Lib.hid (HSB.out.kp (.of kf.out))
 obtain ⟨k1o, k1p, k1q, l12⟩ := km.f2
 obtain ⟨k1s, k1t, k1u, l16⟩ := kn.f2
 obtain ⟨k1w, k1x, k1y, l20⟩ := ko.f2
 obtain ⟨k1A, k1B, k1C, l24⟩ := kq.f2
 have kg := divide_any va (.slice B b.length cb) a b W1 F7.out F8.out HCA.out HCB.out hl kR.out
 rw [← HQ.out, ← HR.out] at kg
 (with_reducible refine kg.mono ?_)
 clear kg
 rintro e w25 ⟨q0, q1, r0, r1, rfl, k6, k7, k4⟩
 obtain ⟨ks, k1E, k1F, k1G, l31⟩ := km.b2 k4
 obtain ⟨kt, k1I, k1J, k1K, l36⟩ := kn.b2 k4
 obtain ⟨ku, k1M, k1N, k1O, l41⟩ := ko.b2 k4
 obtain ⟨kv, k1Q, k1R, k1S, l46⟩ := kq.b2 k4
 have kT := Lib.hid (F8.out.kp (.of k4))
 have kU := Lib.hid (Blw kf.out k4)
 have kh := Lib.hid k6
 have o_q0 := k6.one0
 have o_q1 := k6.one1
 have ki := Lib.hid k7
 have o_r0 := k7.one0
 have o_r1 := k7.one1
 clear k6 k7 k4
 obtain ⟨gq, Aq, nq, cq, rfl, rfl⟩ := kh.out.form
 obtain ⟨gr, Ar, nr, cr, rfl, rfl⟩ := ki.out.form
 have hlr := ki.out.len
 have hlq := kh.out.len
 have hnr : 0 < (nr : Int) := by
  have h1 := HRR.out
  have h2 := hlr.2
  rcases Nat.eq_zero_or_pos nr with h3 | h3
  ·have := h2.1 h3; omega
  ·omega
 have hnr2 : 0 < nr := by omega
 clear hlr hlq
 go_wp2_with fail
 have hnq0 := HQ0.out
 obtain ⟨lq, slq, canq, vlq⟩ := kh.out.sl
 obtain ⟨lr, slr, canr, vlr⟩ := ki.out.sl
 have blq : lq.length ≤ 1000000000000 := Nat.le_trans (canq.len HCA.out.1 (by rw [vlq]; have := HQ.out; have := Int.ediv_le_self (I.val b) (I.val_nonneg HCA.out.1); omega)) hl
 have HSQ := Lib.hid slq; have HSR := Lib.hid slr; have HCQ := Lib.hid canq; have HCR := Lib.hid canr; have HVQ := Lib.hid vlq; have HVR := Lib.hid vlr
 clear slq slr canq canr vlq vlr
 obtain ⟨W52, hW⟩ : ∃ W, W = ((w25.alloc (.cells #[.bool gq, .slice Aq nq cq] 24)).alloc (.cells #[.bool gr, .slice Ar nr cr] 24)).alloc (.cells #[.int .i64 1] 3) := ⟨_, rfl⟩
 rw [← hW]
 have hB : Below w25.heap.size w25 W52 := by rw [hW]; exact (((Below.refl _ _).alloc (by simp) _).alloc (by simp <;> omega) _).alloc (by simp <;> omega) _
 have k1U := ks.lt
 have k1V := kt.lt
 have k1W := ku.lt
 have k1X := kv.lt
 have kw : Bx W52 (w25.heap.size) 24 [.bool gq, .slice Aq nq cq] := by rw [hW]; exact ((Bx.at_ rfl).alloc _).alloc _
 have kx : Bx W52 (w25.heap.size + 1) 24 [.bool gr, .slice Ar nr cr] := by rw [hW]; exact (Bx.at_ (by simp)).alloc _
 have k5 : Bx W52 (w25.heap.size + 1 + 1) 3 [.int .i64 1] := by rw [hW]; exact Bx.at_ (by simp)
 clear hW
 obtain ⟨kV, k1Y, k1Z, k20, l64⟩ := ks.b2 hB
 obtain ⟨kW, k22, k23, k24, l69⟩ := kt.b2 hB
 obtain ⟨kX, k26, k27, k28, l74⟩ := ku.b2 hB
 obtain ⟨kY, k2a, k2b, k2c, l79⟩ := kv.b2 hB
 have kZ := Lib.hid (kT.out.kp (.of hB))
 have F84 := Lib.hid (HSQ.out.kp (.of hB))
 have F85 := Lib.hid (HSR.out.kp (.of hB))
 have k02 := Lib.hid (Blw kU.out hB)
 clear hB
 obtain ⟨k2e, k2f, k2g, l90⟩ := kw.f2
 obtain ⟨k2i, k2j, k2k, l94⟩ := kx.f2
 have k2m := k5.cell (i := 0) rfl
 have k2n := k5.frozen
 have l97 := k5.lt
 have h1s : Sl W52 (.slice (some ⟨w25.heap.size + 1 + 1, 0, none⟩) 1 1) [1] := (show Bk W52 (w25.heap.size + 1 + 1) [1] from k5).sl rfl (Nat.le_refl _) (by decide)
 have ky := plus_any (.slice Aq nq cq) _ lq [1] W52 F84.out h1s HCQ.out.1 (I.Can.one (by omega) (by omega)).1 blq (by simp)
 (with_reducible refine ky.mono ?_)
 clear ky
 rintro e w98 ⟨v1, Lv1, rfl, hS99, hP99, k0⟩
 obtain ⟨k03, k2p, k2q, k2r, k2s⟩ := kV.b2 k0
 obtain ⟨k04, k2t, k2u, k2v, k2w⟩ := kW.b2 k0
 obtain ⟨k05, k2x, k2y, k2z, k2A⟩ := kX.b2 k0
 obtain ⟨k06, k2B, k2C, k2D, k2E⟩ := kY.b2 k0
 obtain ⟨k07, k2F, k2G, k2H, k2I⟩ := kw.b2 k0
 obtain ⟨k08, k2J, k2K, k2L, k2M⟩ := kx.b2 k0
 have k8 := k5.below k0
 have k2N := k8.cell (i := 0) rfl
 have k2O := k8.frozen
 have k2P := k8.lt
 have k09 := Lib.hid (kZ.out.kp (.of k0))
 have k0a := Lib.hid (F85.out.kp (.of k0))
 have k0b := Lib.hid (Blw k02.out k0)
 have k0c := Lib.hid hS99
 have Pv1 := Lib.hid hP99
 clear hS99 hP99 k0
 go_wp2_with fail
 have kz := of_any false v1 Lv1 w98 k0c.out Pv1.out.1
 (with_reducible refine kz.mono ?_)
 clear kz
 rintro e w142 ⟨p0, p1, rfl, k9, k1⟩
 obtain ⟨k0d, k2Q, k2R, k2S, k2T⟩ := k03.b2 k1
 obtain ⟨k0e, k2U, k2V, k2W, k2X⟩ := k04.b2 k1
 obtain ⟨k0f, k2Y, k2Z, k30, k31⟩ := k05.b2 k1
 obtain ⟨k0g, k32, k33, k34, k35⟩ := k06.b2 k1
 obtain ⟨kA, k36, k37, k38, k39⟩ := k07.b2 k1
 obtain ⟨k0h, k3a, k3b, k3c, k3d⟩ := k08.b2 k1
 have ka := k8.below k1
 have k3e := ka.cell (i := 0) rfl
 have k3f := ka.frozen
 have k3g := ka.lt
 have k0i := Lib.hid (k09.out.kp (.of k1))
 have k0j := Lib.hid (k0a.out.kp (.of k1))
 have k0k := Lib.hid (Blw k0b.out k1)
 have kB := Lib.hid k9
 have o_p0 := k9.one0
 have o_p1 := k9.one1
 clear k9 k1
 have hvp : I.val Lv1 = Q + 1 := by rw [Pv1.out.2.1, HVQ.out]; simp [I.val]; have := HQ0.out; omega
 rw [sg_false, hvp] at kB
 clear hvp
 go_wp2_with fail
 have kC := kA.set_ 0 (p0)
 have k0l := k0d.far_ (g' := w25.heap.size) (j := 0) (by omega) (p0)
 have k0m := k0e.far_ (g' := w25.heap.size) (j := 0) (by omega) (p0)
 have k0n := k0f.far_ (g' := w25.heap.size) (j := 0) (by omega) (p0)
 have k0o := k0g.far_ (g' := w25.heap.size) (j := 0) (by omega) (p0)
 have k0p := k0h.far_ (g' := w25.heap.size) (j := 0) (by omega) (p0)
 have k0q := ka.far_ (g' := w25.heap.size) (j := 0) (by omega) (p0)
 have k0r := kC.set_ 1 (p1)
 have k0s := k0l.far_ (g' := w25.heap.size) (j := 1) (by omega) (p1)
 have k0t := k0m.far_ (g' := w25.heap.size) (j := 1) (by omega) (p1)
 have k0u := k0n.far_ (g' := w25.heap.size) (j := 1) (by omega) (p1)
 have k0v := k0o.far_ (g' := w25.heap.size) (j := 1) (by omega) (p1)
 have k0w := k0p.far_ (g' := w25.heap.size) (j := 1) (by omega) (p1)
 have k0x := k0q.far_ (g' := w25.heap.size) (j := 1) (by omega) (p1)
 have hkp : Kp w142 ((w142.setCell ⟨w25.heap.size, 0, none⟩ (p0)).setCell ⟨w25.heap.size, 1, none⟩ (p1)) := ((Kp.refl _).set_ kA (by decide) _).set_ kC (by decide) _
 obtain ⟨W201, hW⟩ : ∃ W, W = (w142.setCell ⟨w25.heap.size, 0, none⟩ (p0)).setCell ⟨w25.heap.size, 1, none⟩ (p1) := ⟨_, rfl⟩
 rw [← hW]
 rw [← hW] at hkp
 have hB : Below w.heap.size w W201 := by rw [hW]; exact ((k0k.out).setCell (by simp <;> omega) _).setCell (by simp <;> omega) _
 have k0y := Lib.hid hB; clear hB
 have k0z := Lib.hid (k0i.out.kp hkp)
 have k0A := Lib.hid (k0j.out.kp hkp)
 have k0B := Lib.hid (kB.out.kp hkp)
 have kD : Bx W201 (w.heap.size) 24 [.bool true, va] := by rw [hW]; exact k0s
 have kE : Bx W201 (w.heap.size + 1) 24 [.bool false, .slice B b.length cb] := by rw [hW]; exact k0t
 have kF : Bx W201 (w.heap.size + 1 + 1) 24 [.bool false, .slice none 0 0] := by rw [hW]; exact k0u
 have kG : Bx W201 (w.heap.size + 1 + 1 + 1) 24 [.bool false, .slice none 0 0] := by rw [hW]; exact k0v
 have kH : Bx W201 (w25.heap.size) 24 [p0, p1] := by rw [hW]; exact k0r
 have kI : Bx W201 (w25.heap.size + 1) 24 [.bool gr, .slice Ar nr cr] := by rw [hW]; exact k0w
 have kb : Bx W201 (w25.heap.size + 1 + 1) 3 [.int .i64 1] := by rw [hW]; exact k0x
 clear hW hkp
 obtain ⟨k3h, k3i, k3j, k3k⟩ := kD.f2
 obtain ⟨k3l, k3m, k3n, k3o⟩ := kE.f2
 obtain ⟨k3p, k3q, k3r, k3s⟩ := kF.f2
 obtain ⟨k3t, k3u, k3v, k3w⟩ := kG.f2
 obtain ⟨k3x, k3y, k3z, k3A⟩ := kH.f2
 obtain ⟨k3B, k3C, k3D, k3E⟩ := kI.f2
 have k3F := kb.cell (i := 0) rfl
 have k3G := kb.frozen
 have k3H := kb.lt
 have kJ := minus_any (.slice B b.length cb) (.slice Ar nr cr) b lr W201 k0z.out k0A.out HCB.out.1 HCR.out.1 hlb (by rw [HVR.out]; have := HM0.out; have := HM1.out; omega) (HCR.out.len HCB.out.1 (by rw [HVR.out]; have := HM0.out; have := HM1.out; omega))
 (with_reducible refine kJ.mono ?_)
 clear kJ
 rintro e w244 ⟨v2, Lv2, rfl, hS245, hP245, k2⟩
 obtain ⟨k0C, k3I, k3J, k3K, k3L⟩ := kD.b2 k2
 obtain ⟨k0D, k3M, k3N, k3O, k3P⟩ := kE.b2 k2
 obtain ⟨k0E, k3Q, k3R, k3S, k3T⟩ := kF.b2 k2
 obtain ⟨k0F, k3U, k3V, k3W, k3X⟩ := kG.b2 k2
 obtain ⟨k0G, k3Y, k3Z, k40, k41⟩ := kH.b2 k2
 obtain ⟨k0H, k42, k43, k44, k45⟩ := kI.b2 k2
 have kc := kb.below k2
 have k46 := kc.cell (i := 0) rfl
 have k47 := kc.frozen
 have k48 := kc.lt
 have k0I := Lib.hid (k0B.out.kp (.of k2))
 have k0J := Lib.hid (Blw k0y.out k2)
 have k0K := Lib.hid hS245
 have Pv2 := Lib.hid hP245
 clear hS245 hP245 k2
 go_wp2_with fail
 have kK := of_any false v2 Lv2 w244 k0K.out Pv2.out.1
 (with_reducible refine kK.mono ?_)
 clear kK
 rintro e w289 ⟨t0, t1, rfl, kd, k3⟩
 obtain ⟨k0L, k49, k4a, k4b, k4c⟩ := k0C.b2 k3
 obtain ⟨k0M, k4d, k4e, k4f, k4g⟩ := k0D.b2 k3
 obtain ⟨k0N, k4h, k4i, k4j, k4k⟩ := k0E.b2 k3
 obtain ⟨k0O, k4l, k4m, k4n, k4o⟩ := k0F.b2 k3
 obtain ⟨k0P, k4p, k4q, k4r, k4s⟩ := k0G.b2 k3
 obtain ⟨kL, k4t, k4u, k4v, k4w⟩ := k0H.b2 k3
 have ke := kc.below k3
 have k4x := ke.cell (i := 0) rfl
 have k4y := ke.frozen
 have k4z := ke.lt
 have kj := Lib.hid (k0I.out.kp (.of k3))
 have k0Q := Lib.hid (Blw k0J.out k3)
 have kM := Lib.hid kd
 have o_t0 := kd.one0
 have o_t1 := kd.one1
 clear kd k3
 have hvp : I.val Lv2 = I.val b - R := by rw [Pv2.out.2.1, HVR.out]; have := HM0.out; omega
 rw [sg_false, hvp] at kM
 clear hvp
 obtain ⟨gp, Ap, np, cp, rfl, rfl⟩ := kj.out.form
 have hlp := kj.out.len
 have hnp : 0 < (np : Int) := by
  have h2 := hlp.2
  rcases Nat.eq_zero_or_pos np with h3 | h3
  ·have := h2.1 h3; omega
  ·omega
 have hnp2 : 0 < np := by omega
 clear hlp
 go_wp2_with fail
 have kN := kL.set_ 0 (t0)
 have k0R := k0L.far_ (g' := w25.heap.size + 1) (j := 0) (by omega) (t0)
 have k0S := k0M.far_ (g' := w25.heap.size + 1) (j := 0) (by omega) (t0)
 have k0T := k0N.far_ (g' := w25.heap.size + 1) (j := 0) (by omega) (t0)
 have k0U := k0O.far_ (g' := w25.heap.size + 1) (j := 0) (by omega) (t0)
 have k0V := k0P.far_ (g' := w25.heap.size + 1) (j := 0) (by omega) (t0)
 have k0W := ke.far_ (g' := w25.heap.size + 1) (j := 0) (by omega) (t0)
 have k0X := kN.set_ 1 (t1)
 have k0Y := k0R.far_ (g' := w25.heap.size + 1) (j := 1) (by omega) (t1)
 have k0Z := k0S.far_ (g' := w25.heap.size + 1) (j := 1) (by omega) (t1)
 have k10 := k0T.far_ (g' := w25.heap.size + 1) (j := 1) (by omega) (t1)
 have k11 := k0U.far_ (g' := w25.heap.size + 1) (j := 1) (by omega) (t1)
 have kO := k0V.far_ (g' := w25.heap.size + 1) (j := 1) (by omega) (t1)
 have k12 := k0W.far_ (g' := w25.heap.size + 1) (j := 1) (by omega) (t1)
 have k13 := kO.set_ 0 (.bool true)
 have k14 := k0Y.far_ (g' := w25.heap.size) (j := 0) (by omega) (.bool true)
 have k15 := k0Z.far_ (g' := w25.heap.size) (j := 0) (by omega) (.bool true)
 have k16 := k10.far_ (g' := w25.heap.size) (j := 0) (by omega) (.bool true)
 have k17 := k11.far_ (g' := w25.heap.size) (j := 0) (by omega) (.bool true)
 have k18 := k0X.far_ (g' := w25.heap.size) (j := 0) (by omega) (.bool true)
 have k19 := k12.far_ (g' := w25.heap.size) (j := 0) (by omega) (.bool true)
 have hkp : Kp w289 (((w289.setCell ⟨w25.heap.size + 1, 0, none⟩ (t0)).setCell ⟨w25.heap.size + 1, 1, none⟩ (t1)).setCell ⟨w25.heap.size, 0, none⟩ (.bool true)) := (((Kp.refl _).set_ kL (by decide) _).set_ kN (by decide) _).set_ kO (by decide) _
 have HFQ := Lib.hid (kj.out.sign (g := true) (y := -(Q + 1)) (by have := HQ0.out; symm; simp; omega) (by omega))
 obtain ⟨W356, hW⟩ : ∃ W, W = ((w289.setCell ⟨w25.heap.size + 1, 0, none⟩ (t0)).setCell ⟨w25.heap.size + 1, 1, none⟩ (t1)).setCell ⟨w25.heap.size, 0, none⟩ (.bool true) := ⟨_, rfl⟩
 rw [← hW]
 rw [← hW] at hkp
 have hB : Below w.heap.size w W356 := by rw [hW]; exact (((k0Q.out).setCell (by simp <;> omega) _).setCell (by simp <;> omega) _).setCell (by simp <;> omega) _
 have k1a := Lib.hid hB; clear hB
 have k1b := Lib.hid (kM.out.kp hkp)
 have k1c := Lib.hid (HFQ.out.kp hkp)
 have k1d : Bx W356 (w.heap.size) 24 [.bool true, va] := by rw [hW]; exact k14
 have k1e : Bx W356 (w.heap.size + 1) 24 [.bool false, .slice B b.length cb] := by rw [hW]; exact k15
 have kk : Bx W356 (w.heap.size + 1 + 1) 24 [.bool false, .slice none 0 0] := by rw [hW]; exact k16
 have kP : Bx W356 (w.heap.size + 1 + 1 + 1) 24 [.bool false, .slice none 0 0] := by rw [hW]; exact k17
 have k1f : Bx W356 (w25.heap.size) 24 [.bool true, .slice Ap np cp] := by rw [hW]; exact k13
 have k1g : Bx W356 (w25.heap.size + 1) 24 [t0, t1] := by rw [hW]; exact k18
 have kl : Bx W356 (w25.heap.size + 1 + 1) 3 [.int .i64 1] := by rw [hW]; exact k19
 clear hW hkp
 obtain ⟨k4A, k4B, k4C, k4D⟩ := k1d.f2
 obtain ⟨k4E, k4F, k4G, k4H⟩ := k1e.f2
 obtain ⟨k1h, k1i, k4I, k4J⟩ := kk.f2
 obtain ⟨k1j, k1k, k4K, k4L⟩ := kP.f2
 obtain ⟨k4M, k4N, k4O, k4P⟩ := k1f.f2
 obtain ⟨k4Q, k4R, k4S, k4T⟩ := k1g.f2
 have k4U := kl.cell (i := 0) rfl
 have k4V := kl.frozen
 have k4W := kl.lt
 go_region
 have k1l := kk.set_ 0 (.bool true)
 have k1m := kP.far_ (g' := w.heap.size + 1 + 1) (j := 0) (by omega) (.bool true)
 have kQ := k1m.far_ (g' := w.heap.size + 1 + 1) (j := 1) (by omega) (.slice Ap np cp)
 have k1n := kQ.set_ 0 (t0)
 have hkp : Kp W356 (((((W356.setCell ⟨w.heap.size + 1 + 1, 0, none⟩ (.bool true)).setCell ⟨w.heap.size + 1 + 1, 1, none⟩ (.slice Ap np cp)).setCell ⟨w.heap.size + 1 + 1 + 1, 0, none⟩ (t0)).setCell ⟨w.heap.size + 1 + 1 + 1, 1, none⟩ (t1)).drew) := (((((Kp.refl _).set_ kk (by decide) _).set_ k1l (by decide) _).set_ kQ (by decide) _).set_ k1n (by decide) _).drew
 go_wp2
 refine bodyPost_ret (v := .tuple #[.agg #[.bool true, .slice Ap np cp], .agg #[t0, t1]]) (by simp [results, Try.results90, go_sem, k1h, k1i, k1j, k1k]) rfl ⟨_, _, _, _, rfl, ?_, ?_, (((((k1a.out).setCell (by simp <;> omega) _).setCell (by simp <;> omega) _).setCell (by simp <;> omega) _).setCell (by simp <;> omega) _).drew⟩
 ·exact k1c.out.kp hkp
 ·exact k1b.out.kp hkp
set_option maxRecDepth 100000 in
theorem div_tt0 (va : Value) (B : Option Addr) (cb : Nat) (a b : List Int) (w : World) (ha : Sl w va a) (hb : Sl w (.slice B b.length cb) b) (ca : I.Can a) (cbb : I.Can b) (hl : a.length ≤ 1000000000000) (hlb : b.length ≤ 1000000000000) (hb0 : 0 < I.val b) (oa : va.oneCell' = true) (hr : I.val a % I.val b = 0) :
  Calls Try.prog 90 #[.agg #[.bool true, va], .agg #[.bool true, .slice B b.length cb]] w (RII (I.val a / I.val b) (I.val a % I.val b) w) := by
 have HSA := Lib.hid ha; have HSB := Lib.hid hb; have HCA := Lib.hid ca; have HCB := Lib.hid cbb; have kh := Lib.hid hb0
 have hbl : ((b.length : Int) == 0) = false := beq_eq_false_iff_ne.2 (by
  intro h
  have := List.eq_nil_of_length_eq_zero (show b.length = 0 by omega)
  subst this
  simp [I.val] at hb0)
 have hm0 : 0 ≤ I.val a % I.val b := Int.emod_nonneg _ (by omega)
 have hm1 : I.val a % I.val b < I.val b := Int.emod_lt_of_pos _ hb0
 have hq0 : 0 ≤ I.val a / I.val b := Int.ediv_nonneg (I.val_nonneg ca.1) (by omega)
 obtain ⟨Q, hQ⟩ : ∃ Q, Q = I.val a / I.val b := ⟨_, rfl⟩
 obtain ⟨R, hR⟩ : ∃ R, R = I.val a % I.val b := ⟨_, rfl⟩
 rw [← hR] at hm0 hm1
 rw [← hQ] at hq0
 rw [← hR] at hr
 skip
 rw [← hQ, ← hR]
 have HQ := Lib.hid hQ; have HR := Lib.hid hR; have HM0 := Lib.hid hm0; have HM1 := Lib.hid hm1; have HQ0 := Lib.hid hq0
 clear ha hb ca cbb hb0 hQ hR hm0 hm1 hq0
 have HRR := Lib.hid hr; clear hr
 go_enter Try.func90, Try.ntmps90
 go_wp2_with fail
 obtain ⟨W1, hW⟩ : ∃ W, W = (((w.alloc (.cells #[.bool true, va] 24)).alloc (.cells #[.bool true, .slice B b.length cb] 24)).alloc (.cells #[.bool false, .slice none 0 0] 24)).alloc (.cells #[.bool false, .slice none 0 0] 24) := ⟨_, rfl⟩
 rw [← hW]
 have k7 : Bx W1 (w.heap.size) 24 [.bool true, va] := by rw [hW]; exact (((Bx.at_ rfl).alloc _).alloc _).alloc _
 have k8 : Bx W1 (w.heap.size + 1) 24 [.bool true, .slice B b.length cb] := by rw [hW]; exact ((Bx.at_ (by simp)).alloc _).alloc _
 have k9 : Bx W1 (w.heap.size + 1 + 1) 24 [.bool false, .slice none 0 0] := by rw [hW]; exact (Bx.at_ (by simp)).alloc _
 have ka : Bx W1 (w.heap.size + 1 + 1 + 1) 24 [.bool false, .slice none 0 0] := by rw [hW]; exact Bx.at_ (by simp)
 have hB : Below w.heap.size w W1 := by rw [hW]; exact ((((Below.refl _ _).alloc (by simp) _).alloc (by simp) _).alloc (by simp; omega) _).alloc (by simp; omega) _
 have k3 := Lib.hid hB; clear hW hB
 have F7 := Lib.hid (HSA.out.kp (.of k3.out))
 have F8 := Lib.hid (HSB.out.kp (.of k3.out))
 obtain ⟨kz, kA, kB, kC⟩ := k7.f2
 obtain ⟨kD, kE, kF, kG⟩ := k8.f2
 obtain ⟨kH, kI, kJ, kK⟩ := k9.f2
 obtain ⟨kL, kM, kN, kO⟩ := ka.f2
 have k4 := divide_any va (.slice B b.length cb) a b W1 F7.out F8.out HCA.out HCB.out hl kh.out
 rw [← HQ.out, ← HR.out] at k4
 (with_reducible refine k4.mono ?_)
 clear k4
 rintro e w25 ⟨q0, q1, r0, r1, rfl, k1, k2, k0⟩
 obtain ⟨kb, kP, kQ, kR, kS⟩ := k7.b2 k0
 obtain ⟨kc, kT, kU, kV, kW⟩ := k8.b2 k0
 obtain ⟨kd, kX, kY, kZ, l41⟩ := k9.b2 k0
 obtain ⟨ke, k01, k02, k03, l46⟩ := ka.b2 k0
 have kk := Lib.hid (Blw k3.out k0)
 have k5 := Lib.hid k1
 have o_q0 := k1.one0
 have o_q1 := k1.one1
 have k6 := Lib.hid k2
 have o_r0 := k2.one0
 have o_r1 := k2.one1
 clear k1 k2 k0
 obtain ⟨gq, Aq, nq, cq, rfl, rfl⟩ := k5.out.form
 obtain ⟨gr, Ar, nr, cr, rfl, rfl⟩ := k6.out.form
 have hlr := k6.out.len
 have hlq := k5.out.len
 obtain rfl : nr = 0 := hlr.2.2 HRR.out
 clear hlr hlq
 go_wp2_with fail
 obtain ⟨W52, hW⟩ : ∃ W, W = (w25.alloc (.cells #[.bool false, .slice Aq nq cq] 24)).alloc (.cells #[.bool gr, .slice Ar 0 cr] 24) := ⟨_, rfl⟩
 rw [← hW]
 have hB : Below w25.heap.size w25 W52 := by rw [hW]; exact ((Below.refl _ _).alloc (by simp) _).alloc (by simp <;> omega) _
 have k05 := kb.lt
 have k06 := kc.lt
 have k07 := kd.lt
 have k08 := ke.lt
 have kl : Bx W52 (w25.heap.size) 24 [.bool false, .slice Aq nq cq] := by rw [hW]; exact (Bx.at_ rfl).alloc _
 have km : Bx W52 (w25.heap.size + 1) 24 [.bool gr, .slice Ar 0 cr] := by rw [hW]; exact Bx.at_ (by simp)
 clear hW
 obtain ⟨k09, k0a, k0b, k0c, l63⟩ := kb.b2 hB
 obtain ⟨k0e, k0f, k0g, k0h, l68⟩ := kc.b2 hB
 obtain ⟨kf, kn, ko, k0j, l73⟩ := kd.b2 hB
 obtain ⟨kq, kr, ks, k0l, l78⟩ := ke.b2 hB
 have kt := Lib.hid (k5.out.kp (.of hB))
 have ku := Lib.hid (k6.out.kp (.of hB))
 have kv := Lib.hid (Blw kk.out hB)
 clear hB
 obtain ⟨k0n, k0o, k0p, l87⟩ := kl.f2
 obtain ⟨k0r, k0s, k0t, l91⟩ := km.f2
 have HFQ := Lib.hid (kt.out.sign (g := false) (y := Q) (by have := HQ0.out; symm; simp; omega) (by omega))
 go_region
 have kw := kf.set_ 0 (.bool false)
 have kx := kq.far_ (g' := w.heap.size + 1 + 1) (j := 0) (by omega) (.bool false)
 have kg := kx.far_ (g' := w.heap.size + 1 + 1) (j := 1) (by omega) (.slice Aq nq cq)
 have ky := kg.set_ 0 (.bool gr)
 have hkp : Kp W52 (((((W52.setCell ⟨w.heap.size + 1 + 1, 0, none⟩ (.bool false)).setCell ⟨w.heap.size + 1 + 1, 1, none⟩ (.slice Aq nq cq)).setCell ⟨w.heap.size + 1 + 1 + 1, 0, none⟩ (.bool gr)).setCell ⟨w.heap.size + 1 + 1 + 1, 1, none⟩ (.slice Ar 0 cr)).drew) := (((((Kp.refl _).set_ kf (by decide) _).set_ kw (by decide) _).set_ kg (by decide) _).set_ ky (by decide) _).drew
 go_wp2
 refine bodyPost_ret (v := .tuple #[.agg #[.bool false, .slice Aq nq cq], .agg #[.bool gr, .slice Ar 0 cr]]) (by simp [results, Try.results90, go_sem, kn, ko, kr, ks]) rfl ⟨_, _, _, _, rfl, ?_, ?_, (((((kv.out).setCell (by simp <;> omega) _).setCell (by simp <;> omega) _).setCell (by simp <;> omega) _).setCell (by simp <;> omega) _).drew⟩
 ·exact HFQ.out.kp hkp
 ·exact ku.out.kp hkp
set_option maxRecDepth 100000 in
theorem div_ttm (va : Value) (B : Option Addr) (cb : Nat) (a b : List Int) (w : World) (ha : Sl w va a) (hb : Sl w (.slice B b.length cb) b) (ca : I.Can a) (cbb : I.Can b) (hl : a.length ≤ 1000000000000) (hlb : b.length ≤ 1000000000000) (hb0 : 0 < I.val b) (oa : va.oneCell' = true) (hr : 0 < I.val a % I.val b) :
  Calls Try.prog 90 #[.agg #[.bool true, va], .agg #[.bool true, .slice B b.length cb]] w (RII (I.val a / I.val b + 1) (I.val b - I.val a % I.val b) w) := by
 have HSA := Lib.hid ha; have HSB := Lib.hid hb; have HCA := Lib.hid ca; have HCB := Lib.hid cbb; have kR := Lib.hid hb0
 have hbl : ((b.length : Int) == 0) = false := beq_eq_false_iff_ne.2 (by
  intro h
  have := List.eq_nil_of_length_eq_zero (show b.length = 0 by omega)
  subst this
  simp [I.val] at hb0)
 have hm0 : 0 ≤ I.val a % I.val b := Int.emod_nonneg _ (by omega)
 have hm1 : I.val a % I.val b < I.val b := Int.emod_lt_of_pos _ hb0
 have hq0 : 0 ≤ I.val a / I.val b := Int.ediv_nonneg (I.val_nonneg ca.1) (by omega)
 obtain ⟨Q, hQ⟩ : ∃ Q, Q = I.val a / I.val b := ⟨_, rfl⟩
 obtain ⟨R, hR⟩ : ∃ R, R = I.val a % I.val b := ⟨_, rfl⟩
 rw [← hR] at hm0 hm1
 rw [← hQ] at hq0
 rw [← hR] at hr
 skip
 rw [← hQ, ← hR]
 have HQ := Lib.hid hQ; have HR := Lib.hid hR; have HM0 := Lib.hid hm0; have HM1 := Lib.hid hm1; have HQ0 := Lib.hid hq0
 clear ha hb ca cbb hb0 hQ hR hm0 hm1 hq0
 have HRR := Lib.hid hr; clear hr
 go_enter Try.func90, Try.ntmps90
 go_wp2_with fail
 obtain ⟨W1, hW⟩ : ∃ W, W = (((w.alloc (.cells #[.bool true, va] 24)).alloc (.cells #[.bool true, .slice B b.length cb] 24)).alloc (.cells #[.bool false, .slice none 0 0] 24)).alloc (.cells #[.bool false, .slice none 0 0] 24) := ⟨_, rfl⟩
 rw [← hW]
 have km : Bx W1 (w.heap.size) 24 [.bool true, va] := by rw [hW]; exact (((Bx.at_ rfl).alloc _).alloc _).alloc _
 have kn : Bx W1 (w.heap.size + 1) 24 [.bool true, .slice B b.length cb] := by rw [hW]; exact ((Bx.at_ (by simp)).alloc _).alloc _
 have ko : Bx W1 (w.heap.size + 1 + 1) 24 [.bool false, .slice none 0 0] := by rw [hW]; exact (Bx.at_ (by simp)).alloc _
 have kq : Bx W1 (w.heap.size + 1 + 1 + 1) 24 [.bool false, .slice none 0 0] := by rw [hW]; exact Bx.at_ (by simp)
 have hB : Below w.heap.size w W1 := by rw [hW]; exact ((((Below.refl _ _).alloc (by simp) _).alloc (by simp) _).alloc (by simp; omega) _).alloc (by simp; omega) _
 have kf := Lib.hid hB; clear hW hB
 have F7 := Lib.hid (HSA.out.kp (.of kf.out))
 have F8 := Lib.hid (HSB.out.kp (.of kf.out))
 obtain ⟨k1o, k1p, k1q, l12⟩ := km.f2
 obtain ⟨k1s, k1t, k1u, l16⟩ := kn.f2
 obtain ⟨k1w, k1x, k1y, l20⟩ := ko.f2
 obtain ⟨k1A, k1B, k1C, l24⟩ := kq.f2
 have kg := divide_any va (.slice B b.length cb) a b W1 F7.out F8.out HCA.out HCB.out hl kR.out
 rw [← HQ.out, ← HR.out] at kg
 (with_reducible refine kg.mono ?_)
 clear kg
 rintro e w25 ⟨q0, q1, r0, r1, rfl, k6, k7, k4⟩
 obtain ⟨ks, k1E, k1F, k1G, l31⟩ := km.b2 k4
 obtain ⟨kt, k1I, k1J, k1K, l36⟩ := kn.b2 k4
 obtain ⟨ku, k1M, k1N, k1O, l41⟩ := ko.b2 k4
 obtain ⟨kv, k1Q, k1R, k1S, l46⟩ := kq.b2 k4
 have kT := Lib.hid (F8.out.kp (.of k4))
 have kU := Lib.hid (Blw kf.out k4)
 have kh := Lib.hid k6
 have o_q0 := k6.one0
 have o_q1 := k6.one1
 have ki := Lib.hid k7
 have o_r0 := k7.one0
 have o_r1 := k7.one1
 clear k6 k7 k4
 obtain ⟨gq, Aq, nq, cq, rfl, rfl⟩ := kh.out.form
 obtain ⟨gr, Ar, nr, cr, rfl, rfl⟩ := ki.out.form
 have hlr := ki.out.len
 have hlq := kh.out.len
 have hnr : 0 < (nr : Int) := by
  have h1 := HRR.out
  have h2 := hlr.2
  rcases Nat.eq_zero_or_pos nr with h3 | h3
  ·have := h2.1 h3; omega
  ·omega
 have hnr2 : 0 < nr := by omega
 clear hlr hlq
 go_wp2_with fail
 have hnq0 := HQ0.out
 obtain ⟨lq, slq, canq, vlq⟩ := kh.out.sl
 obtain ⟨lr, slr, canr, vlr⟩ := ki.out.sl
 have blq : lq.length ≤ 1000000000000 := Nat.le_trans (canq.len HCA.out.1 (by rw [vlq]; have := HQ.out; have := Int.ediv_le_self (I.val b) (I.val_nonneg HCA.out.1); omega)) hl
 have HSQ := Lib.hid slq; have HSR := Lib.hid slr; have HCQ := Lib.hid canq; have HCR := Lib.hid canr; have HVQ := Lib.hid vlq; have HVR := Lib.hid vlr
 clear slq slr canq canr vlq vlr
 obtain ⟨W52, hW⟩ : ∃ W, W = ((w25.alloc (.cells #[.bool gq, .slice Aq nq cq] 24)).alloc (.cells #[.bool gr, .slice Ar nr cr] 24)).alloc (.cells #[.int .i64 1] 3) := ⟨_, rfl⟩
 rw [← hW]
 have hB : Below w25.heap.size w25 W52 := by rw [hW]; exact (((Below.refl _ _).alloc (by simp) _).alloc (by simp <;> omega) _).alloc (by simp <;> omega) _
 have k1U := ks.lt
 have k1V := kt.lt
 have k1W := ku.lt
 have k1X := kv.lt
 have kw : Bx W52 (w25.heap.size) 24 [.bool gq, .slice Aq nq cq] := by rw [hW]; exact ((Bx.at_ rfl).alloc _).alloc _
 have kx : Bx W52 (w25.heap.size + 1) 24 [.bool gr, .slice Ar nr cr] := by rw [hW]; exact (Bx.at_ (by simp)).alloc _
 have k5 : Bx W52 (w25.heap.size + 1 + 1) 3 [.int .i64 1] := by rw [hW]; exact Bx.at_ (by simp)
 clear hW
 obtain ⟨kV, k1Y, k1Z, k20, l64⟩ := ks.b2 hB
 obtain ⟨kW, k22, k23, k24, l69⟩ := kt.b2 hB
 obtain ⟨kX, k26, k27, k28, l74⟩ := ku.b2 hB
 obtain ⟨kY, k2a, k2b, k2c, l79⟩ := kv.b2 hB
 have kZ := Lib.hid (kT.out.kp (.of hB))
 have F84 := Lib.hid (HSQ.out.kp (.of hB))
 have F85 := Lib.hid (HSR.out.kp (.of hB))
 have k02 := Lib.hid (Blw kU.out hB)
 clear hB
 obtain ⟨k2e, k2f, k2g, l90⟩ := kw.f2
 obtain ⟨k2i, k2j, k2k, l94⟩ := kx.f2
 have k2m := k5.cell (i := 0) rfl
 have k2n := k5.frozen
 have l97 := k5.lt
 have h1s : Sl W52 (.slice (some ⟨w25.heap.size + 1 + 1, 0, none⟩) 1 1) [1] := (show Bk W52 (w25.heap.size + 1 + 1) [1] from k5).sl rfl (Nat.le_refl _) (by decide)
 have ky := plus_any (.slice Aq nq cq) _ lq [1] W52 F84.out h1s HCQ.out.1 (I.Can.one (by omega) (by omega)).1 blq (by simp)
 (with_reducible refine ky.mono ?_)
 clear ky
 rintro e w98 ⟨v1, Lv1, rfl, hS99, hP99, k0⟩
 obtain ⟨k03, k2p, k2q, k2r, k2s⟩ := kV.b2 k0
 obtain ⟨k04, k2t, k2u, k2v, k2w⟩ := kW.b2 k0
 obtain ⟨k05, k2x, k2y, k2z, k2A⟩ := kX.b2 k0
 obtain ⟨k06, k2B, k2C, k2D, k2E⟩ := kY.b2 k0
 obtain ⟨k07, k2F, k2G, k2H, k2I⟩ := kw.b2 k0
 obtain ⟨k08, k2J, k2K, k2L, k2M⟩ := kx.b2 k0
 have k8 := k5.below k0
 have k2N := k8.cell (i := 0) rfl
 have k2O := k8.frozen
 have k2P := k8.lt
 have k09 := Lib.hid (kZ.out.kp (.of k0))
 have k0a := Lib.hid (F85.out.kp (.of k0))
 have k0b := Lib.hid (Blw k02.out k0)
 have k0c := Lib.hid hS99
 have Pv1 := Lib.hid hP99
 clear hS99 hP99 k0
 go_wp2_with fail
 have kz := of_any false v1 Lv1 w98 k0c.out Pv1.out.1
 (with_reducible refine kz.mono ?_)
 clear kz
 rintro e w142 ⟨p0, p1, rfl, k9, k1⟩
 obtain ⟨k0d, k2Q, k2R, k2S, k2T⟩ := k03.b2 k1
 obtain ⟨k0e, k2U, k2V, k2W, k2X⟩ := k04.b2 k1
 obtain ⟨k0f, k2Y, k2Z, k30, k31⟩ := k05.b2 k1
 obtain ⟨k0g, k32, k33, k34, k35⟩ := k06.b2 k1
 obtain ⟨kA, k36, k37, k38, k39⟩ := k07.b2 k1
 obtain ⟨k0h, k3a, k3b, k3c, k3d⟩ := k08.b2 k1
 have ka := k8.below k1
 have k3e := ka.cell (i := 0) rfl
 have k3f := ka.frozen
 have k3g := ka.lt
 have k0i := Lib.hid (k09.out.kp (.of k1))
 have k0j := Lib.hid (k0a.out.kp (.of k1))
 have k0k := Lib.hid (Blw k0b.out k1)
 have kB := Lib.hid k9
 have o_p0 := k9.one0
 have o_p1 := k9.one1
 clear k9 k1
 have hvp : I.val Lv1 = Q + 1 := by rw [Pv1.out.2.1, HVQ.out]; simp [I.val]; have := HQ0.out; omega
 rw [sg_false, hvp] at kB
 clear hvp
 go_wp2_with fail
 have kC := kA.set_ 0 (p0)
 have k0l := k0d.far_ (g' := w25.heap.size) (j := 0) (by omega) (p0)
 have k0m := k0e.far_ (g' := w25.heap.size) (j := 0) (by omega) (p0)
 have k0n := k0f.far_ (g' := w25.heap.size) (j := 0) (by omega) (p0)
 have k0o := k0g.far_ (g' := w25.heap.size) (j := 0) (by omega) (p0)
 have k0p := k0h.far_ (g' := w25.heap.size) (j := 0) (by omega) (p0)
 have k0q := ka.far_ (g' := w25.heap.size) (j := 0) (by omega) (p0)
 have k0r := kC.set_ 1 (p1)
 have k0s := k0l.far_ (g' := w25.heap.size) (j := 1) (by omega) (p1)
 have k0t := k0m.far_ (g' := w25.heap.size) (j := 1) (by omega) (p1)
 have k0u := k0n.far_ (g' := w25.heap.size) (j := 1) (by omega) (p1)
 have k0v := k0o.far_ (g' := w25.heap.size) (j := 1) (by omega) (p1)
 have k0w := k0p.far_ (g' := w25.heap.size) (j := 1) (by omega) (p1)
 have k0x := k0q.far_ (g' := w25.heap.size) (j := 1) (by omega) (p1)
 have hkp : Kp w142 ((w142.setCell ⟨w25.heap.size, 0, none⟩ (p0)).setCell ⟨w25.heap.size, 1, none⟩ (p1)) := ((Kp.refl _).set_ kA (by decide) _).set_ kC (by decide) _
 obtain ⟨W201, hW⟩ : ∃ W, W = (w142.setCell ⟨w25.heap.size, 0, none⟩ (p0)).setCell ⟨w25.heap.size, 1, none⟩ (p1) := ⟨_, rfl⟩
 rw [← hW]
 rw [← hW] at hkp
 have hB : Below w.heap.size w W201 := by rw [hW]; exact ((k0k.out).setCell (by simp <;> omega) _).setCell (by simp <;> omega) _
 have k0y := Lib.hid hB; clear hB
 have k0z := Lib.hid (k0i.out.kp hkp)
 have k0A := Lib.hid (k0j.out.kp hkp)
 have k0B := Lib.hid (kB.out.kp hkp)
 have kD : Bx W201 (w.heap.size) 24 [.bool true, va] := by rw [hW]; exact k0s
 have kE : Bx W201 (w.heap.size + 1) 24 [.bool true, .slice B b.length cb] := by rw [hW]; exact k0t
 have kF : Bx W201 (w.heap.size + 1 + 1) 24 [.bool false, .slice none 0 0] := by rw [hW]; exact k0u
 have kG : Bx W201 (w.heap.size + 1 + 1 + 1) 24 [.bool false, .slice none 0 0] := by rw [hW]; exact k0v
 have kH : Bx W201 (w25.heap.size) 24 [p0, p1] := by rw [hW]; exact k0r
 have kI : Bx W201 (w25.heap.size + 1) 24 [.bool gr, .slice Ar nr cr] := by rw [hW]; exact k0w
 have kb : Bx W201 (w25.heap.size + 1 + 1) 3 [.int .i64 1] := by rw [hW]; exact k0x
 clear hW hkp
 obtain ⟨k3h, k3i, k3j, k3k⟩ := kD.f2
 obtain ⟨k3l, k3m, k3n, k3o⟩ := kE.f2
 obtain ⟨k3p, k3q, k3r, k3s⟩ := kF.f2
 obtain ⟨k3t, k3u, k3v, k3w⟩ := kG.f2
 obtain ⟨k3x, k3y, k3z, k3A⟩ := kH.f2
 obtain ⟨k3B, k3C, k3D, k3E⟩ := kI.f2
 have k3F := kb.cell (i := 0) rfl
 have k3G := kb.frozen
 have k3H := kb.lt
 have kJ := minus_any (.slice B b.length cb) (.slice Ar nr cr) b lr W201 k0z.out k0A.out HCB.out.1 HCR.out.1 hlb (by rw [HVR.out]; have := HM0.out; have := HM1.out; omega) (HCR.out.len HCB.out.1 (by rw [HVR.out]; have := HM0.out; have := HM1.out; omega))
 (with_reducible refine kJ.mono ?_)
 clear kJ
 rintro e w244 ⟨v2, Lv2, rfl, hS245, hP245, k2⟩
 obtain ⟨k0C, k3I, k3J, k3K, k3L⟩ := kD.b2 k2
 obtain ⟨k0D, k3M, k3N, k3O, k3P⟩ := kE.b2 k2
 obtain ⟨k0E, k3Q, k3R, k3S, k3T⟩ := kF.b2 k2
 obtain ⟨k0F, k3U, k3V, k3W, k3X⟩ := kG.b2 k2
 obtain ⟨k0G, k3Y, k3Z, k40, k41⟩ := kH.b2 k2
 obtain ⟨k0H, k42, k43, k44, k45⟩ := kI.b2 k2
 have kc := kb.below k2
 have k46 := kc.cell (i := 0) rfl
 have k47 := kc.frozen
 have k48 := kc.lt
 have k0I := Lib.hid (k0B.out.kp (.of k2))
 have k0J := Lib.hid (Blw k0y.out k2)
 have k0K := Lib.hid hS245
 have Pv2 := Lib.hid hP245
 clear hS245 hP245 k2
 go_wp2_with fail
 have kK := of_any false v2 Lv2 w244 k0K.out Pv2.out.1
 (with_reducible refine kK.mono ?_)
 clear kK
 rintro e w289 ⟨t0, t1, rfl, kd, k3⟩
 obtain ⟨k0L, k49, k4a, k4b, k4c⟩ := k0C.b2 k3
 obtain ⟨k0M, k4d, k4e, k4f, k4g⟩ := k0D.b2 k3
 obtain ⟨k0N, k4h, k4i, k4j, k4k⟩ := k0E.b2 k3
 obtain ⟨k0O, k4l, k4m, k4n, k4o⟩ := k0F.b2 k3
 obtain ⟨k0P, k4p, k4q, k4r, k4s⟩ := k0G.b2 k3
 obtain ⟨kL, k4t, k4u, k4v, k4w⟩ := k0H.b2 k3
 have ke := kc.below k3
 have k4x := ke.cell (i := 0) rfl
 have k4y := ke.frozen
 have k4z := ke.lt
 have kj := Lib.hid (k0I.out.kp (.of k3))
 have k0Q := Lib.hid (Blw k0J.out k3)
 have kM := Lib.hid kd
 have o_t0 := kd.one0
 have o_t1 := kd.one1
 clear kd k3
 have hvp : I.val Lv2 = I.val b - R := by rw [Pv2.out.2.1, HVR.out]; have := HM0.out; omega
 rw [sg_false, hvp] at kM
 clear hvp
 obtain ⟨gp, Ap, np, cp, rfl, rfl⟩ := kj.out.form
 have hlp := kj.out.len
 have hnp : 0 < (np : Int) := by
  have h2 := hlp.2
  rcases Nat.eq_zero_or_pos np with h3 | h3
  ·have := h2.1 h3; omega
  ·omega
 have hnp2 : 0 < np := by omega
 clear hlp
 go_wp2_with fail
 have kN := kL.set_ 0 (t0)
 have k0R := k0L.far_ (g' := w25.heap.size + 1) (j := 0) (by omega) (t0)
 have k0S := k0M.far_ (g' := w25.heap.size + 1) (j := 0) (by omega) (t0)
 have k0T := k0N.far_ (g' := w25.heap.size + 1) (j := 0) (by omega) (t0)
 have k0U := k0O.far_ (g' := w25.heap.size + 1) (j := 0) (by omega) (t0)
 have k0V := k0P.far_ (g' := w25.heap.size + 1) (j := 0) (by omega) (t0)
 have k0W := ke.far_ (g' := w25.heap.size + 1) (j := 0) (by omega) (t0)
 have k0X := kN.set_ 1 (t1)
 have k0Y := k0R.far_ (g' := w25.heap.size + 1) (j := 1) (by omega) (t1)
 have k0Z := k0S.far_ (g' := w25.heap.size + 1) (j := 1) (by omega) (t1)
 have k10 := k0T.far_ (g' := w25.heap.size + 1) (j := 1) (by omega) (t1)
 have k11 := k0U.far_ (g' := w25.heap.size + 1) (j := 1) (by omega) (t1)
 have kO := k0V.far_ (g' := w25.heap.size + 1) (j := 1) (by omega) (t1)
 have k12 := k0W.far_ (g' := w25.heap.size + 1) (j := 1) (by omega) (t1)
 have k13 := kO.set_ 0 (.bool false)
 have k14 := k0Y.far_ (g' := w25.heap.size) (j := 0) (by omega) (.bool false)
 have k15 := k0Z.far_ (g' := w25.heap.size) (j := 0) (by omega) (.bool false)
 have k16 := k10.far_ (g' := w25.heap.size) (j := 0) (by omega) (.bool false)
 have k17 := k11.far_ (g' := w25.heap.size) (j := 0) (by omega) (.bool false)
 have k18 := k0X.far_ (g' := w25.heap.size) (j := 0) (by omega) (.bool false)
 have k19 := k12.far_ (g' := w25.heap.size) (j := 0) (by omega) (.bool false)
 have hkp : Kp w289 (((w289.setCell ⟨w25.heap.size + 1, 0, none⟩ (t0)).setCell ⟨w25.heap.size + 1, 1, none⟩ (t1)).setCell ⟨w25.heap.size, 0, none⟩ (.bool false)) := (((Kp.refl _).set_ kL (by decide) _).set_ kN (by decide) _).set_ kO (by decide) _
 have HFQ := Lib.hid (kj.out.sign (g := false) (y := Q + 1) (by have := HQ0.out; symm; simp; omega) (by omega))
 obtain ⟨W356, hW⟩ : ∃ W, W = ((w289.setCell ⟨w25.heap.size + 1, 0, none⟩ (t0)).setCell ⟨w25.heap.size + 1, 1, none⟩ (t1)).setCell ⟨w25.heap.size, 0, none⟩ (.bool false) := ⟨_, rfl⟩
 rw [← hW]
 rw [← hW] at hkp
 have hB : Below w.heap.size w W356 := by rw [hW]; exact (((k0Q.out).setCell (by simp <;> omega) _).setCell (by simp <;> omega) _).setCell (by simp <;> omega) _
 have k1a := Lib.hid hB; clear hB
 have k1b := Lib.hid (kM.out.kp hkp)
 have k1c := Lib.hid (HFQ.out.kp hkp)
 have k1d : Bx W356 (w.heap.size) 24 [.bool true, va] := by rw [hW]; exact k14
 have k1e : Bx W356 (w.heap.size + 1) 24 [.bool true, .slice B b.length cb] := by rw [hW]; exact k15
 have kk : Bx W356 (w.heap.size + 1 + 1) 24 [.bool false, .slice none 0 0] := by rw [hW]; exact k16
 have kP : Bx W356 (w.heap.size + 1 + 1 + 1) 24 [.bool false, .slice none 0 0] := by rw [hW]; exact k17
 have k1f : Bx W356 (w25.heap.size) 24 [.bool false, .slice Ap np cp] := by rw [hW]; exact k13
 have k1g : Bx W356 (w25.heap.size + 1) 24 [t0, t1] := by rw [hW]; exact k18
 have kl : Bx W356 (w25.heap.size + 1 + 1) 3 [.int .i64 1] := by rw [hW]; exact k19
 clear hW hkp
 obtain ⟨k4A, k4B, k4C, k4D⟩ := k1d.f2
 obtain ⟨k4E, k4F, k4G, k4H⟩ := k1e.f2
 obtain ⟨k1h, k1i, k4I, k4J⟩ := kk.f2
 obtain ⟨k1j, k1k, k4K, k4L⟩ := kP.f2
 obtain ⟨k4M, k4N, k4O, k4P⟩ := k1f.f2
 obtain ⟨k4Q, k4R, k4S, k4T⟩ := k1g.f2
 have k4U := kl.cell (i := 0) rfl
 have k4V := kl.frozen
 have k4W := kl.lt
 go_region
 have k1l := kk.set_ 0 (.bool false)
 have k1m := kP.far_ (g' := w.heap.size + 1 + 1) (j := 0) (by omega) (.bool false)
 have kQ := k1m.far_ (g' := w.heap.size + 1 + 1) (j := 1) (by omega) (.slice Ap np cp)
 have k1n := kQ.set_ 0 (t0)
 have hkp : Kp W356 (((((W356.setCell ⟨w.heap.size + 1 + 1, 0, none⟩ (.bool false)).setCell ⟨w.heap.size + 1 + 1, 1, none⟩ (.slice Ap np cp)).setCell ⟨w.heap.size + 1 + 1 + 1, 0, none⟩ (t0)).setCell ⟨w.heap.size + 1 + 1 + 1, 1, none⟩ (t1)).drew) := (((((Kp.refl _).set_ kk (by decide) _).set_ k1l (by decide) _).set_ kQ (by decide) _).set_ k1n (by decide) _).drew
 go_wp2
 refine bodyPost_ret (v := .tuple #[.agg #[.bool false, .slice Ap np cp], .agg #[t0, t1]]) (by simp [results, Try.results90, go_sem, k1h, k1i, k1j, k1k]) rfl ⟨_, _, _, _, rfl, ?_, ?_, (((((k1a.out).setCell (by simp <;> omega) _).setCell (by simp <;> omega) _).setCell (by simp <;> omega) _).setCell (by simp <;> omega) _).drew⟩
 ·exact k1c.out.kp hkp
 ·exact k1b.out.kp hkp
theorem ediv_of {a b q r : Int} (hb : 0 < b) (h : r + b * q = a) (h0 : 0 ≤ r) (h1 : r < b) : a / b = q ∧ a % b = r := (Int.ediv_emod_unique hb).2 ⟨h, h0, h1⟩
theorem div_zero (p : Bool) (va : Value) (t : Bool) (B : Option Addr) (cb : Nat) (w : World) (oa : va.oneCell' = true) :
  Calls Try.prog 90 #[.agg #[.bool p, va], .agg #[.bool t, .slice B 0 cb]] w (RII 0 0 w) := by
 go_enter Try.func90, Try.ntmps90
 go_wp2
 refine bodyPost_ret (v := .tuple #[.agg #[.bool false, .slice none 0 0], .agg #[.bool false, .slice none 0 0]]) (by simp [results, Try.results90, go_sem]) rfl ⟨_, _, _, _, rfl, IntV.zero _, IntV.zero _, ?_⟩
 exact ((((Below.refl _ _).alloc (Nat.le_refl _) _).alloc (by simp) _).alloc (by simp <;> omega) _).alloc (by simp <;> omega) _
theorem idiv_any (k : Nat) (a0 a1 b0 b1 : Value) (x y : Int) (w : World) (hx : IntV w a0 a1 x) (hy : IntV w b0 b1 y) (bx : I.Bd k x) (by_ : I.Bd k y) (hk : k ≤ 1000000000000) (hy0 : y ≠ 0) :
  Calls Try.prog 90 #[.agg #[a0, a1], .agg #[b0, b1]] w (RII (x / y) (x % y) w) := by
 have oa := hx.one1
 obtain ⟨a, rfl, sa, ca, va⟩ := hx
 obtain ⟨b, rfl, sb, cb, vb⟩ := hy
 have la := Nat.le_trans (bx.len ca va) hk
 have lb := Nat.le_trans (by_.len cb vb) hk
 obtain ⟨B, cbb, rfl, _, _⟩ := sb.form_
 have k0 : 0 < I.val b := by omega
 have ha0 : 0 ≤ I.val a := by omega
 have hd := Int.emod_add_mul_ediv (I.val a) (I.val b)
 have hr0 := Int.emod_nonneg (I.val a) (show I.val b ≠ 0 by omega)
 have hr1 := Int.emod_lt_of_pos (I.val a) k0
 have hq0 := Int.ediv_nonneg ha0 (Int.le_of_lt k0)
 by_cases h1 : x < 0
 ·rw [decide_eq_true h1]
  have ex : x = -I.val a := by omega
  by_cases h2 : y < 0
  ·rw [decide_eq_true h2]
   have ey : y = -I.val b := by omega
   by_cases h3 : I.val a % I.val b = 0
   ·have h := div_tt0 a1 B cbb a b w sa sb ca cb la lb k0 oa h3
    have e := ediv_of (a := x) (q := -(I.val a / I.val b)) (r := 0) k0 (by rw [ex]; grind) (by omega) (by omega)
    rw [ey, Int.ediv_neg, Int.emod_neg, e.1, e.2, Int.neg_neg]
    rwa [h3] at h
   ·have h := div_ttm a1 B cbb a b w sa sb ca cb la lb k0 oa (by omega)
    have e := ediv_of (a := x) (q := -(I.val a / I.val b + 1)) (r := I.val b - I.val a % I.val b) k0 (by rw [ex]; grind) (by omega) (by omega)
    rw [ey, Int.ediv_neg, Int.emod_neg, e.1, e.2, Int.neg_neg]
    exact h
  ·rw [decide_eq_false h2]
   have ey : y = I.val b := by omega
   by_cases h3 : I.val a % I.val b = 0
   ·have e := ediv_of (a := x) (q := -(I.val a / I.val b)) (r := 0) k0 (by rw [ex]; grind) (by omega) (by omega)
    rw [ey, e.1, e.2]
    by_cases h4 : I.val a / I.val b = 0
    ·have h := div_tf0 a1 B cbb a b w sa sb ca cb la lb k0 oa h3 h4
     rwa [h3] at h
    ·have h := div_tf1 a1 B cbb a b w sa sb ca cb la lb k0 oa h3 (by omega)
     rwa [h3] at h
   ·have h := div_tfm a1 B cbb a b w sa sb ca cb la lb k0 oa (by omega)
    have e := ediv_of (a := x) (q := -(I.val a / I.val b + 1)) (r := I.val b - I.val a % I.val b) k0 (by rw [ex]; grind) (by omega) (by omega)
    rw [ey, e.1, e.2]
    exact h
 ·rw [decide_eq_false h1]
  have ex : x = I.val a := by omega
  by_cases h2 : y < 0
  ·rw [decide_eq_true h2]
   have ey : y = -I.val b := by omega
   rw [ex, ey, Int.ediv_neg, Int.emod_neg]
   by_cases h4 : I.val a / I.val b = 0
   ·exact div_ft0 a1 B cbb a b w sa sb ca cb la lb k0 oa h4
   ·exact div_ft1 a1 B cbb a b w sa sb ca cb la lb k0 oa (by omega)
  ·rw [decide_eq_false h2]
   have ey : y = I.val b := by omega
   rw [ex, ey]
   exact div_ff a1 B cbb a b w sa sb ca cb la lb k0 oa
end Go.Proofs.Ytonkbckgbfcnkaa
