/-
 THE WALKS of package integer: Div.
-/
import Derived.Test.YtcfejkpadcccbaaGreatWalkDvd
import Derived.RegionTactic
import Derived.BigRegion
import Derived.ChangeAlike
import Derived.Test.YtcfejkpadcccbaaGreatWalkMinus
namespace Go.Proofs.YtcfejkpadcccbaaGreat
set_option maxHeartbeats 4000000
open Go.RowKit
attribute [local go_sem] run_store_one
set_option linter.unusedVariables false
set_option maxRecDepth 100000 in
theorem div_ff (va : Value) (B : Option Addr) (cb : Nat) (a b : List Int) (w : World) (ha : Sl w va a) (hb : Sl w (.slice B b.length cb) b) (ca : I.Can a) (cbb : I.Can b) (hl : a.length ≤ 1000000000000) (hlb : b.length ≤ 1000000000000) (hb0 : 0 < I.val b) (oa : va.oneCell' = true) :
  Calls Tryz.prog 119 #[.agg #[.bool false, va], .agg #[.bool false, .slice B b.length cb]] w (RII (I.val a / I.val b) (I.val a % I.val b) w) := by
 have HSA := Lib.hid ha; have HSB := Lib.hid hb; have HCA := Lib.hid ca; have HCB := Lib.hid cbb; have kf := Lib.hid hb0
 have hbl : ((b.length : Int) == 0) = false := beq_eq_false_iff_ne.2 (by
  intro h
  have := List.eq_nil_of_length_eq_zero (show b.length = 0 by omega)
  subst this
  simp [I.val] at hb0)
 have hm0 : 0 ≤ I.val a % I.val b := Int.emod_nonneg _ (by omega)
 have hm1 : I.val a % I.val b < I.val b := Int.emod_lt_of_pos _ hb0
 have hq0 : 0 ≤ I.val a / I.val b := Int.ediv_nonneg (I.val_nonneg ca.1) (by omega)
 obtain ⟨Q, hQ⟩ : ∃ Q, Q = I.val a / I.val b := ⟨_, rfl⟩
 obtain ⟨R, hR⟩ : ∃ R, R = I.val a % I.val b := ⟨_, rfl⟩
 rw [← hR] at hm0 hm1
 rw [← hQ] at hq0
 skip
 skip
 rw [← hQ, ← hR]
 have HQ := Lib.hid hQ; have HR := Lib.hid hR; have HM0 := Lib.hid hm0; have HM1 := Lib.hid hm1; have HQ0 := Lib.hid hq0
 clear ha hb ca cbb hb0 hQ hR hm0 hm1 hq0
 go_enter Tryz.func119, Tryz.ntmps119
 go_wp2_with fail
 generalize hW : (((w.alloc _).alloc _).alloc _).alloc _ = W1
 obtain ⟨k7, k8, k9, ka, hB⟩ := box4 hW
 have k1 := Lib.hid hB; clear hW hB
 have F7 := Lib.hid (HSA.out.kp (.of k1.out))
 have F8 := Lib.hid (HSB.out.kp (.of k1.out))
 obtain ⟨kx, ky, kz, kA⟩ := k7.f2
 obtain ⟨kB, kC, kD, kE⟩ := k8.f2
 obtain ⟨kF, kG, kH, kI⟩ := k9.f2
 obtain ⟨kJ, kK, kL, kM⟩ := ka.f2
 have k2 := divide_any va (.slice B b.length cb) a b W1 F7.out F8.out HCA.out HCB.out hl kf.out
 rw [← HQ.out, ← HR.out] at k2
 (with_reducible refine k2.mono ?_)
 clear k2
 rintro e w25 ⟨q0, q1, r0, r1, rfl, k3, k4, k0⟩
 obtain ⟨kb, kN, kO, kP, kQ⟩ := k7.b2 k0
 obtain ⟨kc, kR, kS, kT, kU⟩ := k8.b2 k0
 obtain ⟨kd, kV, kW, kX, kY⟩ := k9.b2 k0
 obtain ⟨ke, kZ, k00, k01, l46⟩ := ka.b2 k0
 have ki := Lib.hid (Blw k1.out k0)
 have k5 := Lib.hid k3
 obtain ⟨o_q0, o_q1⟩ := k3.ones
 have k6 := Lib.hid k4
 obtain ⟨o_r0, o_r1⟩ := k4.ones
 clear k3 k4 k0
 obtain ⟨gq, Aq, nq, cq, rfl, rfl⟩ := k5.out.form
 obtain ⟨gr, Ar, nr, cr, rfl, rfl⟩ := k6.out.form
 have hlr := k6.out.len
 have hlq := k5.out.len
 clear hlr hlq
 go_wp2_with fail
 generalize hW : (w25.alloc _).alloc _ = W52
 obtain ⟨kj, kk, hB⟩ := box2 hW
 have k03 := kb.lt
 have k04 := kc.lt
 have k05 := kd.lt
 have k06 := ke.lt
 clear hW
 obtain ⟨k07, k08, k09, k0a, l63⟩ := kb.b2 hB
 obtain ⟨k0c, k0d, k0e, k0f, l68⟩ := kc.b2 hB
 obtain ⟨kl, km, kn, k0h, l73⟩ := kd.b2 hB
 obtain ⟨ko, kq, kr, k0j, l78⟩ := ke.b2 hB
 have ks := Lib.hid (k5.out.kp (.of hB))
 have kt := Lib.hid (k6.out.kp (.of hB))
 have ku := Lib.hid (Blw ki.out hB)
 clear hB
 obtain ⟨k0l, k0m, k0n, l87⟩ := kj.f2
 obtain ⟨k0p, k0q, k0r, l91⟩ := kk.f2
 have HFQ := Lib.hid (ks.out.sign (g := false) (y := Q) (by have := HQ0.out; symm; simp; omega) (by omega))
 go_region
 have kv := ko.far_ (g' := w.heap.size + 1 + 1) (j := 0) (by omega) (.bool false)
 have kw := kv.far_ (g' := w.heap.size + 1 + 1) (j := 1) (by omega) (.slice Aq nq cq)
 have hkp := (((Kp.refl W52).t2 kl (.bool false) (.slice Aq nq cq)).t2 kw (.bool gr) (.slice Ar nr cr)).drew
 go_wp2
 refine bodyPost_ret (v := .tuple #[.agg #[.bool false, .slice Aq nq cq], .agg #[.bool gr, .slice Ar nr cr]]) (by simp [results, Tryz.results119, go_sem, km, kn, kq, kr]) rfl ⟨_, _, _, _, rfl, ?_, ?_, (bel2 (bel2 (ku.out) (by first | simp | omega)) (by first | simp | omega)).drew⟩
 ·exact HFQ.out.kp hkp
 ·exact kt.out.kp hkp
set_option maxRecDepth 100000 in
theorem div_ft0 (va : Value) (B : Option Addr) (cb : Nat) (a b : List Int) (w : World) (ha : Sl w va a) (hb : Sl w (.slice B b.length cb) b) (ca : I.Can a) (cbb : I.Can b) (hl : a.length ≤ 1000000000000) (hlb : b.length ≤ 1000000000000) (hb0 : 0 < I.val b) (oa : va.oneCell' = true) (hq : I.val a / I.val b = 0) :
  Calls Tryz.prog 119 #[.agg #[.bool false, va], .agg #[.bool true, .slice B b.length cb]] w (RII (-(I.val a / I.val b)) (I.val a % I.val b) w) := by
 have HSA := Lib.hid ha; have HSB := Lib.hid hb; have HCA := Lib.hid ca; have HCB := Lib.hid cbb; have kf := Lib.hid hb0
 have hbl : ((b.length : Int) == 0) = false := beq_eq_false_iff_ne.2 (by
  intro h
  have := List.eq_nil_of_length_eq_zero (show b.length = 0 by omega)
  subst this
  simp [I.val] at hb0)
 have hm0 : 0 ≤ I.val a % I.val b := Int.emod_nonneg _ (by omega)
 have hm1 : I.val a % I.val b < I.val b := Int.emod_lt_of_pos _ hb0
 have hq0 : 0 ≤ I.val a / I.val b := Int.ediv_nonneg (I.val_nonneg ca.1) (by omega)
 obtain ⟨Q, hQ⟩ : ∃ Q, Q = I.val a / I.val b := ⟨_, rfl⟩
 obtain ⟨R, hR⟩ : ∃ R, R = I.val a % I.val b := ⟨_, rfl⟩
 rw [← hR] at hm0 hm1
 rw [← hQ] at hq0
 skip
 rw [← hQ] at hq
 rw [← hQ, ← hR]
 have HQ := Lib.hid hQ; have HR := Lib.hid hR; have HM0 := Lib.hid hm0; have HM1 := Lib.hid hm1; have HQ0 := Lib.hid hq0
 clear ha hb ca cbb hb0 hQ hR hm0 hm1 hq0
 have HQQ := Lib.hid hq; clear hq
 go_enter Tryz.func119, Tryz.ntmps119
 go_wp2_with fail
 generalize hW : (((w.alloc _).alloc _).alloc _).alloc _ = W1
 obtain ⟨k7, k8, k9, ka, hB⟩ := box4 hW
 have k1 := Lib.hid hB; clear hW hB
 have F7 := Lib.hid (HSA.out.kp (.of k1.out))
 have F8 := Lib.hid (HSB.out.kp (.of k1.out))
 obtain ⟨kx, ky, kz, kA⟩ := k7.f2
 obtain ⟨kB, kC, kD, kE⟩ := k8.f2
 obtain ⟨kF, kG, kH, kI⟩ := k9.f2
 obtain ⟨kJ, kK, kL, kM⟩ := ka.f2
 have k2 := divide_any va (.slice B b.length cb) a b W1 F7.out F8.out HCA.out HCB.out hl kf.out
 rw [← HQ.out, ← HR.out] at k2
 (with_reducible refine k2.mono ?_)
 clear k2
 rintro e w25 ⟨q0, q1, r0, r1, rfl, k3, k4, k0⟩
 obtain ⟨kb, kN, kO, kP, kQ⟩ := k7.b2 k0
 obtain ⟨kc, kR, kS, kT, kU⟩ := k8.b2 k0
 obtain ⟨kd, kV, kW, kX, kY⟩ := k9.b2 k0
 obtain ⟨ke, kZ, k00, k01, l46⟩ := ka.b2 k0
 have ki := Lib.hid (Blw k1.out k0)
 have k5 := Lib.hid k3
 obtain ⟨o_q0, o_q1⟩ := k3.ones
 have k6 := Lib.hid k4
 obtain ⟨o_r0, o_r1⟩ := k4.ones
 clear k3 k4 k0
 obtain ⟨gq, Aq, nq, cq, rfl, rfl⟩ := k5.out.form
 obtain ⟨gr, Ar, nr, cr, rfl, rfl⟩ := k6.out.form
 have hlr := k6.out.len
 have hlq := k5.out.len
 obtain rfl : nq = 0 := hlq.2.2 HQQ.out
 clear hlr hlq
 go_wp2_with fail
 generalize hW : (w25.alloc _).alloc _ = W52
 obtain ⟨kj, kk, hB⟩ := box2 hW
 have k03 := kb.lt
 have k04 := kc.lt
 have k05 := kd.lt
 have k06 := ke.lt
 clear hW
 obtain ⟨k07, k08, k09, k0a, l63⟩ := kb.b2 hB
 obtain ⟨k0c, k0d, k0e, k0f, l68⟩ := kc.b2 hB
 obtain ⟨kl, km, kn, k0h, l73⟩ := kd.b2 hB
 obtain ⟨ko, kq, kr, k0j, l78⟩ := ke.b2 hB
 have ks := Lib.hid (k5.out.kp (.of hB))
 have kt := Lib.hid (k6.out.kp (.of hB))
 have ku := Lib.hid (Blw ki.out hB)
 clear hB
 obtain ⟨k0l, k0m, k0n, l87⟩ := kj.f2
 obtain ⟨k0p, k0q, k0r, l91⟩ := kk.f2
 have HFQ := Lib.hid (ks.out.sign (g := false) (y := -Q) (by have := HQ0.out; have := HQQ.out; symm; simp; omega) (by omega))
 go_region
 have kv := ko.far_ (g' := w.heap.size + 1 + 1) (j := 0) (by omega) (.bool false)
 have kw := kv.far_ (g' := w.heap.size + 1 + 1) (j := 1) (by omega) (.slice Aq 0 cq)
 have hkp := (((Kp.refl W52).t2 kl (.bool false) (.slice Aq 0 cq)).t2 kw (.bool gr) (.slice Ar nr cr)).drew
 go_wp2
 refine bodyPost_ret (v := .tuple #[.agg #[.bool false, .slice Aq 0 cq], .agg #[.bool gr, .slice Ar nr cr]]) (by simp [results, Tryz.results119, go_sem, km, kn, kq, kr]) rfl ⟨_, _, _, _, rfl, ?_, ?_, (bel2 (bel2 (ku.out) (by first | simp | omega)) (by first | simp | omega)).drew⟩
 ·exact HFQ.out.kp hkp
 ·exact kt.out.kp hkp
set_option maxRecDepth 100000 in
theorem div_ft1 (va : Value) (B : Option Addr) (cb : Nat) (a b : List Int) (w : World) (ha : Sl w va a) (hb : Sl w (.slice B b.length cb) b) (ca : I.Can a) (cbb : I.Can b) (hl : a.length ≤ 1000000000000) (hlb : b.length ≤ 1000000000000) (hb0 : 0 < I.val b) (oa : va.oneCell' = true) (hq : 0 < I.val a / I.val b) :
  Calls Tryz.prog 119 #[.agg #[.bool false, va], .agg #[.bool true, .slice B b.length cb]] w (RII (-(I.val a / I.val b)) (I.val a % I.val b) w) := by
 have HSA := Lib.hid ha; have HSB := Lib.hid hb; have HCA := Lib.hid ca; have HCB := Lib.hid cbb; have kf := Lib.hid hb0
 have hbl : ((b.length : Int) == 0) = false := beq_eq_false_iff_ne.2 (by
  intro h
  have := List.eq_nil_of_length_eq_zero (show b.length = 0 by omega)
  subst this
  simp [I.val] at hb0)
 have hm0 : 0 ≤ I.val a % I.val b := Int.emod_nonneg _ (by omega)
 have hm1 : I.val a % I.val b < I.val b := Int.emod_lt_of_pos _ hb0
 have hq0 : 0 ≤ I.val a / I.val b := Int.ediv_nonneg (I.val_nonneg ca.1) (by omega)
 obtain ⟨Q, hQ⟩ : ∃ Q, Q = I.val a / I.val b := ⟨_, rfl⟩
 obtain ⟨R, hR⟩ : ∃ R, R = I.val a % I.val b := ⟨_, rfl⟩
 rw [← hR] at hm0 hm1
 rw [← hQ] at hq0
 skip
 rw [← hQ] at hq
 rw [← hQ, ← hR]
 have HQ := Lib.hid hQ; have HR := Lib.hid hR; have HM0 := Lib.hid hm0; have HM1 := Lib.hid hm1; have HQ0 := Lib.hid hq0
 clear ha hb ca cbb hb0 hQ hR hm0 hm1 hq0
 have HQQ := Lib.hid hq; clear hq
 go_enter Tryz.func119, Tryz.ntmps119
 go_wp2_with fail
 generalize hW : (((w.alloc _).alloc _).alloc _).alloc _ = W1
 obtain ⟨k7, k8, k9, ka, hB⟩ := box4 hW
 have k1 := Lib.hid hB; clear hW hB
 have F7 := Lib.hid (HSA.out.kp (.of k1.out))
 have F8 := Lib.hid (HSB.out.kp (.of k1.out))
 obtain ⟨kx, ky, kz, kA⟩ := k7.f2
 obtain ⟨kB, kC, kD, kE⟩ := k8.f2
 obtain ⟨kF, kG, kH, kI⟩ := k9.f2
 obtain ⟨kJ, kK, kL, kM⟩ := ka.f2
 have k2 := divide_any va (.slice B b.length cb) a b W1 F7.out F8.out HCA.out HCB.out hl kf.out
 rw [← HQ.out, ← HR.out] at k2
 (with_reducible refine k2.mono ?_)
 clear k2
 rintro e w25 ⟨q0, q1, r0, r1, rfl, k3, k4, k0⟩
 obtain ⟨kb, kN, kO, kP, kQ⟩ := k7.b2 k0
 obtain ⟨kc, kR, kS, kT, kU⟩ := k8.b2 k0
 obtain ⟨kd, kV, kW, kX, kY⟩ := k9.b2 k0
 obtain ⟨ke, kZ, k00, k01, l46⟩ := ka.b2 k0
 have ki := Lib.hid (Blw k1.out k0)
 have k5 := Lib.hid k3
 obtain ⟨o_q0, o_q1⟩ := k3.ones
 have k6 := Lib.hid k4
 obtain ⟨o_r0, o_r1⟩ := k4.ones
 clear k3 k4 k0
 obtain ⟨gq, Aq, nq, cq, rfl, rfl⟩ := k5.out.form
 obtain ⟨gr, Ar, nr, cr, rfl, rfl⟩ := k6.out.form
 have hlr := k6.out.len
 have hlq := k5.out.len
 have hnq : 0 < (nq : Int) := by
  have h1 := HQQ.out
  have h2 := hlq.2
  rcases Nat.eq_zero_or_pos nq with h3 | h3
  ·have := h2.1 h3; omega
  ·omega
 have hnq2 : 0 < nq := by omega
 clear hlr hlq
 go_wp2_with fail
 generalize hW : (w25.alloc _).alloc _ = W52
 obtain ⟨kj, kk, hB⟩ := box2 hW
 have k03 := kb.lt
 have k04 := kc.lt
 have k05 := kd.lt
 have k06 := ke.lt
 clear hW
 obtain ⟨k07, k08, k09, k0a, l63⟩ := kb.b2 hB
 obtain ⟨k0c, k0d, k0e, k0f, l68⟩ := kc.b2 hB
 obtain ⟨kl, km, kn, k0h, l73⟩ := kd.b2 hB
 obtain ⟨ko, kq, kr, k0j, l78⟩ := ke.b2 hB
 have ks := Lib.hid (k5.out.kp (.of hB))
 have kt := Lib.hid (k6.out.kp (.of hB))
 have ku := Lib.hid (Blw ki.out hB)
 clear hB
 obtain ⟨k0l, k0m, k0n, l87⟩ := kj.f2
 obtain ⟨k0p, k0q, k0r, l91⟩ := kk.f2
 have HFQ := Lib.hid (ks.out.sign (g := true) (y := -Q) (by have := HQ0.out; have := HQQ.out; symm; simp; omega) (by omega))
 go_region
 have kv := ko.far_ (g' := w.heap.size + 1 + 1) (j := 0) (by omega) (.bool true)
 have kw := kv.far_ (g' := w.heap.size + 1 + 1) (j := 1) (by omega) (.slice Aq nq cq)
 have hkp := (((Kp.refl W52).t2 kl (.bool true) (.slice Aq nq cq)).t2 kw (.bool gr) (.slice Ar nr cr)).drew
 go_wp2
 refine bodyPost_ret (v := .tuple #[.agg #[.bool true, .slice Aq nq cq], .agg #[.bool gr, .slice Ar nr cr]]) (by simp [results, Tryz.results119, go_sem, km, kn, kq, kr]) rfl ⟨_, _, _, _, rfl, ?_, ?_, (bel2 (bel2 (ku.out) (by first | simp | omega)) (by first | simp | omega)).drew⟩
 ·exact HFQ.out.kp hkp
 ·exact kt.out.kp hkp
set_option maxRecDepth 100000 in
theorem div_tf0 (va : Value) (B : Option Addr) (cb : Nat) (a b : List Int) (w : World) (ha : Sl w va a) (hb : Sl w (.slice B b.length cb) b) (ca : I.Can a) (cbb : I.Can b) (hl : a.length ≤ 1000000000000) (hlb : b.length ≤ 1000000000000) (hb0 : 0 < I.val b) (oa : va.oneCell' = true) (hr : I.val a % I.val b = 0) (hq : I.val a / I.val b = 0) :
  Calls Tryz.prog 119 #[.agg #[.bool true, va], .agg #[.bool false, .slice B b.length cb]] w (RII (-(I.val a / I.val b)) (I.val a % I.val b) w) := by
 have HSA := Lib.hid ha; have HSB := Lib.hid hb; have HCA := Lib.hid ca; have HCB := Lib.hid cbb; have kf := Lib.hid hb0
 have hbl : ((b.length : Int) == 0) = false := beq_eq_false_iff_ne.2 (by
  intro h
  have := List.eq_nil_of_length_eq_zero (show b.length = 0 by omega)
  subst this
  simp [I.val] at hb0)
 have hm0 : 0 ≤ I.val a % I.val b := Int.emod_nonneg _ (by omega)
 have hm1 : I.val a % I.val b < I.val b := Int.emod_lt_of_pos _ hb0
 have hq0 : 0 ≤ I.val a / I.val b := Int.ediv_nonneg (I.val_nonneg ca.1) (by omega)
 obtain ⟨Q, hQ⟩ : ∃ Q, Q = I.val a / I.val b := ⟨_, rfl⟩
 obtain ⟨R, hR⟩ : ∃ R, R = I.val a % I.val b := ⟨_, rfl⟩
 rw [← hR] at hm0 hm1
 rw [← hQ] at hq0
 rw [← hR] at hr
 rw [← hQ] at hq
 rw [← hQ, ← hR]
 have HQ := Lib.hid hQ; have HR := Lib.hid hR; have HM0 := Lib.hid hm0; have HM1 := Lib.hid hm1; have HQ0 := Lib.hid hq0
 clear ha hb ca cbb hb0 hQ hR hm0 hm1 hq0
 have HRR := Lib.hid hr; clear hr
 have HQQ := Lib.hid hq; clear hq
 go_enter Tryz.func119, Tryz.ntmps119
 go_wp2_with fail
 generalize hW : (((w.alloc _).alloc _).alloc _).alloc _ = W1
 obtain ⟨k7, k8, k9, ka, hB⟩ := box4 hW
 have k1 := Lib.hid hB; clear hW hB
 have F7 := Lib.hid (HSA.out.kp (.of k1.out))
 have F8 := Lib.hid (HSB.out.kp (.of k1.out))
 obtain ⟨kx, ky, kz, kA⟩ := k7.f2
 obtain ⟨kB, kC, kD, kE⟩ := k8.f2
 obtain ⟨kF, kG, kH, kI⟩ := k9.f2
 obtain ⟨kJ, kK, kL, kM⟩ := ka.f2
 have k2 := divide_any va (.slice B b.length cb) a b W1 F7.out F8.out HCA.out HCB.out hl kf.out
 rw [← HQ.out, ← HR.out] at k2
 (with_reducible refine k2.mono ?_)
 clear k2
 rintro e w25 ⟨q0, q1, r0, r1, rfl, k3, k4, k0⟩
 obtain ⟨kb, kN, kO, kP, kQ⟩ := k7.b2 k0
 obtain ⟨kc, kR, kS, kT, kU⟩ := k8.b2 k0
 obtain ⟨kd, kV, kW, kX, kY⟩ := k9.b2 k0
 obtain ⟨ke, kZ, k00, k01, l46⟩ := ka.b2 k0
 have ki := Lib.hid (Blw k1.out k0)
 have k5 := Lib.hid k3
 obtain ⟨o_q0, o_q1⟩ := k3.ones
 have k6 := Lib.hid k4
 obtain ⟨o_r0, o_r1⟩ := k4.ones
 clear k3 k4 k0
 obtain ⟨gq, Aq, nq, cq, rfl, rfl⟩ := k5.out.form
 obtain ⟨gr, Ar, nr, cr, rfl, rfl⟩ := k6.out.form
 have hlr := k6.out.len
 have hlq := k5.out.len
 obtain rfl : nr = 0 := hlr.2.2 HRR.out
 obtain rfl : nq = 0 := hlq.2.2 HQQ.out
 clear hlr hlq
 go_wp2_with fail
 generalize hW : (w25.alloc _).alloc _ = W52
 obtain ⟨kj, kk, hB⟩ := box2 hW
 have k03 := kb.lt
 have k04 := kc.lt
 have k05 := kd.lt
 have k06 := ke.lt
 clear hW
 obtain ⟨k07, k08, k09, k0a, l63⟩ := kb.b2 hB
 obtain ⟨k0c, k0d, k0e, k0f, l68⟩ := kc.b2 hB
 obtain ⟨kl, km, kn, k0h, l73⟩ := kd.b2 hB
 obtain ⟨ko, kq, kr, k0j, l78⟩ := ke.b2 hB
 have ks := Lib.hid (k5.out.kp (.of hB))
 have kt := Lib.hid (k6.out.kp (.of hB))
 have ku := Lib.hid (Blw ki.out hB)
 clear hB
 obtain ⟨k0l, k0m, k0n, l87⟩ := kj.f2
 obtain ⟨k0p, k0q, k0r, l91⟩ := kk.f2
 have HFQ := Lib.hid (ks.out.sign (g := false) (y := -Q) (by have := HQ0.out; have := HQQ.out; symm; simp; omega) (by omega))
 go_region
 have kv := ko.far_ (g' := w.heap.size + 1 + 1) (j := 0) (by omega) (.bool false)
 have kw := kv.far_ (g' := w.heap.size + 1 + 1) (j := 1) (by omega) (.slice Aq 0 cq)
 have hkp := (((Kp.refl W52).t2 kl (.bool false) (.slice Aq 0 cq)).t2 kw (.bool gr) (.slice Ar 0 cr)).drew
 go_wp2
 refine bodyPost_ret (v := .tuple #[.agg #[.bool false, .slice Aq 0 cq], .agg #[.bool gr, .slice Ar 0 cr]]) (by simp [results, Tryz.results119, go_sem, km, kn, kq, kr]) rfl ⟨_, _, _, _, rfl, ?_, ?_, (bel2 (bel2 (ku.out) (by first | simp | omega)) (by first | simp | omega)).drew⟩
 ·exact HFQ.out.kp hkp
 ·exact kt.out.kp hkp
set_option maxRecDepth 100000 in
theorem div_tf1 (va : Value) (B : Option Addr) (cb : Nat) (a b : List Int) (w : World) (ha : Sl w va a) (hb : Sl w (.slice B b.length cb) b) (ca : I.Can a) (cbb : I.Can b) (hl : a.length ≤ 1000000000000) (hlb : b.length ≤ 1000000000000) (hb0 : 0 < I.val b) (oa : va.oneCell' = true) (hr : I.val a % I.val b = 0) (hq : 0 < I.val a / I.val b) :
  Calls Tryz.prog 119 #[.agg #[.bool true, va], .agg #[.bool false, .slice B b.length cb]] w (RII (-(I.val a / I.val b)) (I.val a % I.val b) w) := by
 have HSA := Lib.hid ha; have HSB := Lib.hid hb; have HCA := Lib.hid ca; have HCB := Lib.hid cbb; have kf := Lib.hid hb0
 have hbl : ((b.length : Int) == 0) = false := beq_eq_false_iff_ne.2 (by
  intro h
  have := List.eq_nil_of_length_eq_zero (show b.length = 0 by omega)
  subst this
  simp [I.val] at hb0)
 have hm0 : 0 ≤ I.val a % I.val b := Int.emod_nonneg _ (by omega)
 have hm1 : I.val a % I.val b < I.val b := Int.emod_lt_of_pos _ hb0
 have hq0 : 0 ≤ I.val a / I.val b := Int.ediv_nonneg (I.val_nonneg ca.1) (by omega)
 obtain ⟨Q, hQ⟩ : ∃ Q, Q = I.val a / I.val b := ⟨_, rfl⟩
 obtain ⟨R, hR⟩ : ∃ R, R = I.val a % I.val b := ⟨_, rfl⟩
 rw [← hR] at hm0 hm1
 rw [← hQ] at hq0
 rw [← hR] at hr
 rw [← hQ] at hq
 rw [← hQ, ← hR]
 have HQ := Lib.hid hQ; have HR := Lib.hid hR; have HM0 := Lib.hid hm0; have HM1 := Lib.hid hm1; have HQ0 := Lib.hid hq0
 clear ha hb ca cbb hb0 hQ hR hm0 hm1 hq0
 have HRR := Lib.hid hr; clear hr
 have HQQ := Lib.hid hq; clear hq
 go_enter Tryz.func119, Tryz.ntmps119
 go_wp2_with fail
 generalize hW : (((w.alloc _).alloc _).alloc _).alloc _ = W1
 obtain ⟨k7, k8, k9, ka, hB⟩ := box4 hW
 have k1 := Lib.hid hB; clear hW hB
 have F7 := Lib.hid (HSA.out.kp (.of k1.out))
 have F8 := Lib.hid (HSB.out.kp (.of k1.out))
 obtain ⟨kx, ky, kz, kA⟩ := k7.f2
 obtain ⟨kB, kC, kD, kE⟩ := k8.f2
 obtain ⟨kF, kG, kH, kI⟩ := k9.f2
 obtain ⟨kJ, kK, kL, kM⟩ := ka.f2
 have k2 := divide_any va (.slice B b.length cb) a b W1 F7.out F8.out HCA.out HCB.out hl kf.out
 rw [← HQ.out, ← HR.out] at k2
 (with_reducible refine k2.mono ?_)
 clear k2
 rintro e w25 ⟨q0, q1, r0, r1, rfl, k3, k4, k0⟩
 obtain ⟨kb, kN, kO, kP, kQ⟩ := k7.b2 k0
 obtain ⟨kc, kR, kS, kT, kU⟩ := k8.b2 k0
 obtain ⟨kd, kV, kW, kX, kY⟩ := k9.b2 k0
 obtain ⟨ke, kZ, k00, k01, l46⟩ := ka.b2 k0
 have ki := Lib.hid (Blw k1.out k0)
 have k5 := Lib.hid k3
 obtain ⟨o_q0, o_q1⟩ := k3.ones
 have k6 := Lib.hid k4
 obtain ⟨o_r0, o_r1⟩ := k4.ones
 clear k3 k4 k0
 obtain ⟨gq, Aq, nq, cq, rfl, rfl⟩ := k5.out.form
 obtain ⟨gr, Ar, nr, cr, rfl, rfl⟩ := k6.out.form
 have hlr := k6.out.len
 have hlq := k5.out.len
 obtain rfl : nr = 0 := hlr.2.2 HRR.out
 have hnq : 0 < (nq : Int) := by
  have h1 := HQQ.out
  have h2 := hlq.2
  rcases Nat.eq_zero_or_pos nq with h3 | h3
  ·have := h2.1 h3; omega
  ·omega
 have hnq2 : 0 < nq := by omega
 clear hlr hlq
 go_wp2_with fail
 generalize hW : (w25.alloc _).alloc _ = W52
 obtain ⟨kj, kk, hB⟩ := box2 hW
 have k03 := kb.lt
 have k04 := kc.lt
 have k05 := kd.lt
 have k06 := ke.lt
 clear hW
 obtain ⟨k07, k08, k09, k0a, l63⟩ := kb.b2 hB
 obtain ⟨k0c, k0d, k0e, k0f, l68⟩ := kc.b2 hB
 obtain ⟨kl, km, kn, k0h, l73⟩ := kd.b2 hB
 obtain ⟨ko, kq, kr, k0j, l78⟩ := ke.b2 hB
 have ks := Lib.hid (k5.out.kp (.of hB))
 have kt := Lib.hid (k6.out.kp (.of hB))
 have ku := Lib.hid (Blw ki.out hB)
 clear hB
 obtain ⟨k0l, k0m, k0n, l87⟩ := kj.f2
 obtain ⟨k0p, k0q, k0r, l91⟩ := kk.f2
 have HFQ := Lib.hid (ks.out.sign (g := true) (y := -Q) (by have := HQ0.out; have := HQQ.out; symm; simp; omega) (by omega))
 go_region
 have kv := ko.far_ (g' := w.heap.size + 1 + 1) (j := 0) (by omega) (.bool true)
 have kw := kv.far_ (g' := w.heap.size + 1 + 1) (j := 1) (by omega) (.slice Aq nq cq)
 have hkp := (((Kp.refl W52).t2 kl (.bool true) (.slice Aq nq cq)).t2 kw (.bool gr) (.slice Ar 0 cr)).drew
 go_wp2
 refine bodyPost_ret (v := .tuple #[.agg #[.bool true, .slice Aq nq cq], .agg #[.bool gr, .slice Ar 0 cr]]) (by simp [results, Tryz.results119, go_sem, km, kn, kq, kr]) rfl ⟨_, _, _, _, rfl, ?_, ?_, (bel2 (bel2 (ku.out) (by first | simp | omega)) (by first | simp | omega)).drew⟩
 ·exact HFQ.out.kp hkp
 ·exact kt.out.kp hkp
set_option maxRecDepth 100000 in
theorem div_tfm (va : Value) (B : Option Addr) (cb : Nat) (a b : List Int) (w : World) (ha : Sl w va a) (hb : Sl w (.slice B b.length cb) b) (ca : I.Can a) (cbb : I.Can b) (hl : a.length ≤ 1000000000000) (hlb : b.length ≤ 1000000000000) (hb0 : 0 < I.val b) (oa : va.oneCell' = true) (hr : 0 < I.val a % I.val b) :
  Calls Tryz.prog 119 #[.agg #[.bool true, va], .agg #[.bool false, .slice B b.length cb]] w (RII (-(I.val a / I.val b + 1)) (I.val b - I.val a % I.val b) w) := by
 have HSA := Lib.hid ha; have HSB := Lib.hid hb; have HCA := Lib.hid ca; have HCB := Lib.hid cbb; have HB0 := Lib.hid hb0
 have hbl : ((b.length : Int) == 0) = false := beq_eq_false_iff_ne.2 (by
  intro h
  have := List.eq_nil_of_length_eq_zero (show b.length = 0 by omega)
  subst this
  simp [I.val] at hb0)
 have hm0 : 0 ≤ I.val a % I.val b := Int.emod_nonneg _ (by omega)
 have hm1 : I.val a % I.val b < I.val b := Int.emod_lt_of_pos _ hb0
 have hq0 : 0 ≤ I.val a / I.val b := Int.ediv_nonneg (I.val_nonneg ca.1) (by omega)
 obtain ⟨Q, hQ⟩ : ∃ Q, Q = I.val a / I.val b := ⟨_, rfl⟩
 obtain ⟨R, hR⟩ : ∃ R, R = I.val a % I.val b := ⟨_, rfl⟩
 rw [← hR] at hm0 hm1
 rw [← hQ] at hq0
 rw [← hR] at hr
 skip
 rw [← hQ, ← hR]
 have HQ := Lib.hid hQ; have HR := Lib.hid hR; have HM0 := Lib.hid hm0; have HM1 := Lib.hid hm1; have HQ0 := Lib.hid hq0
 clear ha hb ca cbb hb0 hQ hR hm0 hm1 hq0
 have HRR := Lib.hid hr; clear hr
 go_enter Tryz.func119, Tryz.ntmps119
 go_wp2_with fail
 generalize hW : (((w.alloc _).alloc _).alloc _).alloc _ = W1
 obtain ⟨ko, kq, kr, ks, hB⟩ := box4 hW
 have kb := Lib.hid hB; clear hW hB
 have F7 := Lib.hid (HSA.out.kp (.of kb.out))
 have F8 := Lib.hid (HSB.out.kp (.of kb.out))
 obtain ⟨k1m, k1n, k1o, l12⟩ := ko.f2
 obtain ⟨k1q, k1r, k1s, l16⟩ := kq.f2
 obtain ⟨k1u, k1v, k1w, l20⟩ := kr.f2
 obtain ⟨k1y, k1z, k1A, l24⟩ := ks.f2
 have kc := divide_any va (.slice B b.length cb) a b W1 F7.out F8.out HCA.out HCB.out hl HB0.out
 rw [← HQ.out, ← HR.out] at kc
 (with_reducible refine kc.mono ?_)
 clear kc
 rintro e w25 ⟨q0, q1, r0, r1, rfl, kd, ke, k4⟩
 obtain ⟨ku, k1C, k1D, k1E, l31⟩ := ko.b2 k4
 obtain ⟨kv, k1G, k1H, k1I, l36⟩ := kq.b2 k4
 obtain ⟨kw, k1K, k1L, k1M, l41⟩ := kr.b2 k4
 obtain ⟨kx, k1O, k1P, k1Q, l46⟩ := ks.b2 k4
 have F48 := Lib.hid (F8.out.kp (.of k4))
 have k0p := Lib.hid (Blw kb.out k4)
 have kf := Lib.hid kd
 obtain ⟨o_q0, o_q1⟩ := kd.ones
 have kg := Lib.hid ke
 obtain ⟨o_r0, o_r1⟩ := ke.ones
 clear kd ke k4
 obtain ⟨gq, Aq, nq, cq, rfl, rfl⟩ := kf.out.form
 obtain ⟨gr, Ar, nr, cr, rfl, rfl⟩ := kg.out.form
 have hlr := kg.out.len
 have hlq := kf.out.len
 have hnr : 0 < (nr : Int) := by
  have h1 := HRR.out
  have h2 := hlr.2
  rcases Nat.eq_zero_or_pos nr with h3 | h3
  ·have := h2.1 h3; omega
  ·omega
 have hnr2 : 0 < nr := by omega
 clear hlr hlq
 go_wp2_with fail
 have hnq0 := HQ0.out
 obtain ⟨lq, slq, canq, vlq⟩ := kf.out.sl
 obtain ⟨lr, slr, canr, vlr⟩ := kg.out.sl
 have blq : lq.length ≤ 1000000000000 := Nat.le_trans (canq.len HCA.out.1 (by rw [vlq]; have := HQ.out; have := Int.ediv_le_self (I.val b) (I.val_nonneg HCA.out.1); omega)) hl
 have HSQ := Lib.hid slq; have HSR := Lib.hid slr; have HCQ := Lib.hid canq; have HCR := Lib.hid canr; have HVQ := Lib.hid vlq; have HVR := Lib.hid vlr
 clear slq slr canq canr vlq vlr
 generalize hW : ((w25.alloc _).alloc _).alloc _ = W52
 obtain ⟨ky, kz, k5, hB⟩ := box3 hW
 have k1S := ku.lt
 have k1T := kv.lt
 have k1U := kw.lt
 have k1V := kx.lt
 clear hW
 obtain ⟨k0q, k1W, k1X, k1Y, l64⟩ := ku.b2 hB
 obtain ⟨k0r, k20, k21, k22, l69⟩ := kv.b2 hB
 obtain ⟨k0s, k24, k25, k26, l74⟩ := kw.b2 hB
 obtain ⟨k0t, k28, k29, k2a, l79⟩ := kx.b2 hB
 have F81 := Lib.hid (F48.out.kp (.of hB))
 have F84 := Lib.hid (HSQ.out.kp (.of hB))
 have F85 := Lib.hid (HSR.out.kp (.of hB))
 have k0x := Lib.hid (Blw k0p.out hB)
 clear hB
 obtain ⟨k2c, k2d, k2e, l90⟩ := ky.f2
 obtain ⟨k2g, k2h, k2i, l94⟩ := kz.f2
 have k2k := k5.cell (i := 0) rfl
 have k2l := k5.frozen
 have l97 := k5.lt
 have h1s : Sl W52 (.slice (some ⟨w25.heap.size + 1 + 1, 0, none⟩) 1 1) [1] := (show Bk W52 (w25.heap.size + 1 + 1) [1] from k5).sl rfl (Nat.le_refl _) (by decide)
 have kA := plus_any (.slice Aq nq cq) _ lq [1] W52 F84.out h1s HCQ.out.1 (I.Can.one (by omega) (by omega)).1 blq (by simp)
 (with_reducible refine kA.mono ?_)
 clear kA
 rintro e w98 ⟨v1, Lv1, rfl, hS99, hP99, k0⟩
 obtain ⟨k0y, k2n, k2o, k2p, k2q⟩ := k0q.b2 k0
 obtain ⟨k0z, k2r, k2s, k2t, k2u⟩ := k0r.b2 k0
 obtain ⟨k0A, k2v, k2w, k2x, k2y⟩ := k0s.b2 k0
 obtain ⟨k0B, k2z, k2A, k2B, k2C⟩ := k0t.b2 k0
 obtain ⟨k0C, k2D, k2E, k2F, k2G⟩ := ky.b2 k0
 obtain ⟨k0D, k2H, k2I, k2J, k2K⟩ := kz.b2 k0
 have k6 := k5.below k0
 have k2L := k6.cell (i := 0) rfl
 have k2M := k6.frozen
 have k2N := k6.lt
 have k0E := Lib.hid (F81.out.kp (.of k0))
 have k0F := Lib.hid (F85.out.kp (.of k0))
 have k0G := Lib.hid (Blw k0x.out k0)
 have k0H := Lib.hid hS99
 have Pv1 := Lib.hid hP99
 clear hS99 hP99 k0
 go_wp2_with fail
 have kB := of_any false v1 Lv1 w98 k0H.out Pv1.out.1
 (with_reducible refine kB.mono ?_)
 clear kB
 rintro e w142 ⟨p0, p1, rfl, kh, k1⟩
 obtain ⟨k0I, k2O, k2P, k2Q, k2R⟩ := k0y.b2 k1
 obtain ⟨k0J, k2S, k2T, k2U, k2V⟩ := k0z.b2 k1
 obtain ⟨k0K, k2W, k2X, k2Y, k2Z⟩ := k0A.b2 k1
 obtain ⟨k0L, k30, k31, k32, k33⟩ := k0B.b2 k1
 obtain ⟨kC, k34, k35, k36, k37⟩ := k0C.b2 k1
 obtain ⟨k0M, k38, k39, k3a, k3b⟩ := k0D.b2 k1
 have k7 := k6.below k1
 have k3c := k7.cell (i := 0) rfl
 have k3d := k7.frozen
 have k3e := k7.lt
 have k0N := Lib.hid (k0E.out.kp (.of k1))
 have k0O := Lib.hid (k0F.out.kp (.of k1))
 have k0P := Lib.hid (Blw k0G.out k1)
 have kD := Lib.hid kh
 obtain ⟨o_p0, o_p1⟩ := kh.ones
 clear kh k1
 have hvp : I.val Lv1 = Q + 1 := by rw [Pv1.out.2.1, HVQ.out]; simp [I.val]; have := HQ0.out; omega
 rw [sg_false, hvp] at kD
 clear hvp
 go_wp2_with fail
 have ki := kC.set_ 0 (p0)
 have kE := k0I.far_ (g' := w25.heap.size) (j := 0) (by omega) (p0)
 have kF := k0J.far_ (g' := w25.heap.size) (j := 0) (by omega) (p0)
 have kG := k0K.far_ (g' := w25.heap.size) (j := 0) (by omega) (p0)
 have kH := k0L.far_ (g' := w25.heap.size) (j := 0) (by omega) (p0)
 have kI := k0M.far_ (g' := w25.heap.size) (j := 0) (by omega) (p0)
 have kJ := k7.far_ (g' := w25.heap.size) (j := 0) (by omega) (p0)
 have kK := ki.set_ 1 (p1)
 have kL := kE.far_ (g' := w25.heap.size) (j := 1) (by omega) (p1)
 have kM := kF.far_ (g' := w25.heap.size) (j := 1) (by omega) (p1)
 have kN := kG.far_ (g' := w25.heap.size) (j := 1) (by omega) (p1)
 have kO := kH.far_ (g' := w25.heap.size) (j := 1) (by omega) (p1)
 have kP := kI.far_ (g' := w25.heap.size) (j := 1) (by omega) (p1)
 have kQ := kJ.far_ (g' := w25.heap.size) (j := 1) (by omega) (p1)
 have hkp : Kp w142 ((w142.setCell ⟨w25.heap.size, 0, none⟩ (p0)).setCell ⟨w25.heap.size, 1, none⟩ (p1)) := ((Kp.refl _).set_ kC (by decide) _).set_ ki (by decide) _
 obtain ⟨W201, hW⟩ : ∃ W, W = (w142.setCell ⟨w25.heap.size, 0, none⟩ (p0)).setCell ⟨w25.heap.size, 1, none⟩ (p1) := ⟨_, rfl⟩
 rw [← hW]
 rw [← hW] at hkp
 have hB : Below w.heap.size w W201 := by rw [hW]; exact bel2 (k0P.out) (by first | simp | omega)
 have k0Q := Lib.hid hB; clear hB
 have k0R := Lib.hid (k0N.out.kp hkp)
 have k0S := Lib.hid (k0O.out.kp hkp)
 have k0T := Lib.hid (kD.out.kp hkp)
 have kR : Bx W201 (w.heap.size) 31 [.bool true, va] := by rw [hW]; exact kL
 have kS : Bx W201 (w.heap.size + 1) 31 [.bool false, .slice B b.length cb] := by rw [hW]; exact kM
 have kT : Bx W201 (w.heap.size + 1 + 1) 31 [.bool false, .slice none 0 0] := by rw [hW]; exact kN
 have kU : Bx W201 (w.heap.size + 1 + 1 + 1) 31 [.bool false, .slice none 0 0] := by rw [hW]; exact kO
 have kV : Bx W201 (w25.heap.size) 31 [p0, p1] := by rw [hW]; exact kK
 have kW : Bx W201 (w25.heap.size + 1) 31 [.bool gr, .slice Ar nr cr] := by rw [hW]; exact kP
 have k8 : Bx W201 (w25.heap.size + 1 + 1) 3 [.int .i64 1] := by rw [hW]; exact kQ
 clear hW hkp ki kE kF kG kH kI kJ kK kL kM kN kO kP kQ
 obtain ⟨k3f, k3g, k3h, k3i⟩ := kR.f2
 obtain ⟨k3j, k3k, k3l, k3m⟩ := kS.f2
 obtain ⟨k3n, k3o, k3p, k3q⟩ := kT.f2
 obtain ⟨k3r, k3s, k3t, k3u⟩ := kU.f2
 obtain ⟨k3v, k3w, k3x, k3y⟩ := kV.f2
 obtain ⟨k3z, k3A, k3B, k3C⟩ := kW.f2
 have k3D := k8.cell (i := 0) rfl
 have k3E := k8.frozen
 have k3F := k8.lt
 have kX := minus_any (.slice B b.length cb) (.slice Ar nr cr) b lr W201 k0R.out k0S.out HCB.out.1 HCR.out.1 hlb (by rw [HVR.out]; have := HM0.out; have := HM1.out; omega) (HCR.out.len HCB.out.1 (by rw [HVR.out]; have := HM0.out; have := HM1.out; omega))
 (with_reducible refine kX.mono ?_)
 clear kX
 rintro e w244 ⟨v2, Lv2, rfl, hS245, hP245, k2⟩
 obtain ⟨k0U, k3G, k3H, k3I, k3J⟩ := kR.b2 k2
 obtain ⟨k0V, k3K, k3L, k3M, k3N⟩ := kS.b2 k2
 obtain ⟨k0W, k3O, k3P, k3Q, k3R⟩ := kT.b2 k2
 obtain ⟨k0X, k3S, k3T, k3U, k3V⟩ := kU.b2 k2
 obtain ⟨k0Y, k3W, k3X, k3Y, k3Z⟩ := kV.b2 k2
 obtain ⟨k0Z, k40, k41, k42, k43⟩ := kW.b2 k2
 have k9 := k8.below k2
 have k44 := k9.cell (i := 0) rfl
 have k45 := k9.frozen
 have k46 := k9.lt
 have k10 := Lib.hid (k0T.out.kp (.of k2))
 have k11 := Lib.hid (Blw k0Q.out k2)
 have k12 := Lib.hid hS245
 have Pv2 := Lib.hid hP245
 clear hS245 hP245 k2
 go_wp2_with fail
 have kY := of_any false v2 Lv2 w244 k12.out Pv2.out.1
 (with_reducible refine kY.mono ?_)
 clear kY
 rintro e w289 ⟨t0, t1, rfl, kj, k3⟩
 obtain ⟨k13, k47, k48, k49, k4a⟩ := k0U.b2 k3
 obtain ⟨k14, k4b, k4c, k4d, k4e⟩ := k0V.b2 k3
 obtain ⟨k15, k4f, k4g, k4h, k4i⟩ := k0W.b2 k3
 obtain ⟨k16, k4j, k4k, k4l, k4m⟩ := k0X.b2 k3
 obtain ⟨k17, k4n, k4o, k4p, k4q⟩ := k0Y.b2 k3
 obtain ⟨kZ, k4r, k4s, k4t, k4u⟩ := k0Z.b2 k3
 have ka := k9.below k3
 have k4v := ka.cell (i := 0) rfl
 have k4w := ka.frozen
 have k4x := ka.lt
 have kk := Lib.hid (k10.out.kp (.of k3))
 have k18 := Lib.hid (Blw k11.out k3)
 have k00 := Lib.hid kj
 obtain ⟨o_t0, o_t1⟩ := kj.ones
 clear kj k3
 have hvp : I.val Lv2 = I.val b - R := by rw [Pv2.out.2.1, HVR.out]; have := HM0.out; omega
 rw [sg_false, hvp] at k00
 clear hvp
 obtain ⟨gp, Ap, np, cp, rfl, rfl⟩ := kk.out.form
 have hlp := kk.out.len
 have hnp : 0 < (np : Int) := by
  have h2 := hlp.2
  rcases Nat.eq_zero_or_pos np with h3 | h3
  ·have := h2.1 h3; omega
  ·omega
 have hnp2 : 0 < np := by omega
 clear hlp
 go_wp2_with fail
 have kl := kZ.set_ 0 (t0)
 have k01 := k13.far_ (g' := w25.heap.size + 1) (j := 0) (by omega) (t0)
 have k02 := k14.far_ (g' := w25.heap.size + 1) (j := 0) (by omega) (t0)
 have k03 := k15.far_ (g' := w25.heap.size + 1) (j := 0) (by omega) (t0)
 have k04 := k16.far_ (g' := w25.heap.size + 1) (j := 0) (by omega) (t0)
 have k05 := k17.far_ (g' := w25.heap.size + 1) (j := 0) (by omega) (t0)
 have k06 := ka.far_ (g' := w25.heap.size + 1) (j := 0) (by omega) (t0)
 have k07 := kl.set_ 1 (t1)
 have k08 := k01.far_ (g' := w25.heap.size + 1) (j := 1) (by omega) (t1)
 have k09 := k02.far_ (g' := w25.heap.size + 1) (j := 1) (by omega) (t1)
 have k0a := k03.far_ (g' := w25.heap.size + 1) (j := 1) (by omega) (t1)
 have k0b := k04.far_ (g' := w25.heap.size + 1) (j := 1) (by omega) (t1)
 have km := k05.far_ (g' := w25.heap.size + 1) (j := 1) (by omega) (t1)
 have k0c := k06.far_ (g' := w25.heap.size + 1) (j := 1) (by omega) (t1)
 have k0d := km.set_ 0 (.bool true)
 have k0e := k08.far_ (g' := w25.heap.size) (j := 0) (by omega) (.bool true)
 have k0f := k09.far_ (g' := w25.heap.size) (j := 0) (by omega) (.bool true)
 have k0g := k0a.far_ (g' := w25.heap.size) (j := 0) (by omega) (.bool true)
 have k0h := k0b.far_ (g' := w25.heap.size) (j := 0) (by omega) (.bool true)
 have k0i := k07.far_ (g' := w25.heap.size) (j := 0) (by omega) (.bool true)
 have k0j := k0c.far_ (g' := w25.heap.size) (j := 0) (by omega) (.bool true)
 have hkp : Kp w289 (((w289.setCell ⟨w25.heap.size + 1, 0, none⟩ (t0)).setCell ⟨w25.heap.size + 1, 1, none⟩ (t1)).setCell ⟨w25.heap.size, 0, none⟩ (.bool true)) := (((Kp.refl _).set_ kZ (by decide) _).set_ kl (by decide) _).set_ km (by decide) _
 have HFQ := Lib.hid (kk.out.sign (g := true) (y := -(Q + 1)) (by have := HQ0.out; symm; simp; omega) (by omega))
 obtain ⟨W356, hW⟩ : ∃ W, W = ((w289.setCell ⟨w25.heap.size + 1, 0, none⟩ (t0)).setCell ⟨w25.heap.size + 1, 1, none⟩ (t1)).setCell ⟨w25.heap.size, 0, none⟩ (.bool true) := ⟨_, rfl⟩
 rw [← hW]
 rw [← hW] at hkp
 have hB : Below w.heap.size w W356 := by rw [hW]; exact (((k18.out).setCell (by simp <;> omega) _).setCell (by simp <;> omega) _).setCell (by simp <;> omega) _
 have k19 := Lib.hid hB; clear hB
 have k1a := Lib.hid (k00.out.kp hkp)
 have k1b := Lib.hid (HFQ.out.kp hkp)
 have k1c : Bx W356 (w.heap.size) 31 [.bool true, va] := by rw [hW]; exact k0e
 have k1d : Bx W356 (w.heap.size + 1) 31 [.bool false, .slice B b.length cb] := by rw [hW]; exact k0f
 have k0k : Bx W356 (w.heap.size + 1 + 1) 31 [.bool false, .slice none 0 0] := by rw [hW]; exact k0g
 have k0l : Bx W356 (w.heap.size + 1 + 1 + 1) 31 [.bool false, .slice none 0 0] := by rw [hW]; exact k0h
 have k1e : Bx W356 (w25.heap.size) 31 [.bool true, .slice Ap np cp] := by rw [hW]; exact k0d
 have k1f : Bx W356 (w25.heap.size + 1) 31 [t0, t1] := by rw [hW]; exact k0i
 have kn : Bx W356 (w25.heap.size + 1 + 1) 3 [.int .i64 1] := by rw [hW]; exact k0j
 clear hW hkp kl k01 k02 k03 k04 k05 k06 k07 k08 k09 k0a k0b km k0c k0d k0e k0f k0g k0h k0i k0j
 obtain ⟨k4y, k4z, k4A, k4B⟩ := k1c.f2
 obtain ⟨k4C, k4D, k4E, k4F⟩ := k1d.f2
 obtain ⟨k1g, k1h, k4G, k4H⟩ := k0k.f2
 obtain ⟨k1i, k1j, k4I, k4J⟩ := k0l.f2
 obtain ⟨k4K, k4L, k4M, k4N⟩ := k1e.f2
 obtain ⟨k4O, k4P, k4Q, k4R⟩ := k1f.f2
 have k4S := kn.cell (i := 0) rfl
 have k4T := kn.frozen
 have k4U := kn.lt
 go_region
 have k1k := k0l.far_ (g' := w.heap.size + 1 + 1) (j := 0) (by omega) (.bool true)
 have k1l := k1k.far_ (g' := w.heap.size + 1 + 1) (j := 1) (by omega) (.slice Ap np cp)
 have hkp := (((Kp.refl W356).t2 k0k (.bool true) (.slice Ap np cp)).t2 k1l t0 t1).drew
 go_wp2
 refine bodyPost_ret (v := .tuple #[.agg #[.bool true, .slice Ap np cp], .agg #[t0, t1]]) (by simp [results, Tryz.results119, go_sem, k1g, k1h, k1i, k1j]) rfl ⟨_, _, _, _, rfl, ?_, ?_, (bel2 (bel2 (k19.out) (by first | simp | omega)) (by first | simp | omega)).drew⟩
 ·exact k1b.out.kp hkp
 ·exact k1a.out.kp hkp
set_option maxRecDepth 100000 in
theorem div_tt0 (va : Value) (B : Option Addr) (cb : Nat) (a b : List Int) (w : World) (ha : Sl w va a) (hb : Sl w (.slice B b.length cb) b) (ca : I.Can a) (cbb : I.Can b) (hl : a.length ≤ 1000000000000) (hlb : b.length ≤ 1000000000000) (hb0 : 0 < I.val b) (oa : va.oneCell' = true) (hr : I.val a % I.val b = 0) :
  Calls Tryz.prog 119 #[.agg #[.bool true, va], .agg #[.bool true, .slice B b.length cb]] w (RII (I.val a / I.val b) (I.val a % I.val b) w) := by
 have HSA := Lib.hid ha; have HSB := Lib.hid hb; have HCA := Lib.hid ca; have HCB := Lib.hid cbb; have kf := Lib.hid hb0
 have hbl : ((b.length : Int) == 0) = false := beq_eq_false_iff_ne.2 (by
  intro h
  have := List.eq_nil_of_length_eq_zero (show b.length = 0 by omega)
  subst this
  simp [I.val] at hb0)
 have hm0 : 0 ≤ I.val a % I.val b := Int.emod_nonneg _ (by omega)
 have hm1 : I.val a % I.val b < I.val b := Int.emod_lt_of_pos _ hb0
 have hq0 : 0 ≤ I.val a / I.val b := Int.ediv_nonneg (I.val_nonneg ca.1) (by omega)
 obtain ⟨Q, hQ⟩ : ∃ Q, Q = I.val a / I.val b := ⟨_, rfl⟩
 obtain ⟨R, hR⟩ : ∃ R, R = I.val a % I.val b := ⟨_, rfl⟩
 rw [← hR] at hm0 hm1
 rw [← hQ] at hq0
 rw [← hR] at hr
 skip
 rw [← hQ, ← hR]
 have HQ := Lib.hid hQ; have HR := Lib.hid hR; have HM0 := Lib.hid hm0; have HM1 := Lib.hid hm1; have HQ0 := Lib.hid hq0
 clear ha hb ca cbb hb0 hQ hR hm0 hm1 hq0
 have HRR := Lib.hid hr; clear hr
 go_enter Tryz.func119, Tryz.ntmps119
 go_wp2_with fail
 generalize hW : (((w.alloc _).alloc _).alloc _).alloc _ = W1
 obtain ⟨k7, k8, k9, ka, hB⟩ := box4 hW
 have k1 := Lib.hid hB; clear hW hB
 have F7 := Lib.hid (HSA.out.kp (.of k1.out))
 have F8 := Lib.hid (HSB.out.kp (.of k1.out))
 obtain ⟨kx, ky, kz, kA⟩ := k7.f2
 obtain ⟨kB, kC, kD, kE⟩ := k8.f2
 obtain ⟨kF, kG, kH, kI⟩ := k9.f2
 obtain ⟨kJ, kK, kL, kM⟩ := ka.f2
 have k2 := divide_any va (.slice B b.length cb) a b W1 F7.out F8.out HCA.out HCB.out hl kf.out
 rw [← HQ.out, ← HR.out] at k2
 (with_reducible refine k2.mono ?_)
 clear k2
 rintro e w25 ⟨q0, q1, r0, r1, rfl, k3, k4, k0⟩
 obtain ⟨kb, kN, kO, kP, kQ⟩ := k7.b2 k0
 obtain ⟨kc, kR, kS, kT, kU⟩ := k8.b2 k0
 obtain ⟨kd, kV, kW, kX, kY⟩ := k9.b2 k0
 obtain ⟨ke, kZ, k00, k01, l46⟩ := ka.b2 k0
 have ki := Lib.hid (Blw k1.out k0)
 have k5 := Lib.hid k3
 obtain ⟨o_q0, o_q1⟩ := k3.ones
 have k6 := Lib.hid k4
 obtain ⟨o_r0, o_r1⟩ := k4.ones
 clear k3 k4 k0
 obtain ⟨gq, Aq, nq, cq, rfl, rfl⟩ := k5.out.form
 obtain ⟨gr, Ar, nr, cr, rfl, rfl⟩ := k6.out.form
 have hlr := k6.out.len
 have hlq := k5.out.len
 obtain rfl : nr = 0 := hlr.2.2 HRR.out
 clear hlr hlq
 go_wp2_with fail
 generalize hW : (w25.alloc _).alloc _ = W52
 obtain ⟨kj, kk, hB⟩ := box2 hW
 have k03 := kb.lt
 have k04 := kc.lt
 have k05 := kd.lt
 have k06 := ke.lt
 clear hW
 obtain ⟨k07, k08, k09, k0a, l63⟩ := kb.b2 hB
 obtain ⟨k0c, k0d, k0e, k0f, l68⟩ := kc.b2 hB
 obtain ⟨kl, km, kn, k0h, l73⟩ := kd.b2 hB
 obtain ⟨ko, kq, kr, k0j, l78⟩ := ke.b2 hB
 have ks := Lib.hid (k5.out.kp (.of hB))
 have kt := Lib.hid (k6.out.kp (.of hB))
 have ku := Lib.hid (Blw ki.out hB)
 clear hB
 obtain ⟨k0l, k0m, k0n, l87⟩ := kj.f2
 obtain ⟨k0p, k0q, k0r, l91⟩ := kk.f2
 have HFQ := Lib.hid (ks.out.sign (g := false) (y := Q) (by have := HQ0.out; symm; simp; omega) (by omega))
 go_region
 have kv := ko.far_ (g' := w.heap.size + 1 + 1) (j := 0) (by omega) (.bool false)
 have kw := kv.far_ (g' := w.heap.size + 1 + 1) (j := 1) (by omega) (.slice Aq nq cq)
 have hkp := (((Kp.refl W52).t2 kl (.bool false) (.slice Aq nq cq)).t2 kw (.bool gr) (.slice Ar 0 cr)).drew
 go_wp2
 refine bodyPost_ret (v := .tuple #[.agg #[.bool false, .slice Aq nq cq], .agg #[.bool gr, .slice Ar 0 cr]]) (by simp [results, Tryz.results119, go_sem, km, kn, kq, kr]) rfl ⟨_, _, _, _, rfl, ?_, ?_, (bel2 (bel2 (ku.out) (by first | simp | omega)) (by first | simp | omega)).drew⟩
 ·exact HFQ.out.kp hkp
 ·exact kt.out.kp hkp
set_option maxRecDepth 100000 in
theorem div_ttm (va : Value) (B : Option Addr) (cb : Nat) (a b : List Int) (w : World) (ha : Sl w va a) (hb : Sl w (.slice B b.length cb) b) (ca : I.Can a) (cbb : I.Can b) (hl : a.length ≤ 1000000000000) (hlb : b.length ≤ 1000000000000) (hb0 : 0 < I.val b) (oa : va.oneCell' = true) (hr : 0 < I.val a % I.val b) :
  Calls Tryz.prog 119 #[.agg #[.bool true, va], .agg #[.bool true, .slice B b.length cb]] w (RII (I.val a / I.val b + 1) (I.val b - I.val a % I.val b) w) := by
 have HSA := Lib.hid ha; have HSB := Lib.hid hb; have HCA := Lib.hid ca; have HCB := Lib.hid cbb; have HB0 := Lib.hid hb0
 have hbl : ((b.length : Int) == 0) = false := beq_eq_false_iff_ne.2 (by
  intro h
  have := List.eq_nil_of_length_eq_zero (show b.length = 0 by omega)
  subst this
  simp [I.val] at hb0)
 have hm0 : 0 ≤ I.val a % I.val b := Int.emod_nonneg _ (by omega)
 have hm1 : I.val a % I.val b < I.val b := Int.emod_lt_of_pos _ hb0
 have hq0 : 0 ≤ I.val a / I.val b := Int.ediv_nonneg (I.val_nonneg ca.1) (by omega)
 obtain ⟨Q, hQ⟩ : ∃ Q, Q = I.val a / I.val b := ⟨_, rfl⟩
 obtain ⟨R, hR⟩ : ∃ R, R = I.val a % I.val b := ⟨_, rfl⟩
 rw [← hR] at hm0 hm1
 rw [← hQ] at hq0
 rw [← hR] at hr
 skip
 rw [← hQ, ← hR]
 have HQ := Lib.hid hQ; have HR := Lib.hid hR; have HM0 := Lib.hid hm0; have HM1 := Lib.hid hm1; have HQ0 := Lib.hid hq0
 clear ha hb ca cbb hb0 hQ hR hm0 hm1 hq0
 have HRR := Lib.hid hr; clear hr
 go_enter Tryz.func119, Tryz.ntmps119
 go_wp2_with fail
 generalize hW : (((w.alloc _).alloc _).alloc _).alloc _ = W1
 obtain ⟨ko, kq, kr, ks, hB⟩ := box4 hW
 have kb := Lib.hid hB; clear hW hB
 have F7 := Lib.hid (HSA.out.kp (.of kb.out))
 have F8 := Lib.hid (HSB.out.kp (.of kb.out))
 obtain ⟨k1m, k1n, k1o, l12⟩ := ko.f2
 obtain ⟨k1q, k1r, k1s, l16⟩ := kq.f2
 obtain ⟨k1u, k1v, k1w, l20⟩ := kr.f2
 obtain ⟨k1y, k1z, k1A, l24⟩ := ks.f2
 have kc := divide_any va (.slice B b.length cb) a b W1 F7.out F8.out HCA.out HCB.out hl HB0.out
 rw [← HQ.out, ← HR.out] at kc
 (with_reducible refine kc.mono ?_)
 clear kc
 rintro e w25 ⟨q0, q1, r0, r1, rfl, kd, ke, k4⟩
 obtain ⟨ku, k1C, k1D, k1E, l31⟩ := ko.b2 k4
 obtain ⟨kv, k1G, k1H, k1I, l36⟩ := kq.b2 k4
 obtain ⟨kw, k1K, k1L, k1M, l41⟩ := kr.b2 k4
 obtain ⟨kx, k1O, k1P, k1Q, l46⟩ := ks.b2 k4
 have F48 := Lib.hid (F8.out.kp (.of k4))
 have k0p := Lib.hid (Blw kb.out k4)
 have kf := Lib.hid kd
 obtain ⟨o_q0, o_q1⟩ := kd.ones
 have kg := Lib.hid ke
 obtain ⟨o_r0, o_r1⟩ := ke.ones
 clear kd ke k4
 obtain ⟨gq, Aq, nq, cq, rfl, rfl⟩ := kf.out.form
 obtain ⟨gr, Ar, nr, cr, rfl, rfl⟩ := kg.out.form
 have hlr := kg.out.len
 have hlq := kf.out.len
 have hnr : 0 < (nr : Int) := by
  have h1 := HRR.out
  have h2 := hlr.2
  rcases Nat.eq_zero_or_pos nr with h3 | h3
  ·have := h2.1 h3; omega
  ·omega
 have hnr2 : 0 < nr := by omega
 clear hlr hlq
 go_wp2_with fail
 have hnq0 := HQ0.out
 obtain ⟨lq, slq, canq, vlq⟩ := kf.out.sl
 obtain ⟨lr, slr, canr, vlr⟩ := kg.out.sl
 have blq : lq.length ≤ 1000000000000 := Nat.le_trans (canq.len HCA.out.1 (by rw [vlq]; have := HQ.out; have := Int.ediv_le_self (I.val b) (I.val_nonneg HCA.out.1); omega)) hl
 have HSQ := Lib.hid slq; have HSR := Lib.hid slr; have HCQ := Lib.hid canq; have HCR := Lib.hid canr; have HVQ := Lib.hid vlq; have HVR := Lib.hid vlr
 clear slq slr canq canr vlq vlr
 generalize hW : ((w25.alloc _).alloc _).alloc _ = W52
 obtain ⟨ky, kz, k5, hB⟩ := box3 hW
 have k1S := ku.lt
 have k1T := kv.lt
 have k1U := kw.lt
 have k1V := kx.lt
 clear hW
 obtain ⟨k0q, k1W, k1X, k1Y, l64⟩ := ku.b2 hB
 obtain ⟨k0r, k20, k21, k22, l69⟩ := kv.b2 hB
 obtain ⟨k0s, k24, k25, k26, l74⟩ := kw.b2 hB
 obtain ⟨k0t, k28, k29, k2a, l79⟩ := kx.b2 hB
 have F81 := Lib.hid (F48.out.kp (.of hB))
 have F84 := Lib.hid (HSQ.out.kp (.of hB))
 have F85 := Lib.hid (HSR.out.kp (.of hB))
 have k0x := Lib.hid (Blw k0p.out hB)
 clear hB
 obtain ⟨k2c, k2d, k2e, l90⟩ := ky.f2
 obtain ⟨k2g, k2h, k2i, l94⟩ := kz.f2
 have k2k := k5.cell (i := 0) rfl
 have k2l := k5.frozen
 have l97 := k5.lt
 have h1s : Sl W52 (.slice (some ⟨w25.heap.size + 1 + 1, 0, none⟩) 1 1) [1] := (show Bk W52 (w25.heap.size + 1 + 1) [1] from k5).sl rfl (Nat.le_refl _) (by decide)
 have kA := plus_any (.slice Aq nq cq) _ lq [1] W52 F84.out h1s HCQ.out.1 (I.Can.one (by omega) (by omega)).1 blq (by simp)
 (with_reducible refine kA.mono ?_)
 clear kA
 rintro e w98 ⟨v1, Lv1, rfl, hS99, hP99, k0⟩
 obtain ⟨k0y, k2n, k2o, k2p, k2q⟩ := k0q.b2 k0
 obtain ⟨k0z, k2r, k2s, k2t, k2u⟩ := k0r.b2 k0
 obtain ⟨k0A, k2v, k2w, k2x, k2y⟩ := k0s.b2 k0
 obtain ⟨k0B, k2z, k2A, k2B, k2C⟩ := k0t.b2 k0
 obtain ⟨k0C, k2D, k2E, k2F, k2G⟩ := ky.b2 k0
 obtain ⟨k0D, k2H, k2I, k2J, k2K⟩ := kz.b2 k0
 have k6 := k5.below k0
 have k2L := k6.cell (i := 0) rfl
 have k2M := k6.frozen
 have k2N := k6.lt
 have k0E := Lib.hid (F81.out.kp (.of k0))
 have k0F := Lib.hid (F85.out.kp (.of k0))
 have k0G := Lib.hid (Blw k0x.out k0)
 have k0H := Lib.hid hS99
 have Pv1 := Lib.hid hP99
 clear hS99 hP99 k0
 go_wp2_with fail
 have kB := of_any false v1 Lv1 w98 k0H.out Pv1.out.1
 (with_reducible refine kB.mono ?_)
 clear kB
 rintro e w142 ⟨p0, p1, rfl, kh, k1⟩
 obtain ⟨k0I, k2O, k2P, k2Q, k2R⟩ := k0y.b2 k1
 obtain ⟨k0J, k2S, k2T, k2U, k2V⟩ := k0z.b2 k1
 obtain ⟨k0K, k2W, k2X, k2Y, k2Z⟩ := k0A.b2 k1
 obtain ⟨k0L, k30, k31, k32, k33⟩ := k0B.b2 k1
 obtain ⟨kC, k34, k35, k36, k37⟩ := k0C.b2 k1
 obtain ⟨k0M, k38, k39, k3a, k3b⟩ := k0D.b2 k1
 have k7 := k6.below k1
 have k3c := k7.cell (i := 0) rfl
 have k3d := k7.frozen
 have k3e := k7.lt
 have k0N := Lib.hid (k0E.out.kp (.of k1))
 have k0O := Lib.hid (k0F.out.kp (.of k1))
 have k0P := Lib.hid (Blw k0G.out k1)
 have kD := Lib.hid kh
 obtain ⟨o_p0, o_p1⟩ := kh.ones
 clear kh k1
 have hvp : I.val Lv1 = Q + 1 := by rw [Pv1.out.2.1, HVQ.out]; simp [I.val]; have := HQ0.out; omega
 rw [sg_false, hvp] at kD
 clear hvp
 go_wp2_with fail
 have ki := kC.set_ 0 (p0)
 have kE := k0I.far_ (g' := w25.heap.size) (j := 0) (by omega) (p0)
 have kF := k0J.far_ (g' := w25.heap.size) (j := 0) (by omega) (p0)
 have kG := k0K.far_ (g' := w25.heap.size) (j := 0) (by omega) (p0)
 have kH := k0L.far_ (g' := w25.heap.size) (j := 0) (by omega) (p0)
 have kI := k0M.far_ (g' := w25.heap.size) (j := 0) (by omega) (p0)
 have kJ := k7.far_ (g' := w25.heap.size) (j := 0) (by omega) (p0)
 have kK := ki.set_ 1 (p1)
 have kL := kE.far_ (g' := w25.heap.size) (j := 1) (by omega) (p1)
 have kM := kF.far_ (g' := w25.heap.size) (j := 1) (by omega) (p1)
 have kN := kG.far_ (g' := w25.heap.size) (j := 1) (by omega) (p1)
 have kO := kH.far_ (g' := w25.heap.size) (j := 1) (by omega) (p1)
 have kP := kI.far_ (g' := w25.heap.size) (j := 1) (by omega) (p1)
 have kQ := kJ.far_ (g' := w25.heap.size) (j := 1) (by omega) (p1)
 have hkp : Kp w142 ((w142.setCell ⟨w25.heap.size, 0, none⟩ (p0)).setCell ⟨w25.heap.size, 1, none⟩ (p1)) := ((Kp.refl _).set_ kC (by decide) _).set_ ki (by decide) _
 obtain ⟨W201, hW⟩ : ∃ W, W = (w142.setCell ⟨w25.heap.size, 0, none⟩ (p0)).setCell ⟨w25.heap.size, 1, none⟩ (p1) := ⟨_, rfl⟩
 rw [← hW]
 rw [← hW] at hkp
 have hB : Below w.heap.size w W201 := by rw [hW]; exact bel2 (k0P.out) (by first | simp | omega)
 have k0Q := Lib.hid hB; clear hB
 have k0R := Lib.hid (k0N.out.kp hkp)
 have k0S := Lib.hid (k0O.out.kp hkp)
 have k0T := Lib.hid (kD.out.kp hkp)
 have kR : Bx W201 (w.heap.size) 31 [.bool true, va] := by rw [hW]; exact kL
 have kS : Bx W201 (w.heap.size + 1) 31 [.bool true, .slice B b.length cb] := by rw [hW]; exact kM
 have kT : Bx W201 (w.heap.size + 1 + 1) 31 [.bool false, .slice none 0 0] := by rw [hW]; exact kN
 have kU : Bx W201 (w.heap.size + 1 + 1 + 1) 31 [.bool false, .slice none 0 0] := by rw [hW]; exact kO
 have kV : Bx W201 (w25.heap.size) 31 [p0, p1] := by rw [hW]; exact kK
 have kW : Bx W201 (w25.heap.size + 1) 31 [.bool gr, .slice Ar nr cr] := by rw [hW]; exact kP
 have k8 : Bx W201 (w25.heap.size + 1 + 1) 3 [.int .i64 1] := by rw [hW]; exact kQ
 clear hW hkp ki kE kF kG kH kI kJ kK kL kM kN kO kP kQ
 obtain ⟨k3f, k3g, k3h, k3i⟩ := kR.f2
 obtain ⟨k3j, k3k, k3l, k3m⟩ := kS.f2
 obtain ⟨k3n, k3o, k3p, k3q⟩ := kT.f2
 obtain ⟨k3r, k3s, k3t, k3u⟩ := kU.f2
 obtain ⟨k3v, k3w, k3x, k3y⟩ := kV.f2
 obtain ⟨k3z, k3A, k3B, k3C⟩ := kW.f2
 have k3D := k8.cell (i := 0) rfl
 have k3E := k8.frozen
 have k3F := k8.lt
 have kX := minus_any (.slice B b.length cb) (.slice Ar nr cr) b lr W201 k0R.out k0S.out HCB.out.1 HCR.out.1 hlb (by rw [HVR.out]; have := HM0.out; have := HM1.out; omega) (HCR.out.len HCB.out.1 (by rw [HVR.out]; have := HM0.out; have := HM1.out; omega))
 (with_reducible refine kX.mono ?_)
 clear kX
 rintro e w244 ⟨v2, Lv2, rfl, hS245, hP245, k2⟩
 obtain ⟨k0U, k3G, k3H, k3I, k3J⟩ := kR.b2 k2
 obtain ⟨k0V, k3K, k3L, k3M, k3N⟩ := kS.b2 k2
 obtain ⟨k0W, k3O, k3P, k3Q, k3R⟩ := kT.b2 k2
 obtain ⟨k0X, k3S, k3T, k3U, k3V⟩ := kU.b2 k2
 obtain ⟨k0Y, k3W, k3X, k3Y, k3Z⟩ := kV.b2 k2
 obtain ⟨k0Z, k40, k41, k42, k43⟩ := kW.b2 k2
 have k9 := k8.below k2
 have k44 := k9.cell (i := 0) rfl
 have k45 := k9.frozen
 have k46 := k9.lt
 have k10 := Lib.hid (k0T.out.kp (.of k2))
 have k11 := Lib.hid (Blw k0Q.out k2)
 have k12 := Lib.hid hS245
 have Pv2 := Lib.hid hP245
 clear hS245 hP245 k2
 go_wp2_with fail
 have kY := of_any false v2 Lv2 w244 k12.out Pv2.out.1
 (with_reducible refine kY.mono ?_)
 clear kY
 rintro e w289 ⟨t0, t1, rfl, kj, k3⟩
 obtain ⟨k13, k47, k48, k49, k4a⟩ := k0U.b2 k3
 obtain ⟨k14, k4b, k4c, k4d, k4e⟩ := k0V.b2 k3
 obtain ⟨k15, k4f, k4g, k4h, k4i⟩ := k0W.b2 k3
 obtain ⟨k16, k4j, k4k, k4l, k4m⟩ := k0X.b2 k3
 obtain ⟨k17, k4n, k4o, k4p, k4q⟩ := k0Y.b2 k3
 obtain ⟨kZ, k4r, k4s, k4t, k4u⟩ := k0Z.b2 k3
 have ka := k9.below k3
 have k4v := ka.cell (i := 0) rfl
 have k4w := ka.frozen
 have k4x := ka.lt
 have kk := Lib.hid (k10.out.kp (.of k3))
 have k18 := Lib.hid (Blw k11.out k3)
 have k00 := Lib.hid kj
 obtain ⟨o_t0, o_t1⟩ := kj.ones
 clear kj k3
 have hvp : I.val Lv2 = I.val b - R := by rw [Pv2.out.2.1, HVR.out]; have := HM0.out; omega
 rw [sg_false, hvp] at k00
 clear hvp
 obtain ⟨gp, Ap, np, cp, rfl, rfl⟩ := kk.out.form
 have hlp := kk.out.len
 have hnp : 0 < (np : Int) := by
  have h2 := hlp.2
  rcases Nat.eq_zero_or_pos np with h3 | h3
  ·have := h2.1 h3; omega
  ·omega
 have hnp2 : 0 < np := by omega
 clear hlp
 go_wp2_with fail
 have kl := kZ.set_ 0 (t0)
 have k01 := k13.far_ (g' := w25.heap.size + 1) (j := 0) (by omega) (t0)
 have k02 := k14.far_ (g' := w25.heap.size + 1) (j := 0) (by omega) (t0)
 have k03 := k15.far_ (g' := w25.heap.size + 1) (j := 0) (by omega) (t0)
 have k04 := k16.far_ (g' := w25.heap.size + 1) (j := 0) (by omega) (t0)
 have k05 := k17.far_ (g' := w25.heap.size + 1) (j := 0) (by omega) (t0)
 have k06 := ka.far_ (g' := w25.heap.size + 1) (j := 0) (by omega) (t0)
 have k07 := kl.set_ 1 (t1)
 have k08 := k01.far_ (g' := w25.heap.size + 1) (j := 1) (by omega) (t1)
 have k09 := k02.far_ (g' := w25.heap.size + 1) (j := 1) (by omega) (t1)
 have k0a := k03.far_ (g' := w25.heap.size + 1) (j := 1) (by omega) (t1)
 have k0b := k04.far_ (g' := w25.heap.size + 1) (j := 1) (by omega) (t1)
 have km := k05.far_ (g' := w25.heap.size + 1) (j := 1) (by omega) (t1)
 have k0c := k06.far_ (g' := w25.heap.size + 1) (j := 1) (by omega) (t1)
 have k0d := km.set_ 0 (.bool false)
 have k0e := k08.far_ (g' := w25.heap.size) (j := 0) (by omega) (.bool false)
 have k0f := k09.far_ (g' := w25.heap.size) (j := 0) (by omega) (.bool false)
 have k0g := k0a.far_ (g' := w25.heap.size) (j := 0) (by omega) (.bool false)
 have k0h := k0b.far_ (g' := w25.heap.size) (j := 0) (by omega) (.bool false)
 have k0i := k07.far_ (g' := w25.heap.size) (j := 0) (by omega) (.bool false)
 have k0j := k0c.far_ (g' := w25.heap.size) (j := 0) (by omega) (.bool false)
 have hkp : Kp w289 (((w289.setCell ⟨w25.heap.size + 1, 0, none⟩ (t0)).setCell ⟨w25.heap.size + 1, 1, none⟩ (t1)).setCell ⟨w25.heap.size, 0, none⟩ (.bool false)) := (((Kp.refl _).set_ kZ (by decide) _).set_ kl (by decide) _).set_ km (by decide) _
 have HFQ := Lib.hid (kk.out.sign (g := false) (y := Q + 1) (by have := HQ0.out; symm; simp; omega) (by omega))
 obtain ⟨W356, hW⟩ : ∃ W, W = ((w289.setCell ⟨w25.heap.size + 1, 0, none⟩ (t0)).setCell ⟨w25.heap.size + 1, 1, none⟩ (t1)).setCell ⟨w25.heap.size, 0, none⟩ (.bool false) := ⟨_, rfl⟩
 rw [← hW]
 rw [← hW] at hkp
 have hB : Below w.heap.size w W356 := by rw [hW]; exact (((k18.out).setCell (by simp <;> omega) _).setCell (by simp <;> omega) _).setCell (by simp <;> omega) _
 have k19 := Lib.hid hB; clear hB
 have k1a := Lib.hid (k00.out.kp hkp)
 have k1b := Lib.hid (HFQ.out.kp hkp)
 have k1c : Bx W356 (w.heap.size) 31 [.bool true, va] := by rw [hW]; exact k0e
 have k1d : Bx W356 (w.heap.size + 1) 31 [.bool true, .slice B b.length cb] := by rw [hW]; exact k0f
 have k0k : Bx W356 (w.heap.size + 1 + 1) 31 [.bool false, .slice none 0 0] := by rw [hW]; exact k0g
 have k0l : Bx W356 (w.heap.size + 1 + 1 + 1) 31 [.bool false, .slice none 0 0] := by rw [hW]; exact k0h
 have k1e : Bx W356 (w25.heap.size) 31 [.bool false, .slice Ap np cp] := by rw [hW]; exact k0d
 have k1f : Bx W356 (w25.heap.size + 1) 31 [t0, t1] := by rw [hW]; exact k0i
 have kn : Bx W356 (w25.heap.size + 1 + 1) 3 [.int .i64 1] := by rw [hW]; exact k0j
 clear hW hkp kl k01 k02 k03 k04 k05 k06 k07 k08 k09 k0a k0b km k0c k0d k0e k0f k0g k0h k0i k0j
 obtain ⟨k4y, k4z, k4A, k4B⟩ := k1c.f2
 obtain ⟨k4C, k4D, k4E, k4F⟩ := k1d.f2
 obtain ⟨k1g, k1h, k4G, k4H⟩ := k0k.f2
 obtain ⟨k1i, k1j, k4I, k4J⟩ := k0l.f2
 obtain ⟨k4K, k4L, k4M, k4N⟩ := k1e.f2
 obtain ⟨k4O, k4P, k4Q, k4R⟩ := k1f.f2
 have k4S := kn.cell (i := 0) rfl
 have k4T := kn.frozen
 have k4U := kn.lt
 go_region
 have k1k := k0l.far_ (g' := w.heap.size + 1 + 1) (j := 0) (by omega) (.bool false)
 have k1l := k1k.far_ (g' := w.heap.size + 1 + 1) (j := 1) (by omega) (.slice Ap np cp)
 have hkp := (((Kp.refl W356).t2 k0k (.bool false) (.slice Ap np cp)).t2 k1l t0 t1).drew
 go_wp2
 refine bodyPost_ret (v := .tuple #[.agg #[.bool false, .slice Ap np cp], .agg #[t0, t1]]) (by simp [results, Tryz.results119, go_sem, k1g, k1h, k1i, k1j]) rfl ⟨_, _, _, _, rfl, ?_, ?_, (bel2 (bel2 (k19.out) (by first | simp | omega)) (by first | simp | omega)).drew⟩
 ·exact k1b.out.kp hkp
 ·exact k1a.out.kp hkp
theorem ediv_of {a b q r : Int} (hb : 0 < b) (h : r + b * q = a) (h0 : 0 ≤ r) (h1 : r < b) : a / b = q ∧ a % b = r := (Int.ediv_emod_unique hb).2 ⟨h, h0, h1⟩
theorem idiv_any (k : Nat) (a0 a1 b0 b1 : Value) (x y : Int) (w : World) (hx : IntV w a0 a1 x) (hy : IntV w b0 b1 y) (bx : I.Bd k x) (by_ : I.Bd k y) (hk : k ≤ 1000000000000) (hy0 : y ≠ 0) :
  Calls Tryz.prog 119 #[.agg #[a0, a1], .agg #[b0, b1]] w (RII (x / y) (x % y) w) := by
 have oa := hx.one1
 obtain ⟨a, rfl, sa, ca, va⟩ := hx
 obtain ⟨b, rfl, sb, cb, vb⟩ := hy
 have la := Nat.le_trans (bx.len ca va) hk
 have lb := Nat.le_trans (by_.len cb vb) hk
 obtain ⟨B, cbb, rfl, _, _⟩ := sb.form_
 have k0 : 0 < I.val b := by omega
 have ha0 : 0 ≤ I.val a := by omega
 have hd := Int.emod_add_mul_ediv (I.val a) (I.val b)
 have hr0 := Int.emod_nonneg (I.val a) (show I.val b ≠ 0 by omega)
 have hr1 := Int.emod_lt_of_pos (I.val a) k0
 have hq0 := Int.ediv_nonneg ha0 (Int.le_of_lt k0)
 by_cases h1 : x < 0
 ·rw [decide_eq_true h1]
  have ex : x = -I.val a := by omega
  by_cases h2 : y < 0
  ·rw [decide_eq_true h2]
   have ey : y = -I.val b := by omega
   by_cases h3 : I.val a % I.val b = 0
   ·have h := div_tt0 a1 B cbb a b w sa sb ca cb la lb k0 oa h3
    have e := ediv_of (a := x) (q := -(I.val a / I.val b)) (r := 0) k0 (by rw [ex]; grind) (by omega) (by omega)
    rw [ey, Int.ediv_neg, Int.emod_neg, e.1, e.2, Int.neg_neg]
    rwa [h3] at h
   ·have h := div_ttm a1 B cbb a b w sa sb ca cb la lb k0 oa (by omega)
    have e := ediv_of (a := x) (q := -(I.val a / I.val b + 1)) (r := I.val b - I.val a % I.val b) k0 (by rw [ex]; grind) (by omega) (by omega)
    rw [ey, Int.ediv_neg, Int.emod_neg, e.1, e.2, Int.neg_neg]
    exact h
  ·rw [decide_eq_false h2]
   have ey : y = I.val b := by omega
   by_cases h3 : I.val a % I.val b = 0
   ·have e := ediv_of (a := x) (q := -(I.val a / I.val b)) (r := 0) k0 (by rw [ex]; grind) (by omega) (by omega)
    rw [ey, e.1, e.2]
    by_cases h4 : I.val a / I.val b = 0
    ·have h := div_tf0 a1 B cbb a b w sa sb ca cb la lb k0 oa h3 h4
     rwa [h3] at h
    ·have h := div_tf1 a1 B cbb a b w sa sb ca cb la lb k0 oa h3 (by omega)
     rwa [h3] at h
   ·have h := div_tfm a1 B cbb a b w sa sb ca cb la lb k0 oa (by omega)
    have e := ediv_of (a := x) (q := -(I.val a / I.val b + 1)) (r := I.val b - I.val a % I.val b) k0 (by rw [ex]; grind) (by omega) (by omega)
    rw [ey, e.1, e.2]
    exact h
 ·rw [decide_eq_false h1]
  have ex : x = I.val a := by omega
  by_cases h2 : y < 0
  ·rw [decide_eq_true h2]
   have ey : y = -I.val b := by omega
   rw [ex, ey, Int.ediv_neg, Int.emod_neg]
   by_cases h4 : I.val a / I.val b = 0
   ·exact div_ft0 a1 B cbb a b w sa sb ca cb la lb k0 oa h4
   ·exact div_ft1 a1 B cbb a b w sa sb ca cb la lb k0 oa (by omega)
  ·rw [decide_eq_false h2]
   have ey : y = I.val b := by omega
   rw [ex, ey]
   exact div_ff a1 B cbb a b w sa sb ca cb la lb k0 oa
end Go.Proofs.YtcfejkpadcccbaaGreat
