/-
 THE WALKS of the reference of package integer: Div.
-/
import Derived.Test.YtcfejkpadcccbaaGreatRef3D
import Derived.Test.YtcfejkpadcccbaaGreatWalkDiv
namespace Go.Proofs.YtcfejkpadcccbaaGreat
set_option maxHeartbeats 4000000
open Go.RowKit
attribute [local go_sem] run_store_one
set_option linter.unusedVariables false
theorem div3_any (va vb : Value) (a b : List Int) (w : World) (ha : Sl w va a) (hb : Sl w vb b) (ca : I.Can a) (cb : I.Can b) (hb0 : 0 < I.val b) (hla : a.length ≤ 800000000000) (hlb : b.length ≤ 800000000000) :
  Calls Tryz.prog 135 #[va, vb] w (LongIs a b w) := by
 obtain ⟨A, c, rfl, _, _⟩ := ha.form_
 obtain ⟨B, d, rfl, _, _⟩ := hb.form_
 by_cases hm : a.length ≤ 2 ∧ b.length ≤ 2
 ·exact div3_small A B c d a b w ha hb ca.1 cb.1 hb0 hm.1 hm.2 (fun l hc hv => hc.len ca.1 hv)
 ·exact div3_big A B c d a b w (Lib.hid ha) (Lib.hid hb) (Lib.hid ca.1) (Lib.hid cb) (Lib.hid hb0) hla hlb hm
theorem sg_add {s : Bool} {x y : Int} : sg s x + sg s y = sg s (x + y) := by
 unfold sg
 cases s <;> simp <;> omega
theorem bd_sg {k : Nat} {s : Bool} {x : Int} (h : I.Bd k x) : I.Bd k (sg s x) := by
 unfold sg
 cases s
 ·exact h
 ·exact h.neg
theorem bd_val {k : Nat} {a : List Int} {x : Int} (h : I.Bd k x) (hv : I.val a = (x.natAbs : Int)) : I.Bd k (I.val a) := h.of_le (by rw [hv]; simp)
set_option maxRecDepth 100000 in
theorem dv3_ff (k : Nat) (va : Value) (B : Option Addr) (cb : Nat) (a b : List Int) (w : World) (ha : Sl w va a) (hb : Sl w (.slice B b.length cb) b) (ca : I.Can a) (cbb : I.Can b) (hl : a.length ≤ 800000000000) (hlb : b.length ≤ 800000000000) (hb0 : 0 < I.val b) (oa : va.oneCell' = true) (hka : I.Bd k (I.val a)) (hk : k ≤ 800000000000) (hk1 : 1 ≤ k) :
  Calls Tryz.prog 122 #[.agg #[.bool false, va], .agg #[.bool false, .slice B b.length cb]] w (RII (sg false (I.val a / I.val b)) (I.val a % I.val b) w) := by
 have HSA := Lib.hid ha; have HSB := Lib.hid hb; have HCA := Lib.hid ca; have HCB := Lib.hid cbb; have kq := Lib.hid hb0
 have hbl : ((b.length : Int) == 0) = false := beq_eq_false_iff_ne.2 (by
  intro h
  have := List.eq_nil_of_length_eq_zero (show b.length = 0 by omega)
  subst this
  simp [I.val] at hb0)
 have hm0 : 0 ≤ I.val a % I.val b := Int.emod_nonneg _ (by omega)
 have hm1 : I.val a % I.val b < I.val b := Int.emod_lt_of_pos _ hb0
 have hq0 : 0 ≤ I.val a / I.val b := Int.ediv_nonneg (I.val_nonneg ca.1) (by omega)
 have hqb : I.Bd k (I.val a / I.val b) := hka.of_le (by have := Int.ediv_le_self (I.val b) (I.val_nonneg ca.1); omega)
 have hk1b : I.Bd k 1 := by unfold I.Bd; exact Nat.one_lt_two_pow (by omega)
 obtain ⟨Q, hQ⟩ : ∃ Q, Q = I.val a / I.val b := ⟨_, rfl⟩
 obtain ⟨R, hR⟩ : ∃ R, R = I.val a % I.val b := ⟨_, rfl⟩
 rw [← hR] at hm0 hm1
 rw [← hQ] at hq0 hqb
 skip
 rw [← hQ, ← hR]
 have HQ := Lib.hid hQ; have HR := Lib.hid hR; have HM0 := Lib.hid hm0; have HM1 := Lib.hid hm1; have HQ0 := Lib.hid hq0; have HQB := Lib.hid hqb; have HK1 := Lib.hid hk1b
 clear ha hb ca cbb hb0 hQ hR hm0 hm1 hq0 hqb hk1b hka
 go_enter Tryz.func122, Tryz.ntmps122
 go_wp2_with fail
 generalize hW : (((w.alloc _).alloc _).alloc _).alloc _ = W1
 obtain ⟨kr, ks, kt, ku, hB⟩ := box4 hW
 have k3 := Lib.hid hB; clear hW hB
 have F7 := Lib.hid (HSA.out.kp (.of k3.out))
 have F8 := Lib.hid (HSB.out.kp (.of k3.out))
 have ki := div3_any va (.slice B b.length cb) a b W1 F7.out F8.out HCA.out HCB.out kq.out hl hlb
 (with_reducible refine ki.mono ?_)
 clear ki
 rintro e w9 ⟨vq, vr, q, r, rfl, hS10, hD10, hT10, hE10, hV10, hr1, _, _, k2⟩
 have kj := kr.below k2
 have kk := ks.below k2
 have kl := kt.below k2
 have km := ku.below k2
 have kx := Lib.hid (Blw k3.out k2)
 have ky := Lib.hid hS10
 have kz := Lib.hid hT10
 have HDQ := Lib.hid hD10
 have HDR := Lib.hid hE10
 have HQV := Lib.hid (quo_of hV10 (I.val_nonneg hE10) hr1)
 have HRV := Lib.hid (rem_of hV10 (I.val_nonneg hE10) hr1)
 clear hS10 hD10 hT10 hE10 hV10 hr1 k2
 obtain ⟨kY, kZ, k00, l23⟩ := kj.f2
 obtain ⟨k02, k03, k04, l27⟩ := kk.f2
 obtain ⟨k06, k07, k08, l31⟩ := kl.f2
 obtain ⟨k0a, k0b, k0c, l35⟩ := km.f2
 go_wp2_with fail
 have hvq : I.val q = Q := HQV.out.trans HQ.out.symm
 have hvr : I.val r = R := HRV.out.trans HR.out.symm
 have HVQ := Lib.hid hvq; have HVR := Lib.hid hvr
 clear hvq hvr
 have k4 := normal_any false vq q w9 ky.out HDQ.out
 rw [HVQ.out] at k4
 (with_reducible refine k4.mono ?_)
 clear k4
 rintro e w36 ⟨x0, x1, rfl, k5, k1⟩
 have k6 := kj.below k1
 have k7 := kk.below k1
 have k8 := kl.below k1
 have k9 := km.below k1
 have kA := Lib.hid (kz.out.kp (.of k1))
 have kB := Lib.hid (Blw kx.out k1)
 have kC := Lib.hid k5
 obtain ⟨o_x0, o_x1⟩ := k5.ones
 clear k5 k1
 obtain ⟨k0e, k0f, k0g, l51⟩ := k6.f2
 obtain ⟨k0i, k0j, k0k, l55⟩ := k7.f2
 obtain ⟨k0m, k0n, k0o, l59⟩ := k8.f2
 obtain ⟨k0q, k0r, k0s, l63⟩ := k9.f2
 go_wp2_with fail
 generalize hW : w36.alloc _ = W64
 obtain ⟨kD, hB⟩ := box1 hW
 have k0u := k6.lt
 have k0v := k7.lt
 have k0w := k8.lt
 have k0x := k9.lt
 clear hW
 have kE := k6.below hB
 have kF := k7.below hB
 have kG := k8.below hB
 have kH := k9.below hB
 have kI := Lib.hid (kA.out.kp (.of hB))
 have kJ := Lib.hid (kC.out.kp (.of hB))
 have kK := Lib.hid (Blw kB.out hB)
 clear hB
 have ka := normal_any false vr r W64 kI.out HDR.out
 rw [HVR.out] at ka
 (with_reducible refine ka.mono ?_)
 clear ka
 rintro e w80 ⟨y0, y1, rfl, kb, k0⟩
 have kc := kE.below k0
 have kd := kF.below k0
 have ke := kG.below k0
 have kf := kH.below k0
 have kg := kD.below k0
 have kL := Lib.hid (kJ.out.kp (.of k0))
 have kM := Lib.hid (Blw kK.out k0)
 have kh := Lib.hid kb
 obtain ⟨o_y0, o_y1⟩ := kb.ones
 clear kb k0
 obtain ⟨gy, Ay, ny, cy, rfl, rfl⟩ := kh.out.form
 have hly := kh.out.len.2
 obtain ⟨k0A, k0B, k0C, l97⟩ := kc.f2
 obtain ⟨k0E, k0F, k0G, k0H⟩ := kd.f2
 obtain ⟨k0I, k0J, k0K, k0L⟩ := ke.f2
 obtain ⟨k0M, k0N, k0O, k0P⟩ := kf.f2
 obtain ⟨k0Q, k0R, k0S, k0T⟩ := kg.f2
 clear hly
 go_wp2_with fail
 generalize hW : w80.alloc _ = W114
 obtain ⟨kN, hB⟩ := box1 hW
 have k0U := kc.lt
 have k0V := kd.lt
 have k0W := ke.lt
 have k0X := kf.lt
 have k0Y := kg.lt
 clear hW
 have kO := kc.below hB
 have kP := kd.below hB
 have kn := ke.below hB
 have ko := kf.below hB
 have kQ := kg.below hB
 have kR := Lib.hid (kL.out.kp (.of hB))
 have kS := Lib.hid (kh.out.kp (.of hB))
 have kT := Lib.hid (Blw kM.out hB)
 clear hB
 obtain ⟨k0Z, k10, k11, k12⟩ := kO.f2
 obtain ⟨k13, k14, k15, k16⟩ := kP.f2
 obtain ⟨kU, kV, k17, k18⟩ := kn.f2
 obtain ⟨kW, kX, k19, k1a⟩ := ko.f2
 obtain ⟨k1b, k1c, k1d, k1e⟩ := kQ.f2
 obtain ⟨k1f, k1g, k1h, k1i⟩ := kN.f2
 go_region
 have hkp := (((Kp.refl W114).t2 (kn) x0 x1).t2 (((ko).far_ (g' := w.heap.size + 1 + 1) (j := 0) (by omega) (x0)).far_ (g' := w.heap.size + 1 + 1) (j := 1) (by omega) (x1)) (.bool gy) (.slice Ay ny cy)).drew
 go_wp2
 refine bodyPost_ret (v := .tuple #[.agg #[x0, x1], .agg #[.bool gy, .slice Ay ny cy]]) (by simp [results, Tryz.results122, go_sem, kU, kV, kW, kX]) rfl ⟨_, _, _, _, rfl, ?_, ?_, (bel2 (bel2 (kT.out) (by first | simp | omega)) (by first | simp | omega)).drew⟩
 ·exact kR.out.kp hkp
 ·exact kS.out.kp hkp
set_option maxRecDepth 100000 in
theorem dv3_ft (k : Nat) (va : Value) (B : Option Addr) (cb : Nat) (a b : List Int) (w : World) (ha : Sl w va a) (hb : Sl w (.slice B b.length cb) b) (ca : I.Can a) (cbb : I.Can b) (hl : a.length ≤ 800000000000) (hlb : b.length ≤ 800000000000) (hb0 : 0 < I.val b) (oa : va.oneCell' = true) (hka : I.Bd k (I.val a)) (hk : k ≤ 800000000000) (hk1 : 1 ≤ k) :
  Calls Tryz.prog 122 #[.agg #[.bool false, va], .agg #[.bool true, .slice B b.length cb]] w (RII (sg true (I.val a / I.val b)) (I.val a % I.val b) w) := by
 have HSA := Lib.hid ha; have HSB := Lib.hid hb; have HCA := Lib.hid ca; have HCB := Lib.hid cbb; have kq := Lib.hid hb0
 have hbl : ((b.length : Int) == 0) = false := beq_eq_false_iff_ne.2 (by
  intro h
  have := List.eq_nil_of_length_eq_zero (show b.length = 0 by omega)
  subst this
  simp [I.val] at hb0)
 have hm0 : 0 ≤ I.val a % I.val b := Int.emod_nonneg _ (by omega)
 have hm1 : I.val a % I.val b < I.val b := Int.emod_lt_of_pos _ hb0
 have hq0 : 0 ≤ I.val a / I.val b := Int.ediv_nonneg (I.val_nonneg ca.1) (by omega)
 have hqb : I.Bd k (I.val a / I.val b) := hka.of_le (by have := Int.ediv_le_self (I.val b) (I.val_nonneg ca.1); omega)
 have hk1b : I.Bd k 1 := by unfold I.Bd; exact Nat.one_lt_two_pow (by omega)
 obtain ⟨Q, hQ⟩ : ∃ Q, Q = I.val a / I.val b := ⟨_, rfl⟩
 obtain ⟨R, hR⟩ : ∃ R, R = I.val a % I.val b := ⟨_, rfl⟩
 rw [← hR] at hm0 hm1
 rw [← hQ] at hq0 hqb
 skip
 rw [← hQ, ← hR]
 have HQ := Lib.hid hQ; have HR := Lib.hid hR; have HM0 := Lib.hid hm0; have HM1 := Lib.hid hm1; have HQ0 := Lib.hid hq0; have HQB := Lib.hid hqb; have HK1 := Lib.hid hk1b
 clear ha hb ca cbb hb0 hQ hR hm0 hm1 hq0 hqb hk1b hka
 go_enter Tryz.func122, Tryz.ntmps122
 go_wp2_with fail
 generalize hW : (((w.alloc _).alloc _).alloc _).alloc _ = W1
 obtain ⟨kr, ks, kt, ku, hB⟩ := box4 hW
 have k3 := Lib.hid hB; clear hW hB
 have F7 := Lib.hid (HSA.out.kp (.of k3.out))
 have F8 := Lib.hid (HSB.out.kp (.of k3.out))
 have ki := div3_any va (.slice B b.length cb) a b W1 F7.out F8.out HCA.out HCB.out kq.out hl hlb
 (with_reducible refine ki.mono ?_)
 clear ki
 rintro e w9 ⟨vq, vr, q, r, rfl, hS10, hD10, hT10, hE10, hV10, hr1, _, _, k2⟩
 have kj := kr.below k2
 have kk := ks.below k2
 have kl := kt.below k2
 have km := ku.below k2
 have kx := Lib.hid (Blw k3.out k2)
 have ky := Lib.hid hS10
 have kz := Lib.hid hT10
 have HDQ := Lib.hid hD10
 have HDR := Lib.hid hE10
 have HQV := Lib.hid (quo_of hV10 (I.val_nonneg hE10) hr1)
 have HRV := Lib.hid (rem_of hV10 (I.val_nonneg hE10) hr1)
 clear hS10 hD10 hT10 hE10 hV10 hr1 k2
 obtain ⟨kY, kZ, k00, l23⟩ := kj.f2
 obtain ⟨k02, k03, k04, l27⟩ := kk.f2
 obtain ⟨k06, k07, k08, l31⟩ := kl.f2
 obtain ⟨k0a, k0b, k0c, l35⟩ := km.f2
 go_wp2_with fail
 have hvq : I.val q = Q := HQV.out.trans HQ.out.symm
 have hvr : I.val r = R := HRV.out.trans HR.out.symm
 have HVQ := Lib.hid hvq; have HVR := Lib.hid hvr
 clear hvq hvr
 have k4 := normal_any true vq q w9 ky.out HDQ.out
 rw [HVQ.out] at k4
 (with_reducible refine k4.mono ?_)
 clear k4
 rintro e w36 ⟨x0, x1, rfl, k5, k1⟩
 have k6 := kj.below k1
 have k7 := kk.below k1
 have k8 := kl.below k1
 have k9 := km.below k1
 have kA := Lib.hid (kz.out.kp (.of k1))
 have kB := Lib.hid (Blw kx.out k1)
 have kC := Lib.hid k5
 obtain ⟨o_x0, o_x1⟩ := k5.ones
 clear k5 k1
 obtain ⟨k0e, k0f, k0g, l51⟩ := k6.f2
 obtain ⟨k0i, k0j, k0k, l55⟩ := k7.f2
 obtain ⟨k0m, k0n, k0o, l59⟩ := k8.f2
 obtain ⟨k0q, k0r, k0s, l63⟩ := k9.f2
 go_wp2_with fail
 generalize hW : w36.alloc _ = W64
 obtain ⟨kD, hB⟩ := box1 hW
 have k0u := k6.lt
 have k0v := k7.lt
 have k0w := k8.lt
 have k0x := k9.lt
 clear hW
 have kE := k6.below hB
 have kF := k7.below hB
 have kG := k8.below hB
 have kH := k9.below hB
 have kI := Lib.hid (kA.out.kp (.of hB))
 have kJ := Lib.hid (kC.out.kp (.of hB))
 have kK := Lib.hid (Blw kB.out hB)
 clear hB
 have ka := normal_any false vr r W64 kI.out HDR.out
 rw [HVR.out] at ka
 (with_reducible refine ka.mono ?_)
 clear ka
 rintro e w80 ⟨y0, y1, rfl, kb, k0⟩
 have kc := kE.below k0
 have kd := kF.below k0
 have ke := kG.below k0
 have kf := kH.below k0
 have kg := kD.below k0
 have kL := Lib.hid (kJ.out.kp (.of k0))
 have kM := Lib.hid (Blw kK.out k0)
 have kh := Lib.hid kb
 obtain ⟨o_y0, o_y1⟩ := kb.ones
 clear kb k0
 obtain ⟨gy, Ay, ny, cy, rfl, rfl⟩ := kh.out.form
 have hly := kh.out.len.2
 obtain ⟨k0A, k0B, k0C, l97⟩ := kc.f2
 obtain ⟨k0E, k0F, k0G, k0H⟩ := kd.f2
 obtain ⟨k0I, k0J, k0K, k0L⟩ := ke.f2
 obtain ⟨k0M, k0N, k0O, k0P⟩ := kf.f2
 obtain ⟨k0Q, k0R, k0S, k0T⟩ := kg.f2
 clear hly
 go_wp2_with fail
 generalize hW : w80.alloc _ = W114
 obtain ⟨kN, hB⟩ := box1 hW
 have k0U := kc.lt
 have k0V := kd.lt
 have k0W := ke.lt
 have k0X := kf.lt
 have k0Y := kg.lt
 clear hW
 have kO := kc.below hB
 have kP := kd.below hB
 have kn := ke.below hB
 have ko := kf.below hB
 have kQ := kg.below hB
 have kR := Lib.hid (kL.out.kp (.of hB))
 have kS := Lib.hid (kh.out.kp (.of hB))
 have kT := Lib.hid (Blw kM.out hB)
 clear hB
 obtain ⟨k0Z, k10, k11, k12⟩ := kO.f2
 obtain ⟨k13, k14, k15, k16⟩ := kP.f2
 obtain ⟨kU, kV, k17, k18⟩ := kn.f2
 obtain ⟨kW, kX, k19, k1a⟩ := ko.f2
 obtain ⟨k1b, k1c, k1d, k1e⟩ := kQ.f2
 obtain ⟨k1f, k1g, k1h, k1i⟩ := kN.f2
 go_region
 have hkp := (((Kp.refl W114).t2 (kn) x0 x1).t2 (((ko).far_ (g' := w.heap.size + 1 + 1) (j := 0) (by omega) (x0)).far_ (g' := w.heap.size + 1 + 1) (j := 1) (by omega) (x1)) (.bool gy) (.slice Ay ny cy)).drew
 go_wp2
 refine bodyPost_ret (v := .tuple #[.agg #[x0, x1], .agg #[.bool gy, .slice Ay ny cy]]) (by simp [results, Tryz.results122, go_sem, kU, kV, kW, kX]) rfl ⟨_, _, _, _, rfl, ?_, ?_, (bel2 (bel2 (kT.out) (by first | simp | omega)) (by first | simp | omega)).drew⟩
 ·exact kR.out.kp hkp
 ·exact kS.out.kp hkp
set_option maxRecDepth 100000 in
theorem dv3_tf0 (k : Nat) (va : Value) (B : Option Addr) (cb : Nat) (a b : List Int) (w : World) (ha : Sl w va a) (hb : Sl w (.slice B b.length cb) b) (ca : I.Can a) (cbb : I.Can b) (hl : a.length ≤ 800000000000) (hlb : b.length ≤ 800000000000) (hb0 : 0 < I.val b) (oa : va.oneCell' = true) (hka : I.Bd k (I.val a)) (hk : k ≤ 800000000000) (hk1 : 1 ≤ k) (hr : I.val a % I.val b = 0) :
  Calls Tryz.prog 122 #[.agg #[.bool true, va], .agg #[.bool false, .slice B b.length cb]] w (RII (sg true (I.val a / I.val b)) (I.val a % I.val b) w) := by
 have HSA := Lib.hid ha; have HSB := Lib.hid hb; have HCA := Lib.hid ca; have HCB := Lib.hid cbb; have kq := Lib.hid hb0
 have hbl : ((b.length : Int) == 0) = false := beq_eq_false_iff_ne.2 (by
  intro h
  have := List.eq_nil_of_length_eq_zero (show b.length = 0 by omega)
  subst this
  simp [I.val] at hb0)
 have hm0 : 0 ≤ I.val a % I.val b := Int.emod_nonneg _ (by omega)
 have hm1 : I.val a % I.val b < I.val b := Int.emod_lt_of_pos _ hb0
 have hq0 : 0 ≤ I.val a / I.val b := Int.ediv_nonneg (I.val_nonneg ca.1) (by omega)
 have hqb : I.Bd k (I.val a / I.val b) := hka.of_le (by have := Int.ediv_le_self (I.val b) (I.val_nonneg ca.1); omega)
 have hk1b : I.Bd k 1 := by unfold I.Bd; exact Nat.one_lt_two_pow (by omega)
 obtain ⟨Q, hQ⟩ : ∃ Q, Q = I.val a / I.val b := ⟨_, rfl⟩
 obtain ⟨R, hR⟩ : ∃ R, R = I.val a % I.val b := ⟨_, rfl⟩
 rw [← hR] at hm0 hm1
 rw [← hQ] at hq0 hqb
 rw [← hR] at hr
 rw [← hQ, ← hR]
 have HQ := Lib.hid hQ; have HR := Lib.hid hR; have HM0 := Lib.hid hm0; have HM1 := Lib.hid hm1; have HQ0 := Lib.hid hq0; have HQB := Lib.hid hqb; have HK1 := Lib.hid hk1b
 clear ha hb ca cbb hb0 hQ hR hm0 hm1 hq0 hqb hk1b hka
 have HRR := Lib.hid hr; clear hr
 go_enter Tryz.func122, Tryz.ntmps122
 go_wp2_with fail
 generalize hW : (((w.alloc _).alloc _).alloc _).alloc _ = W1
 obtain ⟨kr, ks, kt, ku, hB⟩ := box4 hW
 have k3 := Lib.hid hB; clear hW hB
 have F7 := Lib.hid (HSA.out.kp (.of k3.out))
 have F8 := Lib.hid (HSB.out.kp (.of k3.out))
 have ki := div3_any va (.slice B b.length cb) a b W1 F7.out F8.out HCA.out HCB.out kq.out hl hlb
 (with_reducible refine ki.mono ?_)
 clear ki
 rintro e w9 ⟨vq, vr, q, r, rfl, hS10, hD10, hT10, hE10, hV10, hr1, _, _, k2⟩
 have kj := kr.below k2
 have kk := ks.below k2
 have kl := kt.below k2
 have km := ku.below k2
 have kx := Lib.hid (Blw k3.out k2)
 have ky := Lib.hid hS10
 have kz := Lib.hid hT10
 have HDQ := Lib.hid hD10
 have HDR := Lib.hid hE10
 have HQV := Lib.hid (quo_of hV10 (I.val_nonneg hE10) hr1)
 have HRV := Lib.hid (rem_of hV10 (I.val_nonneg hE10) hr1)
 clear hS10 hD10 hT10 hE10 hV10 hr1 k2
 obtain ⟨kY, kZ, k00, l23⟩ := kj.f2
 obtain ⟨k02, k03, k04, l27⟩ := kk.f2
 obtain ⟨k06, k07, k08, l31⟩ := kl.f2
 obtain ⟨k0a, k0b, k0c, l35⟩ := km.f2
 go_wp2_with fail
 have hvq : I.val q = Q := HQV.out.trans HQ.out.symm
 have hvr : I.val r = R := HRV.out.trans HR.out.symm
 have HVQ := Lib.hid hvq; have HVR := Lib.hid hvr
 clear hvq hvr
 have k4 := normal_any true vq q w9 ky.out HDQ.out
 rw [HVQ.out] at k4
 (with_reducible refine k4.mono ?_)
 clear k4
 rintro e w36 ⟨x0, x1, rfl, k5, k1⟩
 have k6 := kj.below k1
 have k7 := kk.below k1
 have k8 := kl.below k1
 have k9 := km.below k1
 have kA := Lib.hid (kz.out.kp (.of k1))
 have kB := Lib.hid (Blw kx.out k1)
 have kC := Lib.hid k5
 obtain ⟨o_x0, o_x1⟩ := k5.ones
 clear k5 k1
 obtain ⟨k0e, k0f, k0g, l51⟩ := k6.f2
 obtain ⟨k0i, k0j, k0k, l55⟩ := k7.f2
 obtain ⟨k0m, k0n, k0o, l59⟩ := k8.f2
 obtain ⟨k0q, k0r, k0s, l63⟩ := k9.f2
 go_wp2_with fail
 generalize hW : w36.alloc _ = W64
 obtain ⟨kD, hB⟩ := box1 hW
 have k0u := k6.lt
 have k0v := k7.lt
 have k0w := k8.lt
 have k0x := k9.lt
 clear hW
 have kE := k6.below hB
 have kF := k7.below hB
 have kG := k8.below hB
 have kH := k9.below hB
 have kI := Lib.hid (kA.out.kp (.of hB))
 have kJ := Lib.hid (kC.out.kp (.of hB))
 have kK := Lib.hid (Blw kB.out hB)
 clear hB
 have ka := normal_any false vr r W64 kI.out HDR.out
 rw [HVR.out] at ka
 (with_reducible refine ka.mono ?_)
 clear ka
 rintro e w80 ⟨y0, y1, rfl, kb, k0⟩
 have kc := kE.below k0
 have kd := kF.below k0
 have ke := kG.below k0
 have kf := kH.below k0
 have kg := kD.below k0
 have kL := Lib.hid (kJ.out.kp (.of k0))
 have kM := Lib.hid (Blw kK.out k0)
 have kh := Lib.hid kb
 obtain ⟨o_y0, o_y1⟩ := kb.ones
 clear kb k0
 obtain ⟨gy, Ay, ny, cy, rfl, rfl⟩ := kh.out.form
 have hly := kh.out.len.2
 obtain rfl : ny = 0 := hly.2 (by rw [HRR.out]; rfl)
 obtain ⟨k0A, k0B, k0C, l97⟩ := kc.f2
 obtain ⟨k0E, k0F, k0G, k0H⟩ := kd.f2
 obtain ⟨k0I, k0J, k0K, k0L⟩ := ke.f2
 obtain ⟨k0M, k0N, k0O, k0P⟩ := kf.f2
 obtain ⟨k0Q, k0R, k0S, k0T⟩ := kg.f2
 clear hly
 go_wp2_with fail
 generalize hW : w80.alloc _ = W114
 obtain ⟨kN, hB⟩ := box1 hW
 have k0U := kc.lt
 have k0V := kd.lt
 have k0W := ke.lt
 have k0X := kf.lt
 have k0Y := kg.lt
 clear hW
 have kO := kc.below hB
 have kP := kd.below hB
 have kn := ke.below hB
 have ko := kf.below hB
 have kQ := kg.below hB
 have kR := Lib.hid (kL.out.kp (.of hB))
 have kS := Lib.hid (kh.out.kp (.of hB))
 have kT := Lib.hid (Blw kM.out hB)
 clear hB
 obtain ⟨k0Z, k10, k11, k12⟩ := kO.f2
 obtain ⟨k13, k14, k15, k16⟩ := kP.f2
 obtain ⟨kU, kV, k17, k18⟩ := kn.f2
 obtain ⟨kW, kX, k19, k1a⟩ := ko.f2
 obtain ⟨k1b, k1c, k1d, k1e⟩ := kQ.f2
 obtain ⟨k1f, k1g, k1h, k1i⟩ := kN.f2
 go_region
 have hkp := (((Kp.refl W114).t2 (kn) x0 x1).t2 (((ko).far_ (g' := w.heap.size + 1 + 1) (j := 0) (by omega) (x0)).far_ (g' := w.heap.size + 1 + 1) (j := 1) (by omega) (x1)) (.bool gy) (.slice Ay 0 cy)).drew
 go_wp2
 refine bodyPost_ret (v := .tuple #[.agg #[x0, x1], .agg #[.bool gy, .slice Ay 0 cy]]) (by simp [results, Tryz.results122, go_sem, kU, kV, kW, kX]) rfl ⟨_, _, _, _, rfl, ?_, ?_, (bel2 (bel2 (kT.out) (by first | simp | omega)) (by first | simp | omega)).drew⟩
 ·exact kR.out.kp hkp
 ·exact kS.out.kp hkp
set_option maxRecDepth 100000 in
theorem dv3_tfm (k : Nat) (va : Value) (B : Option Addr) (cb : Nat) (a b : List Int) (w : World) (ha : Sl w va a) (hb : Sl w (.slice B b.length cb) b) (ca : I.Can a) (cbb : I.Can b) (hl : a.length ≤ 800000000000) (hlb : b.length ≤ 800000000000) (hb0 : 0 < I.val b) (oa : va.oneCell' = true) (hka : I.Bd k (I.val a)) (hk : k ≤ 800000000000) (hk1 : 1 ≤ k) (hr : 0 < I.val a % I.val b) :
  Calls Tryz.prog 122 #[.agg #[.bool true, va], .agg #[.bool false, .slice B b.length cb]] w (RII (sg true (I.val a / I.val b + 1)) (I.val b - I.val a % I.val b) w) := by
 have HSA := Lib.hid ha; have HSB := Lib.hid hb; have HCA := Lib.hid ca; have HCB := Lib.hid cbb; have kZ := Lib.hid hb0
 have hbl : ((b.length : Int) == 0) = false := beq_eq_false_iff_ne.2 (by
  intro h
  have := List.eq_nil_of_length_eq_zero (show b.length = 0 by omega)
  subst this
  simp [I.val] at hb0)
 have hm0 : 0 ≤ I.val a % I.val b := Int.emod_nonneg _ (by omega)
 have hm1 : I.val a % I.val b < I.val b := Int.emod_lt_of_pos _ hb0
 have hq0 : 0 ≤ I.val a / I.val b := Int.ediv_nonneg (I.val_nonneg ca.1) (by omega)
 have hqb : I.Bd k (I.val a / I.val b) := hka.of_le (by have := Int.ediv_le_self (I.val b) (I.val_nonneg ca.1); omega)
 have hk1b : I.Bd k 1 := by unfold I.Bd; exact Nat.one_lt_two_pow (by omega)
 obtain ⟨Q, hQ⟩ : ∃ Q, Q = I.val a / I.val b := ⟨_, rfl⟩
 obtain ⟨R, hR⟩ : ∃ R, R = I.val a % I.val b := ⟨_, rfl⟩
 rw [← hR] at hm0 hm1
 rw [← hQ] at hq0 hqb
 rw [← hR] at hr
 rw [← hQ, ← hR]
 have HQ := Lib.hid hQ; have HR := Lib.hid hR; have HM0 := Lib.hid hm0; have HM1 := Lib.hid hm1; have HQ0 := Lib.hid hq0; have HQB := Lib.hid hqb; have HK1 := Lib.hid hk1b
 clear ha hb ca cbb hb0 hQ hR hm0 hm1 hq0 hqb hk1b hka
 have HRR := Lib.hid hr; clear hr
 go_enter Tryz.func122, Tryz.ntmps122
 go_wp2_with fail
 generalize hW : (((w.alloc _).alloc _).alloc _).alloc _ = W1
 obtain ⟨k00, k01, k02, k03, hB⟩ := box4 hW
 have k7 := Lib.hid hB; clear hW hB
 have F7 := Lib.hid (HSA.out.kp (.of k7.out))
 have F8 := Lib.hid (HSB.out.kp (.of k7.out))
 have ku := div3_any va (.slice B b.length cb) a b W1 F7.out F8.out HCA.out HCB.out kZ.out hl hlb
 (with_reducible refine ku.mono ?_)
 clear ku
 rintro e w9 ⟨vq, vr, q, r, rfl, hS10, hD10, hT10, hE10, hV10, hr1, _, _, k5⟩
 have kv := k00.below k5
 have kw := k01.below k5
 have kx := k02.below k5
 have ky := k03.below k5
 have F16 := Lib.hid (F8.out.kp (.of k5))
 have k06 := Lib.hid (Blw k7.out k5)
 have F18 := Lib.hid hS10
 have F19 := Lib.hid hT10
 have HDQ := Lib.hid hD10
 have HDR := Lib.hid hE10
 have HQV := Lib.hid (quo_of hV10 (I.val_nonneg hE10) hr1)
 have HRV := Lib.hid (rem_of hV10 (I.val_nonneg hE10) hr1)
 clear hS10 hD10 hT10 hE10 hV10 hr1 k5
 obtain ⟨k1a, k1b, k1c, l23⟩ := kv.f2
 obtain ⟨k1e, k1f, k1g, l27⟩ := kw.f2
 obtain ⟨k1i, k1j, k1k, l31⟩ := kx.f2
 obtain ⟨k1m, k1n, k1o, l35⟩ := ky.f2
 go_wp2_with fail
 have hvq : I.val q = Q := HQV.out.trans HQ.out.symm
 have hvr : I.val r = R := HRV.out.trans HR.out.symm
 have HVQ := Lib.hid hvq; have HVR := Lib.hid hvr
 clear hvq hvr
 have k8 := normal_any true vq q w9 F18.out HDQ.out
 rw [HVQ.out] at k8
 (with_reducible refine k8.mono ?_)
 clear k8
 rintro e w36 ⟨x0, x1, rfl, k9, k4⟩
 have ka := kv.below k4
 have kb := kw.below k4
 have kc := kx.below k4
 have kd := ky.below k4
 have F43 := Lib.hid (F16.out.kp (.of k4))
 have F45 := Lib.hid (F19.out.kp (.of k4))
 have k0b := Lib.hid (Blw k06.out k4)
 have F47 := Lib.hid k9
 obtain ⟨o_x0, o_x1⟩ := k9.ones
 clear k9 k4
 obtain ⟨k1q, k1r, k1s, l51⟩ := ka.f2
 obtain ⟨k1u, k1v, k1w, l55⟩ := kb.f2
 obtain ⟨k1y, k1z, k1A, l59⟩ := kc.f2
 obtain ⟨k1C, k1D, k1E, l63⟩ := kd.f2
 go_wp2_with fail
 generalize hW : w36.alloc _ = W64
 obtain ⟨k0d, hB⟩ := box1 hW
 have k1G := ka.lt
 have k1H := kb.lt
 have k1I := kc.lt
 have k1J := kd.lt
 clear hW
 have k0e := ka.below hB
 have k0f := kb.below hB
 have k0g := kc.below hB
 have k0h := kd.below hB
 have F75 := Lib.hid (F43.out.kp (.of hB))
 have F77 := Lib.hid (F45.out.kp (.of hB))
 have F78 := Lib.hid (F47.out.kp (.of hB))
 have k0l := Lib.hid (Blw k0b.out hB)
 clear hB
 have ke := normal_any false vr r W64 F77.out HDR.out
 rw [HVR.out] at ke
 (with_reducible refine ke.mono ?_)
 clear ke
 rintro e w80 ⟨y0, y1, rfl, kf, k0⟩
 have kg := k0e.below k0
 have kh := k0f.below k0
 have ki := k0g.below k0
 have kj := k0h.below k0
 have kk := k0d.below k0
 have F88 := Lib.hid (F75.out.kp (.of k0))
 have F91 := Lib.hid (F78.out.kp (.of k0))
 have k0o := Lib.hid (Blw k0l.out k0)
 have kl := Lib.hid kf
 obtain ⟨o_y0, o_y1⟩ := kf.ones
 clear kf k0
 obtain ⟨gy, Ay, ny, cy, rfl, rfl⟩ := kl.out.form
 have hly := kl.out.len.2
 have hny2 : 0 < ny := by
  have h1 := HRR.out
  rcases Nat.eq_zero_or_pos ny with h3 | h3
  ·have := hly.1 h3; unfold sg at this; simp at this; omega
  ·exact h3
 have hny : decide (0 < ny) = true := decide_eq_true hny2
 obtain ⟨k1M, k1N, k1O, l97⟩ := kg.f2
 obtain ⟨k1Q, k1R, k1S, k1T⟩ := kh.f2
 obtain ⟨k1U, k1V, k1W, k1X⟩ := ki.f2
 obtain ⟨k1Y, k1Z, k20, k21⟩ := kj.f2
 obtain ⟨k22, k23, k24, k25⟩ := kk.f2
 clear hly
 go_wp2_with fail
 generalize hW : w80.alloc _ = W114
 obtain ⟨k0p, hB⟩ := box1 hW
 have k26 := kg.lt
 have k27 := kh.lt
 have k28 := ki.lt
 have k29 := kj.lt
 have k2a := kk.lt
 clear hW
 have k0q := kg.below hB
 have k0r := kh.below hB
 have k0s := ki.below hB
 have k0t := kj.below hB
 have k0u := kk.below hB
 have k0v := Lib.hid (F88.out.kp (.of hB))
 have k0w := Lib.hid (F91.out.kp (.of hB))
 have k0x := Lib.hid (kl.out.kp (.of hB))
 have k0y := Lib.hid (Blw k0o.out hB)
 clear hB
 obtain ⟨ly, sly, cany, vly⟩ := k0x.out.sl
 have HSY := Lib.hid sly; have HCY := Lib.hid cany; have HVY := Lib.hid (show I.val ly = R by rw [vly]; show ((R.natAbs : Int)) = R; have := HM0.out; omega)
 clear sly cany vly
 go_upto_region 7 with fail
 generalize hW : W114.drew = W133
 have hB : Below W114.heap.size W114 W133 := by rw [← hW]; exact (Below.refl _ _).drew
 have kz := k0q.below hB
 have kA := k0r.below hB
 have k0z := k0s.below hB
 have k0A := k0t.below hB
 have kB := k0u.below hB
 have k0B := k0p.below hB
 have k0C := Lib.hid (k0v.out.kp (.of hB))
 have k0D := Lib.hid (k0w.out.kp (.of hB))
 have k0E := Lib.hid (HSY.out.kp (.of hB))
 have k0F := Lib.hid (Blw k0y.out hB)
 clear hB
 generalize hF : ({ tmps := _, defers := _ } : Act) = F
 have ev2 : F.eval (.tmp 2) = .pointer (some ⟨w.heap.size, 0, none⟩) := by rw [← hF]; rfl
 have ev3 : F.eval (.tmp 3) = .pointer (some ⟨w.heap.size + 1, 0, none⟩) := by rw [← hF]; rfl
 have ev8 : F.eval (.tmp 8) = .pointer (some ⟨w36.heap.size, 0, none⟩) := by rw [← hF]; rfl
 have HF := Lib.hid hF; clear hF
 refine wp_flow_tab true hW 9 [(41, []), (42, []), (43, [1]), (44, []), (45, [3]), (46, [2, 4]), (47, []), (48, [5, 6]), (49, [0, 7])] [SC (.agg #[x0, x1]), SC (.pointer (some ⟨w.heap.size, 0, none⟩)), SC (.bool true), SC (.pointer (some ⟨w.heap.size + 1, 0, none⟩)), SC (.bool false), SC (.bool true), SS [1], SI (sg true (I.val [1])), SI (sg true Q + sg true (I.val [1]))] [false, false, false, false, false, false, false, false, false] (by kernel_rfl) (by kernel_rfl) (by kernel_rfl) (by kernel_rfl) (by kernel_rfl) (by rw [← HF.out]; simp) ⟨SC.mono _, SC.mono _, SC.mono _, SC.mono _, SC.mono _, SC.mono _, SS.mono _, SI.mono _, SI.mono _, trivial⟩ ?_ ?_
 ·intro kq hkq a wx hB hp hs
  have hcase : kq = 0 ∨ kq = 1 ∨ kq = 2 ∨ kq = 3 ∨ kq = 4 ∨ kq = 5 ∨ kq = 6 ∨ kq = 7 ∨ kq = 8 := by omega
  rcases hcase with rfl | rfl | rfl | rfl | rfl | rfl | rfl | rfl | rfl
  ·exact ⟨_, rfl, ld_Int rfl ((hs 8 rfl).trans ev8) (kB.below hB) rfl rfl⟩
  ·exact ⟨_, rfl, fa_Int0 rfl ((hs 2 rfl).trans ev2)⟩
  ·obtain ⟨k1, -⟩ := hp
   exact ⟨_, rfl, ld_bool rfl k1 (kz.below hB) rfl⟩
  ·exact ⟨_, rfl, fa_Int0 rfl ((hs 3 rfl).trans ev3)⟩
  ·obtain ⟨k1, -⟩ := hp
   exact ⟨_, rfl, ld_bool rfl k1 (kA.below hB) rfl⟩
  ·obtain ⟨k1, k6, -⟩ := hp
   have e0 : a.eval (.tmp 43) = .bool true := k1
   have e1 : a.eval (.tmp 45) = .bool false := k6
   simp [Act.eval] at e0
   simp [Act.eval] at e1
   exact ⟨_, rfl, Does.val (by simp [execOp, Act.eval, e0, e1, go_sem]) rfl⟩
  ·clear hp
   exact ⟨_, rfl, Does.one (by simp [execOp, go_sem])⟩
  ·obtain ⟨k1, k6, -⟩ := hp
   obtain ⟨vs6, e1⟩ : ∃ v, a.eval (.tmp 47) = v := ⟨_, rfl⟩
   have h_vs6 : Sl wx vs6 [1] := e1 ▸ k6
   exact ⟨_, rfl, Does.ri (f := 124) (call2 rfl (fun _ => by simp [go_sem]) k1 e1) (normal_any true vs6 [1] wx h_vs6 (I.Can.one (by omega) (by omega)).1)⟩
  ·obtain ⟨k1, k6, -⟩ := hp
   obtain ⟨n0, n1, e1, h_n⟩ := k6
   replace e1 : a.eval (.tmp 48) = .agg #[n0, n1] := e1
   exact ⟨_, rfl, Does.ri (f := 109) (call2 rfl (fun _ => by simp [go_sem]) k1 e1) (radd3_any k x0 x1 n0 n1 (sg true Q) (sg true (I.val [1])) wx (k0D.out.kp (.of hB)) h_n (bd_sg HQB.out) (bd_sg HK1.out) (by omega))⟩
 ·intro val wx hB hsp hdis
  obtain ⟨z0, z1, e8, h_z⟩ := hsp 8 (by omega)
  replace e8 : val 8 = .agg #[z0, z1] := e8
  rw [← HF.out]
  change wpList _ _ _ [_] _ _
  simp only [puts, vals, List.map_cons, List.map_nil, List.foldl_cons, List.foldl_nil, if_true, Nat.zero_add, Nat.reduceAdd, e8, List.setIfInBounds_toArray, List.set_cons_succ, List.set_cons_zero]
  clear hsp hdis HF e8
  clear ev2 ev3 ev8
  obtain ⟨w149, rfl⟩ : ∃ W : World, W = wx := ⟨_, rfl⟩
  have kC := kz.below hB
  have kD := kA.below hB
  have kE := k0z.below hB
  have kF := k0A.below hB
  have km := kB.below hB
  have kG := k0B.below hB
  have k0G := Lib.hid (k0C.out.kp (.of hB))
  have k0H := Lib.hid (k0E.out.kp (.of hB))
  have k0I := Lib.hid (Blw k0F.out hB)
  have k0J := Lib.hid h_z
  obtain ⟨o_z0, o_z1⟩ := h_z.ones
  clear h_z
  clear hB
  obtain ⟨k2b, k2c, k2d, k2e⟩ := kC.f2
  obtain ⟨k2f, k2g, k2h, k2i⟩ := kD.f2
  obtain ⟨k2j, k2k, k2l, k2m⟩ := kE.f2
  obtain ⟨k2n, k2o, k2p, k2q⟩ := kF.f2
  obtain ⟨k2r, k2s, k2t, k2u⟩ := km.f2
  obtain ⟨k2v, k2w, k2x, k2y⟩ := kG.f2
  go_wp2_with fail
  have kn := (km).set_ 0 (z0)
  have kH := (kn).set_ 1 (z1)
  have hkp : Kp w149 ((w149.setCell ⟨w36.heap.size, 0, none⟩ (z0)).setCell ⟨w36.heap.size, 1, none⟩ (z1)) := ((Kp.refl _).set_ (km) (by decide) _).set_ (kn) (by decide) _
  obtain ⟨W191, hW⟩ : ∃ W, W = (w149.setCell ⟨w36.heap.size, 0, none⟩ (z0)).setCell ⟨w36.heap.size, 1, none⟩ (z1) := ⟨_, rfl⟩
  rw [← hW]
  rw [← hW] at hkp
  have hB : Below w.heap.size w W191 := by rw [hW]; exact bel2 (k0I.out) (by first | simp | omega)
  have k0K := Lib.hid hB; clear hB
  have k0L := Lib.hid (k0G.out.kp hkp)
  have k0M := Lib.hid (k0H.out.kp hkp)
  have k0N := Lib.hid (k0J.out.kp hkp)
  have k0O : Bx W191 (w.heap.size) 31 [.bool true, va] := by rw [hW]; exact ((kC).far_ (g' := w36.heap.size) (j := 0) (by omega) (z0)).far_ (g' := w36.heap.size) (j := 1) (by omega) (z1)
  have k0P : Bx W191 (w.heap.size + 1) 31 [.bool false, .slice B b.length cb] := by rw [hW]; exact ((kD).far_ (g' := w36.heap.size) (j := 0) (by omega) (z0)).far_ (g' := w36.heap.size) (j := 1) (by omega) (z1)
  have k0Q : Bx W191 (w.heap.size + 1 + 1) 31 [.bool false, .slice none 0 0] := by rw [hW]; exact ((kE).far_ (g' := w36.heap.size) (j := 0) (by omega) (z0)).far_ (g' := w36.heap.size) (j := 1) (by omega) (z1)
  have k0R : Bx W191 (w.heap.size + 1 + 1 + 1) 31 [.bool false, .slice none 0 0] := by rw [hW]; exact ((kF).far_ (g' := w36.heap.size) (j := 0) (by omega) (z0)).far_ (g' := w36.heap.size) (j := 1) (by omega) (z1)
  have k0S : Bx W191 (w36.heap.size) 31 [z0, z1] := by rw [hW]; exact kH
  have k0T : Bx W191 (w80.heap.size) 31 [.bool gy, .slice Ay ny cy] := by rw [hW]; exact ((kG).far_ (g' := w36.heap.size) (j := 0) (by omega) (z0)).far_ (g' := w36.heap.size) (j := 1) (by omega) (z1)
  clear hW hkp kn kH
  have kI := minus3_any (.slice B b.length cb) (.slice Ay ny cy) b ly W191 k0L.out k0M.out HCB.out.1 HCY.out.1 (by omega) (HCY.out.len HCB.out.1 (by rw [HVY.out]; have := HM1.out; omega)) (by rw [HVY.out]; have := HM1.out; omega)
  (with_reducible refine kI.mono ?_)
  clear kI
  rintro e w207 ⟨v2, Lv2, rfl, hS208, hP208, k2⟩
  have kJ := k0O.below k2
  have kK := k0P.below k2
  have kL := k0Q.below k2
  have kM := k0R.below k2
  have kN := k0S.below k2
  have kO := k0T.below k2
  have k0U := Lib.hid (k0N.out.kp (.of k2))
  have k0V := Lib.hid (Blw k0K.out k2)
  have k0W := Lib.hid hS208
  have Pv2 := Lib.hid hP208
  clear hS208 hP208 k2
  obtain ⟨k2z, k2A, k2B, k2C⟩ := kJ.f2
  obtain ⟨k2D, k2E, k2F, k2G⟩ := kK.f2
  obtain ⟨k2H, k2I, k2J, k2K⟩ := kL.f2
  obtain ⟨k2L, k2M, k2N, k2O⟩ := kM.f2
  obtain ⟨k2P, k2Q, k2R, k2S⟩ := kN.f2
  obtain ⟨k2T, k2U, k2V, k2W⟩ := kO.f2
  go_wp2_with fail
  have kP := normal_any false v2 Lv2 w207 k0W.out Pv2.out.1
  (with_reducible refine kP.mono ?_)
  clear kP
  rintro e w249 ⟨t0, t1, rfl, ko, k3⟩
  have kQ := kJ.below k3
  have kR := kK.below k3
  have kS := kL.below k3
  have kT := kM.below k3
  have kU := kN.below k3
  have kr := kO.below k3
  have k0X := Lib.hid (k0U.out.kp (.of k3))
  have k0Y := Lib.hid (Blw k0V.out k3)
  have kV := Lib.hid ko
  obtain ⟨o_t0, o_t1⟩ := ko.ones
  clear ko k3
  have hvp : I.val Lv2 = I.val b - R := by rw [Pv2.out.2, HVY.out]
  rw [sg_false, hvp] at kV
  clear hvp
  obtain ⟨k2X, k2Y, k2Z, k30⟩ := kQ.f2
  obtain ⟨k31, k32, k33, k34⟩ := kR.f2
  obtain ⟨k35, k36, k37, k38⟩ := kS.f2
  obtain ⟨k39, k3a, k3b, k3c⟩ := kT.f2
  obtain ⟨k3d, k3e, k3f, k3g⟩ := kU.f2
  obtain ⟨k3h, k3i, k3j, k3k⟩ := kr.f2
  go_wp2_with fail
  have ks := (kr).set_ 0 (t0)
  have kW := (ks).set_ 1 (t1)
  have hkp : Kp w249 ((w249.setCell ⟨w80.heap.size, 0, none⟩ (t0)).setCell ⟨w80.heap.size, 1, none⟩ (t1)) := ((Kp.refl _).set_ (kr) (by decide) _).set_ (ks) (by decide) _
  obtain ⟨W294, hW⟩ : ∃ W, W = (w249.setCell ⟨w80.heap.size, 0, none⟩ (t0)).setCell ⟨w80.heap.size, 1, none⟩ (t1) := ⟨_, rfl⟩
  rw [← hW]
  rw [← hW] at hkp
  have hB : Below w.heap.size w W294 := by rw [hW]; exact bel2 (k0Y.out) (by first | simp | omega)
  have k0Z := Lib.hid hB; clear hB
  have k10 := Lib.hid (k0X.out.kp hkp)
  have k11 := Lib.hid (kV.out.kp hkp)
  have k12 : Bx W294 (w.heap.size) 31 [.bool true, va] := by rw [hW]; exact ((kQ).far_ (g' := w80.heap.size) (j := 0) (by omega) (t0)).far_ (g' := w80.heap.size) (j := 1) (by omega) (t1)
  have k13 : Bx W294 (w.heap.size + 1) 31 [.bool false, .slice B b.length cb] := by rw [hW]; exact ((kR).far_ (g' := w80.heap.size) (j := 0) (by omega) (t0)).far_ (g' := w80.heap.size) (j := 1) (by omega) (t1)
  have kX : Bx W294 (w.heap.size + 1 + 1) 31 [.bool false, .slice none 0 0] := by rw [hW]; exact ((kS).far_ (g' := w80.heap.size) (j := 0) (by omega) (t0)).far_ (g' := w80.heap.size) (j := 1) (by omega) (t1)
  have kY : Bx W294 (w.heap.size + 1 + 1 + 1) 31 [.bool false, .slice none 0 0] := by rw [hW]; exact ((kT).far_ (g' := w80.heap.size) (j := 0) (by omega) (t0)).far_ (g' := w80.heap.size) (j := 1) (by omega) (t1)
  have k14 : Bx W294 (w36.heap.size) 31 [z0, z1] := by rw [hW]; exact ((kU).far_ (g' := w80.heap.size) (j := 0) (by omega) (t0)).far_ (g' := w80.heap.size) (j := 1) (by omega) (t1)
  have k15 : Bx W294 (w80.heap.size) 31 [t0, t1] := by rw [hW]; exact kW
  clear hW hkp ks kW
  have hfz := k10.out
  rw [sg_add, show Q + I.val [1] = Q + 1 from by simp [I.val]] at hfz
  have HFZ := Lib.hid hfz
  clear hfz
  obtain ⟨k3l, k3m, k3n, k3o⟩ := k12.f2
  obtain ⟨k3p, k3q, k3r, k3s⟩ := k13.f2
  obtain ⟨k16, k17, k3t, k3u⟩ := kX.f2
  obtain ⟨k18, k19, k3v, k3w⟩ := kY.f2
  obtain ⟨k3x, k3y, k3z, k3A⟩ := k14.f2
  obtain ⟨k3B, k3C, k3D, k3E⟩ := k15.f2
  go_region
  have hkp := (((Kp.refl W294).t2 (kX) z0 z1).t2 (((kY).far_ (g' := w.heap.size + 1 + 1) (j := 0) (by omega) (z0)).far_ (g' := w.heap.size + 1 + 1) (j := 1) (by omega) (z1)) t0 t1).drew
  go_wp2
  refine bodyPost_ret (v := .tuple #[.agg #[z0, z1], .agg #[t0, t1]]) (by simp [results, Tryz.results122, go_sem, k16, k17, k18, k19]) rfl ⟨_, _, _, _, rfl, ?_, ?_, (bel2 (bel2 (k0Z.out) (by first | simp | omega)) (by first | simp | omega)).drew⟩
  ·exact HFZ.out.kp hkp
  ·exact k11.out.kp hkp
set_option maxRecDepth 100000 in
theorem dv3_tt0 (k : Nat) (va : Value) (B : Option Addr) (cb : Nat) (a b : List Int) (w : World) (ha : Sl w va a) (hb : Sl w (.slice B b.length cb) b) (ca : I.Can a) (cbb : I.Can b) (hl : a.length ≤ 800000000000) (hlb : b.length ≤ 800000000000) (hb0 : 0 < I.val b) (oa : va.oneCell' = true) (hka : I.Bd k (I.val a)) (hk : k ≤ 800000000000) (hk1 : 1 ≤ k) (hr : I.val a % I.val b = 0) :
  Calls Tryz.prog 122 #[.agg #[.bool true, va], .agg #[.bool true, .slice B b.length cb]] w (RII (sg false (I.val a / I.val b)) (I.val a % I.val b) w) := by
 have HSA := Lib.hid ha; have HSB := Lib.hid hb; have HCA := Lib.hid ca; have HCB := Lib.hid cbb; have kq := Lib.hid hb0
 have hbl : ((b.length : Int) == 0) = false := beq_eq_false_iff_ne.2 (by
  intro h
  have := List.eq_nil_of_length_eq_zero (show b.length = 0 by omega)
  subst this
  simp [I.val] at hb0)
 have hm0 : 0 ≤ I.val a % I.val b := Int.emod_nonneg _ (by omega)
 have hm1 : I.val a % I.val b < I.val b := Int.emod_lt_of_pos _ hb0
 have hq0 : 0 ≤ I.val a / I.val b := Int.ediv_nonneg (I.val_nonneg ca.1) (by omega)
 have hqb : I.Bd k (I.val a / I.val b) := hka.of_le (by have := Int.ediv_le_self (I.val b) (I.val_nonneg ca.1); omega)
 have hk1b : I.Bd k 1 := by unfold I.Bd; exact Nat.one_lt_two_pow (by omega)
 obtain ⟨Q, hQ⟩ : ∃ Q, Q = I.val a / I.val b := ⟨_, rfl⟩
 obtain ⟨R, hR⟩ : ∃ R, R = I.val a % I.val b := ⟨_, rfl⟩
 rw [← hR] at hm0 hm1
 rw [← hQ] at hq0 hqb
 rw [← hR] at hr
 rw [← hQ, ← hR]
 have HQ := Lib.hid hQ; have HR := Lib.hid hR; have HM0 := Lib.hid hm0; have HM1 := Lib.hid hm1; have HQ0 := Lib.hid hq0; have HQB := Lib.hid hqb; have HK1 := Lib.hid hk1b
 clear ha hb ca cbb hb0 hQ hR hm0 hm1 hq0 hqb hk1b hka
 have HRR := Lib.hid hr; clear hr
 go_enter Tryz.func122, Tryz.ntmps122
 go_wp2_with fail
 generalize hW : (((w.alloc _).alloc _).alloc _).alloc _ = W1
 obtain ⟨kr, ks, kt, ku, hB⟩ := box4 hW
 have k3 := Lib.hid hB; clear hW hB
 have F7 := Lib.hid (HSA.out.kp (.of k3.out))
 have F8 := Lib.hid (HSB.out.kp (.of k3.out))
 have ki := div3_any va (.slice B b.length cb) a b W1 F7.out F8.out HCA.out HCB.out kq.out hl hlb
 (with_reducible refine ki.mono ?_)
 clear ki
 rintro e w9 ⟨vq, vr, q, r, rfl, hS10, hD10, hT10, hE10, hV10, hr1, _, _, k2⟩
 have kj := kr.below k2
 have kk := ks.below k2
 have kl := kt.below k2
 have km := ku.below k2
 have kx := Lib.hid (Blw k3.out k2)
 have ky := Lib.hid hS10
 have kz := Lib.hid hT10
 have HDQ := Lib.hid hD10
 have HDR := Lib.hid hE10
 have HQV := Lib.hid (quo_of hV10 (I.val_nonneg hE10) hr1)
 have HRV := Lib.hid (rem_of hV10 (I.val_nonneg hE10) hr1)
 clear hS10 hD10 hT10 hE10 hV10 hr1 k2
 obtain ⟨kY, kZ, k00, l23⟩ := kj.f2
 obtain ⟨k02, k03, k04, l27⟩ := kk.f2
 obtain ⟨k06, k07, k08, l31⟩ := kl.f2
 obtain ⟨k0a, k0b, k0c, l35⟩ := km.f2
 go_wp2_with fail
 have hvq : I.val q = Q := HQV.out.trans HQ.out.symm
 have hvr : I.val r = R := HRV.out.trans HR.out.symm
 have HVQ := Lib.hid hvq; have HVR := Lib.hid hvr
 clear hvq hvr
 have k4 := normal_any false vq q w9 ky.out HDQ.out
 rw [HVQ.out] at k4
 (with_reducible refine k4.mono ?_)
 clear k4
 rintro e w36 ⟨x0, x1, rfl, k5, k1⟩
 have k6 := kj.below k1
 have k7 := kk.below k1
 have k8 := kl.below k1
 have k9 := km.below k1
 have kA := Lib.hid (kz.out.kp (.of k1))
 have kB := Lib.hid (Blw kx.out k1)
 have kC := Lib.hid k5
 obtain ⟨o_x0, o_x1⟩ := k5.ones
 clear k5 k1
 obtain ⟨k0e, k0f, k0g, l51⟩ := k6.f2
 obtain ⟨k0i, k0j, k0k, l55⟩ := k7.f2
 obtain ⟨k0m, k0n, k0o, l59⟩ := k8.f2
 obtain ⟨k0q, k0r, k0s, l63⟩ := k9.f2
 go_wp2_with fail
 generalize hW : w36.alloc _ = W64
 obtain ⟨kD, hB⟩ := box1 hW
 have k0u := k6.lt
 have k0v := k7.lt
 have k0w := k8.lt
 have k0x := k9.lt
 clear hW
 have kE := k6.below hB
 have kF := k7.below hB
 have kG := k8.below hB
 have kH := k9.below hB
 have kI := Lib.hid (kA.out.kp (.of hB))
 have kJ := Lib.hid (kC.out.kp (.of hB))
 have kK := Lib.hid (Blw kB.out hB)
 clear hB
 have ka := normal_any false vr r W64 kI.out HDR.out
 rw [HVR.out] at ka
 (with_reducible refine ka.mono ?_)
 clear ka
 rintro e w80 ⟨y0, y1, rfl, kb, k0⟩
 have kc := kE.below k0
 have kd := kF.below k0
 have ke := kG.below k0
 have kf := kH.below k0
 have kg := kD.below k0
 have kL := Lib.hid (kJ.out.kp (.of k0))
 have kM := Lib.hid (Blw kK.out k0)
 have kh := Lib.hid kb
 obtain ⟨o_y0, o_y1⟩ := kb.ones
 clear kb k0
 obtain ⟨gy, Ay, ny, cy, rfl, rfl⟩ := kh.out.form
 have hly := kh.out.len.2
 obtain rfl : ny = 0 := hly.2 (by rw [HRR.out]; rfl)
 obtain ⟨k0A, k0B, k0C, l97⟩ := kc.f2
 obtain ⟨k0E, k0F, k0G, k0H⟩ := kd.f2
 obtain ⟨k0I, k0J, k0K, k0L⟩ := ke.f2
 obtain ⟨k0M, k0N, k0O, k0P⟩ := kf.f2
 obtain ⟨k0Q, k0R, k0S, k0T⟩ := kg.f2
 clear hly
 go_wp2_with fail
 generalize hW : w80.alloc _ = W114
 obtain ⟨kN, hB⟩ := box1 hW
 have k0U := kc.lt
 have k0V := kd.lt
 have k0W := ke.lt
 have k0X := kf.lt
 have k0Y := kg.lt
 clear hW
 have kO := kc.below hB
 have kP := kd.below hB
 have kn := ke.below hB
 have ko := kf.below hB
 have kQ := kg.below hB
 have kR := Lib.hid (kL.out.kp (.of hB))
 have kS := Lib.hid (kh.out.kp (.of hB))
 have kT := Lib.hid (Blw kM.out hB)
 clear hB
 obtain ⟨k0Z, k10, k11, k12⟩ := kO.f2
 obtain ⟨k13, k14, k15, k16⟩ := kP.f2
 obtain ⟨kU, kV, k17, k18⟩ := kn.f2
 obtain ⟨kW, kX, k19, k1a⟩ := ko.f2
 obtain ⟨k1b, k1c, k1d, k1e⟩ := kQ.f2
 obtain ⟨k1f, k1g, k1h, k1i⟩ := kN.f2
 go_region
 have hkp := (((Kp.refl W114).t2 (kn) x0 x1).t2 (((ko).far_ (g' := w.heap.size + 1 + 1) (j := 0) (by omega) (x0)).far_ (g' := w.heap.size + 1 + 1) (j := 1) (by omega) (x1)) (.bool gy) (.slice Ay 0 cy)).drew
 go_wp2
 refine bodyPost_ret (v := .tuple #[.agg #[x0, x1], .agg #[.bool gy, .slice Ay 0 cy]]) (by simp [results, Tryz.results122, go_sem, kU, kV, kW, kX]) rfl ⟨_, _, _, _, rfl, ?_, ?_, (bel2 (bel2 (kT.out) (by first | simp | omega)) (by first | simp | omega)).drew⟩
 ·exact kR.out.kp hkp
 ·exact kS.out.kp hkp
set_option maxRecDepth 100000 in
theorem dv3_ttm (k : Nat) (va : Value) (B : Option Addr) (cb : Nat) (a b : List Int) (w : World) (ha : Sl w va a) (hb : Sl w (.slice B b.length cb) b) (ca : I.Can a) (cbb : I.Can b) (hl : a.length ≤ 800000000000) (hlb : b.length ≤ 800000000000) (hb0 : 0 < I.val b) (oa : va.oneCell' = true) (hka : I.Bd k (I.val a)) (hk : k ≤ 800000000000) (hk1 : 1 ≤ k) (hr : 0 < I.val a % I.val b) :
  Calls Tryz.prog 122 #[.agg #[.bool true, va], .agg #[.bool true, .slice B b.length cb]] w (RII (sg false (I.val a / I.val b + 1)) (I.val b - I.val a % I.val b) w) := by
 have HSA := Lib.hid ha; have HSB := Lib.hid hb; have HCA := Lib.hid ca; have HCB := Lib.hid cbb; have kZ := Lib.hid hb0
 have hbl : ((b.length : Int) == 0) = false := beq_eq_false_iff_ne.2 (by
  intro h
  have := List.eq_nil_of_length_eq_zero (show b.length = 0 by omega)
  subst this
  simp [I.val] at hb0)
 have hm0 : 0 ≤ I.val a % I.val b := Int.emod_nonneg _ (by omega)
 have hm1 : I.val a % I.val b < I.val b := Int.emod_lt_of_pos _ hb0
 have hq0 : 0 ≤ I.val a / I.val b := Int.ediv_nonneg (I.val_nonneg ca.1) (by omega)
 have hqb : I.Bd k (I.val a / I.val b) := hka.of_le (by have := Int.ediv_le_self (I.val b) (I.val_nonneg ca.1); omega)
 have hk1b : I.Bd k 1 := by unfold I.Bd; exact Nat.one_lt_two_pow (by omega)
 obtain ⟨Q, hQ⟩ : ∃ Q, Q = I.val a / I.val b := ⟨_, rfl⟩
 obtain ⟨R, hR⟩ : ∃ R, R = I.val a % I.val b := ⟨_, rfl⟩
 rw [← hR] at hm0 hm1
 rw [← hQ] at hq0 hqb
 rw [← hR] at hr
 rw [← hQ, ← hR]
 have HQ := Lib.hid hQ; have HR := Lib.hid hR; have HM0 := Lib.hid hm0; have HM1 := Lib.hid hm1; have HQ0 := Lib.hid hq0; have HQB := Lib.hid hqb; have HK1 := Lib.hid hk1b
 clear ha hb ca cbb hb0 hQ hR hm0 hm1 hq0 hqb hk1b hka
 have HRR := Lib.hid hr; clear hr
 go_enter Tryz.func122, Tryz.ntmps122
 go_wp2_with fail
 generalize hW : (((w.alloc _).alloc _).alloc _).alloc _ = W1
 obtain ⟨k00, k01, k02, k03, hB⟩ := box4 hW
 have k7 := Lib.hid hB; clear hW hB
 have F7 := Lib.hid (HSA.out.kp (.of k7.out))
 have F8 := Lib.hid (HSB.out.kp (.of k7.out))
 have ku := div3_any va (.slice B b.length cb) a b W1 F7.out F8.out HCA.out HCB.out kZ.out hl hlb
 (with_reducible refine ku.mono ?_)
 clear ku
 rintro e w9 ⟨vq, vr, q, r, rfl, hS10, hD10, hT10, hE10, hV10, hr1, _, _, k5⟩
 have kv := k00.below k5
 have kw := k01.below k5
 have kx := k02.below k5
 have ky := k03.below k5
 have F16 := Lib.hid (F8.out.kp (.of k5))
 have k06 := Lib.hid (Blw k7.out k5)
 have F18 := Lib.hid hS10
 have F19 := Lib.hid hT10
 have HDQ := Lib.hid hD10
 have HDR := Lib.hid hE10
 have HQV := Lib.hid (quo_of hV10 (I.val_nonneg hE10) hr1)
 have HRV := Lib.hid (rem_of hV10 (I.val_nonneg hE10) hr1)
 clear hS10 hD10 hT10 hE10 hV10 hr1 k5
 obtain ⟨k1a, k1b, k1c, l23⟩ := kv.f2
 obtain ⟨k1e, k1f, k1g, l27⟩ := kw.f2
 obtain ⟨k1i, k1j, k1k, l31⟩ := kx.f2
 obtain ⟨k1m, k1n, k1o, l35⟩ := ky.f2
 go_wp2_with fail
 have hvq : I.val q = Q := HQV.out.trans HQ.out.symm
 have hvr : I.val r = R := HRV.out.trans HR.out.symm
 have HVQ := Lib.hid hvq; have HVR := Lib.hid hvr
 clear hvq hvr
 have k8 := normal_any false vq q w9 F18.out HDQ.out
 rw [HVQ.out] at k8
 (with_reducible refine k8.mono ?_)
 clear k8
 rintro e w36 ⟨x0, x1, rfl, k9, k4⟩
 have ka := kv.below k4
 have kb := kw.below k4
 have kc := kx.below k4
 have kd := ky.below k4
 have F43 := Lib.hid (F16.out.kp (.of k4))
 have F45 := Lib.hid (F19.out.kp (.of k4))
 have k0b := Lib.hid (Blw k06.out k4)
 have F47 := Lib.hid k9
 obtain ⟨o_x0, o_x1⟩ := k9.ones
 clear k9 k4
 obtain ⟨k1q, k1r, k1s, l51⟩ := ka.f2
 obtain ⟨k1u, k1v, k1w, l55⟩ := kb.f2
 obtain ⟨k1y, k1z, k1A, l59⟩ := kc.f2
 obtain ⟨k1C, k1D, k1E, l63⟩ := kd.f2
 go_wp2_with fail
 generalize hW : w36.alloc _ = W64
 obtain ⟨k0d, hB⟩ := box1 hW
 have k1G := ka.lt
 have k1H := kb.lt
 have k1I := kc.lt
 have k1J := kd.lt
 clear hW
 have k0e := ka.below hB
 have k0f := kb.below hB
 have k0g := kc.below hB
 have k0h := kd.below hB
 have F75 := Lib.hid (F43.out.kp (.of hB))
 have F77 := Lib.hid (F45.out.kp (.of hB))
 have F78 := Lib.hid (F47.out.kp (.of hB))
 have k0l := Lib.hid (Blw k0b.out hB)
 clear hB
 have ke := normal_any false vr r W64 F77.out HDR.out
 rw [HVR.out] at ke
 (with_reducible refine ke.mono ?_)
 clear ke
 rintro e w80 ⟨y0, y1, rfl, kf, k0⟩
 have kg := k0e.below k0
 have kh := k0f.below k0
 have ki := k0g.below k0
 have kj := k0h.below k0
 have kk := k0d.below k0
 have F88 := Lib.hid (F75.out.kp (.of k0))
 have F91 := Lib.hid (F78.out.kp (.of k0))
 have k0o := Lib.hid (Blw k0l.out k0)
 have kl := Lib.hid kf
 obtain ⟨o_y0, o_y1⟩ := kf.ones
 clear kf k0
 obtain ⟨gy, Ay, ny, cy, rfl, rfl⟩ := kl.out.form
 have hly := kl.out.len.2
 have hny2 : 0 < ny := by
  have h1 := HRR.out
  rcases Nat.eq_zero_or_pos ny with h3 | h3
  ·have := hly.1 h3; unfold sg at this; simp at this; omega
  ·exact h3
 have hny : decide (0 < ny) = true := decide_eq_true hny2
 obtain ⟨k1M, k1N, k1O, l97⟩ := kg.f2
 obtain ⟨k1Q, k1R, k1S, k1T⟩ := kh.f2
 obtain ⟨k1U, k1V, k1W, k1X⟩ := ki.f2
 obtain ⟨k1Y, k1Z, k20, k21⟩ := kj.f2
 obtain ⟨k22, k23, k24, k25⟩ := kk.f2
 clear hly
 go_wp2_with fail
 generalize hW : w80.alloc _ = W114
 obtain ⟨k0p, hB⟩ := box1 hW
 have k26 := kg.lt
 have k27 := kh.lt
 have k28 := ki.lt
 have k29 := kj.lt
 have k2a := kk.lt
 clear hW
 have k0q := kg.below hB
 have k0r := kh.below hB
 have k0s := ki.below hB
 have k0t := kj.below hB
 have k0u := kk.below hB
 have k0v := Lib.hid (F88.out.kp (.of hB))
 have k0w := Lib.hid (F91.out.kp (.of hB))
 have k0x := Lib.hid (kl.out.kp (.of hB))
 have k0y := Lib.hid (Blw k0o.out hB)
 clear hB
 obtain ⟨ly, sly, cany, vly⟩ := k0x.out.sl
 have HSY := Lib.hid sly; have HCY := Lib.hid cany; have HVY := Lib.hid (show I.val ly = R by rw [vly]; show ((R.natAbs : Int)) = R; have := HM0.out; omega)
 clear sly cany vly
 go_upto_region 7 with fail
 generalize hW : W114.drew = W133
 have hB : Below W114.heap.size W114 W133 := by rw [← hW]; exact (Below.refl _ _).drew
 have kz := k0q.below hB
 have kA := k0r.below hB
 have k0z := k0s.below hB
 have k0A := k0t.below hB
 have kB := k0u.below hB
 have k0B := k0p.below hB
 have k0C := Lib.hid (k0v.out.kp (.of hB))
 have k0D := Lib.hid (k0w.out.kp (.of hB))
 have k0E := Lib.hid (HSY.out.kp (.of hB))
 have k0F := Lib.hid (Blw k0y.out hB)
 clear hB
 generalize hF : ({ tmps := _, defers := _ } : Act) = F
 have ev2 : F.eval (.tmp 2) = .pointer (some ⟨w.heap.size, 0, none⟩) := by rw [← hF]; rfl
 have ev3 : F.eval (.tmp 3) = .pointer (some ⟨w.heap.size + 1, 0, none⟩) := by rw [← hF]; rfl
 have ev8 : F.eval (.tmp 8) = .pointer (some ⟨w36.heap.size, 0, none⟩) := by rw [← hF]; rfl
 have HF := Lib.hid hF; clear hF
 refine wp_flow_tab true hW 9 [(41, []), (42, []), (43, [1]), (44, []), (45, [3]), (46, [2, 4]), (47, []), (48, [5, 6]), (49, [0, 7])] [SC (.agg #[x0, x1]), SC (.pointer (some ⟨w.heap.size, 0, none⟩)), SC (.bool true), SC (.pointer (some ⟨w.heap.size + 1, 0, none⟩)), SC (.bool true), SC (.bool false), SS [1], SI (sg false (I.val [1])), SI (sg false Q + sg false (I.val [1]))] [false, false, false, false, false, false, false, false, false] (by kernel_rfl) (by kernel_rfl) (by kernel_rfl) (by kernel_rfl) (by kernel_rfl) (by rw [← HF.out]; simp) ⟨SC.mono _, SC.mono _, SC.mono _, SC.mono _, SC.mono _, SC.mono _, SS.mono _, SI.mono _, SI.mono _, trivial⟩ ?_ ?_
 ·intro kq hkq a wx hB hp hs
  have hcase : kq = 0 ∨ kq = 1 ∨ kq = 2 ∨ kq = 3 ∨ kq = 4 ∨ kq = 5 ∨ kq = 6 ∨ kq = 7 ∨ kq = 8 := by omega
  rcases hcase with rfl | rfl | rfl | rfl | rfl | rfl | rfl | rfl | rfl
  ·exact ⟨_, rfl, ld_Int rfl ((hs 8 rfl).trans ev8) (kB.below hB) rfl rfl⟩
  ·exact ⟨_, rfl, fa_Int0 rfl ((hs 2 rfl).trans ev2)⟩
  ·obtain ⟨k1, -⟩ := hp
   exact ⟨_, rfl, ld_bool rfl k1 (kz.below hB) rfl⟩
  ·exact ⟨_, rfl, fa_Int0 rfl ((hs 3 rfl).trans ev3)⟩
  ·obtain ⟨k1, -⟩ := hp
   exact ⟨_, rfl, ld_bool rfl k1 (kA.below hB) rfl⟩
  ·obtain ⟨k1, k6, -⟩ := hp
   have e0 : a.eval (.tmp 43) = .bool true := k1
   have e1 : a.eval (.tmp 45) = .bool true := k6
   simp [Act.eval] at e0
   simp [Act.eval] at e1
   exact ⟨_, rfl, Does.val (by simp [execOp, Act.eval, e0, e1, go_sem]) rfl⟩
  ·clear hp
   exact ⟨_, rfl, Does.one (by simp [execOp, go_sem])⟩
  ·obtain ⟨k1, k6, -⟩ := hp
   obtain ⟨vs6, e1⟩ : ∃ v, a.eval (.tmp 47) = v := ⟨_, rfl⟩
   have h_vs6 : Sl wx vs6 [1] := e1 ▸ k6
   exact ⟨_, rfl, Does.ri (f := 124) (call2 rfl (fun _ => by simp [go_sem]) k1 e1) (normal_any false vs6 [1] wx h_vs6 (I.Can.one (by omega) (by omega)).1)⟩
  ·obtain ⟨k1, k6, -⟩ := hp
   obtain ⟨n0, n1, e1, h_n⟩ := k6
   replace e1 : a.eval (.tmp 48) = .agg #[n0, n1] := e1
   exact ⟨_, rfl, Does.ri (f := 109) (call2 rfl (fun _ => by simp [go_sem]) k1 e1) (radd3_any k x0 x1 n0 n1 (sg false Q) (sg false (I.val [1])) wx (k0D.out.kp (.of hB)) h_n (bd_sg HQB.out) (bd_sg HK1.out) (by omega))⟩
 ·intro val wx hB hsp hdis
  obtain ⟨z0, z1, e8, h_z⟩ := hsp 8 (by omega)
  replace e8 : val 8 = .agg #[z0, z1] := e8
  rw [← HF.out]
  change wpList _ _ _ [_] _ _
  simp only [puts, vals, List.map_cons, List.map_nil, List.foldl_cons, List.foldl_nil, if_true, Nat.zero_add, Nat.reduceAdd, e8, List.setIfInBounds_toArray, List.set_cons_succ, List.set_cons_zero]
  clear hsp hdis HF e8
  clear ev2 ev3 ev8
  obtain ⟨w149, rfl⟩ : ∃ W : World, W = wx := ⟨_, rfl⟩
  have kC := kz.below hB
  have kD := kA.below hB
  have kE := k0z.below hB
  have kF := k0A.below hB
  have km := kB.below hB
  have kG := k0B.below hB
  have k0G := Lib.hid (k0C.out.kp (.of hB))
  have k0H := Lib.hid (k0E.out.kp (.of hB))
  have k0I := Lib.hid (Blw k0F.out hB)
  have k0J := Lib.hid h_z
  obtain ⟨o_z0, o_z1⟩ := h_z.ones
  clear h_z
  clear hB
  obtain ⟨k2b, k2c, k2d, k2e⟩ := kC.f2
  obtain ⟨k2f, k2g, k2h, k2i⟩ := kD.f2
  obtain ⟨k2j, k2k, k2l, k2m⟩ := kE.f2
  obtain ⟨k2n, k2o, k2p, k2q⟩ := kF.f2
  obtain ⟨k2r, k2s, k2t, k2u⟩ := km.f2
  obtain ⟨k2v, k2w, k2x, k2y⟩ := kG.f2
  go_wp2_with fail
  have kn := (km).set_ 0 (z0)
  have kH := (kn).set_ 1 (z1)
  have hkp : Kp w149 ((w149.setCell ⟨w36.heap.size, 0, none⟩ (z0)).setCell ⟨w36.heap.size, 1, none⟩ (z1)) := ((Kp.refl _).set_ (km) (by decide) _).set_ (kn) (by decide) _
  obtain ⟨W191, hW⟩ : ∃ W, W = (w149.setCell ⟨w36.heap.size, 0, none⟩ (z0)).setCell ⟨w36.heap.size, 1, none⟩ (z1) := ⟨_, rfl⟩
  rw [← hW]
  rw [← hW] at hkp
  have hB : Below w.heap.size w W191 := by rw [hW]; exact bel2 (k0I.out) (by first | simp | omega)
  have k0K := Lib.hid hB; clear hB
  have k0L := Lib.hid (k0G.out.kp hkp)
  have k0M := Lib.hid (k0H.out.kp hkp)
  have k0N := Lib.hid (k0J.out.kp hkp)
  have k0O : Bx W191 (w.heap.size) 31 [.bool true, va] := by rw [hW]; exact ((kC).far_ (g' := w36.heap.size) (j := 0) (by omega) (z0)).far_ (g' := w36.heap.size) (j := 1) (by omega) (z1)
  have k0P : Bx W191 (w.heap.size + 1) 31 [.bool true, .slice B b.length cb] := by rw [hW]; exact ((kD).far_ (g' := w36.heap.size) (j := 0) (by omega) (z0)).far_ (g' := w36.heap.size) (j := 1) (by omega) (z1)
  have k0Q : Bx W191 (w.heap.size + 1 + 1) 31 [.bool false, .slice none 0 0] := by rw [hW]; exact ((kE).far_ (g' := w36.heap.size) (j := 0) (by omega) (z0)).far_ (g' := w36.heap.size) (j := 1) (by omega) (z1)
  have k0R : Bx W191 (w.heap.size + 1 + 1 + 1) 31 [.bool false, .slice none 0 0] := by rw [hW]; exact ((kF).far_ (g' := w36.heap.size) (j := 0) (by omega) (z0)).far_ (g' := w36.heap.size) (j := 1) (by omega) (z1)
  have k0S : Bx W191 (w36.heap.size) 31 [z0, z1] := by rw [hW]; exact kH
  have k0T : Bx W191 (w80.heap.size) 31 [.bool gy, .slice Ay ny cy] := by rw [hW]; exact ((kG).far_ (g' := w36.heap.size) (j := 0) (by omega) (z0)).far_ (g' := w36.heap.size) (j := 1) (by omega) (z1)
  clear hW hkp kn kH
  have kI := minus3_any (.slice B b.length cb) (.slice Ay ny cy) b ly W191 k0L.out k0M.out HCB.out.1 HCY.out.1 (by omega) (HCY.out.len HCB.out.1 (by rw [HVY.out]; have := HM1.out; omega)) (by rw [HVY.out]; have := HM1.out; omega)
  (with_reducible refine kI.mono ?_)
  clear kI
  rintro e w207 ⟨v2, Lv2, rfl, hS208, hP208, k2⟩
  have kJ := k0O.below k2
  have kK := k0P.below k2
  have kL := k0Q.below k2
  have kM := k0R.below k2
  have kN := k0S.below k2
  have kO := k0T.below k2
  have k0U := Lib.hid (k0N.out.kp (.of k2))
  have k0V := Lib.hid (Blw k0K.out k2)
  have k0W := Lib.hid hS208
  have Pv2 := Lib.hid hP208
  clear hS208 hP208 k2
  obtain ⟨k2z, k2A, k2B, k2C⟩ := kJ.f2
  obtain ⟨k2D, k2E, k2F, k2G⟩ := kK.f2
  obtain ⟨k2H, k2I, k2J, k2K⟩ := kL.f2
  obtain ⟨k2L, k2M, k2N, k2O⟩ := kM.f2
  obtain ⟨k2P, k2Q, k2R, k2S⟩ := kN.f2
  obtain ⟨k2T, k2U, k2V, k2W⟩ := kO.f2
  go_wp2_with fail
  have kP := normal_any false v2 Lv2 w207 k0W.out Pv2.out.1
  (with_reducible refine kP.mono ?_)
  clear kP
  rintro e w249 ⟨t0, t1, rfl, ko, k3⟩
  have kQ := kJ.below k3
  have kR := kK.below k3
  have kS := kL.below k3
  have kT := kM.below k3
  have kU := kN.below k3
  have kr := kO.below k3
  have k0X := Lib.hid (k0U.out.kp (.of k3))
  have k0Y := Lib.hid (Blw k0V.out k3)
  have kV := Lib.hid ko
  obtain ⟨o_t0, o_t1⟩ := ko.ones
  clear ko k3
  have hvp : I.val Lv2 = I.val b - R := by rw [Pv2.out.2, HVY.out]
  rw [sg_false, hvp] at kV
  clear hvp
  obtain ⟨k2X, k2Y, k2Z, k30⟩ := kQ.f2
  obtain ⟨k31, k32, k33, k34⟩ := kR.f2
  obtain ⟨k35, k36, k37, k38⟩ := kS.f2
  obtain ⟨k39, k3a, k3b, k3c⟩ := kT.f2
  obtain ⟨k3d, k3e, k3f, k3g⟩ := kU.f2
  obtain ⟨k3h, k3i, k3j, k3k⟩ := kr.f2
  go_wp2_with fail
  have ks := (kr).set_ 0 (t0)
  have kW := (ks).set_ 1 (t1)
  have hkp : Kp w249 ((w249.setCell ⟨w80.heap.size, 0, none⟩ (t0)).setCell ⟨w80.heap.size, 1, none⟩ (t1)) := ((Kp.refl _).set_ (kr) (by decide) _).set_ (ks) (by decide) _
  obtain ⟨W294, hW⟩ : ∃ W, W = (w249.setCell ⟨w80.heap.size, 0, none⟩ (t0)).setCell ⟨w80.heap.size, 1, none⟩ (t1) := ⟨_, rfl⟩
  rw [← hW]
  rw [← hW] at hkp
  have hB : Below w.heap.size w W294 := by rw [hW]; exact bel2 (k0Y.out) (by first | simp | omega)
  have k0Z := Lib.hid hB; clear hB
  have k10 := Lib.hid (k0X.out.kp hkp)
  have k11 := Lib.hid (kV.out.kp hkp)
  have k12 : Bx W294 (w.heap.size) 31 [.bool true, va] := by rw [hW]; exact ((kQ).far_ (g' := w80.heap.size) (j := 0) (by omega) (t0)).far_ (g' := w80.heap.size) (j := 1) (by omega) (t1)
  have k13 : Bx W294 (w.heap.size + 1) 31 [.bool true, .slice B b.length cb] := by rw [hW]; exact ((kR).far_ (g' := w80.heap.size) (j := 0) (by omega) (t0)).far_ (g' := w80.heap.size) (j := 1) (by omega) (t1)
  have kX : Bx W294 (w.heap.size + 1 + 1) 31 [.bool false, .slice none 0 0] := by rw [hW]; exact ((kS).far_ (g' := w80.heap.size) (j := 0) (by omega) (t0)).far_ (g' := w80.heap.size) (j := 1) (by omega) (t1)
  have kY : Bx W294 (w.heap.size + 1 + 1 + 1) 31 [.bool false, .slice none 0 0] := by rw [hW]; exact ((kT).far_ (g' := w80.heap.size) (j := 0) (by omega) (t0)).far_ (g' := w80.heap.size) (j := 1) (by omega) (t1)
  have k14 : Bx W294 (w36.heap.size) 31 [z0, z1] := by rw [hW]; exact ((kU).far_ (g' := w80.heap.size) (j := 0) (by omega) (t0)).far_ (g' := w80.heap.size) (j := 1) (by omega) (t1)
  have k15 : Bx W294 (w80.heap.size) 31 [t0, t1] := by rw [hW]; exact kW
  clear hW hkp ks kW
  have hfz := k10.out
  rw [sg_add, show Q + I.val [1] = Q + 1 from by simp [I.val]] at hfz
  have HFZ := Lib.hid hfz
  clear hfz
  obtain ⟨k3l, k3m, k3n, k3o⟩ := k12.f2
  obtain ⟨k3p, k3q, k3r, k3s⟩ := k13.f2
  obtain ⟨k16, k17, k3t, k3u⟩ := kX.f2
  obtain ⟨k18, k19, k3v, k3w⟩ := kY.f2
  obtain ⟨k3x, k3y, k3z, k3A⟩ := k14.f2
  obtain ⟨k3B, k3C, k3D, k3E⟩ := k15.f2
  go_region
  have hkp := (((Kp.refl W294).t2 (kX) z0 z1).t2 (((kY).far_ (g' := w.heap.size + 1 + 1) (j := 0) (by omega) (z0)).far_ (g' := w.heap.size + 1 + 1) (j := 1) (by omega) (z1)) t0 t1).drew
  go_wp2
  refine bodyPost_ret (v := .tuple #[.agg #[z0, z1], .agg #[t0, t1]]) (by simp [results, Tryz.results122, go_sem, k16, k17, k18, k19]) rfl ⟨_, _, _, _, rfl, ?_, ?_, (bel2 (bel2 (k0Z.out) (by first | simp | omega)) (by first | simp | omega)).drew⟩
  ·exact HFZ.out.kp hkp
  ·exact k11.out.kp hkp
theorem sg_true_ (x : Int) : sg true x = -x := rfl
theorem rdiv3_any (k : Nat) (a0 a1 b0 b1 : Value) (x y : Int) (w : World) (hx : IntV w a0 a1 x) (hy : IntV w b0 b1 y) (bx : I.Bd k x) (by_ : I.Bd k y) (hk : k ≤ 800000000000) (hy0 : y ≠ 0) :
  Calls Tryz.prog 122 #[.agg #[a0, a1], .agg #[b0, b1]] w (RII (x / y) (x % y) w) := by
 have oa := hx.one1
 obtain ⟨a, rfl, sa, ca, va⟩ := hx
 obtain ⟨b, rfl, sb, cb, vb⟩ := hy
 have la := Nat.le_trans (bx.len ca va) hk
 have lb := Nat.le_trans (by_.len cb vb) hk
 have hk1 : 1 ≤ k := by
  rcases Nat.eq_zero_or_pos k with h | h
  ·subst h; unfold I.Bd at by_; simp at by_; omega
  ·exact h
 have hka := bd_val bx va
 obtain ⟨B, cbb, rfl, _, _⟩ := sb.form_
 have k0 : 0 < I.val b := by omega
 have ha0 : 0 ≤ I.val a := by omega
 have hd := Int.emod_add_mul_ediv (I.val a) (I.val b)
 have hr0 := Int.emod_nonneg (I.val a) (show I.val b ≠ 0 by omega)
 have hr1 := Int.emod_lt_of_pos (I.val a) k0
 have hq0 := Int.ediv_nonneg ha0 (Int.le_of_lt k0)
 by_cases h1 : x < 0
 ·rw [decide_eq_true h1]
  have ex : x = -I.val a := by omega
  by_cases h2 : y < 0
  ·rw [decide_eq_true h2]
   have ey : y = -I.val b := by omega
   by_cases h3 : I.val a % I.val b = 0
   ·have h := dv3_tt0 k a1 B cbb a b w sa sb ca cb la lb k0 oa hka hk hk1 h3
    have e := ediv_of (a := x) (q := -(I.val a / I.val b)) (r := 0) k0 (by rw [ex]; grind) (by omega) (by omega)
    rw [ey, Int.ediv_neg, Int.emod_neg, e.1, e.2, Int.neg_neg]
    rwa [h3, sg_false] at h
   ·have h := dv3_ttm k a1 B cbb a b w sa sb ca cb la lb k0 oa hka hk hk1 (by omega)
    have e := ediv_of (a := x) (q := -(I.val a / I.val b + 1)) (r := I.val b - I.val a % I.val b) k0 (by rw [ex]; grind) (by omega) (by omega)
    rw [ey, Int.ediv_neg, Int.emod_neg, e.1, e.2, Int.neg_neg]
    rwa [sg_false] at h
  ·rw [decide_eq_false h2]
   have ey : y = I.val b := by omega
   by_cases h3 : I.val a % I.val b = 0
   ·have e := ediv_of (a := x) (q := -(I.val a / I.val b)) (r := 0) k0 (by rw [ex]; grind) (by omega) (by omega)
    rw [ey, e.1, e.2]
    have h := dv3_tf0 k a1 B cbb a b w sa sb ca cb la lb k0 oa hka hk hk1 h3
    rwa [h3, sg_true_] at h
   ·have h := dv3_tfm k a1 B cbb a b w sa sb ca cb la lb k0 oa hka hk hk1 (by omega)
    have e := ediv_of (a := x) (q := -(I.val a / I.val b + 1)) (r := I.val b - I.val a % I.val b) k0 (by rw [ex]; grind) (by omega) (by omega)
    rw [ey, e.1, e.2]
    rwa [sg_true_] at h
 ·rw [decide_eq_false h1]
  have ex : x = I.val a := by omega
  by_cases h2 : y < 0
  ·rw [decide_eq_true h2]
   have ey : y = -I.val b := by omega
   rw [ex, ey, Int.ediv_neg, Int.emod_neg]
   have h := dv3_ft k a1 B cbb a b w sa sb ca cb la lb k0 oa hka hk hk1
   rwa [sg_true_] at h
  ·rw [decide_eq_false h2]
   have ey : y = I.val b := by omega
   rw [ex, ey]
   have h := dv3_ff k a1 B cbb a b w sa sb ca cb la lb k0 oa hka hk hk1
   rwa [sg_false] at h
end Go.Proofs.YtcfejkpadcccbaaGreat
