/-
 THE WALKS of package integer: divide.
-/
import Derived.Test.YtonkbckgbfcnkaaWalkUns
import Derived.Test.YtonkbckgbfcnkaaWalkOf
import Derived.Test.YtonkbckgbfcnkaaWalkLong
import Derived.Test.YtonkbckgbfcnkaaWalkMul
import Derived.Deep.RegionHeld3
namespace Go.Proofs.Ytonkbckgbfcnkaa
set_option maxHeartbeats 2000000
open Go.RowKit
attribute [local go_sem] run_store_one
set_option linter.unusedVariables false
theorem val2_lt {l : List Int} (h : I.Dig l) (hl : l.length ≤ 2) : 0 ≤ I.val l ∧ I.val l < 1000000000000000000 := by
 have h1 := I.val_nonneg h
 have h2 := I.val_lt h
 have h3 := I.pw_mono hl
 have h4 : I.pw 2 = 1000000000000000000 := by decide
 omega
theorem quo_of {a q m r : Int} (h : a = q * m + r) (h0 : 0 ≤ r) (h1 : r < m) : q = a / m := by
 have hm : m ≠ 0 := by omega
 rw [h, Int.add_comm, Int.add_mul_ediv_right _ _ hm, Int.ediv_eq_zero_of_lt h0 h1, Int.zero_add]
theorem rem_of {a q m r : Int} (h : a = q * m + r) (h0 : 0 ≤ r) (h1 : r < m) : r = a % m := by
 rw [h, Int.add_comm, Int.add_mul_emod_self_right, Int.emod_eq_of_lt h0 h1]
theorem sg_false (x : Int) : sg false x = x := by unfold sg; simp
set_option maxRecDepth 100000 in
theorem dvd_two (va vb : Value) (a b : List Int) (w : World) (ha : Sl w va a) (hb : Sl w vb b) (ca : I.Can a) (cb : I.Can b) (hl : a.length ≤ 1000000000000) (kd : 0 < I.val b) (h2a : a.length ≤ 2) (h2b : b.length ≤ 2) :
  Calls Try.prog 101 #[va, vb] w (RII (I.val a / I.val b) (I.val a % I.val b) w) := by
 have HSA := Lib.hid ha; have HSB := Lib.hid hb; have HCA := Lib.hid ca; have HCB := Lib.hid cb; have ks := Lib.hid kd
 clear ha hb ca cb kd
 obtain ⟨m, hm⟩ : ∃ m, m = I.val a := ⟨_, rfl⟩
 obtain ⟨n, hn⟩ : ∃ n, n = I.val b := ⟨_, rfl⟩
 rw [← hm, ← hn]
 obtain ⟨hm0, hm1⟩ := val2_lt HCA.out.1 h2a
 obtain ⟨hn0, hn1⟩ := val2_lt HCB.out.1 h2b
 have hnp := ks.out
 rw [← hm] at hm0 hm1
 rw [← hn] at hn0 hn1 hnp
 have hq0 : 0 ≤ m / n := Int.ediv_nonneg hm0 hn0
 have hq1 : m / n ≤ m := Int.ediv_le_self _ hm0
 have hr0 : 0 ≤ m % n := Int.emod_nonneg _ (by omega)
 have hr1 : m % n < n := Int.emod_lt_of_pos _ hnp
 have hw1 : IntKind.u64.wrap (m / n) = m / n := by rw [IntKind.wrap_u64]; omega
 have hw2 : IntKind.u64.wrap (m % n) = m % n := by rw [IntKind.wrap_u64]; omega
 have hne : (n == 0) = false := beq_eq_false_iff_ne.2 (by omega)
 have hx1 : m.tdiv n = m / n := Int.tdiv_eq_ediv_of_nonneg hm0
 have hx2 : m.tmod n = m % n := Int.tmod_eq_emod_of_nonneg hm0
 have hx3 : IntKind.i64.wrap (m / n) = m / n := by rw [IntKind.wrap_i64]; omega
 have hx4 : IntKind.i64.wrap (m % n) = m % n := by rw [IntKind.wrap_i64]; omega
 have hne2 : ¬ n = 0 := by omega
 have HM := Lib.hid hm; have HN := Lib.hid hn
 clear hm hn
 go_enter Try.func101, Try.ntmps101
 go_wp2_with fail
 obtain ⟨W1, hW⟩ : ∃ W, W = (w.alloc (.cells #[.bool false, .slice none 0 0] 24)).alloc (.cells #[.bool false, .slice none 0 0] 24) := ⟨_, rfl⟩
 rw [← hW]
 have ke : Bx W1 (w.heap.size) 24 [.bool false, .slice none 0 0] := by rw [hW]; exact (Bx.at_ rfl).alloc _
 have kf : Bx W1 (w.heap.size + 1) 24 [.bool false, .slice none 0 0] := by rw [hW]; exact Bx.at_ (by simp)
 have hB : Below w.heap.size w W1 := by rw [hW]; exact ((Below.refl _ _).alloc (by simp) _).alloc (by simp) _
 have ka := Lib.hid hB; clear hW hB
 have F5 := Lib.hid (HSA.out.kp (.of ka.out))
 have F6 := Lib.hid (HSB.out.kp (.of ka.out))
 obtain ⟨kL, kM, kN, -⟩ := ke.f2
 obtain ⟨kO, kP, kQ, -⟩ := kf.f2
 have kb := two_any va a W1 F5.out HCA.out.1
 rw [if_pos h2a, decide_eq_true h2a, ← HM.out] at kb
 (with_reducible refine kb.mono ?_)
 clear kb
 rintro e w13 ⟨rfl, k2⟩
 have kh := ke.below k2
 obtain ⟨kR, kS, kT, -⟩ := kh.f2
 have ki := kf.below k2
 obtain ⟨kU, kV, kW, -⟩ := ki.f2
 have ku := Lib.hid (F5.out.kp (.of k2))
 have kj := Lib.hid (F6.out.kp (.of k2))
 have kv := Lib.hid (Blw ka.out k2)
 clear k2
 go_wp2_with fail
 have kc := two_any vb b w13 kj.out HCB.out.1
 rw [if_pos h2b, decide_eq_true h2b, ← HN.out] at kc
 (with_reducible refine kc.mono ?_)
 clear kc
 rintro e w26 ⟨rfl, k3⟩
 have kk := kh.below k3
 obtain ⟨kX, kY, kZ, -⟩ := kk.f2
 have kl := ki.below k3
 obtain ⟨k00, k01, k02, -⟩ := kl.f2
 have kw := Lib.hid (ku.out.kp (.of k3))
 have kx := Lib.hid (kj.out.kp (.of k3))
 have ky := Lib.hid (Blw kv.out k3)
 clear k3
 go_wp2_with fail
 go_region_held3 (fun _ => True) (exact True.intro)
  (first | (go_at_call 91; have km := unsigned_any false (m / n) w26.drew hq0 (by omega); (with_reducible refine km.mono ?_); clear km; rintro e w39 ⟨q0, q1, rfl, k5, k0⟩; have k0 := bdDl k0; have k6 := kk.below k0; have k03 := k6.cell (i := 0) rfl; have k04 := k6.cell (i := 1) rfl; have k05 := k6.frozen; have k7 := kl.below k0; have k06 := k7.cell (i := 0) rfl; have k07 := k7.cell (i := 1) rfl; have k08 := k7.frozen; have kz := Lib.hid (kw.out.kp (.of k0)); have kA := Lib.hid (kx.out.kp (.of k0)); have kB := Lib.hid (Blw ky.out k0); have kC := Lib.hid k5; have o_q0 := k5.one0; have o_q1 := k5.one1; clear k5 k0) | (go_at_call 91; have kn := unsigned_any false (m % n) w39 hr0 (by omega); (with_reducible refine kn.mono ?_); clear kn; rintro e w53 ⟨r0, r1, rfl, k8, k1⟩; have k4 := k6.below k1; have kD := k4.cell (i := 0) rfl; have kE := k4.cell (i := 1) rfl; have k09 := k4.frozen; have k9 := k7.below k1; have kF := k9.cell (i := 0) rfl; have kG := k9.cell (i := 1) rfl; have k0a := k9.frozen; have F63 := Lib.hid (kz.out.kp (.of k1)); have F64 := Lib.hid (kA.out.kp (.of k1)); have ko := Lib.hid (kC.out.kp (.of k1)); have kH := Lib.hid (Blw kB.out k1); have kq := Lib.hid k8; have o_r0 := k8.one0; have o_r1 := k8.one1; clear k8 k1))
 have kI := k4.set_ 0 (q0)
 have kJ := k9.far_ (g' := w.heap.size) (j := 0) (by omega) (q0)
 have kr := kJ.far_ (g' := w.heap.size) (j := 1) (by omega) (q1)
 have kK := kr.set_ 0 (r0)
 have hkp : Kp w53 ((((w53.setCell ⟨w.heap.size, 0, none⟩ (q0)).setCell ⟨w.heap.size, 1, none⟩ (q1)).setCell ⟨w.heap.size + 1, 0, none⟩ (r0)).setCell ⟨w.heap.size + 1, 1, none⟩ (r1)) := ((((Kp.refl _).set_ k4 (by decide) _).set_ kI (by decide) _).set_ kr (by decide) _).set_ kK (by decide) _
 go_wp2
 rw [sg_false] at ko kq
 refine bodyPost_ret (v := .tuple #[.agg #[q0, q1], .agg #[r0, r1]]) (by simp [results, Try.results101, go_sem, kD, kE, kF, kG]) rfl ⟨_, _, _, _, rfl, ?_, ?_, ((((kH.out).setCell (by simp) _).setCell (by simp) _).setCell (by simp <;> omega) _).setCell (by simp <;> omega) _⟩
 ·exact ko.out.kp hkp
 ·exact kq.out.kp hkp
set_option maxRecDepth 100000 in
theorem dvd_less1 (va vb : Value) (a b : List Int) (w : World) (ha : Sl w va a) (hb : Sl w vb b) (ca : I.Can a) (cb : I.Can b) (hl : a.length ≤ 1000000000000) (hb0 : 0 < I.val b) (h2a : a.length ≤ 2) (h2b : ¬ b.length ≤ 2) (hlt : I.val a < I.val b) :
  Calls Try.prog 101 #[va, vb] w (RII (I.val a / I.val b) (I.val a % I.val b) w) := by
 have HSA := Lib.hid ha; have HSB := Lib.hid hb; have HCA := Lib.hid ca; have HCB := Lib.hid cb; have kF := Lib.hid hb0
 clear ha hb ca cb hb0
 have hq : I.val a / I.val b = 0 := Int.ediv_eq_zero_of_lt (I.val_nonneg HCA.out.1) hlt
 have hr : I.val a % I.val b = I.val a := Int.emod_eq_of_lt (I.val_nonneg HCA.out.1) hlt
 rw [hq, hr]
 clear hq hr
 have HLT := Lib.hid hlt; clear hlt
 obtain ⟨N2, hN2⟩ : ∃ N2, N2 = I.val a := ⟨_, rfl⟩
 go_enter Try.func101, Try.ntmps101
 go_wp2_with fail
 obtain ⟨W1, hW⟩ : ∃ W, W = (w.alloc (.cells #[.bool false, .slice none 0 0] 24)).alloc (.cells #[.bool false, .slice none 0 0] 24) := ⟨_, rfl⟩
 rw [← hW]
 have ka : Bx W1 (w.heap.size) 24 [.bool false, .slice none 0 0] := by rw [hW]; exact (Bx.at_ rfl).alloc _
 have kb : Bx W1 (w.heap.size + 1) 24 [.bool false, .slice none 0 0] := by rw [hW]; exact Bx.at_ (by simp)
 have hB : Below w.heap.size w W1 := by rw [hW]; exact ((Below.refl _ _).alloc (by simp) _).alloc (by simp) _
 have k5 := Lib.hid hB; clear hW hB
 have F5 := Lib.hid (HSA.out.kp (.of k5.out))
 have F6 := Lib.hid (HSB.out.kp (.of k5.out))
 obtain ⟨kG, kH, kI, -⟩ := ka.f2
 obtain ⟨kJ, kK, kL, -⟩ := kb.f2
 have k6 := two_any va a W1 F5.out HCA.out.1
 rw [if_pos h2a, decide_eq_true h2a] at k6
 (with_reducible refine k6.mono ?_)
 clear k6
 rintro e w13 ⟨rfl, k0⟩
 have kd := ka.below k0
 obtain ⟨kM, kN, kO, -⟩ := kd.f2
 have ke := kb.below k0
 obtain ⟨kP, kQ, kR, -⟩ := ke.f2
 have kr := Lib.hid (F5.out.kp (.of k0))
 have kf := Lib.hid (F6.out.kp (.of k0))
 have ks := Lib.hid (Blw k5.out k0)
 clear k0
 go_wp2_with fail
 have k7 := two_any vb b w13 kf.out HCB.out.1
 rw [if_neg h2b, decide_eq_false h2b] at k7
 (with_reducible refine k7.mono ?_)
 clear k7
 rintro e w26 ⟨rfl, k1⟩
 have kg := kd.below k1
 obtain ⟨kS, kT, kU, -⟩ := kg.f2
 have kh := ke.below k1
 obtain ⟨kV, kW, kX, -⟩ := kh.f2
 have ki := Lib.hid (kr.out.kp (.of k1))
 have kt := Lib.hid (kf.out.kp (.of k1))
 have ku := Lib.hid (Blw ks.out k1)
 clear k1
 go_wp2_with fail
 obtain ⟨z, hz⟩ : ∃ z, z = cmpZ (I.val a) (I.val b) := ⟨_, rfl⟩
 have hz0 : z < 0 := by rw [hz]; have := HLT.out; unfold cmpZ; rw [if_pos this]; omega
 have k8 := compare_b va vb a b w26 ki.out kt.out HCA.out HCB.out
 rw [← hz] at k8; clear hz
 (with_reducible refine k8.mono ?_)
 clear k8
 rintro e w39 ⟨rfl, k2⟩
 have kj := kg.below k2
 obtain ⟨kY, kZ, k00, -⟩ := kj.f2
 have kk := kh.below k2
 obtain ⟨k01, k02, k03, -⟩ := kk.f2
 have kv := Lib.hid (ki.out.kp (.of k2))
 have kw := Lib.hid (Blw ku.out k2)
 clear k2
 go_wp2_with fail
 have kl := of_any false va a w39 kv.out HCA.out.1
 (with_reducible refine kl.mono ?_)
 clear kl
 rintro e w52 ⟨r0, r1, rfl, k3, k4⟩
 have k9 := kj.below k4
 obtain ⟨kx, ky, k04, -⟩ := k9.f2
 have km := kk.below k4
 obtain ⟨kz, kA, k05, -⟩ := km.f2
 have kB := Lib.hid (Blw kw.out k4)
 have kn := Lib.hid k3
 have o_r0 := k3.one0
 have o_r1 := k3.one1
 clear k3 k4
 go_wp2
 have HZ := Lib.hid (IntV.zero w52)
 have kC := k9.set_ 0 (.bool false)
 have kD := km.far_ (g' := w.heap.size) (j := 0) (by omega) (.bool false)
 have ko := kD.far_ (g' := w.heap.size) (j := 1) (by omega) (.slice none 0 0)
 have kE := ko.set_ 0 (r0)
 have hkp : Kp w52 ((((w52.setCell ⟨w.heap.size, 0, none⟩ (.bool false)).setCell ⟨w.heap.size, 1, none⟩ (.slice none 0 0)).setCell ⟨w.heap.size + 1, 0, none⟩ (r0)).setCell ⟨w.heap.size + 1, 1, none⟩ (r1)) := ((((Kp.refl _).set_ k9 (by decide) _).set_ kC (by decide) _).set_ ko (by decide) _).set_ kE (by decide) _
 rw [sg_false] at kn
 refine bodyPost_ret (v := .tuple #[.agg #[.bool false, .slice none 0 0], .agg #[r0, r1]]) (by simp [results, Try.results101, go_sem, kx, ky, kz, kA]) rfl ⟨_, _, _, _, rfl, ?_, ?_, ((((kB.out).setCell (by simp) _).setCell (by simp) _).setCell (by simp <;> omega) _).setCell (by simp <;> omega) _⟩
 ·exact HZ.out.kp hkp
 ·exact kn.out.kp hkp
set_option maxRecDepth 100000 in
theorem dvd_less0 (va vb : Value) (a b : List Int) (w : World) (ha : Sl w va a) (hb : Sl w vb b) (ca : I.Can a) (cb : I.Can b) (hl : a.length ≤ 1000000000000) (hb0 : 0 < I.val b) (h2a : ¬ a.length ≤ 2) (hlt : I.val a < I.val b) :
  Calls Try.prog 101 #[va, vb] w (RII (I.val a / I.val b) (I.val a % I.val b) w) := by
 have HSA := Lib.hid ha; have HSB := Lib.hid hb; have HCA := Lib.hid ca; have HCB := Lib.hid cb; have ky := Lib.hid hb0
 clear ha hb ca cb hb0
 have hq : I.val a / I.val b = 0 := Int.ediv_eq_zero_of_lt (I.val_nonneg HCA.out.1) hlt
 have hr : I.val a % I.val b = I.val a := Int.emod_eq_of_lt (I.val_nonneg HCA.out.1) hlt
 rw [hq, hr]
 clear hq hr
 have HLT := Lib.hid hlt; clear hlt
 go_enter Try.func101, Try.ntmps101
 go_wp2_with fail
 obtain ⟨W1, hW⟩ : ∃ W, W = (w.alloc (.cells #[.bool false, .slice none 0 0] 24)).alloc (.cells #[.bool false, .slice none 0 0] 24) := ⟨_, rfl⟩
 rw [← hW]
 have k8 : Bx W1 (w.heap.size) 24 [.bool false, .slice none 0 0] := by rw [hW]; exact (Bx.at_ rfl).alloc _
 have k9 : Bx W1 (w.heap.size + 1) 24 [.bool false, .slice none 0 0] := by rw [hW]; exact Bx.at_ (by simp)
 have hB : Below w.heap.size w W1 := by rw [hW]; exact ((Below.refl _ _).alloc (by simp) _).alloc (by simp) _
 have k4 := Lib.hid hB; clear hW hB
 have F5 := Lib.hid (HSA.out.kp (.of k4.out))
 have F6 := Lib.hid (HSB.out.kp (.of k4.out))
 obtain ⟨kz, kA, kB, -⟩ := k8.f2
 obtain ⟨kC, kD, kE, -⟩ := k9.f2
 have k5 := two_any va a W1 F5.out HCA.out.1
 rw [if_neg h2a, decide_eq_false h2a] at k5
 (with_reducible refine k5.mono ?_)
 clear k5
 rintro e w13 ⟨rfl, k0⟩
 have kb := k8.below k0
 obtain ⟨kF, kG, kH, -⟩ := kb.f2
 have kc := k9.below k0
 obtain ⟨kI, kJ, kK, -⟩ := kc.f2
 have kd := Lib.hid (F5.out.kp (.of k0))
 have kl := Lib.hid (F6.out.kp (.of k0))
 have km := Lib.hid (Blw k4.out k0)
 clear k0
 go_wp2_with fail
 obtain ⟨z, hz⟩ : ∃ z, z = cmpZ (I.val a) (I.val b) := ⟨_, rfl⟩
 have hz0 : z < 0 := by rw [hz]; have := HLT.out; unfold cmpZ; rw [if_pos this]; omega
 have k6 := compare_b va vb a b w13 kd.out kl.out HCA.out HCB.out
 rw [← hz] at k6; clear hz
 (with_reducible refine k6.mono ?_)
 clear k6
 rintro e w26 ⟨rfl, k1⟩
 have ke := kb.below k1
 obtain ⟨kL, kM, kN, -⟩ := ke.f2
 have kf := kc.below k1
 obtain ⟨kO, kP, kQ, -⟩ := kf.f2
 have kn := Lib.hid (kd.out.kp (.of k1))
 have ko := Lib.hid (Blw km.out k1)
 clear k1
 go_wp2_with fail
 have kg := of_any false va a w26 kn.out HCA.out.1
 (with_reducible refine kg.mono ?_)
 clear kg
 rintro e w39 ⟨r0, r1, rfl, k2, k3⟩
 have k7 := ke.below k3
 obtain ⟨kq, kr, kR, -⟩ := k7.f2
 have kh := kf.below k3
 obtain ⟨ks, kt, kS, -⟩ := kh.f2
 have ku := Lib.hid (Blw ko.out k3)
 have ki := Lib.hid k2
 have o_r0 := k2.one0
 have o_r1 := k2.one1
 clear k2 k3
 go_wp2
 have HZ := Lib.hid (IntV.zero w39)
 have kv := k7.set_ 0 (.bool false)
 have kw := kh.far_ (g' := w.heap.size) (j := 0) (by omega) (.bool false)
 have kj := kw.far_ (g' := w.heap.size) (j := 1) (by omega) (.slice none 0 0)
 have kx := kj.set_ 0 (r0)
 have hkp : Kp w39 ((((w39.setCell ⟨w.heap.size, 0, none⟩ (.bool false)).setCell ⟨w.heap.size, 1, none⟩ (.slice none 0 0)).setCell ⟨w.heap.size + 1, 0, none⟩ (r0)).setCell ⟨w.heap.size + 1, 1, none⟩ (r1)) := ((((Kp.refl _).set_ k7 (by decide) _).set_ kv (by decide) _).set_ kj (by decide) _).set_ kx (by decide) _
 rw [sg_false] at ki
 refine bodyPost_ret (v := .tuple #[.agg #[.bool false, .slice none 0 0], .agg #[r0, r1]]) (by simp [results, Try.results101, go_sem, kq, kr, ks, kt]) rfl ⟨_, _, _, _, rfl, ?_, ?_, ((((ku.out).setCell (by simp) _).setCell (by simp) _).setCell (by simp <;> omega) _).setCell (by simp <;> omega) _⟩
 ·exact HZ.out.kp hkp
 ·exact ki.out.kp hkp
set_option maxRecDepth 100000 in
theorem dvd_short (va vb : Value) (a b : List Int) (w : World) (ha : Sl w va a) (hb : Sl w vb b) (ca : I.Can a) (cb : I.Can b) (hl : a.length ≤ 1000000000000) (hb0 : 0 < I.val b) (h2a : ¬ a.length ≤ 2) (hlt : ¬ I.val a < I.val b) (hb1 : b.length = 1) :
  Calls Try.prog 101 #[va, vb] w (RII (I.val a / I.val b) (I.val a % I.val b) w) := by
 have HSA := Lib.hid ha; have HSB := Lib.hid hb; have HCA := Lib.hid ca; have HCB := Lib.hid cb; have kA := Lib.hid hb0
 clear ha hb ca cb hb0
 have HLT := Lib.hid hlt; clear hlt
 obtain ⟨m, rfl⟩ : ∃ m, b = [m] := List.length_eq_one_iff.1 hb1
 obtain ⟨hm0, hm1⟩ := HCB.out.1.head
 have hvm : I.val [m] = m := by simp [I.val]
 have hmp : 0 < m := by have := kA.out; omega
 have HVM := Lib.hid hvm; clear hvm hb1
 obtain ⟨bb, ob, cb2, rfl, _, _, hbb, hcb⟩ := HSB.out.at_ (by simp)
 have HCE := Lib.hid hcb; clear hcb
 go_enter Try.func101, Try.ntmps101
 go_wp2_with fail
 obtain ⟨W1, hW⟩ : ∃ W, W = (w.alloc (.cells #[.bool false, .slice none 0 0] 24)).alloc (.cells #[.bool false, .slice none 0 0] 24) := ⟨_, rfl⟩
 rw [← hW]
 have kb : Bx W1 (w.heap.size) 24 [.bool false, .slice none 0 0] := by rw [hW]; exact (Bx.at_ rfl).alloc _
 have kc : Bx W1 (w.heap.size + 1) 24 [.bool false, .slice none 0 0] := by rw [hW]; exact Bx.at_ (by simp)
 have hB : Below w.heap.size w W1 := by rw [hW]; exact ((Below.refl _ _).alloc (by simp) _).alloc (by simp) _
 have k7 := Lib.hid hB; clear hW hB
 have F5 := Lib.hid (HSA.out.kp (.of k7.out))
 have F6 := Lib.hid (HSB.out.kp (.of k7.out))
 obtain ⟨kN, kO, kP, -⟩ := kb.f2
 obtain ⟨kQ, kR, kS, -⟩ := kc.f2
 have k8 := two_any va a W1 F5.out HCA.out.1
 rw [if_neg h2a, decide_eq_false h2a] at k8
 (with_reducible refine k8.mono ?_)
 clear k8
 rintro e w13 ⟨rfl, k0⟩
 have ke := kb.below k0
 obtain ⟨kT, kU, kV, -⟩ := ke.f2
 have kf := kc.below k0
 obtain ⟨kW, kX, kY, -⟩ := kf.f2
 have kg := Lib.hid (F5.out.kp (.of k0))
 have kC := Lib.hid (F6.out.kp (.of k0))
 have kh := Lib.hid (Blw k7.out k0)
 clear k0
 go_wp2_with fail
 obtain ⟨z, hz⟩ : ∃ z, z = cmpZ (I.val a) (I.val [m]) := ⟨_, rfl⟩
 have hz0 : ¬ z < 0 := by rw [hz]; have := HLT.out; unfold cmpZ; rw [if_neg (by omega)]; split <;> omega
 have e26 : w13.cell? ⟨bb, ob, none⟩ = some (.int .i64 m) := HCE.out w13 kh.out 0 m rfl
 have k9 := compare_b va (.slice (some ⟨bb, ob, none⟩) 1 cb2) a [m] w13 kg.out kC.out HCA.out HCB.out
 rw [← hz] at k9; clear hz
 (with_reducible refine k9.mono ?_)
 clear k9
 rintro e w27 ⟨rfl, k1⟩
 have ki := ke.below k1
 obtain ⟨kZ, k00, k01, -⟩ := ki.f2
 have kj := kf.below k1
 obtain ⟨k02, k03, k04, -⟩ := kj.f2
 have kD := Lib.hid (kg.out.kp (.of k1))
 have kk := Lib.hid (Blw kh.out k1)
 have e40 : w27.cell? ⟨bb, ob, none⟩ = some (.int .i64 m) := HCE.out w27 kk.out 0 m rfl
 clear k1
 go_wp2_with fail
 have kl := short_any va a m w27 kD.out HCA.out.1 hl hmp hm1
 (with_reducible refine kl.mono ?_)
 clear kl
 rintro e w41 ⟨vq, q, rest, rfl, hS42, hD42, hL42, hV42, hr0, hr1, k3⟩
 have km := ki.below k3
 obtain ⟨k05, k06, k07, -⟩ := km.f2
 have kn := kj.below k3
 obtain ⟨k08, k09, k0a, -⟩ := kn.f2
 have ko := Lib.hid (Blw kk.out k3)
 have e54 : w41.cell? ⟨bb, ob, none⟩ = some (.int .i64 m) := HCE.out w41 ko.out 0 m rfl
 have kE := Lib.hid hS42
 have HDQ := Lib.hid hD42
 have HQV := Lib.hid (quo_of hV42 hr0 hr1)
 have HRV := Lib.hid (rem_of hV42 hr0 hr1)
 clear hS42 hD42 hL42 hV42 k3
 have hw1 : IntKind.u64.wrap rest = rest := by rw [IntKind.wrap_u64]; omega
 go_wp2_with fail
 have kq := of_any false vq q w41 kE.out HDQ.out
 (with_reducible refine kq.mono ?_)
 clear kq
 rintro e w56 ⟨q0, q1, rfl, k4, k5⟩
 have kr := km.below k5
 obtain ⟨k0b, k0c, k0d, -⟩ := kr.f2
 have ks := kn.below k5
 obtain ⟨k0e, k0f, k0g, -⟩ := ks.f2
 have kt := Lib.hid (Blw ko.out k5)
 have e70 : w56.cell? ⟨bb, ob, none⟩ = some (.int .i64 m) := HCE.out w56 kt.out 0 m rfl
 have kF := Lib.hid k4
 have o_q0 := k4.one0
 have o_q1 := k4.one1
 clear k4 k5
 go_wp2_with fail
 have ku := unsigned_any false rest w56 hr0 (by omega)
 (with_reducible refine ku.mono ?_)
 clear ku
 rintro e w72 ⟨r0, r1, rfl, k6, k2⟩
 have ka := kr.below k2
 obtain ⟨kG, kH, k0h, -⟩ := ka.f2
 have kv := ks.below k2
 obtain ⟨kI, kJ, k0i, -⟩ := kv.f2
 have kw := Lib.hid (kF.out.kp (.of k2))
 have kx := Lib.hid (Blw kt.out k2)
 have e87 : w72.cell? ⟨bb, ob, none⟩ = some (.int .i64 m) := HCE.out w72 kx.out 0 m rfl
 have ky := Lib.hid k6
 have o_r0 := k6.one0
 have o_r1 := k6.one1
 clear k6 k2
 go_wp2
 have kK := ka.set_ 0 (q0)
 have kL := kv.far_ (g' := w.heap.size) (j := 0) (by omega) (q0)
 have kz := kL.far_ (g' := w.heap.size) (j := 1) (by omega) (q1)
 have kM := kz.set_ 0 (r0)
 have hkp : Kp w72 ((((w72.setCell ⟨w.heap.size, 0, none⟩ (q0)).setCell ⟨w.heap.size, 1, none⟩ (q1)).setCell ⟨w.heap.size + 1, 0, none⟩ (r0)).setCell ⟨w.heap.size + 1, 1, none⟩ (r1)) := ((((Kp.refl _).set_ ka (by decide) _).set_ kK (by decide) _).set_ kz (by decide) _).set_ kM (by decide) _
 rw [sg_false, HQV.out, ← HVM.out] at kw
 rw [sg_false, HRV.out, ← HVM.out] at ky
 refine bodyPost_ret (v := .tuple #[.agg #[q0, q1], .agg #[r0, r1]]) (by simp [results, Try.results101, go_sem, kG, kH, kI, kJ]) rfl ⟨_, _, _, _, rfl, ?_, ?_, ((((kx.out).setCell (by simp) _).setCell (by simp) _).setCell (by simp <;> omega) _).setCell (by simp <;> omega) _⟩
 ·exact kw.out.kp hkp
 ·exact ky.out.kp hkp
set_option maxRecDepth 100000 in
theorem dvd_long (va vb : Value) (a b : List Int) (w : World) (ha : Sl w va a) (hb : Sl w vb b) (ca : I.Can a) (cb : I.Can b) (hl : a.length ≤ 1000000000000) (hb0 : 0 < I.val b) (h2a : ¬ a.length ≤ 2) (hlt : ¬ I.val a < I.val b) (hb2 : 2 ≤ b.length) (hab : b.length ≤ a.length) :
  Calls Try.prog 101 #[va, vb] w (RII (I.val a / I.val b) (I.val a % I.val b) w) := by
 have HSA := Lib.hid ha; have HSB := Lib.hid hb; have HCA := Lib.hid ca; have HCB := Lib.hid cb; have kP := Lib.hid hb0
 clear ha hb ca cb hb0
 have HLT := Lib.hid hlt; clear hlt
 have kQ : ((b.length : Int) == 1) = false := beq_eq_false_iff_ne.2 (by omega)
 obtain ⟨B, cb, rfl, _, _⟩ := HSB.out.form_
 go_enter Try.func101, Try.ntmps101
 go_wp2_with fail
 obtain ⟨W1, hW⟩ : ∃ W, W = (w.alloc (.cells #[.bool false, .slice none 0 0] 24)).alloc (.cells #[.bool false, .slice none 0 0] 24) := ⟨_, rfl⟩
 rw [← hW]
 have kb : Bx W1 (w.heap.size) 24 [.bool false, .slice none 0 0] := by rw [hW]; exact (Bx.at_ rfl).alloc _
 have kc : Bx W1 (w.heap.size + 1) 24 [.bool false, .slice none 0 0] := by rw [hW]; exact Bx.at_ (by simp)
 have hB : Below w.heap.size w W1 := by rw [hW]; exact ((Below.refl _ _).alloc (by simp) _).alloc (by simp) _
 have k7 := Lib.hid hB; clear hW hB
 have F5 := Lib.hid (HSA.out.kp (.of k7.out))
 have F6 := Lib.hid (HSB.out.kp (.of k7.out))
 obtain ⟨kR, kS, kT, -⟩ := kb.f2
 obtain ⟨kU, kV, kW, -⟩ := kc.f2
 have k8 := two_any va a W1 F5.out HCA.out.1
 rw [if_neg h2a, decide_eq_false h2a] at k8
 (with_reducible refine k8.mono ?_)
 clear k8
 rintro e w13 ⟨rfl, k0⟩
 have ke := kb.below k0
 obtain ⟨kX, kY, kZ, -⟩ := ke.f2
 have kf := kc.below k0
 obtain ⟨k00, k01, k02, -⟩ := kf.f2
 have kg := Lib.hid (F5.out.kp (.of k0))
 have kh := Lib.hid (F6.out.kp (.of k0))
 have kx := Lib.hid (Blw k7.out k0)
 clear k0
 go_wp2_with fail
 obtain ⟨z, hz⟩ : ∃ z, z = cmpZ (I.val a) (I.val b) := ⟨_, rfl⟩
 have hz0 : ¬ z < 0 := by rw [hz]; have := HLT.out; unfold cmpZ; rw [if_neg (by omega)]; split <;> omega
 have k9 := compare_b va (.slice B b.length cb) a b w13 kg.out kh.out HCA.out HCB.out
 rw [← hz] at k9; clear hz
 (with_reducible refine k9.mono ?_)
 clear k9
 rintro e w26 ⟨rfl, k1⟩
 have ki := ke.below k1
 obtain ⟨k03, k04, k05, -⟩ := ki.f2
 have kj := kf.below k1
 obtain ⟨k06, k07, k08, -⟩ := kj.f2
 have ky := Lib.hid (kg.out.kp (.of k1))
 have kz := Lib.hid (kh.out.kp (.of k1))
 have kA := Lib.hid (Blw kx.out k1)
 clear k1
 go_wp2_with fail
 have kk := long_any va (.slice B b.length cb) a b w26 ky.out kz.out HCA.out.1 HCB.out hl hb2 hab
 (with_reducible refine kk.mono ?_)
 clear kk
 rintro e w39 ⟨vq, vr, q, r, rfl, hS40, hD40, hT40, hE40, hV40, hr1, _, _, k4⟩
 have kl := ki.below k4
 obtain ⟨k09, k0a, k0b, -⟩ := kl.f2
 have km := kj.below k4
 obtain ⟨k0c, k0d, k0e, -⟩ := km.f2
 have kB := Lib.hid (Blw kA.out k4)
 have kC := Lib.hid hS40
 have kD := Lib.hid hT40
 have HDQ := Lib.hid hD40
 have HDR := Lib.hid hE40
 have HQV := Lib.hid (quo_of hV40 (I.val_nonneg hE40) hr1)
 have HRV := Lib.hid (rem_of hV40 (I.val_nonneg hE40) hr1)
 clear hS40 hD40 hT40 hE40 hV40 hr1 k4
 go_wp2_with fail
 have kn := of_any false vq q w39 kC.out HDQ.out
 (with_reducible refine kn.mono ?_)
 clear kn
 rintro e w54 ⟨q0, q1, rfl, k5, k2⟩
 have ko := kl.below k2
 obtain ⟨k0f, k0g, k0h, -⟩ := ko.f2
 have kq := km.below k2
 obtain ⟨k0i, k0j, k0k, -⟩ := kq.f2
 have kE := Lib.hid (kD.out.kp (.of k2))
 have kF := Lib.hid (Blw kB.out k2)
 have kG := Lib.hid k5
 have o_q0 := k5.one0
 have o_q1 := k5.one1
 clear k5 k2
 go_wp2_with fail
 have kr := of_any false vr r w54 kE.out HDR.out
 (with_reducible refine kr.mono ?_)
 clear kr
 rintro e w70 ⟨r0, r1, rfl, k6, k3⟩
 have ka := ko.below k3
 obtain ⟨kH, kI, k0l, -⟩ := ka.f2
 have ks := kq.below k3
 obtain ⟨kJ, kK, k0m, -⟩ := ks.f2
 have kt := Lib.hid (kG.out.kp (.of k3))
 have kL := Lib.hid (Blw kF.out k3)
 have ku := Lib.hid k6
 have o_r0 := k6.one0
 have o_r1 := k6.one1
 clear k6 k3
 go_wp2
 have kM := ka.set_ 0 (q0)
 have kN := ks.far_ (g' := w.heap.size) (j := 0) (by omega) (q0)
 have kv := kN.far_ (g' := w.heap.size) (j := 1) (by omega) (q1)
 have kO := kv.set_ 0 (r0)
 have hkp : Kp w70 ((((w70.setCell ⟨w.heap.size, 0, none⟩ (q0)).setCell ⟨w.heap.size, 1, none⟩ (q1)).setCell ⟨w.heap.size + 1, 0, none⟩ (r0)).setCell ⟨w.heap.size + 1, 1, none⟩ (r1)) := ((((Kp.refl _).set_ ka (by decide) _).set_ kM (by decide) _).set_ kv (by decide) _).set_ kO (by decide) _
 rw [sg_false, HQV.out] at kt
 rw [sg_false, HRV.out] at ku
 refine bodyPost_ret (v := .tuple #[.agg #[q0, q1], .agg #[r0, r1]]) (by simp [results, Try.results101, go_sem, kH, kI, kJ, kK]) rfl ⟨_, _, _, _, rfl, ?_, ?_, ((((kL.out).setCell (by simp) _).setCell (by simp) _).setCell (by simp <;> omega) _).setCell (by simp <;> omega) _⟩
 ·exact kt.out.kp hkp
 ·exact ku.out.kp hkp
theorem divide_any (va vb : Value) (a b : List Int) (w : World) (ha : Sl w va a) (hb : Sl w vb b) (ca : I.Can a) (cb : I.Can b) (hl : a.length ≤ 1000000000000) (hb0 : 0 < I.val b) :
  Calls Try.prog 101 #[va, vb] w (RII (I.val a / I.val b) (I.val a % I.val b) w) := by
 have hbn : 1 ≤ b.length := by
  rcases Nat.eq_zero_or_pos b.length with h0 | h0
  ·have := List.eq_nil_of_length_eq_zero h0
   subst this
   simp [I.val] at hb0
  ·exact h0
 by_cases h2a : a.length ≤ 2
 ·by_cases h2b : b.length ≤ 2
  ·exact dvd_two va vb a b w ha hb ca cb hl hb0 h2a h2b
  ·refine dvd_less1 va vb a b w ha hb ca cb hl hb0 h2a h2b ?_
   by_cases hlt : I.val a < I.val b
   ·exact hlt
   ·have := cb.len ca.1 (by omega)
    omega
 ·by_cases hlt : I.val a < I.val b
  ·exact dvd_less0 va vb a b w ha hb ca cb hl hb0 h2a hlt
  ·have hab := cb.len ca.1 (by omega)
   by_cases k0 : b.length = 1
   ·exact dvd_short va vb a b w ha hb ca cb hl hb0 h2a hlt k0
   ·exact dvd_long va vb a b w ha hb ca cb hl hb0 h2a hlt (by omega) hab
end Go.Proofs.Ytonkbckgbfcnkaa
