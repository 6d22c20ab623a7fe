/-
 THE WALKS of package integer: divide.
-/
import Derived.Test.YtcfejkpadcccbaaGreatWalkUns
import Derived.Test.YtcfejkpadcccbaaGreatWalkLong
import Derived.Test.YtcfejkpadcccbaaGreatWalkMul
import Derived.Deep.RegionHeld3
namespace Go.Proofs.YtcfejkpadcccbaaGreat
set_option maxHeartbeats 2000000
open Go.RowKit
attribute [local go_sem] run_store_one
set_option linter.unusedVariables false
theorem val2_lt {l : List Int} (h : I.Dig l) (hl : l.length ≤ 2) : 0 ≤ I.val l ∧ I.val l < 1000000000000000000 := by
 have h1 := I.val_nonneg h
 have h2 := I.val_lt h
 have h3 := I.pw_mono hl
 have h4 : I.pw 2 = 1000000000000000000 := by decide
 omega
theorem quo_of {a q m r : Int} (h : a = q * m + r) (h0 : 0 ≤ r) (h1 : r < m) : q = a / m := by
 have hm : m ≠ 0 := by omega
 rw [h, Int.add_comm, Int.add_mul_ediv_right _ _ hm, Int.ediv_eq_zero_of_lt h0 h1, Int.zero_add]
theorem rem_of {a q m r : Int} (h : a = q * m + r) (h0 : 0 ≤ r) (h1 : r < m) : r = a % m := by
 rw [h, Int.add_comm, Int.add_mul_emod_self_right, Int.emod_eq_of_lt h0 h1]
theorem sg_false (x : Int) : sg false x = x := by unfold sg; simp
set_option maxRecDepth 100000 in
theorem dvd_two (va vb : Value) (a b : List Int) (w : World) (ha : Sl w va a) (hb : Sl w vb b) (ca : I.Can a) (cb : I.Can b) (hl : a.length ≤ 1000000000000) (kd : 0 < I.val b) (h2a : a.length ≤ 2) (h2b : b.length ≤ 2) :
  Calls Tryz.prog 128 #[va, vb] w (RII (I.val a / I.val b) (I.val a % I.val b) w) := by
 have HSA := Lib.hid ha; have HSB := Lib.hid hb; have HCA := Lib.hid ca; have HCB := Lib.hid cb; have kr := Lib.hid kd
 clear ha hb ca cb kd
 obtain ⟨m, hm⟩ : ∃ m, m = I.val a := ⟨_, rfl⟩
 obtain ⟨n, hn⟩ : ∃ n, n = I.val b := ⟨_, rfl⟩
 rw [← hm, ← hn]
 obtain ⟨hm0, hm1⟩ := val2_lt HCA.out.1 h2a
 obtain ⟨hn0, hn1⟩ := val2_lt HCB.out.1 h2b
 have hnp := kr.out
 rw [← hm] at hm0 hm1
 rw [← hn] at hn0 hn1 hnp
 have hq0 : 0 ≤ m / n := Int.ediv_nonneg hm0 hn0
 have hq1 : m / n ≤ m := Int.ediv_le_self _ hm0
 have hr0 : 0 ≤ m % n := Int.emod_nonneg _ (by omega)
 have hr1 : m % n < n := Int.emod_lt_of_pos _ hnp
 have hw1 : IntKind.u64.wrap (m / n) = m / n := by rw [IntKind.wrap_u64]; omega
 have hw2 : IntKind.u64.wrap (m % n) = m % n := by rw [IntKind.wrap_u64]; omega
 have hne : (n == 0) = false := beq_eq_false_iff_ne.2 (by omega)
 have hx1 : m.tdiv n = m / n := Int.tdiv_eq_ediv_of_nonneg hm0
 have hx2 : m.tmod n = m % n := Int.tmod_eq_emod_of_nonneg hm0
 have hx3 : IntKind.i64.wrap (m / n) = m / n := by rw [IntKind.wrap_i64]; omega
 have hx4 : IntKind.i64.wrap (m % n) = m % n := by rw [IntKind.wrap_i64]; omega
 have hne2 : ¬ n = 0 := by omega
 have HM := Lib.hid hm; have HN := Lib.hid hn
 clear hm hn
 go_enter Tryz.func128, Tryz.ntmps128
 go_wp2_with fail
 generalize hW : (w.alloc _).alloc _ = W1
 obtain ⟨ke, kf, hB⟩ := box2 hW
 have ka := Lib.hid hB; clear hW hB
 have F5 := Lib.hid (HSA.out.kp (.of ka.out))
 have F6 := Lib.hid (HSB.out.kp (.of ka.out))
 obtain ⟨kJ, kK, kL, -⟩ := ke.f2
 obtain ⟨kM, kN, kO, -⟩ := kf.f2
 have kb := two_any va a W1 F5.out HCA.out.1
 rw [if_pos h2a, decide_eq_true h2a, ← HM.out] at kb
 (with_reducible refine kb.mono ?_)
 clear kb
 rintro e w13 ⟨rfl, k2⟩
 have kh := ke.below k2
 obtain ⟨kP, kQ, kR, -⟩ := kh.f2
 have ki := kf.below k2
 obtain ⟨kS, kT, kU, -⟩ := ki.f2
 have kt := Lib.hid (F5.out.kp (.of k2))
 have kj := Lib.hid (F6.out.kp (.of k2))
 have ku := Lib.hid (Blw ka.out k2)
 clear k2
 go_wp2_with fail
 have kc := two_any vb b w13 kj.out HCB.out.1
 rw [if_pos h2b, decide_eq_true h2b, ← HN.out] at kc
 (with_reducible refine kc.mono ?_)
 clear kc
 rintro e w26 ⟨rfl, k3⟩
 have kk := kh.below k3
 obtain ⟨kV, kW, kX, -⟩ := kk.f2
 have kl := ki.below k3
 obtain ⟨kY, kZ, k00, -⟩ := kl.f2
 have kv := Lib.hid (kt.out.kp (.of k3))
 have kw := Lib.hid (kj.out.kp (.of k3))
 have kx := Lib.hid (Blw ku.out k3)
 clear k3
 go_wp2_with fail
 go_region_held3 (fun _ => True) (exact True.intro)
  (first | (go_at_call 120; have km := unsigned_any false (m / n) w26.drew hq0 (by omega); (with_reducible refine km.mono ?_); clear km; rintro e w39 ⟨q0, q1, rfl, k4, k0⟩; have k0 := bdDl k0; have k5 := kk.below k0; have k01 := k5.cell (i := 0) rfl; have k02 := k5.cell (i := 1) rfl; have k03 := k5.frozen; have k6 := kl.below k0; have k04 := k6.cell (i := 0) rfl; have k05 := k6.cell (i := 1) rfl; have k06 := k6.frozen; have ky := Lib.hid (kv.out.kp (.of k0)); have kz := Lib.hid (kw.out.kp (.of k0)); have kA := Lib.hid (Blw kx.out k0); have kB := Lib.hid k4; have o_q0 := k4.one0; have o_q1 := k4.one1; clear k4 k0) | (go_at_call 120; have kn := unsigned_any false (m % n) w39 hr0 (by omega); (with_reducible refine kn.mono ?_); clear kn; rintro e w53 ⟨r0, r1, rfl, k7, k1⟩; have k8 := k5.below k1; have kC := k8.cell (i := 0) rfl; have kD := k8.cell (i := 1) rfl; have k07 := k8.frozen; have k9 := k6.below k1; have kE := k9.cell (i := 0) rfl; have kF := k9.cell (i := 1) rfl; have k08 := k9.frozen; have F63 := Lib.hid (ky.out.kp (.of k1)); have F64 := Lib.hid (kz.out.kp (.of k1)); have ko := Lib.hid (kB.out.kp (.of k1)); have kG := Lib.hid (Blw kA.out k1); have kq := Lib.hid k7; have o_r0 := k7.one0; have o_r1 := k7.one1; clear k7 k1))
 have kH := k9.far_ (g' := w.heap.size) (j := 0) (by omega) (q0)
 have kI := kH.far_ (g' := w.heap.size) (j := 1) (by omega) (q1)
 have hkp := ((Kp.refl w53).t2 k8 q0 q1).t2 kI r0 r1
 go_wp2
 rw [sg_false] at ko kq
 refine bodyPost_ret (v := .tuple #[.agg #[q0, q1], .agg #[r0, r1]]) (by simp [results, Tryz.results128, go_sem, kC, kD, kE, kF]) rfl ⟨_, _, _, _, rfl, ?_, ?_, bel2 (bel2 (kG.out) (by first | simp | omega)) (by first | simp | omega)⟩
 ·exact ko.out.kp hkp
 ·exact kq.out.kp hkp
set_option maxRecDepth 100000 in
theorem dvd_less1 (va vb : Value) (a b : List Int) (w : World) (ha : Sl w va a) (hb : Sl w vb b) (ca : I.Can a) (cb : I.Can b) (hl : a.length ≤ 1000000000000) (hb0 : 0 < I.val b) (h2a : a.length ≤ 2) (h2b : ¬ b.length ≤ 2) (hlt : I.val a < I.val b) :
  Calls Tryz.prog 128 #[va, vb] w (RII (I.val a / I.val b) (I.val a % I.val b) w) := by
 have HSA := Lib.hid ha; have HSB := Lib.hid hb; have HCA := Lib.hid ca; have HCB := Lib.hid cb; have kD := Lib.hid hb0
 clear ha hb ca cb hb0
 have hq : I.val a / I.val b = 0 := Int.ediv_eq_zero_of_lt (I.val_nonneg HCA.out.1) hlt
 have hr : I.val a % I.val b = I.val a := Int.emod_eq_of_lt (I.val_nonneg HCA.out.1) hlt
 rw [hq, hr]
 clear hq hr
 have HLT := Lib.hid hlt; clear hlt
 obtain ⟨N2, hN2⟩ : ∃ N2, N2 = I.val a := ⟨_, rfl⟩
 go_enter Tryz.func128, Tryz.ntmps128
 go_wp2_with fail
 generalize hW : (w.alloc _).alloc _ = W1
 obtain ⟨k9, ka, hB⟩ := box2 hW
 have k4 := Lib.hid hB; clear hW hB
 have F5 := Lib.hid (HSA.out.kp (.of k4.out))
 have F6 := Lib.hid (HSB.out.kp (.of k4.out))
 obtain ⟨kE, kF, kG, -⟩ := k9.f2
 obtain ⟨kH, kI, kJ, -⟩ := ka.f2
 have k5 := two_any va a W1 F5.out HCA.out.1
 rw [if_pos h2a, decide_eq_true h2a] at k5
 (with_reducible refine k5.mono ?_)
 clear k5
 rintro e w13 ⟨rfl, k0⟩
 have kc := k9.below k0
 obtain ⟨kK, kL, kM, -⟩ := kc.f2
 have kd := ka.below k0
 obtain ⟨kN, kO, kP, -⟩ := kd.f2
 have kq := Lib.hid (F5.out.kp (.of k0))
 have ke := Lib.hid (F6.out.kp (.of k0))
 have kr := Lib.hid (Blw k4.out k0)
 clear k0
 go_wp2_with fail
 have k6 := two_any vb b w13 ke.out HCB.out.1
 rw [if_neg h2b, decide_eq_false h2b] at k6
 (with_reducible refine k6.mono ?_)
 clear k6
 rintro e w26 ⟨rfl, k1⟩
 have kf := kc.below k1
 obtain ⟨kQ, kR, kS, -⟩ := kf.f2
 have kg := kd.below k1
 obtain ⟨kT, kU, kV, -⟩ := kg.f2
 have kh := Lib.hid (kq.out.kp (.of k1))
 have ks := Lib.hid (ke.out.kp (.of k1))
 have kt := Lib.hid (Blw kr.out k1)
 clear k1
 go_wp2_with fail
 obtain ⟨z, hz⟩ : ∃ z, z = cmpZ (I.val a) (I.val b) := ⟨_, rfl⟩
 have hz0 : z < 0 := by rw [hz]; have := HLT.out; unfold cmpZ; rw [if_pos this]; omega
 have k7 := compare_b va vb a b w26 kh.out ks.out HCA.out HCB.out
 rw [← hz] at k7; clear hz
 (with_reducible refine k7.mono ?_)
 clear k7
 rintro e w39 ⟨rfl, k2⟩
 have ki := kf.below k2
 obtain ⟨kW, kX, kY, -⟩ := ki.f2
 have kj := kg.below k2
 obtain ⟨kZ, k00, k01, -⟩ := kj.f2
 have ku := Lib.hid (kh.out.kp (.of k2))
 have kv := Lib.hid (Blw kt.out k2)
 clear k2
 go_wp2_with fail
 have kk := of_any false va a w39 ku.out HCA.out.1
 (with_reducible refine kk.mono ?_)
 clear kk
 rintro e w52 ⟨r0, r1, rfl, k8, k3⟩
 have kl := ki.below k3
 obtain ⟨kw, kx, k02, -⟩ := kl.f2
 have km := kj.below k3
 obtain ⟨ky, kz, k03, -⟩ := km.f2
 have kA := Lib.hid (Blw kv.out k3)
 have kn := Lib.hid k8
 obtain ⟨o_r0, o_r1⟩ := k8.ones
 clear k8 k3
 go_wp2
 have HZ := Lib.hid (IntV.zero w52)
 have kB := km.far_ (g' := w.heap.size) (j := 0) (by omega) (.bool false)
 have kC := kB.far_ (g' := w.heap.size) (j := 1) (by omega) (.slice none 0 0)
 have hkp := ((Kp.refl w52).t2 kl (.bool false) (.slice none 0 0)).t2 kC r0 r1
 rw [sg_false] at kn
 refine bodyPost_ret (v := .tuple #[.agg #[.bool false, .slice none 0 0], .agg #[r0, r1]]) (by simp [results, Tryz.results128, go_sem, kw, kx, ky, kz]) rfl ⟨_, _, _, _, rfl, ?_, ?_, bel2 (bel2 (kA.out) (by first | simp | omega)) (by first | simp | omega)⟩
 ·exact HZ.out.kp hkp
 ·exact kn.out.kp hkp
set_option maxRecDepth 100000 in
theorem dvd_less0 (va vb : Value) (a b : List Int) (w : World) (ha : Sl w va a) (hb : Sl w vb b) (ca : I.Can a) (cb : I.Can b) (hl : a.length ≤ 1000000000000) (hb0 : 0 < I.val b) (h2a : ¬ a.length ≤ 2) (hlt : I.val a < I.val b) :
  Calls Tryz.prog 128 #[va, vb] w (RII (I.val a / I.val b) (I.val a % I.val b) w) := by
 have HSA := Lib.hid ha; have HSB := Lib.hid hb; have HCA := Lib.hid ca; have HCB := Lib.hid cb; have kw := Lib.hid hb0
 clear ha hb ca cb hb0
 have hq : I.val a / I.val b = 0 := Int.ediv_eq_zero_of_lt (I.val_nonneg HCA.out.1) hlt
 have hr : I.val a % I.val b = I.val a := Int.emod_eq_of_lt (I.val_nonneg HCA.out.1) hlt
 rw [hq, hr]
 clear hq hr
 have HLT := Lib.hid hlt; clear hlt
 go_enter Tryz.func128, Tryz.ntmps128
 go_wp2_with fail
 generalize hW : (w.alloc _).alloc _ = W1
 obtain ⟨k7, k8, hB⟩ := box2 hW
 have k3 := Lib.hid hB; clear hW hB
 have F5 := Lib.hid (HSA.out.kp (.of k3.out))
 have F6 := Lib.hid (HSB.out.kp (.of k3.out))
 obtain ⟨kx, ky, kz, -⟩ := k7.f2
 obtain ⟨kA, kB, kC, -⟩ := k8.f2
 have k4 := two_any va a W1 F5.out HCA.out.1
 rw [if_neg h2a, decide_eq_false h2a] at k4
 (with_reducible refine k4.mono ?_)
 clear k4
 rintro e w13 ⟨rfl, k0⟩
 have ka := k7.below k0
 obtain ⟨kD, kE, kF, -⟩ := ka.f2
 have kb := k8.below k0
 obtain ⟨kG, kH, kI, -⟩ := kb.f2
 have kc := Lib.hid (F5.out.kp (.of k0))
 have kk := Lib.hid (F6.out.kp (.of k0))
 have kl := Lib.hid (Blw k3.out k0)
 clear k0
 go_wp2_with fail
 obtain ⟨z, hz⟩ : ∃ z, z = cmpZ (I.val a) (I.val b) := ⟨_, rfl⟩
 have hz0 : z < 0 := by rw [hz]; have := HLT.out; unfold cmpZ; rw [if_pos this]; omega
 have k5 := compare_b va vb a b w13 kc.out kk.out HCA.out HCB.out
 rw [← hz] at k5; clear hz
 (with_reducible refine k5.mono ?_)
 clear k5
 rintro e w26 ⟨rfl, k1⟩
 have kd := ka.below k1
 obtain ⟨kJ, kK, kL, -⟩ := kd.f2
 have ke := kb.below k1
 obtain ⟨kM, kN, kO, -⟩ := ke.f2
 have km := Lib.hid (kc.out.kp (.of k1))
 have kn := Lib.hid (Blw kl.out k1)
 clear k1
 go_wp2_with fail
 have kf := of_any false va a w26 km.out HCA.out.1
 (with_reducible refine kf.mono ?_)
 clear kf
 rintro e w39 ⟨r0, r1, rfl, k6, k2⟩
 have kg := kd.below k2
 obtain ⟨ko, kq, kP, -⟩ := kg.f2
 have kh := ke.below k2
 obtain ⟨kr, ks, kQ, -⟩ := kh.f2
 have kt := Lib.hid (Blw kn.out k2)
 have ki := Lib.hid k6
 obtain ⟨o_r0, o_r1⟩ := k6.ones
 clear k6 k2
 go_wp2
 have HZ := Lib.hid (IntV.zero w39)
 have ku := kh.far_ (g' := w.heap.size) (j := 0) (by omega) (.bool false)
 have kv := ku.far_ (g' := w.heap.size) (j := 1) (by omega) (.slice none 0 0)
 have hkp := ((Kp.refl w39).t2 kg (.bool false) (.slice none 0 0)).t2 kv r0 r1
 rw [sg_false] at ki
 refine bodyPost_ret (v := .tuple #[.agg #[.bool false, .slice none 0 0], .agg #[r0, r1]]) (by simp [results, Tryz.results128, go_sem, ko, kq, kr, ks]) rfl ⟨_, _, _, _, rfl, ?_, ?_, bel2 (bel2 (kt.out) (by first | simp | omega)) (by first | simp | omega)⟩
 ·exact HZ.out.kp hkp
 ·exact ki.out.kp hkp
set_option maxRecDepth 100000 in
theorem dvd_short (va vb : Value) (a b : List Int) (w : World) (ha : Sl w va a) (hb : Sl w vb b) (ca : I.Can a) (cb : I.Can b) (hl : a.length ≤ 1000000000000) (hb0 : 0 < I.val b) (h2a : ¬ a.length ≤ 2) (hlt : ¬ I.val a < I.val b) (hb1 : b.length = 1) :
  Calls Tryz.prog 128 #[va, vb] w (RII (I.val a / I.val b) (I.val a % I.val b) w) := by
 have HSA := Lib.hid ha; have HSB := Lib.hid hb; have HCA := Lib.hid ca; have HCB := Lib.hid cb; have kz := Lib.hid hb0
 clear ha hb ca cb hb0
 have HLT := Lib.hid hlt; clear hlt
 obtain ⟨m, rfl⟩ : ∃ m, b = [m] := List.length_eq_one_iff.1 hb1
 obtain ⟨hm0, hm1⟩ := HCB.out.1.head
 have hvm : I.val [m] = m := by simp [I.val]
 have hmp : 0 < m := by have := kz.out; omega
 have HVM := Lib.hid hvm; clear hvm hb1
 obtain ⟨bb, ob, cb2, rfl, _, _, hbb, hcb⟩ := HSB.out.at_ (by simp)
 have HCE := Lib.hid hcb; clear hcb
 go_enter Tryz.func128, Tryz.ntmps128
 go_wp2_with fail
 generalize hW : (w.alloc _).alloc _ = W1
 obtain ⟨ka, kb, hB⟩ := box2 hW
 have k5 := Lib.hid hB; clear hW hB
 have F5 := Lib.hid (HSA.out.kp (.of k5.out))
 have F6 := Lib.hid (HSB.out.kp (.of k5.out))
 obtain ⟨kL, kM, kN, -⟩ := ka.f2
 obtain ⟨kO, kP, kQ, -⟩ := kb.f2
 have k6 := two_any va a W1 F5.out HCA.out.1
 rw [if_neg h2a, decide_eq_false h2a] at k6
 (with_reducible refine k6.mono ?_)
 clear k6
 rintro e w13 ⟨rfl, k0⟩
 have kd := ka.below k0
 obtain ⟨kR, kS, kT, -⟩ := kd.f2
 have ke := kb.below k0
 obtain ⟨kU, kV, kW, -⟩ := ke.f2
 have kf := Lib.hid (F5.out.kp (.of k0))
 have kB := Lib.hid (F6.out.kp (.of k0))
 have kg := Lib.hid (Blw k5.out k0)
 clear k0
 go_wp2_with fail
 obtain ⟨z, hz⟩ : ∃ z, z = cmpZ (I.val a) (I.val [m]) := ⟨_, rfl⟩
 have hz0 : ¬ z < 0 := by rw [hz]; have := HLT.out; unfold cmpZ; rw [if_neg (by omega)]; split <;> omega
 have e26 : w13.cell? ⟨bb, ob, none⟩ = some (.int .i64 m) := HCE.out w13 kg.out 0 m rfl
 have k7 := compare_b va (.slice (some ⟨bb, ob, none⟩) 1 cb2) a [m] w13 kf.out kB.out HCA.out HCB.out
 rw [← hz] at k7; clear hz
 (with_reducible refine k7.mono ?_)
 clear k7
 rintro e w27 ⟨rfl, k1⟩
 have kh := kd.below k1
 obtain ⟨kX, kY, kZ, -⟩ := kh.f2
 have ki := ke.below k1
 obtain ⟨k00, k01, k02, -⟩ := ki.f2
 have kC := Lib.hid (kf.out.kp (.of k1))
 have kj := Lib.hid (Blw kg.out k1)
 have e40 : w27.cell? ⟨bb, ob, none⟩ = some (.int .i64 m) := HCE.out w27 kj.out 0 m rfl
 clear k1
 go_wp2_with fail
 have kk := short_any va a m w27 kC.out HCA.out.1 hl hmp hm1
 (with_reducible refine kk.mono ?_)
 clear kk
 rintro e w41 ⟨vq, q, rest, rfl, hS42, hD42, hL42, hV42, hr0, hr1, k3⟩
 have kl := kh.below k3
 obtain ⟨k03, k04, k05, -⟩ := kl.f2
 have km := ki.below k3
 obtain ⟨k06, k07, k08, -⟩ := km.f2
 have kn := Lib.hid (Blw kj.out k3)
 have e54 : w41.cell? ⟨bb, ob, none⟩ = some (.int .i64 m) := HCE.out w41 kn.out 0 m rfl
 have kD := Lib.hid hS42
 have HDQ := Lib.hid hD42
 have HQV := Lib.hid (quo_of hV42 hr0 hr1)
 have HRV := Lib.hid (rem_of hV42 hr0 hr1)
 clear hS42 hD42 hL42 hV42 k3
 have hw1 : IntKind.u64.wrap rest = rest := by rw [IntKind.wrap_u64]; omega
 go_wp2_with fail
 have ko := of_any false vq q w41 kD.out HDQ.out
 (with_reducible refine ko.mono ?_)
 clear ko
 rintro e w56 ⟨q0, q1, rfl, k8, k4⟩
 have kq := kl.below k4
 obtain ⟨k09, k0a, k0b, -⟩ := kq.f2
 have kr := km.below k4
 obtain ⟨k0c, k0d, k0e, -⟩ := kr.f2
 have ks := Lib.hid (Blw kn.out k4)
 have e70 : w56.cell? ⟨bb, ob, none⟩ = some (.int .i64 m) := HCE.out w56 ks.out 0 m rfl
 have kE := Lib.hid k8
 obtain ⟨o_q0, o_q1⟩ := k8.ones
 clear k8 k4
 go_wp2_with fail
 have kt := unsigned_any false rest w56 hr0 (by omega)
 (with_reducible refine kt.mono ?_)
 clear kt
 rintro e w72 ⟨r0, r1, rfl, k9, k2⟩
 have ku := kq.below k2
 obtain ⟨kF, kG, k0f, -⟩ := ku.f2
 have kv := kr.below k2
 obtain ⟨kH, kI, k0g, -⟩ := kv.f2
 have kw := Lib.hid (kE.out.kp (.of k2))
 have kx := Lib.hid (Blw ks.out k2)
 have e87 : w72.cell? ⟨bb, ob, none⟩ = some (.int .i64 m) := HCE.out w72 kx.out 0 m rfl
 have ky := Lib.hid k9
 obtain ⟨o_r0, o_r1⟩ := k9.ones
 clear k9 k2
 go_wp2
 have kJ := kv.far_ (g' := w.heap.size) (j := 0) (by omega) (q0)
 have kK := kJ.far_ (g' := w.heap.size) (j := 1) (by omega) (q1)
 have hkp := ((Kp.refl w72).t2 ku q0 q1).t2 kK r0 r1
 rw [sg_false, HQV.out, ← HVM.out] at kw
 rw [sg_false, HRV.out, ← HVM.out] at ky
 refine bodyPost_ret (v := .tuple #[.agg #[q0, q1], .agg #[r0, r1]]) (by simp [results, Tryz.results128, go_sem, kF, kG, kH, kI]) rfl ⟨_, _, _, _, rfl, ?_, ?_, bel2 (bel2 (kx.out) (by first | simp | omega)) (by first | simp | omega)⟩
 ·exact kw.out.kp hkp
 ·exact ky.out.kp hkp
set_option maxRecDepth 100000 in
theorem dvd_long (va vb : Value) (a b : List Int) (w : World) (ha : Sl w va a) (hb : Sl w vb b) (ca : I.Can a) (cb : I.Can b) (hl : a.length ≤ 1000000000000) (hb0 : 0 < I.val b) (h2a : ¬ a.length ≤ 2) (hlt : ¬ I.val a < I.val b) (hb2 : 2 ≤ b.length) (hab : b.length ≤ a.length) :
  Calls Tryz.prog 128 #[va, vb] w (RII (I.val a / I.val b) (I.val a % I.val b) w) := by
 have HSA := Lib.hid ha; have HSB := Lib.hid hb; have HCA := Lib.hid ca; have HCB := Lib.hid cb; have kN := Lib.hid hb0
 clear ha hb ca cb hb0
 have HLT := Lib.hid hlt; clear hlt
 have kO : ((b.length : Int) == 1) = false := beq_eq_false_iff_ne.2 (by omega)
 obtain ⟨B, cb, rfl, _, _⟩ := HSB.out.form_
 go_enter Tryz.func128, Tryz.ntmps128
 go_wp2_with fail
 generalize hW : (w.alloc _).alloc _ = W1
 obtain ⟨ka, kb, hB⟩ := box2 hW
 have k5 := Lib.hid hB; clear hW hB
 have F5 := Lib.hid (HSA.out.kp (.of k5.out))
 have F6 := Lib.hid (HSB.out.kp (.of k5.out))
 obtain ⟨kP, kQ, kR, -⟩ := ka.f2
 obtain ⟨kS, kT, kU, -⟩ := kb.f2
 have k6 := two_any va a W1 F5.out HCA.out.1
 rw [if_neg h2a, decide_eq_false h2a] at k6
 (with_reducible refine k6.mono ?_)
 clear k6
 rintro e w13 ⟨rfl, k0⟩
 have kd := ka.below k0
 obtain ⟨kV, kW, kX, -⟩ := kd.f2
 have ke := kb.below k0
 obtain ⟨kY, kZ, k00, -⟩ := ke.f2
 have kf := Lib.hid (F5.out.kp (.of k0))
 have kg := Lib.hid (F6.out.kp (.of k0))
 have kw := Lib.hid (Blw k5.out k0)
 clear k0
 go_wp2_with fail
 obtain ⟨z, hz⟩ : ∃ z, z = cmpZ (I.val a) (I.val b) := ⟨_, rfl⟩
 have hz0 : ¬ z < 0 := by rw [hz]; have := HLT.out; unfold cmpZ; rw [if_neg (by omega)]; split <;> omega
 have k7 := compare_b va (.slice B b.length cb) a b w13 kf.out kg.out HCA.out HCB.out
 rw [← hz] at k7; clear hz
 (with_reducible refine k7.mono ?_)
 clear k7
 rintro e w26 ⟨rfl, k1⟩
 have kh := kd.below k1
 obtain ⟨k01, k02, k03, -⟩ := kh.f2
 have ki := ke.below k1
 obtain ⟨k04, k05, k06, -⟩ := ki.f2
 have kx := Lib.hid (kf.out.kp (.of k1))
 have ky := Lib.hid (kg.out.kp (.of k1))
 have kz := Lib.hid (Blw kw.out k1)
 clear k1
 go_wp2_with fail
 have kj := long_any va (.slice B b.length cb) a b w26 kx.out ky.out HCA.out.1 HCB.out hl hb2 hab
 (with_reducible refine kj.mono ?_)
 clear kj
 rintro e w39 ⟨vq, vr, q, r, rfl, hS40, hD40, hT40, hE40, hV40, hr1, _, _, k4⟩
 have kk := kh.below k4
 obtain ⟨k07, k08, k09, -⟩ := kk.f2
 have kl := ki.below k4
 obtain ⟨k0a, k0b, k0c, -⟩ := kl.f2
 have kA := Lib.hid (Blw kz.out k4)
 have kB := Lib.hid hS40
 have kC := Lib.hid hT40
 have HDQ := Lib.hid hD40
 have HDR := Lib.hid hE40
 have HQV := Lib.hid (quo_of hV40 (I.val_nonneg hE40) hr1)
 have HRV := Lib.hid (rem_of hV40 (I.val_nonneg hE40) hr1)
 clear hS40 hD40 hT40 hE40 hV40 hr1 k4
 go_wp2_with fail
 have km := of_any false vq q w39 kB.out HDQ.out
 (with_reducible refine km.mono ?_)
 clear km
 rintro e w54 ⟨q0, q1, rfl, k8, k2⟩
 have kn := kk.below k2
 obtain ⟨k0d, k0e, k0f, -⟩ := kn.f2
 have ko := kl.below k2
 obtain ⟨k0g, k0h, k0i, -⟩ := ko.f2
 have kD := Lib.hid (kC.out.kp (.of k2))
 have kE := Lib.hid (Blw kA.out k2)
 have kF := Lib.hid k8
 obtain ⟨o_q0, o_q1⟩ := k8.ones
 clear k8 k2
 go_wp2_with fail
 have kq := of_any false vr r w54 kD.out HDR.out
 (with_reducible refine kq.mono ?_)
 clear kq
 rintro e w70 ⟨r0, r1, rfl, k9, k3⟩
 have kr := kn.below k3
 obtain ⟨kG, kH, k0j, -⟩ := kr.f2
 have ks := ko.below k3
 obtain ⟨kI, kJ, k0k, -⟩ := ks.f2
 have kt := Lib.hid (kF.out.kp (.of k3))
 have kK := Lib.hid (Blw kE.out k3)
 have ku := Lib.hid k9
 obtain ⟨o_r0, o_r1⟩ := k9.ones
 clear k9 k3
 go_wp2
 have kL := ks.far_ (g' := w.heap.size) (j := 0) (by omega) (q0)
 have kM := kL.far_ (g' := w.heap.size) (j := 1) (by omega) (q1)
 have hkp := ((Kp.refl w70).t2 kr q0 q1).t2 kM r0 r1
 rw [sg_false, HQV.out] at kt
 rw [sg_false, HRV.out] at ku
 refine bodyPost_ret (v := .tuple #[.agg #[q0, q1], .agg #[r0, r1]]) (by simp [results, Tryz.results128, go_sem, kG, kH, kI, kJ]) rfl ⟨_, _, _, _, rfl, ?_, ?_, bel2 (bel2 (kK.out) (by first | simp | omega)) (by first | simp | omega)⟩
 ·exact kt.out.kp hkp
 ·exact ku.out.kp hkp
theorem divide_any (va vb : Value) (a b : List Int) (w : World) (ha : Sl w va a) (hb : Sl w vb b) (ca : I.Can a) (cb : I.Can b) (hl : a.length ≤ 1000000000000) (hb0 : 0 < I.val b) :
  Calls Tryz.prog 128 #[va, vb] w (RII (I.val a / I.val b) (I.val a % I.val b) w) := by
 have hbn : 1 ≤ b.length := by
  rcases Nat.eq_zero_or_pos b.length with h0 | h0
  ·have := List.eq_nil_of_length_eq_zero h0
   subst this
   simp [I.val] at hb0
  ·exact h0
 by_cases h2a : a.length ≤ 2
 ·by_cases h2b : b.length ≤ 2
  ·exact dvd_two va vb a b w ha hb ca cb hl hb0 h2a h2b
  ·refine dvd_less1 va vb a b w ha hb ca cb hl hb0 h2a h2b ?_
   by_cases hlt : I.val a < I.val b
   ·exact hlt
   ·have := cb.len ca.1 (by omega)
    omega
 ·by_cases hlt : I.val a < I.val b
  ·exact dvd_less0 va vb a b w ha hb ca cb hl hb0 h2a hlt
  ·have hab := cb.len ca.1 (by omega)
   by_cases k0 : b.length = 1
   ·exact dvd_short va vb a b w ha hb ca cb hl hb0 h2a hlt k0
   ·exact dvd_long va vb a b w ha hb ca cb hl hb0 h2a hlt (by omega) hab
end Go.Proofs.YtcfejkpadcccbaaGreat
