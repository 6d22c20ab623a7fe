/-
 THE WALKS of rat.sum and plane.sum.
-/
import Derived.Test.YtonkbckgbfcnkaaMemV
import Derived.Test.YtonkbckgbfcnkaaWalkRAdd
import Derived.Deep.LoopGhost
import Derived.Deep.DeepCutAuto
namespace Go.Proofs.Ytonkbckgbfcnkaa
set_option maxHeartbeats 2000000
open Go.RowKit
attribute [local go_sem] run_store_one
set_option linter.unusedVariables false
theorem bq_zero1 : Bq 1 0 := Bq.zero (by omega)
set_option maxRecDepth 100000 in
theorem psum_any (k : Nat) (v : Value) (l : List Rat) (w : World) (hl : RL w v l) (hb : ∀ (i : Nat) (r : Rat), l[i]? = some r → Bq k r) (hk : (l.length + 1) * (k + 1) + 1 ≤ 1000000000000) :
  Calls Try.prog 46 #[v] w (RR (rsum l) w) := by
 obtain ⟨A, n, c, rfl, rfl, hnc, hcm, hcell⟩ := hl
 have hl0 : RL w (.slice A l.length c) l := ⟨A, _, c, rfl, rfl, hnc, hcm, hcell⟩
 have HL := Lib.hid hl0; have HBQ := Lib.hid hb
 clear hl0 hcell hb
 unfold maxLen at hcm
 go_enter Try.func46, Try.ntmps46
 go_wp2_with fail
 go_loopg [8] (l.length + 1) (fun gk s8 wr => ∃ (i : Nat) (c0 c1 c2 c3 : Value), i + gk = l.length + 1 ∧ s8 = .int .i64 i ∧ i ≤ l.length ∧ Bx wr w.heap.size 26 [.bool false, .slice none 0 0, .bool false, .slice none 0 0] ∧ Bx wr (w.heap.size + 1) 26 [c0, c1, c2, c3] ∧ RatV wr c0 c1 c2 c3 (rsum (l.take i)) ∧ Bq (i * (k + 1) + 1) (rsum (l.take i)) ∧ Below w.heap.size w wr)
 case atStart =>
  refine ⟨0, _, _, _, _, by omega, rfl, by omega, (Bx.at_ rfl).alloc _, Bx.at_ (by simp), ⟨IntV.zero _, IntV.zero _⟩, ?_, ((Below.refl _ _).alloc (by simp) _).alloc (by simp) _⟩
  rw [Nat.zero_mul]
  exact bq_zero1
 case round =>
  obtain ⟨i, c0, c1, c2, c3, hig, rfl, hil, hx2, hx3, hacc, hbq, hbw⟩ := hrel
  obtain ⟨wo, rfl⟩ : ∃ wo : World, wo = wr := ⟨_, rfl⟩
  obtain ⟨o0, o1, o2, o3⟩ := hacc.ones
  have HACC := Lib.hid hacc; have HBI := Lib.hid hbq; have HBW := Lib.hid hbw; have HIG := Lib.hid hig
  clear hacc hbq hbw hig
  obtain ⟨k5, k6, k7, k8, kq, kr⟩ := hx2.f4
  obtain ⟨ks, kt, ku, kv, kw, kx⟩ := hx3.f4
  by_cases hi : i < l.length
  ·skip
   obtain ⟨r, hr⟩ : ∃ r, l[i]? = some r := ⟨_, List.getElem?_eq_getElem hi⟩
   obtain ⟨_, n_, c_, hv, _, _, _, hcell⟩ := HL.out.below HBW.out
   injection hv with hv1 hv2 hv3
   subst hv1
   obtain ⟨b, o, x0, x1, x2, x3, rfl, hbl, q0, q1, q2, q3, hR⟩ := hcell i r hr
   obtain ⟨p0, p1, p2, p3⟩ := hR.ones
   have hid_ := decide_eq_true hi
   have HR := Lib.hid hR; have HRR := Lib.hid hr
   clear hcell hR hr hv2 hv3
   go_wp2_with fail
   generalize hW : wo.alloc _ = W513
   obtain ⟨k2, hB⟩ := box1 hW
   have ky := hx2.lt
   have kz := hx3.lt
   clear hW
   obtain ⟨k9, kA, kB, kC, kD, kE, kF⟩ := hx2.b4 hB
   obtain ⟨ka, kG, kH, kI, kJ, kK, kL⟩ := hx3.b4 hB
   have kb := Lib.hid (HACC.out.kp (.of hB))
   have kc := Lib.hid (HR.out.kp (.of hB))
   have kd := Lib.hid (Blw HBW.out hB)
   clear hB
   obtain ⟨kM, kN, kO, kP, kQ, kR⟩ := k2.f4
   have k3 := radd_any (i * (k + 1) + 1) k c0 c1 c2 c3 x0 x1 x2 x3 (rsum (l.take i)) r W513 kb.out kc.out HBI.out (HBQ.out i r HRR.out) (by have h1 : (i + 1) * (k + 1) ≤ (l.length + 1) * (k + 1) := Nat.mul_le_mul_right _ (by omega); rw [Nat.add_mul] at h1; omega)
   (with_reducible refine k3.mono ?_)
   clear k3
   rintro e w540 ⟨z0, z1, z2, z3, rfl, k1, k0⟩
   obtain ⟨ke, kS, kT, kU, kV, kW, kX⟩ := k9.b4 k0
   obtain ⟨k4, kY, kZ, k00, k01, k02, k03⟩ := ka.b4 k0
   obtain ⟨k04, k05, k06, k07, k08, k09, k0a⟩ := k2.b4 k0
   have kf := Lib.hid (Blw kd.out k0)
   have kg := Lib.hid k1
   obtain ⟨o_z0, o_z1, o_z2, o_z3⟩ := k1.ones
   clear k1 k0
   go_wp2_with fail
   have kh := k4.set_ 0 (z0)
   have ki := ke.far_ (g' := w.heap.size + 1) (j := 0) (by omega) (z0)
   have kj := kh.set_ 1 (z1)
   have kk := ki.far_ (g' := w.heap.size + 1) (j := 1) (by omega) (z1)
   have kl := kj.set_ 2 (z2)
   have km := kk.far_ (g' := w.heap.size + 1) (j := 2) (by omega) (z2)
   have kn := kl.set_ 3 (z3)
   have ko := km.far_ (g' := w.heap.size + 1) (j := 3) (by omega) (z3)
   have hkp := (Kp.refl w540).t4 k4 z0 z1 z2 z3
   go_roundg (l.length - i)
   case measure => have := HIG.out; omega
   case rel =>
    refine ⟨i + 1, z0, z1, z2, z3, by omega, by go_num, by omega, ko, kn, ?_, ?_, bel4 (kf.out) (by first | simp | omega)⟩
    ·rw [rsum_take HRR.out]; exact kg.out.kp hkp
    ·rw [rsum_take HRR.out]
     exact (HBI.out.add (HBQ.out i r HRR.out)).mono (by rw [Nat.add_mul]; omega)
  ·skip
   have hid_ := decide_eq_false hi
   obtain rfl : i = l.length := by omega
   have hac := HACC.out
   rw [List.take_length] at hac
   have HAC := Lib.hid hac
   clear hac
   go_wp2_with fail
   have hkp := (Kp.refl wo).t4 hx2 c0 c1 c2 c3
   refine bodyPost_ret (v := .agg #[c0, c1, c2, c3]) (by simp [results, Try.results46, go_sem, k5, k6, k7, k8]) rfl ⟨_, _, _, _, rfl, ?_, bel4 (HBW.out) (by first | simp | omega)⟩
   exact HAC.out.kp hkp
set_option maxRecDepth 100000 in
theorem rsum_any (k : Nat) (v : Value) (l : List Rat) (w : World) (hl : RL w v l) (hb : ∀ (i : Nat) (r : Rat), l[i]? = some r → Bq k r) (hk : (l.length + 1) * (k + 1) + 1 ≤ 1000000000000) :
  Calls Try.prog 67 #[v] w (RR (rsum l) w) := by
 obtain ⟨A, n, c, rfl, rfl, hnc, hcm, hcell⟩ := hl
 have hl0 : RL w (.slice A l.length c) l := ⟨A, _, c, rfl, rfl, hnc, hcm, hcell⟩
 have HL := Lib.hid hl0; have HBQ := Lib.hid hb
 clear hl0 hcell hb
 unfold maxLen at hcm
 go_enter Try.func67, Try.ntmps67
 go_wp2_with fail
 go_loopg [8] (l.length + 1) (fun gk s8 wr => ∃ (i : Nat) (c0 c1 c2 c3 : Value), i + gk = l.length + 1 ∧ s8 = .int .i64 i ∧ i ≤ l.length ∧ Bx wr w.heap.size 26 [.bool false, .slice none 0 0, .bool false, .slice none 0 0] ∧ Bx wr (w.heap.size + 1) 26 [c0, c1, c2, c3] ∧ RatV wr c0 c1 c2 c3 (rsum (l.take i)) ∧ Bq (i * (k + 1) + 1) (rsum (l.take i)) ∧ Below w.heap.size w wr)
 case atStart =>
  refine ⟨0, _, _, _, _, by omega, rfl, by omega, (Bx.at_ rfl).alloc _, Bx.at_ (by simp), ⟨IntV.zero _, IntV.zero _⟩, ?_, ((Below.refl _ _).alloc (by simp) _).alloc (by simp) _⟩
  rw [Nat.zero_mul]
  exact bq_zero1
 case round =>
  obtain ⟨i, c0, c1, c2, c3, hig, rfl, hil, hx2, hx3, hacc, hbq, hbw⟩ := hrel
  obtain ⟨wo, rfl⟩ : ∃ wo : World, wo = wr := ⟨_, rfl⟩
  obtain ⟨o0, o1, o2, o3⟩ := hacc.ones
  have HACC := Lib.hid hacc; have HBI := Lib.hid hbq; have HBW := Lib.hid hbw; have HIG := Lib.hid hig
  clear hacc hbq hbw hig
  obtain ⟨k5, k6, k7, k8, kq, kr⟩ := hx2.f4
  obtain ⟨ks, kt, ku, kv, kw, kx⟩ := hx3.f4
  by_cases hi : i < l.length
  ·skip
   obtain ⟨r, hr⟩ : ∃ r, l[i]? = some r := ⟨_, List.getElem?_eq_getElem hi⟩
   obtain ⟨_, n_, c_, hv, _, _, _, hcell⟩ := HL.out.below HBW.out
   injection hv with hv1 hv2 hv3
   subst hv1
   obtain ⟨b, o, x0, x1, x2, x3, rfl, hbl, q0, q1, q2, q3, hR⟩ := hcell i r hr
   obtain ⟨p0, p1, p2, p3⟩ := hR.ones
   have hid_ := decide_eq_true hi
   have HR := Lib.hid hR; have HRR := Lib.hid hr
   clear hcell hR hr hv2 hv3
   go_wp2_with fail
   generalize hW : wo.alloc _ = W513
   obtain ⟨k2, hB⟩ := box1 hW
   have ky := hx2.lt
   have kz := hx3.lt
   clear hW
   obtain ⟨k9, kA, kB, kC, kD, kE, kF⟩ := hx2.b4 hB
   obtain ⟨ka, kG, kH, kI, kJ, kK, kL⟩ := hx3.b4 hB
   have kb := Lib.hid (HACC.out.kp (.of hB))
   have kc := Lib.hid (HR.out.kp (.of hB))
   have kd := Lib.hid (Blw HBW.out hB)
   clear hB
   obtain ⟨kM, kN, kO, kP, kQ, kR⟩ := k2.f4
   have k3 := radd_any (i * (k + 1) + 1) k c0 c1 c2 c3 x0 x1 x2 x3 (rsum (l.take i)) r W513 kb.out kc.out HBI.out (HBQ.out i r HRR.out) (by have h1 : (i + 1) * (k + 1) ≤ (l.length + 1) * (k + 1) := Nat.mul_le_mul_right _ (by omega); rw [Nat.add_mul] at h1; omega)
   (with_reducible refine k3.mono ?_)
   clear k3
   rintro e w540 ⟨z0, z1, z2, z3, rfl, k1, k0⟩
   obtain ⟨ke, kS, kT, kU, kV, kW, kX⟩ := k9.b4 k0
   obtain ⟨k4, kY, kZ, k00, k01, k02, k03⟩ := ka.b4 k0
   obtain ⟨k04, k05, k06, k07, k08, k09, k0a⟩ := k2.b4 k0
   have kf := Lib.hid (Blw kd.out k0)
   have kg := Lib.hid k1
   obtain ⟨o_z0, o_z1, o_z2, o_z3⟩ := k1.ones
   clear k1 k0
   go_wp2_with fail
   have kh := k4.set_ 0 (z0)
   have ki := ke.far_ (g' := w.heap.size + 1) (j := 0) (by omega) (z0)
   have kj := kh.set_ 1 (z1)
   have kk := ki.far_ (g' := w.heap.size + 1) (j := 1) (by omega) (z1)
   have kl := kj.set_ 2 (z2)
   have km := kk.far_ (g' := w.heap.size + 1) (j := 2) (by omega) (z2)
   have kn := kl.set_ 3 (z3)
   have ko := km.far_ (g' := w.heap.size + 1) (j := 3) (by omega) (z3)
   have hkp := (Kp.refl w540).t4 k4 z0 z1 z2 z3
   go_roundg (l.length - i)
   case measure => have := HIG.out; omega
   case rel =>
    refine ⟨i + 1, z0, z1, z2, z3, by omega, by go_num, by omega, ko, kn, ?_, ?_, bel4 (kf.out) (by first | simp | omega)⟩
    ·rw [rsum_take HRR.out]; exact kg.out.kp hkp
    ·rw [rsum_take HRR.out]
     exact (HBI.out.add (HBQ.out i r HRR.out)).mono (by rw [Nat.add_mul]; omega)
  ·skip
   have hid_ := decide_eq_false hi
   obtain rfl : i = l.length := by omega
   have hac := HACC.out
   rw [List.take_length] at hac
   have HAC := Lib.hid hac
   clear hac
   go_wp2_with fail
   have hkp := (Kp.refl wo).t4 hx2 c0 c1 c2 c3
   refine bodyPost_ret (v := .agg #[c0, c1, c2, c3]) (by simp [results, Try.results67, go_sem, k5, k6, k7, k8]) rfl ⟨_, _, _, _, rfl, ?_, bel4 (HBW.out) (by first | simp | omega)⟩
   exact HAC.out.kp hkp
end Go.Proofs.Ytonkbckgbfcnkaa
