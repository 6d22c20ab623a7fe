/-
 THE WALKS of rat.sum and plane.sum.
-/
import Derived.Test.YtonkbckgbfcnkaaMemV
import Derived.Test.YtonkbckgbfcnkaaWalkRAdd
import Derived.Deep.LoopGhost
import Derived.Deep.DeepCutAuto
namespace Go.Proofs.Ytonkbckgbfcnkaa
set_option maxHeartbeats 2000000
open Go.RowKit
attribute [local go_sem] run_store_one
set_option linter.unusedVariables false
theorem bq_zero1 : Bq 1 0 := Bq.zero (by omega)
set_option maxRecDepth 100000 in
theorem psum_any (k : Nat) (v : Value) (l : List Rat) (w : World) (hl : RL w v l) (hb : ∀ (i : Nat) (r : Rat), l[i]? = some r → Bq k r) (hk : (l.length + 1) * (k + 1) + 1 ≤ 1000000000000) :
  Calls Try.prog 46 #[v] w (RR (rsum l) w) := by
 obtain ⟨A, n, c, rfl, rfl, hnc, hcm, hcell⟩ := hl
 have hl0 : RL w (.slice A l.length c) l := ⟨A, _, c, rfl, rfl, hnc, hcm, hcell⟩
 have HL := Lib.hid hl0; have HBQ := Lib.hid hb
 clear hl0 hcell hb
 unfold maxLen at hcm
 go_enter Try.func46, Try.ntmps46
 go_wp2_with fail
 go_loopg [8] (l.length + 1) (fun gk s8 wr => ∃ (i : Nat) (c0 c1 c2 c3 : Value), i + gk = l.length + 1 ∧ s8 = .int .i64 i ∧ i ≤ l.length ∧ Bx wr w.heap.size 26 [.bool false, .slice none 0 0, .bool false, .slice none 0 0] ∧ Bx wr (w.heap.size + 1) 26 [c0, c1, c2, c3] ∧ RatV wr c0 c1 c2 c3 (rsum (l.take i)) ∧ Bq (i * (k + 1) + 1) (rsum (l.take i)) ∧ Below w.heap.size w wr)
 case atStart =>
  refine ⟨0, _, _, _, _, by omega, rfl, by omega, (Bx.at_ rfl).alloc _, Bx.at_ (by simp), ⟨IntV.zero _, IntV.zero _⟩, ?_, ((Below.refl _ _).alloc (by simp) _).alloc (by simp) _⟩
  rw [Nat.zero_mul]
  exact bq_zero1
 case round =>
  obtain ⟨i, c0, c1, c2, c3, hig, rfl, hil, hx2, hx3, hacc, hbq, hbw⟩ := hrel
  obtain ⟨wo, rfl⟩ : ∃ wo : World, wo = wr := ⟨_, rfl⟩
  have o0 := hacc.one0
  have o1 := hacc.one1
  have o2 := hacc.one2
  have o3 := hacc.one3
  have HACC := Lib.hid hacc; have HBI := Lib.hid hbq; have HBW := Lib.hid hbw; have HIG := Lib.hid hig
  clear hacc hbq hbw hig
  obtain ⟨ka, kb, kc, kd, kt, ku⟩ := hx2.f4
  obtain ⟨kv, kw, kx, ky, kz, kA⟩ := hx3.f4
  by_cases hi : i < l.length
  ·skip
   obtain ⟨r, hr⟩ : ∃ r, l[i]? = some r := ⟨_, List.getElem?_eq_getElem hi⟩
   obtain ⟨_, n_, c_, hv, _, _, _, hcell⟩ := HL.out.below HBW.out
   injection hv with hv1 hv2 hv3
   subst hv1
   obtain ⟨b, o, x0, x1, x2, x3, rfl, hbl, q0, q1, q2, q3, hR⟩ := hcell i r hr
   have p0 := hR.one0
   have p1 := hR.one1
   have p2 := hR.one2
   have p3 := hR.one3
   have hid_ := decide_eq_true hi
   have HR := Lib.hid hR; have HRR := Lib.hid hr
   clear hcell hR hr hv2 hv3
   go_wp2_with fail
   obtain ⟨W513, hW⟩ : ∃ W, W = wo.alloc (.cells #[x0, x1, x2, x3] 26) := ⟨_, rfl⟩
   rw [← hW]
   have hB : Below wo.heap.size wo W513 := by rw [hW]; exact (Below.refl _ _).alloc (by simp) _
   have kB := hx2.lt
   have kC := hx3.lt
   have k2 : Bx W513 (wo.heap.size) 26 [x0, x1, x2, x3] := by rw [hW]; exact Bx.at_ rfl
   clear hW
   obtain ⟨ke, kD, kE, kF, kG, kH, kI⟩ := hx2.b4 hB
   obtain ⟨kf, kJ, kK, kL, kM, kN, kO⟩ := hx3.b4 hB
   have kg := Lib.hid (HACC.out.kp (.of hB))
   have kh := Lib.hid (HR.out.kp (.of hB))
   have ki := Lib.hid (Blw HBW.out hB)
   clear hB
   obtain ⟨kP, kQ, kR, kS, kT, kU⟩ := k2.f4
   have k3 := radd_any (i * (k + 1) + 1) k c0 c1 c2 c3 x0 x1 x2 x3 (rsum (l.take i)) r W513 kg.out kh.out HBI.out (HBQ.out i r HRR.out) (by have h1 : (i + 1) * (k + 1) ≤ (l.length + 1) * (k + 1) := Nat.mul_le_mul_right _ (by omega); rw [Nat.add_mul] at h1; omega)
   (with_reducible refine k3.mono ?_)
   clear k3
   rintro e w540 ⟨z0, z1, z2, z3, rfl, k0, k1⟩
   obtain ⟨kj, kV, kW, kX, kY, kZ, k00⟩ := ke.b4 k1
   obtain ⟨k4, k01, k02, k03, k04, k05, k06⟩ := kf.b4 k1
   obtain ⟨k07, k08, k09, k0a, k0b, k0c, k0d⟩ := k2.b4 k1
   have kk := Lib.hid (Blw ki.out k1)
   have kl := Lib.hid k0
   have o_z0 := k0.one0
   have o_z1 := k0.one1
   have o_z2 := k0.one2
   have o_z3 := k0.one3
   clear k0 k1
   go_wp2_with fail
   have k5 := k4.set_ 0 (z0)
   have km := kj.far_ (g' := w.heap.size + 1) (j := 0) (by omega) (z0)
   have k6 := k5.set_ 1 (z1)
   have kn := km.far_ (g' := w.heap.size + 1) (j := 1) (by omega) (z1)
   have k7 := k6.set_ 2 (z2)
   have ko := kn.far_ (g' := w.heap.size + 1) (j := 2) (by omega) (z2)
   have kq := k7.set_ 3 (z3)
   have kr := ko.far_ (g' := w.heap.size + 1) (j := 3) (by omega) (z3)
   have hkp : Kp w540 ((((w540.setCell ⟨w.heap.size + 1, 0, none⟩ (z0)).setCell ⟨w.heap.size + 1, 1, none⟩ (z1)).setCell ⟨w.heap.size + 1, 2, none⟩ (z2)).setCell ⟨w.heap.size + 1, 3, none⟩ (z3)) := ((((Kp.refl _).set_ k4 (by decide) _).set_ k5 (by decide) _).set_ k6 (by decide) _).set_ k7 (by decide) _
   go_roundg (l.length - i)
   case measure => have := HIG.out; omega
   case rel =>
    refine ⟨i + 1, z0, z1, z2, z3, by omega, by go_num, by omega, kr, kq, ?_, ?_, ((((kk.out).setCell (by simp <;> omega) _).setCell (by simp <;> omega) _).setCell (by simp <;> omega) _).setCell (by simp <;> omega) _⟩
    ·rw [rsum_take HRR.out]; exact kl.out.kp hkp
    ·rw [rsum_take HRR.out]
     exact (HBI.out.add (HBQ.out i r HRR.out)).mono (by rw [Nat.add_mul]; omega)
  ·skip
   have hid_ := decide_eq_false hi
   obtain rfl : i = l.length := by omega
   have hac := HACC.out
   rw [List.take_length] at hac
   have HAC := Lib.hid hac
   clear hac
   go_wp2_with fail
   have k8 := hx2.set_ 0 (c0)
   have k9 := k8.set_ 1 (c1)
   have ks := k9.set_ 2 (c2)
   have hkp : Kp wo ((((wo.setCell ⟨w.heap.size, 0, none⟩ (c0)).setCell ⟨w.heap.size, 1, none⟩ (c1)).setCell ⟨w.heap.size, 2, none⟩ (c2)).setCell ⟨w.heap.size, 3, none⟩ (c3)) := ((((Kp.refl _).set_ hx2 (by decide) _).set_ k8 (by decide) _).set_ k9 (by decide) _).set_ ks (by decide) _
   refine bodyPost_ret (v := .agg #[c0, c1, c2, c3]) (by simp [results, Try.results46, go_sem, ka, kb, kc, kd]) rfl ⟨_, _, _, _, rfl, ?_, ((((HBW.out).setCell (by simp) _).setCell (by simp) _).setCell (by simp) _).setCell (by simp) _⟩
   exact HAC.out.kp hkp
set_option maxRecDepth 100000 in
theorem rsum_any (k : Nat) (v : Value) (l : List Rat) (w : World) (hl : RL w v l) (hb : ∀ (i : Nat) (r : Rat), l[i]? = some r → Bq k r) (hk : (l.length + 1) * (k + 1) + 1 ≤ 1000000000000) :
  Calls Try.prog 67 #[v] w (RR (rsum l) w) := by
 obtain ⟨A, n, c, rfl, rfl, hnc, hcm, hcell⟩ := hl
 have hl0 : RL w (.slice A l.length c) l := ⟨A, _, c, rfl, rfl, hnc, hcm, hcell⟩
 have HL := Lib.hid hl0; have HBQ := Lib.hid hb
 clear hl0 hcell hb
 unfold maxLen at hcm
 go_enter Try.func67, Try.ntmps67
 go_wp2_with fail
 go_loopg [8] (l.length + 1) (fun gk s8 wr => ∃ (i : Nat) (c0 c1 c2 c3 : Value), i + gk = l.length + 1 ∧ s8 = .int .i64 i ∧ i ≤ l.length ∧ Bx wr w.heap.size 26 [.bool false, .slice none 0 0, .bool false, .slice none 0 0] ∧ Bx wr (w.heap.size + 1) 26 [c0, c1, c2, c3] ∧ RatV wr c0 c1 c2 c3 (rsum (l.take i)) ∧ Bq (i * (k + 1) + 1) (rsum (l.take i)) ∧ Below w.heap.size w wr)
 case atStart =>
  refine ⟨0, _, _, _, _, by omega, rfl, by omega, (Bx.at_ rfl).alloc _, Bx.at_ (by simp), ⟨IntV.zero _, IntV.zero _⟩, ?_, ((Below.refl _ _).alloc (by simp) _).alloc (by simp) _⟩
  rw [Nat.zero_mul]
  exact bq_zero1
 case round =>
  obtain ⟨i, c0, c1, c2, c3, hig, rfl, hil, hx2, hx3, hacc, hbq, hbw⟩ := hrel
  obtain ⟨wo, rfl⟩ : ∃ wo : World, wo = wr := ⟨_, rfl⟩
  have o0 := hacc.one0
  have o1 := hacc.one1
  have o2 := hacc.one2
  have o3 := hacc.one3
  have HACC := Lib.hid hacc; have HBI := Lib.hid hbq; have HBW := Lib.hid hbw; have HIG := Lib.hid hig
  clear hacc hbq hbw hig
  obtain ⟨ka, kb, kc, kd, kt, ku⟩ := hx2.f4
  obtain ⟨kv, kw, kx, ky, kz, kA⟩ := hx3.f4
  by_cases hi : i < l.length
  ·skip
   obtain ⟨r, hr⟩ : ∃ r, l[i]? = some r := ⟨_, List.getElem?_eq_getElem hi⟩
   obtain ⟨_, n_, c_, hv, _, _, _, hcell⟩ := HL.out.below HBW.out
   injection hv with hv1 hv2 hv3
   subst hv1
   obtain ⟨b, o, x0, x1, x2, x3, rfl, hbl, q0, q1, q2, q3, hR⟩ := hcell i r hr
   have p0 := hR.one0
   have p1 := hR.one1
   have p2 := hR.one2
   have p3 := hR.one3
   have hid_ := decide_eq_true hi
   have HR := Lib.hid hR; have HRR := Lib.hid hr
   clear hcell hR hr hv2 hv3
   go_wp2_with fail
   obtain ⟨W513, hW⟩ : ∃ W, W = wo.alloc (.cells #[x0, x1, x2, x3] 26) := ⟨_, rfl⟩
   rw [← hW]
   have hB : Below wo.heap.size wo W513 := by rw [hW]; exact (Below.refl _ _).alloc (by simp) _
   have kB := hx2.lt
   have kC := hx3.lt
   have k2 : Bx W513 (wo.heap.size) 26 [x0, x1, x2, x3] := by rw [hW]; exact Bx.at_ rfl
   clear hW
   obtain ⟨ke, kD, kE, kF, kG, kH, kI⟩ := hx2.b4 hB
   obtain ⟨kf, kJ, kK, kL, kM, kN, kO⟩ := hx3.b4 hB
   have kg := Lib.hid (HACC.out.kp (.of hB))
   have kh := Lib.hid (HR.out.kp (.of hB))
   have ki := Lib.hid (Blw HBW.out hB)
   clear hB
   obtain ⟨kP, kQ, kR, kS, kT, kU⟩ := k2.f4
   have k3 := radd_any (i * (k + 1) + 1) k c0 c1 c2 c3 x0 x1 x2 x3 (rsum (l.take i)) r W513 kg.out kh.out HBI.out (HBQ.out i r HRR.out) (by have h1 : (i + 1) * (k + 1) ≤ (l.length + 1) * (k + 1) := Nat.mul_le_mul_right _ (by omega); rw [Nat.add_mul] at h1; omega)
   (with_reducible refine k3.mono ?_)
   clear k3
   rintro e w540 ⟨z0, z1, z2, z3, rfl, k0, k1⟩
   obtain ⟨kj, kV, kW, kX, kY, kZ, k00⟩ := ke.b4 k1
   obtain ⟨k4, k01, k02, k03, k04, k05, k06⟩ := kf.b4 k1
   obtain ⟨k07, k08, k09, k0a, k0b, k0c, k0d⟩ := k2.b4 k1
   have kk := Lib.hid (Blw ki.out k1)
   have kl := Lib.hid k0
   have o_z0 := k0.one0
   have o_z1 := k0.one1
   have o_z2 := k0.one2
   have o_z3 := k0.one3
   clear k0 k1
   go_wp2_with fail
   have k5 := k4.set_ 0 (z0)
   have km := kj.far_ (g' := w.heap.size + 1) (j := 0) (by omega) (z0)
   have k6 := k5.set_ 1 (z1)
   have kn := km.far_ (g' := w.heap.size + 1) (j := 1) (by omega) (z1)
   have k7 := k6.set_ 2 (z2)
   have ko := kn.far_ (g' := w.heap.size + 1) (j := 2) (by omega) (z2)
   have kq := k7.set_ 3 (z3)
   have kr := ko.far_ (g' := w.heap.size + 1) (j := 3) (by omega) (z3)
   have hkp : Kp w540 ((((w540.setCell ⟨w.heap.size + 1, 0, none⟩ (z0)).setCell ⟨w.heap.size + 1, 1, none⟩ (z1)).setCell ⟨w.heap.size + 1, 2, none⟩ (z2)).setCell ⟨w.heap.size + 1, 3, none⟩ (z3)) := ((((Kp.refl _).set_ k4 (by decide) _).set_ k5 (by decide) _).set_ k6 (by decide) _).set_ k7 (by decide) _
   go_roundg (l.length - i)
   case measure => have := HIG.out; omega
   case rel =>
    refine ⟨i + 1, z0, z1, z2, z3, by omega, by go_num, by omega, kr, kq, ?_, ?_, ((((kk.out).setCell (by simp <;> omega) _).setCell (by simp <;> omega) _).setCell (by simp <;> omega) _).setCell (by simp <;> omega) _⟩
    ·rw [rsum_take HRR.out]; exact kl.out.kp hkp
    ·rw [rsum_take HRR.out]
     exact (HBI.out.add (HBQ.out i r HRR.out)).mono (by rw [Nat.add_mul]; omega)
  ·skip
   have hid_ := decide_eq_false hi
   obtain rfl : i = l.length := by omega
   have hac := HACC.out
   rw [List.take_length] at hac
   have HAC := Lib.hid hac
   clear hac
   go_wp2_with fail
   have k8 := hx2.set_ 0 (c0)
   have k9 := k8.set_ 1 (c1)
   have ks := k9.set_ 2 (c2)
   have hkp : Kp wo ((((wo.setCell ⟨w.heap.size, 0, none⟩ (c0)).setCell ⟨w.heap.size, 1, none⟩ (c1)).setCell ⟨w.heap.size, 2, none⟩ (c2)).setCell ⟨w.heap.size, 3, none⟩ (c3)) := ((((Kp.refl _).set_ hx2 (by decide) _).set_ k8 (by decide) _).set_ k9 (by decide) _).set_ ks (by decide) _
   refine bodyPost_ret (v := .agg #[c0, c1, c2, c3]) (by simp [results, Try.results67, go_sem, ka, kb, kc, kd]) rfl ⟨_, _, _, _, rfl, ?_, ((((HBW.out).setCell (by simp) _).setCell (by simp) _).setCell (by simp) _).setCell (by simp) _⟩
   exact HAC.out.kp hkp
end Go.Proofs.Ytonkbckgbfcnkaa
