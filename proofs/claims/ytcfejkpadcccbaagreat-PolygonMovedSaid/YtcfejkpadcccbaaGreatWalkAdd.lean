/-
 THE WALKS of package integer: Add, Sub.
-/
import Derived.Test.YtcfejkpadcccbaaGreatWalkUns
import Derived.Test.YtcfejkpadcccbaaGreatWalkMinus
import Derived.Deep.RegionHeld3
namespace Go.Proofs.YtcfejkpadcccbaaGreat
set_option maxHeartbeats 2000000
open Go.RowKit
attribute [local go_sem] run_store_one
set_option linter.unusedVariables false
set_option maxRecDepth 100000 in
theorem add_same (p : Bool) (va vb : Value) (a b : List Int) (w : World) (ha : Sl w va a) (hb : Sl w vb b) (ca : I.Can a) (cb : I.Can b) (hla : a.length ≤ 1000000000000) (hlb : b.length ≤ 1000000000000) :
  Calls Tryz.prog 81 #[.agg #[.bool p, va], .agg #[.bool p, vb]] w (RI (sg p (I.val a + I.val b)) w) := by
 have HSA := Lib.hid ha; have HSB := Lib.hid hb; have HCA := Lib.hid ca; have HCB := Lib.hid cb
 clear ha hb ca cb
 have hpp : (p == p) = true := by simp
 go_enter Tryz.func81, Tryz.ntmps81
 go_wp2_with fail
 generalize hW : ((w.alloc _).alloc _).alloc _ = W1
 obtain ⟨ka, kb, kc, hB⟩ := box3 hW
 have k7 := Lib.hid hB; clear hW hB
 have F6 := Lib.hid (HSA.out.kp (.of k7.out))
 have F7 := Lib.hid (HSB.out.kp (.of k7.out))
 obtain ⟨km, kn, kz, -⟩ := ka.f2
 obtain ⟨kA, ko, kB, -⟩ := kb.f2
 obtain ⟨kC, kD, kE, -⟩ := kc.f2
 go_region_held3 (fun w' => w'.cell? ⟨w.heap.size, 0, none⟩ = some (.bool p) ∧ w'.cell? ⟨w.heap.size, 1, none⟩ = some (va) ∧ w'.cell? ⟨w.heap.size + 1, 1, none⟩ = some (vb)) (first | exact ⟨km, kn, ko⟩ | exact ⟨kq, kr, ks⟩ | exact ⟨kf, kg, kh⟩ | exact ⟨kset (kset (kf) (by omega)) (by omega), kset (kset (kg) (by omega)) (by omega), kset (kset (kh) (by omega)) (by omega)⟩)
  (first | (go_at_call 115; have ki := plus_any va vb a b W1.drew (F6.out.kp (Kp.refl _).drew) (F7.out.kp (Kp.refl _).drew) HCA.out.1 HCB.out.1 hla hlb; (with_reducible refine ki.mono ?_); clear ki; rintro e w17 ⟨v1, Lv1, rfl, hS18, hP18, k0⟩; have k0 := bdDl k0; have k2 := ka.below k0; have kq := k2.cell (i := 0) rfl; have kr := k2.cell (i := 1) rfl; have kF := k2.frozen; have k3 := kb.below k0; have kG := k3.cell (i := 0) rfl; have ks := k3.cell (i := 1) rfl; have kH := k3.frozen; have k4 := kc.below k0; have kI := k4.cell (i := 0) rfl; have kJ := k4.cell (i := 1) rfl; have kK := k4.frozen; have kt := Lib.hid (F6.out.kp (.of k0)); have ku := Lib.hid (F7.out.kp (.of k0)); have kv := Lib.hid (Blw k7.out k0); have kj := Lib.hid hS18; have Pv1 := Lib.hid hP18; clear hS18 hP18 k0) | (go_at_call 114; have kk := of_any p v1 Lv1 w17 kj.out Pv1.out.1; (with_reducible refine kk.mono ?_); clear kk; rintro e w35 ⟨r0, r1, rfl, k5, k1⟩; have k8 := k2.below k1; have kf := k8.cell (i := 0) rfl; have kg := k8.cell (i := 1) rfl; have kL := k8.frozen; have k9 := k3.below k1; have kM := k9.cell (i := 0) rfl; have kh := k9.cell (i := 1) rfl; have kN := k9.frozen; have k6 := k4.below k1; have kw := k6.cell (i := 0) rfl; have kx := k6.cell (i := 1) rfl; have kO := k6.frozen; have kP := Lib.hid (kt.out.kp (.of k1)); have kQ := Lib.hid (ku.out.kp (.of k1)); have kR := Lib.hid (kj.out.kp (.of k1)); have ky := Lib.hid (Blw kv.out k1); have kl := Lib.hid k5; have o_r0 := k5.one0; have o_r1 := k5.one1; clear k5 k1))
 have hkp := (Kp.refl w35).t2 k6 r0 r1
 go_wp2
 refine bodyPost_ret (v := .agg #[r0, r1]) (by simp [results, Tryz.results81, go_sem, kw, kx]) rfl ⟨_, _, rfl, ?_, bel2 (ky.out) (by first | simp | omega)⟩
 rw [Pv1.out.2.1] at kl
 exact kl.out.kp hkp
set_option maxRecDepth 100000 in
theorem add_lt (p q : Bool) (va vb : Value) (a b : List Int) (w : World) (ha : Sl w va a) (hb : Sl w vb b) (ca : I.Can a) (cb : I.Can b) (hla : a.length ≤ 1000000000000) (hlb : b.length ≤ 1000000000000) (hpq : (p == q) = false) (hlt : I.val a < I.val b) :
  Calls Tryz.prog 81 #[.agg #[.bool p, va], .agg #[.bool q, vb]] w (RI (sg q (I.val b - I.val a)) w) := by
 have HSA := Lib.hid ha; have HSB := Lib.hid hb; have HCA := Lib.hid ca; have HCB := Lib.hid cb
 clear ha hb ca cb
 have HLT := Lib.hid hlt; clear hlt
 go_enter Tryz.func81, Tryz.ntmps81
 go_wp2_with fail
 generalize hW : ((w.alloc _).alloc _).alloc _ = W1
 obtain ⟨kc, kd, ke, hB⟩ := box3 hW
 have k8 := Lib.hid hB; clear hW hB
 have F6 := Lib.hid (HSA.out.kp (.of k8.out))
 have F7 := Lib.hid (HSB.out.kp (.of k8.out))
 obtain ⟨kH, kI, kJ, -⟩ := kc.f2
 obtain ⟨kK, kL, kM, -⟩ := kd.f2
 obtain ⟨kN, kO, kP, -⟩ := ke.f2
 obtain ⟨z, hz⟩ : ∃ z, z = cmpZ (I.val a) (I.val b) := ⟨_, rfl⟩
 have hz0 : z < 0 := by rw [hz]; have := HLT.out; unfold cmpZ; rw [if_pos this]; omega
 have k9 := compare_b va vb a b W1 F6.out F7.out HCA.out HCB.out
 rw [← hz] at k9; clear hz
 (with_reducible refine k9.mono ?_)
 clear k9
 rintro e w17 ⟨rfl, k2⟩
 have kh := kc.below k2
 obtain ⟨kQ, ku, kR, -⟩ := kh.f2
 have ki := kd.below k2
 obtain ⟨kv, kw, kS, -⟩ := ki.f2
 have kj := ke.below k2
 obtain ⟨kT, kU, kV, -⟩ := kj.f2
 have kk := Lib.hid (F6.out.kp (.of k2))
 have kl := Lib.hid (F7.out.kp (.of k2))
 have kx := Lib.hid (Blw k8.out k2)
 clear k2
 go_wp2_with fail
 go_region_held3 (fun w' => w'.cell? ⟨w.heap.size + 1, 0, none⟩ = some (.bool q) ∧ w'.cell? ⟨w.heap.size + 1, 1, none⟩ = some (vb) ∧ w'.cell? ⟨w.heap.size, 1, none⟩ = some (va)) (first | exact ⟨kv, kw, ku⟩ | exact ⟨ky, kz, kA⟩ | exact ⟨km, kn, ko⟩ | exact ⟨kset (kset (km) (by omega)) (by omega), kset (kset (kn) (by omega)) (by omega), kset (kset (ko) (by omega)) (by omega)⟩)
  (first | (go_at_call 117; have kq := minus_any vb va b a w17.drew (kl.out.kp (Kp.refl _).drew) (kk.out.kp (Kp.refl _).drew) HCB.out.1 HCA.out.1 hlb (Int.le_of_lt HLT.out) (HCA.out.len HCB.out.1 (Int.le_of_lt HLT.out)); (with_reducible refine kq.mono ?_); clear kq; rintro e w34 ⟨v1, Lv1, rfl, hS35, hP35, k0⟩; have k0 := bdDl k0; have k3 := kh.below k0; have kW := k3.cell (i := 0) rfl; have kA := k3.cell (i := 1) rfl; have kX := k3.frozen; have k4 := ki.below k0; have ky := k4.cell (i := 0) rfl; have kz := k4.cell (i := 1) rfl; have kY := k4.frozen; have k5 := kj.below k0; have kZ := k5.cell (i := 0) rfl; have k00 := k5.cell (i := 1) rfl; have k01 := k5.frozen; have kB := Lib.hid (kk.out.kp (.of k0)); have kC := Lib.hid (kl.out.kp (.of k0)); have kD := Lib.hid (Blw kx.out k0); have kr := Lib.hid hS35; have Pv1 := Lib.hid hP35; clear hS35 hP35 k0) | (go_at_call 114; have ks := of_any q v1 Lv1 w34 kr.out Pv1.out.1; (with_reducible refine ks.mono ?_); clear ks; rintro e w52 ⟨r0, r1, rfl, k6, k1⟩; have ka := k3.below k1; have k02 := ka.cell (i := 0) rfl; have ko := ka.cell (i := 1) rfl; have k03 := ka.frozen; have kb := k4.below k1; have km := kb.cell (i := 0) rfl; have kn := kb.cell (i := 1) rfl; have k04 := kb.frozen; have k7 := k5.below k1; have kE := k7.cell (i := 0) rfl; have kF := k7.cell (i := 1) rfl; have k05 := k7.frozen; have F66 := Lib.hid (kB.out.kp (.of k1)); have F67 := Lib.hid (kC.out.kp (.of k1)); have F68 := Lib.hid (kr.out.kp (.of k1)); have kG := Lib.hid (Blw kD.out k1); have kt := Lib.hid k6; have o_r0 := k6.one0; have o_r1 := k6.one1; clear k6 k1))
 have hkp := (Kp.refl w52).t2 k7 r0 r1
 go_wp2
 refine bodyPost_ret (v := .agg #[r0, r1]) (by simp [results, Tryz.results81, go_sem, kE, kF]) rfl ⟨_, _, rfl, ?_, bel2 (kG.out) (by first | simp | omega)⟩
 rw [Pv1.out.2.1] at kt
 exact kt.out.kp hkp
set_option maxRecDepth 100000 in
theorem add_ge (p q : Bool) (va vb : Value) (a b : List Int) (w : World) (ha : Sl w va a) (hb : Sl w vb b) (ca : I.Can a) (cb : I.Can b) (hla : a.length ≤ 1000000000000) (hlb : b.length ≤ 1000000000000) (hpq : (p == q) = false) (hlt : ¬ I.val a < I.val b) :
  Calls Tryz.prog 81 #[.agg #[.bool p, va], .agg #[.bool q, vb]] w (RI (sg p (I.val a - I.val b)) w) := by
 have HSA := Lib.hid ha; have HSB := Lib.hid hb; have HCA := Lib.hid ca; have HCB := Lib.hid cb
 clear ha hb ca cb
 have HLT := Lib.hid hlt; clear hlt
 go_enter Tryz.func81, Tryz.ntmps81
 go_wp2_with fail
 generalize hW : ((w.alloc _).alloc _).alloc _ = W1
 obtain ⟨kc, kd, ke, hB⟩ := box3 hW
 have k8 := Lib.hid hB; clear hW hB
 have F6 := Lib.hid (HSA.out.kp (.of k8.out))
 have F7 := Lib.hid (HSB.out.kp (.of k8.out))
 obtain ⟨kH, kI, kJ, -⟩ := kc.f2
 obtain ⟨kK, kL, kM, -⟩ := kd.f2
 obtain ⟨kN, kO, kP, -⟩ := ke.f2
 obtain ⟨z, hz⟩ : ∃ z, z = cmpZ (I.val a) (I.val b) := ⟨_, rfl⟩
 have hz0 : ¬ z < 0 := by rw [hz]; have := HLT.out; unfold cmpZ; rw [if_neg (by omega)]; split <;> omega
 have k9 := compare_b va vb a b W1 F6.out F7.out HCA.out HCB.out
 rw [← hz] at k9; clear hz
 (with_reducible refine k9.mono ?_)
 clear k9
 rintro e w17 ⟨rfl, k2⟩
 have kh := kc.below k2
 obtain ⟨ku, kv, kQ, -⟩ := kh.f2
 have ki := kd.below k2
 obtain ⟨kR, kw, kS, -⟩ := ki.f2
 have kj := ke.below k2
 obtain ⟨kT, kU, kV, -⟩ := kj.f2
 have kk := Lib.hid (F6.out.kp (.of k2))
 have kl := Lib.hid (F7.out.kp (.of k2))
 have kx := Lib.hid (Blw k8.out k2)
 clear k2
 go_wp2_with fail
 go_region_held3 (fun w' => w'.cell? ⟨w.heap.size, 0, none⟩ = some (.bool p) ∧ w'.cell? ⟨w.heap.size, 1, none⟩ = some (va) ∧ w'.cell? ⟨w.heap.size + 1, 1, none⟩ = some (vb)) (first | exact ⟨ku, kv, kw⟩ | exact ⟨ky, kz, kA⟩ | exact ⟨km, kn, ko⟩ | exact ⟨kset (kset (km) (by omega)) (by omega), kset (kset (kn) (by omega)) (by omega), kset (kset (ko) (by omega)) (by omega)⟩)
  (first | (go_at_call 117; have kq := minus_any va vb a b w17.drew (kk.out.kp (Kp.refl _).drew) (kl.out.kp (Kp.refl _).drew) HCA.out.1 HCB.out.1 hla (by have := HLT.out; omega) (HCB.out.len HCA.out.1 (by have := HLT.out; omega)); (with_reducible refine kq.mono ?_); clear kq; rintro e w34 ⟨v1, Lv1, rfl, hS35, hP35, k0⟩; have k0 := bdDl k0; have k3 := kh.below k0; have ky := k3.cell (i := 0) rfl; have kz := k3.cell (i := 1) rfl; have kW := k3.frozen; have k4 := ki.below k0; have kX := k4.cell (i := 0) rfl; have kA := k4.cell (i := 1) rfl; have kY := k4.frozen; have k5 := kj.below k0; have kZ := k5.cell (i := 0) rfl; have k00 := k5.cell (i := 1) rfl; have k01 := k5.frozen; have kB := Lib.hid (kk.out.kp (.of k0)); have kC := Lib.hid (kl.out.kp (.of k0)); have kD := Lib.hid (Blw kx.out k0); have kr := Lib.hid hS35; have Pv1 := Lib.hid hP35; clear hS35 hP35 k0) | (go_at_call 114; have ks := of_any p v1 Lv1 w34 kr.out Pv1.out.1; (with_reducible refine ks.mono ?_); clear ks; rintro e w52 ⟨r0, r1, rfl, k6, k1⟩; have ka := k3.below k1; have km := ka.cell (i := 0) rfl; have kn := ka.cell (i := 1) rfl; have k02 := ka.frozen; have kb := k4.below k1; have k03 := kb.cell (i := 0) rfl; have ko := kb.cell (i := 1) rfl; have k04 := kb.frozen; have k7 := k5.below k1; have kE := k7.cell (i := 0) rfl; have kF := k7.cell (i := 1) rfl; have k05 := k7.frozen; have F66 := Lib.hid (kB.out.kp (.of k1)); have F67 := Lib.hid (kC.out.kp (.of k1)); have F68 := Lib.hid (kr.out.kp (.of k1)); have kG := Lib.hid (Blw kD.out k1); have kt := Lib.hid k6; have o_r0 := k6.one0; have o_r1 := k6.one1; clear k6 k1))
 have hkp := (Kp.refl w52).t2 k7 r0 r1
 go_wp2
 refine bodyPost_ret (v := .agg #[r0, r1]) (by simp [results, Tryz.results81, go_sem, kE, kF]) rfl ⟨_, _, rfl, ?_, bel2 (kG.out) (by first | simp | omega)⟩
 rw [Pv1.out.2.1] at kt
 exact kt.out.kp hkp
theorem iadd_any (k : Nat) (a0 a1 b0 b1 : Value) (x y : Int) (w : World) (hx : IntV w a0 a1 x) (hy : IntV w b0 b1 y) (bx : I.Bd k x) (by_ : I.Bd k y) (hk : k ≤ 1000000000000) :
  Calls Tryz.prog 81 #[.agg #[a0, a1], .agg #[b0, b1]] w (RI (x + y) w) := by
 obtain ⟨a, rfl, sa, ca, va⟩ := hx
 obtain ⟨b, rfl, sb, cb, vb⟩ := hy
 have la := Nat.le_trans (bx.len ca va) hk
 have lb := Nat.le_trans (by_.len cb vb) hk
 by_cases hs : decide (x < 0) = decide (y < 0)
 ·rw [← hs]
  have h := add_same (decide (x < 0)) a1 b1 a b w sa sb ca cb la lb
  have e : sg (decide (x < 0)) (I.val a + I.val b) = x + y := by
   rw [va, vb]
   unfold sg
   by_cases h1 : x < 0 <;> by_cases h2 : y < 0 <;> simp [h1, h2] at hs ⊢ <;> omega
  rwa [e] at h
 ·have hpq : (decide (x < 0) == decide (y < 0)) = false := by simpa using hs
  by_cases hlt : I.val a < I.val b
  ·have h := add_lt _ _ a1 b1 a b w sa sb ca cb la lb hpq hlt
   have e : sg (decide (y < 0)) (I.val b - I.val a) = x + y := by
    rw [va, vb]
    unfold sg
    by_cases h1 : x < 0 <;> by_cases h2 : y < 0 <;> simp [h1, h2] at hs ⊢ <;> omega
   rwa [e] at h
  ·have h := add_ge _ _ a1 b1 a b w sa sb ca cb la lb hpq hlt
   have e : sg (decide (x < 0)) (I.val a - I.val b) = x + y := by
    rw [va, vb]
    unfold sg
    by_cases h1 : x < 0 <;> by_cases h2 : y < 0 <;> simp [h1, h2] at hs ⊢ <;> omega
   rwa [e] at h
end Go.Proofs.YtcfejkpadcccbaaGreat
