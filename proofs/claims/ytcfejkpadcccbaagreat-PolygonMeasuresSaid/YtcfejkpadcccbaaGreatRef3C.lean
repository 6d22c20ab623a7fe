/-
 THE WALKS of the reference of package integer: Neg, Compare, Sign, Add, Mul.
-/
import Derived.Test.YtcfejkpadcccbaaGreatRef3B
import Derived.Test.YtcfejkpadcccbaaGreatWalkUns
import Derived.Test.YtcfejkpadcccbaaGreatWalkAdd
import Derived.Test.YtcfejkpadcccbaaGreatEnK
import Derived.Deep.RegionHeld3
import Derived.Deep.DeepCutAuto
import Derived.BigRegion
namespace Go.Proofs.YtcfejkpadcccbaaGreat
set_option maxHeartbeats 4000000
open Go.RowKit
attribute [local go_sem] run_store_one
set_option linter.unusedVariables false
theorem plus3_w (va vb : Value) (a b : List Int) (w : World) (ha : Sl w va a) (hb : Sl w vb b) (da : I.Dig a) (db : I.Dig b) (hla : a.length ≤ 1000000000000) (hlb : b.length ≤ 1000000000000) :
  Calls Tryz.prog 131 #[va, vb] w (RS (fun l => I.Dig l ∧ I.val l = I.val a + I.val b ∧ True) w) :=
 (plus3_any va vb a b w ha hb da db (by omega)).mono fun _ _ ⟨v, l, h1, h2, h3, h4⟩ => ⟨v, l, h1, h2, ⟨h3.1, h3.2, trivial⟩, h4⟩
theorem minus3_w (va vb : Value) (a b : List Int) (w : World) (ha : Sl w va a) (hb : Sl w vb b) (da : I.Dig a) (db : I.Dig b) (hl : a.length ≤ 1000000000000) (hle : I.val b ≤ I.val a) (hab : b.length ≤ a.length) :
  Calls Tryz.prog 133 #[va, vb] w (RS (fun l => I.Dig l ∧ I.val l = I.val a - I.val b ∧ True) w) :=
 (minus3_any va vb a b w ha hb da db hl hab hle).mono fun _ _ ⟨v, l, h1, h2, h3, h4⟩ => ⟨v, l, h1, h2, ⟨h3.1, h3.2, trivial⟩, h4⟩
theorem sg_not {x : Int} : sg (!decide (x < 0)) (x.natAbs : Int) = -x := by
 unfold sg
 by_cases h : x < 0 <;> simp [h] <;> omega
set_option maxRecDepth 100000 in
theorem rneg3_any (a0 a1 : Value) (x : Int) (w : World) (hx : IntV w a0 a1 x) : Calls Tryz.prog 123 #[.agg #[a0, a1]] w (RI (-x) w) := by
 obtain ⟨l, rfl, hs, hc, hv⟩ := hx
 obtain ⟨p, hp⟩ : ∃ p, p = decide (x < 0) := ⟨_, rfl⟩
 rw [← hp]
 have hq : sg (!p) (I.val l) = -x := by rw [hp, hv]; exact sg_not
 rw [← hq]
 obtain ⟨A, c, rfl, _, _⟩ := hs.form_
 have HS := Lib.hid hs; have HC_ := Lib.hid hc
 clear hs hc hv hp hq
 go_enter Tryz.func123, Tryz.ntmps123
 go_wp2_with fail
 generalize hW : (w.alloc _).alloc _ = W1
 obtain ⟨k2, k3, hB⟩ := box2 hW
 have k4 := Lib.hid hB; clear hW hB
 have F5 := Lib.hid (HS.out.kp (.of k4.out))
 obtain ⟨kc, kd, ke, l9⟩ := k2.f2
 obtain ⟨kg, kh, ki, kj⟩ := k3.f2
 have k5 := normal_any (!p) (.slice A l.length c) l W1 F5.out HC_.out.1
 (with_reducible refine k5.mono ?_)
 clear k5
 rintro e w14 ⟨r0, r1, rfl, k1, k0⟩
 obtain ⟨kk, kl, km, kn, ko⟩ := k2.b2 k0
 obtain ⟨k7, k8, k9, kq, kr⟩ := k3.b2 k0
 have ka := Lib.hid (Blw k4.out k0)
 have kb := Lib.hid k1
 obtain ⟨o_r0, o_r1⟩ := k1.ones
 clear k1 k0
 go_wp2
 have hkp := (Kp.refl w14).t2 k7 r0 r1
 refine bodyPost_ret (v := .agg #[r0, r1]) (by simp [results, Tryz.results123, go_sem, k8, k9]) rfl ⟨_, _, rfl, ?_, bel2 (ka.out) (by first | simp | omega)⟩
 exact kb.out.kp hkp
set_option maxRecDepth 100000 in
theorem cmp3_0 (va vb : Value) (a b : List Int) (w : World) (ha : Sl w va a) (hb : Sl w vb b) (ca : I.Can a) (cb : I.Can b) :
  Calls Tryz.prog 112 #[.agg #[.bool true, va], .agg #[.bool false, vb]] w fun e w' => e = .returned (.int .i64 (-1)) ∧ Below w.heap.size w w' := by
 obtain ⟨A, c, rfl, _, _⟩ := ha.form_
 obtain ⟨B, d, rfl, _, _⟩ := hb.form_
 have HA := Lib.hid ha; have HB_ := Lib.hid hb; have HCA := Lib.hid ca; have HCB := Lib.hid cb
 clear ha hb ca cb
 go_enter Tryz.func112, Tryz.ntmps112
 go_wp2
 go_ret
 exact ⟨rfl, ((Below.refl _ _).alloc (by simp) _).alloc (by simp) _⟩
set_option maxRecDepth 100000 in
theorem cmp3_1 (va vb : Value) (a b : List Int) (w : World) (ha : Sl w va a) (hb : Sl w vb b) (ca : I.Can a) (cb : I.Can b) :
  Calls Tryz.prog 112 #[.agg #[.bool false, va], .agg #[.bool true, vb]] w fun e w' => e = .returned (.int .i64 (1)) ∧ Below w.heap.size w w' := by
 obtain ⟨A, c, rfl, _, _⟩ := ha.form_
 obtain ⟨B, d, rfl, _, _⟩ := hb.form_
 have HA := Lib.hid ha; have HB_ := Lib.hid hb; have HCA := Lib.hid ca; have HCB := Lib.hid cb
 clear ha hb ca cb
 go_enter Tryz.func112, Tryz.ntmps112
 go_wp2
 go_ret
 exact ⟨rfl, ((Below.refl _ _).alloc (by simp) _).alloc (by simp) _⟩
set_option maxRecDepth 100000 in
theorem cmp3_2 (va vb : Value) (a b : List Int) (w : World) (ha : Sl w va a) (hb : Sl w vb b) (ca : I.Can a) (cb : I.Can b) :
  Calls Tryz.prog 112 #[.agg #[.bool true, va], .agg #[.bool true, vb]] w fun e w' => e = .returned (.int .i64 (cmpZ (I.val b) (I.val a))) ∧ Below w.heap.size w w' := by
 obtain ⟨A, c, rfl, _, _⟩ := ha.form_
 obtain ⟨B, d, rfl, _, _⟩ := hb.form_
 have HA := Lib.hid ha; have HB_ := Lib.hid hb; have HCA := Lib.hid ca; have HCB := Lib.hid cb
 clear ha hb ca cb
 go_enter Tryz.func112, Tryz.ntmps112
 go_wp2_with fail
 generalize hW : (w.alloc _).alloc _ = W1
 obtain ⟨k2, k3, hB⟩ := box2 hW
 have k1 := Lib.hid hB; clear hW hB
 have F5 := Lib.hid (HA.out.kp (.of k1.out))
 have F6 := Lib.hid (HB_.out.kp (.of k1.out))
 obtain ⟨k8, k9, ka, kb⟩ := k2.f2
 obtain ⟨kc, kd, ke, kf⟩ := k3.f2
 have k4 := compared_b (.slice B b.length d) (.slice A a.length c) b a W1 F6.out F5.out HCB.out HCA.out
 (with_reducible refine k4.mono ?_)
 clear k4
 rintro e w15 ⟨rfl, k0⟩
 obtain ⟨kg, kh, ki, kj, kk⟩ := k2.b2 k0
 obtain ⟨kl, km, kn, ko, kq⟩ := k3.b2 k0
 have k7 := Lib.hid (Blw k1.out k0)
 clear k0
 go_wp2
 go_ret
 exact ⟨rfl, k7.out⟩
set_option maxRecDepth 100000 in
theorem cmp3_3 (va vb : Value) (a b : List Int) (w : World) (ha : Sl w va a) (hb : Sl w vb b) (ca : I.Can a) (cb : I.Can b) :
  Calls Tryz.prog 112 #[.agg #[.bool false, va], .agg #[.bool false, vb]] w fun e w' => e = .returned (.int .i64 (cmpZ (I.val a) (I.val b))) ∧ Below w.heap.size w w' := by
 obtain ⟨A, c, rfl, _, _⟩ := ha.form_
 obtain ⟨B, d, rfl, _, _⟩ := hb.form_
 have HA := Lib.hid ha; have HB_ := Lib.hid hb; have HCA := Lib.hid ca; have HCB := Lib.hid cb
 clear ha hb ca cb
 go_enter Tryz.func112, Tryz.ntmps112
 go_wp2_with fail
 generalize hW : (w.alloc _).alloc _ = W1
 obtain ⟨k2, k3, hB⟩ := box2 hW
 have k1 := Lib.hid hB; clear hW hB
 have F5 := Lib.hid (HA.out.kp (.of k1.out))
 have F6 := Lib.hid (HB_.out.kp (.of k1.out))
 obtain ⟨k8, k9, ka, kb⟩ := k2.f2
 obtain ⟨kc, kd, ke, kf⟩ := k3.f2
 have k4 := compared_b (.slice A a.length c) (.slice B b.length d) a b W1 F5.out F6.out HCA.out HCB.out
 (with_reducible refine k4.mono ?_)
 clear k4
 rintro e w15 ⟨rfl, k0⟩
 obtain ⟨kg, kh, ki, kj, kk⟩ := k2.b2 k0
 obtain ⟨kl, km, kn, ko, kq⟩ := k3.b2 k0
 have k7 := Lib.hid (Blw k1.out k0)
 clear k0
 go_wp2
 go_ret
 exact ⟨rfl, k7.out⟩
theorem rcmp3_any (a0 a1 b0 b1 : Value) (x y : Int) (w : World) (hx : IntV w a0 a1 x) (hy : IntV w b0 b1 y) :
  Calls Tryz.prog 112 #[.agg #[a0, a1], .agg #[b0, b1]] w fun e w' => e = .returned (.int .i64 (cmpZ x y)) ∧ Below w.heap.size w w' := by
 obtain ⟨a, rfl, sa, ca, va⟩ := hx
 obtain ⟨b, rfl, sb, cb, vb⟩ := hy
 by_cases h1 : x < 0 <;> by_cases h2 : y < 0
 ·have h := cmp3_2 a1 b1 a b w sa sb ca cb
  rw [va, vb] at h
  have e : cmpZ (y.natAbs : Int) (x.natAbs : Int) = cmpZ x y := by
   unfold cmpZ
   by_cases h3 : x < y
   ·rw [if_pos (by omega), if_pos h3]
   ·by_cases h4 : y < x
    ·rw [if_neg (by omega), if_pos (by omega), if_neg (by omega), if_pos h4]
    ·rw [if_neg (by omega), if_neg (by omega), if_neg (by omega), if_neg (by omega)]
  rw [e] at h
  rw [decide_eq_true h1, decide_eq_true h2]
  exact h
 ·have h := cmp3_0 a1 b1 a b w sa sb ca cb
  rw [decide_eq_true h1, decide_eq_false h2, cmpZ_lt (by omega)]
  exact h
 ·have h := cmp3_1 a1 b1 a b w sa sb ca cb
  rw [decide_eq_false h1, decide_eq_true h2, cmpZ_gt (by omega)]
  exact h
 ·have h := cmp3_3 a1 b1 a b w sa sb ca cb
  rw [va, vb] at h
  have e : cmpZ (x.natAbs : Int) (y.natAbs : Int) = cmpZ x y := by
   rw [show (x.natAbs : Int) = x by omega, show (y.natAbs : Int) = y by omega]
  rw [e] at h
  rw [decide_eq_false h1, decide_eq_false h2]
  exact h
set_option maxRecDepth 100000 in
theorem rsign3_any (a0 a1 : Value) (x : Int) (w : World) (hx : IntV w a0 a1 x) : Calls Tryz.prog 100 #[.agg #[a0, a1]] w fun e w' => e = .returned (.int .i64 (sgnZ x)) ∧ Below w.heap.size w w' := by
 obtain ⟨o0, o1⟩ := hx.ones
 have HX := Lib.hid hx
 clear hx
 go_enter Tryz.func100, Tryz.ntmps100
 go_wp2_with fail
 generalize hW : w.alloc _ = W1
 obtain ⟨k1, hB⟩ := box1 hW
 have k2 := Lib.hid hB; clear hW hB
 have F4 := Lib.hid (HX.out.kp (.of k2.out))
 obtain ⟨k6, k7, k8, l8⟩ := k1.f2
 have k3 := rcmp3_any a0 a1 (.bool false) (.slice none 0 0) x 0 W1 F4.out (IntV.zero _)
 (with_reducible refine k3.mono ?_)
 clear k3
 rintro e w9 ⟨rfl, k0⟩
 obtain ⟨ka, kb, kc, kd, ke⟩ := k1.b2 k0
 have k5 := Lib.hid (Blw k2.out k0)
 clear k0
 go_wp2
 go_ret
 exact ⟨rfl, k5.out⟩
set_option maxRecDepth 100000 in
theorem add3_same (p : Bool) (va vb : Value) (a b : List Int) (w : World) (ha : Sl w va a) (hb : Sl w vb b) (ca : I.Can a) (cb : I.Can b) (hla : a.length ≤ 1000000000000) (hlb : b.length ≤ 1000000000000) :
  Calls Tryz.prog 109 #[.agg #[.bool p, va], .agg #[.bool p, vb]] w (RI (sg p (I.val a + I.val b)) w) := by
 have HSA := Lib.hid ha; have HSB := Lib.hid hb; have HCA := Lib.hid ca; have HCB := Lib.hid cb
 clear ha hb ca cb
 have hpp : (p == p) = true := by simp
 go_enter Tryz.func109, Tryz.ntmps109
 go_wp2_with fail
 generalize hW : ((w.alloc _).alloc _).alloc _ = W1
 obtain ⟨ka, kb, kc, hB⟩ := box3 hW
 have k9 := Lib.hid hB; clear hW hB
 have F6 := Lib.hid (HSA.out.kp (.of k9.out))
 have F7 := Lib.hid (HSB.out.kp (.of k9.out))
 obtain ⟨km, kn, kz, kA⟩ := ka.f2
 obtain ⟨kB, ko, kC, kD⟩ := kb.f2
 obtain ⟨kE, kF, kG, kH⟩ := kc.f2
 go_region_held3 (fun w' => w'.cell? ⟨w.heap.size, 0, none⟩ = some (.bool p) ∧ w'.cell? ⟨w.heap.size, 1, none⟩ = some (va) ∧ w'.cell? ⟨w.heap.size + 1, 1, none⟩ = some (vb)) (first | exact ⟨km, kn, ko⟩ | exact ⟨kq, kr, ks⟩ | exact ⟨kf, kg, kh⟩ | exact ⟨kset (kset (kf) (by omega)) (by omega), kset (kset (kg) (by omega)) (by omega), kset (kset (kh) (by omega)) (by omega)⟩)
  (first | (go_at_call 131; have ki := plus3_w va vb a b W1.drew (F6.out.kp (Kp.refl _).drew) (F7.out.kp (Kp.refl _).drew) HCA.out.1 HCB.out.1 hla hlb; (with_reducible refine ki.mono ?_); clear ki; rintro e w20 ⟨v1, Lv1, rfl, hS21, hP21, k0⟩; have k0 := bdDl k0; have k2 := ka.below k0; have kq := k2.cell (i := 0) rfl; have kr := k2.cell (i := 1) rfl; have kI := k2.frozen; have kJ := k2.lt; have k3 := kb.below k0; have kK := k3.cell (i := 0) rfl; have ks := k3.cell (i := 1) rfl; have kL := k3.frozen; have kM := k3.lt; have k4 := kc.below k0; have kN := k4.cell (i := 0) rfl; have kO := k4.cell (i := 1) rfl; have kP := k4.frozen; have kQ := k4.lt; have kt := Lib.hid (F6.out.kp (.of k0)); have ku := Lib.hid (F7.out.kp (.of k0)); have kv := Lib.hid (Blw k9.out k0); have kj := Lib.hid hS21; have Pv1 := Lib.hid hP21; clear hS21 hP21 k0) | (go_at_call 124; have kk := normal_any p v1 Lv1 w20 kj.out Pv1.out.1; (with_reducible refine kk.mono ?_); clear kk; rintro e w41 ⟨r0, r1, rfl, k6, k1⟩; have k7 := k2.below k1; have kf := k7.cell (i := 0) rfl; have kg := k7.cell (i := 1) rfl; have kR := k7.frozen; have kS := k7.lt; have k8 := k3.below k1; have kT := k8.cell (i := 0) rfl; have kh := k8.cell (i := 1) rfl; have kU := k8.frozen; have kV := k8.lt; have k5 := k4.below k1; have kw := k5.cell (i := 0) rfl; have kx := k5.cell (i := 1) rfl; have kW := k5.frozen; have kX := k5.lt; have kY := Lib.hid (kt.out.kp (.of k1)); have kZ := Lib.hid (ku.out.kp (.of k1)); have F60 := Lib.hid (kj.out.kp (.of k1)); have ky := Lib.hid (Blw kv.out k1); have kl := Lib.hid k6; have o_r0 := k6.one0; have o_r1 := k6.one1; clear k6 k1))
 have hkp := (Kp.refl w41).t2 k5 r0 r1
 go_wp2
 refine bodyPost_ret (v := .agg #[r0, r1]) (by simp [results, Tryz.results109, go_sem, kw, kx]) rfl ⟨_, _, rfl, ?_, bel2 (ky.out) (by first | simp | omega)⟩
 rw [Pv1.out.2.1] at kl
 exact kl.out.kp hkp
set_option maxRecDepth 100000 in
theorem add3_lt (p q : Bool) (va vb : Value) (a b : List Int) (w : World) (ha : Sl w va a) (hb : Sl w vb b) (ca : I.Can a) (cb : I.Can b) (hla : a.length ≤ 1000000000000) (hlb : b.length ≤ 1000000000000) (hpq : (p == q) = false) (hlt : I.val a < I.val b) :
  Calls Tryz.prog 109 #[.agg #[.bool p, va], .agg #[.bool q, vb]] w (RI (sg q (I.val b - I.val a)) w) := by
 have HSA := Lib.hid ha; have HSB := Lib.hid hb; have HCA := Lib.hid ca; have HCB := Lib.hid cb
 clear ha hb ca cb
 have HLT := Lib.hid hlt; clear hlt
 go_enter Tryz.func109, Tryz.ntmps109
 go_wp2_with fail
 generalize hW : ((w.alloc _).alloc _).alloc _ = W1
 obtain ⟨kc, kd, ke, hB⟩ := box3 hW
 have ka := Lib.hid hB; clear hW hB
 have F6 := Lib.hid (HSA.out.kp (.of ka.out))
 have F7 := Lib.hid (HSB.out.kp (.of ka.out))
 obtain ⟨kH, kI, kJ, kK⟩ := kc.f2
 obtain ⟨kL, kM, kN, kO⟩ := kd.f2
 obtain ⟨kP, kQ, kR, kS⟩ := ke.f2
 obtain ⟨z, hz⟩ : ∃ z, z = cmpZ (I.val a) (I.val b) := ⟨_, rfl⟩
 have hz0 : z < 0 := by rw [hz]; have := HLT.out; unfold cmpZ; rw [if_pos this]; omega
 have kb := compared_b va vb a b W1 F6.out F7.out HCA.out HCB.out
 rw [← hz] at kb; clear hz
 (with_reducible refine kb.mono ?_)
 clear kb
 rintro e w20 ⟨rfl, k2⟩
 obtain ⟨kr, kT, ks, kU, kV⟩ := kc.b2 k2
 obtain ⟨kt, ku, kv, kW, kX⟩ := kd.b2 k2
 obtain ⟨kw, kY, kZ, k00, l36⟩ := ke.b2 k2
 have kh := Lib.hid (F6.out.kp (.of k2))
 have ki := Lib.hid (F7.out.kp (.of k2))
 have kx := Lib.hid (Blw ka.out k2)
 clear k2
 go_wp2_with fail
 go_region_held3 (fun w' => w'.cell? ⟨w.heap.size + 1, 0, none⟩ = some (.bool q) ∧ w'.cell? ⟨w.heap.size + 1, 1, none⟩ = some (vb) ∧ w'.cell? ⟨w.heap.size, 1, none⟩ = some (va)) (first | exact ⟨ku, kv, ks⟩ | exact ⟨ky, kz, kA⟩ | exact ⟨kj, kk, kl⟩ | exact ⟨kset (kset (kj) (by omega)) (by omega), kset (kset (kk) (by omega)) (by omega), kset (kset (kl) (by omega)) (by omega)⟩)
  (first | (go_at_call 133; have km := minus3_w vb va b a w20.drew (ki.out.kp (Kp.refl _).drew) (kh.out.kp (Kp.refl _).drew) HCB.out.1 HCA.out.1 hlb (Int.le_of_lt HLT.out) (HCA.out.len HCB.out.1 (Int.le_of_lt HLT.out)); (with_reducible refine km.mono ?_); clear km; rintro e w40 ⟨v1, Lv1, rfl, hS41, hP41, k0⟩; have k0 := bdDl k0; have k3 := kr.below k0; have k02 := k3.cell (i := 0) rfl; have kA := k3.cell (i := 1) rfl; have k03 := k3.frozen; have l46 := k3.lt; have k4 := kt.below k0; have ky := k4.cell (i := 0) rfl; have kz := k4.cell (i := 1) rfl; have k05 := k4.frozen; have l51 := k4.lt; have k5 := kw.below k0; have k07 := k5.cell (i := 0) rfl; have k08 := k5.cell (i := 1) rfl; have k09 := k5.frozen; have l56 := k5.lt; have kB := Lib.hid (kh.out.kp (.of k0)); have kC := Lib.hid (ki.out.kp (.of k0)); have kD := Lib.hid (Blw kx.out k0); have kn := Lib.hid hS41; have Pv1 := Lib.hid hP41; clear hS41 hP41 k0) | (go_at_call 124; have ko := normal_any q v1 Lv1 w40 kn.out Pv1.out.1; (with_reducible refine ko.mono ?_); clear ko; rintro e w61 ⟨r0, r1, rfl, k7, k1⟩; have k8 := k3.below k1; have k0b := k8.cell (i := 0) rfl; have kl := k8.cell (i := 1) rfl; have k0c := k8.frozen; have l67 := k8.lt; have k9 := k4.below k1; have kj := k9.cell (i := 0) rfl; have kk := k9.cell (i := 1) rfl; have k0e := k9.frozen; have l72 := k9.lt; have k6 := k5.below k1; have kE := k6.cell (i := 0) rfl; have kF := k6.cell (i := 1) rfl; have k0g := k6.frozen; have l77 := k6.lt; have F78 := Lib.hid (kB.out.kp (.of k1)); have F79 := Lib.hid (kC.out.kp (.of k1)); have F80 := Lib.hid (kn.out.kp (.of k1)); have kG := Lib.hid (Blw kD.out k1); have kq := Lib.hid k7; have o_r0 := k7.one0; have o_r1 := k7.one1; clear k7 k1))
 have hkp := (Kp.refl w61).t2 k6 r0 r1
 go_wp2
 refine bodyPost_ret (v := .agg #[r0, r1]) (by simp [results, Tryz.results109, go_sem, kE, kF]) rfl ⟨_, _, rfl, ?_, bel2 (kG.out) (by first | simp | omega)⟩
 rw [Pv1.out.2.1] at kq
 exact kq.out.kp hkp
set_option maxRecDepth 100000 in
theorem add3_ge (p q : Bool) (va vb : Value) (a b : List Int) (w : World) (ha : Sl w va a) (hb : Sl w vb b) (ca : I.Can a) (cb : I.Can b) (hla : a.length ≤ 1000000000000) (hlb : b.length ≤ 1000000000000) (hpq : (p == q) = false) (hlt : ¬ I.val a < I.val b) :
  Calls Tryz.prog 109 #[.agg #[.bool p, va], .agg #[.bool q, vb]] w (RI (sg p (I.val a - I.val b)) w) := by
 have HSA := Lib.hid ha; have HSB := Lib.hid hb; have HCA := Lib.hid ca; have HCB := Lib.hid cb
 clear ha hb ca cb
 have HLT := Lib.hid hlt; clear hlt
 go_enter Tryz.func109, Tryz.ntmps109
 go_wp2_with fail
 generalize hW : ((w.alloc _).alloc _).alloc _ = W1
 obtain ⟨kc, kd, ke, hB⟩ := box3 hW
 have ka := Lib.hid hB; clear hW hB
 have F6 := Lib.hid (HSA.out.kp (.of ka.out))
 have F7 := Lib.hid (HSB.out.kp (.of ka.out))
 obtain ⟨kH, kI, kJ, kK⟩ := kc.f2
 obtain ⟨kL, kM, kN, kO⟩ := kd.f2
 obtain ⟨kP, kQ, kR, kS⟩ := ke.f2
 obtain ⟨z, hz⟩ : ∃ z, z = cmpZ (I.val a) (I.val b) := ⟨_, rfl⟩
 have hz0 : ¬ z < 0 := by rw [hz]; have := HLT.out; unfold cmpZ; rw [if_neg (by omega)]; split <;> omega
 have kb := compared_b va vb a b W1 F6.out F7.out HCA.out HCB.out
 rw [← hz] at kb; clear hz
 (with_reducible refine kb.mono ?_)
 clear kb
 rintro e w20 ⟨rfl, k2⟩
 obtain ⟨kr, ks, kt, kT, kU⟩ := kc.b2 k2
 obtain ⟨ku, kV, kv, kW, kX⟩ := kd.b2 k2
 obtain ⟨kw, kY, kZ, k00, l36⟩ := ke.b2 k2
 have kh := Lib.hid (F6.out.kp (.of k2))
 have ki := Lib.hid (F7.out.kp (.of k2))
 have kx := Lib.hid (Blw ka.out k2)
 clear k2
 go_wp2_with fail
 go_region_held3 (fun w' => w'.cell? ⟨w.heap.size, 0, none⟩ = some (.bool p) ∧ w'.cell? ⟨w.heap.size, 1, none⟩ = some (va) ∧ w'.cell? ⟨w.heap.size + 1, 1, none⟩ = some (vb)) (first | exact ⟨ks, kt, kv⟩ | exact ⟨ky, kz, kA⟩ | exact ⟨kj, kk, kl⟩ | exact ⟨kset (kset (kj) (by omega)) (by omega), kset (kset (kk) (by omega)) (by omega), kset (kset (kl) (by omega)) (by omega)⟩)
  (first | (go_at_call 133; have km := minus3_w va vb a b w20.drew (kh.out.kp (Kp.refl _).drew) (ki.out.kp (Kp.refl _).drew) HCA.out.1 HCB.out.1 hla (by have := HLT.out; omega) (HCB.out.len HCA.out.1 (by have := HLT.out; omega)); (with_reducible refine km.mono ?_); clear km; rintro e w40 ⟨v1, Lv1, rfl, hS41, hP41, k0⟩; have k0 := bdDl k0; have k3 := kr.below k0; have ky := k3.cell (i := 0) rfl; have kz := k3.cell (i := 1) rfl; have k02 := k3.frozen; have l46 := k3.lt; have k4 := ku.below k0; have k04 := k4.cell (i := 0) rfl; have kA := k4.cell (i := 1) rfl; have k05 := k4.frozen; have l51 := k4.lt; have k5 := kw.below k0; have k07 := k5.cell (i := 0) rfl; have k08 := k5.cell (i := 1) rfl; have k09 := k5.frozen; have l56 := k5.lt; have kB := Lib.hid (kh.out.kp (.of k0)); have kC := Lib.hid (ki.out.kp (.of k0)); have kD := Lib.hid (Blw kx.out k0); have kn := Lib.hid hS41; have Pv1 := Lib.hid hP41; clear hS41 hP41 k0) | (go_at_call 124; have ko := normal_any p v1 Lv1 w40 kn.out Pv1.out.1; (with_reducible refine ko.mono ?_); clear ko; rintro e w61 ⟨r0, r1, rfl, k7, k1⟩; have k8 := k3.below k1; have kj := k8.cell (i := 0) rfl; have kk := k8.cell (i := 1) rfl; have k0b := k8.frozen; have l67 := k8.lt; have k9 := k4.below k1; have k0d := k9.cell (i := 0) rfl; have kl := k9.cell (i := 1) rfl; have k0e := k9.frozen; have l72 := k9.lt; have k6 := k5.below k1; have kE := k6.cell (i := 0) rfl; have kF := k6.cell (i := 1) rfl; have k0g := k6.frozen; have l77 := k6.lt; have F78 := Lib.hid (kB.out.kp (.of k1)); have F79 := Lib.hid (kC.out.kp (.of k1)); have F80 := Lib.hid (kn.out.kp (.of k1)); have kG := Lib.hid (Blw kD.out k1); have kq := Lib.hid k7; have o_r0 := k7.one0; have o_r1 := k7.one1; clear k7 k1))
 have hkp := (Kp.refl w61).t2 k6 r0 r1
 go_wp2
 refine bodyPost_ret (v := .agg #[r0, r1]) (by simp [results, Tryz.results109, go_sem, kE, kF]) rfl ⟨_, _, rfl, ?_, bel2 (kG.out) (by first | simp | omega)⟩
 rw [Pv1.out.2.1] at kq
 exact kq.out.kp hkp
theorem radd3_any (k : Nat) (a0 a1 b0 b1 : Value) (x y : Int) (w : World) (hx : IntV w a0 a1 x) (hy : IntV w b0 b1 y) (bx : I.Bd k x) (by_ : I.Bd k y) (hk : k ≤ 1000000000000) :
  Calls Tryz.prog 109 #[.agg #[a0, a1], .agg #[b0, b1]] w (RI (x + y) w) := by
 obtain ⟨a, rfl, sa, ca, va⟩ := hx
 obtain ⟨b, rfl, sb, cb, vb⟩ := hy
 have la := Nat.le_trans (bx.len ca va) hk
 have lb := Nat.le_trans (by_.len cb vb) hk
 by_cases hs : decide (x < 0) = decide (y < 0)
 ·rw [← hs]
  have h := add3_same (decide (x < 0)) a1 b1 a b w sa sb ca cb la lb
  have e : sg (decide (x < 0)) (I.val a + I.val b) = x + y := by
   rw [va, vb]
   unfold sg
   by_cases h1 : x < 0 <;> by_cases h2 : y < 0 <;> simp [h1, h2] at hs ⊢ <;> omega
  rwa [e] at h
 ·have hpq : (decide (x < 0) == decide (y < 0)) = false := by simpa using hs
  by_cases hlt : I.val a < I.val b
  ·have h := add3_lt _ _ a1 b1 a b w sa sb ca cb la lb hpq hlt
   have e : sg (decide (y < 0)) (I.val b - I.val a) = x + y := by
    rw [va, vb]
    unfold sg
    by_cases h1 : x < 0 <;> by_cases h2 : y < 0 <;> simp [h1, h2] at hs ⊢ <;> omega
   rwa [e] at h
  ·have h := add3_ge _ _ a1 b1 a b w sa sb ca cb la lb hpq hlt
   have e : sg (decide (x < 0)) (I.val a - I.val b) = x + y := by
    rw [va, vb]
    unfold sg
    by_cases h1 : x < 0 <;> by_cases h2 : y < 0 <;> simp [h1, h2] at hs ⊢ <;> omega
   rwa [e] at h
set_option maxRecDepth 100000 in
theorem mul3_own (p q : Bool) (va vb : Value) (a b : List Int) (w : World) (ha : Sl w va a) (hb : Sl w vb b) (da : I.Dig a) (db : I.Dig b) (hl : a.length + b.length ≤ 1000000000000) :
  Calls Tryz.prog 107 #[.agg #[.bool p, va], .agg #[.bool q, vb]] w (RI (sg (!(p == q)) (I.val a * I.val b)) w) := by
 obtain ⟨A, ca, rfl, hca, hma⟩ := ha.form_
 obtain ⟨B, cb, rfl, hcb, hmb⟩ := hb.form_
 have HSA := Lib.hid ha; have HSB := Lib.hid hb; have HDA := Lib.hid da; have HDB := Lib.hid db
 clear ha hb da db
 unfold maxLen at hma hmb
 have hmk := fun u => run_make_il (a.length + b.length) (by omega) ((a.length : Int) + (b.length : Int)) (by omega) u
 go_enter Tryz.func107, Tryz.ntmps107
 go_upto_region 1 with fail
 generalize hW : ((w.alloc _).alloc _).alloc _ = W1
 obtain ⟨k0, k1, k6, hB⟩ := box3 hW
 have k3 := Lib.hid hB; clear hW hB
 have F6 := Lib.hid (HSA.out.kp (.of k3.out))
 have F7 := Lib.hid (HSB.out.kp (.of k3.out))
 obtain ⟨kk, kl, km, kn⟩ := k0.f2
 obtain ⟨ko, kq, kr, ks⟩ := k1.f2
 obtain ⟨kt, ku, kv, kw⟩ := k6.f2
 have hmk2 := hmk W1
 clear hmk
 have HNW := Lib.hid (Bk.new W1 (a.length + b.length))
 have HBW := Lib.hid ((Below.refl W1.heap.size W1).alloc (Nat.le_refl _) (.cells (zs (a.length + b.length)) 3))
 go_wp2_with fail
 clear hmk2
 go_loopw [6] (fun ix wr => ∃ (i : Nat) (out : List Int), i ≤ a.length ∧ ix = .int .i64 i ∧ Hid (out.length = a.length + b.length ∧ I.Dig out ∧ I.val out = I.val (a.take i) * I.val b ∧ out.drop (i + b.length) = List.replicate (a.length - i) 0) ∧ Hid (Bk wr W1.heap.size out) ∧ Hid (Below W1.heap.size W1 wr)) (fun ix _ => a.length - (intOf ix).toNat)
 case atStart => exact ⟨0, List.replicate (a.length + b.length) 0, by omega, rfl, Lib.hid ⟨by simp, I.Dig.rep _, by rw [I.val_rep]; simp [I.val], by simp⟩, HNW, HBW⟩
 case round =>
  obtain ⟨i, out, hi, rfl, HV, HB_, HN⟩ := hrel
  obtain ⟨wo, rfl⟩ : ∃ wo : World, wo = wr := ⟨_, rfl⟩
  have k0_0o := (k0.below HN.out).cell (i := 0) rfl
  have k0_1o := (k0.below HN.out).cell (i := 1) rfl
  have k1_0o := (k1.below HN.out).cell (i := 0) rfl
  have k1_1o := (k1.below HN.out).cell (i := 1) rfl
  by_cases hi2 : i < a.length
  ·have hib := decide_eq_true hi2
   obtain ⟨d, hd⟩ : ∃ d, a[i]? = some d := ⟨_, List.getElem?_eq_getElem hi2⟩
   obtain ⟨hd0, hd1⟩ := HDA.out.get hd
   obtain ⟨ba, oa, ca2, hA, _, _, hba, hcA⟩ := F6.out.at_ (by omega)
   injection hA with hA _ hcc
   subst hA; subst hcc
   have HD := Lib.hid hd; have HCA := Lib.hid hcA
   clear hcA hd
   go_wp2_with fail
   go_loopw [7, 8] (fun cy ix wi => ∃ (k : Nat) (o2 : List Int) (c : Int), k ≤ b.length ∧ ix = .int .i64 k ∧ cy = .int .i64 c ∧ 0 ≤ c ∧ c < 1000000000 ∧ Hid (o2.length = a.length + b.length ∧ I.Dig o2 ∧ I.val o2 + c * I.pw (i + k) = I.val (a.take i) * I.val b + d * I.val (b.take k) * I.pw i ∧ o2.drop (i + b.length) = List.replicate (a.length - i) 0) ∧ Hid (Bk wi W1.heap.size o2) ∧ Hid (Below W1.heap.size W1 wi)) (fun _ ix _ => b.length - (intOf ix).toNat)
   case atStart => exact ⟨0, out, 0, by omega, rfl, rfl, by omega, by omega, Lib.hid ⟨HV.out.1, HV.out.2.1, by rw [HV.out.2.2.1]; simp [I.val], HV.out.2.2.2⟩, HB_, HN⟩
   case round =>
    obtain ⟨k, o2, c, hk, rfl, rfl, k9, ka, HV2, HB2_, HN2⟩ := hrel
    have k0_0i := (k0.below HN2.out).cell (i := 0) rfl
    have k0_1i := (k0.below HN2.out).cell (i := 1) rfl
    have k1_0i := (k1.below HN2.out).cell (i := 0) rfl
    have k1_1i := (k1.below HN2.out).cell (i := 1) rfl
    by_cases hk2 : k < b.length
    ·have hkb := decide_eq_true hk2
     obtain ⟨e, he⟩ : ∃ e, b[k]? = some e := ⟨_, List.getElem?_eq_getElem hk2⟩
     obtain ⟨he0, he1⟩ := HDB.out.get he
     obtain ⟨bb, ob, cb2, hB, _, _, hbb, hcB⟩ := F7.out.at_ (by omega)
     injection hB with hB _ hcc
     subst hB; subst hcc
     have f1 := HCA.out wr HN2.out i d HD.out
     have f2 := hcB wr HN2.out k e he
     obtain ⟨y, hy⟩ : ∃ y, o2[i + k]? = some y := ⟨_, List.getElem?_eq_getElem (by rw [HV2.out.1]; omega)⟩
     obtain ⟨hy0, hy1⟩ := HV2.out.2.1.get hy
     have f3 := HB2_.out.cell hy
     have f4 := HB2_.out.frozen (i + k)
     have hp0 : 0 ≤ d * e := Int.mul_nonneg hd0 he0
     have hp1 : d * e ≤ 999999999 * 999999999 := Int.mul_le_mul (by omega) (by omega) he0 (by omega)
     have hp2 : d * e ≤ 999999998000000001 := by omega
     have hik : (i : Int) + (k : Int) < (a.length : Int) + (b.length : Int) := by omega
     have hst := I.mul_step (c := c) (c' := (y + d * e + c) / 1000000000) hy HV2.out.2.2.1 he rfl
     have hmd : y + d * e + c - (y + d * e + c) / 1000000000 * 1000000000 = (y + d * e + c) % 1000000000 := by omega
     rw [hmd] at hst
     obtain ⟨hs0, hs1⟩ : 0 ≤ (y + d * e + c) % 1000000000 ∧ (y + d * e + c) % 1000000000 < 1000000000 := by omega
     obtain ⟨ht0, ht1⟩ : 0 ≤ (y + d * e + c) / 1000000000 ∧ (y + d * e + c) / 1000000000 < 1000000000 := by omega
     have hst2 := fun n => (HB2_.out.drewN n).set_ (i + k) ((y + d * e + c) % 1000000000)
     have HST := Lib.hid hst; have HST2 := Lib.hid hst2
     clear hp1 hst hst2 hcB he hy hmd
     go_upto_region 9 with fail
     go_quiet (fail)
     go_wp2
     go_roundw
     case rel =>
      refine ⟨k + 1, _, _, by omega, by go_num, rfl, ht0, ht1, Lib.hid ⟨?_, HV2.out.2.1.set hs0 hs1, HST.out, ?_⟩, Lib.hid (HST2.out _), Lib.hid ((bdN HN2.out _).setCell (Nat.le_refl _) _)⟩
      ·rw [List.length_set]; exact HV2.out.1
      ·rw [I.drop_set (by omega)]; exact HV2.out.2.2.2
     case measure => simp [intOf]; omega
    ·have hkb := decide_eq_false hk2
     obtain rfl : k = b.length := by omega
     have hrep := HV2.out.2.2.2
     rw [show a.length - i = (a.length - (i + 1)) + 1 from by omega] at hrep
     have hy := I.get_drop_rep hrep
     have f3 := HB2_.out.cell hy
     have f4 := HB2_.out.frozen (i + b.length)
     have hib : (i : Int) + (b.length : Int) < (a.length : Int) + (b.length : Int) := by omega
     have h5 := HV2.out.2.2.1
     rw [I.val_take_over (Nat.le_refl _)] at h5
     have hst := I.mul_last hy h5 HD.out
     have hst2 := HB2_.out.set_ (i + b.length) c
     have HST := Lib.hid hst; have HST2 := Lib.hid hst2; have HREP := Lib.hid hrep
     clear hst hst2 hrep hy h5
     go_wp2
     go_roundw
     case rel =>
      have hr2 : ∃ (i2 : Nat) (out2 : List Int), i2 ≤ a.length ∧ Value.int .i64 ((i : Int) + 1) = .int .i64 i2 ∧ Hid (out2.length = a.length + b.length ∧ I.Dig out2 ∧ I.val out2 = I.val (a.take i2) * I.val b ∧ out2.drop (i2 + b.length) = List.replicate (a.length - i2) 0) ∧ Hid (Bk (wr.setCell ⟨W1.heap.size, i + b.length, none⟩ (.int .i64 c)) W1.heap.size out2) ∧ Hid (Below W1.heap.size W1 (wr.setCell ⟨W1.heap.size, i + b.length, none⟩ (.int .i64 c))) := by
       refine ⟨i + 1, _, by omega, by go_num, Lib.hid ⟨?_, HV2.out.2.1.set k9 ka, HST.out, ?_⟩, HST2, Lib.hid (HN2.out.setCell (Nat.le_refl _) _)⟩
       ·rw [List.length_set]; exact HV2.out.1
       ·rw [I.drop_set (by omega)]
        have h6 := congrArg (List.drop 1) HREP.out
        rw [List.drop_drop, List.replicate_succ, List.drop_succ_cons, List.drop_zero] at h6
        rw [show i + 1 + b.length = i + b.length + 1 from by omega]
        exact h6
      first | exact hr2 | ((repeat apply Exists.intro); exact ⟨hr2, rfl⟩)
     case measure => simp [intOf]; omega
  ·have hib := decide_eq_false hi2
   obtain rfl : i = a.length := by omega
   have hsl := HB_.out.sl (n := a.length + b.length) (c := a.length + b.length) HV.out.1.symm (Nat.le_refl _) (by unfold maxLen; omega)
   have hb := HN.out
   have hva : I.val out = I.val a * I.val b := by
    have h1 := HV.out.2.2.1
    rwa [I.val_take_over (Nat.le_refl _)] at h1
   have HSL := Lib.hid hsl; have HVA := Lib.hid hva
   clear hsl hva
   obtain ⟨kb, kx, ky, kz, kA⟩ := k0.b2 hb
   obtain ⟨kc, kB, kC, kD, kE⟩ := k1.b2 hb
   obtain ⟨kd, kF, kG, kH, kI⟩ := k6.b2 hb
   have ke := Lib.hid (Blw k3.out hb)
   clear hb
   go_wp2_with fail
   have k4 := normal_any (!(p == q)) _ out wo HSL.out HV.out.2.1
   rw [HVA.out] at k4
   (with_reducible refine k4.mono ?_)
   clear k4
   rintro e w38 ⟨r0, r1, rfl, k5, k2⟩
   obtain ⟨kJ, kK, kL, kM, kN⟩ := kb.b2 k2
   obtain ⟨kO, kP, kQ, kR, kS⟩ := kc.b2 k2
   obtain ⟨kf, kg, kh, kT, kU⟩ := kd.b2 k2
   have ki := Lib.hid (Blw ke.out k2)
   have kj := Lib.hid k5
   obtain ⟨o_r0, o_r1⟩ := k5.ones
   clear k5 k2
   go_wp2
   have hkp := (Kp.refl w38).t2 kf r0 r1
   refine bodyPost_ret (v := .agg #[r0, r1]) (by simp [results, Tryz.results107, go_sem, kg, kh]) rfl ⟨_, _, rfl, ?_, bel2 (ki.out) (by first | simp | omega)⟩
   exact kj.out.kp hkp
theorem rmul3_any (j k : Nat) (a0 a1 b0 b1 : Value) (x y : Int) (w : World) (hx : IntV w a0 a1 x) (hy : IntV w b0 b1 y) (bx : I.Bd j x) (by_ : I.Bd k y) (hk : j + k ≤ 1000000000000) :
  Calls Tryz.prog 107 #[.agg #[a0, a1], .agg #[b0, b1]] w (RI (x * y) w) := by
 obtain ⟨a, rfl, sa, ca, va⟩ := hx
 obtain ⟨b, rfl, sb, cb, vb⟩ := hy
 have la := bx.len ca va
 have lb := by_.len cb vb
 have e : sg (!(decide (x < 0) == decide (y < 0))) (I.val a * I.val b) = x * y := by
  rw [va, vb, ← Int.natCast_mul, ← Int.natAbs_mul]
  unfold sg
  by_cases h1 : x < 0 <;> by_cases h2 : y < 0 <;> simp [h1, h2, Int.natAbs_mul]
  ·have h3 : ((x.natAbs : Int)) = -x := by omega
   have h4 : ((y.natAbs : Int)) = -y := by omega
   rw [h3, h4]; grind
  ·have h3 : ((x.natAbs : Int)) = -x := by omega
   have h4 : ((y.natAbs : Int)) = y := by omega
   rw [h3, h4]; grind
  ·have h3 : ((x.natAbs : Int)) = x := by omega
   have h4 : ((y.natAbs : Int)) = -y := by omega
   rw [h3, h4]; grind
  ·have h3 : ((x.natAbs : Int)) = x := by omega
   have h4 : ((y.natAbs : Int)) = y := by omega
   rw [h3, h4]
 rw [← e]
 exact mul3_own _ _ a1 b1 a b w sa sb ca.1 cb.1 (by omega)
end Go.Proofs.YtcfejkpadcccbaaGreat
