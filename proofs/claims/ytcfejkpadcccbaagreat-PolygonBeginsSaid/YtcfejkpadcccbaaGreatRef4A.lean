/-
 THE WALKS of the reference of package rat: Den, one, Make, Of, Add, Neg, Sub, Mul, Div, Sign.
-/
import Derived.Test.YtcfejkpadcccbaaGreatWalkPlB
namespace Go.Proofs.YtcfejkpadcccbaaGreat
set_option maxHeartbeats 4000000
open Go.RowKit
attribute [local go_sem] run_store_one
set_option linter.unusedVariables false
/-- The order of two rationals: -1, 0 or 1. -/
def cmpQ (r t : Rat) : Int := if r < t then -1 else if t < r then 1 else 0
theorem cmp_cross (r t : Rat) : cmpZ (r.num * t.den) (t.num * r.den) = cmpQ r t := by
 unfold cmpZ cmpQ
 simp only [Rat.lt_iff]
theorem cmpQ_sgn {r t : Rat} (h : sgnZ r.num ≠ sgnZ t.num ∨ sgnZ r.num = 0) : cmpZ (sgnZ r.num) (sgnZ t.num) = cmpQ r t := by
 rw [← cmp_cross]
 have hr : 0 < (r.den : Int) := by have := r.den_pos; omega
 have ht : 0 < (t.den : Int) := by have := t.den_pos; omega
 generalize r.num = a at *
 generalize t.num = b at *
 generalize (r.den : Int) = c at *
 generalize (t.den : Int) = d at *
 rcases Int.lt_trichotomy a 0 with ha | ha | ha <;> rcases Int.lt_trichotomy b 0 with hb | hb | hb
 ·exfalso; rw [show sgnZ a = -1 from cmpZ_lt ha, show sgnZ b = -1 from cmpZ_lt hb] at h; omega
 ·subst hb; have := Int.mul_neg_of_neg_of_pos ha ht; rw [show sgnZ a = -1 from cmpZ_lt ha, show sgnZ 0 = 0 from rfl, Int.zero_mul, cmpZ_lt this]; rfl
 ·have h1 := Int.mul_neg_of_neg_of_pos ha ht; have h2 := Int.mul_pos hb hr; rw [show sgnZ a = -1 from cmpZ_lt ha, show sgnZ b = 1 from cmpZ_gt hb, cmpZ_lt (x := a * d) (by omega)]; rfl
 ·subst ha; have := Int.mul_neg_of_neg_of_pos hb hr; rw [show sgnZ b = -1 from cmpZ_lt hb, show sgnZ 0 = 0 from rfl, Int.zero_mul, cmpZ_gt (x := 0) this]; rfl
 ·subst ha; subst hb; rw [show sgnZ 0 = 0 from rfl, Int.zero_mul, Int.zero_mul]
 ·subst ha; have := Int.mul_pos hb hr; rw [show sgnZ b = 1 from cmpZ_gt hb, show sgnZ 0 = 0 from rfl, Int.zero_mul, cmpZ_lt this]; rfl
 ·have h1 := Int.mul_pos ha ht; have h2 := Int.mul_neg_of_neg_of_pos hb hr; rw [show sgnZ a = 1 from cmpZ_gt ha, show sgnZ b = -1 from cmpZ_lt hb, cmpZ_gt (x := a * d) (by omega)]; rfl
 ·subst hb; have := Int.mul_pos ha ht; rw [show sgnZ a = 1 from cmpZ_gt ha, show sgnZ 0 = 0 from rfl, Int.zero_mul, cmpZ_gt this]; rfl
 ·exfalso; rw [show sgnZ a = 1 from cmpZ_gt ha, show sgnZ b = 1 from cmpZ_gt hb] at h; omega
theorem sgn64 (x : Int) : W.Is64 (sgnZ x) := by
 unfold sgnZ cmpZ
 split
 ·exact ⟨by omega, by omega⟩
 ·split <;> exact ⟨by omega, by omega⟩
set_option maxRecDepth 100000 in
theorem icmp_0 (va vb : Value) (a b : List Int) (w : World) (ha : Sl w va a) (hb : Sl w vb b) (ca : I.Can a) (cb : I.Can b) :
  Calls Tryz.prog 87 #[.agg #[.bool true, va], .agg #[.bool false, vb]] w fun e w' => e = .returned (.int .i64 (-1)) ∧ Below w.heap.size w w' := by
 obtain ⟨A, c, rfl, _, _⟩ := ha.form_
 obtain ⟨B, d, rfl, _, _⟩ := hb.form_
 have HA := Lib.hid ha; have HB_ := Lib.hid hb; have HCA := Lib.hid ca; have HCB := Lib.hid cb
 clear ha hb ca cb
 go_enter Tryz.func87, Tryz.ntmps87
 go_wp2
 go_ret
 exact ⟨rfl, ((Below.refl _ _).alloc (by simp) _).alloc (by simp) _⟩
set_option maxRecDepth 100000 in
theorem icmp_1 (va vb : Value) (a b : List Int) (w : World) (ha : Sl w va a) (hb : Sl w vb b) (ca : I.Can a) (cb : I.Can b) :
  Calls Tryz.prog 87 #[.agg #[.bool false, va], .agg #[.bool true, vb]] w fun e w' => e = .returned (.int .i64 (1)) ∧ Below w.heap.size w w' := by
 obtain ⟨A, c, rfl, _, _⟩ := ha.form_
 obtain ⟨B, d, rfl, _, _⟩ := hb.form_
 have HA := Lib.hid ha; have HB_ := Lib.hid hb; have HCA := Lib.hid ca; have HCB := Lib.hid cb
 clear ha hb ca cb
 go_enter Tryz.func87, Tryz.ntmps87
 go_wp2
 go_ret
 exact ⟨rfl, ((Below.refl _ _).alloc (by simp) _).alloc (by simp) _⟩
set_option maxRecDepth 100000 in
theorem icmp_2 (va vb : Value) (a b : List Int) (w : World) (ha : Sl w va a) (hb : Sl w vb b) (ca : I.Can a) (cb : I.Can b) :
  Calls Tryz.prog 87 #[.agg #[.bool true, va], .agg #[.bool true, vb]] w fun e w' => e = .returned (.int .i64 (cmpZ (I.val b) (I.val a))) ∧ Below w.heap.size w w' := by
 obtain ⟨A, c, rfl, _, _⟩ := ha.form_
 obtain ⟨B, d, rfl, _, _⟩ := hb.form_
 have HA := Lib.hid ha; have HB_ := Lib.hid hb; have HCA := Lib.hid ca; have HCB := Lib.hid cb
 clear ha hb ca cb
 go_enter Tryz.func87, Tryz.ntmps87
 go_wp2_with fail
 generalize hW : (w.alloc _).alloc _ = W1
 obtain ⟨k2, k3, hB⟩ := box2 hW
 have k1 := Lib.hid hB; clear hW hB
 have F5 := Lib.hid (HA.out.kp (.of k1.out))
 have F6 := Lib.hid (HB_.out.kp (.of k1.out))
 obtain ⟨k8, k9, ka, kb⟩ := k2.f2
 obtain ⟨kc, kd, ke, kf⟩ := k3.f2
 have k4 := compare_b (.slice B b.length d) (.slice A a.length c) b a W1 F6.out F5.out HCB.out HCA.out
 (with_reducible refine k4.mono ?_)
 clear k4
 rintro e w15 ⟨rfl, k0⟩
 obtain ⟨kg, kh, ki, kj, kk⟩ := k2.b2 k0
 obtain ⟨kl, km, kn, ko, kq⟩ := k3.b2 k0
 have k7 := Lib.hid (Blw k1.out k0)
 clear k0
 go_wp2
 go_ret
 exact ⟨rfl, k7.out⟩
set_option maxRecDepth 100000 in
theorem icmp_3 (va vb : Value) (a b : List Int) (w : World) (ha : Sl w va a) (hb : Sl w vb b) (ca : I.Can a) (cb : I.Can b) :
  Calls Tryz.prog 87 #[.agg #[.bool false, va], .agg #[.bool false, vb]] w fun e w' => e = .returned (.int .i64 (cmpZ (I.val a) (I.val b))) ∧ Below w.heap.size w w' := by
 obtain ⟨A, c, rfl, _, _⟩ := ha.form_
 obtain ⟨B, d, rfl, _, _⟩ := hb.form_
 have HA := Lib.hid ha; have HB_ := Lib.hid hb; have HCA := Lib.hid ca; have HCB := Lib.hid cb
 clear ha hb ca cb
 go_enter Tryz.func87, Tryz.ntmps87
 go_wp2_with fail
 generalize hW : (w.alloc _).alloc _ = W1
 obtain ⟨k2, k3, hB⟩ := box2 hW
 have k1 := Lib.hid hB; clear hW hB
 have F5 := Lib.hid (HA.out.kp (.of k1.out))
 have F6 := Lib.hid (HB_.out.kp (.of k1.out))
 obtain ⟨k8, k9, ka, kb⟩ := k2.f2
 obtain ⟨kc, kd, ke, kf⟩ := k3.f2
 have k4 := compare_b (.slice A a.length c) (.slice B b.length d) a b W1 F5.out F6.out HCA.out HCB.out
 (with_reducible refine k4.mono ?_)
 clear k4
 rintro e w15 ⟨rfl, k0⟩
 obtain ⟨kg, kh, ki, kj, kk⟩ := k2.b2 k0
 obtain ⟨kl, km, kn, ko, kq⟩ := k3.b2 k0
 have k7 := Lib.hid (Blw k1.out k0)
 clear k0
 go_wp2
 go_ret
 exact ⟨rfl, k7.out⟩
theorem icmp_any (a0 a1 b0 b1 : Value) (x y : Int) (w : World) (hx : IntV w a0 a1 x) (hy : IntV w b0 b1 y) :
  Calls Tryz.prog 87 #[.agg #[a0, a1], .agg #[b0, b1]] w fun e w' => e = .returned (.int .i64 (cmpZ x y)) ∧ Below w.heap.size w w' := by
 obtain ⟨a, rfl, sa, ca, va⟩ := hx
 obtain ⟨b, rfl, sb, cb, vb⟩ := hy
 by_cases h1 : x < 0 <;> by_cases h2 : y < 0
 ·have h := icmp_2 a1 b1 a b w sa sb ca cb
  rw [va, vb] at h
  have e : cmpZ (y.natAbs : Int) (x.natAbs : Int) = cmpZ x y := by
   unfold cmpZ
   by_cases h3 : x < y
   ·rw [if_pos (by omega), if_pos h3]
   ·by_cases h4 : y < x
    ·rw [if_neg (by omega), if_pos (by omega), if_neg (by omega), if_pos h4]
    ·rw [if_neg (by omega), if_neg (by omega), if_neg (by omega), if_neg (by omega)]
  rw [e] at h
  rw [decide_eq_true h1, decide_eq_true h2]
  exact h
 ·have h := icmp_0 a1 b1 a b w sa sb ca cb
  rw [decide_eq_true h1, decide_eq_false h2, cmpZ_lt (by omega)]
  exact h
 ·have h := icmp_1 a1 b1 a b w sa sb ca cb
  rw [decide_eq_false h1, decide_eq_true h2, cmpZ_gt (by omega)]
  exact h
 ·have h := icmp_3 a1 b1 a b w sa sb ca cb
  rw [va, vb] at h
  have e : cmpZ (x.natAbs : Int) (y.natAbs : Int) = cmpZ x y := by
   rw [show (x.natAbs : Int) = x by omega, show (y.natAbs : Int) = y by omega]
  rw [e] at h
  rw [decide_eq_false h1, decide_eq_false h2]
  exact h
end Go.Proofs.YtcfejkpadcccbaaGreat
namespace Go.Proofs.YtcfejkpadcccbaaGreat
set_option maxHeartbeats 4000000
open Go.RowKit
attribute [local go_sem] run_store_one
set_option linter.unusedVariables false
section
variable {w w' : World} {a0 a1 a2 a3 a4 a5 a6 a7 a8 a9 a10 a11 a12 a13 a14 a15 : Value} {p : Pl}
theorem PlaceV.kp (H : PlaceV w a0 a1 a2 a3 a4 a5 a6 a7 a8 a9 a10 a11 a12 a13 a14 a15 p) (k : Kp w w') : PlaceV w' a0 a1 a2 a3 a4 a5 a6 a7 a8 a9 a10 a11 a12 a13 a14 a15 p := ⟨H.1.kp k, H.2.kp k⟩
theorem PlaceV.below (H : PlaceV w a0 a1 a2 a3 a4 a5 a6 a7 a8 a9 a10 a11 a12 a13 a14 a15 p) (hb : Below w.heap.size w w') : PlaceV w' a0 a1 a2 a3 a4 a5 a6 a7 a8 a9 a10 a11 a12 a13 a14 a15 p := H.kp (.of hb)
theorem PlaceV.one0 (H : PlaceV w a0 a1 a2 a3 a4 a5 a6 a7 a8 a9 a10 a11 a12 a13 a14 a15 p) : a0.oneCell' = true := H.1.one0
theorem PlaceV.one1 (H : PlaceV w a0 a1 a2 a3 a4 a5 a6 a7 a8 a9 a10 a11 a12 a13 a14 a15 p) : a1.oneCell' = true := H.1.one1
theorem PlaceV.one2 (H : PlaceV w a0 a1 a2 a3 a4 a5 a6 a7 a8 a9 a10 a11 a12 a13 a14 a15 p) : a2.oneCell' = true := H.1.one2
theorem PlaceV.one3 (H : PlaceV w a0 a1 a2 a3 a4 a5 a6 a7 a8 a9 a10 a11 a12 a13 a14 a15 p) : a3.oneCell' = true := H.1.one3
theorem PlaceV.one4 (H : PlaceV w a0 a1 a2 a3 a4 a5 a6 a7 a8 a9 a10 a11 a12 a13 a14 a15 p) : a4.oneCell' = true := H.1.one4
theorem PlaceV.one5 (H : PlaceV w a0 a1 a2 a3 a4 a5 a6 a7 a8 a9 a10 a11 a12 a13 a14 a15 p) : a5.oneCell' = true := H.1.one5
theorem PlaceV.one6 (H : PlaceV w a0 a1 a2 a3 a4 a5 a6 a7 a8 a9 a10 a11 a12 a13 a14 a15 p) : a6.oneCell' = true := H.1.one6
theorem PlaceV.one7 (H : PlaceV w a0 a1 a2 a3 a4 a5 a6 a7 a8 a9 a10 a11 a12 a13 a14 a15 p) : a7.oneCell' = true := H.1.one7
theorem PlaceV.one8 (H : PlaceV w a0 a1 a2 a3 a4 a5 a6 a7 a8 a9 a10 a11 a12 a13 a14 a15 p) : a8.oneCell' = true := H.2.one0
theorem PlaceV.one9 (H : PlaceV w a0 a1 a2 a3 a4 a5 a6 a7 a8 a9 a10 a11 a12 a13 a14 a15 p) : a9.oneCell' = true := H.2.one1
theorem PlaceV.one10 (H : PlaceV w a0 a1 a2 a3 a4 a5 a6 a7 a8 a9 a10 a11 a12 a13 a14 a15 p) : a10.oneCell' = true := H.2.one2
theorem PlaceV.one11 (H : PlaceV w a0 a1 a2 a3 a4 a5 a6 a7 a8 a9 a10 a11 a12 a13 a14 a15 p) : a11.oneCell' = true := H.2.one3
theorem PlaceV.one12 (H : PlaceV w a0 a1 a2 a3 a4 a5 a6 a7 a8 a9 a10 a11 a12 a13 a14 a15 p) : a12.oneCell' = true := H.2.one4
theorem PlaceV.one13 (H : PlaceV w a0 a1 a2 a3 a4 a5 a6 a7 a8 a9 a10 a11 a12 a13 a14 a15 p) : a13.oneCell' = true := H.2.one5
theorem PlaceV.one14 (H : PlaceV w a0 a1 a2 a3 a4 a5 a6 a7 a8 a9 a10 a11 a12 a13 a14 a15 p) : a14.oneCell' = true := H.2.one6
theorem PlaceV.one15 (H : PlaceV w a0 a1 a2 a3 a4 a5 a6 a7 a8 a9 a10 a11 a12 a13 a14 a15 p) : a15.oneCell' = true := H.2.one7
end
theorem PlaceV.ones {w : World} {a0 a1 a2 a3 a4 a5 a6 a7 a8 a9 a10 a11 a12 a13 a14 a15 : Value} {x : Pl} (H : PlaceV w a0 a1 a2 a3 a4 a5 a6 a7 a8 a9 a10 a11 a12 a13 a14 a15 x) : a0.oneCell' = true ∧ a1.oneCell' = true ∧ a2.oneCell' = true ∧ a3.oneCell' = true ∧ a4.oneCell' = true ∧ a5.oneCell' = true ∧ a6.oneCell' = true ∧ a7.oneCell' = true ∧ a8.oneCell' = true ∧ a9.oneCell' = true ∧ a10.oneCell' = true ∧ a11.oneCell' = true ∧ a12.oneCell' = true ∧ a13.oneCell' = true ∧ a14.oneCell' = true ∧ a15.oneCell' = true := ⟨H.one0, H.one1, H.one2, H.one3, H.one4, H.one5, H.one6, H.one7, H.one8, H.one9, H.one10, H.one11, H.one12, H.one13, H.one14, H.one15⟩
def SPl (p : Pl) : Sp := fun w u => ∃ a0 a1 a2 a3 a4 a5 a6 a7 a8 a9 a10 a11 a12 a13 a14 a15, u = .agg #[a0, a1, a2, a3, a4, a5, a6, a7, a8, a9, a10, a11, a12, a13, a14, a15] ∧ PlaceV w a0 a1 a2 a3 a4 a5 a6 a7 a8 a9 a10 a11 a12 a13 a14 a15 p
theorem SPl.mono (p : Pl) : Mono (SPl p) := fun _ _ _ ⟨a0, a1, a2, a3, a4, a5, a6, a7, a8, a9, a10, a11, a12, a13, a14, a15, h1, h2⟩ hb => ⟨a0, a1, a2, a3, a4, a5, a6, a7, a8, a9, a10, a11, a12, a13, a14, a15, h1, h2.below hb⟩
/-- What returns a place. -/
def RPl (p : Pl) (w : World) (e : Ending) (w' : World) : Prop := ∃ a0 a1 a2 a3 a4 a5 a6 a7 a8 a9 a10 a11 a12 a13 a14 a15, e = .returned (.agg #[a0, a1, a2, a3, a4, a5, a6, a7, a8, a9, a10, a11, a12, a13, a14, a15]) ∧ PlaceV w' a0 a1 a2 a3 a4 a5 a6 a7 a8 a9 a10 a11 a12 a13 a14 a15 p ∧ Below w.heap.size w w'
theorem Does.rp {P : Program} {o : Oper} {a : Act} {wx : World} {f : FuncId} {args : Array Value} {p : Pl} (hr : (execOp a.eval o).run P wx = .ok (.enter f args) wx) (hc : Calls P f args wx (RPl p wx)) : Does P o (SPl p) false a wx :=
 .inr ⟨rfl, f, args, hr, hc.mono fun _ _ ⟨a0, a1, a2, a3, a4, a5, a6, a7, a8, a9, a10, a11, a12, a13, a14, a15, h1, h2, h3⟩ => ⟨_, h1, h3, a0, a1, a2, a3, a4, a5, a6, a7, a8, a9, a10, a11, a12, a13, a14, a15, rfl, h2⟩⟩
/-- A closure over a box. -/
def SCl (f : FuncId) (T : Nat) (cs : List Value) : Sp := fun w v => ∃ g, v = .func (.func f) #[] #[.pointer (some ⟨g, 0, none⟩)] ∧ Bx w g T cs
theorem SCl.mono (f : FuncId) (T : Nat) (cs : List Value) : Mono (SCl f T cs) := fun _ _ _ ⟨g, h1, h2⟩ hb => ⟨g, h1, h2.below hb⟩
def vput (p : Pl) (a : Rat × Rat) : Rat × Rat := vadd (vrot p.1 a) p.2
def vinv (p : Pl) : Pl := (vbak p.1, vsca (vrot (vbak p.1) p.2) (Rat.divInt (-1) 1))
def vside (a b c : Rat × Rat) : Int := sgnZ (vcrs (vsub b a) (vsub c a)).num
end Go.Proofs.YtcfejkpadcccbaaGreat
namespace Go.Proofs.YtcfejkpadcccbaaGreat
set_option maxHeartbeats 4000000
open Go.RowKit
attribute [local go_sem] run_store_one
set_option linter.unusedVariables false
theorem one4_neg (A : Option Addr) (n c : Nat) (w : World) : Calls Tryz.prog 102 #[.agg #[.bool true, .slice A n c]] w fun e w' => e = .returned (.bool false) ∧ Below w.heap.size w w' := by
 go_enter Tryz.func102, Tryz.ntmps102
 go_wp2
 go_ret
 exact ⟨rfl, (Below.refl _ _).alloc (by simp) _⟩
theorem one4_len (A : Option Addr) (n c : Nat) (w : World) (hn : ((n : Int) != 1) = true) (hn2 : (n != 1) = true) : Calls Tryz.prog 102 #[.agg #[.bool false, .slice A n c]] w fun e w' => e = .returned (.bool false) ∧ Below w.heap.size w w' := by
 go_enter Tryz.func102, Tryz.ntmps102
 go_wp2
 go_ret
 exact ⟨rfl, (Below.refl _ _).alloc (by simp) _⟩
theorem one4_one (b o c : Nat) (d : Int) (v : Bool) (w : World) (hc : w.cell? ⟨b, o, none⟩ = some (.int .i64 d)) (hb : b < w.heap.size) (hv : (d == 1) = v) : Calls Tryz.prog 102 #[.agg #[.bool false, .slice (some ⟨b, o, none⟩) 1 c]] w fun e w' => e = .returned (.bool v) ∧ Below w.heap.size w w' := by
 have f1 : (w.alloc (.cells #[.bool false, .slice (some ⟨b, o, none⟩) 1 c] 31)).cell? ⟨b, o, none⟩ = some (.int .i64 d) := kalloc hc hb
 clear hc
 go_enter Tryz.func102, Tryz.ntmps102
 go_wp2
 go_ret
 exact ⟨rfl, (Below.refl _ _).alloc (by simp) _⟩
theorem one4_any (a0 a1 : Value) (x : Int) (w : World) (hx : IntV w a0 a1 x) (v : Bool) (hv : v = decide (x = 1)) : Calls Tryz.prog 102 #[.agg #[a0, a1]] w fun e w' => e = .returned (.bool v) ∧ Below w.heap.size w w' := by
 obtain ⟨l, rfl, hs, hc, hl⟩ := hx
 obtain ⟨A, n, c, rfl, rfl, _, _, hr, _⟩ := hs
 by_cases h : x < 0
 ·rw [decide_eq_true h, hv, decide_eq_false (by omega)]
  exact one4_neg A l.length c w
 ·rw [decide_eq_false h]
  by_cases h1 : l.length = 1
  ·obtain ⟨d, rfl⟩ := List.length_eq_one_iff.1 h1
   obtain ⟨b, o, rfl, hb, hcell⟩ := hr (by simp)
   have hd : I.val [d] = d := by simp [I.val]
   rw [hd] at hl
   refine one4_one b o c d v w (hcell 0 _ rfl) hb ?_
   rw [hv]
   by_cases h2 : d = 1
   ·rw [decide_eq_true (by omega), h2]; rfl
   ·rw [decide_eq_false (by omega)]; exact beq_eq_false_iff_ne.2 h2
  ·have h2 : v = false := by
    rw [hv]
    apply decide_eq_false
    rintro rfl
    have h3 := I.Can.uniq hc (I.Can.one (d := 1) (by omega) (by omega)) (by rw [hl]; simp [I.val])
    rw [h3] at h1
    exact h1 rfl
   rw [h2]
   exact one4_len A l.length c w (by simp; omega) (by simp; omega)
end Go.Proofs.YtcfejkpadcccbaaGreat
