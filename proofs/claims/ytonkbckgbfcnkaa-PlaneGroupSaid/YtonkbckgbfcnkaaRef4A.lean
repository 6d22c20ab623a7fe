/-
 THE WALKS of the reference of package rat: Den, one, Make, Of, Add, Neg, Sub, Mul, Div, Sign.
-/
import Derived.Test.YtonkbckgbfcnkaaRef3F
import Derived.Test.YtonkbckgbfcnkaaWalkRSub
namespace Go.Proofs.Ytonkbckgbfcnkaa
set_option maxHeartbeats 4000000
open Go.RowKit
attribute [local go_sem] run_store_one
set_option linter.unusedVariables false
theorem den4_1 (a0 a1 : Value) (g : Bool) (A : Option Addr) (c : Nat) (w : World) (o0 : a0.oneCell' = true) (o1 : a1.oneCell' = true) : Calls Try.prog 80 #[.agg #[a0, a1, .bool g, .slice A 0 c]] w (RI 1 w) := by
 go_enter Try.func80, Try.ntmps80
 go_wp2_with fail
 obtain ⟨W1, hW⟩ : ∃ W, W = (w.alloc (.cells #[a0, a1, .bool g, .slice A 0 c] 26)).alloc (.cells #[.bool false, .slice none 0 0] 24) := ⟨_, rfl⟩
 rw [← hW]
 have k2 : Bx W1 (w.heap.size) 26 [a0, a1, .bool g, .slice A 0 c] := by rw [hW]; exact (Bx.at_ rfl).alloc _
 have k3 : Bx W1 (w.heap.size + 1) 24 [.bool false, .slice none 0 0] := by rw [hW]; exact Bx.at_ (by simp)
 have hB : Below w.heap.size w W1 := by rw [hW]; exact ((Below.refl _ _).alloc (by simp) _).alloc (by simp) _
 have k6 := Lib.hid hB; clear hW hB
 obtain ⟨kc, kd, ke, kf, kg, kh⟩ := k2.f4
 obtain ⟨ki, kj, kk, kl⟩ := k3.f2
 have k4 := rof3_any 1 W1 ⟨by omega, by omega⟩
 (with_reducible refine k4.mono ?_)
 clear k4
 rintro e w15 ⟨u0, u1, rfl, k0, k1⟩
 obtain ⟨km, kn, ko, kq, kr, ks, kt⟩ := k2.b4 k1
 obtain ⟨k5, k7, k8, ku, kv⟩ := k3.b2 k1
 have k9 := Lib.hid (Blw k6.out k1)
 have ka := Lib.hid k0
 have o_u0 := k0.one0
 have o_u1 := k0.one1
 clear k0 k1
 go_wp2_with fail
 have kb := k5.set_ 0 (u0)
 have hkp : Kp w15 ((w15.setCell ⟨w.heap.size + 1, 0, none⟩ (u0)).setCell ⟨w.heap.size + 1, 1, none⟩ (u1)) := ((Kp.refl _).set_ k5 (by decide) _).set_ kb (by decide) _
 refine bodyPost_ret (v := .agg #[u0, u1]) (by simp [results, Try.results80, go_sem, k7, k8]) rfl ⟨_, _, rfl, ?_, ((k9.out).setCell (by simp <;> omega) _).setCell (by simp <;> omega) _⟩
 exact ka.out.kp hkp
theorem den4_n (a0 a1 : Value) (g : Bool) (A : Option Addr) (n c : Nat) (x : Int) (w : World) (o0 : a0.oneCell' = true) (o1 : a1.oneCell' = true) (hn : ((n : Int) == 0) = false) (hx : IntV w (.bool g) (.slice A n c) x) : Calls Try.prog 80 #[.agg #[a0, a1, .bool g, .slice A n c]] w (RI x w) := by
 have HX := Lib.hid hx
 clear hx
 go_enter Try.func80, Try.ntmps80
 go_wp2_with fail
 obtain ⟨W1, hW⟩ : ∃ W, W = (w.alloc (.cells #[a0, a1, .bool g, .slice A n c] 26)).alloc (.cells #[.bool g, .slice A n c] 24) := ⟨_, rfl⟩
 rw [← hW]
 have k1 : Bx W1 (w.heap.size) 26 [a0, a1, .bool g, .slice A n c] := by rw [hW]; exact (Bx.at_ rfl).alloc _
 have k2 : Bx W1 (w.heap.size + 1) 24 [.bool g, .slice A n c] := by rw [hW]; exact Bx.at_ (by simp)
 have hB : Below w.heap.size w W1 := by rw [hW]; exact ((Below.refl _ _).alloc (by simp) _).alloc (by simp) _
 have k0 := Lib.hid hB; clear hW hB
 have F5 := Lib.hid (HX.out.kp (.of k0.out))
 obtain ⟨k6, k7, k8, k9, ka, kb⟩ := k1.f4
 obtain ⟨k4, k5, kc, kd⟩ := k2.f2
 refine bodyPost_ret (v := .agg #[.bool g, .slice A n c]) (by simp [results, Try.results80, go_sem, k4, k5]) rfl ⟨_, _, rfl, F5.out, k0.out⟩
theorem den4_any (a0 a1 a2 a3 : Value) (r : Rat) (w : World) (hr : RatV w a0 a1 a2 a3 r) : Calls Try.prog 80 #[.agg #[a0, a1, a2, a3]] w (RI r.den w) := by
 have o0 := hr.one0
 have o1 := hr.one1
 obtain ⟨ga, Aa, na, ca, rfl, rfl⟩ := hr.2.form
 have l2 : na = 0 ↔ r.den = 1 := hr.2.len.2.trans dq_zero
 by_cases h : na = 0
 ·have h1 := l2.1 h
  subst h
  rw [h1]
  exact den4_1 a0 a1 ga Aa ca w o0 o1
 ·have h2 := hr.2
  rw [dq_more (fun e => h (l2.2 e))] at h2
  exact den4_n a0 a1 ga Aa na ca r.den w o0 o1 (ne0 h) h2
theorem one4_neg (A : Option Addr) (n c : Nat) (w : World) : Calls Try.prog 86 #[.agg #[.bool true, .slice A n c]] w fun e w' => e = .returned (.bool false) ∧ Below w.heap.size w w' := by
 go_enter Try.func86, Try.ntmps86
 go_wp2
 go_ret
 exact ⟨rfl, (Below.refl _ _).alloc (by simp) _⟩
theorem one4_len (A : Option Addr) (n c : Nat) (w : World) (hn : ((n : Int) != 1) = true) (hn2 : (n != 1) = true) : Calls Try.prog 86 #[.agg #[.bool false, .slice A n c]] w fun e w' => e = .returned (.bool false) ∧ Below w.heap.size w w' := by
 go_enter Try.func86, Try.ntmps86
 go_wp2
 go_ret
 exact ⟨rfl, (Below.refl _ _).alloc (by simp) _⟩
theorem one4_one (b o c : Nat) (d : Int) (v : Bool) (w : World) (hc : w.cell? ⟨b, o, none⟩ = some (.int .i64 d)) (hb : b < w.heap.size) (hv : (d == 1) = v) : Calls Try.prog 86 #[.agg #[.bool false, .slice (some ⟨b, o, none⟩) 1 c]] w fun e w' => e = .returned (.bool v) ∧ Below w.heap.size w w' := by
 have f1 : (w.alloc (.cells #[.bool false, .slice (some ⟨b, o, none⟩) 1 c] 24)).cell? ⟨b, o, none⟩ = some (.int .i64 d) := kalloc hc hb
 clear hc
 go_enter Try.func86, Try.ntmps86
 go_wp2
 go_ret
 exact ⟨rfl, (Below.refl _ _).alloc (by simp) _⟩
theorem one4_any (a0 a1 : Value) (x : Int) (w : World) (hx : IntV w a0 a1 x) (v : Bool) (hv : v = decide (x = 1)) : Calls Try.prog 86 #[.agg #[a0, a1]] w fun e w' => e = .returned (.bool v) ∧ Below w.heap.size w w' := by
 obtain ⟨l, rfl, hs, hc, hl⟩ := hx
 obtain ⟨A, n, c, rfl, rfl, _, _, hr, _⟩ := hs
 by_cases h : x < 0
 ·rw [decide_eq_true h, hv, decide_eq_false (by omega)]
  exact one4_neg A l.length c w
 ·rw [decide_eq_false h]
  by_cases h1 : l.length = 1
  ·obtain ⟨d, rfl⟩ := List.length_eq_one_iff.1 h1
   obtain ⟨b, o, rfl, hb, hcell⟩ := hr (by simp)
   have hd : I.val [d] = d := by simp [I.val]
   rw [hd] at hl
   refine one4_one b o c d v w (hcell 0 _ rfl) hb ?_
   rw [hv]
   by_cases h2 : d = 1
   ·rw [decide_eq_true (by omega), h2]; rfl
   ·rw [decide_eq_false (by omega)]; exact beq_eq_false_iff_ne.2 h2
  ·have h2 : v = false := by
    rw [hv]
    apply decide_eq_false
    rintro rfl
    have h3 := I.Can.uniq hc (I.Can.one (d := 1) (by omega) (by omega)) (by rw [hl]; simp [I.val])
    rw [h3] at h1
    exact h1 rfl
   rw [h2]
   exact one4_len A l.length c w (by simp; omega) (by simp; omega)
theorem make4_y0 (gx gy : Bool) (Ax Ay : Option Addr) (nx cx cy : Nat) (w : World) :
  Calls Try.prog 70 #[.agg #[.bool gx, .slice Ax nx cx], .agg #[.bool gy, .slice Ay 0 cy]] w (RR 0 w) := by
 go_enter Try.func70, Try.ntmps70
 go_wp2
 exact bodyPost_ret (v := .agg #[.bool false, .slice none 0 0, .bool false, .slice none 0 0]) (by simp [results, Try.results70, go_sem]) rfl ⟨_, _, _, _, rfl, RatV.zero _, (((Below.refl _ _).alloc (Nat.le_refl _) _).alloc (by simp) _).alloc (by simp <;> omega) _⟩
theorem make4_x0 (gx gy : Bool) (Ax Ay : Option Addr) (ny cx cy : Nat) (w : World) (hny : ((ny : Int) == 0) = false) :
  Calls Try.prog 70 #[.agg #[.bool gx, .slice Ax 0 cx], .agg #[.bool gy, .slice Ay ny cy]] w (RR 0 w) := by
 go_enter Try.func70, Try.ntmps70
 go_wp2
 exact bodyPost_ret (v := .agg #[.bool false, .slice none 0 0, .bool false, .slice none 0 0]) (by simp [results, Try.results70, go_sem]) rfl ⟨_, _, _, _, rfl, RatV.zero _, (((Below.refl _ _).alloc (Nat.le_refl _) _).alloc (by simp) _).alloc (by simp <;> omega) _⟩
set_option maxRecDepth 100000 in
theorem make4_01 (k : Nat) (gx gy : Bool) (Ax Ay : Option Addr) (nx cx ny cy : Nat) (x y G : Int) (w : World) (hx : IntV w (.bool gx) (.slice Ax nx cx) x) (hy : IntV w (.bool gy) (.slice Ay ny cy) y) (bx : I.Bd k x) (by_ : I.Bd k y) (hk : k ≤ 800000000000) (hnx : ((nx : Int) == 0) = false) (hny : ((ny : Int) == 0) = false) (hG : G = (Int.gcd x y : Int)) (hG0 : G ≠ 0) (hbG : I.Bd k G) (hsy : 0 < y / G) (h1 : (y / G) = 1) (r : Rat) (hr : r.num = (x / G) ∧ (r.den : Int) = (y / G)) :
  Calls Try.prog 70 #[.agg #[.bool gx, .slice Ax nx cx], .agg #[.bool gy, .slice Ay ny cy]] w (RR r w) := by
 have HX := Lib.hid hx; have HY := Lib.hid hy; have HBX := Lib.hid bx; have HBY := Lib.hid by_; have HG := Lib.hid hG; have HBG := Lib.hid hbG; have HSY := Lib.hid hsy; have H1 := Lib.hid h1; have HR := Lib.hid hr; have HG0 := Lib.hid hG0
 clear hx hy bx by_ hG hbG hsy h1 hr hG0
 go_enter Try.func70, Try.ntmps70
 go_wp2_with fail
 obtain ⟨W1, hW⟩ : ∃ W, W = ((w.alloc (.cells #[.bool gx, .slice Ax nx cx] 24)).alloc (.cells #[.bool gy, .slice Ay ny cy] 24)).alloc (.cells #[.bool false, .slice none 0 0, .bool false, .slice none 0 0] 26) := ⟨_, rfl⟩
 rw [← hW]
 have kH : Bx W1 (w.heap.size) 24 [.bool gx, .slice Ax nx cx] := by rw [hW]; exact ((Bx.at_ rfl).alloc _).alloc _
 have kI : Bx W1 (w.heap.size + 1) 24 [.bool gy, .slice Ay ny cy] := by rw [hW]; exact (Bx.at_ (by simp)).alloc _
 have kJ : Bx W1 (w.heap.size + 1 + 1) 26 [.bool false, .slice none 0 0, .bool false, .slice none 0 0] := by rw [hW]; exact Bx.at_ (by simp)
 have hB : Below w.heap.size w W1 := by rw [hW]; exact (((Below.refl _ _).alloc (by simp) _).alloc (by simp) _).alloc (by simp; omega) _
 have k7 := Lib.hid hB; clear hW hB
 have F6 := Lib.hid (HX.out.kp (.of k7.out))
 have F7 := Lib.hid (HY.out.kp (.of k7.out))
 have k8 := rgcd3_any k (.bool gx) (.slice Ax nx cx) (.bool gy) (.slice Ay ny cy) x y W1 F6.out F7.out HBX.out HBY.out hk
 rw [← HG.out] at k8
 (with_reducible refine k8.mono ?_)
 clear k8
 rintro e w8 ⟨g0, g1, rfl, k4, k3⟩
 have k9 := kH.below k3
 have ka := kI.below k3
 have kb := kJ.below k3
 have kK := Lib.hid (F6.out.kp (.of k3))
 have kL := Lib.hid (F7.out.kp (.of k3))
 have kM := Lib.hid (Blw k7.out k3)
 have kN := Lib.hid k4
 have o_g0 := k4.one0
 have o_g1 := k4.one1
 clear k4 k3
 obtain ⟨k0s, k0t, k0u, l20⟩ := k9.f2
 obtain ⟨k0w, k0x, k0y, l24⟩ := ka.f2
 obtain ⟨k0A, k0B, k0C, k0D, k0E, l30⟩ := kb.f4
 go_wp2_with fail
 obtain ⟨W31, hW⟩ : ∃ W, W = w8.alloc (.cells #[g0, g1] 24) := ⟨_, rfl⟩
 rw [← hW]
 have hB : Below w8.heap.size w8 W31 := by rw [hW]; exact (Below.refl _ _).alloc (by simp) _
 have k0G := k9.lt
 have k0H := ka.lt
 have k0I := kb.lt
 have kO : Bx W31 (w8.heap.size) 24 [g0, g1] := by rw [hW]; exact Bx.at_ rfl
 clear hW
 have kP := k9.below hB
 have kQ := ka.below hB
 have kR := kb.below hB
 have kS := Lib.hid (kK.out.kp (.of hB))
 have kT := Lib.hid (kL.out.kp (.of hB))
 have kt := Lib.hid (kN.out.kp (.of hB))
 have kU := Lib.hid (Blw kM.out hB)
 clear hB
 have ku := rdiv3_any k (.bool gx) (.slice Ax nx cx) g0 g1 x G W31 kS.out kt.out HBX.out HBG.out hk HG0.out
 (with_reducible refine ku.mono ?_)
 clear ku
 rintro e w43 ⟨p0, p1, a0, a1, rfl, k5, kc, k2⟩
 have kd := kP.below k2
 have ke := kQ.below k2
 have kf := kR.below k2
 have kg := kO.below k2
 have kV := Lib.hid (kT.out.kp (.of k2))
 have kW := Lib.hid (kt.out.kp (.of k2))
 have kX := Lib.hid (Blw kU.out k2)
 have kY := Lib.hid k5
 have o_p0 := k5.one0
 have o_p1 := k5.one1
 have o_a0 := kc.one0
 have o_a1 := kc.one1
 clear k5 kc k2
 obtain ⟨k0J, k0K, k0L, l58⟩ := kd.f2
 obtain ⟨k0N, k0O, k0P, l62⟩ := ke.f2
 obtain ⟨k0R, k0S, k0T, k0U, k0V, l68⟩ := kf.f4
 obtain ⟨k0X, k0Y, k0Z, l72⟩ := kg.f2
 go_wp2_with fail
 obtain ⟨W73, hW⟩ : ∃ W, W = (w43.alloc (.cells #[p0, p1] 24)).alloc (.cells #[a0, a1] 24) := ⟨_, rfl⟩
 rw [← hW]
 have hB : Below w43.heap.size w43 W73 := by rw [hW]; exact ((Below.refl _ _).alloc (by simp) _).alloc (by simp <;> omega) _
 have k11 := kd.lt
 have k12 := ke.lt
 have k13 := kf.lt
 have k14 := kg.lt
 have kZ : Bx W73 (w43.heap.size) 24 [p0, p1] := by rw [hW]; exact (Bx.at_ rfl).alloc _
 have k00 : Bx W73 (w43.heap.size + 1) 24 [a0, a1] := by rw [hW]; exact Bx.at_ (by simp)
 clear hW
 have k01 := kd.below hB
 have k02 := ke.below hB
 have k03 := kf.below hB
 have k04 := kg.below hB
 have F85 := Lib.hid (kV.out.kp (.of hB))
 have F86 := Lib.hid (kW.out.kp (.of hB))
 have F87 := Lib.hid (kY.out.kp (.of hB))
 have k08 := Lib.hid (Blw kX.out hB)
 clear hB
 have kv := rdiv3_any k (.bool gy) (.slice Ay ny cy) g0 g1 y G W73 F85.out F86.out HBY.out HBG.out hk HG0.out
 (with_reducible refine kv.mono ?_)
 clear kv
 rintro e w90 ⟨q0, q1, b0, b1, rfl, k6, kh, k1⟩
 have ki := k01.below k1
 have kj := k02.below k1
 have kk := k03.below k1
 have kl := k04.below k1
 have km := kZ.below k1
 have kn := k00.below k1
 have k09 := Lib.hid (F87.out.kp (.of k1))
 have k0a := Lib.hid (Blw k08.out k1)
 have ko := Lib.hid k6
 have o_q0 := k6.one0
 have o_q1 := k6.one1
 have o_b0 := kh.one0
 have o_b1 := kh.one1
 clear k6 kh k1
 obtain ⟨gq, Aq, nq, cq, rfl, rfl⟩ := ko.out.form
 obtain ⟨k15, k16, k17, k18⟩ := ki.f2
 obtain ⟨k19, k1a, k1b, k1c⟩ := kj.f2
 obtain ⟨k1d, k1e, k1f, k1g, k1h, k1i⟩ := kk.f4
 obtain ⟨k1j, k1k, k1l, k1m⟩ := kl.f2
 obtain ⟨k1n, k1o, k1p, k1q⟩ := km.f2
 obtain ⟨k1r, k1s, k1t, k1u⟩ := kn.f2
 have hgq := ko.out.len.1
 rw [show decide (y / G < 0) = false from decide_eq_false (by have := HSY.out; omega)] at hgq
 subst hgq
 go_wp2_with fail
 obtain ⟨W132, hW⟩ : ∃ W, W = (w90.alloc (.cells #[.bool false, .slice Aq nq cq] 24)).alloc (.cells #[b0, b1] 24) := ⟨_, rfl⟩
 rw [← hW]
 have hB : Below w90.heap.size w90 W132 := by rw [hW]; exact ((Below.refl _ _).alloc (by simp) _).alloc (by simp <;> omega) _
 have k1v := ki.lt
 have k1w := kj.lt
 have k1x := kk.lt
 have k1y := kl.lt
 have k1z := km.lt
 have k1A := kn.lt
 have kw : Bx W132 (w90.heap.size) 24 [.bool false, .slice Aq nq cq] := by rw [hW]; exact (Bx.at_ rfl).alloc _
 have kx : Bx W132 (w90.heap.size + 1) 24 [b0, b1] := by rw [hW]; exact Bx.at_ (by simp)
 clear hW
 have ky := ki.below hB
 have kz := kj.below hB
 have kA := kk.below hB
 have kB := kl.below hB
 have kC := km.below hB
 have kD := kn.below hB
 have k0b := Lib.hid (k09.out.kp (.of hB))
 have k0c := Lib.hid (ko.out.kp (.of hB))
 have k0d := Lib.hid (Blw k0a.out hB)
 clear hB
 obtain ⟨k1B, k1C, k1D, k1E⟩ := ky.f2
 obtain ⟨k1F, k1G, k1H, k1I⟩ := kz.f2
 obtain ⟨k1J, k1K, k1L, k1M, k1N, k1O⟩ := kA.f4
 obtain ⟨k1P, k1Q, k1R, k1S⟩ := kB.f2
 obtain ⟨k1T, k1U, k1V, k1W⟩ := kC.f2
 obtain ⟨k1X, k1Y, k1Z, k20⟩ := kD.f2
 obtain ⟨k21, k22, k23, k24⟩ := kw.f2
 obtain ⟨k25, k26, k27, k28⟩ := kx.f2
 go_wp2_with fail
 have kE := one4_any (.bool false) (.slice Aq nq cq) (y / G) W132 k0c.out true (decide_eq_true H1.out).symm
 (with_reducible refine kE.mono ?_)
 clear kE
 rintro e w189 ⟨rfl, k0⟩
 have k0e := ky.below k0
 have k0f := kz.below k0
 have kq := kA.below k0
 have k0g := kB.below k0
 have k0h := kC.below k0
 have k0i := kD.below k0
 have k0j := kw.below k0
 have k0k := kx.below k0
 have k0l := Lib.hid (k0b.out.kp (.of k0))
 have k0m := Lib.hid (Blw k0d.out k0)
 clear k0
 obtain ⟨k29, k2a, k2b, k2c⟩ := k0e.f2
 obtain ⟨k2d, k2e, k2f, k2g⟩ := k0f.f2
 obtain ⟨k0n, k0o, k0p, k0q, k2h, k2i⟩ := kq.f4
 obtain ⟨k2j, k2k, k2l, k2m⟩ := k0g.f2
 obtain ⟨k2n, k2o, k2p, k2q⟩ := k0h.f2
 obtain ⟨k2r, k2s, k2t, k2u⟩ := k0i.f2
 obtain ⟨k2v, k2w, k2x, k2y⟩ := k0j.f2
 obtain ⟨k2z, k2A, k2B, k2C⟩ := k0k.f2
 go_wp2
 have kF := (kq).set_ 0 (p0)
 have kG := (kF).set_ 1 (p1)
 have k0r := (kG).set_ 2 (.bool false)
 have hkp : Kp w189 ((((w189.setCell ⟨w.heap.size + 1 + 1, 0, none⟩ (p0)).setCell ⟨w.heap.size + 1 + 1, 1, none⟩ (p1)).setCell ⟨w.heap.size + 1 + 1, 2, none⟩ (.bool false)).setCell ⟨w.heap.size + 1 + 1, 3, none⟩ (.slice none 0 0)) := ((((Kp.refl _).set_ (kq) (by decide) _).set_ (kF) (by decide) _).set_ (kG) (by decide) _).set_ (k0r) (by decide) _
 refine bodyPost_ret (v := .agg #[p0, p1, .bool false, .slice none 0 0]) (by simp [results, Try.results70, go_sem, k0n, k0o, k0p, k0q]) rfl ⟨_, _, _, _, rfl, ⟨?_, ?_⟩, ((((k0m.out).setCell (by simp <;> omega) _).setCell (by simp <;> omega) _).setCell (by simp <;> omega) _).setCell (by simp <;> omega) _⟩
 ·rw [HR.out.1]; exact k0l.out.kp hkp
 ·rw [dq_one (by have h2 := HR.out.2; rw [H1.out] at h2; omega)]; exact IntV.zero _
set_option maxRecDepth 100000 in
theorem make4_00 (k : Nat) (gx gy : Bool) (Ax Ay : Option Addr) (nx cx ny cy : Nat) (x y G : Int) (w : World) (hx : IntV w (.bool gx) (.slice Ax nx cx) x) (hy : IntV w (.bool gy) (.slice Ay ny cy) y) (bx : I.Bd k x) (by_ : I.Bd k y) (hk : k ≤ 800000000000) (hnx : ((nx : Int) == 0) = false) (hny : ((ny : Int) == 0) = false) (hG : G = (Int.gcd x y : Int)) (hG0 : G ≠ 0) (hbG : I.Bd k G) (hsy : 0 < y / G) (h1 : ¬ (y / G) = 1) (r : Rat) (hr : r.num = (x / G) ∧ (r.den : Int) = (y / G)) :
  Calls Try.prog 70 #[.agg #[.bool gx, .slice Ax nx cx], .agg #[.bool gy, .slice Ay ny cy]] w (RR r w) := by
 have HX := Lib.hid hx; have HY := Lib.hid hy; have HBX := Lib.hid bx; have HBY := Lib.hid by_; have HG := Lib.hid hG; have HBG := Lib.hid hbG; have HSY := Lib.hid hsy; have H1 := Lib.hid h1; have HR := Lib.hid hr; have HG0 := Lib.hid hG0
 clear hx hy bx by_ hG hbG hsy h1 hr hG0
 go_enter Try.func70, Try.ntmps70
 go_wp2_with fail
 obtain ⟨W1, hW⟩ : ∃ W, W = ((w.alloc (.cells #[.bool gx, .slice Ax nx cx] 24)).alloc (.cells #[.bool gy, .slice Ay ny cy] 24)).alloc (.cells #[.bool false, .slice none 0 0, .bool false, .slice none 0 0] 26) := ⟨_, rfl⟩
 rw [← hW]
 have kI : Bx W1 (w.heap.size) 24 [.bool gx, .slice Ax nx cx] := by rw [hW]; exact ((Bx.at_ rfl).alloc _).alloc _
 have kJ : Bx W1 (w.heap.size + 1) 24 [.bool gy, .slice Ay ny cy] := by rw [hW]; exact (Bx.at_ (by simp)).alloc _
 have kK : Bx W1 (w.heap.size + 1 + 1) 26 [.bool false, .slice none 0 0, .bool false, .slice none 0 0] := by rw [hW]; exact Bx.at_ (by simp)
 have hB : Below w.heap.size w W1 := by rw [hW]; exact (((Below.refl _ _).alloc (by simp) _).alloc (by simp) _).alloc (by simp; omega) _
 have k7 := Lib.hid hB; clear hW hB
 have F6 := Lib.hid (HX.out.kp (.of k7.out))
 have F7 := Lib.hid (HY.out.kp (.of k7.out))
 have k8 := rgcd3_any k (.bool gx) (.slice Ax nx cx) (.bool gy) (.slice Ay ny cy) x y W1 F6.out F7.out HBX.out HBY.out hk
 rw [← HG.out] at k8
 (with_reducible refine k8.mono ?_)
 clear k8
 rintro e w8 ⟨g0, g1, rfl, k4, k3⟩
 have k9 := kI.below k3
 have ka := kJ.below k3
 have kb := kK.below k3
 have kL := Lib.hid (F6.out.kp (.of k3))
 have kM := Lib.hid (F7.out.kp (.of k3))
 have kN := Lib.hid (Blw k7.out k3)
 have kO := Lib.hid k4
 have o_g0 := k4.one0
 have o_g1 := k4.one1
 clear k4 k3
 obtain ⟨k0t, k0u, k0v, l20⟩ := k9.f2
 obtain ⟨k0x, k0y, k0z, l24⟩ := ka.f2
 obtain ⟨k0B, k0C, k0D, k0E, k0F, l30⟩ := kb.f4
 go_wp2_with fail
 obtain ⟨W31, hW⟩ : ∃ W, W = w8.alloc (.cells #[g0, g1] 24) := ⟨_, rfl⟩
 rw [← hW]
 have hB : Below w8.heap.size w8 W31 := by rw [hW]; exact (Below.refl _ _).alloc (by simp) _
 have k0H := k9.lt
 have k0I := ka.lt
 have k0J := kb.lt
 have kP : Bx W31 (w8.heap.size) 24 [g0, g1] := by rw [hW]; exact Bx.at_ rfl
 clear hW
 have kQ := k9.below hB
 have kR := ka.below hB
 have kS := kb.below hB
 have kT := Lib.hid (kL.out.kp (.of hB))
 have kU := Lib.hid (kM.out.kp (.of hB))
 have kt := Lib.hid (kO.out.kp (.of hB))
 have kV := Lib.hid (Blw kN.out hB)
 clear hB
 have ku := rdiv3_any k (.bool gx) (.slice Ax nx cx) g0 g1 x G W31 kT.out kt.out HBX.out HBG.out hk HG0.out
 (with_reducible refine ku.mono ?_)
 clear ku
 rintro e w43 ⟨p0, p1, a0, a1, rfl, k5, kc, k2⟩
 have kd := kQ.below k2
 have ke := kR.below k2
 have kf := kS.below k2
 have kg := kP.below k2
 have kW := Lib.hid (kU.out.kp (.of k2))
 have kX := Lib.hid (kt.out.kp (.of k2))
 have kY := Lib.hid (Blw kV.out k2)
 have kZ := Lib.hid k5
 have o_p0 := k5.one0
 have o_p1 := k5.one1
 have o_a0 := kc.one0
 have o_a1 := kc.one1
 clear k5 kc k2
 obtain ⟨k0K, k0L, k0M, l58⟩ := kd.f2
 obtain ⟨k0O, k0P, k0Q, l62⟩ := ke.f2
 obtain ⟨k0S, k0T, k0U, k0V, k0W, l68⟩ := kf.f4
 obtain ⟨k0Y, k0Z, k10, l72⟩ := kg.f2
 go_wp2_with fail
 obtain ⟨W73, hW⟩ : ∃ W, W = (w43.alloc (.cells #[p0, p1] 24)).alloc (.cells #[a0, a1] 24) := ⟨_, rfl⟩
 rw [← hW]
 have hB : Below w43.heap.size w43 W73 := by rw [hW]; exact ((Below.refl _ _).alloc (by simp) _).alloc (by simp <;> omega) _
 have k12 := kd.lt
 have k13 := ke.lt
 have k14 := kf.lt
 have k15 := kg.lt
 have k00 : Bx W73 (w43.heap.size) 24 [p0, p1] := by rw [hW]; exact (Bx.at_ rfl).alloc _
 have k01 : Bx W73 (w43.heap.size + 1) 24 [a0, a1] := by rw [hW]; exact Bx.at_ (by simp)
 clear hW
 have k02 := kd.below hB
 have k03 := ke.below hB
 have k04 := kf.below hB
 have k05 := kg.below hB
 have F85 := Lib.hid (kW.out.kp (.of hB))
 have F86 := Lib.hid (kX.out.kp (.of hB))
 have F87 := Lib.hid (kZ.out.kp (.of hB))
 have k09 := Lib.hid (Blw kY.out hB)
 clear hB
 have kv := rdiv3_any k (.bool gy) (.slice Ay ny cy) g0 g1 y G W73 F85.out F86.out HBY.out HBG.out hk HG0.out
 (with_reducible refine kv.mono ?_)
 clear kv
 rintro e w90 ⟨q0, q1, b0, b1, rfl, k6, kh, k1⟩
 have ki := k02.below k1
 have kj := k03.below k1
 have kk := k04.below k1
 have kl := k05.below k1
 have km := k00.below k1
 have kn := k01.below k1
 have k0a := Lib.hid (F87.out.kp (.of k1))
 have k0b := Lib.hid (Blw k09.out k1)
 have ko := Lib.hid k6
 have o_q0 := k6.one0
 have o_q1 := k6.one1
 have o_b0 := kh.one0
 have o_b1 := kh.one1
 clear k6 kh k1
 obtain ⟨gq, Aq, nq, cq, rfl, rfl⟩ := ko.out.form
 obtain ⟨k16, k17, k18, k19⟩ := ki.f2
 obtain ⟨k1a, k1b, k1c, k1d⟩ := kj.f2
 obtain ⟨k1e, k1f, k1g, k1h, k1i, k1j⟩ := kk.f4
 obtain ⟨k1k, k1l, k1m, k1n⟩ := kl.f2
 obtain ⟨k1o, k1p, k1q, k1r⟩ := km.f2
 obtain ⟨k1s, k1t, k1u, k1v⟩ := kn.f2
 have hgq := ko.out.len.1
 rw [show decide (y / G < 0) = false from decide_eq_false (by have := HSY.out; omega)] at hgq
 subst hgq
 go_wp2_with fail
 obtain ⟨W132, hW⟩ : ∃ W, W = (w90.alloc (.cells #[.bool false, .slice Aq nq cq] 24)).alloc (.cells #[b0, b1] 24) := ⟨_, rfl⟩
 rw [← hW]
 have hB : Below w90.heap.size w90 W132 := by rw [hW]; exact ((Below.refl _ _).alloc (by simp) _).alloc (by simp <;> omega) _
 have k1w := ki.lt
 have k1x := kj.lt
 have k1y := kk.lt
 have k1z := kl.lt
 have k1A := km.lt
 have k1B := kn.lt
 have kw : Bx W132 (w90.heap.size) 24 [.bool false, .slice Aq nq cq] := by rw [hW]; exact (Bx.at_ rfl).alloc _
 have kx : Bx W132 (w90.heap.size + 1) 24 [b0, b1] := by rw [hW]; exact Bx.at_ (by simp)
 clear hW
 have ky := ki.below hB
 have kz := kj.below hB
 have kA := kk.below hB
 have kB := kl.below hB
 have kC := km.below hB
 have kD := kn.below hB
 have k0c := Lib.hid (k0a.out.kp (.of hB))
 have kE := Lib.hid (ko.out.kp (.of hB))
 have k0d := Lib.hid (Blw k0b.out hB)
 clear hB
 obtain ⟨k1C, k1D, k1E, k1F⟩ := ky.f2
 obtain ⟨k1G, k1H, k1I, k1J⟩ := kz.f2
 obtain ⟨k1K, k1L, k1M, k1N, k1O, k1P⟩ := kA.f4
 obtain ⟨k1Q, k1R, k1S, k1T⟩ := kB.f2
 obtain ⟨k1U, k1V, k1W, k1X⟩ := kC.f2
 obtain ⟨k1Y, k1Z, k20, k21⟩ := kD.f2
 obtain ⟨k22, k23, k24, k25⟩ := kw.f2
 obtain ⟨k26, k27, k28, k29⟩ := kx.f2
 go_wp2_with fail
 have kF := one4_any (.bool false) (.slice Aq nq cq) (y / G) W132 kE.out false (decide_eq_false H1.out).symm
 (with_reducible refine kF.mono ?_)
 clear kF
 rintro e w189 ⟨rfl, k0⟩
 have k0e := ky.below k0
 have k0f := kz.below k0
 have kq := kA.below k0
 have k0g := kB.below k0
 have k0h := kC.below k0
 have k0i := kD.below k0
 have k0j := kw.below k0
 have k0k := kx.below k0
 have k0l := Lib.hid (k0c.out.kp (.of k0))
 have k0m := Lib.hid (kE.out.kp (.of k0))
 have k0n := Lib.hid (Blw k0d.out k0)
 clear k0
 obtain ⟨k2a, k2b, k2c, k2d⟩ := k0e.f2
 obtain ⟨k2e, k2f, k2g, k2h⟩ := k0f.f2
 obtain ⟨k0o, k0p, k0q, k0r, k2i, k2j⟩ := kq.f4
 obtain ⟨k2k, k2l, k2m, k2n⟩ := k0g.f2
 obtain ⟨k2o, k2p, k2q, k2r⟩ := k0h.f2
 obtain ⟨k2s, k2t, k2u, k2v⟩ := k0i.f2
 obtain ⟨k2w, k2x, k2y, k2z⟩ := k0j.f2
 obtain ⟨k2A, k2B, k2C, k2D⟩ := k0k.f2
 go_wp2
 have kG := (kq).set_ 0 (p0)
 have kH := (kG).set_ 1 (p1)
 have k0s := (kH).set_ 2 (.bool false)
 have hkp : Kp w189 ((((w189.setCell ⟨w.heap.size + 1 + 1, 0, none⟩ (p0)).setCell ⟨w.heap.size + 1 + 1, 1, none⟩ (p1)).setCell ⟨w.heap.size + 1 + 1, 2, none⟩ (.bool false)).setCell ⟨w.heap.size + 1 + 1, 3, none⟩ (.slice Aq nq cq)) := ((((Kp.refl _).set_ (kq) (by decide) _).set_ (kG) (by decide) _).set_ (kH) (by decide) _).set_ (k0s) (by decide) _
 refine bodyPost_ret (v := .agg #[p0, p1, .bool false, .slice Aq nq cq]) (by simp [results, Try.results70, go_sem, k0o, k0p, k0q, k0r]) rfl ⟨_, _, _, _, rfl, ⟨?_, ?_⟩, ((((k0n.out).setCell (by simp <;> omega) _).setCell (by simp <;> omega) _).setCell (by simp <;> omega) _).setCell (by simp <;> omega) _⟩
 ·rw [HR.out.1]; exact k0l.out.kp hkp
 ·rw [dq_more (by have h2 := HR.out.2; have := H1.out; intro h3; rw [h3] at h2; omega), HR.out.2]; exact k0m.out.kp hkp
set_option maxRecDepth 100000 in
theorem make4_11 (k : Nat) (gx gy : Bool) (Ax Ay : Option Addr) (nx cx ny cy : Nat) (x y G : Int) (w : World) (hx : IntV w (.bool gx) (.slice Ax nx cx) x) (hy : IntV w (.bool gy) (.slice Ay ny cy) y) (bx : I.Bd k x) (by_ : I.Bd k y) (hk : k ≤ 800000000000) (hnx : ((nx : Int) == 0) = false) (hny : ((ny : Int) == 0) = false) (hG : G = (Int.gcd x y : Int)) (hG0 : G ≠ 0) (hbG : I.Bd k G) (hsy : y / G < 0) (h1 : (-(y / G)) = 1) (r : Rat) (hr : r.num = (-(x / G)) ∧ (r.den : Int) = (-(y / G))) :
  Calls Try.prog 70 #[.agg #[.bool gx, .slice Ax nx cx], .agg #[.bool gy, .slice Ay ny cy]] w (RR r w) := by
 have HX := Lib.hid hx; have HY := Lib.hid hy; have HBX := Lib.hid bx; have HBY := Lib.hid by_; have HG := Lib.hid hG; have HBG := Lib.hid hbG; have HSY := Lib.hid hsy; have H1 := Lib.hid h1; have HR := Lib.hid hr; have HG0 := Lib.hid hG0
 clear hx hy bx by_ hG hbG hsy h1 hr hG0
 go_enter Try.func70, Try.ntmps70
 go_wp2_with fail
 obtain ⟨W1, hW⟩ : ∃ W, W = ((w.alloc (.cells #[.bool gx, .slice Ax nx cx] 24)).alloc (.cells #[.bool gy, .slice Ay ny cy] 24)).alloc (.cells #[.bool false, .slice none 0 0, .bool false, .slice none 0 0] 26) := ⟨_, rfl⟩
 rw [← hW]
 have k0d : Bx W1 (w.heap.size) 24 [.bool gx, .slice Ax nx cx] := by rw [hW]; exact ((Bx.at_ rfl).alloc _).alloc _
 have k0e : Bx W1 (w.heap.size + 1) 24 [.bool gy, .slice Ay ny cy] := by rw [hW]; exact (Bx.at_ (by simp)).alloc _
 have k0f : Bx W1 (w.heap.size + 1 + 1) 26 [.bool false, .slice none 0 0, .bool false, .slice none 0 0] := by rw [hW]; exact Bx.at_ (by simp)
 have hB : Below w.heap.size w W1 := by rw [hW]; exact (((Below.refl _ _).alloc (by simp) _).alloc (by simp) _).alloc (by simp; omega) _
 have kb := Lib.hid hB; clear hW hB
 have F6 := Lib.hid (HX.out.kp (.of kb.out))
 have F7 := Lib.hid (HY.out.kp (.of kb.out))
 have kc := rgcd3_any k (.bool gx) (.slice Ax nx cx) (.bool gy) (.slice Ay ny cy) x y W1 F6.out F7.out HBX.out HBY.out hk
 rw [← HG.out] at kc
 (with_reducible refine kc.mono ?_)
 clear kc
 rintro e w8 ⟨g0, g1, rfl, k6, k5⟩
 have kd := k0d.below k5
 have ke := k0e.below k5
 have kf := k0f.below k5
 have F13 := Lib.hid (F6.out.kp (.of k5))
 have F14 := Lib.hid (F7.out.kp (.of k5))
 have k0i := Lib.hid (Blw kb.out k5)
 have F16 := Lib.hid k6
 have o_g0 := k6.one0
 have o_g1 := k6.one1
 clear k6 k5
 obtain ⟨k1k, k1l, k1m, l20⟩ := kd.f2
 obtain ⟨k1o, k1p, k1q, l24⟩ := ke.f2
 obtain ⟨k1s, k1t, k1u, k1v, k1w, l30⟩ := kf.f4
 go_wp2_with fail
 obtain ⟨W31, hW⟩ : ∃ W, W = w8.alloc (.cells #[g0, g1] 24) := ⟨_, rfl⟩
 rw [← hW]
 have hB : Below w8.heap.size w8 W31 := by rw [hW]; exact (Below.refl _ _).alloc (by simp) _
 have k1y := kd.lt
 have k1z := ke.lt
 have k1A := kf.lt
 have k0k : Bx W31 (w8.heap.size) 24 [g0, g1] := by rw [hW]; exact Bx.at_ rfl
 clear hW
 have k0l := kd.below hB
 have k0m := ke.below hB
 have k0n := kf.below hB
 have F39 := Lib.hid (F13.out.kp (.of hB))
 have F40 := Lib.hid (F14.out.kp (.of hB))
 have kz := Lib.hid (F16.out.kp (.of hB))
 have k0q := Lib.hid (Blw k0i.out hB)
 clear hB
 have kA := rdiv3_any k (.bool gx) (.slice Ax nx cx) g0 g1 x G W31 F39.out kz.out HBX.out HBG.out hk HG0.out
 (with_reducible refine kA.mono ?_)
 clear kA
 rintro e w43 ⟨p0, p1, a0, a1, rfl, k7, kg, k4⟩
 have kh := k0l.below k4
 have ki := k0m.below k4
 have kj := k0n.below k4
 have kk := k0k.below k4
 have F50 := Lib.hid (F40.out.kp (.of k4))
 have F51 := Lib.hid (kz.out.kp (.of k4))
 have k0t := Lib.hid (Blw k0q.out k4)
 have F53 := Lib.hid k7
 have o_p0 := k7.one0
 have o_p1 := k7.one1
 have o_a0 := kg.one0
 have o_a1 := kg.one1
 clear k7 kg k4
 obtain ⟨k1B, k1C, k1D, l58⟩ := kh.f2
 obtain ⟨k1F, k1G, k1H, l62⟩ := ki.f2
 obtain ⟨k1J, k1K, k1L, k1M, k1N, l68⟩ := kj.f4
 obtain ⟨k1P, k1Q, k1R, l72⟩ := kk.f2
 go_wp2_with fail
 obtain ⟨W73, hW⟩ : ∃ W, W = (w43.alloc (.cells #[p0, p1] 24)).alloc (.cells #[a0, a1] 24) := ⟨_, rfl⟩
 rw [← hW]
 have hB : Below w43.heap.size w43 W73 := by rw [hW]; exact ((Below.refl _ _).alloc (by simp) _).alloc (by simp <;> omega) _
 have k1T := kh.lt
 have k1U := ki.lt
 have k1V := kj.lt
 have k1W := kk.lt
 have k0v : Bx W73 (w43.heap.size) 24 [p0, p1] := by rw [hW]; exact (Bx.at_ rfl).alloc _
 have k0w : Bx W73 (w43.heap.size + 1) 24 [a0, a1] := by rw [hW]; exact Bx.at_ (by simp)
 clear hW
 have k0x := kh.below hB
 have k0y := ki.below hB
 have k0z := kj.below hB
 have k0A := kk.below hB
 have F85 := Lib.hid (F50.out.kp (.of hB))
 have F86 := Lib.hid (F51.out.kp (.of hB))
 have F87 := Lib.hid (F53.out.kp (.of hB))
 have k0E := Lib.hid (Blw k0t.out hB)
 clear hB
 have kB := rdiv3_any k (.bool gy) (.slice Ay ny cy) g0 g1 y G W73 F85.out F86.out HBY.out HBG.out hk HG0.out
 (with_reducible refine kB.mono ?_)
 clear kB
 rintro e w90 ⟨q0, q1, b0, b1, rfl, k8, kl, k3⟩
 have km := k0x.below k3
 have kn := k0y.below k3
 have ko := k0z.below k3
 have kq := k0A.below k3
 have kr := k0v.below k3
 have ks := k0w.below k3
 have k0F := Lib.hid (F87.out.kp (.of k3))
 have k0G := Lib.hid (Blw k0E.out k3)
 have kt := Lib.hid k8
 have o_q0 := k8.one0
 have o_q1 := k8.one1
 have o_b0 := kl.one0
 have o_b1 := kl.one1
 clear k8 kl k3
 obtain ⟨gq, Aq, nq, cq, rfl, rfl⟩ := kt.out.form
 obtain ⟨k1X, k1Y, k1Z, k20⟩ := km.f2
 obtain ⟨k21, k22, k23, k24⟩ := kn.f2
 obtain ⟨k25, k26, k27, k28, k29, k2a⟩ := ko.f4
 obtain ⟨k2b, k2c, k2d, k2e⟩ := kq.f2
 obtain ⟨k2f, k2g, k2h, k2i⟩ := kr.f2
 obtain ⟨k2j, k2k, k2l, k2m⟩ := ks.f2
 have hgq := kt.out.len.1
 rw [show decide (y / G < 0) = true from decide_eq_true HSY.out] at hgq
 subst hgq
 go_wp2_with fail
 obtain ⟨W132, hW⟩ : ∃ W, W = (w90.alloc (.cells #[.bool true, .slice Aq nq cq] 24)).alloc (.cells #[b0, b1] 24) := ⟨_, rfl⟩
 rw [← hW]
 have hB : Below w90.heap.size w90 W132 := by rw [hW]; exact ((Below.refl _ _).alloc (by simp) _).alloc (by simp <;> omega) _
 have k2n := km.lt
 have k2o := kn.lt
 have k2p := ko.lt
 have k2q := kq.lt
 have k2r := kr.lt
 have k2s := ks.lt
 have kC : Bx W132 (w90.heap.size) 24 [.bool true, .slice Aq nq cq] := by rw [hW]; exact (Bx.at_ rfl).alloc _
 have kD : Bx W132 (w90.heap.size + 1) 24 [b0, b1] := by rw [hW]; exact Bx.at_ (by simp)
 clear hW
 have kE := km.below hB
 have kF := kn.below hB
 have kG := ko.below hB
 have kH := kq.below hB
 have kI := kr.below hB
 have kJ := ks.below hB
 have k0H := Lib.hid (k0F.out.kp (.of hB))
 have k0I := Lib.hid (kt.out.kp (.of hB))
 have k0J := Lib.hid (Blw k0G.out hB)
 clear hB
 obtain ⟨k2t, k2u, k2v, k2w⟩ := kE.f2
 obtain ⟨k2x, k2y, k2z, k2A⟩ := kF.f2
 obtain ⟨k2B, k2C, k2D, k2E, k2F, k2G⟩ := kG.f4
 obtain ⟨k2H, k2I, k2J, k2K⟩ := kH.f2
 obtain ⟨k2L, k2M, k2N, k2O⟩ := kI.f2
 obtain ⟨k2P, k2Q, k2R, k2S⟩ := kJ.f2
 obtain ⟨k2T, k2U, k2V, k2W⟩ := kC.f2
 obtain ⟨k2X, k2Y, k2Z, k30⟩ := kD.f2
 go_wp2_with fail
 have kK := rneg3_any p0 p1 (x / G) W132 k0H.out
 (with_reducible refine kK.mono ?_)
 clear kK
 rintro e w189 ⟨m0, m1, rfl, k9, k0⟩
 have kL := kE.below k0
 have kM := kF.below k0
 have kN := kG.below k0
 have kO := kH.below k0
 have ku := kI.below k0
 have kP := kJ.below k0
 have kQ := kC.below k0
 have kR := kD.below k0
 have k0K := Lib.hid (k0I.out.kp (.of k0))
 have k0L := Lib.hid (Blw k0J.out k0)
 have k0M := Lib.hid k9
 have o_m0 := k9.one0
 have o_m1 := k9.one1
 clear k9 k0
 obtain ⟨k31, k32, k33, k34⟩ := kL.f2
 obtain ⟨k35, k36, k37, k38⟩ := kM.f2
 obtain ⟨k39, k3a, k3b, k3c, k3d, k3e⟩ := kN.f4
 obtain ⟨k3f, k3g, k3h, k3i⟩ := kO.f2
 obtain ⟨k3j, k3k, k3l, k3m⟩ := ku.f2
 obtain ⟨k3n, k3o, k3p, k3q⟩ := kP.f2
 obtain ⟨k3r, k3s, k3t, k3u⟩ := kQ.f2
 obtain ⟨k3v, k3w, k3x, k3y⟩ := kR.f2
 go_wp2_with fail
 have kS := (ku).set_ 0 (m0)
 have k0N := (kS).set_ 1 (m1)
 have hkp : Kp w189 ((w189.setCell ⟨w43.heap.size, 0, none⟩ (m0)).setCell ⟨w43.heap.size, 1, none⟩ (m1)) := ((Kp.refl _).set_ (ku) (by decide) _).set_ (kS) (by decide) _
 obtain ⟨W244, hW⟩ : ∃ W, W = (w189.setCell ⟨w43.heap.size, 0, none⟩ (m0)).setCell ⟨w43.heap.size, 1, none⟩ (m1) := ⟨_, rfl⟩
 rw [← hW]
 rw [← hW] at hkp
 have hB : Below w.heap.size w W244 := by rw [hW]; exact ((k0L.out).setCell (by simp <;> omega) _).setCell (by simp <;> omega) _
 have k0O := Lib.hid hB; clear hB
 have k0P := Lib.hid (k0K.out.kp hkp)
 have k0Q := Lib.hid (k0M.out.kp hkp)
 have k0R : Bx W244 (w.heap.size) 24 [.bool gx, .slice Ax nx cx] := by rw [hW]; exact ((kL).far_ (g' := w43.heap.size) (j := 0) (by omega) (m0)).far_ (g' := w43.heap.size) (j := 1) (by omega) (m1)
 have k0S : Bx W244 (w.heap.size + 1) 24 [.bool gy, .slice Ay ny cy] := by rw [hW]; exact ((kM).far_ (g' := w43.heap.size) (j := 0) (by omega) (m0)).far_ (g' := w43.heap.size) (j := 1) (by omega) (m1)
 have k0T : Bx W244 (w.heap.size + 1 + 1) 26 [.bool false, .slice none 0 0, .bool false, .slice none 0 0] := by rw [hW]; exact ((kN).far_ (g' := w43.heap.size) (j := 0) (by omega) (m0)).far_ (g' := w43.heap.size) (j := 1) (by omega) (m1)
 have k0U : Bx W244 (w8.heap.size) 24 [g0, g1] := by rw [hW]; exact ((kO).far_ (g' := w43.heap.size) (j := 0) (by omega) (m0)).far_ (g' := w43.heap.size) (j := 1) (by omega) (m1)
 have k0V : Bx W244 (w43.heap.size) 24 [m0, m1] := by rw [hW]; exact k0N
 have k0W : Bx W244 (w43.heap.size + 1) 24 [a0, a1] := by rw [hW]; exact ((kP).far_ (g' := w43.heap.size) (j := 0) (by omega) (m0)).far_ (g' := w43.heap.size) (j := 1) (by omega) (m1)
 have k0X : Bx W244 (w90.heap.size) 24 [.bool true, .slice Aq nq cq] := by rw [hW]; exact ((kQ).far_ (g' := w43.heap.size) (j := 0) (by omega) (m0)).far_ (g' := w43.heap.size) (j := 1) (by omega) (m1)
 have k0Y : Bx W244 (w90.heap.size + 1) 24 [b0, b1] := by rw [hW]; exact ((kR).far_ (g' := w43.heap.size) (j := 0) (by omega) (m0)).far_ (g' := w43.heap.size) (j := 1) (by omega) (m1)
 clear hW hkp
 have kT := rneg3_any (.bool true) (.slice Aq nq cq) (y / G) W244 k0P.out
 (with_reducible refine kT.mono ?_)
 clear kT
 rintro e w262 ⟨n0, n1, rfl, ka, k1⟩
 have kU := k0R.below k1
 have kV := k0S.below k1
 have kW := k0T.below k1
 have kX := k0U.below k1
 have kY := k0V.below k1
 have kZ := k0W.below k1
 have kv := k0X.below k1
 have k00 := k0Y.below k1
 have k0Z := Lib.hid (k0Q.out.kp (.of k1))
 have k10 := Lib.hid (Blw k0O.out k1)
 have k11 := Lib.hid ka
 have o_n0 := ka.one0
 have o_n1 := ka.one1
 clear ka k1
 obtain ⟨k3z, k3A, k3B, k3C⟩ := kU.f2
 obtain ⟨k3D, k3E, k3F, k3G⟩ := kV.f2
 obtain ⟨k3H, k3I, k3J, k3K, k3L, k3M⟩ := kW.f4
 obtain ⟨k3N, k3O, k3P, k3Q⟩ := kX.f2
 obtain ⟨k3R, k3S, k3T, k3U⟩ := kY.f2
 obtain ⟨k3V, k3W, k3X, k3Y⟩ := kZ.f2
 obtain ⟨k3Z, k40, k41, k42⟩ := kv.f2
 obtain ⟨k43, k44, k45, k46⟩ := k00.f2
 go_wp2_with fail
 have k01 := (kv).set_ 0 (n0)
 have k12 := (k01).set_ 1 (n1)
 have hkp : Kp w262 ((w262.setCell ⟨w90.heap.size, 0, none⟩ (n0)).setCell ⟨w90.heap.size, 1, none⟩ (n1)) := ((Kp.refl _).set_ (kv) (by decide) _).set_ (k01) (by decide) _
 obtain ⟨W318, hW⟩ : ∃ W, W = (w262.setCell ⟨w90.heap.size, 0, none⟩ (n0)).setCell ⟨w90.heap.size, 1, none⟩ (n1) := ⟨_, rfl⟩
 rw [← hW]
 rw [← hW] at hkp
 have hB : Below w.heap.size w W318 := by rw [hW]; exact ((k10.out).setCell (by simp <;> omega) _).setCell (by simp <;> omega) _
 have k13 := Lib.hid hB; clear hB
 have k14 := Lib.hid (k0Z.out.kp hkp)
 have k15 := Lib.hid (k11.out.kp hkp)
 have k02 : Bx W318 (w.heap.size) 24 [.bool gx, .slice Ax nx cx] := by rw [hW]; exact ((kU).far_ (g' := w90.heap.size) (j := 0) (by omega) (n0)).far_ (g' := w90.heap.size) (j := 1) (by omega) (n1)
 have k03 : Bx W318 (w.heap.size + 1) 24 [.bool gy, .slice Ay ny cy] := by rw [hW]; exact ((kV).far_ (g' := w90.heap.size) (j := 0) (by omega) (n0)).far_ (g' := w90.heap.size) (j := 1) (by omega) (n1)
 have k04 : Bx W318 (w.heap.size + 1 + 1) 26 [.bool false, .slice none 0 0, .bool false, .slice none 0 0] := by rw [hW]; exact ((kW).far_ (g' := w90.heap.size) (j := 0) (by omega) (n0)).far_ (g' := w90.heap.size) (j := 1) (by omega) (n1)
 have k05 : Bx W318 (w8.heap.size) 24 [g0, g1] := by rw [hW]; exact ((kX).far_ (g' := w90.heap.size) (j := 0) (by omega) (n0)).far_ (g' := w90.heap.size) (j := 1) (by omega) (n1)
 have k06 : Bx W318 (w43.heap.size) 24 [m0, m1] := by rw [hW]; exact ((kY).far_ (g' := w90.heap.size) (j := 0) (by omega) (n0)).far_ (g' := w90.heap.size) (j := 1) (by omega) (n1)
 have k07 : Bx W318 (w43.heap.size + 1) 24 [a0, a1] := by rw [hW]; exact ((kZ).far_ (g' := w90.heap.size) (j := 0) (by omega) (n0)).far_ (g' := w90.heap.size) (j := 1) (by omega) (n1)
 have k08 : Bx W318 (w90.heap.size) 24 [n0, n1] := by rw [hW]; exact k12
 have k09 : Bx W318 (w90.heap.size + 1) 24 [b0, b1] := by rw [hW]; exact ((k00).far_ (g' := w90.heap.size) (j := 0) (by omega) (n0)).far_ (g' := w90.heap.size) (j := 1) (by omega) (n1)
 clear hW hkp
 obtain ⟨k47, k48, k49, k4a⟩ := k02.f2
 obtain ⟨k4b, k4c, k4d, k4e⟩ := k03.f2
 obtain ⟨k4f, k4g, k4h, k4i, k4j, k4k⟩ := k04.f4
 obtain ⟨k4l, k4m, k4n, k4o⟩ := k05.f2
 obtain ⟨k4p, k4q, k4r, k4s⟩ := k06.f2
 obtain ⟨k4t, k4u, k4v, k4w⟩ := k07.f2
 obtain ⟨k4x, k4y, k4z, k4A⟩ := k08.f2
 obtain ⟨k4B, k4C, k4D, k4E⟩ := k09.f2
 go_wp2_with fail
 have k0a := one4_any (n0) (n1) (-(y / G)) W318 k15.out true (decide_eq_true H1.out).symm
 (with_reducible refine k0a.mono ?_)
 clear k0a
 rintro e w371 ⟨rfl, k2⟩
 have k16 := k02.below k2
 have k17 := k03.below k2
 have kw := k04.below k2
 have k18 := k05.below k2
 have k19 := k06.below k2
 have k1a := k07.below k2
 have k1b := k08.below k2
 have k1c := k09.below k2
 have k1d := Lib.hid (k14.out.kp (.of k2))
 have k1e := Lib.hid (Blw k13.out k2)
 clear k2
 obtain ⟨k4F, k4G, k4H, k4I⟩ := k16.f2
 obtain ⟨k4J, k4K, k4L, k4M⟩ := k17.f2
 obtain ⟨k1f, k1g, k1h, k1i, k4N, k4O⟩ := kw.f4
 obtain ⟨k4P, k4Q, k4R, k4S⟩ := k18.f2
 obtain ⟨k4T, k4U, k4V, k4W⟩ := k19.f2
 obtain ⟨k4X, k4Y, k4Z, k50⟩ := k1a.f2
 obtain ⟨k51, k52, k53, k54⟩ := k1b.f2
 obtain ⟨k55, k56, k57, k58⟩ := k1c.f2
 go_wp2
 have k0b := (kw).set_ 0 (m0)
 have k0c := (k0b).set_ 1 (m1)
 have k1j := (k0c).set_ 2 (.bool false)
 have hkp : Kp w371 ((((w371.setCell ⟨w.heap.size + 1 + 1, 0, none⟩ (m0)).setCell ⟨w.heap.size + 1 + 1, 1, none⟩ (m1)).setCell ⟨w.heap.size + 1 + 1, 2, none⟩ (.bool false)).setCell ⟨w.heap.size + 1 + 1, 3, none⟩ (.slice none 0 0)) := ((((Kp.refl _).set_ (kw) (by decide) _).set_ (k0b) (by decide) _).set_ (k0c) (by decide) _).set_ (k1j) (by decide) _
 refine bodyPost_ret (v := .agg #[m0, m1, .bool false, .slice none 0 0]) (by simp [results, Try.results70, go_sem, k1f, k1g, k1h, k1i]) rfl ⟨_, _, _, _, rfl, ⟨?_, ?_⟩, ((((k1e.out).setCell (by simp <;> omega) _).setCell (by simp <;> omega) _).setCell (by simp <;> omega) _).setCell (by simp <;> omega) _⟩
 ·rw [HR.out.1]; exact k1d.out.kp hkp
 ·rw [dq_one (by have h2 := HR.out.2; rw [H1.out] at h2; omega)]; exact IntV.zero _
set_option maxRecDepth 100000 in
theorem make4_10 (k : Nat) (gx gy : Bool) (Ax Ay : Option Addr) (nx cx ny cy : Nat) (x y G : Int) (w : World) (hx : IntV w (.bool gx) (.slice Ax nx cx) x) (hy : IntV w (.bool gy) (.slice Ay ny cy) y) (bx : I.Bd k x) (by_ : I.Bd k y) (hk : k ≤ 800000000000) (hnx : ((nx : Int) == 0) = false) (hny : ((ny : Int) == 0) = false) (hG : G = (Int.gcd x y : Int)) (hG0 : G ≠ 0) (hbG : I.Bd k G) (hsy : y / G < 0) (h1 : ¬ (-(y / G)) = 1) (r : Rat) (hr : r.num = (-(x / G)) ∧ (r.den : Int) = (-(y / G))) :
  Calls Try.prog 70 #[.agg #[.bool gx, .slice Ax nx cx], .agg #[.bool gy, .slice Ay ny cy]] w (RR r w) := by
 have HX := Lib.hid hx; have HY := Lib.hid hy; have HBX := Lib.hid bx; have HBY := Lib.hid by_; have HG := Lib.hid hG; have HBG := Lib.hid hbG; have HSY := Lib.hid hsy; have H1 := Lib.hid h1; have HR := Lib.hid hr; have HG0 := Lib.hid hG0
 clear hx hy bx by_ hG hbG hsy h1 hr hG0
 go_enter Try.func70, Try.ntmps70
 go_wp2_with fail
 obtain ⟨W1, hW⟩ : ∃ W, W = ((w.alloc (.cells #[.bool gx, .slice Ax nx cx] 24)).alloc (.cells #[.bool gy, .slice Ay ny cy] 24)).alloc (.cells #[.bool false, .slice none 0 0, .bool false, .slice none 0 0] 26) := ⟨_, rfl⟩
 rw [← hW]
 have k0e : Bx W1 (w.heap.size) 24 [.bool gx, .slice Ax nx cx] := by rw [hW]; exact ((Bx.at_ rfl).alloc _).alloc _
 have k0f : Bx W1 (w.heap.size + 1) 24 [.bool gy, .slice Ay ny cy] := by rw [hW]; exact (Bx.at_ (by simp)).alloc _
 have k0g : Bx W1 (w.heap.size + 1 + 1) 26 [.bool false, .slice none 0 0, .bool false, .slice none 0 0] := by rw [hW]; exact Bx.at_ (by simp)
 have hB : Below w.heap.size w W1 := by rw [hW]; exact (((Below.refl _ _).alloc (by simp) _).alloc (by simp) _).alloc (by simp; omega) _
 have kb := Lib.hid hB; clear hW hB
 have F6 := Lib.hid (HX.out.kp (.of kb.out))
 have F7 := Lib.hid (HY.out.kp (.of kb.out))
 have kc := rgcd3_any k (.bool gx) (.slice Ax nx cx) (.bool gy) (.slice Ay ny cy) x y W1 F6.out F7.out HBX.out HBY.out hk
 rw [← HG.out] at kc
 (with_reducible refine kc.mono ?_)
 clear kc
 rintro e w8 ⟨g0, g1, rfl, k6, k5⟩
 have kd := k0e.below k5
 have ke := k0f.below k5
 have kf := k0g.below k5
 have F13 := Lib.hid (F6.out.kp (.of k5))
 have F14 := Lib.hid (F7.out.kp (.of k5))
 have k0j := Lib.hid (Blw kb.out k5)
 have F16 := Lib.hid k6
 have o_g0 := k6.one0
 have o_g1 := k6.one1
 clear k6 k5
 obtain ⟨k1l, k1m, k1n, l20⟩ := kd.f2
 obtain ⟨k1p, k1q, k1r, l24⟩ := ke.f2
 obtain ⟨k1t, k1u, k1v, k1w, k1x, l30⟩ := kf.f4
 go_wp2_with fail
 obtain ⟨W31, hW⟩ : ∃ W, W = w8.alloc (.cells #[g0, g1] 24) := ⟨_, rfl⟩
 rw [← hW]
 have hB : Below w8.heap.size w8 W31 := by rw [hW]; exact (Below.refl _ _).alloc (by simp) _
 have k1z := kd.lt
 have k1A := ke.lt
 have k1B := kf.lt
 have k0l : Bx W31 (w8.heap.size) 24 [g0, g1] := by rw [hW]; exact Bx.at_ rfl
 clear hW
 have k0m := kd.below hB
 have k0n := ke.below hB
 have k0o := kf.below hB
 have F39 := Lib.hid (F13.out.kp (.of hB))
 have F40 := Lib.hid (F14.out.kp (.of hB))
 have kz := Lib.hid (F16.out.kp (.of hB))
 have k0r := Lib.hid (Blw k0j.out hB)
 clear hB
 have kA := rdiv3_any k (.bool gx) (.slice Ax nx cx) g0 g1 x G W31 F39.out kz.out HBX.out HBG.out hk HG0.out
 (with_reducible refine kA.mono ?_)
 clear kA
 rintro e w43 ⟨p0, p1, a0, a1, rfl, k7, kg, k4⟩
 have kh := k0m.below k4
 have ki := k0n.below k4
 have kj := k0o.below k4
 have kk := k0l.below k4
 have F50 := Lib.hid (F40.out.kp (.of k4))
 have F51 := Lib.hid (kz.out.kp (.of k4))
 have k0u := Lib.hid (Blw k0r.out k4)
 have F53 := Lib.hid k7
 have o_p0 := k7.one0
 have o_p1 := k7.one1
 have o_a0 := kg.one0
 have o_a1 := kg.one1
 clear k7 kg k4
 obtain ⟨k1C, k1D, k1E, l58⟩ := kh.f2
 obtain ⟨k1G, k1H, k1I, l62⟩ := ki.f2
 obtain ⟨k1K, k1L, k1M, k1N, k1O, l68⟩ := kj.f4
 obtain ⟨k1Q, k1R, k1S, l72⟩ := kk.f2
 go_wp2_with fail
 obtain ⟨W73, hW⟩ : ∃ W, W = (w43.alloc (.cells #[p0, p1] 24)).alloc (.cells #[a0, a1] 24) := ⟨_, rfl⟩
 rw [← hW]
 have hB : Below w43.heap.size w43 W73 := by rw [hW]; exact ((Below.refl _ _).alloc (by simp) _).alloc (by simp <;> omega) _
 have k1U := kh.lt
 have k1V := ki.lt
 have k1W := kj.lt
 have k1X := kk.lt
 have k0w : Bx W73 (w43.heap.size) 24 [p0, p1] := by rw [hW]; exact (Bx.at_ rfl).alloc _
 have k0x : Bx W73 (w43.heap.size + 1) 24 [a0, a1] := by rw [hW]; exact Bx.at_ (by simp)
 clear hW
 have k0y := kh.below hB
 have k0z := ki.below hB
 have k0A := kj.below hB
 have k0B := kk.below hB
 have F85 := Lib.hid (F50.out.kp (.of hB))
 have F86 := Lib.hid (F51.out.kp (.of hB))
 have F87 := Lib.hid (F53.out.kp (.of hB))
 have k0F := Lib.hid (Blw k0u.out hB)
 clear hB
 have kB := rdiv3_any k (.bool gy) (.slice Ay ny cy) g0 g1 y G W73 F85.out F86.out HBY.out HBG.out hk HG0.out
 (with_reducible refine kB.mono ?_)
 clear kB
 rintro e w90 ⟨q0, q1, b0, b1, rfl, k8, kl, k3⟩
 have km := k0y.below k3
 have kn := k0z.below k3
 have ko := k0A.below k3
 have kq := k0B.below k3
 have kr := k0w.below k3
 have ks := k0x.below k3
 have k0G := Lib.hid (F87.out.kp (.of k3))
 have k0H := Lib.hid (Blw k0F.out k3)
 have kt := Lib.hid k8
 have o_q0 := k8.one0
 have o_q1 := k8.one1
 have o_b0 := kl.one0
 have o_b1 := kl.one1
 clear k8 kl k3
 obtain ⟨gq, Aq, nq, cq, rfl, rfl⟩ := kt.out.form
 obtain ⟨k1Y, k1Z, k20, k21⟩ := km.f2
 obtain ⟨k22, k23, k24, k25⟩ := kn.f2
 obtain ⟨k26, k27, k28, k29, k2a, k2b⟩ := ko.f4
 obtain ⟨k2c, k2d, k2e, k2f⟩ := kq.f2
 obtain ⟨k2g, k2h, k2i, k2j⟩ := kr.f2
 obtain ⟨k2k, k2l, k2m, k2n⟩ := ks.f2
 have hgq := kt.out.len.1
 rw [show decide (y / G < 0) = true from decide_eq_true HSY.out] at hgq
 subst hgq
 go_wp2_with fail
 obtain ⟨W132, hW⟩ : ∃ W, W = (w90.alloc (.cells #[.bool true, .slice Aq nq cq] 24)).alloc (.cells #[b0, b1] 24) := ⟨_, rfl⟩
 rw [← hW]
 have hB : Below w90.heap.size w90 W132 := by rw [hW]; exact ((Below.refl _ _).alloc (by simp) _).alloc (by simp <;> omega) _
 have k2o := km.lt
 have k2p := kn.lt
 have k2q := ko.lt
 have k2r := kq.lt
 have k2s := kr.lt
 have k2t := ks.lt
 have kC : Bx W132 (w90.heap.size) 24 [.bool true, .slice Aq nq cq] := by rw [hW]; exact (Bx.at_ rfl).alloc _
 have kD : Bx W132 (w90.heap.size + 1) 24 [b0, b1] := by rw [hW]; exact Bx.at_ (by simp)
 clear hW
 have kE := km.below hB
 have kF := kn.below hB
 have kG := ko.below hB
 have kH := kq.below hB
 have kI := kr.below hB
 have kJ := ks.below hB
 have k0I := Lib.hid (k0G.out.kp (.of hB))
 have k0J := Lib.hid (kt.out.kp (.of hB))
 have k0K := Lib.hid (Blw k0H.out hB)
 clear hB
 obtain ⟨k2u, k2v, k2w, k2x⟩ := kE.f2
 obtain ⟨k2y, k2z, k2A, k2B⟩ := kF.f2
 obtain ⟨k2C, k2D, k2E, k2F, k2G, k2H⟩ := kG.f4
 obtain ⟨k2I, k2J, k2K, k2L⟩ := kH.f2
 obtain ⟨k2M, k2N, k2O, k2P⟩ := kI.f2
 obtain ⟨k2Q, k2R, k2S, k2T⟩ := kJ.f2
 obtain ⟨k2U, k2V, k2W, k2X⟩ := kC.f2
 obtain ⟨k2Y, k2Z, k30, k31⟩ := kD.f2
 go_wp2_with fail
 have kK := rneg3_any p0 p1 (x / G) W132 k0I.out
 (with_reducible refine kK.mono ?_)
 clear kK
 rintro e w189 ⟨m0, m1, rfl, k9, k1⟩
 have kL := kE.below k1
 have kM := kF.below k1
 have kN := kG.below k1
 have kO := kH.below k1
 have ku := kI.below k1
 have kP := kJ.below k1
 have kQ := kC.below k1
 have kR := kD.below k1
 have k0L := Lib.hid (k0J.out.kp (.of k1))
 have k0M := Lib.hid (Blw k0K.out k1)
 have k0N := Lib.hid k9
 have o_m0 := k9.one0
 have o_m1 := k9.one1
 clear k9 k1
 obtain ⟨k32, k33, k34, k35⟩ := kL.f2
 obtain ⟨k36, k37, k38, k39⟩ := kM.f2
 obtain ⟨k3a, k3b, k3c, k3d, k3e, k3f⟩ := kN.f4
 obtain ⟨k3g, k3h, k3i, k3j⟩ := kO.f2
 obtain ⟨k3k, k3l, k3m, k3n⟩ := ku.f2
 obtain ⟨k3o, k3p, k3q, k3r⟩ := kP.f2
 obtain ⟨k3s, k3t, k3u, k3v⟩ := kQ.f2
 obtain ⟨k3w, k3x, k3y, k3z⟩ := kR.f2
 go_wp2_with fail
 have kS := (ku).set_ 0 (m0)
 have k0O := (kS).set_ 1 (m1)
 have hkp : Kp w189 ((w189.setCell ⟨w43.heap.size, 0, none⟩ (m0)).setCell ⟨w43.heap.size, 1, none⟩ (m1)) := ((Kp.refl _).set_ (ku) (by decide) _).set_ (kS) (by decide) _
 obtain ⟨W244, hW⟩ : ∃ W, W = (w189.setCell ⟨w43.heap.size, 0, none⟩ (m0)).setCell ⟨w43.heap.size, 1, none⟩ (m1) := ⟨_, rfl⟩
 rw [← hW]
 rw [← hW] at hkp
 have hB : Below w.heap.size w W244 := by rw [hW]; exact ((k0M.out).setCell (by simp <;> omega) _).setCell (by simp <;> omega) _
 have k0P := Lib.hid hB; clear hB
 have k0Q := Lib.hid (k0L.out.kp hkp)
 have k0R := Lib.hid (k0N.out.kp hkp)
 have k0S : Bx W244 (w.heap.size) 24 [.bool gx, .slice Ax nx cx] := by rw [hW]; exact ((kL).far_ (g' := w43.heap.size) (j := 0) (by omega) (m0)).far_ (g' := w43.heap.size) (j := 1) (by omega) (m1)
 have k0T : Bx W244 (w.heap.size + 1) 24 [.bool gy, .slice Ay ny cy] := by rw [hW]; exact ((kM).far_ (g' := w43.heap.size) (j := 0) (by omega) (m0)).far_ (g' := w43.heap.size) (j := 1) (by omega) (m1)
 have k0U : Bx W244 (w.heap.size + 1 + 1) 26 [.bool false, .slice none 0 0, .bool false, .slice none 0 0] := by rw [hW]; exact ((kN).far_ (g' := w43.heap.size) (j := 0) (by omega) (m0)).far_ (g' := w43.heap.size) (j := 1) (by omega) (m1)
 have k0V : Bx W244 (w8.heap.size) 24 [g0, g1] := by rw [hW]; exact ((kO).far_ (g' := w43.heap.size) (j := 0) (by omega) (m0)).far_ (g' := w43.heap.size) (j := 1) (by omega) (m1)
 have k0W : Bx W244 (w43.heap.size) 24 [m0, m1] := by rw [hW]; exact k0O
 have k0X : Bx W244 (w43.heap.size + 1) 24 [a0, a1] := by rw [hW]; exact ((kP).far_ (g' := w43.heap.size) (j := 0) (by omega) (m0)).far_ (g' := w43.heap.size) (j := 1) (by omega) (m1)
 have k0Y : Bx W244 (w90.heap.size) 24 [.bool true, .slice Aq nq cq] := by rw [hW]; exact ((kQ).far_ (g' := w43.heap.size) (j := 0) (by omega) (m0)).far_ (g' := w43.heap.size) (j := 1) (by omega) (m1)
 have k0Z : Bx W244 (w90.heap.size + 1) 24 [b0, b1] := by rw [hW]; exact ((kR).far_ (g' := w43.heap.size) (j := 0) (by omega) (m0)).far_ (g' := w43.heap.size) (j := 1) (by omega) (m1)
 clear hW hkp
 have kT := rneg3_any (.bool true) (.slice Aq nq cq) (y / G) W244 k0Q.out
 (with_reducible refine kT.mono ?_)
 clear kT
 rintro e w262 ⟨n0, n1, rfl, ka, k2⟩
 have kU := k0S.below k2
 have kV := k0T.below k2
 have kW := k0U.below k2
 have kX := k0V.below k2
 have kY := k0W.below k2
 have kZ := k0X.below k2
 have kv := k0Y.below k2
 have k00 := k0Z.below k2
 have k10 := Lib.hid (k0R.out.kp (.of k2))
 have k11 := Lib.hid (Blw k0P.out k2)
 have k12 := Lib.hid ka
 have o_n0 := ka.one0
 have o_n1 := ka.one1
 clear ka k2
 obtain ⟨k3A, k3B, k3C, k3D⟩ := kU.f2
 obtain ⟨k3E, k3F, k3G, k3H⟩ := kV.f2
 obtain ⟨k3I, k3J, k3K, k3L, k3M, k3N⟩ := kW.f4
 obtain ⟨k3O, k3P, k3Q, k3R⟩ := kX.f2
 obtain ⟨k3S, k3T, k3U, k3V⟩ := kY.f2
 obtain ⟨k3W, k3X, k3Y, k3Z⟩ := kZ.f2
 obtain ⟨k40, k41, k42, k43⟩ := kv.f2
 obtain ⟨k44, k45, k46, k47⟩ := k00.f2
 go_wp2_with fail
 have k01 := (kv).set_ 0 (n0)
 have k13 := (k01).set_ 1 (n1)
 have hkp : Kp w262 ((w262.setCell ⟨w90.heap.size, 0, none⟩ (n0)).setCell ⟨w90.heap.size, 1, none⟩ (n1)) := ((Kp.refl _).set_ (kv) (by decide) _).set_ (k01) (by decide) _
 obtain ⟨W318, hW⟩ : ∃ W, W = (w262.setCell ⟨w90.heap.size, 0, none⟩ (n0)).setCell ⟨w90.heap.size, 1, none⟩ (n1) := ⟨_, rfl⟩
 rw [← hW]
 rw [← hW] at hkp
 have hB : Below w.heap.size w W318 := by rw [hW]; exact ((k11.out).setCell (by simp <;> omega) _).setCell (by simp <;> omega) _
 have k14 := Lib.hid hB; clear hB
 have k15 := Lib.hid (k10.out.kp hkp)
 have k02 := Lib.hid (k12.out.kp hkp)
 have k03 : Bx W318 (w.heap.size) 24 [.bool gx, .slice Ax nx cx] := by rw [hW]; exact ((kU).far_ (g' := w90.heap.size) (j := 0) (by omega) (n0)).far_ (g' := w90.heap.size) (j := 1) (by omega) (n1)
 have k04 : Bx W318 (w.heap.size + 1) 24 [.bool gy, .slice Ay ny cy] := by rw [hW]; exact ((kV).far_ (g' := w90.heap.size) (j := 0) (by omega) (n0)).far_ (g' := w90.heap.size) (j := 1) (by omega) (n1)
 have k05 : Bx W318 (w.heap.size + 1 + 1) 26 [.bool false, .slice none 0 0, .bool false, .slice none 0 0] := by rw [hW]; exact ((kW).far_ (g' := w90.heap.size) (j := 0) (by omega) (n0)).far_ (g' := w90.heap.size) (j := 1) (by omega) (n1)
 have k06 : Bx W318 (w8.heap.size) 24 [g0, g1] := by rw [hW]; exact ((kX).far_ (g' := w90.heap.size) (j := 0) (by omega) (n0)).far_ (g' := w90.heap.size) (j := 1) (by omega) (n1)
 have k07 : Bx W318 (w43.heap.size) 24 [m0, m1] := by rw [hW]; exact ((kY).far_ (g' := w90.heap.size) (j := 0) (by omega) (n0)).far_ (g' := w90.heap.size) (j := 1) (by omega) (n1)
 have k08 : Bx W318 (w43.heap.size + 1) 24 [a0, a1] := by rw [hW]; exact ((kZ).far_ (g' := w90.heap.size) (j := 0) (by omega) (n0)).far_ (g' := w90.heap.size) (j := 1) (by omega) (n1)
 have k09 : Bx W318 (w90.heap.size) 24 [n0, n1] := by rw [hW]; exact k13
 have k0a : Bx W318 (w90.heap.size + 1) 24 [b0, b1] := by rw [hW]; exact ((k00).far_ (g' := w90.heap.size) (j := 0) (by omega) (n0)).far_ (g' := w90.heap.size) (j := 1) (by omega) (n1)
 clear hW hkp
 obtain ⟨k48, k49, k4a, k4b⟩ := k03.f2
 obtain ⟨k4c, k4d, k4e, k4f⟩ := k04.f2
 obtain ⟨k4g, k4h, k4i, k4j, k4k, k4l⟩ := k05.f4
 obtain ⟨k4m, k4n, k4o, k4p⟩ := k06.f2
 obtain ⟨k4q, k4r, k4s, k4t⟩ := k07.f2
 obtain ⟨k4u, k4v, k4w, k4x⟩ := k08.f2
 obtain ⟨k4y, k4z, k4A, k4B⟩ := k09.f2
 obtain ⟨k4C, k4D, k4E, k4F⟩ := k0a.f2
 go_wp2_with fail
 have k0b := one4_any (n0) (n1) (-(y / G)) W318 k02.out false (decide_eq_false H1.out).symm
 (with_reducible refine k0b.mono ?_)
 clear k0b
 rintro e w371 ⟨rfl, k0⟩
 have k16 := k03.below k0
 have k17 := k04.below k0
 have kw := k05.below k0
 have k18 := k06.below k0
 have k19 := k07.below k0
 have k1a := k08.below k0
 have k1b := k09.below k0
 have k1c := k0a.below k0
 have k1d := Lib.hid (k15.out.kp (.of k0))
 have k1e := Lib.hid (k02.out.kp (.of k0))
 have k1f := Lib.hid (Blw k14.out k0)
 clear k0
 obtain ⟨k4G, k4H, k4I, k4J⟩ := k16.f2
 obtain ⟨k4K, k4L, k4M, k4N⟩ := k17.f2
 obtain ⟨k1g, k1h, k1i, k1j, k4O, k4P⟩ := kw.f4
 obtain ⟨k4Q, k4R, k4S, k4T⟩ := k18.f2
 obtain ⟨k4U, k4V, k4W, k4X⟩ := k19.f2
 obtain ⟨k4Y, k4Z, k50, k51⟩ := k1a.f2
 obtain ⟨k52, k53, k54, k55⟩ := k1b.f2
 obtain ⟨k56, k57, k58, k59⟩ := k1c.f2
 go_wp2
 have k0c := (kw).set_ 0 (m0)
 have k0d := (k0c).set_ 1 (m1)
 have k1k := (k0d).set_ 2 (n0)
 have hkp : Kp w371 ((((w371.setCell ⟨w.heap.size + 1 + 1, 0, none⟩ (m0)).setCell ⟨w.heap.size + 1 + 1, 1, none⟩ (m1)).setCell ⟨w.heap.size + 1 + 1, 2, none⟩ (n0)).setCell ⟨w.heap.size + 1 + 1, 3, none⟩ (n1)) := ((((Kp.refl _).set_ (kw) (by decide) _).set_ (k0c) (by decide) _).set_ (k0d) (by decide) _).set_ (k1k) (by decide) _
 refine bodyPost_ret (v := .agg #[m0, m1, n0, n1]) (by simp [results, Try.results70, go_sem, k1g, k1h, k1i, k1j]) rfl ⟨_, _, _, _, rfl, ⟨?_, ?_⟩, ((((k1f.out).setCell (by simp <;> omega) _).setCell (by simp <;> omega) _).setCell (by simp <;> omega) _).setCell (by simp <;> omega) _⟩
 ·rw [HR.out.1]; exact k1d.out.kp hkp
 ·rw [dq_more (by have h2 := HR.out.2; have := H1.out; intro h3; rw [h3] at h2; omega), HR.out.2]; exact k1e.out.kp hkp
theorem bd_gcd {k : Nat} {x y : Int} (h : I.Bd k y) (hy : y ≠ 0) : I.Bd k (Int.gcd x y : Int) := Bd.dvd h (by rw [Int.natAbs_natCast]; exact Int.gcd_dvd_natAbs_right x y) hy
theorem make4_any (k : Nat) (p0 p1 q0 q1 : Value) (x y : Int) (w : World) (hx : IntV w p0 p1 x) (hy : IntV w q0 q1 y) (bx : I.Bd k x) (by_ : I.Bd k y) (hk : k ≤ 800000000000) :
  Calls Try.prog 70 #[.agg #[p0, p1], .agg #[q0, q1]] w (RR (Rat.divInt x y) w) := by
 obtain ⟨gx, Ax, nx, cx, rfl, rfl⟩ := hx.form
 obtain ⟨gy, Ay, ny, cy, rfl, rfl⟩ := hy.form
 have l1 := hx.len.2
 have l2 := hy.len.2
 by_cases c2 : ny = 0
 ·have h2 := l2.1 c2
  subst c2
  rw [h2, Rat.divInt_zero]
  exact make4_y0 gx gy Ax Ay nx cx cy w
 ·by_cases c1 : nx = 0
  ·have h1 := l1.1 c1
   subst c1
   rw [h1, Rat.zero_divInt]
   exact make4_x0 gx gy Ax Ay ny cx cy w (ne0 c2)
  ·have hy0 : y ≠ 0 := fun h => c2 (l2.2 h)
   have hG0 := gcd_ne (x := x) hy0
   have hlow := divInt_low (x := x) hy0
   have hgl := gcd_low (x := x) hy0
   have hyg := low_ne (x := x) hy0
   have hbG := bd_gcd (x := x) by_ hy0
   by_cases hn : y / (Int.gcd x y : Int) < 0
   ·have hr := divInt_neg_ hn hgl
    rw [hlow] at hr
    by_cases h1 : -(y / (Int.gcd x y : Int)) = 1
    ·exact make4_11 k gx gy Ax Ay nx cx ny cy x y _ w hx hy bx by_ hk (ne0 c1) (ne0 c2) rfl hG0 hbG hn h1 _ hr
    ·exact make4_10 k gx gy Ax Ay nx cx ny cy x y _ w hx hy bx by_ hk (ne0 c1) (ne0 c2) rfl hG0 hbG hn h1 _ hr
   ·have hp : 0 < y / (Int.gcd x y : Int) := by omega
    have hr := divInt_pos hp hgl
    rw [hlow] at hr
    by_cases h1 : y / (Int.gcd x y : Int) = 1
    ·exact make4_01 k gx gy Ax Ay nx cx ny cy x y _ w hx hy bx by_ hk (ne0 c1) (ne0 c2) rfl hG0 hbG hp h1 _ hr
    ·exact make4_00 k gx gy Ax Ay nx cx ny cy x y _ w hx hy bx by_ hk (ne0 c1) (ne0 c2) rfl hG0 hbG hp h1 _ hr
end Go.Proofs.Ytonkbckgbfcnkaa
