/-
 THE WALKS of the reference of package rat: Den, one, Make, Of, Add, Neg, Sub, Mul, Div, Sign.
-/
import Derived.Test.YtonkbckgbfcnkaaRef3F
import Derived.Test.YtonkbckgbfcnkaaWalkRSub
namespace Go.Proofs.Ytonkbckgbfcnkaa
set_option maxHeartbeats 4000000
open Go.RowKit
attribute [local go_sem] run_store_one
set_option linter.unusedVariables false
theorem den4_1 (a0 a1 : Value) (g : Bool) (A : Option Addr) (c : Nat) (w : World) (o0 : a0.oneCell' = true) (o1 : a1.oneCell' = true) : Calls Try.prog 80 #[.agg #[a0, a1, .bool g, .slice A 0 c]] w (RI 1 w) := by
 go_enter Try.func80, Try.ntmps80
 go_wp2_with fail
 generalize hW : (w.alloc _).alloc _ = W1
 obtain ⟨k2, k3, hB⟩ := box2 hW
 have k5 := Lib.hid hB; clear hW hB
 obtain ⟨kb, kc, kd, ke, kf, kg⟩ := k2.f4
 obtain ⟨kh, ki, kj, kk⟩ := k3.f2
 have k4 := rof3_any 1 W1 ⟨by omega, by omega⟩
 (with_reducible refine k4.mono ?_)
 clear k4
 rintro e w15 ⟨u0, u1, rfl, k1, k0⟩
 obtain ⟨kl, km, kn, ko, kq, kr, ks⟩ := k2.b4 k0
 obtain ⟨k6, k7, k8, kt, ku⟩ := k3.b2 k0
 have k9 := Lib.hid (Blw k5.out k0)
 have ka := Lib.hid k1
 obtain ⟨o_u0, o_u1⟩ := k1.ones
 clear k1 k0
 go_wp2_with fail
 have hkp := (Kp.refl w15).t2 k6 u0 u1
 refine bodyPost_ret (v := .agg #[u0, u1]) (by simp [results, Try.results80, go_sem, k7, k8]) rfl ⟨_, _, rfl, ?_, bel2 (k9.out) (by first | simp | omega)⟩
 exact ka.out.kp hkp
theorem den4_n (a0 a1 : Value) (g : Bool) (A : Option Addr) (n c : Nat) (x : Int) (w : World) (o0 : a0.oneCell' = true) (o1 : a1.oneCell' = true) (hn : ((n : Int) == 0) = false) (hx : IntV w (.bool g) (.slice A n c) x) : Calls Try.prog 80 #[.agg #[a0, a1, .bool g, .slice A n c]] w (RI x w) := by
 have HX := Lib.hid hx
 clear hx
 go_enter Try.func80, Try.ntmps80
 go_wp2_with fail
 generalize hW : (w.alloc _).alloc _ = W1
 obtain ⟨k1, k2, hB⟩ := box2 hW
 have k0 := Lib.hid hB; clear hW hB
 have F5 := Lib.hid (HX.out.kp (.of k0.out))
 obtain ⟨k6, k7, k8, k9, ka, kb⟩ := k1.f4
 obtain ⟨k4, k5, kc, kd⟩ := k2.f2
 refine bodyPost_ret (v := .agg #[.bool g, .slice A n c]) (by simp [results, Try.results80, go_sem, k4, k5]) rfl ⟨_, _, rfl, F5.out, k0.out⟩
theorem den4_any (a0 a1 a2 a3 : Value) (r : Rat) (w : World) (hr : RatV w a0 a1 a2 a3 r) : Calls Try.prog 80 #[.agg #[a0, a1, a2, a3]] w (RI r.den w) := by
 have o0 := hr.one0
 have o1 := hr.one1
 obtain ⟨ga, Aa, na, ca, rfl, rfl⟩ := hr.2.form
 have l2 : na = 0 ↔ r.den = 1 := hr.2.len.2.trans dq_zero
 by_cases h : na = 0
 ·have h1 := l2.1 h
  subst h
  rw [h1]
  exact den4_1 a0 a1 ga Aa ca w o0 o1
 ·have h2 := hr.2
  rw [dq_more (fun e => h (l2.2 e))] at h2
  exact den4_n a0 a1 ga Aa na ca r.den w o0 o1 (ne0 h) h2
theorem one4_neg (A : Option Addr) (n c : Nat) (w : World) : Calls Try.prog 86 #[.agg #[.bool true, .slice A n c]] w fun e w' => e = .returned (.bool false) ∧ Below w.heap.size w w' := by
 go_enter Try.func86, Try.ntmps86
 go_wp2
 go_ret
 exact ⟨rfl, (Below.refl _ _).alloc (by simp) _⟩
theorem one4_len (A : Option Addr) (n c : Nat) (w : World) (hn : ((n : Int) != 1) = true) (hn2 : (n != 1) = true) : Calls Try.prog 86 #[.agg #[.bool false, .slice A n c]] w fun e w' => e = .returned (.bool false) ∧ Below w.heap.size w w' := by
 go_enter Try.func86, Try.ntmps86
 go_wp2
 go_ret
 exact ⟨rfl, (Below.refl _ _).alloc (by simp) _⟩
theorem one4_one (b o c : Nat) (d : Int) (v : Bool) (w : World) (hc : w.cell? ⟨b, o, none⟩ = some (.int .i64 d)) (hb : b < w.heap.size) (hv : (d == 1) = v) : Calls Try.prog 86 #[.agg #[.bool false, .slice (some ⟨b, o, none⟩) 1 c]] w fun e w' => e = .returned (.bool v) ∧ Below w.heap.size w w' := by
 have f1 : (w.alloc (.cells #[.bool false, .slice (some ⟨b, o, none⟩) 1 c] 24)).cell? ⟨b, o, none⟩ = some (.int .i64 d) := kalloc hc hb
 clear hc
 go_enter Try.func86, Try.ntmps86
 go_wp2
 go_ret
 exact ⟨rfl, (Below.refl _ _).alloc (by simp) _⟩
theorem one4_any (a0 a1 : Value) (x : Int) (w : World) (hx : IntV w a0 a1 x) (v : Bool) (hv : v = decide (x = 1)) : Calls Try.prog 86 #[.agg #[a0, a1]] w fun e w' => e = .returned (.bool v) ∧ Below w.heap.size w w' := by
 obtain ⟨l, rfl, hs, hc, hl⟩ := hx
 obtain ⟨A, n, c, rfl, rfl, _, _, hr, _⟩ := hs
 by_cases h : x < 0
 ·rw [decide_eq_true h, hv, decide_eq_false (by omega)]
  exact one4_neg A l.length c w
 ·rw [decide_eq_false h]
  by_cases h1 : l.length = 1
  ·obtain ⟨d, rfl⟩ := List.length_eq_one_iff.1 h1
   obtain ⟨b, o, rfl, hb, hcell⟩ := hr (by simp)
   have hd : I.val [d] = d := by simp [I.val]
   rw [hd] at hl
   refine one4_one b o c d v w (hcell 0 _ rfl) hb ?_
   rw [hv]
   by_cases h2 : d = 1
   ·rw [decide_eq_true (by omega), h2]; rfl
   ·rw [decide_eq_false (by omega)]; exact beq_eq_false_iff_ne.2 h2
  ·have h2 : v = false := by
    rw [hv]
    apply decide_eq_false
    rintro rfl
    have h3 := I.Can.uniq hc (I.Can.one (d := 1) (by omega) (by omega)) (by rw [hl]; simp [I.val])
    rw [h3] at h1
    exact h1 rfl
   rw [h2]
   exact one4_len A l.length c w (by simp; omega) (by simp; omega)
theorem make4_y0 (gx gy : Bool) (Ax Ay : Option Addr) (nx cx cy : Nat) (w : World) :
  Calls Try.prog 70 #[.agg #[.bool gx, .slice Ax nx cx], .agg #[.bool gy, .slice Ay 0 cy]] w (RR 0 w) := by
 go_enter Try.func70, Try.ntmps70
 go_wp2
 exact bodyPost_ret (v := .agg #[.bool false, .slice none 0 0, .bool false, .slice none 0 0]) (by simp [results, Try.results70, go_sem]) rfl ⟨_, _, _, _, rfl, RatV.zero _, (((Below.refl _ _).alloc (Nat.le_refl _) _).alloc (by simp) _).alloc (by simp <;> omega) _⟩
theorem make4_x0 (gx gy : Bool) (Ax Ay : Option Addr) (ny cx cy : Nat) (w : World) (hny : ((ny : Int) == 0) = false) :
  Calls Try.prog 70 #[.agg #[.bool gx, .slice Ax 0 cx], .agg #[.bool gy, .slice Ay ny cy]] w (RR 0 w) := by
 go_enter Try.func70, Try.ntmps70
 go_wp2
 exact bodyPost_ret (v := .agg #[.bool false, .slice none 0 0, .bool false, .slice none 0 0]) (by simp [results, Try.results70, go_sem]) rfl ⟨_, _, _, _, rfl, RatV.zero _, (((Below.refl _ _).alloc (Nat.le_refl _) _).alloc (by simp) _).alloc (by simp <;> omega) _⟩
set_option maxRecDepth 100000 in
theorem make4_01 (k : Nat) (gx gy : Bool) (Ax Ay : Option Addr) (nx cx ny cy : Nat) (x y G : Int) (w : World) (hx : IntV w (.bool gx) (.slice Ax nx cx) x) (hy : IntV w (.bool gy) (.slice Ay ny cy) y) (bx : I.Bd k x) (by_ : I.Bd k y) (hk : k ≤ 800000000000) (hnx : ((nx : Int) == 0) = false) (hny : ((ny : Int) == 0) = false) (hG : G = (Int.gcd x y : Int)) (hG0 : G ≠ 0) (hbG : I.Bd k G) (hsy : 0 < y / G) (h1 : (y / G) = 1) (r : Rat) (hr : r.num = (x / G) ∧ (r.den : Int) = (y / G)) :
  Calls Try.prog 70 #[.agg #[.bool gx, .slice Ax nx cx], .agg #[.bool gy, .slice Ay ny cy]] w (RR r w) := by
 have HX := Lib.hid hx; have HY := Lib.hid hy; have HBX := Lib.hid bx; have HBY := Lib.hid by_; have HG := Lib.hid hG; have HBG := Lib.hid hbG; have HSY := Lib.hid hsy; have H1 := Lib.hid h1; have HR := Lib.hid hr; have HG0 := Lib.hid hG0
 clear hx hy bx by_ hG hbG hsy h1 hr hG0
 go_enter Try.func70, Try.ntmps70
 go_wp2_with fail
 generalize hW : ((w.alloc _).alloc _).alloc _ = W1
 obtain ⟨kF, kG, kH, hB⟩ := box3 hW
 have k4 := Lib.hid hB; clear hW hB
 have F6 := Lib.hid (HX.out.kp (.of k4.out))
 have F7 := Lib.hid (HY.out.kp (.of k4.out))
 have k5 := rgcd3_any k (.bool gx) (.slice Ax nx cx) (.bool gy) (.slice Ay ny cy) x y W1 F6.out F7.out HBX.out HBY.out hk
 rw [← HG.out] at k5
 (with_reducible refine k5.mono ?_)
 clear k5
 rintro e w8 ⟨g0, g1, rfl, k6, k3⟩
 have k7 := kF.below k3
 have k8 := kG.below k3
 have k9 := kH.below k3
 have kI := Lib.hid (F6.out.kp (.of k3))
 have kJ := Lib.hid (F7.out.kp (.of k3))
 have kK := Lib.hid (Blw k4.out k3)
 have kL := Lib.hid k6
 obtain ⟨o_g0, o_g1⟩ := k6.ones
 clear k6 k3
 obtain ⟨k0p, k0q, k0r, l20⟩ := k7.f2
 obtain ⟨k0t, k0u, k0v, l24⟩ := k8.f2
 obtain ⟨k0x, k0y, k0z, k0A, k0B, l30⟩ := k9.f4
 go_wp2_with fail
 generalize hW : w8.alloc _ = W31
 obtain ⟨kM, hB⟩ := box1 hW
 have k0D := k7.lt
 have k0E := k8.lt
 have k0F := k9.lt
 clear hW
 have kN := k7.below hB
 have kO := k8.below hB
 have kP := k9.below hB
 have kQ := Lib.hid (kI.out.kp (.of hB))
 have kR := Lib.hid (kJ.out.kp (.of hB))
 have kq := Lib.hid (kL.out.kp (.of hB))
 have kS := Lib.hid (Blw kK.out hB)
 clear hB
 have kr := rdiv3_any k (.bool gx) (.slice Ax nx cx) g0 g1 x G W31 kQ.out kq.out HBX.out HBG.out hk HG0.out
 (with_reducible refine kr.mono ?_)
 clear kr
 rintro e w43 ⟨p0, p1, a0, a1, rfl, ka, ks, k2⟩
 have kb := kN.below k2
 have kc := kO.below k2
 have kd := kP.below k2
 have ke := kM.below k2
 have kT := Lib.hid (kR.out.kp (.of k2))
 have kU := Lib.hid (kq.out.kp (.of k2))
 have kV := Lib.hid (Blw kS.out k2)
 have kW := Lib.hid ka
 obtain ⟨o_p0, o_p1⟩ := ka.ones
 obtain ⟨o_a0, o_a1⟩ := ks.ones
 clear ka ks k2
 obtain ⟨k0G, k0H, k0I, l58⟩ := kb.f2
 obtain ⟨k0K, k0L, k0M, l62⟩ := kc.f2
 obtain ⟨k0O, k0P, k0Q, k0R, k0S, l68⟩ := kd.f4
 obtain ⟨k0U, k0V, k0W, l72⟩ := ke.f2
 go_wp2_with fail
 generalize hW : (w43.alloc _).alloc _ = W73
 obtain ⟨kX, kY, hB⟩ := box2 hW
 have k0Y := kb.lt
 have k0Z := kc.lt
 have k10 := kd.lt
 have k11 := ke.lt
 clear hW
 have kZ := kb.below hB
 have k00 := kc.below hB
 have k01 := kd.below hB
 have k02 := ke.below hB
 have F85 := Lib.hid (kT.out.kp (.of hB))
 have F86 := Lib.hid (kU.out.kp (.of hB))
 have F87 := Lib.hid (kW.out.kp (.of hB))
 have k06 := Lib.hid (Blw kV.out hB)
 clear hB
 have kt := rdiv3_any k (.bool gy) (.slice Ay ny cy) g0 g1 y G W73 F85.out F86.out HBY.out HBG.out hk HG0.out
 (with_reducible refine kt.mono ?_)
 clear kt
 rintro e w90 ⟨q0, q1, b0, b1, rfl, kf, ku, k1⟩
 have kg := kZ.below k1
 have kh := k00.below k1
 have ki := k01.below k1
 have kj := k02.below k1
 have kk := kX.below k1
 have kl := kY.below k1
 have k07 := Lib.hid (F87.out.kp (.of k1))
 have k08 := Lib.hid (Blw k06.out k1)
 have km := Lib.hid kf
 obtain ⟨o_q0, o_q1⟩ := kf.ones
 obtain ⟨o_b0, o_b1⟩ := ku.ones
 clear kf ku k1
 obtain ⟨gq, Aq, nq, cq, rfl, rfl⟩ := km.out.form
 obtain ⟨k12, k13, k14, k15⟩ := kg.f2
 obtain ⟨k16, k17, k18, k19⟩ := kh.f2
 obtain ⟨k1a, k1b, k1c, k1d, k1e, k1f⟩ := ki.f4
 obtain ⟨k1g, k1h, k1i, k1j⟩ := kj.f2
 obtain ⟨k1k, k1l, k1m, k1n⟩ := kk.f2
 obtain ⟨k1o, k1p, k1q, k1r⟩ := kl.f2
 have hgq := km.out.len.1
 rw [show decide (y / G < 0) = false from decide_eq_false (by have := HSY.out; omega)] at hgq
 subst hgq
 go_wp2_with fail
 generalize hW : (w90.alloc _).alloc _ = W132
 obtain ⟨kv, kw, hB⟩ := box2 hW
 have k1s := kg.lt
 have k1t := kh.lt
 have k1u := ki.lt
 have k1v := kj.lt
 have k1w := kk.lt
 have k1x := kl.lt
 clear hW
 have kx := kg.below hB
 have ky := kh.below hB
 have kz := ki.below hB
 have kA := kj.below hB
 have kB := kk.below hB
 have kC := kl.below hB
 have k09 := Lib.hid (k07.out.kp (.of hB))
 have k0a := Lib.hid (km.out.kp (.of hB))
 have k0b := Lib.hid (Blw k08.out hB)
 clear hB
 obtain ⟨k1y, k1z, k1A, k1B⟩ := kx.f2
 obtain ⟨k1C, k1D, k1E, k1F⟩ := ky.f2
 obtain ⟨k1G, k1H, k1I, k1J, k1K, k1L⟩ := kz.f4
 obtain ⟨k1M, k1N, k1O, k1P⟩ := kA.f2
 obtain ⟨k1Q, k1R, k1S, k1T⟩ := kB.f2
 obtain ⟨k1U, k1V, k1W, k1X⟩ := kC.f2
 obtain ⟨k1Y, k1Z, k20, k21⟩ := kv.f2
 obtain ⟨k22, k23, k24, k25⟩ := kw.f2
 go_wp2_with fail
 have kD := one4_any (.bool false) (.slice Aq nq cq) (y / G) W132 k0a.out true (decide_eq_true H1.out).symm
 (with_reducible refine kD.mono ?_)
 clear kD
 rintro e w189 ⟨rfl, k0⟩
 have k0c := kx.below k0
 have k0d := ky.below k0
 have kE := kz.below k0
 have k0e := kA.below k0
 have k0f := kB.below k0
 have k0g := kC.below k0
 have k0h := kv.below k0
 have k0i := kw.below k0
 have k0j := Lib.hid (k09.out.kp (.of k0))
 have k0k := Lib.hid (Blw k0b.out k0)
 clear k0
 obtain ⟨k26, k27, k28, k29⟩ := k0c.f2
 obtain ⟨k2a, k2b, k2c, k2d⟩ := k0d.f2
 obtain ⟨k0l, k0m, k0n, k0o, k2e, k2f⟩ := kE.f4
 obtain ⟨k2g, k2h, k2i, k2j⟩ := k0e.f2
 obtain ⟨k2k, k2l, k2m, k2n⟩ := k0f.f2
 obtain ⟨k2o, k2p, k2q, k2r⟩ := k0g.f2
 obtain ⟨k2s, k2t, k2u, k2v⟩ := k0h.f2
 obtain ⟨k2w, k2x, k2y, k2z⟩ := k0i.f2
 go_wp2
 have hkp := (Kp.refl w189).t4 (kE) p0 p1 (.bool false) (.slice none 0 0)
 refine bodyPost_ret (v := .agg #[p0, p1, .bool false, .slice none 0 0]) (by simp [results, Try.results70, go_sem, k0l, k0m, k0n, k0o]) rfl ⟨_, _, _, _, rfl, ⟨?_, ?_⟩, bel4 (k0k.out) (by first | simp | omega)⟩
 ·rw [HR.out.1]; exact k0j.out.kp hkp
 ·rw [dq_one (by have h2 := HR.out.2; rw [H1.out] at h2; omega)]; exact IntV.zero _
set_option maxRecDepth 100000 in
theorem make4_00 (k : Nat) (gx gy : Bool) (Ax Ay : Option Addr) (nx cx ny cy : Nat) (x y G : Int) (w : World) (hx : IntV w (.bool gx) (.slice Ax nx cx) x) (hy : IntV w (.bool gy) (.slice Ay ny cy) y) (bx : I.Bd k x) (by_ : I.Bd k y) (hk : k ≤ 800000000000) (hnx : ((nx : Int) == 0) = false) (hny : ((ny : Int) == 0) = false) (hG : G = (Int.gcd x y : Int)) (hG0 : G ≠ 0) (hbG : I.Bd k G) (hsy : 0 < y / G) (h1 : ¬ (y / G) = 1) (r : Rat) (hr : r.num = (x / G) ∧ (r.den : Int) = (y / G)) :
  Calls Try.prog 70 #[.agg #[.bool gx, .slice Ax nx cx], .agg #[.bool gy, .slice Ay ny cy]] w (RR r w) := by
 have HX := Lib.hid hx; have HY := Lib.hid hy; have HBX := Lib.hid bx; have HBY := Lib.hid by_; have HG := Lib.hid hG; have HBG := Lib.hid hbG; have HSY := Lib.hid hsy; have H1 := Lib.hid h1; have HR := Lib.hid hr; have HG0 := Lib.hid hG0
 clear hx hy bx by_ hG hbG hsy h1 hr hG0
 go_enter Try.func70, Try.ntmps70
 go_wp2_with fail
 generalize hW : ((w.alloc _).alloc _).alloc _ = W1
 obtain ⟨kG, kH, kI, hB⟩ := box3 hW
 have k4 := Lib.hid hB; clear hW hB
 have F6 := Lib.hid (HX.out.kp (.of k4.out))
 have F7 := Lib.hid (HY.out.kp (.of k4.out))
 have k5 := rgcd3_any k (.bool gx) (.slice Ax nx cx) (.bool gy) (.slice Ay ny cy) x y W1 F6.out F7.out HBX.out HBY.out hk
 rw [← HG.out] at k5
 (with_reducible refine k5.mono ?_)
 clear k5
 rintro e w8 ⟨g0, g1, rfl, k6, k3⟩
 have k7 := kG.below k3
 have k8 := kH.below k3
 have k9 := kI.below k3
 have kJ := Lib.hid (F6.out.kp (.of k3))
 have kK := Lib.hid (F7.out.kp (.of k3))
 have kL := Lib.hid (Blw k4.out k3)
 have kM := Lib.hid k6
 obtain ⟨o_g0, o_g1⟩ := k6.ones
 clear k6 k3
 obtain ⟨k0q, k0r, k0s, l20⟩ := k7.f2
 obtain ⟨k0u, k0v, k0w, l24⟩ := k8.f2
 obtain ⟨k0y, k0z, k0A, k0B, k0C, l30⟩ := k9.f4
 go_wp2_with fail
 generalize hW : w8.alloc _ = W31
 obtain ⟨kN, hB⟩ := box1 hW
 have k0E := k7.lt
 have k0F := k8.lt
 have k0G := k9.lt
 clear hW
 have kO := k7.below hB
 have kP := k8.below hB
 have kQ := k9.below hB
 have kR := Lib.hid (kJ.out.kp (.of hB))
 have kS := Lib.hid (kK.out.kp (.of hB))
 have kq := Lib.hid (kM.out.kp (.of hB))
 have kT := Lib.hid (Blw kL.out hB)
 clear hB
 have kr := rdiv3_any k (.bool gx) (.slice Ax nx cx) g0 g1 x G W31 kR.out kq.out HBX.out HBG.out hk HG0.out
 (with_reducible refine kr.mono ?_)
 clear kr
 rintro e w43 ⟨p0, p1, a0, a1, rfl, ka, ks, k2⟩
 have kb := kO.below k2
 have kc := kP.below k2
 have kd := kQ.below k2
 have ke := kN.below k2
 have kU := Lib.hid (kS.out.kp (.of k2))
 have kV := Lib.hid (kq.out.kp (.of k2))
 have kW := Lib.hid (Blw kT.out k2)
 have kX := Lib.hid ka
 obtain ⟨o_p0, o_p1⟩ := ka.ones
 obtain ⟨o_a0, o_a1⟩ := ks.ones
 clear ka ks k2
 obtain ⟨k0H, k0I, k0J, l58⟩ := kb.f2
 obtain ⟨k0L, k0M, k0N, l62⟩ := kc.f2
 obtain ⟨k0P, k0Q, k0R, k0S, k0T, l68⟩ := kd.f4
 obtain ⟨k0V, k0W, k0X, l72⟩ := ke.f2
 go_wp2_with fail
 generalize hW : (w43.alloc _).alloc _ = W73
 obtain ⟨kY, kZ, hB⟩ := box2 hW
 have k0Z := kb.lt
 have k10 := kc.lt
 have k11 := kd.lt
 have k12 := ke.lt
 clear hW
 have k00 := kb.below hB
 have k01 := kc.below hB
 have k02 := kd.below hB
 have k03 := ke.below hB
 have F85 := Lib.hid (kU.out.kp (.of hB))
 have F86 := Lib.hid (kV.out.kp (.of hB))
 have F87 := Lib.hid (kX.out.kp (.of hB))
 have k07 := Lib.hid (Blw kW.out hB)
 clear hB
 have kt := rdiv3_any k (.bool gy) (.slice Ay ny cy) g0 g1 y G W73 F85.out F86.out HBY.out HBG.out hk HG0.out
 (with_reducible refine kt.mono ?_)
 clear kt
 rintro e w90 ⟨q0, q1, b0, b1, rfl, kf, ku, k1⟩
 have kg := k00.below k1
 have kh := k01.below k1
 have ki := k02.below k1
 have kj := k03.below k1
 have kk := kY.below k1
 have kl := kZ.below k1
 have k08 := Lib.hid (F87.out.kp (.of k1))
 have k09 := Lib.hid (Blw k07.out k1)
 have km := Lib.hid kf
 obtain ⟨o_q0, o_q1⟩ := kf.ones
 obtain ⟨o_b0, o_b1⟩ := ku.ones
 clear kf ku k1
 obtain ⟨gq, Aq, nq, cq, rfl, rfl⟩ := km.out.form
 obtain ⟨k13, k14, k15, k16⟩ := kg.f2
 obtain ⟨k17, k18, k19, k1a⟩ := kh.f2
 obtain ⟨k1b, k1c, k1d, k1e, k1f, k1g⟩ := ki.f4
 obtain ⟨k1h, k1i, k1j, k1k⟩ := kj.f2
 obtain ⟨k1l, k1m, k1n, k1o⟩ := kk.f2
 obtain ⟨k1p, k1q, k1r, k1s⟩ := kl.f2
 have hgq := km.out.len.1
 rw [show decide (y / G < 0) = false from decide_eq_false (by have := HSY.out; omega)] at hgq
 subst hgq
 go_wp2_with fail
 generalize hW : (w90.alloc _).alloc _ = W132
 obtain ⟨kv, kw, hB⟩ := box2 hW
 have k1t := kg.lt
 have k1u := kh.lt
 have k1v := ki.lt
 have k1w := kj.lt
 have k1x := kk.lt
 have k1y := kl.lt
 clear hW
 have kx := kg.below hB
 have ky := kh.below hB
 have kz := ki.below hB
 have kA := kj.below hB
 have kB := kk.below hB
 have kC := kl.below hB
 have k0a := Lib.hid (k08.out.kp (.of hB))
 have kD := Lib.hid (km.out.kp (.of hB))
 have k0b := Lib.hid (Blw k09.out hB)
 clear hB
 obtain ⟨k1z, k1A, k1B, k1C⟩ := kx.f2
 obtain ⟨k1D, k1E, k1F, k1G⟩ := ky.f2
 obtain ⟨k1H, k1I, k1J, k1K, k1L, k1M⟩ := kz.f4
 obtain ⟨k1N, k1O, k1P, k1Q⟩ := kA.f2
 obtain ⟨k1R, k1S, k1T, k1U⟩ := kB.f2
 obtain ⟨k1V, k1W, k1X, k1Y⟩ := kC.f2
 obtain ⟨k1Z, k20, k21, k22⟩ := kv.f2
 obtain ⟨k23, k24, k25, k26⟩ := kw.f2
 go_wp2_with fail
 have kE := one4_any (.bool false) (.slice Aq nq cq) (y / G) W132 kD.out false (decide_eq_false H1.out).symm
 (with_reducible refine kE.mono ?_)
 clear kE
 rintro e w189 ⟨rfl, k0⟩
 have k0c := kx.below k0
 have k0d := ky.below k0
 have kF := kz.below k0
 have k0e := kA.below k0
 have k0f := kB.below k0
 have k0g := kC.below k0
 have k0h := kv.below k0
 have k0i := kw.below k0
 have k0j := Lib.hid (k0a.out.kp (.of k0))
 have k0k := Lib.hid (kD.out.kp (.of k0))
 have k0l := Lib.hid (Blw k0b.out k0)
 clear k0
 obtain ⟨k27, k28, k29, k2a⟩ := k0c.f2
 obtain ⟨k2b, k2c, k2d, k2e⟩ := k0d.f2
 obtain ⟨k0m, k0n, k0o, k0p, k2f, k2g⟩ := kF.f4
 obtain ⟨k2h, k2i, k2j, k2k⟩ := k0e.f2
 obtain ⟨k2l, k2m, k2n, k2o⟩ := k0f.f2
 obtain ⟨k2p, k2q, k2r, k2s⟩ := k0g.f2
 obtain ⟨k2t, k2u, k2v, k2w⟩ := k0h.f2
 obtain ⟨k2x, k2y, k2z, k2A⟩ := k0i.f2
 go_wp2
 have hkp := (Kp.refl w189).t4 (kF) p0 p1 (.bool false) (.slice Aq nq cq)
 refine bodyPost_ret (v := .agg #[p0, p1, .bool false, .slice Aq nq cq]) (by simp [results, Try.results70, go_sem, k0m, k0n, k0o, k0p]) rfl ⟨_, _, _, _, rfl, ⟨?_, ?_⟩, bel4 (k0l.out) (by first | simp | omega)⟩
 ·rw [HR.out.1]; exact k0j.out.kp hkp
 ·rw [dq_more (by have h2 := HR.out.2; have := H1.out; intro h3; rw [h3] at h2; omega), HR.out.2]; exact k0k.out.kp hkp
set_option maxRecDepth 100000 in
theorem make4_11 (k : Nat) (gx gy : Bool) (Ax Ay : Option Addr) (nx cx ny cy : Nat) (x y G : Int) (w : World) (hx : IntV w (.bool gx) (.slice Ax nx cx) x) (hy : IntV w (.bool gy) (.slice Ay ny cy) y) (bx : I.Bd k x) (by_ : I.Bd k y) (hk : k ≤ 800000000000) (hnx : ((nx : Int) == 0) = false) (hny : ((ny : Int) == 0) = false) (hG : G = (Int.gcd x y : Int)) (hG0 : G ≠ 0) (hbG : I.Bd k G) (hsy : y / G < 0) (h1 : (-(y / G)) = 1) (r : Rat) (hr : r.num = (-(x / G)) ∧ (r.den : Int) = (-(y / G))) :
  Calls Try.prog 70 #[.agg #[.bool gx, .slice Ax nx cx], .agg #[.bool gy, .slice Ay ny cy]] w (RR r w) := by
 have HX := Lib.hid hx; have HY := Lib.hid hy; have HBX := Lib.hid bx; have HBY := Lib.hid by_; have HG := Lib.hid hG; have HBG := Lib.hid hbG; have HSY := Lib.hid hsy; have H1 := Lib.hid h1; have HR := Lib.hid hr; have HG0 := Lib.hid hG0
 clear hx hy bx by_ hG hbG hsy h1 hr hG0
 go_enter Try.func70, Try.ntmps70
 go_wp2_with fail
 generalize hW : ((w.alloc _).alloc _).alloc _ = W1
 obtain ⟨k0d, k0e, k0f, hB⟩ := box3 hW
 have k6 := Lib.hid hB; clear hW hB
 have F6 := Lib.hid (HX.out.kp (.of k6.out))
 have F7 := Lib.hid (HY.out.kp (.of k6.out))
 have k7 := rgcd3_any k (.bool gx) (.slice Ax nx cx) (.bool gy) (.slice Ay ny cy) x y W1 F6.out F7.out HBX.out HBY.out hk
 rw [← HG.out] at k7
 (with_reducible refine k7.mono ?_)
 clear k7
 rintro e w8 ⟨g0, g1, rfl, k8, k5⟩
 have k9 := k0d.below k5
 have ka := k0e.below k5
 have kb := k0f.below k5
 have F13 := Lib.hid (F6.out.kp (.of k5))
 have F14 := Lib.hid (F7.out.kp (.of k5))
 have k0i := Lib.hid (Blw k6.out k5)
 have F16 := Lib.hid k8
 obtain ⟨o_g0, o_g1⟩ := k8.ones
 clear k8 k5
 obtain ⟨k1h, k1i, k1j, l20⟩ := k9.f2
 obtain ⟨k1l, k1m, k1n, l24⟩ := ka.f2
 obtain ⟨k1p, k1q, k1r, k1s, k1t, l30⟩ := kb.f4
 go_wp2_with fail
 generalize hW : w8.alloc _ = W31
 obtain ⟨k0k, hB⟩ := box1 hW
 have k1v := k9.lt
 have k1w := ka.lt
 have k1x := kb.lt
 clear hW
 have k0l := k9.below hB
 have k0m := ka.below hB
 have k0n := kb.below hB
 have F39 := Lib.hid (F13.out.kp (.of hB))
 have F40 := Lib.hid (F14.out.kp (.of hB))
 have ky := Lib.hid (F16.out.kp (.of hB))
 have k0q := Lib.hid (Blw k0i.out hB)
 clear hB
 have kz := rdiv3_any k (.bool gx) (.slice Ax nx cx) g0 g1 x G W31 F39.out ky.out HBX.out HBG.out hk HG0.out
 (with_reducible refine kz.mono ?_)
 clear kz
 rintro e w43 ⟨p0, p1, a0, a1, rfl, kc, kA, k4⟩
 have kd := k0l.below k4
 have ke := k0m.below k4
 have kf := k0n.below k4
 have kg := k0k.below k4
 have F50 := Lib.hid (F40.out.kp (.of k4))
 have F51 := Lib.hid (ky.out.kp (.of k4))
 have k0t := Lib.hid (Blw k0q.out k4)
 have F53 := Lib.hid kc
 obtain ⟨o_p0, o_p1⟩ := kc.ones
 obtain ⟨o_a0, o_a1⟩ := kA.ones
 clear kc kA k4
 obtain ⟨k1y, k1z, k1A, l58⟩ := kd.f2
 obtain ⟨k1C, k1D, k1E, l62⟩ := ke.f2
 obtain ⟨k1G, k1H, k1I, k1J, k1K, l68⟩ := kf.f4
 obtain ⟨k1M, k1N, k1O, l72⟩ := kg.f2
 go_wp2_with fail
 generalize hW : (w43.alloc _).alloc _ = W73
 obtain ⟨k0v, k0w, hB⟩ := box2 hW
 have k1Q := kd.lt
 have k1R := ke.lt
 have k1S := kf.lt
 have k1T := kg.lt
 clear hW
 have k0x := kd.below hB
 have k0y := ke.below hB
 have k0z := kf.below hB
 have k0A := kg.below hB
 have F85 := Lib.hid (F50.out.kp (.of hB))
 have F86 := Lib.hid (F51.out.kp (.of hB))
 have F87 := Lib.hid (F53.out.kp (.of hB))
 have k0E := Lib.hid (Blw k0t.out hB)
 clear hB
 have kB := rdiv3_any k (.bool gy) (.slice Ay ny cy) g0 g1 y G W73 F85.out F86.out HBY.out HBG.out hk HG0.out
 (with_reducible refine kB.mono ?_)
 clear kB
 rintro e w90 ⟨q0, q1, b0, b1, rfl, kh, kC, k3⟩
 have ki := k0x.below k3
 have kj := k0y.below k3
 have kk := k0z.below k3
 have kl := k0A.below k3
 have km := k0v.below k3
 have kn := k0w.below k3
 have k0F := Lib.hid (F87.out.kp (.of k3))
 have k0G := Lib.hid (Blw k0E.out k3)
 have ko := Lib.hid kh
 obtain ⟨o_q0, o_q1⟩ := kh.ones
 obtain ⟨o_b0, o_b1⟩ := kC.ones
 clear kh kC k3
 obtain ⟨gq, Aq, nq, cq, rfl, rfl⟩ := ko.out.form
 obtain ⟨k1U, k1V, k1W, k1X⟩ := ki.f2
 obtain ⟨k1Y, k1Z, k20, k21⟩ := kj.f2
 obtain ⟨k22, k23, k24, k25, k26, k27⟩ := kk.f4
 obtain ⟨k28, k29, k2a, k2b⟩ := kl.f2
 obtain ⟨k2c, k2d, k2e, k2f⟩ := km.f2
 obtain ⟨k2g, k2h, k2i, k2j⟩ := kn.f2
 have hgq := ko.out.len.1
 rw [show decide (y / G < 0) = true from decide_eq_true HSY.out] at hgq
 subst hgq
 go_wp2_with fail
 generalize hW : (w90.alloc _).alloc _ = W132
 obtain ⟨kD, kE, hB⟩ := box2 hW
 have k2k := ki.lt
 have k2l := kj.lt
 have k2m := kk.lt
 have k2n := kl.lt
 have k2o := km.lt
 have k2p := kn.lt
 clear hW
 have kF := ki.below hB
 have kG := kj.below hB
 have kH := kk.below hB
 have kI := kl.below hB
 have kJ := km.below hB
 have kK := kn.below hB
 have k0H := Lib.hid (k0F.out.kp (.of hB))
 have k0I := Lib.hid (ko.out.kp (.of hB))
 have k0J := Lib.hid (Blw k0G.out hB)
 clear hB
 obtain ⟨k2q, k2r, k2s, k2t⟩ := kF.f2
 obtain ⟨k2u, k2v, k2w, k2x⟩ := kG.f2
 obtain ⟨k2y, k2z, k2A, k2B, k2C, k2D⟩ := kH.f4
 obtain ⟨k2E, k2F, k2G, k2H⟩ := kI.f2
 obtain ⟨k2I, k2J, k2K, k2L⟩ := kJ.f2
 obtain ⟨k2M, k2N, k2O, k2P⟩ := kK.f2
 obtain ⟨k2Q, k2R, k2S, k2T⟩ := kD.f2
 obtain ⟨k2U, k2V, k2W, k2X⟩ := kE.f2
 go_wp2_with fail
 have kL := rneg3_any p0 p1 (x / G) W132 k0H.out
 (with_reducible refine kL.mono ?_)
 clear kL
 rintro e w189 ⟨m0, m1, rfl, kq, k0⟩
 have kM := kF.below k0
 have kN := kG.below k0
 have kO := kH.below k0
 have kP := kI.below k0
 have kr := kJ.below k0
 have kQ := kK.below k0
 have kR := kD.below k0
 have kS := kE.below k0
 have k0K := Lib.hid (k0I.out.kp (.of k0))
 have k0L := Lib.hid (Blw k0J.out k0)
 have k0M := Lib.hid kq
 obtain ⟨o_m0, o_m1⟩ := kq.ones
 clear kq k0
 obtain ⟨k2Y, k2Z, k30, k31⟩ := kM.f2
 obtain ⟨k32, k33, k34, k35⟩ := kN.f2
 obtain ⟨k36, k37, k38, k39, k3a, k3b⟩ := kO.f4
 obtain ⟨k3c, k3d, k3e, k3f⟩ := kP.f2
 obtain ⟨k3g, k3h, k3i, k3j⟩ := kr.f2
 obtain ⟨k3k, k3l, k3m, k3n⟩ := kQ.f2
 obtain ⟨k3o, k3p, k3q, k3r⟩ := kR.f2
 obtain ⟨k3s, k3t, k3u, k3v⟩ := kS.f2
 go_wp2_with fail
 have ks := (kr).set_ 0 (m0)
 have kT := (ks).set_ 1 (m1)
 have hkp : Kp w189 ((w189.setCell ⟨w43.heap.size, 0, none⟩ (m0)).setCell ⟨w43.heap.size, 1, none⟩ (m1)) := ((Kp.refl _).set_ (kr) (by decide) _).set_ (ks) (by decide) _
 obtain ⟨W244, hW⟩ : ∃ W, W = (w189.setCell ⟨w43.heap.size, 0, none⟩ (m0)).setCell ⟨w43.heap.size, 1, none⟩ (m1) := ⟨_, rfl⟩
 rw [← hW]
 rw [← hW] at hkp
 have hB : Below w.heap.size w W244 := by rw [hW]; exact bel2 (k0L.out) (by first | simp | omega)
 have k0N := Lib.hid hB; clear hB
 have k0O := Lib.hid (k0K.out.kp hkp)
 have k0P := Lib.hid (k0M.out.kp hkp)
 have k0Q : Bx W244 (w.heap.size) 24 [.bool gx, .slice Ax nx cx] := by rw [hW]; exact ((kM).far_ (g' := w43.heap.size) (j := 0) (by omega) (m0)).far_ (g' := w43.heap.size) (j := 1) (by omega) (m1)
 have k0R : Bx W244 (w.heap.size + 1) 24 [.bool gy, .slice Ay ny cy] := by rw [hW]; exact ((kN).far_ (g' := w43.heap.size) (j := 0) (by omega) (m0)).far_ (g' := w43.heap.size) (j := 1) (by omega) (m1)
 have k0S : Bx W244 (w.heap.size + 1 + 1) 26 [.bool false, .slice none 0 0, .bool false, .slice none 0 0] := by rw [hW]; exact ((kO).far_ (g' := w43.heap.size) (j := 0) (by omega) (m0)).far_ (g' := w43.heap.size) (j := 1) (by omega) (m1)
 have k0T : Bx W244 (w8.heap.size) 24 [g0, g1] := by rw [hW]; exact ((kP).far_ (g' := w43.heap.size) (j := 0) (by omega) (m0)).far_ (g' := w43.heap.size) (j := 1) (by omega) (m1)
 have k0U : Bx W244 (w43.heap.size) 24 [m0, m1] := by rw [hW]; exact kT
 have k0V : Bx W244 (w43.heap.size + 1) 24 [a0, a1] := by rw [hW]; exact ((kQ).far_ (g' := w43.heap.size) (j := 0) (by omega) (m0)).far_ (g' := w43.heap.size) (j := 1) (by omega) (m1)
 have k0W : Bx W244 (w90.heap.size) 24 [.bool true, .slice Aq nq cq] := by rw [hW]; exact ((kR).far_ (g' := w43.heap.size) (j := 0) (by omega) (m0)).far_ (g' := w43.heap.size) (j := 1) (by omega) (m1)
 have k0X : Bx W244 (w90.heap.size + 1) 24 [b0, b1] := by rw [hW]; exact ((kS).far_ (g' := w43.heap.size) (j := 0) (by omega) (m0)).far_ (g' := w43.heap.size) (j := 1) (by omega) (m1)
 clear hW hkp ks kT
 have kU := rneg3_any (.bool true) (.slice Aq nq cq) (y / G) W244 k0O.out
 (with_reducible refine kU.mono ?_)
 clear kU
 rintro e w262 ⟨n0, n1, rfl, kt, k1⟩
 have kV := k0Q.below k1
 have kW := k0R.below k1
 have kX := k0S.below k1
 have kY := k0T.below k1
 have kZ := k0U.below k1
 have k00 := k0V.below k1
 have ku := k0W.below k1
 have k01 := k0X.below k1
 have k0Y := Lib.hid (k0P.out.kp (.of k1))
 have k0Z := Lib.hid (Blw k0N.out k1)
 have k10 := Lib.hid kt
 obtain ⟨o_n0, o_n1⟩ := kt.ones
 clear kt k1
 obtain ⟨k3w, k3x, k3y, k3z⟩ := kV.f2
 obtain ⟨k3A, k3B, k3C, k3D⟩ := kW.f2
 obtain ⟨k3E, k3F, k3G, k3H, k3I, k3J⟩ := kX.f4
 obtain ⟨k3K, k3L, k3M, k3N⟩ := kY.f2
 obtain ⟨k3O, k3P, k3Q, k3R⟩ := kZ.f2
 obtain ⟨k3S, k3T, k3U, k3V⟩ := k00.f2
 obtain ⟨k3W, k3X, k3Y, k3Z⟩ := ku.f2
 obtain ⟨k40, k41, k42, k43⟩ := k01.f2
 go_wp2_with fail
 have kv := (ku).set_ 0 (n0)
 have k02 := (kv).set_ 1 (n1)
 have hkp : Kp w262 ((w262.setCell ⟨w90.heap.size, 0, none⟩ (n0)).setCell ⟨w90.heap.size, 1, none⟩ (n1)) := ((Kp.refl _).set_ (ku) (by decide) _).set_ (kv) (by decide) _
 obtain ⟨W318, hW⟩ : ∃ W, W = (w262.setCell ⟨w90.heap.size, 0, none⟩ (n0)).setCell ⟨w90.heap.size, 1, none⟩ (n1) := ⟨_, rfl⟩
 rw [← hW]
 rw [← hW] at hkp
 have hB : Below w.heap.size w W318 := by rw [hW]; exact bel2 (k0Z.out) (by first | simp | omega)
 have k11 := Lib.hid hB; clear hB
 have k12 := Lib.hid (k0Y.out.kp hkp)
 have k13 := Lib.hid (k10.out.kp hkp)
 have k03 : Bx W318 (w.heap.size) 24 [.bool gx, .slice Ax nx cx] := by rw [hW]; exact ((kV).far_ (g' := w90.heap.size) (j := 0) (by omega) (n0)).far_ (g' := w90.heap.size) (j := 1) (by omega) (n1)
 have k04 : Bx W318 (w.heap.size + 1) 24 [.bool gy, .slice Ay ny cy] := by rw [hW]; exact ((kW).far_ (g' := w90.heap.size) (j := 0) (by omega) (n0)).far_ (g' := w90.heap.size) (j := 1) (by omega) (n1)
 have k05 : Bx W318 (w.heap.size + 1 + 1) 26 [.bool false, .slice none 0 0, .bool false, .slice none 0 0] := by rw [hW]; exact ((kX).far_ (g' := w90.heap.size) (j := 0) (by omega) (n0)).far_ (g' := w90.heap.size) (j := 1) (by omega) (n1)
 have k06 : Bx W318 (w8.heap.size) 24 [g0, g1] := by rw [hW]; exact ((kY).far_ (g' := w90.heap.size) (j := 0) (by omega) (n0)).far_ (g' := w90.heap.size) (j := 1) (by omega) (n1)
 have k07 : Bx W318 (w43.heap.size) 24 [m0, m1] := by rw [hW]; exact ((kZ).far_ (g' := w90.heap.size) (j := 0) (by omega) (n0)).far_ (g' := w90.heap.size) (j := 1) (by omega) (n1)
 have k08 : Bx W318 (w43.heap.size + 1) 24 [a0, a1] := by rw [hW]; exact ((k00).far_ (g' := w90.heap.size) (j := 0) (by omega) (n0)).far_ (g' := w90.heap.size) (j := 1) (by omega) (n1)
 have k09 : Bx W318 (w90.heap.size) 24 [n0, n1] := by rw [hW]; exact k02
 have k0a : Bx W318 (w90.heap.size + 1) 24 [b0, b1] := by rw [hW]; exact ((k01).far_ (g' := w90.heap.size) (j := 0) (by omega) (n0)).far_ (g' := w90.heap.size) (j := 1) (by omega) (n1)
 clear hW hkp kv k02
 obtain ⟨k44, k45, k46, k47⟩ := k03.f2
 obtain ⟨k48, k49, k4a, k4b⟩ := k04.f2
 obtain ⟨k4c, k4d, k4e, k4f, k4g, k4h⟩ := k05.f4
 obtain ⟨k4i, k4j, k4k, k4l⟩ := k06.f2
 obtain ⟨k4m, k4n, k4o, k4p⟩ := k07.f2
 obtain ⟨k4q, k4r, k4s, k4t⟩ := k08.f2
 obtain ⟨k4u, k4v, k4w, k4x⟩ := k09.f2
 obtain ⟨k4y, k4z, k4A, k4B⟩ := k0a.f2
 go_wp2_with fail
 have k0b := one4_any (n0) (n1) (-(y / G)) W318 k13.out true (decide_eq_true H1.out).symm
 (with_reducible refine k0b.mono ?_)
 clear k0b
 rintro e w371 ⟨rfl, k2⟩
 have k14 := k03.below k2
 have k15 := k04.below k2
 have k0c := k05.below k2
 have k16 := k06.below k2
 have k17 := k07.below k2
 have k18 := k08.below k2
 have k19 := k09.below k2
 have k1a := k0a.below k2
 have k1b := Lib.hid (k12.out.kp (.of k2))
 have k1c := Lib.hid (Blw k11.out k2)
 clear k2
 obtain ⟨k4C, k4D, k4E, k4F⟩ := k14.f2
 obtain ⟨k4G, k4H, k4I, k4J⟩ := k15.f2
 obtain ⟨k1d, k1e, k1f, k1g, k4K, k4L⟩ := k0c.f4
 obtain ⟨k4M, k4N, k4O, k4P⟩ := k16.f2
 obtain ⟨k4Q, k4R, k4S, k4T⟩ := k17.f2
 obtain ⟨k4U, k4V, k4W, k4X⟩ := k18.f2
 obtain ⟨k4Y, k4Z, k50, k51⟩ := k19.f2
 obtain ⟨k52, k53, k54, k55⟩ := k1a.f2
 go_wp2
 have hkp := (Kp.refl w371).t4 (k0c) m0 m1 (.bool false) (.slice none 0 0)
 refine bodyPost_ret (v := .agg #[m0, m1, .bool false, .slice none 0 0]) (by simp [results, Try.results70, go_sem, k1d, k1e, k1f, k1g]) rfl ⟨_, _, _, _, rfl, ⟨?_, ?_⟩, bel4 (k1c.out) (by first | simp | omega)⟩
 ·rw [HR.out.1]; exact k1b.out.kp hkp
 ·rw [dq_one (by have h2 := HR.out.2; rw [H1.out] at h2; omega)]; exact IntV.zero _
set_option maxRecDepth 100000 in
theorem make4_10 (k : Nat) (gx gy : Bool) (Ax Ay : Option Addr) (nx cx ny cy : Nat) (x y G : Int) (w : World) (hx : IntV w (.bool gx) (.slice Ax nx cx) x) (hy : IntV w (.bool gy) (.slice Ay ny cy) y) (bx : I.Bd k x) (by_ : I.Bd k y) (hk : k ≤ 800000000000) (hnx : ((nx : Int) == 0) = false) (hny : ((ny : Int) == 0) = false) (hG : G = (Int.gcd x y : Int)) (hG0 : G ≠ 0) (hbG : I.Bd k G) (hsy : y / G < 0) (h1 : ¬ (-(y / G)) = 1) (r : Rat) (hr : r.num = (-(x / G)) ∧ (r.den : Int) = (-(y / G))) :
  Calls Try.prog 70 #[.agg #[.bool gx, .slice Ax nx cx], .agg #[.bool gy, .slice Ay ny cy]] w (RR r w) := by
 have HX := Lib.hid hx; have HY := Lib.hid hy; have HBX := Lib.hid bx; have HBY := Lib.hid by_; have HG := Lib.hid hG; have HBG := Lib.hid hbG; have HSY := Lib.hid hsy; have H1 := Lib.hid h1; have HR := Lib.hid hr; have HG0 := Lib.hid hG0
 clear hx hy bx by_ hG hbG hsy h1 hr hG0
 go_enter Try.func70, Try.ntmps70
 go_wp2_with fail
 generalize hW : ((w.alloc _).alloc _).alloc _ = W1
 obtain ⟨k0e, k0f, k0g, hB⟩ := box3 hW
 have k6 := Lib.hid hB; clear hW hB
 have F6 := Lib.hid (HX.out.kp (.of k6.out))
 have F7 := Lib.hid (HY.out.kp (.of k6.out))
 have k7 := rgcd3_any k (.bool gx) (.slice Ax nx cx) (.bool gy) (.slice Ay ny cy) x y W1 F6.out F7.out HBX.out HBY.out hk
 rw [← HG.out] at k7
 (with_reducible refine k7.mono ?_)
 clear k7
 rintro e w8 ⟨g0, g1, rfl, k8, k5⟩
 have k9 := k0e.below k5
 have ka := k0f.below k5
 have kb := k0g.below k5
 have F13 := Lib.hid (F6.out.kp (.of k5))
 have F14 := Lib.hid (F7.out.kp (.of k5))
 have k0j := Lib.hid (Blw k6.out k5)
 have F16 := Lib.hid k8
 obtain ⟨o_g0, o_g1⟩ := k8.ones
 clear k8 k5
 obtain ⟨k1i, k1j, k1k, l20⟩ := k9.f2
 obtain ⟨k1m, k1n, k1o, l24⟩ := ka.f2
 obtain ⟨k1q, k1r, k1s, k1t, k1u, l30⟩ := kb.f4
 go_wp2_with fail
 generalize hW : w8.alloc _ = W31
 obtain ⟨k0l, hB⟩ := box1 hW
 have k1w := k9.lt
 have k1x := ka.lt
 have k1y := kb.lt
 clear hW
 have k0m := k9.below hB
 have k0n := ka.below hB
 have k0o := kb.below hB
 have F39 := Lib.hid (F13.out.kp (.of hB))
 have F40 := Lib.hid (F14.out.kp (.of hB))
 have ky := Lib.hid (F16.out.kp (.of hB))
 have k0r := Lib.hid (Blw k0j.out hB)
 clear hB
 have kz := rdiv3_any k (.bool gx) (.slice Ax nx cx) g0 g1 x G W31 F39.out ky.out HBX.out HBG.out hk HG0.out
 (with_reducible refine kz.mono ?_)
 clear kz
 rintro e w43 ⟨p0, p1, a0, a1, rfl, kc, kA, k4⟩
 have kd := k0m.below k4
 have ke := k0n.below k4
 have kf := k0o.below k4
 have kg := k0l.below k4
 have F50 := Lib.hid (F40.out.kp (.of k4))
 have F51 := Lib.hid (ky.out.kp (.of k4))
 have k0u := Lib.hid (Blw k0r.out k4)
 have F53 := Lib.hid kc
 obtain ⟨o_p0, o_p1⟩ := kc.ones
 obtain ⟨o_a0, o_a1⟩ := kA.ones
 clear kc kA k4
 obtain ⟨k1z, k1A, k1B, l58⟩ := kd.f2
 obtain ⟨k1D, k1E, k1F, l62⟩ := ke.f2
 obtain ⟨k1H, k1I, k1J, k1K, k1L, l68⟩ := kf.f4
 obtain ⟨k1N, k1O, k1P, l72⟩ := kg.f2
 go_wp2_with fail
 generalize hW : (w43.alloc _).alloc _ = W73
 obtain ⟨k0w, k0x, hB⟩ := box2 hW
 have k1R := kd.lt
 have k1S := ke.lt
 have k1T := kf.lt
 have k1U := kg.lt
 clear hW
 have k0y := kd.below hB
 have k0z := ke.below hB
 have k0A := kf.below hB
 have k0B := kg.below hB
 have F85 := Lib.hid (F50.out.kp (.of hB))
 have F86 := Lib.hid (F51.out.kp (.of hB))
 have F87 := Lib.hid (F53.out.kp (.of hB))
 have k0F := Lib.hid (Blw k0u.out hB)
 clear hB
 have kB := rdiv3_any k (.bool gy) (.slice Ay ny cy) g0 g1 y G W73 F85.out F86.out HBY.out HBG.out hk HG0.out
 (with_reducible refine kB.mono ?_)
 clear kB
 rintro e w90 ⟨q0, q1, b0, b1, rfl, kh, kC, k3⟩
 have ki := k0y.below k3
 have kj := k0z.below k3
 have kk := k0A.below k3
 have kl := k0B.below k3
 have km := k0w.below k3
 have kn := k0x.below k3
 have k0G := Lib.hid (F87.out.kp (.of k3))
 have k0H := Lib.hid (Blw k0F.out k3)
 have ko := Lib.hid kh
 obtain ⟨o_q0, o_q1⟩ := kh.ones
 obtain ⟨o_b0, o_b1⟩ := kC.ones
 clear kh kC k3
 obtain ⟨gq, Aq, nq, cq, rfl, rfl⟩ := ko.out.form
 obtain ⟨k1V, k1W, k1X, k1Y⟩ := ki.f2
 obtain ⟨k1Z, k20, k21, k22⟩ := kj.f2
 obtain ⟨k23, k24, k25, k26, k27, k28⟩ := kk.f4
 obtain ⟨k29, k2a, k2b, k2c⟩ := kl.f2
 obtain ⟨k2d, k2e, k2f, k2g⟩ := km.f2
 obtain ⟨k2h, k2i, k2j, k2k⟩ := kn.f2
 have hgq := ko.out.len.1
 rw [show decide (y / G < 0) = true from decide_eq_true HSY.out] at hgq
 subst hgq
 go_wp2_with fail
 generalize hW : (w90.alloc _).alloc _ = W132
 obtain ⟨kD, kE, hB⟩ := box2 hW
 have k2l := ki.lt
 have k2m := kj.lt
 have k2n := kk.lt
 have k2o := kl.lt
 have k2p := km.lt
 have k2q := kn.lt
 clear hW
 have kF := ki.below hB
 have kG := kj.below hB
 have kH := kk.below hB
 have kI := kl.below hB
 have kJ := km.below hB
 have kK := kn.below hB
 have k0I := Lib.hid (k0G.out.kp (.of hB))
 have k0J := Lib.hid (ko.out.kp (.of hB))
 have k0K := Lib.hid (Blw k0H.out hB)
 clear hB
 obtain ⟨k2r, k2s, k2t, k2u⟩ := kF.f2
 obtain ⟨k2v, k2w, k2x, k2y⟩ := kG.f2
 obtain ⟨k2z, k2A, k2B, k2C, k2D, k2E⟩ := kH.f4
 obtain ⟨k2F, k2G, k2H, k2I⟩ := kI.f2
 obtain ⟨k2J, k2K, k2L, k2M⟩ := kJ.f2
 obtain ⟨k2N, k2O, k2P, k2Q⟩ := kK.f2
 obtain ⟨k2R, k2S, k2T, k2U⟩ := kD.f2
 obtain ⟨k2V, k2W, k2X, k2Y⟩ := kE.f2
 go_wp2_with fail
 have kL := rneg3_any p0 p1 (x / G) W132 k0I.out
 (with_reducible refine kL.mono ?_)
 clear kL
 rintro e w189 ⟨m0, m1, rfl, kq, k1⟩
 have kM := kF.below k1
 have kN := kG.below k1
 have kO := kH.below k1
 have kP := kI.below k1
 have kr := kJ.below k1
 have kQ := kK.below k1
 have kR := kD.below k1
 have kS := kE.below k1
 have k0L := Lib.hid (k0J.out.kp (.of k1))
 have k0M := Lib.hid (Blw k0K.out k1)
 have k0N := Lib.hid kq
 obtain ⟨o_m0, o_m1⟩ := kq.ones
 clear kq k1
 obtain ⟨k2Z, k30, k31, k32⟩ := kM.f2
 obtain ⟨k33, k34, k35, k36⟩ := kN.f2
 obtain ⟨k37, k38, k39, k3a, k3b, k3c⟩ := kO.f4
 obtain ⟨k3d, k3e, k3f, k3g⟩ := kP.f2
 obtain ⟨k3h, k3i, k3j, k3k⟩ := kr.f2
 obtain ⟨k3l, k3m, k3n, k3o⟩ := kQ.f2
 obtain ⟨k3p, k3q, k3r, k3s⟩ := kR.f2
 obtain ⟨k3t, k3u, k3v, k3w⟩ := kS.f2
 go_wp2_with fail
 have ks := (kr).set_ 0 (m0)
 have kT := (ks).set_ 1 (m1)
 have hkp : Kp w189 ((w189.setCell ⟨w43.heap.size, 0, none⟩ (m0)).setCell ⟨w43.heap.size, 1, none⟩ (m1)) := ((Kp.refl _).set_ (kr) (by decide) _).set_ (ks) (by decide) _
 obtain ⟨W244, hW⟩ : ∃ W, W = (w189.setCell ⟨w43.heap.size, 0, none⟩ (m0)).setCell ⟨w43.heap.size, 1, none⟩ (m1) := ⟨_, rfl⟩
 rw [← hW]
 rw [← hW] at hkp
 have hB : Below w.heap.size w W244 := by rw [hW]; exact bel2 (k0M.out) (by first | simp | omega)
 have k0O := Lib.hid hB; clear hB
 have k0P := Lib.hid (k0L.out.kp hkp)
 have k0Q := Lib.hid (k0N.out.kp hkp)
 have k0R : Bx W244 (w.heap.size) 24 [.bool gx, .slice Ax nx cx] := by rw [hW]; exact ((kM).far_ (g' := w43.heap.size) (j := 0) (by omega) (m0)).far_ (g' := w43.heap.size) (j := 1) (by omega) (m1)
 have k0S : Bx W244 (w.heap.size + 1) 24 [.bool gy, .slice Ay ny cy] := by rw [hW]; exact ((kN).far_ (g' := w43.heap.size) (j := 0) (by omega) (m0)).far_ (g' := w43.heap.size) (j := 1) (by omega) (m1)
 have k0T : Bx W244 (w.heap.size + 1 + 1) 26 [.bool false, .slice none 0 0, .bool false, .slice none 0 0] := by rw [hW]; exact ((kO).far_ (g' := w43.heap.size) (j := 0) (by omega) (m0)).far_ (g' := w43.heap.size) (j := 1) (by omega) (m1)
 have k0U : Bx W244 (w8.heap.size) 24 [g0, g1] := by rw [hW]; exact ((kP).far_ (g' := w43.heap.size) (j := 0) (by omega) (m0)).far_ (g' := w43.heap.size) (j := 1) (by omega) (m1)
 have k0V : Bx W244 (w43.heap.size) 24 [m0, m1] := by rw [hW]; exact kT
 have k0W : Bx W244 (w43.heap.size + 1) 24 [a0, a1] := by rw [hW]; exact ((kQ).far_ (g' := w43.heap.size) (j := 0) (by omega) (m0)).far_ (g' := w43.heap.size) (j := 1) (by omega) (m1)
 have k0X : Bx W244 (w90.heap.size) 24 [.bool true, .slice Aq nq cq] := by rw [hW]; exact ((kR).far_ (g' := w43.heap.size) (j := 0) (by omega) (m0)).far_ (g' := w43.heap.size) (j := 1) (by omega) (m1)
 have k0Y : Bx W244 (w90.heap.size + 1) 24 [b0, b1] := by rw [hW]; exact ((kS).far_ (g' := w43.heap.size) (j := 0) (by omega) (m0)).far_ (g' := w43.heap.size) (j := 1) (by omega) (m1)
 clear hW hkp ks kT
 have kU := rneg3_any (.bool true) (.slice Aq nq cq) (y / G) W244 k0P.out
 (with_reducible refine kU.mono ?_)
 clear kU
 rintro e w262 ⟨n0, n1, rfl, kt, k2⟩
 have kV := k0R.below k2
 have kW := k0S.below k2
 have kX := k0T.below k2
 have kY := k0U.below k2
 have kZ := k0V.below k2
 have k00 := k0W.below k2
 have ku := k0X.below k2
 have k01 := k0Y.below k2
 have k0Z := Lib.hid (k0Q.out.kp (.of k2))
 have k10 := Lib.hid (Blw k0O.out k2)
 have k11 := Lib.hid kt
 obtain ⟨o_n0, o_n1⟩ := kt.ones
 clear kt k2
 obtain ⟨k3x, k3y, k3z, k3A⟩ := kV.f2
 obtain ⟨k3B, k3C, k3D, k3E⟩ := kW.f2
 obtain ⟨k3F, k3G, k3H, k3I, k3J, k3K⟩ := kX.f4
 obtain ⟨k3L, k3M, k3N, k3O⟩ := kY.f2
 obtain ⟨k3P, k3Q, k3R, k3S⟩ := kZ.f2
 obtain ⟨k3T, k3U, k3V, k3W⟩ := k00.f2
 obtain ⟨k3X, k3Y, k3Z, k40⟩ := ku.f2
 obtain ⟨k41, k42, k43, k44⟩ := k01.f2
 go_wp2_with fail
 have kv := (ku).set_ 0 (n0)
 have k02 := (kv).set_ 1 (n1)
 have hkp : Kp w262 ((w262.setCell ⟨w90.heap.size, 0, none⟩ (n0)).setCell ⟨w90.heap.size, 1, none⟩ (n1)) := ((Kp.refl _).set_ (ku) (by decide) _).set_ (kv) (by decide) _
 obtain ⟨W318, hW⟩ : ∃ W, W = (w262.setCell ⟨w90.heap.size, 0, none⟩ (n0)).setCell ⟨w90.heap.size, 1, none⟩ (n1) := ⟨_, rfl⟩
 rw [← hW]
 rw [← hW] at hkp
 have hB : Below w.heap.size w W318 := by rw [hW]; exact bel2 (k10.out) (by first | simp | omega)
 have k12 := Lib.hid hB; clear hB
 have k13 := Lib.hid (k0Z.out.kp hkp)
 have k03 := Lib.hid (k11.out.kp hkp)
 have k04 : Bx W318 (w.heap.size) 24 [.bool gx, .slice Ax nx cx] := by rw [hW]; exact ((kV).far_ (g' := w90.heap.size) (j := 0) (by omega) (n0)).far_ (g' := w90.heap.size) (j := 1) (by omega) (n1)
 have k05 : Bx W318 (w.heap.size + 1) 24 [.bool gy, .slice Ay ny cy] := by rw [hW]; exact ((kW).far_ (g' := w90.heap.size) (j := 0) (by omega) (n0)).far_ (g' := w90.heap.size) (j := 1) (by omega) (n1)
 have k06 : Bx W318 (w.heap.size + 1 + 1) 26 [.bool false, .slice none 0 0, .bool false, .slice none 0 0] := by rw [hW]; exact ((kX).far_ (g' := w90.heap.size) (j := 0) (by omega) (n0)).far_ (g' := w90.heap.size) (j := 1) (by omega) (n1)
 have k07 : Bx W318 (w8.heap.size) 24 [g0, g1] := by rw [hW]; exact ((kY).far_ (g' := w90.heap.size) (j := 0) (by omega) (n0)).far_ (g' := w90.heap.size) (j := 1) (by omega) (n1)
 have k08 : Bx W318 (w43.heap.size) 24 [m0, m1] := by rw [hW]; exact ((kZ).far_ (g' := w90.heap.size) (j := 0) (by omega) (n0)).far_ (g' := w90.heap.size) (j := 1) (by omega) (n1)
 have k09 : Bx W318 (w43.heap.size + 1) 24 [a0, a1] := by rw [hW]; exact ((k00).far_ (g' := w90.heap.size) (j := 0) (by omega) (n0)).far_ (g' := w90.heap.size) (j := 1) (by omega) (n1)
 have k0a : Bx W318 (w90.heap.size) 24 [n0, n1] := by rw [hW]; exact k02
 have k0b : Bx W318 (w90.heap.size + 1) 24 [b0, b1] := by rw [hW]; exact ((k01).far_ (g' := w90.heap.size) (j := 0) (by omega) (n0)).far_ (g' := w90.heap.size) (j := 1) (by omega) (n1)
 clear hW hkp kv k02
 obtain ⟨k45, k46, k47, k48⟩ := k04.f2
 obtain ⟨k49, k4a, k4b, k4c⟩ := k05.f2
 obtain ⟨k4d, k4e, k4f, k4g, k4h, k4i⟩ := k06.f4
 obtain ⟨k4j, k4k, k4l, k4m⟩ := k07.f2
 obtain ⟨k4n, k4o, k4p, k4q⟩ := k08.f2
 obtain ⟨k4r, k4s, k4t, k4u⟩ := k09.f2
 obtain ⟨k4v, k4w, k4x, k4y⟩ := k0a.f2
 obtain ⟨k4z, k4A, k4B, k4C⟩ := k0b.f2
 go_wp2_with fail
 have k0c := one4_any (n0) (n1) (-(y / G)) W318 k03.out false (decide_eq_false H1.out).symm
 (with_reducible refine k0c.mono ?_)
 clear k0c
 rintro e w371 ⟨rfl, k0⟩
 have k14 := k04.below k0
 have k15 := k05.below k0
 have k0d := k06.below k0
 have k16 := k07.below k0
 have k17 := k08.below k0
 have k18 := k09.below k0
 have k19 := k0a.below k0
 have k1a := k0b.below k0
 have k1b := Lib.hid (k13.out.kp (.of k0))
 have k1c := Lib.hid (k03.out.kp (.of k0))
 have k1d := Lib.hid (Blw k12.out k0)
 clear k0
 obtain ⟨k4D, k4E, k4F, k4G⟩ := k14.f2
 obtain ⟨k4H, k4I, k4J, k4K⟩ := k15.f2
 obtain ⟨k1e, k1f, k1g, k1h, k4L, k4M⟩ := k0d.f4
 obtain ⟨k4N, k4O, k4P, k4Q⟩ := k16.f2
 obtain ⟨k4R, k4S, k4T, k4U⟩ := k17.f2
 obtain ⟨k4V, k4W, k4X, k4Y⟩ := k18.f2
 obtain ⟨k4Z, k50, k51, k52⟩ := k19.f2
 obtain ⟨k53, k54, k55, k56⟩ := k1a.f2
 go_wp2
 have hkp := (Kp.refl w371).t4 (k0d) m0 m1 n0 n1
 refine bodyPost_ret (v := .agg #[m0, m1, n0, n1]) (by simp [results, Try.results70, go_sem, k1e, k1f, k1g, k1h]) rfl ⟨_, _, _, _, rfl, ⟨?_, ?_⟩, bel4 (k1d.out) (by first | simp | omega)⟩
 ·rw [HR.out.1]; exact k1b.out.kp hkp
 ·rw [dq_more (by have h2 := HR.out.2; have := H1.out; intro h3; rw [h3] at h2; omega), HR.out.2]; exact k1c.out.kp hkp
theorem bd_gcd {k : Nat} {x y : Int} (h : I.Bd k y) (hy : y ≠ 0) : I.Bd k (Int.gcd x y : Int) := Bd.dvd h (by rw [Int.natAbs_natCast]; exact Int.gcd_dvd_natAbs_right x y) hy
theorem make4_any (k : Nat) (p0 p1 q0 q1 : Value) (x y : Int) (w : World) (hx : IntV w p0 p1 x) (hy : IntV w q0 q1 y) (bx : I.Bd k x) (by_ : I.Bd k y) (hk : k ≤ 800000000000) :
  Calls Try.prog 70 #[.agg #[p0, p1], .agg #[q0, q1]] w (RR (Rat.divInt x y) w) := by
 obtain ⟨gx, Ax, nx, cx, rfl, rfl⟩ := hx.form
 obtain ⟨gy, Ay, ny, cy, rfl, rfl⟩ := hy.form
 have l1 := hx.len.2
 have l2 := hy.len.2
 by_cases c2 : ny = 0
 ·have h2 := l2.1 c2
  subst c2
  rw [h2, Rat.divInt_zero]
  exact make4_y0 gx gy Ax Ay nx cx cy w
 ·by_cases c1 : nx = 0
  ·have h1 := l1.1 c1
   subst c1
   rw [h1, Rat.zero_divInt]
   exact make4_x0 gx gy Ax Ay ny cx cy w (ne0 c2)
  ·have hy0 : y ≠ 0 := fun h => c2 (l2.2 h)
   have hG0 := gcd_ne (x := x) hy0
   have hlow := divInt_low (x := x) hy0
   have hgl := gcd_low (x := x) hy0
   have hyg := low_ne (x := x) hy0
   have hbG := bd_gcd (x := x) by_ hy0
   by_cases hn : y / (Int.gcd x y : Int) < 0
   ·have hr := divInt_neg_ hn hgl
    rw [hlow] at hr
    by_cases h1 : -(y / (Int.gcd x y : Int)) = 1
    ·exact make4_11 k gx gy Ax Ay nx cx ny cy x y _ w hx hy bx by_ hk (ne0 c1) (ne0 c2) rfl hG0 hbG hn h1 _ hr
    ·exact make4_10 k gx gy Ax Ay nx cx ny cy x y _ w hx hy bx by_ hk (ne0 c1) (ne0 c2) rfl hG0 hbG hn h1 _ hr
   ·have hp : 0 < y / (Int.gcd x y : Int) := by omega
    have hr := divInt_pos hp hgl
    rw [hlow] at hr
    by_cases h1 : y / (Int.gcd x y : Int) = 1
    ·exact make4_01 k gx gy Ax Ay nx cx ny cy x y _ w hx hy bx by_ hk (ne0 c1) (ne0 c2) rfl hG0 hbG hp h1 _ hr
    ·exact make4_00 k gx gy Ax Ay nx cx ny cy x y _ w hx hy bx by_ hk (ne0 c1) (ne0 c2) rfl hG0 hbG hp h1 _ hr
end Go.Proofs.Ytonkbckgbfcnkaa
