/-
 THE WALKS of the references of Valid.
-/
import Derived.Test.YtonkbckgbfcnkaaWalkTurn
import Derived.Test.YtonkbckgbfcnkaaRef4B
import Derived.Test.YtonkbckgbfcnkaaRef4C
import Derived.Test.YtonkbckgbfcnkaaNew
import Derived.LoopTactic
namespace Go.Proofs.Ytonkbckgbfcnkaa
set_option maxHeartbeats 4000000
open Go.RowKit
attribute [local go_sem] run_store_one
set_option linter.unusedVariables false
set_option maxRecDepth 100000 in
theorem ivalid3_w (gg : Bool) (A : Option Addr) (c : Nat) (l : List Int) (w : World) (hs : Sl w (.slice A l.length c) l) (hd : I.Dig l) (v : Bool) (hv0 : l.length = 0 → v = !gg) (hv1 : ∀ d, l[l.length - 1]? = some d → v = (d != 0)) :
  Calls Try.prog 85 #[.agg #[.bool gg, .slice A l.length c]] w fun e w' => e = .returned (.bool v) ∧ Below w.heap.size w w' := by
 have hcm : l.length ≤ c ∧ c ≤ maxLen ∧ Rd w w.heap.size A (il l) := by
  obtain ⟨_, _, _, e, h1, h2, h3, h4, _⟩ := hs
  injection e with e0 e1 e2
  subst e0
  exact ⟨by omega, by omega, h4⟩
 obtain ⟨hcm1, hcm2, hr⟩ := hcm
 unfold maxLen at hcm2
 have HD := Lib.hid hd; have HR := Lib.hid hr; have HV0 := Lib.hid hv0; have HV1 := Lib.hid hv1
 clear hs hd hr hv0 hv1
 go_enter Try.func85, Try.ntmps85
 go_wp2_with fail
 generalize hW : w.alloc _ = W1
 obtain ⟨k1, hB⟩ := box1 hW
 have k0 := Lib.hid hB; clear hW hB
 obtain ⟨k2, k3, k4, l7⟩ := k1.f2
 go_wp2_with fail
 go_loopw [3] (fun ix wr => ∃ k : Nat, k ≤ l.length ∧ ix = .int .i64 (k : Int) ∧ W1 = wr) (fun ix _ => (l.length - (intOf ix).toNat))
 case atStart => exact ⟨0, by omega, rfl, rfl⟩
 case round =>
  obtain ⟨k, hk, rfl, rfl⟩ := hrel
  by_cases hk2 : k < l.length
  ·obtain ⟨x, hx⟩ : ∃ x, l[k]? = some x := ⟨_, List.getElem?_eq_getElem hk2⟩
   have hxb := HD.out.get hx
   obtain ⟨b, o, rfl, hb, hcell⟩ := HR.out (by simp; omega)
   have f1 := kc (hcell k _ (il_at l hx)) k0.out hb
   have hkd := decide_eq_true hk2
   have hk3 : (k : Int) < (l.length : Int) := by omega
   have g0 : decide (x < 0) = false := decide_eq_false (by omega)
   have g1 : decide (1000000000 ≤ x) = false := decide_eq_false (by omega)
   clear hcell hx hxb
   go_wp2
   go_roundw
   case rel => exact ⟨k + 1, by omega, by go_num, by first | rfl | trivial⟩
   case measure => simp [intOf]; omega
  ·have hkd := decide_eq_false hk2
   by_cases h0 : l.length = 0
   ·have hz : ((l.length : Int) == 0) = true := beq_iff_eq.2 (by omega)
    have hz2 : (l.length == 0) = true := beq_iff_eq.2 h0
    go_wp2
    go_ret
    exact ⟨by rw [HV0.out h0]; rfl, k0.out⟩
   ·obtain ⟨d, hd⟩ : ∃ d, l[l.length - 1]? = some d := ⟨_, List.getElem?_eq_getElem (by omega)⟩
    obtain ⟨b, o, rfl, hb, hcell⟩ := HR.out (by simp; omega)
    have q1 := kc (hcell (l.length - 1) _ (il_at l hd)) k0.out hb
    have q2 : W1.cell? ⟨b, o + ((l.length : Int) - 1).toNat, none⟩ = some (.int .i64 d) := by rw [show ((l.length : Int) - 1).toNat = l.length - 1 from by omega]; exact q1
    have hz : ((l.length : Int) == 0) = false := beq_eq_false_iff_ne.2 (by omega)
    have hz2 : (l.length == 0) = false := beq_eq_false_iff_ne.2 h0
    have hp : 0 < l.length := by omega
    have HDD := Lib.hid hd
    clear hcell hd
    go_wp2
    go_ret
    exact ⟨by rw [HV1.out d HDD.out]; rfl, k0.out⟩
theorem ivalid3_any (a0 a1 : Value) (x : Int) (w : World) (hx : IntV w a0 a1 x) : Calls Try.prog 85 #[.agg #[a0, a1]] w fun e w' => e = .returned (.bool true) ∧ Below w.heap.size w w' := by
 obtain ⟨l, rfl, hs, hc, hv⟩ := hx
 have hs2 := hs
 obtain ⟨A, n, c, rfl, rfl, _, _, _, _⟩ := hs2
 refine ivalid3_w _ A c l w hs hc.1 true (fun h0 => ?_) (fun d hd => ?_)
 ·have hl := List.eq_nil_of_length_eq_zero h0
  subst hl
  have hx0 : x = 0 := by simp [I.val] at hv; omega
  subst hx0
  rfl
 ·have h1 : d ≠ 0 := hc.2 d (by rw [List.getLast?_eq_getElem?]; exact hd)
  simp [h1]
theorem ivalid3_z (q : Value) (w : World) (hs : Sl w q [0]) : Calls Try.prog 85 #[.agg #[.bool false, q]] w fun e w' => e = .returned (.bool false) ∧ Below w.heap.size w w' := by
 obtain ⟨b, o, c, rfl, _, _, _, _⟩ := sl_form hs
 refine ivalid3_w false _ c [0] w hs (dig_one (by omega) (by omega)) false (fun h0 => by simp at h0) (fun d hd => ?_)
 simp at hd
 subst hd
 rfl
set_option maxRecDepth 100000 in
theorem rvalid4_z (k : Nat) (a0 a1 q : Value) (x : Int) (w : World) (hx : IntV w a0 a1 x) (hq : Sl w q [0]) : Calls Try.prog 58 #[.agg #[a0, a1, .bool false, q]] w fun e w' => e = .returned (.bool false) ∧ Below w.heap.size w w' := by
 obtain ⟨o0, o1⟩ := hx.ones
 have o3 := sl_one hq
 have HX := Lib.hid hx; have HQ := Lib.hid hq
 clear hx hq
 go_enter Try.func58, Try.ntmps58
 go_wp2_with fail
 generalize hW : w.alloc _ = W1
 obtain ⟨k6, hB⟩ := box1 hW
 have k1 := Lib.hid hB; clear hW hB
 have F4 := Lib.hid (HX.out.kp (.of k1.out))
 have F5 := Lib.hid (HQ.out.kp (.of k1.out))
 have k3 := ivalid3_any a0 a1 x W1 F4.out
 (with_reducible refine k3.mono ?_)
 clear k3
 rintro e w6 ⟨rfl, k0⟩
 have k4 := k6.below k0
 have k9 := Lib.hid (F5.out.kp (.of k0))
 have ka := Lib.hid (Blw k1.out k0)
 clear k0
 obtain ⟨kd, ke, kf, kg, kh, ki⟩ := k4.f4
 go_wp2_with fail
 have k5 := ivalid3_z q w6 k9.out
 (with_reducible refine k5.mono ?_)
 clear k5
 rintro e w18 ⟨rfl, k2⟩
 have kb := k4.below k2
 have kc := Lib.hid (Blw ka.out k2)
 clear k2
 obtain ⟨kj, kk, kl, km, kn, ko⟩ := kb.f4
 go_wp2
 go_ret
 exact ⟨rfl, kc.out⟩
set_option maxRecDepth 100000 in
theorem rvalid4_o (k : Nat) (a0 a1 q : Value) (x : Int) (w : World) (hx : IntV w a0 a1 x) (hq : IntV w (.bool false) q 1) : Calls Try.prog 58 #[.agg #[a0, a1, .bool false, q]] w fun e w' => e = .returned (.bool false) ∧ Below w.heap.size w w' := by
 obtain ⟨o0, o1⟩ := hx.ones
 have o3 := hq.one1
 have HX := Lib.hid hx; have HQ := Lib.hid hq
 clear hx hq
 go_enter Try.func58, Try.ntmps58
 go_wp2_with fail
 generalize hW : w.alloc _ = W1
 obtain ⟨ka, hB⟩ := box1 hW
 have k2 := Lib.hid hB; clear hW hB
 have F4 := Lib.hid (HX.out.kp (.of k2.out))
 have F5 := Lib.hid (HQ.out.kp (.of k2.out))
 have k4 := ivalid3_any a0 a1 x W1 F4.out
 (with_reducible refine k4.mono ?_)
 clear k4
 rintro e w6 ⟨rfl, k0⟩
 have k5 := ka.below k0
 have k6 := Lib.hid (F5.out.kp (.of k0))
 have kd := Lib.hid (Blw k2.out k0)
 clear k0
 obtain ⟨ki, kj, kk, kl, km, kn⟩ := k5.f4
 go_wp2_with fail
 have k7 := ivalid3_any (.bool false) q 1 w6 k6.out
 (with_reducible refine k7.mono ?_)
 clear k7
 rintro e w18 ⟨rfl, k1⟩
 have k8 := k5.below k1
 have ke := Lib.hid (k6.out.kp (.of k1))
 have kf := Lib.hid (Blw kd.out k1)
 clear k1
 obtain ⟨ko, kq, kr, ks, kt, ku⟩ := k8.f4
 go_wp2_with fail
 have k9 := one4_any (.bool false) q 1 w18 ke.out true (by decide)
 (with_reducible refine k9.mono ?_)
 clear k9
 rintro e w30 ⟨rfl, k3⟩
 have kg := k8.below k3
 have kh := Lib.hid (Blw kf.out k3)
 clear k3
 obtain ⟨kv, kw, kx, ky, kz, kA⟩ := kg.f4
 go_wp2
 go_ret
 exact ⟨rfl, kh.out⟩
set_option maxRecDepth 100000 in
theorem rvalid4_g (k : Nat) (a0 a1 q : Value) (x : Int) (w : World) (hx : IntV w a0 a1 x) (hq : IntV w (.bool false) q 2) (bx : I.Bd k x) (hk : k + 2 ≤ 800000000000) (hg : Int.gcd x 2 ≠ 1) : Calls Try.prog 58 #[.agg #[a0, a1, .bool false, q]] w fun e w' => e = .returned (.bool false) ∧ Below w.heap.size w w' := by
 obtain ⟨o0, o1⟩ := hx.ones
 obtain ⟨_, A, n, c, e1, rfl⟩ := hq.form
 have hn0 := hq.len.2
 have hn : ((n : Int) == 0) = false := ne0 (fun h => by have := hn0.1 h; omega)
 have b2 : I.Bd (k + 2) 2 := I.Bd.mono (show I.Bd 2 2 by unfold I.Bd; decide) (by omega)
 have HX := Lib.hid hx; have HQ := Lib.hid hq; have HBX := Lib.hid bx; have HG := Lib.hid hg; have B2 := Lib.hid b2
 clear hx hq bx hg b2 e1 hn0
 go_enter Try.func58, Try.ntmps58
 go_wp2_with fail
 generalize hW : w.alloc _ = W1
 obtain ⟨kj, hB⟩ := box1 hW
 have k3 := Lib.hid hB; clear hW hB
 have F4 := Lib.hid (HX.out.kp (.of k3.out))
 have F5 := Lib.hid (HQ.out.kp (.of k3.out))
 have k8 := ivalid3_any a0 a1 x W1 F4.out
 (with_reducible refine k8.mono ?_)
 clear k8
 rintro e w6 ⟨rfl, k0⟩
 have k9 := kj.below k0
 have F9 := Lib.hid (F4.out.kp (.of k0))
 have ka := Lib.hid (F5.out.kp (.of k0))
 have km := Lib.hid (Blw k3.out k0)
 clear k0
 obtain ⟨kx, ky, kz, kA, kB, kC⟩ := k9.f4
 go_wp2_with fail
 have kb := ivalid3_any (.bool false) (.slice A n c) 2 w6 ka.out
 (with_reducible refine kb.mono ?_)
 clear kb
 rintro e w18 ⟨rfl, k1⟩
 have kc := k9.below k1
 have kn := Lib.hid (F9.out.kp (.of k1))
 have kd := Lib.hid (ka.out.kp (.of k1))
 have ko := Lib.hid (Blw km.out k1)
 clear k1
 obtain ⟨kD, kE, kF, kG, kH, kI⟩ := kc.f4
 go_wp2_with fail
 have ke := one4_any (.bool false) (.slice A n c) 2 w18 kd.out false (by decide)
 (with_reducible refine ke.mono ?_)
 clear ke
 rintro e w30 ⟨rfl, k2⟩
 have kf := kc.below k2
 have kq := Lib.hid (kn.out.kp (.of k2))
 have kr := Lib.hid (kd.out.kp (.of k2))
 have ks := Lib.hid (Blw ko.out k2)
 clear k2
 obtain ⟨kJ, kK, kL, kM, kN, kO⟩ := kf.f4
 go_wp2_with fail
 have kg := rgcd3_any (k + 2) a0 a1 (.bool false) (.slice A n c) x 2 w30 kq.out kr.out (HBX.out.mono (by omega)) B2.out (by omega)
 (with_reducible refine kg.mono ?_)
 clear kg
 rintro e w42 ⟨g0, g1, rfl, k4, k5⟩
 have kh := kf.below k5
 have kt := Lib.hid (Blw ks.out k5)
 have ku := Lib.hid k4
 obtain ⟨o_g0, o_g1⟩ := k4.ones
 clear k4 k5
 obtain ⟨kP, kQ, kR, kS, kT, kU⟩ := kh.f4
 go_wp2_with fail
 have ki := one4_any g0 g1 _ w42 ku.out false (decide_eq_false (by have := HG.out; omega)).symm
 (with_reducible refine ki.mono ?_)
 clear ki
 rintro e w55 ⟨rfl, k6⟩
 have kv := kh.below k6
 have kw := Lib.hid (Blw kt.out k6)
 clear k6
 obtain ⟨kV, kW, kX, kY, kZ, l67⟩ := kv.f4
 go_wp2
 go_ret
 exact ⟨rfl, kw.out⟩
set_option maxRecDepth 100000 in
theorem rvalid4_0 (k : Nat) (a0 a1 : Value) (A : Option Addr) (c : Nat) (r : Rat) (w : World) (hr : RatV w a0 a1 (.bool false) (.slice A 0 c) r) (bq : Bq k r) (hk : k ≤ 800000000000) (h1 : ¬ dq r = 1) : Calls Try.prog 58 #[.agg #[a0, a1, .bool false, .slice A 0 c]] w fun e w' => e = .returned (.bool true) ∧ Below w.heap.size w w' := by
 have o0 := hr.one0
 have o1 := hr.one1
 have HR := Lib.hid hr; have H1 := Lib.hid h1; have HBQ := Lib.hid bq
 clear hr h1 bq
 go_enter Try.func58, Try.ntmps58
 go_wp2_with fail
 generalize hW : w.alloc _ = W1
 obtain ⟨kb, hB⟩ := box1 hW
 have k3 := Lib.hid hB; clear hW hB
 have F4 := Lib.hid (HR.out.kp (.of k3.out))
 have k5 := ivalid3_any a0 a1 r.num W1 (F4.out).1
 (with_reducible refine k5.mono ?_)
 clear k5
 rintro e w5 ⟨rfl, k0⟩
 have k6 := kb.below k0
 have F8 := Lib.hid (F4.out.kp (.of k0))
 have kc := Lib.hid (Blw k3.out k0)
 clear k0
 obtain ⟨kh, ki, kj, kk, kl, km⟩ := k6.f4
 go_wp2_with fail
 have k8 := ivalid3_any (.bool false) (.slice A 0 c) (dq r) w5 (F8.out).2
 (with_reducible refine k8.mono ?_)
 clear k8
 rintro e w16 ⟨rfl, k1⟩
 have k9 := k6.below k1
 have kd := Lib.hid (F8.out.kp (.of k1))
 have ke := Lib.hid (Blw kc.out k1)
 clear k1
 obtain ⟨kn, ko, kq, kr, ks, kt⟩ := k9.f4
 go_wp2_with fail
 have ka := one4_any (.bool false) (.slice A 0 c) (dq r) w16 (kd.out).2 false (decide_eq_false H1.out).symm
 (with_reducible refine ka.mono ?_)
 clear ka
 rintro e w27 ⟨rfl, k2⟩
 have kf := k9.below k2
 have kg := Lib.hid (Blw ke.out k2)
 clear k2
 obtain ⟨ku, kv, kw, kx, ky, kz⟩ := kf.f4
 go_wp2
 go_ret
 exact ⟨rfl, kg.out⟩
set_option maxRecDepth 100000 in
theorem rvalid4_1 (k : Nat) (a0 a1 : Value) (A : Option Addr) (n c : Nat) (r : Rat) (w : World) (hr : RatV w a0 a1 (.bool false) (.slice A n c) r) (bq : Bq k r) (hk : k ≤ 800000000000) (h1 : ¬ dq r = 1) (hn : ((n : Int) == 0) = false) (hd : dq r = r.den) : Calls Try.prog 58 #[.agg #[a0, a1, .bool false, .slice A n c]] w fun e w' => e = .returned (.bool true) ∧ Below w.heap.size w w' := by
 have o0 := hr.one0
 have o1 := hr.one1
 have HR := Lib.hid hr; have H1 := Lib.hid h1; have HBQ := Lib.hid bq; have HDQ := Lib.hid hd
 clear hr h1 bq hd
 go_enter Try.func58, Try.ntmps58
 go_wp2_with fail
 generalize hW : w.alloc _ = W1
 obtain ⟨kk, hB⟩ := box1 hW
 have k6 := Lib.hid hB; clear hW hB
 have F4 := Lib.hid (HR.out.kp (.of k6.out))
 have k8 := ivalid3_any a0 a1 r.num W1 (F4.out).1
 (with_reducible refine k8.mono ?_)
 clear k8
 rintro e w5 ⟨rfl, k0⟩
 have k9 := kk.below k0
 have F8 := Lib.hid (F4.out.kp (.of k0))
 have kl := Lib.hid (Blw k6.out k0)
 clear k0
 obtain ⟨kt, ku, kv, kw, kx, ky⟩ := k9.f4
 go_wp2_with fail
 have kb := ivalid3_any (.bool false) (.slice A n c) (dq r) w5 (F8.out).2
 (with_reducible refine kb.mono ?_)
 clear kb
 rintro e w16 ⟨rfl, k1⟩
 have kc := k9.below k1
 have kd := Lib.hid (F8.out.kp (.of k1))
 have km := Lib.hid (Blw kl.out k1)
 clear k1
 obtain ⟨kz, kA, kB, kC, kD, kE⟩ := kc.f4
 go_wp2_with fail
 have ke := one4_any (.bool false) (.slice A n c) (dq r) w16 (kd.out).2 false (decide_eq_false H1.out).symm
 (with_reducible refine ke.mono ?_)
 clear ke
 rintro e w27 ⟨rfl, k2⟩
 have kf := kc.below k2
 have kg := Lib.hid (kd.out.kp (.of k2))
 have kn := Lib.hid (Blw km.out k2)
 clear k2
 obtain ⟨kF, kG, kH, kI, kJ, kK⟩ := kf.f4
 go_wp2_with fail
 have kh := rgcd3_any k a0 a1 (.bool false) (.slice A n c) r.num (dq r) w27 (kg.out).1 (kg.out).2 HBQ.out.1 (by rw [HDQ.out]; exact HBQ.out.2) hk
 (with_reducible refine kh.mono ?_)
 clear kh
 rintro e w38 ⟨g0, g1, rfl, k3, k4⟩
 have ki := kf.below k4
 have ko := Lib.hid (Blw kn.out k4)
 have kq := Lib.hid k3
 obtain ⟨o_g0, o_g1⟩ := k3.ones
 clear k3 k4
 obtain ⟨kL, kM, kN, kO, kP, kQ⟩ := ki.f4
 go_wp2_with fail
 have kj := one4_any g0 g1 _ w38 kq.out true (decide_eq_true (by rw [HDQ.out, Int.gcd_comm, gcd_inv]; rfl)).symm
 (with_reducible refine kj.mono ?_)
 clear kj
 rintro e w50 ⟨rfl, k5⟩
 have kr := ki.below k5
 have ks := Lib.hid (Blw ko.out k5)
 clear k5
 obtain ⟨kR, kS, kT, kU, kV, kW⟩ := kr.f4
 go_wp2
 go_ret
 exact ⟨rfl, ks.out⟩
theorem rvalid4_any (k : Nat) (a0 a1 a2 a3 : Value) (r : Rat) (w : World) (hr : RatV w a0 a1 a2 a3 r) (bq : Bq k r) (hk : k ≤ 800000000000) :
  Calls Try.prog 58 #[.agg #[a0, a1, a2, a3]] w fun e w' => e = .returned (.bool true) ∧ Below w.heap.size w w' := by
 obtain ⟨g, A, n, c, rfl, rfl⟩ := hr.2.form
 have l1 := hr.2.len
 have hg : g = false := by
  rw [l1.1]
  exact decide_eq_false (by have := dq_nonneg r; omega)
 subst hg
 have h1 : ¬ dq r = 1 := by
  intro h
  by_cases h2 : r.den = 1
  ·rw [dq_one h2] at h; omega
  ·rw [dq_more h2] at h; omega
 by_cases h0 : n = 0
 ·subst h0
  exact rvalid4_0 k a0 a1 A c r w hr bq hk h1
 ·exact rvalid4_1 k a0 a1 A n c r w hr bq hk h1 (ne0 h0) (dq_more (fun h => h0 (l1.2.2 (dq_zero.2 h))))
set_option maxRecDepth 100000 in
theorem tvalid5_c (a0 a1 a2 a3 a4 a5 a6 a7 : Value) (w : World) (o0 : a0.oneCell' = true) (o1 : a1.oneCell' = true) (o2 : a2.oneCell' = true) (o3 : a3.oneCell' = true) (o4 : a4.oneCell' = true) (o5 : a5.oneCell' = true) (o6 : a6.oneCell' = true) (o7 : a7.oneCell' = true) (hc : ∀ W, Below w.heap.size w W → Calls Try.prog 58 #[.agg #[a0, a1, a2, a3]] W fun e w' => e = .returned (.bool false) ∧ Below W.heap.size W w') :
  Calls Try.prog 21 #[.agg #[a0, a1, a2, a3, a4, a5, a6, a7]] w fun e w' => e = .returned (.bool false) ∧ Below w.heap.size w w' := by
 have HC := Lib.hid hc
 clear hc
 go_enter Try.func21, Try.ntmps21
 go_upto_region 1 with fail
 generalize hW : w.alloc _ = W1
 obtain ⟨k2, hB⟩ := box1 hW
 have k3 := Lib.hid hB; clear hW hB
 go_upto_region 1 with fail
 generalize hF : ({ tmps := _, defers := _ } : Act) = F
 have ev1 : F.eval (.tmp 1) = .pointer (some ⟨w.heap.size, 0, none⟩) := by rw [← hF]; rfl
 have HF := Lib.hid hF; clear hF
 refine wp_flow_tabG false rfl 10 [(4, []), (5, [0]), (6, [1]), (7, [2]), (8, [3]), (9, [4]), (10, [5, 4]), (11, [6, 4]), (12, [7, 4]), (13, [4, 8])] [SC (.pointer (some ⟨w.heap.size, 0, none⟩)), SC (.agg #[a0, a1, a2, a3]), SC (.bool false), SC (.bool true), SC (.bool true), SC undef, SC undef, SC undef, SC undef, SC (.bool true)] [false, false, false, false, false, false, false, false, false, false] (by kernel_rfl) (by kernel_rfl) (by kernel_rfl) (by kernel_rfl) (by kernel_rfl) (by rw [← HF.out]; simp) ⟨SC.mono _, SC.mono _, SC.mono _, SC.mono _, SC.mono _, SC.mono _, SC.mono _, SC.mono _, SC.mono _, SC.mono _, trivial⟩ ?_ ?_
 ·intro kq hkq a wx hB hp hs
  have hcase : kq = 0 ∨ kq = 1 ∨ kq = 2 ∨ kq = 3 ∨ kq = 4 ∨ kq = 5 ∨ kq = 6 ∨ kq = 7 ∨ kq = 8 ∨ kq = 9 := by omega
  rcases hcase with rfl | rfl | rfl | rfl | rfl | rfl | rfl | rfl | rfl | rfl
  ·exact ⟨_, rfl, .inl ⟨wanted_none rfl, fa_Turn0 rfl ((hs 1 rfl).trans ev1)⟩⟩
  ·obtain ⟨k0, -⟩ := hp
   exact ⟨_, rfl, .inl ⟨wanted_none rfl, ld_Rat rfl k0 (k2.below hB) rfl rfl rfl rfl⟩⟩
  ·obtain ⟨k0, -⟩ := hp
   exact ⟨_, rfl, .inl ⟨wanted_none rfl, Does.rc (f := 58) (call1 rfl (fun _ => by simp [go_sem]) k0) (HC.out wx (Blw k3.out hB))⟩⟩
  ·obtain ⟨k0, -⟩ := hp
   have e0 : a.eval (.tmp 6) = .bool false := k0
   simp [Act.eval] at e0
   exact ⟨_, rfl, .inl ⟨wanted_none rfl, Does.val (by simp [execOp, Act.eval, e0, go_sem]) rfl⟩⟩
  ·obtain ⟨k0, -⟩ := hp
   have e0 : a.eval (.tmp 7) = .bool true := k0
   simp [Act.eval] at e0
   exact ⟨_, rfl, .inl ⟨wanted_none rfl, Does.val (by simp [execOp, Act.eval, e0, go_sem]) rfl⟩⟩
  ·obtain ⟨k0, -⟩ := hp
   have e0 : a.eval (.tmp 8) = .bool true := k0
   have b1 := (hs 1 rfl).trans ev1
   have hgd := e0
   exact ⟨_, rfl, .inr ⟨(wanted_of rfl rfl hgd).trans rfl, rfl, rfl⟩⟩
  ·obtain ⟨k0, k1, -⟩ := hp
   have e0 : a.eval (.tmp 9) = undef := k0
   have e1 : a.eval (.tmp 8) = .bool true := k1
   have hgd := e1
   exact ⟨_, rfl, .inr ⟨(wanted_of rfl rfl hgd).trans rfl, rfl, rfl⟩⟩
  ·obtain ⟨k0, k1, -⟩ := hp
   have e0 : a.eval (.tmp 10) = undef := k0
   have e1 : a.eval (.tmp 8) = .bool true := k1
   have hgd := e1
   exact ⟨_, rfl, .inr ⟨(wanted_of rfl rfl hgd).trans rfl, rfl, rfl⟩⟩
  ·obtain ⟨k0, k1, -⟩ := hp
   have e0 : a.eval (.tmp 11) = undef := k0
   have e1 : a.eval (.tmp 8) = .bool true := k1
   have hgd := e1
   exact ⟨_, rfl, .inr ⟨(wanted_of rfl rfl hgd).trans rfl, rfl, rfl⟩⟩
  ·obtain ⟨k0, k1, -⟩ := hp
   have e0 : a.eval (.tmp 8) = .bool true := k0
   have e1 : a.eval (.tmp 12) = undef := k1
   simp [Act.eval] at e0
   simp [Act.eval] at e1
   exact ⟨_, rfl, .inl ⟨wanted_none rfl, Does.val (by simp [execOp, Act.eval, e0, e1, go_sem]) rfl⟩⟩
 ·intro val wx hB hsp hdis
  have e9 : val 9 = .bool true := hsp 9 (by omega)
  rw [← HF.out]
  change wpList _ _ _ [] _ _
  simp only [puts, vals, List.map_cons, List.map_nil, List.foldl_cons, List.foldl_nil, if_true, Nat.zero_add, Nat.reduceAdd, e9, List.setIfInBounds_toArray, List.set_cons_succ, List.set_cons_zero]
  clear hsp hdis HF e9
  clear ev1
  obtain ⟨w5, rfl⟩ : ∃ W : World, W = wx := ⟨_, rfl⟩
  have k4 := k2.below hB
  have k5 := Lib.hid (Blw k3.out hB)
  clear hB
  obtain ⟨k6, k7, k8, k9, ka, kb, kc, kd, ke, kf⟩ := k4.f8
  go_wp2
  go_ret
  exact ⟨rfl, k5.out⟩
set_option maxRecDepth 100000 in
theorem tvalid5_any (k : Nat) (a0 a1 a2 a3 a4 a5 a6 a7 : Value) (t : Rat × Rat) (w : World) (c : Bool) (hc : c = decide (t.1 * t.1 + t.2 * t.2 = 1)) (ha : VecV w a0 a1 a2 a3 a4 a5 a6 a7 t) (ba : Bv k t) (hk : 40 * k + 100 ≤ 800000000000) :
  Calls Try.prog 21 #[.agg #[a0, a1, a2, a3, a4, a5, a6, a7]] w (fun e w' => e = .returned (.bool c) ∧ Below w.heap.size w w') := by
 obtain ⟨qa0, qa1, qa2, qa3, qa4, qa5, qa6, qa7⟩ := ha.ones
 have Hha := Lib.hid ha; have Hba := Lib.hid ba
 clear ha ba
 have HC := Lib.hid hc
 clear hc
 go_enter Try.func21, Try.ntmps21
 go_upto_region 1 with fail
 generalize hW : w.alloc _ = W1
 obtain ⟨k4, hB⟩ := box1 hW
 have k6 := Lib.hid hB; clear hW hB
 have F4 := Lib.hid (Hha.out.kp (.of k6.out))
 go_upto_region 1 with fail
 generalize hF : ({ tmps := _, defers := _ } : Act) = F
 have ev1 : F.eval (.tmp 1) = .pointer (some ⟨w.heap.size, 0, none⟩) := by rw [← hF]; rfl
 have HF := Lib.hid hF; clear hF
 refine wp_flow_tabG false rfl 10 [(4, []), (5, [0]), (6, [1]), (7, [2]), (8, [3]), (9, [4]), (10, [5, 4]), (11, [6, 4]), (12, [7, 4]), (13, [4, 8])] [SC (.pointer (some ⟨w.heap.size, 0, none⟩)), SC (.agg #[a0, a1, a2, a3]), SC (.bool true), SC (.bool false), SC (.bool false), SC (.pointer (some ⟨w.heap.size, 4, none⟩)), SC (.agg #[a4, a5, a6, a7]), SC (.bool true), SC (.bool false), SC (.bool false)] [false, false, false, false, false, false, false, false, false, false] (by kernel_rfl) (by kernel_rfl) (by kernel_rfl) (by kernel_rfl) (by kernel_rfl) (by rw [← HF.out]; simp) ⟨SC.mono _, SC.mono _, SC.mono _, SC.mono _, SC.mono _, SC.mono _, SC.mono _, SC.mono _, SC.mono _, SC.mono _, trivial⟩ ?_ ?_
 ·intro kq hkq a wx hB hp hs
  have hcase : kq = 0 ∨ kq = 1 ∨ kq = 2 ∨ kq = 3 ∨ kq = 4 ∨ kq = 5 ∨ kq = 6 ∨ kq = 7 ∨ kq = 8 ∨ kq = 9 := by omega
  rcases hcase with rfl | rfl | rfl | rfl | rfl | rfl | rfl | rfl | rfl | rfl
  ·exact ⟨_, rfl, .inl ⟨wanted_none rfl, fa_Turn0 rfl ((hs 1 rfl).trans ev1)⟩⟩
  ·obtain ⟨k0, -⟩ := hp
   exact ⟨_, rfl, .inl ⟨wanted_none rfl, ld_Rat rfl k0 (k4.below hB) rfl rfl rfl rfl⟩⟩
  ·obtain ⟨k0, -⟩ := hp
   exact ⟨_, rfl, .inl ⟨wanted_none rfl, Does.rc (f := 58) (call1 rfl (fun _ => by simp [go_sem]) k0) (rvalid4_any k a0 a1 a2 a3 t.1 wx ((F4.out.kp (.of hB))).1 Hba.out.1 (by omega))⟩⟩
  ·obtain ⟨k0, -⟩ := hp
   have e0 : a.eval (.tmp 6) = .bool true := k0
   simp [Act.eval] at e0
   exact ⟨_, rfl, .inl ⟨wanted_none rfl, Does.val (by simp [execOp, Act.eval, e0, go_sem]) rfl⟩⟩
  ·obtain ⟨k0, -⟩ := hp
   have e0 : a.eval (.tmp 7) = .bool false := k0
   simp [Act.eval] at e0
   exact ⟨_, rfl, .inl ⟨wanted_none rfl, Does.val (by simp [execOp, Act.eval, e0, go_sem]) rfl⟩⟩
  ·obtain ⟨k0, -⟩ := hp
   have e0 : a.eval (.tmp 8) = .bool false := k0
   have hgd := e0
   exact ⟨_, rfl, .inl ⟨(wanted_of rfl rfl hgd).trans rfl, fa_Turn1 rfl ((hs 1 rfl).trans ev1)⟩⟩
  ·obtain ⟨k0, k1, -⟩ := hp
   have e1 : a.eval (.tmp 8) = .bool false := k1
   have hgd := e1
   exact ⟨_, rfl, .inl ⟨(wanted_of rfl rfl hgd).trans rfl, ld_Rat rfl k0 (k4.below hB) rfl rfl rfl rfl⟩⟩
  ·obtain ⟨k0, k1, -⟩ := hp
   have e0 : a.eval (.tmp 10) = .agg #[a4, a5, a6, a7] := k0
   have e1 : a.eval (.tmp 8) = .bool false := k1
   have hgd := e1
   exact ⟨_, rfl, .inl ⟨(wanted_of rfl rfl hgd).trans rfl, Does.rc (f := 58) (call1 rfl (fun _ => by simp [go_sem]) e0) (rvalid4_any k a4 a5 a6 a7 t.2 wx ((F4.out.kp (.of hB))).2 Hba.out.2 (by omega))⟩⟩
  ·obtain ⟨k0, k1, -⟩ := hp
   have e0 : a.eval (.tmp 11) = .bool true := k0
   have e1 : a.eval (.tmp 8) = .bool false := k1
   have hgd := e1
   simp [Act.eval] at e0
   exact ⟨_, rfl, .inl ⟨(wanted_of rfl rfl hgd).trans rfl, Does.val (by simp [execOp, Act.eval, e0, go_sem]) rfl⟩⟩
  ·obtain ⟨k0, k1, -⟩ := hp
   have e0 : a.eval (.tmp 8) = .bool false := k0
   have e1 : a.eval (.tmp 12) = .bool false := k1
   simp [Act.eval] at e0
   simp [Act.eval] at e1
   exact ⟨_, rfl, .inl ⟨wanted_none rfl, Does.val (by simp [execOp, Act.eval, e0, e1, go_sem]) rfl⟩⟩
 ·intro val wx hB hsp hdis
  have e9 : val 9 = .bool false := hsp 9 (by omega)
  rw [← HF.out]
  change wpList _ _ _ [] _ _
  simp only [puts, vals, List.map_cons, List.map_nil, List.foldl_cons, List.foldl_nil, if_true, Nat.zero_add, Nat.reduceAdd, e9, List.setIfInBounds_toArray, List.set_cons_succ, List.set_cons_zero]
  clear hsp hdis HF e9
  clear ev1
  obtain ⟨w6, rfl⟩ : ∃ W : World, W = wx := ⟨_, rfl⟩
  have k7 := k4.below hB
  have F8 := Lib.hid (F4.out.kp (.of hB))
  have ke := Lib.hid (Blw k6.out hB)
  clear hB
  obtain ⟨kl, km, kn, ko, kr, ks, kt, ku, kv, kw⟩ := k7.f8
  go_upto_region 3 with fail
  go_upto_region 3 with fail
  generalize hW : w6.drew = W20
  have hB : Below w6.heap.size w6 W20 := by rw [← hW]; exact (Below.refl _ _).drew
  have k2 := k7.below hB
  have k3 := Lib.hid (F8.out.kp (.of hB))
  have k8 := Lib.hid (Blw ke.out hB)
  clear hB
  have kx := k2.lt
  generalize hF : ({ tmps := _, defers := _ } : Act) = F
  have ev1 : F.eval (.tmp 1) = .pointer (some ⟨w.heap.size, 0, none⟩) := by rw [← hF]; rfl
  have HF := Lib.hid hF; clear hF
  refine wp_flow_tab true hW 12 [(14, []), (15, [0]), (16, []), (17, [2]), (18, [1, 3]), (19, []), (20, [5]), (21, []), (22, [7]), (23, [6, 8]), (24, [4, 9]), (3, [])] [SC (.pointer (some ⟨w.heap.size, 0, none⟩)), SC (.agg #[a0, a1, a2, a3]), SC (.pointer (some ⟨w.heap.size, 0, none⟩)), SC (.agg #[a0, a1, a2, a3]), SR (t.1 * t.1), SC (.pointer (some ⟨w.heap.size, 4, none⟩)), SC (.agg #[a4, a5, a6, a7]), SC (.pointer (some ⟨w.heap.size, 4, none⟩)), SC (.agg #[a4, a5, a6, a7]), SR (t.2 * t.2), SR (t.1 * t.1 + t.2 * t.2), SB W20 26 [.bool false, .slice none 0 0, .bool false, .slice none 0 0]] [false, false, false, false, false, false, false, false, false, false, false, true] (by kernel_rfl) (by kernel_rfl) (by kernel_rfl) (by kernel_rfl) (by kernel_rfl) (by rw [← HF.out]; simp) ⟨SC.mono _, SC.mono _, SC.mono _, SC.mono _, SR.mono _, SC.mono _, SC.mono _, SC.mono _, SC.mono _, SR.mono _, SR.mono _, SB.mono _ _ _, trivial⟩ ?_ ?_
  ·intro kq hkq a wx hB hp hs
   have hcase : kq = 0 ∨ kq = 1 ∨ kq = 2 ∨ kq = 3 ∨ kq = 4 ∨ kq = 5 ∨ kq = 6 ∨ kq = 7 ∨ kq = 8 ∨ kq = 9 ∨ kq = 10 ∨ kq = 11 := by omega
   rcases hcase with rfl | rfl | rfl | rfl | rfl | rfl | rfl | rfl | rfl | rfl | rfl | rfl
   ·exact ⟨_, rfl, fa_Turn0 rfl ((hs 1 rfl).trans ev1)⟩
   ·obtain ⟨k0, -⟩ := hp
    exact ⟨_, rfl, ld_Rat rfl k0 (k2.below hB) rfl rfl rfl rfl⟩
   ·exact ⟨_, rfl, fa_Turn0 rfl ((hs 1 rfl).trans ev1)⟩
   ·obtain ⟨k0, -⟩ := hp
    exact ⟨_, rfl, ld_Rat rfl k0 (k2.below hB) rfl rfl rfl rfl⟩
   ·obtain ⟨k0, k1, -⟩ := hp
    exact ⟨_, rfl, Does.rr (f := 60) (call2 rfl (fun _ => by simp [go_sem]) k0 k1) (rmul4_any (k) (k) a0 a1 a2 a3 a0 a1 a2 a3 (t.1) (t.1) wx ((k3.out.kp (.of hB))).1 ((k3.out.kp (.of hB))).1 Hba.out.1 Hba.out.1 (by omega))⟩
   ·exact ⟨_, rfl, fa_Turn1 rfl ((hs 1 rfl).trans ev1)⟩
   ·obtain ⟨k0, -⟩ := hp
    exact ⟨_, rfl, ld_Rat rfl k0 (k2.below hB) rfl rfl rfl rfl⟩
   ·exact ⟨_, rfl, fa_Turn1 rfl ((hs 1 rfl).trans ev1)⟩
   ·obtain ⟨k0, -⟩ := hp
    exact ⟨_, rfl, ld_Rat rfl k0 (k2.below hB) rfl rfl rfl rfl⟩
   ·obtain ⟨k0, k1, -⟩ := hp
    exact ⟨_, rfl, Does.rr (f := 60) (call2 rfl (fun _ => by simp [go_sem]) k0 k1) (rmul4_any (k) (k) a4 a5 a6 a7 a4 a5 a6 a7 (t.2) (t.2) wx ((k3.out.kp (.of hB))).2 ((k3.out.kp (.of hB))).2 Hba.out.2 Hba.out.2 (by omega))⟩
   ·obtain ⟨k0, k1, -⟩ := hp
    obtain ⟨x0, x1, x2, x3, e0, h_x⟩ := k0
    replace e0 : a.eval (.tmp 18) = .agg #[x0, x1, x2, x3] := e0
    obtain ⟨y0, y1, y2, y3, e1, h_y⟩ := k1
    replace e1 : a.eval (.tmp 23) = .agg #[y0, y1, y2, y3] := e1
    exact ⟨_, rfl, Does.rr (f := 59) (call2 rfl (fun _ => by simp [go_sem]) e0 e1) (radd4_any (k + k) (k + k) x0 x1 x2 x3 y0 y1 y2 y3 (t.1 * t.1) (t.2 * t.2) wx h_x h_y (Hba.out.1.mul Hba.out.1) (Hba.out.2.mul Hba.out.2) (by omega))⟩
   ·clear hp
    exact ⟨_, rfl, Does.box (by simp [execOp, go_sem]) hB⟩
  ·intro val wx hB hsp hdis
   obtain ⟨z0, z1, z2, z3, e10, h_z⟩ := hsp 10 (by omega)
   replace e10 : val 10 = .agg #[z0, z1, z2, z3] := e10
   obtain ⟨g25_11, e11, hg25_11, hbx25_11⟩ := hsp 11 (by omega)
   have hgw25_11 : w.heap.size ≤ g25_11 := Nat.le_trans k8.out.size hg25_11
   have hgl25_11 := hbx25_11.lt
   rw [← HF.out]
   change wpList _ _ _ [_] _ _
   simp only [puts, vals, List.map_cons, List.map_nil, List.foldl_cons, List.foldl_nil, if_true, Nat.zero_add, Nat.reduceAdd, e10, e11, List.setIfInBounds_toArray, List.set_cons_succ, List.set_cons_zero]
   clear hsp hdis HF e10 e11
   clear ev1
   obtain ⟨o_z0, o_z1, o_z2, o_z3⟩ := h_z.ones
   refine wst_Rat rfl rfl rfl rfl rfl hbx25_11 o_z0 o_z1 o_z2 o_z3 (fun w26 hx27 hst => ?_)
   have hB2 := hst.2.1 _ _ hg25_11 hB
   have kf := Lib.hid (Blw k8.out hB2)
   have kg := Lib.hid (h_z.kp hst.1)
   clear h_z hB hB2 hst hbx25_11 hgl25_11
   go_upto_region 4 with fail
   go_upto_region 4 with fail
   generalize hW : w26.drew = W32
   have hB : Below w26.heap.size w26 W32 := by rw [← hW]; exact (Below.refl _ _).drew
   have kh := hx27.below hB
   have ki := Lib.hid (kg.out.kp (.of hB))
   have kj := Lib.hid (Blw kf.out hB)
   clear hB
   generalize hF : ({ tmps := _, defers := _ } : Act) = F
   have ev3 : F.eval (.tmp 3) = .pointer (some ⟨g25_11, 0, none⟩) := by rw [← hF]; rfl
   have HF := Lib.hid hF; clear hF
   refine wp_flow_tab true hW 4 [(25, []), (26, []), (27, [0, 1]), (2, [2])] [SC (.agg #[z0, z1, z2, z3]), SR (Rat.divInt 1 1), SC (.bool c), SC (.bool c)] [false, false, false, false] (by kernel_rfl) (by kernel_rfl) (by kernel_rfl) (by kernel_rfl) (by kernel_rfl) (by rw [← HF.out]; simp) ⟨SC.mono _, SR.mono _, SC.mono _, SC.mono _, trivial⟩ ?_ ?_
   ·intro kq hkq a wx hB hp hs
    have hcase : kq = 0 ∨ kq = 1 ∨ kq = 2 ∨ kq = 3 := by omega
    rcases hcase with rfl | rfl | rfl | rfl
    ·exact ⟨_, rfl, ld_Rat rfl ((hs 3 rfl).trans ev3) (kh.below hB) rfl rfl rfl rfl⟩
    ·clear hp
     exact ⟨_, rfl, Does.rr (f := 44) (call2 rfl (fun _ => by simp [go_sem]) rfl rfl) (rof4_any 1 1 wx ⟨by omega, by omega⟩ ⟨by omega, by omega⟩)⟩
    ·obtain ⟨k0, k1, -⟩ := hp
     obtain ⟨u0, u1, u2, u3, e1, h_u⟩ := k1
     replace e1 : a.eval (.tmp 26) = .agg #[u0, u1, u2, u3] := e1
     exact ⟨_, rfl, Does.rc (f := 37) (call2 rfl (fun _ => by simp [go_sem]) k0 e1) (rsame4_any z0 z1 z2 z3 u0 u1 u2 u3 _ _ wx (ki.out.kp (.of hB)) h_u c (by rw [one_one]; exact HC.out))⟩
    ·obtain ⟨k0, -⟩ := hp
     have e0 : a.eval (.tmp 27) = .bool c := k0
     simp [Act.eval] at e0
     exact ⟨_, rfl, Does.val (by simp [execOp, Act.eval, e0, go_sem]) rfl⟩
   ·intro val wx hB hsp hdis
    have e3 : val 3 = .bool c := hsp 3 (by omega)
    rw [← HF.out]
    change wpList _ _ _ [] _ _
    simp only [puts, vals, List.map_cons, List.map_nil, List.foldl_cons, List.foldl_nil, if_true, Nat.zero_add, Nat.reduceAdd, e3, List.setIfInBounds_toArray, List.set_cons_succ, List.set_cons_zero]
    clear hsp hdis HF e3
    clear ev3
    obtain ⟨w39, rfl⟩ : ∃ W : World, W = wx := ⟨_, rfl⟩
    have kk := Lib.hid (Blw kj.out hB)
    clear hB
    go_wp2
    go_ret
    exact ⟨rfl, kk.out⟩
end Go.Proofs.Ytonkbckgbfcnkaa
