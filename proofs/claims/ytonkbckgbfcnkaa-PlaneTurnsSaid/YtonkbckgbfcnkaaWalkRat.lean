/-
 THE WALKS of package rat: one, unit, Den, Neg.
-/
import Derived.Test.YtonkbckgbfcnkaaMemR
import Derived.Test.YtonkbckgbfcnkaaWalkNeg
import Derived.Test.YtonkbckgbfcnkaaWalkUns
import Derived.RegionTactic
import Derived.BigRegion
import Derived.Deep.RegionHeld3
import Derived.ChangeAlike
namespace Go.Proofs.Ytonkbckgbfcnkaa
set_option maxHeartbeats 1000000
open Go.RowKit
attribute [local go_sem] run_store_one
set_option linter.unusedVariables false
theorem unit_any (a0 a1 : Value) (x : Int) (w : World) (hx : IntV w a0 a1 x) : Calls Try.prog 83 #[.agg #[a0, a1]] w fun e w' => e = .returned (.bool (decide (x = 1))) ∧ Below w.heap.size w w' := by
 obtain ⟨l, rfl, sl, can, hv⟩ := hx
 obtain ⟨A, n, c, rfl, rfl, hc, hm, hr, _⟩ := sl
 by_cases h1 : x < 0
 ·rw [decide_eq_true h1, decide_eq_false (show ¬ x = 1 by omega)]
  clear hv can hr
  go_enter Try.func83, Try.ntmps83
  go_wp2
  go_ret
  exact ⟨rfl, (Below.refl _ _).alloc (Nat.le_refl _) _⟩
 ·rw [decide_eq_false h1]
  by_cases hn : l.length = 1
  ·obtain ⟨d, rfl⟩ := List.length_eq_one_iff.1 hn
   have hd : I.val [d] = d := by simp [I.val]
   rw [hd] at hv
   obtain ⟨b, o, rfl, hb, hcell⟩ := hr (by simp)
   have f0 : (w.alloc (.cells #[.bool false, .slice (some ⟨b, o, none⟩) 1 c] 24)).cell? ⟨b, o, none⟩ = some (.int .i64 d) := by
    have h := hcell 0 _ rfl
    exact kc h ((Below.refl _ _).alloc (Nat.le_refl _) _) hb
   clear hcell hr
   by_cases hd1 : d = 1
   ·rw [decide_eq_true (show x = 1 by omega)]
    subst hd1
    clear hv can hd hn h1
    go_enter Try.func83, Try.ntmps83
    go_wp2
    go_ret
    exact ⟨rfl, (Below.refl _ _).alloc (Nat.le_refl _) _⟩
   ·rw [decide_eq_false (show ¬ x = 1 by omega)]
    have hd2 : (d == 1) = false := beq_eq_false_iff_ne.2 hd1
    clear hv can hd hn h1 hd1
    go_enter Try.func83, Try.ntmps83
    go_wp2
    go_ret
    exact ⟨rfl, (Below.refl _ _).alloc (Nat.le_refl _) _⟩
  ·have hx1 : ¬ x = 1 := by
    intro h
    have := can.uniq (I.Can.one (d := 1) (by omega) (by omega)) (by rw [hv, h]; simp [I.val])
    subst this
    exact hn rfl
   rw [decide_eq_false hx1]
   obtain ⟨n, hn2⟩ : ∃ n, n = l.length := ⟨_, rfl⟩
   rw [← hn2] at hn ⊢
   have hne : ((n : Int) == 1) = false := beq_eq_false_iff_ne.2 (by omega)
   clear hv can hr hn2 hx1 h1 hn hm hc
   go_enter Try.func83, Try.ntmps83
   go_wp2
   go_ret
   exact ⟨rfl, (Below.refl _ _).alloc (Nat.le_refl _) _⟩
theorem one_any (w : World) : Calls Try.prog 95 #[] w (RI 1 w) := by
 go_enter Try.func95, Try.ntmps95
 go_wp2_with fail
 generalize hW : w.alloc _ = W1
 obtain ⟨k2, hB⟩ := box1 hW
 have k4 := Lib.hid hB; clear hW hB
 obtain ⟨ka, kb, kc, l7⟩ := k2.f2
 have k3 := iof_any 1 W1 (by unfold W.Is64; omega)
 (with_reducible refine k3.mono ?_)
 clear k3
 rintro e w8 ⟨u0, u1, rfl, k0, k1⟩
 obtain ⟨k5, k6, k7, ke, kf⟩ := k2.b2 k1
 have k8 := Lib.hid (Blw k4.out k1)
 have k9 := Lib.hid k0
 obtain ⟨o_u0, o_u1⟩ := k0.ones
 clear k0 k1
 go_wp2_with fail
 have hkp := (Kp.refl w8).t2 k5 u0 u1
 refine bodyPost_ret (v := .agg #[u0, u1]) (by simp [results, Try.results95, go_sem, k6, k7]) rfl ⟨_, _, rfl, ?_, bel2 (k8.out) (by first | simp | omega)⟩
 exact k9.out.kp hkp
theorem den_any (a0 a1 a2 a3 : Value) (r : Rat) (w : World) (hr : RatV w a0 a1 a2 a3 r) : Calls Try.prog 74 #[.agg #[a0, a1, a2, a3]] w (RI r.den w) := by
 have oa0 := hr.one0
 have oa1 := hr.one1
 obtain ⟨hn, hq⟩ := hr
 clear hn
 by_cases h1 : r.den = 1
 ·rw [dq_one h1] at hq
  rw [h1]
  obtain ⟨gq, Aq, nq, cq, rfl, rfl⟩ := hq.form
  obtain rfl : nq = 0 := hq.len.2.2 rfl
  clear hq h1
  go_enter Try.func74, Try.ntmps74
  go_wp2_with fail
  generalize hW : (w.alloc _).alloc _ = W1
  obtain ⟨k2, k3, hB⟩ := box2 hW
  have k5 := Lib.hid hB; clear hW hB
  obtain ⟨kb, kc, kd, ke, kf, kg⟩ := k2.f4
  obtain ⟨kh, ki, kj, kk⟩ := k3.f2
  have k4 := one_any W1
  (with_reducible refine k4.mono ?_)
  clear k4
  rintro e w15 ⟨u0, u1, rfl, k1, k0⟩
  obtain ⟨kl, km, kn, ko, kq, kr, ks⟩ := k2.b4 k0
  obtain ⟨k6, k7, k8, kt, ku⟩ := k3.b2 k0
  have k9 := Lib.hid (Blw k5.out k0)
  have ka := Lib.hid k1
  obtain ⟨o_u0, o_u1⟩ := k1.ones
  clear k1 k0
  go_wp2_with fail
  have hkp := (Kp.refl w15).t2 k6 u0 u1
  refine bodyPost_ret (v := .agg #[u0, u1]) (by simp [results, Try.results74, go_sem, k7, k8]) rfl ⟨_, _, rfl, ?_, bel2 (k9.out) (by first | simp | omega)⟩
  exact ka.out.kp hkp
 ·rw [dq_more h1] at hq
  have hnz := r.den_nz
  obtain ⟨D, hD⟩ : ∃ D : Int, D = r.den := ⟨_, rfl⟩
  rw [← hD] at hq ⊢
  have hD0 : D ≠ 0 := by omega
  clear hnz h1 hD
  obtain ⟨gq, Aq, nq, cq, rfl, rfl⟩ := hq.form
  have hl := hq.len.2
  have hnq : ((nq : Int) == 0) = false := beq_eq_false_iff_ne.2 (by intro h; exact hD0 (hl.1 (by omega)))
  have HQ := Lib.hid hq
  clear hq hl
  go_enter Try.func74, Try.ntmps74
  go_wp2_with fail
  exact bodyPost_ret (v := .agg #[.bool gq, .slice Aq nq cq]) (by simp [results, Try.results74, go_sem]) rfl ⟨_, _, rfl, (HQ.out.below ((Below.refl _ _).alloc (Nat.le_refl _) _)).below ((Below.refl _ _).alloc (Nat.le_refl _) _), ((Below.refl _ _).alloc (Nat.le_refl _) _).alloc (by simp) _⟩
theorem rneg_any (a0 a1 a2 a3 : Value) (r : Rat) (w : World) (hr : RatV w a0 a1 a2 a3 r) : Calls Try.prog 48 #[.agg #[a0, a1, a2, a3]] w (RR (-r) w) := by
 obtain ⟨oa0, oa1, oa2, oa3⟩ := hr.ones
 obtain ⟨hn, hq⟩ := hr
 have HN_ := Lib.hid hn; have HQ := Lib.hid hq
 clear hn hq
 go_enter Try.func48, Try.ntmps48
 go_wp2_with fail
 generalize hW : (w.alloc _).alloc _ = W1
 obtain ⟨k5, k6, hB⟩ := box2 hW
 have k4 := Lib.hid hB; clear hW hB
 have F5 := Lib.hid (HN_.out.kp (.of k4.out))
 have F6 := Lib.hid (HQ.out.kp (.of k4.out))
 obtain ⟨ke, kf, kg, kh, kq, kr⟩ := k5.f4
 obtain ⟨ks, kt, ku, kv, kw, kx⟩ := k6.f4
 go_region_held3 (fun w' => w'.cell? ⟨w.heap.size, 0, none⟩ = some (a0) ∧ w'.cell? ⟨w.heap.size, 1, none⟩ = some (a1) ∧ w'.cell? ⟨w.heap.size, 2, none⟩ = some (a2) ∧ w'.cell? ⟨w.heap.size, 3, none⟩ = some (a3)) (first | exact ⟨ke, kf, kg, kh⟩ | exact ⟨k8, k9, ka, kb⟩ | exact ⟨kset (kset (kset (kset (k8) (by omega)) (by omega)) (by omega)) (by omega), kset (kset (kset (kset (k9) (by omega)) (by omega)) (by omega)) (by omega), kset (kset (kset (kset (ka) (by omega)) (by omega)) (by omega)) (by omega), kset (kset (kset (kset (kb) (by omega)) (by omega)) (by omega)) (by omega)⟩)
  (first | (go_at_call 76; have kc := ineg_any a0 a1 r.num W1.drew (F5.out.kp (Kp.refl _).drew); (with_reducible refine kc.mono ?_); clear kc; rintro e w19 ⟨u0, u1, rfl, k3, k0⟩; have k0 := bdDl k0; have k2 := k5.below k0; have k8 := k2.cell (i := 0) rfl; have k9 := k2.cell (i := 1) rfl; have ka := k2.cell (i := 2) rfl; have kb := k2.cell (i := 3) rfl; have ky := k2.frozen; have kz := k2.lt; have k1 := k6.below k0; have ki := k1.cell (i := 0) rfl; have kj := k1.cell (i := 1) rfl; have kk := k1.cell (i := 2) rfl; have kl := k1.cell (i := 3) rfl; have kA := k1.frozen; have kB := k1.lt; have kC := Lib.hid (F5.out.kp (.of k0)); have km := Lib.hid (F6.out.kp (.of k0)); have kn := Lib.hid (Blw k4.out k0); have ko := Lib.hid k3; have o_u0 := k3.one0; have o_u1 := k3.one1; clear k3 k0))
 have hkp := (Kp.refl w19).t4 k1 u0 u1 a2 a3
 go_wp2
 refine bodyPost_ret (v := .agg #[u0, u1, a2, a3]) (by simp [results, Try.results48, go_sem, ki, kj, kk, kl]) rfl ⟨_, _, _, _, rfl, ⟨?_, ?_⟩, bel4 (kn.out) (by first | simp | omega)⟩
 ·rw [Rat.neg_num]; exact ko.out.kp hkp
 ·rw [show dq (-r) = dq r from by unfold dq; rw [Rat.neg_den]]; exact km.out.kp hkp
end Go.Proofs.Ytonkbckgbfcnkaa
