/-
 THE WALKS of the references of packages integer and rat: Same.
-/
import Derived.Test.YtonkbckgbfcnkaaWalkRSame
import Derived.Test.YtonkbckgbfcnkaaRef3A
import Derived.Deep.DeepCutAuto
namespace Go.Proofs.Ytonkbckgbfcnkaa
set_option maxHeartbeats 2000000
open Go.RowKit
attribute [local go_sem] run_store_one
set_option linter.unusedVariables false
set_option maxRecDepth 100000 in
theorem same3_s (ga gb : Bool) (A B : Option Addr) (na ca nb cb : Nat) (w : World) (hg : (ga == gb) = false) :
  Calls Try.prog 66 #[.agg #[.bool ga, .slice A na ca], .agg #[.bool gb, .slice B nb cb]] w fun e w' => e = .returned (.bool false) ∧ Below w.heap.size w w' := by
 go_enter Try.func66, Try.ntmps66
 go_wp2
 go_ret
 exact ⟨rfl, ((Below.refl _ _).alloc (by simp) _).alloc (by simp) _⟩
set_option maxRecDepth 100000 in
theorem same3_l (ga gb : Bool) (A B : Option Addr) (na ca nb cb : Nat) (w : World) (hg : (ga == gb) = true) (hl : ((na : Int) != (nb : Int)) = true) (hl2 : (na != nb) = true) (hl3 : (na == nb) = false) :
  Calls Try.prog 66 #[.agg #[.bool ga, .slice A na ca], .agg #[.bool gb, .slice B nb cb]] w fun e w' => e = .returned (.bool false) ∧ Below w.heap.size w w' := by
 go_enter Try.func66, Try.ntmps66
 go_wp2
 go_ret
 exact ⟨rfl, ((Below.refl _ _).alloc (by simp) _).alloc (by simp) _⟩
set_option maxRecDepth 100000 in
theorem same3_e (ga gb : Bool) (A B : Option Addr) (ca' cb' : Nat) (a b : List Int) (w : World) (ha : Sl w (.slice A a.length ca') a) (hb : Sl w (.slice B b.length cb') b) (hg : (ga == gb) = true) (hlen : a.length = b.length) (v : Bool) (hv : v = decide (a = b)) :
  Calls Try.prog 66 #[.agg #[.bool ga, .slice A a.length ca'], .agg #[.bool gb, .slice B b.length cb']] w fun e w' => e = .returned (.bool v) ∧ Below w.heap.size w w' := by
 have hl0 : ((a.length : Int) != (b.length : Int)) = false := by rw [hlen]; simp
 have hl1 : (a.length != b.length) = false := by rw [hlen]; simp
 have HLEN := Lib.hid hlen; have HV := Lib.hid hv; have HA := Lib.hid ha; have HB_ := Lib.hid hb
 have hmx : a.length ≤ maxLen := by
  obtain ⟨_, _, _, e, h1, h2, h3, _⟩ := ha
  injection e with _ e1 e2
  omega
 unfold maxLen at hmx
 clear hlen hv ha hb
 go_enter Try.func66, Try.ntmps66
 go_upto_region 3 with fail
 generalize hW : (w.alloc _).alloc _ = W1
 obtain ⟨k1, k2, hB⟩ := box2 hW
 have k0 := Lib.hid hB; clear hW hB
 have F5 := Lib.hid (HA.out.kp (.of k0.out))
 have F6 := Lib.hid (HB_.out.kp (.of k0.out))
 obtain ⟨k5, k6, k7, k8⟩ := k1.f2
 obtain ⟨k9, ka, kb, kc⟩ := k2.f2
 go_wp2_with fail
 go_loopw [5] (fun ix wr => ∃ k : Nat, k ≤ a.length ∧ ix = .int .i64 (k : Int) ∧ Hid (a.take k = b.take k) ∧ Hid (∃ n, wr = W1.drewN n)) (fun ix _ => (a.length - (intOf ix).toNat))
 case atStart => exact ⟨0, by omega, rfl, Lib.hid (by simp), Lib.hid ⟨0, rfl⟩⟩
 case round =>
  obtain ⟨k, hk, rfl, HT, HW⟩ := hrel
  obtain ⟨nq, rfl⟩ := HW.out
  clear HW
  have k00 := k1.cell (i := 0) rfl
  have k01 := k1.cell (i := 1) rfl
  have k10 := k2.cell (i := 0) rfl
  have k11 := k2.cell (i := 1) rfl
  by_cases hk2 : k < a.length
  ·obtain ⟨x, hx⟩ : ∃ x, a[k]? = some x := ⟨_, List.getElem?_eq_getElem hk2⟩
   obtain ⟨y, hy⟩ : ∃ y, b[k]? = some y := ⟨_, List.getElem?_eq_getElem (by have := HLEN.out; omega)⟩
   obtain ⟨_, _, _, ea, _, _, _, hra, _⟩ := F5.out
   injection ea with ea1 ea2 ea3
   subst ea1
   obtain ⟨ba, oa, rfl, hba, hcA⟩ := hra (by simp; omega)
   obtain ⟨_, _, _, eb, _, _, _, hrb, _⟩ := F6.out
   injection eb with eb1 eb2 eb3
   subst eb1
   obtain ⟨bb, ob, rfl, hbb, hcB⟩ := hrb (by simp; have := HLEN.out; omega)
   have f1 : W1.cell? ⟨ba, oa + k, none⟩ = some (.int .i64 x) := hcA k _ (il_at a hx)
   have f2 : W1.cell? ⟨bb, ob + k, none⟩ = some (.int .i64 y) := hcB k _ (il_at b hy)
   have hmb2 : (k : Int) < (b.length : Int) := by have := HLEN.out; omega
   have hma2 : (k : Int) < (a.length : Int) := by omega
   have hmb3 : k < b.length := by have := HLEN.out; omega
   have hm0 : (0 : Int) ≤ (k : Int) := by omega
   have hkd := decide_eq_true hk2
   have HX := Lib.hid hx; have HY := Lib.hid hy
   clear hcA hcB hx hy hra hrb ea2 ea3 eb2 eb3
   by_cases hxy : x = y
   ·have hne : (x != y) = false := by simp [hxy]
    have HXY := Lib.hid hxy
    clear hxy
    go_wp2_with fail
    go_quiet (fail)
    go_wp2
    go_roundw
    case rel =>
     refine ⟨k + 1, by omega, by go_num, ?_, ⟨_, rfl⟩⟩
     show List.take (k + 1) a = List.take (k + 1) b
     rw [I.take_snoc HX.out, I.take_snoc HY.out, HXY.out, show List.take k a = List.take k b from HT.out]
    case measure => simp [intOf]; omega
   ·have hne : (x != y) = true := by simp [hxy]
    have hfin := take_ne HX.out HY.out hxy
    have HFIN := Lib.hid hfin
    clear hxy hfin
    go_wp2_with fail
    go_quiet (fail)
    go_wp2
    go_ret
    rw [HV.out]
    exact ⟨by simp [HFIN.out], by rw [World.drewN_drewN]; exact bdN k0.out _⟩
  ·have hkd := decide_eq_false hk2
   obtain rfl : a.length = k := by omega
   have hfin : a = b := by
    have h1 := HT.out
    rw [List.take_of_length_le (Nat.le_refl _), List.take_of_length_le (by have := HLEN.out; omega)] at h1
    exact h1
   have HFIN := Lib.hid hfin
   clear hfin
   go_wp2
   go_ret
   rw [HV.out]
   exact ⟨by simp [HFIN.out], bdN k0.out _⟩
theorem isame3_any (a0 a1 b0 b1 : Value) (x y : Int) (w : World) (hx : IntV w a0 a1 x) (hy : IntV w b0 b1 y) (v : Bool) (hv : v = decide (x = y)) :
  Calls Try.prog 66 #[.agg #[a0, a1], .agg #[b0, b1]] w fun e w' => e = .returned (.bool v) ∧ Below w.heap.size w w' := by
 obtain ⟨a, rfl, ha, ca, va⟩ := hx
 obtain ⟨b, rfl, hb, cb, vb⟩ := hy
 have fa : ∃ A c, a1 = .slice A a.length c := by
  obtain ⟨A, n, c, rfl, rfl, _⟩ := ha
  exact ⟨A, c, rfl⟩
 have fb : ∃ A c, b1 = .slice A b.length c := by
  obtain ⟨A, n, c, rfl, rfl, _⟩ := hb
  exact ⟨A, c, rfl⟩
 obtain ⟨Aa, ca', rfl⟩ := fa
 obtain ⟨Ab, cb', rfl⟩ := fb
 by_cases hs : decide (x < 0) = decide (y < 0)
 ·have hs2 : (x < 0) ↔ (y < 0) := by simpa using hs
  have hxy : x = y ↔ a = b := by
   constructor
   ·rintro rfl
    exact I.Can.uniq ca cb (by rw [va, vb])
   ·rintro rfl
    rw [va] at vb
    omega
  by_cases hl : a.length = b.length
  ·exact same3_e _ _ Aa Ab ca' cb' a b w ha hb (by rw [hs]; simp) hl v (by rw [hv]; simp [hxy])
  ·have hne : decide (x = y) = false := by
    apply decide_eq_false
    intro h
    exact hl (by rw [hxy.1 h])
   rw [hv, hne]
   exact same3_l _ _ Aa Ab a.length ca' b.length cb' w (by rw [hs]; simp) (by simp; omega) (by simp; omega) (by simp; omega)
 ·have hne : decide (x = y) = false := by
   apply decide_eq_false
   rintro rfl
   exact hs rfl
  rw [hv, hne]
  exact same3_s _ _ Aa Ab a.length ca' b.length cb' w (by simpa using hs)
set_option maxRecDepth 100000 in
theorem rsame4_0 (a0 a1 a2 a3 b0 b1 b2 b3 : Value) (r t : Rat) (w : World) (hr : RatV w a0 a1 a2 a3 r) (ht : RatV w b0 b1 b2 b3 t) (hn : false = decide (r.num = t.num)) :
  Calls Try.prog 37 #[.agg #[a0, a1, a2, a3], .agg #[b0, b1, b2, b3]] w fun e w' => e = .returned (.bool false) ∧ Below w.heap.size w w' := by
 obtain ⟨oa0, oa1, oa2, oa3⟩ := hr.ones
 obtain ⟨ob0, ob1, ob2, ob3⟩ := ht.ones
 have HR := Lib.hid hr; have HT := Lib.hid ht; have HN_ := Lib.hid hn
 clear hr ht hn
 go_enter Try.func37, Try.ntmps37
 go_wp2_with fail
 generalize hW : (w.alloc _).alloc _ = W1
 obtain ⟨k2, k3, hB⟩ := box2 hW
 have k1 := Lib.hid hB; clear hW hB
 have F5 := Lib.hid (HR.out.kp (.of k1.out))
 have F6 := Lib.hid (HT.out.kp (.of k1.out))
 obtain ⟨k8, k9, ka, kb, kc, kd⟩ := k2.f4
 obtain ⟨ke, kf, kg, kh, ki, kj⟩ := k3.f4
 have k4 := isame3_any a0 a1 b0 b1 r.num t.num W1 (F5.out).1 (F6.out).1 false HN_.out
 (with_reducible refine k4.mono ?_)
 clear k4
 rintro e w19 ⟨rfl, k0⟩
 obtain ⟨kk, kl, km, kn, ko, kq, kr⟩ := k2.b4 k0
 obtain ⟨ks, kt, ku, kv, kw, kx, ky⟩ := k3.b4 k0
 have k7 := Lib.hid (Blw k1.out k0)
 clear k0
 go_wp2
 go_ret
 exact ⟨rfl, k7.out⟩
set_option maxRecDepth 100000 in
theorem rsame4_1 (a0 a1 a2 a3 b0 b1 b2 b3 : Value) (r t : Rat) (w : World) (hr : RatV w a0 a1 a2 a3 r) (ht : RatV w b0 b1 b2 b3 t) (hn : true = decide (r.num = t.num)) (v : Bool) (hv : v = decide (dq r = dq t)) :
  Calls Try.prog 37 #[.agg #[a0, a1, a2, a3], .agg #[b0, b1, b2, b3]] w fun e w' => e = .returned (.bool v) ∧ Below w.heap.size w w' := by
 obtain ⟨oa0, oa1, oa2, oa3⟩ := hr.ones
 obtain ⟨ob0, ob1, ob2, ob3⟩ := ht.ones
 have HR := Lib.hid hr; have HT := Lib.hid ht; have HN_ := Lib.hid hn; have HV := Lib.hid hv
 clear hr ht hn hv
 go_enter Try.func37, Try.ntmps37
 go_wp2_with fail
 generalize hW : (w.alloc _).alloc _ = W1
 obtain ⟨k3, k4, hB⟩ := box2 hW
 have k2 := Lib.hid hB; clear hW hB
 have F5 := Lib.hid (HR.out.kp (.of k2.out))
 have F6 := Lib.hid (HT.out.kp (.of k2.out))
 obtain ⟨kf, kg, kh, ki, kj, kk⟩ := k3.f4
 obtain ⟨kl, km, kn, ko, kq, kr⟩ := k4.f4
 have k7 := isame3_any a0 a1 b0 b1 r.num t.num W1 (F5.out).1 (F6.out).1 true HN_.out
 (with_reducible refine k7.mono ?_)
 clear k7
 rintro e w19 ⟨rfl, k0⟩
 obtain ⟨k9, ks, kt, ku, kv, kw, kx⟩ := k3.b4 k0
 obtain ⟨ka, ky, kz, kA, kB, kC, kD⟩ := k4.b4 k0
 have kb := Lib.hid (F5.out.kp (.of k0))
 have kc := Lib.hid (F6.out.kp (.of k0))
 have kd := Lib.hid (Blw k2.out k0)
 clear k0
 go_wp2_with fail
 have k8 := isame3_any a2 a3 b2 b3 (dq r) (dq t) w19 (kb.out).2 (kc.out).2 v HV.out
 (with_reducible refine k8.mono ?_)
 clear k8
 rintro e w38 ⟨rfl, k1⟩
 obtain ⟨kE, kF, kG, kH, kI, kJ, kK⟩ := k9.b4 k1
 obtain ⟨kL, kM, kN, kO, kP, kQ, kR⟩ := ka.b4 k1
 have ke := Lib.hid (Blw kd.out k1)
 clear k1
 go_wp2
 go_ret
 exact ⟨rfl, ke.out⟩
theorem rsame4_any (a0 a1 a2 a3 b0 b1 b2 b3 : Value) (r t : Rat) (w : World) (hr : RatV w a0 a1 a2 a3 r) (ht : RatV w b0 b1 b2 b3 t) (v : Bool) (hv : v = decide (r = t)) :
  Calls Try.prog 37 #[.agg #[a0, a1, a2, a3], .agg #[b0, b1, b2, b3]] w fun e w' => e = .returned (.bool v) ∧ Below w.heap.size w w' := by
 by_cases h : r.num = t.num
 ·exact rsame4_1 a0 a1 a2 a3 b0 b1 b2 b3 r t w hr ht (by simp [h]) v (by rw [hv]; simp [rat_eq, h])
 ·have : v = false := by rw [hv]; simp [rat_eq, h]
  rw [this]
  exact rsame4_0 a0 a1 a2 a3 b0 b1 b2 b3 r t w hr ht (by simp [h])
end Go.Proofs.Ytonkbckgbfcnkaa
