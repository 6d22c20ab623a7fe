/-
 THE WALKS of package rat: Same; slices.Equal of ints.
-/
import Derived.Test.YtonkbckgbfcnkaaWalkRSub
namespace Go.Proofs.Ytonkbckgbfcnkaa
set_option maxHeartbeats 1000000
open Go.RowKit
attribute [local go_sem] run_store_one
set_option linter.unusedVariables false
theorem take_ne {a b : List Int} {k : Nat} {x y : Int} (hx : a[k]? = some x) (hy : b[k]? = some y) (h : x ≠ y) : a ≠ b := by
 rintro rfl
 rw [hx] at hy
 injection hy with hy
 exact h hy
set_option maxRecDepth 100000 in
/-- slices.Equal of two rows of ints. -/
theorem equal_any (va vb : Value) (a b : List Int) (w : World) (ha : Sl w va a) (hb : Sl w vb b) (v : Bool) (hv : v = decide (a = b)) :
  Calls Try.prog 63 #[va, vb] w (Qt (.bool v) w) := by
 obtain ⟨A, la, ca', rfl, rfl, hca, hma, hra, _⟩ := ha
 obtain ⟨B, lb, cb', rfl, rfl, hcb, hmb, hrb, _⟩ := hb
 have HRA := Lib.hid hra; have HRB := Lib.hid hrb; have HV := Lib.hid hv
 clear hra hrb hv
 unfold maxLen at hma hmb
 by_cases hlen : a.length = b.length
 ·have hl0 : ((a.length : Int) != (b.length : Int)) = false := by rw [hlen]; simp
  have HLEN := Lib.hid hlen
  clear hlen
  go_enter Try.func63, Try.ntmps63
  go_wp2
  go_loopw [13] (fun ix wr => ∃ k : Nat, k ≤ a.length ∧ ix = .int .i64 (k : Int) ∧ Hid (a.take k = b.take k) ∧ Hid (∃ n, wr = w.drewN n)) (fun ix _ => (a.length - (intOf ix).toNat))
  case atStart => exact ⟨0, by omega, rfl, Lib.hid (by simp), Lib.hid ⟨0, rfl⟩⟩
  case round =>
   obtain ⟨k, hk, rfl, HT, HW⟩ := hrel
   obtain ⟨nq, rfl⟩ := HW.out
   clear HW
   by_cases hk2 : k < a.length
   ·obtain ⟨x, hx⟩ : ∃ x, a[k]? = some x := ⟨_, List.getElem?_eq_getElem hk2⟩
    obtain ⟨y, hy⟩ : ∃ y, b[k]? = some y := ⟨_, List.getElem?_eq_getElem (by have := HLEN.out; omega)⟩
    obtain ⟨ba, oa, rfl, hba, hcA⟩ := HRA.out (by simp; omega)
    obtain ⟨bb, ob, rfl, hbb, hcB⟩ := HRB.out (by simp; have := HLEN.out; omega)
    have f1 : w.cell? ⟨ba, oa + k, none⟩ = some (.int .i64 x) := hcA k _ (il_at a hx)
    have f2 : w.cell? ⟨bb, ob + k, none⟩ = some (.int .i64 y) := hcB k _ (il_at b hy)
    have hmb2 : (k : Int) < (b.length : Int) := by have := HLEN.out; omega
    have hma2 : (k : Int) < (a.length : Int) := by omega
    have hm0 : (0 : Int) ≤ (k : Int) := by omega
    have HX := Lib.hid hx; have HY := Lib.hid hy
    clear hcA hcB hx hy
    by_cases hxy : x = y
    ·have hne : (x != y) = false := by simp [hxy]
     have HXY := Lib.hid hxy
     clear hxy
     go_wp2_with fail
     go_quiet (fail)
     go_wp2
     go_roundw
     case rel =>
      refine ⟨k + 1, by omega, by go_num, ?_, ⟨_, rfl⟩⟩
      show List.take (k + 1) a = List.take (k + 1) b
      rw [I.take_snoc HX.out, I.take_snoc HY.out, HXY.out, show List.take k a = List.take k b from HT.out]
     case measure => simp [intOf]; omega
    ·have hne : (x != y) = true := by simp [hxy]
     have hfin := take_ne HX.out HY.out hxy
     have HFIN := Lib.hid hfin
     clear hxy hfin
     go_wp2_with fail
     go_quiet (fail)
     go_wp2
     go_ret
     rw [HV.out]
     exact ⟨by simp [HFIN.out], _, by rw [World.drewN_drewN]⟩
   ·obtain rfl : a.length = k := by omega
    have hfin : a = b := by
     have h1 := HT.out
     rw [List.take_of_length_le (Nat.le_refl _), List.take_of_length_le (by have := HLEN.out; omega)] at h1
     exact h1
    have HFIN := Lib.hid hfin
    clear hfin
    go_wp2
    go_ret
    rw [HV.out]
    exact ⟨by simp [HFIN.out], nq, rfl⟩
 ·have hl0 : ((a.length : Int) != (b.length : Int)) = true := by simp; omega
  have hfin : a ≠ b := by rintro rfl; exact hlen rfl
  have HFIN := Lib.hid hfin
  clear hlen hfin
  go_enter Try.func63, Try.ntmps63
  go_wp2
  go_ret
  rw [HV.out]
  exact ⟨by simp [HFIN.out], 0, rfl⟩
theorem equal_b (va vb : Value) (a b : List Int) (w : World) (ha : Sl w va a) (hb : Sl w vb b) (v : Bool) (hv : v = decide (a = b)) :
  Calls Try.prog 63 #[va, vb] w fun e w' => e = .returned (.bool v) ∧ Below w.heap.size w w' :=
 (equal_any va vb a b w ha hb v hv).mono fun _ _ ⟨h1, n, h2⟩ => ⟨h1, by rw [h2]; exact bdN (Below.refl _ _) _⟩
set_option maxRecDepth 100000 in
theorem isame_0 (ga gb : Bool) (Aa Ab : Option Addr) (na ca nb cb : Nat) (a b : List Int) (w : World) (ha : Sl w (.slice Aa na ca) a) (hb : Sl w (.slice Ab nb cb) b) (hg : (ga == gb) = false) :
  Calls Try.prog 62 #[.agg #[.bool ga, .slice Aa na ca], .agg #[.bool gb, .slice Ab nb cb]] w fun e w' => e = .returned (.bool false) ∧ Below w.heap.size w w' := by
 have HA := Lib.hid ha; have HB_ := Lib.hid hb
 clear ha hb
 go_enter Try.func62, Try.ntmps62
 go_wp2_with fail
 go_ret
 exact ⟨rfl, ((Below.refl _ _).alloc (by simp) _).alloc (by simp) _⟩
set_option maxRecDepth 100000 in
theorem isame_1 (ga gb : Bool) (Aa Ab : Option Addr) (na ca nb cb : Nat) (a b : List Int) (w : World) (ha : Sl w (.slice Aa na ca) a) (hb : Sl w (.slice Ab nb cb) b) (hg : (ga == gb) = true) (v : Bool) (hv : v = decide (a = b)) :
  Calls Try.prog 62 #[.agg #[.bool ga, .slice Aa na ca], .agg #[.bool gb, .slice Ab nb cb]] w fun e w' => e = .returned (.bool v) ∧ Below w.heap.size w w' := by
 have HA := Lib.hid ha; have HB_ := Lib.hid hb; have HV := Lib.hid hv
 clear ha hb hv
 go_enter Try.func62, Try.ntmps62
 go_wp2_with fail
 generalize hW : (w.alloc _).alloc _ = W1
 obtain ⟨k2, k3, hB⟩ := box2 hW
 have k1 := Lib.hid hB; clear hW hB
 have F5 := Lib.hid (HA.out.kp (.of k1.out))
 have F6 := Lib.hid (HB_.out.kp (.of k1.out))
 obtain ⟨k8, k9, ka, kb⟩ := k2.f2
 obtain ⟨kc, kd, ke, kf⟩ := k3.f2
 have k4 := equal_b (.slice Aa na ca) (.slice Ab nb cb) a b W1 F5.out F6.out v HV.out
 (with_reducible refine k4.mono ?_)
 clear k4
 rintro e w15 ⟨rfl, k0⟩
 obtain ⟨kg, kh, ki, kj, kk⟩ := k2.b2 k0
 obtain ⟨kl, km, kn, ko, kq⟩ := k3.b2 k0
 have k7 := Lib.hid (Blw k1.out k0)
 clear k0
 go_wp2
 go_ret
 exact ⟨rfl, k7.out⟩
theorem isame_any (a0 a1 b0 b1 : Value) (x y : Int) (w : World) (hx : IntV w a0 a1 x) (hy : IntV w b0 b1 y) (v : Bool) (hv : v = decide (x = y)) :
  Calls Try.prog 62 #[.agg #[a0, a1], .agg #[b0, b1]] w fun e w' => e = .returned (.bool v) ∧ Below w.heap.size w w' := by
 obtain ⟨a, rfl, ha, ca, va⟩ := hx
 obtain ⟨b, rfl, hb, cb, vb⟩ := hy
 obtain ⟨Aa, na, ca', rfl, _⟩ := id ha
 obtain ⟨Ab, nb, cb', rfl, _⟩ := id hb
 by_cases hs : decide (x < 0) = decide (y < 0)
 ·refine isame_1 _ _ Aa Ab na ca' nb cb' a b w ha hb (by rw [hs]; simp) v ?_
  rw [hv]
  have hs2 : (x < 0) ↔ (y < 0) := by simpa using hs
  congr 1
  apply propext
  constructor
  ·rintro rfl
   exact I.Can.uniq ca cb (by rw [va, vb])
  ·rintro rfl
   rw [va] at vb
   omega
 ·have hne : decide (x = y) = false := by
   apply decide_eq_false
   rintro rfl
   exact hs rfl
  rw [hv, hne]
  exact isame_0 _ _ Aa Ab na ca' nb cb' a b w ha hb (by simpa using hs)
set_option maxRecDepth 100000 in
theorem rsame_0 (a0 a1 a2 a3 b0 b1 b2 b3 : Value) (r t : Rat) (w : World) (hr : RatV w a0 a1 a2 a3 r) (ht : RatV w b0 b1 b2 b3 t) (hn : false = decide (r.num = t.num)) :
  Calls Try.prog 28 #[.agg #[a0, a1, a2, a3], .agg #[b0, b1, b2, b3]] w fun e w' => e = .returned (.bool false) ∧ Below w.heap.size w w' := by
 obtain ⟨oa0, oa1, oa2, oa3⟩ := hr.ones
 obtain ⟨ob0, ob1, ob2, ob3⟩ := ht.ones
 have HR := Lib.hid hr; have HT := Lib.hid ht; have HN_ := Lib.hid hn
 clear hr ht hn
 go_enter Try.func28, Try.ntmps28
 go_wp2_with fail
 generalize hW : (w.alloc _).alloc _ = W1
 obtain ⟨k2, k3, hB⟩ := box2 hW
 have k1 := Lib.hid hB; clear hW hB
 have F5 := Lib.hid (HR.out.kp (.of k1.out))
 have F6 := Lib.hid (HT.out.kp (.of k1.out))
 obtain ⟨k8, k9, ka, kb, kc, kd⟩ := k2.f4
 obtain ⟨ke, kf, kg, kh, ki, kj⟩ := k3.f4
 have k4 := isame_any a0 a1 b0 b1 r.num t.num W1 (F5.out).1 (F6.out).1 false HN_.out
 (with_reducible refine k4.mono ?_)
 clear k4
 rintro e w19 ⟨rfl, k0⟩
 obtain ⟨kk, kl, km, kn, ko, kq, kr⟩ := k2.b4 k0
 obtain ⟨ks, kt, ku, kv, kw, kx, ky⟩ := k3.b4 k0
 have k7 := Lib.hid (Blw k1.out k0)
 clear k0
 go_wp2
 go_ret
 exact ⟨rfl, k7.out⟩
set_option maxRecDepth 100000 in
theorem rsame_1 (a0 a1 a2 a3 b0 b1 b2 b3 : Value) (r t : Rat) (w : World) (hr : RatV w a0 a1 a2 a3 r) (ht : RatV w b0 b1 b2 b3 t) (hn : true = decide (r.num = t.num)) (v : Bool) (hv : v = decide (dq r = dq t)) :
  Calls Try.prog 28 #[.agg #[a0, a1, a2, a3], .agg #[b0, b1, b2, b3]] w fun e w' => e = .returned (.bool v) ∧ Below w.heap.size w w' := by
 obtain ⟨oa0, oa1, oa2, oa3⟩ := hr.ones
 obtain ⟨ob0, ob1, ob2, ob3⟩ := ht.ones
 have HR := Lib.hid hr; have HT := Lib.hid ht; have HN_ := Lib.hid hn; have HV := Lib.hid hv
 clear hr ht hn hv
 go_enter Try.func28, Try.ntmps28
 go_wp2_with fail
 generalize hW : (w.alloc _).alloc _ = W1
 obtain ⟨k3, k4, hB⟩ := box2 hW
 have k2 := Lib.hid hB; clear hW hB
 have F5 := Lib.hid (HR.out.kp (.of k2.out))
 have F6 := Lib.hid (HT.out.kp (.of k2.out))
 obtain ⟨kf, kg, kh, ki, kj, kk⟩ := k3.f4
 obtain ⟨kl, km, kn, ko, kq, kr⟩ := k4.f4
 have k7 := isame_any a0 a1 b0 b1 r.num t.num W1 (F5.out).1 (F6.out).1 true HN_.out
 (with_reducible refine k7.mono ?_)
 clear k7
 rintro e w19 ⟨rfl, k0⟩
 obtain ⟨k9, ks, kt, ku, kv, kw, kx⟩ := k3.b4 k0
 obtain ⟨ka, ky, kz, kA, kB, kC, kD⟩ := k4.b4 k0
 have kb := Lib.hid (F5.out.kp (.of k0))
 have kc := Lib.hid (F6.out.kp (.of k0))
 have kd := Lib.hid (Blw k2.out k0)
 clear k0
 go_wp2_with fail
 have k8 := isame_any a2 a3 b2 b3 (dq r) (dq t) w19 (kb.out).2 (kc.out).2 v HV.out
 (with_reducible refine k8.mono ?_)
 clear k8
 rintro e w38 ⟨rfl, k1⟩
 obtain ⟨kE, kF, kG, kH, kI, kJ, kK⟩ := k9.b4 k1
 obtain ⟨kL, kM, kN, kO, kP, kQ, kR⟩ := ka.b4 k1
 have ke := Lib.hid (Blw kd.out k1)
 clear k1
 go_wp2
 go_ret
 exact ⟨rfl, ke.out⟩
theorem rat_eq {r t : Rat} : r = t ↔ r.num = t.num ∧ dq r = dq t := by
 constructor
 ·rintro rfl; exact ⟨rfl, rfl⟩
 ·rintro ⟨h1, h2⟩
  apply Rat.ext h1
  unfold dq at h2
  have := r.den_nz
  have := t.den_nz
  split at h2 <;> split at h2 <;> omega
theorem rsame_any (a0 a1 a2 a3 b0 b1 b2 b3 : Value) (r t : Rat) (w : World) (hr : RatV w a0 a1 a2 a3 r) (ht : RatV w b0 b1 b2 b3 t) (v : Bool) (hv : v = decide (r = t)) :
  Calls Try.prog 28 #[.agg #[a0, a1, a2, a3], .agg #[b0, b1, b2, b3]] w fun e w' => e = .returned (.bool v) ∧ Below w.heap.size w w' := by
 by_cases h : r.num = t.num
 ·exact rsame_1 a0 a1 a2 a3 b0 b1 b2 b3 r t w hr ht (by simp [h]) v (by rw [hv]; simp [rat_eq, h])
 ·have : v = false := by rw [hv]; simp [rat_eq, h]
  rw [this]
  exact rsame_0 a0 a1 a2 a3 b0 b1 b2 b3 r t w hr ht (by simp [h])
end Go.Proofs.Ytonkbckgbfcnkaa
