/-
 THE WALKS of package integer: compare; cmp.Compare at int.
-/
import Derived.Test.YtonkbckgbfcnkaaRowI
namespace Go.Proofs.Ytonkbckgbfcnkaa
set_option maxHeartbeats 1000000
open Go.RowKit
/-- How two numbers compare. -/
def cmpZ (x y : Int) : Int := if x < y then -1 else if y < x then 1 else 0
theorem cmpZ_lt {x y : Int} (h : x < y) : cmpZ x y = -1 := by unfold cmpZ; rw [if_pos h]
theorem cmpZ_gt {x y : Int} (h : y < x) : cmpZ x y = 1 := by unfold cmpZ; rw [if_neg (by omega), if_pos h]
theorem cmpZ_eq {x y : Int} (h : x = y) : cmpZ x y = 0 := by unfold cmpZ; rw [if_neg (by omega), if_neg (by omega)]
/-- What returns v and only draws. -/
def Qt (v : Value) (w : World) (e : Ending) (w' : World) : Prop := e = .returned v ∧ ∃ n, w' = w.drewN n
theorem isnan_any (x : Int) (w : World) : Calls Try.prog 117 #[.int .i64 x] w fun e w' => e = .returned (.bool false) ∧ w = w' := by
 go_enter Try.func117, Try.ntmps117
 go_wp2
 go_ret
 exact ⟨by simp, rfl⟩
theorem cmpcmp_any (x y : Int) (w : World) : Calls Try.prog 114 #[.int .i64 x, .int .i64 y] w fun e w' => e = .returned (.int .i64 (cmpZ x y)) ∧ w = w' := by
 by_cases h1 : x < y
 ·rw [cmpZ_lt h1]
  go_enter Try.func114, Try.ntmps114
  go_wp2_with (go_at_call 117; refine (isnan_any _ _).mono ?_; rintro e w' ⟨rfl, rfl⟩)
  go_ret
  exact ⟨rfl, rfl⟩
 ·by_cases h2 : y < x
  ·rw [cmpZ_gt h2]
   go_enter Try.func114, Try.ntmps114
   go_wp2_with (go_at_call 117; refine (isnan_any _ _).mono ?_; rintro e w' ⟨rfl, rfl⟩)
   go_ret
   exact ⟨rfl, rfl⟩
  ·rw [cmpZ_eq (by omega)]
   go_enter Try.func114, Try.ntmps114
   go_wp2_with (go_at_call 117; refine (isnan_any _ _).mono ?_; rintro e w' ⟨rfl, rfl⟩)
   go_ret
   exact ⟨rfl, rfl⟩
theorem cmp_len {a b : List Int} (ha : I.Can a) (hb : I.Can b) (h : a.length ≠ b.length) : cmpZ (a.length : Int) (b.length : Int) = cmpZ (I.val a) (I.val b) := by
 by_cases h1 : a.length < b.length
 ·have h2 : I.val a < I.val b := by
   by_cases h3 : I.val a < I.val b
   ·exact h3
   ·have := I.Can.len hb ha.1 (by omega); omega
  rw [cmpZ_lt (by omega), cmpZ_lt h2]
 ·have h2 : I.val b < I.val a := by
   by_cases h3 : I.val b < I.val a
   ·exact h3
   ·have := I.Can.len ha hb.1 (by omega); omega
  rw [cmpZ_gt (by omega), cmpZ_gt h2]
theorem cmp_at {a b : List Int} (da : I.Dig a) (db : I.Dig b) {k : Nat} {x y : Int} (hx : a[k]? = some x) (hy : b[k]? = some y) (h : a.drop (k + 1) = b.drop (k + 1)) (hne : x ≠ y) : cmpZ x y = cmpZ (I.val a) (I.val b) := by
 have ka := (List.getElem?_eq_some_iff.1 hx).1
 have kb := (List.getElem?_eq_some_iff.1 hy).1
 have e1 := I.val_split a (k := k) (by omega)
 have e2 := I.val_split b (k := k) (by omega)
 rw [I.val_drop_succ hx, h] at e1
 rw [I.val_drop_succ hy] at e2
 have b1 := I.val_lt (da.take k)
 have b2 := I.val_lt (db.take k)
 have c1 := I.val_nonneg (da.take k)
 have c2 := I.val_nonneg (db.take k)
 rw [List.length_take, Nat.min_eq_left (by omega)] at b1 b2
 have hp := I.pw_pos k
 generalize I.pw k = p at *
 generalize I.val (b.drop (k + 1)) = t at *
 by_cases h1 : x < y
 ·rw [cmpZ_lt h1, cmpZ_lt]
  have h2 : p * (x + 1) ≤ p * y := Int.mul_le_mul_of_nonneg_left (by omega) (by omega)
  grind
 ·rw [cmpZ_gt (by omega), cmpZ_gt]
  have h2 : p * (y + 1) ≤ p * x := Int.mul_le_mul_of_nonneg_left (by omega) (by omega)
  grind
set_option maxRecDepth 100000 in
theorem compare_any (va vb : Value) (a b : List Int) (w : World) (ha : Sl w va a) (hb : Sl w vb b) (ca : I.Can a) (cb : I.Can b) :
  Calls Try.prog 107 #[va, vb] w (Qt (.int .i64 (cmpZ (I.val a) (I.val b))) w) := by
 obtain ⟨A, la, ca', rfl, rfl, hca, hma, hra, _⟩ := ha
 obtain ⟨B, lb, cb', rfl, rfl, hcb, hmb, hrb, _⟩ := hb
 have HCA := Lib.hid ca; have HCB := Lib.hid cb; have HRA := Lib.hid hra; have HRB := Lib.hid hrb
 clear ca cb hra hrb
 unfold maxLen at hma hmb
 by_cases hlen : a.length = b.length
 ·have hl0 : ((a.length : Int) != (b.length : Int)) = false := by rw [hlen]; simp
  have HLEN := Lib.hid hlen
  obtain ⟨N, hN⟩ : ∃ N, N = cmpZ (I.val a) (I.val b) := ⟨_, rfl⟩
  rw [← hN]
  have HN := Lib.hid hN
  clear hlen hN
  go_enter Try.func107, Try.ntmps107
  go_wp2
  go_loopw [5] (fun ix wr => ∃ k : Nat, k ≤ a.length ∧ ix = .int .i64 ((k : Int) - 1) ∧ Hid (a.drop k = b.drop k) ∧ Hid (∃ n, wr = w.drewN n)) (fun ix _ => (intOf ix + 1).toNat)
  case atStart => exact ⟨a.length, by omega, rfl, Lib.hid (by rw [List.drop_of_length_le (Nat.le_refl _), List.drop_of_length_le (by have := HLEN.out; omega)]), Lib.hid ⟨0, rfl⟩⟩
  case round =>
   obtain ⟨k, hk, rfl, HV, HW⟩ := hrel
   obtain ⟨nq, rfl⟩ := HW.out
   clear HW
   cases k with
   | zero =>
    rw [show ((0 : Nat) : Int) - 1 = -1 from rfl]
    go_wp2
    go_ret
    refine ⟨?_, nq, rfl⟩
    have := HV.out
    rw [List.drop_zero, List.drop_zero] at this
    rw [HN.out, cmpZ_eq (by rw [this])]
    rfl
   | succ m =>
    have hmm : ((m + 1 : Nat) : Int) - 1 = (m : Int) := by omega
    rw [hmm]
    obtain ⟨x, hx⟩ : ∃ x, a[m]? = some x := ⟨_, List.getElem?_eq_getElem (by omega)⟩
    obtain ⟨y, hy⟩ : ∃ y, b[m]? = some y := ⟨_, List.getElem?_eq_getElem (by have := HLEN.out; omega)⟩
    obtain ⟨ba, oa, rfl, hba, hcA⟩ := HRA.out (by simp; omega)
    obtain ⟨bb, ob, rfl, hbb, hcB⟩ := HRB.out (by simp; have := HLEN.out; omega)
    have f1 : w.cell? ⟨ba, oa + m, none⟩ = some (.int .i64 x) := hcA m _ (il_at a hx)
    have f2 : w.cell? ⟨bb, ob + m, none⟩ = some (.int .i64 y) := hcB m _ (il_at b hy)
    have hmb2 : (m : Int) < (b.length : Int) := by have := HLEN.out; omega
    have hma2 : (m : Int) < (a.length : Int) := by omega
    have hm0 : (0 : Int) ≤ (m : Int) := by omega
    have HX := Lib.hid hx; have HY := Lib.hid hy
    clear hcA hcB hmm hx hy
    by_cases hxy : x = y
    ·have hne : (x != y) = false := by simp [hxy]
     have HXY := Lib.hid hxy
     clear hxy
     go_wp2_with fail
     go_quiet (fail)
     go_wp2
     go_roundw
     case rel =>
      refine ⟨m, by omega, rfl, ?_, ⟨_, rfl⟩⟩
      show List.drop m a = List.drop m b
      rw [I.drop_cons HX.out, I.drop_cons HY.out, HXY.out, show List.drop (m + 1) a = List.drop (m + 1) b from HV.out]
     case measure => simp [intOf]
    ·have hne : (x != y) = true := by simp [hxy]
     have hfin := cmp_at HCA.out.1 HCB.out.1 HX.out HY.out HV.out hxy
     rw [← HN.out] at hfin
     have HFIN := Lib.hid hfin
     clear hxy hfin
     go_wp2_with fail
     go_quiet (fail)
     go_wp2_with fail
     go_quiet ((go_at_call 114; exact quiet_more (fun W => cmpcmp_any _ _ W)))
     go_wp2
     go_ret
     rw [HFIN.out]
     exact ⟨rfl, _, by rw [World.drewN_drewN, World.drewN_drewN]⟩
 ·have hl0 : ((a.length : Int) != (b.length : Int)) = true := by simp; omega
  have hfin := cmp_len HCA.out HCB.out hlen
  have HFIN := Lib.hid hfin
  clear hlen hfin
  go_enter Try.func107, Try.ntmps107
  go_wp2_with (go_at_call 114; refine (cmpcmp_any _ _ _).mono ?_; rintro e w' ⟨rfl, rfl⟩)
  go_ret
  rw [HFIN.out]
  exact ⟨rfl, 0, rfl⟩
theorem compare_b (va vb : Value) (a b : List Int) (w : World) (ha : Sl w va a) (hb : Sl w vb b) (ca : I.Can a) (cb : I.Can b) :
  Calls Try.prog 107 #[va, vb] w fun e w' => e = .returned (.int .i64 (cmpZ (I.val a) (I.val b))) ∧ Below w.heap.size w w' :=
 (compare_any va vb a b w ha hb ca cb).mono fun _ _ ⟨he, n, hw⟩ => ⟨he, by subst hw; exact bdN (Below.refl _ _) n⟩
end Go.Proofs.Ytonkbckgbfcnkaa
