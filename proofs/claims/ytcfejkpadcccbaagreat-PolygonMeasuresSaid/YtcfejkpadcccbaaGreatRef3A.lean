/-
 THE WALKS of the reference of package integer: normal, digit, compared, tiny.
-/
import Derived.Test.YtcfejkpadcccbaaGreatWalkUns
import Derived.Test.YtcfejkpadcccbaaGreatWalkMul
namespace Go.Proofs.YtcfejkpadcccbaaGreat
set_option maxHeartbeats 1000000
open Go.RowKit
set_option linter.unusedVariables false
/-- A slice's row lies from block B on. -/
def Fr (B : Nat) (v : Value) : Prop := ∀ A n c, v = .slice (some A) n c → B ≤ A.block
theorem Fr.none (B : Nat) : Fr B (.slice none 0 0) := fun _ _ _ h => by cases h
theorem Fr.same {B : Nat} {A : Addr} {n c n' c' : Nat} (h : Fr B (.slice (some A) n c)) : Fr B (.slice (some A) n' c') := fun A' _ _ e => by
 injection e with e
 injection e with e
 subst e
 exact h A n c rfl
/-- What returns an integer whose row lies from block B on. -/
def RIF (B : Nat) (x : Int) (w : World) (e : Ending) (w' : World) : Prop := ∃ a b, e = .returned (.agg #[a, b]) ∧ (IntV w' a b x ∧ Fr B b) ∧ Below w.heap.size w w'
theorem normal_f (B : Nat) (ng : Bool) (v : Value) (l : List Int) (w : World) (hs : Sl w v l) (hd : I.Dig l) (hF : Fr B v) :
  Calls Tryz.prog 124 #[.bool ng, v] w (RIF B (sg ng (I.val l)) w) := by
 obtain ⟨A, len, c, rfl, rfl, hc, hm, hr, hty⟩ := hs
 have HD := Lib.hid hd; clear hd
 have HR := Lib.hid hr; have HTY := Lib.hid hty; clear hr hty
 unfold maxLen at hm
 go_enter Tryz.func124, Tryz.ntmps124
 go_wp2
 go_loop [5] (fun n => ∃ k : Nat, k ≤ l.length ∧ n = .int .i64 k ∧ Hid (∀ j, k ≤ j → j < l.length → l[j]? = some 0)) (fun n => (intOf n).toNat)
 case atStart => exact ⟨l.length, Nat.le_refl _, rfl, fun j h1 h2 => by omega⟩
 case round =>
  obtain ⟨k, hk, rfl, HZ⟩ := hrel
  cases k with
  | zero =>
   go_wp2
   refine bodyPost_ret (v := .agg #[.bool false, .slice none 0 0]) (by simp [results, Tryz.results124, go_sem]) rfl ⟨_, _, rfl, ?_, (Below.refl _ _).alloc (Nat.le_refl _) _⟩
   have hv : I.val l = 0 := by
    have h1 := I.val_take_zeros (l := l) (n := 0) HZ.out
    rw [← h1]; rfl
   rw [hv]
   have h0 : sg ng 0 = 0 := by unfold sg; cases ng <;> rfl
   rw [h0]
   exact ⟨IntV.zero _, Fr.none _⟩
  | succ m =>
   obtain ⟨d, hdm⟩ : ∃ d, l[m]? = some d := ⟨_, List.getElem?_eq_getElem (by omega)⟩
   obtain ⟨b, o, rfl, hb, hcell⟩ := HR.out (by simp; omega)
   have hld : w.cell? ⟨b, o + m, none⟩ = some (.int .i64 d) := hcell m _ (il_at l hdm)
   have HM := Lib.hid hdm; clear hdm hcell
   by_cases h0 : d = 0
   ·subst h0
    have hmx : ¬ ((m : Int) < 0) := by omega
    have hmc : decide ((0 : Int) < (m : Int) + 1) = true := decide_eq_true (by omega)
    go_wp2
    go_round
    case rel =>
     refine ⟨m, by omega, rfl, fun j h1 h2 => ?_⟩
     by_cases hj : j = m
     ·rw [hj]; exact HM.out
     ·exact HZ.out j (by omega) h2
    case measure => simp [intOf]
   ·have hne : (d == 0) = false := by simpa using h0
    have hmx : ¬ ((m : Int) < 0) := by omega
    have hmc : decide ((0 : Int) < (m : Int) + 1) = true := decide_eq_true (by omega)
    go_wp2
    refine bodyPost_ret (v := .agg #[.bool ng, .slice (some ⟨b, o, none⟩) (m + 1) c]) (by simp [results, Tryz.results124, go_sem]) rfl ⟨_, _, rfl, ?_, (Below.refl _ _).alloc (Nat.le_refl _) _⟩
    have hcan : I.Can (l.take (m + 1)) := I.can_take HD.out hk (.inr ⟨d, HM.out, h0⟩)
    have hval : I.val (l.take (m + 1)) = I.val l := I.val_take_zeros HZ.out
    have hpos : 0 < I.val l := by
     have h1 := hcan.pos (List.ne_nil_of_length_pos (by rw [List.length_take]; omega))
     have h2 := I.pw_pos ((l.take (m + 1)).length - 1)
     omega
    have hsg := sg_neg (ng := ng) hpos
    refine ⟨?_, hF.same⟩
    refine ⟨l.take (m + 1), by rw [hsg.1], Sl.alloc (w := w) ⟨_, _, _, rfl, by simp; omega, by omega, by unfold maxLen; omega, ?_, fun _ => ?_⟩ _, hcan, by rw [hval, hsg.2]⟩
    ·have h1 := HR.out.take (m + 1)
     rw [il_take] at h1
     exact h1
    ·obtain ⟨b', o', cs, fr, h1, h2⟩ := HTY.out (by omega)
     exact ⟨b', o', cs, fr, h1, h2⟩
theorem normal_any (ng : Bool) (v : Value) (l : List Int) (w : World) (hs : Sl w v l) (hd : I.Dig l) :
  Calls Tryz.prog 124 #[.bool ng, v] w (RI (sg ng (I.val l)) w) :=
 (normal_f 0 ng v l w hs hd (fun _ _ _ _ => Nat.zero_le _)).mono fun _ _ ⟨a, b, h1, h2, h3⟩ => ⟨a, b, h1, h2.1, h3⟩
theorem digit_any (va : Value) (l : List Int) (k : Nat) (kv : Int) (w : World) (ha : Sl w va l) (hk : kv = (k : Int)) (hk2 : k ≤ 2000000000000) :
  Calls Tryz.prog 139 #[va, .int .i64 kv] w fun e w' => e = .returned (.int .i64 (I.dg l k)) ∧ w = w' := by
 obtain ⟨A, n, c, rfl, rfl, hc, hm, hr, _⟩ := ha
 subst hk
 unfold maxLen at hm
 have HR := Lib.hid hr
 clear hr
 by_cases h : k < l.length
 ·obtain ⟨b, o, rfl, hb, hcell⟩ := HR.out (by simp; omega)
  obtain ⟨d, hd⟩ : ∃ d, l[k]? = some d := ⟨_, List.getElem?_eq_getElem h⟩
  have f1 : w.cell? ⟨b, o + k, none⟩ = some (.int .i64 d) := hcell k _ (il_at l hd)
  have h1 : (k : Int) < (l.length : Int) := by omega
  have h2 := I.dg_some hd
  have H2 := Lib.hid h2
  clear hcell hd h2
  go_enter Tryz.func139, Tryz.ntmps139
  go_wp2
  go_ret
  rw [H2.out]
  exact ⟨rfl, rfl⟩
 ·have h1 : decide (k < l.length) = false := decide_eq_false (by omega)
  have h2 := I.dg_none (b := l) (k := k) (by omega)
  have H2 := Lib.hid h2
  clear h2
  go_enter Tryz.func139, Tryz.ntmps139
  go_wp2
  go_ret
  rw [H2.out]
  exact ⟨rfl, rfl⟩
theorem tiny_val {l : List Int} (h : l.length ≤ 2) : I.dg l 1 * 1000000000 + I.dg l 0 = I.val l := by
 match l, h with
 | [], _ => rfl
 | [d], _ => simp [I.dg, I.val]
 | [d, e], _ => simp [I.dg, I.val]; omega
set_option maxRecDepth 100000 in
theorem tiny_any (va : Value) (l : List Int) (w : World) (ha : Sl w va l) (hd : I.Dig l) (hl : l.length ≤ 2) :
  Calls Tryz.prog 130 #[va] w fun e w' => e = .returned (.int .i64 (I.val l)) ∧ w = w' := by
 rw [← tiny_val hl]
 have h0 := I.dg_bd hd 0
 have h1 := I.dg_bd hd 1
 have HA := Lib.hid ha
 have d1 := digit_any va l 1 1 w HA.out (by simp) (by omega)
 have d0 := digit_any va l 0 0 w HA.out (by simp) (by omega)
 obtain ⟨x1, hx1⟩ : ∃ x, x = I.dg l 1 := ⟨_, rfl⟩
 obtain ⟨x0, hx0⟩ : ∃ x, x = I.dg l 0 := ⟨_, rfl⟩
 rw [← hx1] at d1 h1 ⊢
 rw [← hx0] at d0 h0 ⊢
 clear hd hl ha hx1 hx0 HA
 go_enter Tryz.func130, Tryz.ntmps130
 go_wp2_with (first | (go_at_call 139; (with_reducible refine d1.mono ?_); rintro e w' ⟨rfl, rfl⟩) | (go_at_call 139; (with_reducible refine d0.mono ?_); rintro e w' ⟨rfl, rfl⟩))
 go_ret
 exact ⟨rfl, rfl⟩
set_option maxRecDepth 100000 in
theorem compared_any (va vb : Value) (a b : List Int) (w : World) (ha : Sl w va a) (hb : Sl w vb b) (ca : I.Can a) (cb : I.Can b) :
  Calls Tryz.prog 132 #[va, vb] w (Qt (.int .i64 (cmpZ (I.val a) (I.val b))) w) := by
 obtain ⟨A, la, ca', rfl, rfl, hca, hma, hra, _⟩ := ha
 obtain ⟨B, lb, cb', rfl, rfl, hcb, hmb, hrb, _⟩ := hb
 have HCA := Lib.hid ca; have HCB := Lib.hid cb; have HRA := Lib.hid hra; have HRB := Lib.hid hrb
 clear ca cb hra hrb
 unfold maxLen at hma hmb
 by_cases hlen : a.length = b.length
 ·have hl0 : decide (a.length < b.length) = false := decide_eq_false (by omega)
  have hl1 : decide (b.length < a.length) = false := decide_eq_false (by omega)
  have HLEN := Lib.hid hlen
  obtain ⟨N, hN⟩ : ∃ N, N = cmpZ (I.val a) (I.val b) := ⟨_, rfl⟩
  rw [← hN]
  have HN := Lib.hid hN
  clear hlen hN
  go_enter Tryz.func132, Tryz.ntmps132
  go_wp2
  go_loopw [5] (fun ix wr => ∃ k : Nat, k ≤ a.length ∧ ix = .int .i64 ((k : Int) - 1) ∧ Hid (a.drop k = b.drop k) ∧ Hid (∃ n, wr = w.drewN n)) (fun ix _ => (intOf ix + 1).toNat)
  case atStart => exact ⟨a.length, by omega, rfl, Lib.hid (by rw [List.drop_of_length_le (Nat.le_refl _), List.drop_of_length_le (by have := HLEN.out; omega)]), Lib.hid ⟨0, rfl⟩⟩
  case round =>
   obtain ⟨k, hk, rfl, HV, HW⟩ := hrel
   obtain ⟨nq, rfl⟩ := HW.out
   clear HW
   cases k with
   | zero =>
    rw [show ((0 : Nat) : Int) - 1 = -1 from rfl]
    go_wp2
    go_ret
    refine ⟨?_, nq, rfl⟩
    have := HV.out
    rw [List.drop_zero, List.drop_zero] at this
    rw [HN.out, cmpZ_eq (by rw [this])]
    rfl
   | succ m =>
    have hmm : ((m + 1 : Nat) : Int) - 1 = (m : Int) := by omega
    rw [hmm]
    obtain ⟨x, hx⟩ : ∃ x, a[m]? = some x := ⟨_, List.getElem?_eq_getElem (by omega)⟩
    obtain ⟨y, hy⟩ : ∃ y, b[m]? = some y := ⟨_, List.getElem?_eq_getElem (by have := HLEN.out; omega)⟩
    obtain ⟨ba, oa, rfl, hba, hcA⟩ := HRA.out (by simp; omega)
    obtain ⟨bb, ob, rfl, hbb, hcB⟩ := HRB.out (by simp; have := HLEN.out; omega)
    have f1 : w.cell? ⟨ba, oa + m, none⟩ = some (.int .i64 x) := hcA m _ (il_at a hx)
    have f2 : w.cell? ⟨bb, ob + m, none⟩ = some (.int .i64 y) := hcB m _ (il_at b hy)
    have hmb2 : (m : Int) < (b.length : Int) := by have := HLEN.out; omega
    have hma2 : (m : Int) < (a.length : Int) := by omega
    have hm0 : (0 : Int) ≤ (m : Int) := by omega
    have HX := Lib.hid hx; have HY := Lib.hid hy
    clear hcA hcB hmm hx hy
    by_cases hxy : x < y
    ·have hlt : decide (x < y) = true := decide_eq_true hxy
     have hfin := cmp_at HCA.out.1 HCB.out.1 HX.out HY.out HV.out (by omega)
     rw [← HN.out, cmpZ_lt hxy] at hfin
     have HFIN := Lib.hid hfin
     clear hxy hfin
     go_wp2_with fail
     go_quiet (fail)
     go_wp2
     go_ret
     rw [← HFIN.out]
     exact ⟨rfl, _, by rw [World.drewN_drewN]⟩
    ·have hlt : decide (x < y) = false := decide_eq_false hxy
     by_cases hyx : y < x
     ·have hgt : decide (y < x) = true := decide_eq_true hyx
      have hfin := cmp_at HCA.out.1 HCB.out.1 HX.out HY.out HV.out (by omega)
      rw [← HN.out, cmpZ_gt hyx] at hfin
      have HFIN := Lib.hid hfin
      clear hxy hyx hfin
      go_wp2_with fail
      go_quiet (fail)
      go_wp2_with fail
      go_quiet (fail)
      go_wp2
      go_ret
      rw [← HFIN.out]
      exact ⟨rfl, _, by rw [World.drewN_drewN, World.drewN_drewN]⟩
     ·have hgt : decide (y < x) = false := decide_eq_false hyx
      have HXY := Lib.hid (show x = y by omega)
      clear hxy hyx
      go_wp2_with fail
      go_quiet (fail)
      go_wp2_with fail
      go_quiet (fail)
      go_wp2
      go_roundw
      case rel =>
       refine ⟨m, by omega, rfl, ?_, ⟨_, rfl⟩⟩
       show List.drop m a = List.drop m b
       rw [I.drop_cons HX.out, I.drop_cons HY.out, HXY.out, show List.drop (m + 1) a = List.drop (m + 1) b from HV.out]
      case measure => simp [intOf]
 ·have hfin := cmp_len HCA.out HCB.out hlen
  by_cases hab : a.length < b.length
  ·have hl0 : decide (a.length < b.length) = true := decide_eq_true (by omega)
   rw [cmpZ_lt (by omega)] at hfin
   have HFIN := Lib.hid hfin
   clear hlen hfin hab
   go_enter Tryz.func132, Tryz.ntmps132
   go_wp2
   go_ret
   rw [← HFIN.out]
   exact ⟨rfl, 0, rfl⟩
  ·have hl0 : decide (a.length < b.length) = false := decide_eq_false (by omega)
   have hl1 : decide (b.length < a.length) = true := decide_eq_true (by omega)
   rw [cmpZ_gt (by omega)] at hfin
   have HFIN := Lib.hid hfin
   clear hlen hfin hab
   go_enter Tryz.func132, Tryz.ntmps132
   go_wp2
   go_ret
   rw [← HFIN.out]
   exact ⟨rfl, 0, rfl⟩
theorem compared_b (va vb : Value) (a b : List Int) (w : World) (ha : Sl w va a) (hb : Sl w vb b) (ca : I.Can a) (cb : I.Can b) :
  Calls Tryz.prog 132 #[va, vb] w fun e w' => e = .returned (.int .i64 (cmpZ (I.val a) (I.val b))) ∧ Below w.heap.size w w' :=
 (compared_any va vb a b w ha hb ca cb).mono fun _ _ ⟨h1, n, h2⟩ => ⟨h1, by rw [h2]; exact bdN (Below.refl _ _) _⟩
end Go.Proofs.YtcfejkpadcccbaaGreat
