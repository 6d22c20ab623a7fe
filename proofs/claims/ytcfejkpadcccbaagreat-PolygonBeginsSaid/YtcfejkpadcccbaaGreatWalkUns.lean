/-
 THE WALKS of package integer: unsigned, Of.
-/
import Derived.Test.YtcfejkpadcccbaaGreatMemR
import Derived.Test.YtcfejkpadcccbaaGreatRows
import Derived.WalkLawsBesides
import Derived.LoopTactic
import Derived.BigQuiet
import Derived.Deep.QuietTactic
namespace Go.Proofs.YtcfejkpadcccbaaGreat
set_option maxHeartbeats 1000000
open Go.RowKit
/-- How two numbers compare. -/
def cmpZ (x y : Int) : Int := if x < y then -1 else if y < x then 1 else 0
theorem cmpZ_lt {x y : Int} (h : x < y) : cmpZ x y = -1 := by unfold cmpZ; rw [if_pos h]
theorem cmpZ_gt {x y : Int} (h : y < x) : cmpZ x y = 1 := by unfold cmpZ; rw [if_neg (by omega), if_pos h]
theorem cmpZ_eq {x y : Int} (h : x = y) : cmpZ x y = 0 := by unfold cmpZ; rw [if_neg (by omega), if_neg (by omega)]
/-- What returns v and only draws. -/
def Qt (v : Value) (w : World) (e : Ending) (w' : World) : Prop := e = .returned v ∧ ∃ n, w' = w.drewN n
theorem isnan_any (x : Int) (w : World) : Calls Tryz.prog 140 #[.int .i64 x] w fun e w' => e = .returned (.bool false) ∧ w = w' := by
 go_enter Tryz.func140, Tryz.ntmps140
 go_wp2
 go_ret
 exact ⟨by simp, rfl⟩
theorem cmpcmp_any (x y : Int) (w : World) : Calls Tryz.prog 134 #[.int .i64 x, .int .i64 y] w fun e w' => e = .returned (.int .i64 (cmpZ x y)) ∧ w = w' := by
 by_cases h1 : x < y
 ·rw [cmpZ_lt h1]
  go_enter Tryz.func134, Tryz.ntmps134
  go_wp2_with (go_at_call 140; refine (isnan_any _ _).mono ?_; rintro e w' ⟨rfl, rfl⟩)
  go_ret
  exact ⟨rfl, rfl⟩
 ·by_cases h2 : y < x
  ·rw [cmpZ_gt h2]
   go_enter Tryz.func134, Tryz.ntmps134
   go_wp2_with (go_at_call 140; refine (isnan_any _ _).mono ?_; rintro e w' ⟨rfl, rfl⟩)
   go_ret
   exact ⟨rfl, rfl⟩
  ·rw [cmpZ_eq (by omega)]
   go_enter Tryz.func134, Tryz.ntmps134
   go_wp2_with (go_at_call 140; refine (isnan_any _ _).mono ?_; rintro e w' ⟨rfl, rfl⟩)
   go_ret
   exact ⟨rfl, rfl⟩
theorem cmp_len {a b : List Int} (ha : I.Can a) (hb : I.Can b) (h : a.length ≠ b.length) : cmpZ (a.length : Int) (b.length : Int) = cmpZ (I.val a) (I.val b) := by
 by_cases h1 : a.length < b.length
 ·have h2 : I.val a < I.val b := by
   by_cases h3 : I.val a < I.val b
   ·exact h3
   ·have := I.Can.len hb ha.1 (by omega); omega
  rw [cmpZ_lt (by omega), cmpZ_lt h2]
 ·have h2 : I.val b < I.val a := by
   by_cases h3 : I.val b < I.val a
   ·exact h3
   ·have := I.Can.len ha hb.1 (by omega); omega
  rw [cmpZ_gt (by omega), cmpZ_gt h2]
theorem cmp_at {a b : List Int} (da : I.Dig a) (db : I.Dig b) {k : Nat} {x y : Int} (hx : a[k]? = some x) (hy : b[k]? = some y) (h : a.drop (k + 1) = b.drop (k + 1)) (hne : x ≠ y) : cmpZ x y = cmpZ (I.val a) (I.val b) := by
 have ka := (List.getElem?_eq_some_iff.1 hx).1
 have kb := (List.getElem?_eq_some_iff.1 hy).1
 have e1 := I.val_split a (k := k) (by omega)
 have e2 := I.val_split b (k := k) (by omega)
 rw [I.val_drop_succ hx, h] at e1
 rw [I.val_drop_succ hy] at e2
 have b1 := I.val_lt (da.take k)
 have b2 := I.val_lt (db.take k)
 have c1 := I.val_nonneg (da.take k)
 have c2 := I.val_nonneg (db.take k)
 rw [List.length_take, Nat.min_eq_left (by omega)] at b1 b2
 have hp := I.pw_pos k
 generalize I.pw k = p at *
 generalize I.val (b.drop (k + 1)) = t at *
 by_cases h1 : x < y
 ·rw [cmpZ_lt h1, cmpZ_lt]
  have h2 : p * (x + 1) ≤ p * y := Int.mul_le_mul_of_nonneg_left (by omega) (by omega)
  grind
 ·rw [cmpZ_gt (by omega), cmpZ_gt]
  have h2 : p * (y + 1) ≤ p * x := Int.mul_le_mul_of_nonneg_left (by omega) (by omega)
  grind
set_option maxRecDepth 100000 in
theorem compare_any (va vb : Value) (a b : List Int) (w : World) (ha : Sl w va a) (hb : Sl w vb b) (ca : I.Can a) (cb : I.Can b) :
  Calls Tryz.prog 116 #[va, vb] w (Qt (.int .i64 (cmpZ (I.val a) (I.val b))) w) := by
 obtain ⟨A, la, ca', rfl, rfl, hca, hma, hra, _⟩ := ha
 obtain ⟨B, lb, cb', rfl, rfl, hcb, hmb, hrb, _⟩ := hb
 have HCA := Lib.hid ca; have HCB := Lib.hid cb; have HRA := Lib.hid hra; have HRB := Lib.hid hrb
 clear ca cb hra hrb
 unfold maxLen at hma hmb
 by_cases hlen : a.length = b.length
 ·have hl0 : ((a.length : Int) != (b.length : Int)) = false := by rw [hlen]; simp
  have HLEN := Lib.hid hlen
  obtain ⟨N, hN⟩ : ∃ N, N = cmpZ (I.val a) (I.val b) := ⟨_, rfl⟩
  rw [← hN]
  have HN := Lib.hid hN
  clear hlen hN
  go_enter Tryz.func116, Tryz.ntmps116
  go_wp2
  go_loopw [5] (fun ix wr => ∃ k : Nat, k ≤ a.length ∧ ix = .int .i64 ((k : Int) - 1) ∧ Hid (a.drop k = b.drop k) ∧ Hid (∃ n, wr = w.drewN n)) (fun ix _ => (intOf ix + 1).toNat)
  case atStart => exact ⟨a.length, by omega, rfl, Lib.hid (by rw [List.drop_of_length_le (Nat.le_refl _), List.drop_of_length_le (by have := HLEN.out; omega)]), Lib.hid ⟨0, rfl⟩⟩
  case round =>
   obtain ⟨k, hk, rfl, HV, HW⟩ := hrel
   obtain ⟨nq, rfl⟩ := HW.out
   clear HW
   cases k with
   | zero =>
    rw [show ((0 : Nat) : Int) - 1 = -1 from rfl]
    go_wp2
    go_ret
    refine ⟨?_, nq, rfl⟩
    have := HV.out
    rw [List.drop_zero, List.drop_zero] at this
    rw [HN.out, cmpZ_eq (by rw [this])]
    rfl
   | succ m =>
    have hmm : ((m + 1 : Nat) : Int) - 1 = (m : Int) := by omega
    rw [hmm]
    obtain ⟨x, hx⟩ : ∃ x, a[m]? = some x := ⟨_, List.getElem?_eq_getElem (by omega)⟩
    obtain ⟨y, hy⟩ : ∃ y, b[m]? = some y := ⟨_, List.getElem?_eq_getElem (by have := HLEN.out; omega)⟩
    obtain ⟨ba, oa, rfl, hba, hcA⟩ := HRA.out (by simp; omega)
    obtain ⟨bb, ob, rfl, hbb, hcB⟩ := HRB.out (by simp; have := HLEN.out; omega)
    have f1 : w.cell? ⟨ba, oa + m, none⟩ = some (.int .i64 x) := hcA m _ (il_at a hx)
    have f2 : w.cell? ⟨bb, ob + m, none⟩ = some (.int .i64 y) := hcB m _ (il_at b hy)
    have hmb2 : (m : Int) < (b.length : Int) := by have := HLEN.out; omega
    have hma2 : (m : Int) < (a.length : Int) := by omega
    have hm0 : (0 : Int) ≤ (m : Int) := by omega
    have HX := Lib.hid hx; have HY := Lib.hid hy
    clear hcA hcB hmm hx hy
    by_cases hxy : x = y
    ·have hne : (x != y) = false := by simp [hxy]
     have HXY := Lib.hid hxy
     clear hxy
     go_wp2_with fail
     go_quiet (fail)
     go_wp2
     go_roundw
     case rel =>
      refine ⟨m, by omega, rfl, ?_, ⟨_, rfl⟩⟩
      show List.drop m a = List.drop m b
      rw [I.drop_cons HX.out, I.drop_cons HY.out, HXY.out, show List.drop (m + 1) a = List.drop (m + 1) b from HV.out]
     case measure => simp [intOf]
    ·have hne : (x != y) = true := by simp [hxy]
     have hfin := cmp_at HCA.out.1 HCB.out.1 HX.out HY.out HV.out hxy
     rw [← HN.out] at hfin
     have HFIN := Lib.hid hfin
     clear hxy hfin
     go_wp2_with fail
     go_quiet (fail)
     go_wp2_with fail
     go_quiet ((go_at_call 134; exact quiet_more (fun W => cmpcmp_any _ _ W)))
     go_wp2
     go_ret
     rw [HFIN.out]
     exact ⟨rfl, _, by rw [World.drewN_drewN, World.drewN_drewN]⟩
 ·have hl0 : ((a.length : Int) != (b.length : Int)) = true := by simp; omega
  have hfin := cmp_len HCA.out HCB.out hlen
  have HFIN := Lib.hid hfin
  clear hlen hfin
  go_enter Tryz.func116, Tryz.ntmps116
  go_wp2_with (go_at_call 134; refine (cmpcmp_any _ _ _).mono ?_; rintro e w' ⟨rfl, rfl⟩)
  go_ret
  rw [HFIN.out]
  exact ⟨rfl, 0, rfl⟩
theorem compare_b (va vb : Value) (a b : List Int) (w : World) (ha : Sl w va a) (hb : Sl w vb b) (ca : I.Can a) (cb : I.Can b) :
  Calls Tryz.prog 116 #[va, vb] w fun e w' => e = .returned (.int .i64 (cmpZ (I.val a) (I.val b))) ∧ Below w.heap.size w w' :=
 (compare_any va vb a b w ha hb ca cb).mono fun _ _ ⟨he, n, hw⟩ => ⟨he, by subst hw; exact bdN (Below.refl _ _) n⟩
end Go.Proofs.YtcfejkpadcccbaaGreat
namespace Go.Proofs.YtcfejkpadcccbaaGreat
set_option maxHeartbeats 1000000
open Go.RowKit
theorem sg_neg {ng : Bool} {v : Int} (hv : 0 < v) : decide (sg ng v < 0) = ng ∧ ((sg ng v).natAbs : Int) = v := by
 unfold sg
 cases ng <;> simp <;> omega
theorem of_any (ng : Bool) (v : Value) (l : List Int) (w : World) (hs : Sl w v l) (hd : I.Dig l) :
  Calls Tryz.prog 114 #[.bool ng, v] w (RI (sg ng (I.val l)) w) := by
 obtain ⟨A, len, c, rfl, rfl, hc, hm, hr, hty⟩ := hs
 have HD := Lib.hid hd; clear hd
 have HR := Lib.hid hr; have HTY := Lib.hid hty; clear hr hty
 unfold maxLen at hm
 go_enter Tryz.func114, Tryz.ntmps114
 go_wp2
 go_loop [5] (fun n => ∃ k : Nat, k ≤ l.length ∧ n = .int .i64 k ∧ Hid (∀ j, k ≤ j → j < l.length → l[j]? = some 0)) (fun n => (intOf n).toNat)
 case atStart => exact ⟨l.length, Nat.le_refl _, rfl, fun j h1 h2 => by omega⟩
 case round =>
  obtain ⟨k, hk, rfl, HZ⟩ := hrel
  cases k with
  | zero =>
   go_wp2
   refine bodyPost_ret (v := .agg #[.bool false, .slice none 0 0]) (by simp [results, Tryz.results114, go_sem]) rfl ⟨_, _, rfl, ?_, (Below.refl _ _).alloc (Nat.le_refl _) _⟩
   have hv : I.val l = 0 := by
    have h1 := I.val_take_zeros (l := l) (n := 0) HZ.out
    rw [← h1]; rfl
   rw [hv]
   have h0 : sg ng 0 = 0 := by unfold sg; cases ng <;> rfl
   rw [h0]
   exact IntV.zero _
  | succ m =>
   obtain ⟨d, hdm⟩ : ∃ d, l[m]? = some d := ⟨_, List.getElem?_eq_getElem (by omega)⟩
   obtain ⟨b, o, rfl, hb, hcell⟩ := HR.out (by simp; omega)
   have hld : w.cell? ⟨b, o + m, none⟩ = some (.int .i64 d) := hcell m _ (il_at l hdm)
   have HM := Lib.hid hdm; clear hdm hcell
   by_cases h0 : d = 0
   ·subst h0
    go_wp2
    go_round
    case rel =>
     refine ⟨m, by omega, rfl, fun j h1 h2 => ?_⟩
     by_cases hj : j = m
     ·rw [hj]; exact HM.out
     ·exact HZ.out j (by omega) h2
    case measure => simp [intOf]
   ·have hne : (d == 0) = false := by simpa using h0
    go_wp2
    refine bodyPost_ret (v := .agg #[.bool ng, .slice (some ⟨b, o, none⟩) (m + 1) (m + 1)]) (by simp [results, Tryz.results114, go_sem]) rfl ⟨_, _, rfl, ?_, (Below.refl _ _).alloc (Nat.le_refl _) _⟩
    have hcan : I.Can (l.take (m + 1)) := I.can_take HD.out hk (.inr ⟨d, HM.out, h0⟩)
    have hval : I.val (l.take (m + 1)) = I.val l := I.val_take_zeros HZ.out
    have hpos : 0 < I.val l := by
     have h1 := hcan.pos (List.ne_nil_of_length_pos (by rw [List.length_take]; omega))
     have h2 := I.pw_pos ((l.take (m + 1)).length - 1)
     omega
    have hsg := sg_neg (ng := ng) hpos
    refine ⟨l.take (m + 1), by rw [hsg.1], Sl.alloc (w := w) ⟨_, _, _, rfl, by simp; omega, Nat.le_refl _, by unfold maxLen; omega, ?_, fun _ => ?_⟩ _, hcan, by rw [hval, hsg.2]⟩
    ·have h1 := HR.out.take (m + 1)
     rw [il_take] at h1
     exact h1
    ·obtain ⟨b', o', cs, fr, h1, h2⟩ := HTY.out (by omega)
     exact ⟨b', o', cs, fr, h1, h2⟩
end Go.Proofs.YtcfejkpadcccbaaGreat
namespace Go.Proofs.YtcfejkpadcccbaaGreat
set_option maxHeartbeats 1000000
open Go.RowKit
attribute [local go_sem] run_store_one
set_option linter.unusedVariables false
theorem neg_lt (A : Option Addr) (l : List Int) (c m : Nat) (x : Int) (w : World) (hx : x < 0) (hs : Sl w (.slice A m c) l) (hc : I.Can l) (hv : I.val l = (x.natAbs : Int)) :
  Calls Tryz.prog 86 #[.agg #[.bool true, .slice A m c]] w (RI (-x) w) := by
 have HS := Lib.hid hs; have HC := Lib.hid hc; have HV := Lib.hid hv; have HX := Lib.hid hx
 clear hs hc hv hx
 go_enter Tryz.func86, Tryz.ntmps86
 go_wp2
 refine bodyPost_ret (v := .agg #[.bool false, .slice A m c]) (by simp [results, Tryz.results86, go_sem]) rfl ⟨_, _, rfl, ?_, ((Below.refl _ _).alloc (Nat.le_refl _) _).alloc (by simp) _⟩
 exact ⟨l, by have := HX.out; congr 1; simp; omega, (HS.out.alloc _).alloc _, HC.out, by have := HV.out; omega⟩
theorem neg_eq (A : Option Addr) (l : List Int) (c : Nat) (x : Int) (w : World) (hx : x = 0) (hs : Sl w (.slice A 0 c) l) (hc : I.Can l) (hv : I.val l = (x.natAbs : Int)) :
  Calls Tryz.prog 86 #[.agg #[.bool false, .slice A 0 c]] w (RI (-x) w) := by
 have HS := Lib.hid hs; have HC := Lib.hid hc; have HV := Lib.hid hv; have HX := Lib.hid hx
 clear hs hc hv hx
 go_enter Tryz.func86, Tryz.ntmps86
 go_wp2
 refine bodyPost_ret (v := .agg #[.bool false, .slice A 0 c]) (by simp [results, Tryz.results86, go_sem]) rfl ⟨_, _, rfl, ?_, ((Below.refl _ _).alloc (Nat.le_refl _) _).alloc (by simp) _⟩
 exact ⟨l, by have := HX.out; congr 1; simp; omega, (HS.out.alloc _).alloc _, HC.out, by have := HV.out; omega⟩
theorem neg_gt (A : Option Addr) (l : List Int) (c m : Nat) (x : Int) (w : World) (hx : 0 < x) (hs : Sl w (.slice A m c) l) (hc : I.Can l) (hv : I.val l = (x.natAbs : Int)) (hm : 0 < (m : Int)) (hm2 : 0 < m) :
  Calls Tryz.prog 86 #[.agg #[.bool false, .slice A m c]] w (RI (-x) w) := by
 have HS := Lib.hid hs; have HC := Lib.hid hc; have HV := Lib.hid hv; have HX := Lib.hid hx
 clear hs hc hv hx
 go_enter Tryz.func86, Tryz.ntmps86
 go_wp2
 refine bodyPost_ret (v := .agg #[.bool true, .slice A m c]) (by simp [results, Tryz.results86, go_sem]) rfl ⟨_, _, rfl, ?_, ((Below.refl _ _).alloc (Nat.le_refl _) _).alloc (by simp) _⟩
 exact ⟨l, by have := HX.out; congr 1; simp; omega, (HS.out.alloc _).alloc _, HC.out, by have := HV.out; omega⟩
theorem ineg_any (a0 a1 : Value) (x : Int) (w : World) (hx : IntV w a0 a1 x) : Calls Tryz.prog 86 #[.agg #[a0, a1]] w (RI (-x) w) := by
 obtain ⟨l, rfl, sl, can, hv⟩ := hx
 have sl' := sl
 obtain ⟨A, n, c, rfl, rfl, _⟩ := sl'
 have hpos : x ≠ 0 → 0 < (l.length : Int) := fun h => by
  rcases Nat.eq_zero_or_pos l.length with h0 | h0
  ·have := List.eq_nil_of_length_eq_zero h0
   subst this
   simp [I.val] at hv
   omega
  ·omega
 by_cases h1 : x < 0
 ·rw [decide_eq_true h1]
  exact neg_lt A l c _ x w h1 sl can hv
 ·rw [decide_eq_false h1]
  by_cases h2 : x = 0
  ·have := can.zero (by rw [hv, h2]; rfl)
   subst this
   exact neg_eq A [] c x w h2 sl can hv
  ·exact neg_gt A l c _ x w (by omega) sl can hv (hpos h2) (by have := hpos h2; omega)
/-- The sign of a number. -/
def sgnZ (x : Int) : Int := cmpZ x 0
theorem isign_any (a0 a1 : Value) (x : Int) (w : World) (hx : IntV w a0 a1 x) : Calls Tryz.prog 85 #[.agg #[a0, a1]] w fun e w' => e = .returned (.int .i64 (sgnZ x)) ∧ Below w.heap.size w w' := by
 obtain ⟨l, rfl, sl, can, hv⟩ := hx
 obtain ⟨A, n, c, rfl, rfl, _⟩ := sl
 by_cases h1 : x < 0
 ·rw [decide_eq_true h1, show sgnZ x = -1 from cmpZ_lt h1]
  clear hv can
  go_enter Tryz.func85, Tryz.ntmps85
  go_wp2
  go_ret
  exact ⟨rfl, (Below.refl _ _).alloc (Nat.le_refl _) _⟩
 ·rw [decide_eq_false h1]
  by_cases h2 : x = 0
  ·have := can.zero (by rw [hv, h2]; rfl)
   subst this
   rw [show sgnZ x = 0 from cmpZ_eq h2]
   clear hv can h2
   go_enter Tryz.func85, Tryz.ntmps85
   go_wp2
   go_ret
   exact ⟨rfl, (Below.refl _ _).alloc (Nat.le_refl _) _⟩
  ·have hpos : 0 < (l.length : Int) := by
    rcases Nat.eq_zero_or_pos l.length with h0 | h0
    ·have := List.eq_nil_of_length_eq_zero h0
     subst this
     simp [I.val] at hv
     omega
    ·omega
   have hne : ((l.length : Int) == 0) = false := beq_eq_false_iff_ne.2 (by omega)
   have h3 : 0 < x := by omega
   rw [show sgnZ x = 1 from cmpZ_gt h3]
   clear hv can
   go_enter Tryz.func85, Tryz.ntmps85
   go_wp2
   go_ret
   exact ⟨rfl, (Below.refl _ _).alloc (Nat.le_refl _) _⟩
/-- What is told of at most two digits: their value. -/
theorem two_any (v : Value) (l : List Int) (w : World) (hs : Sl w v l) (hd : I.Dig l) :
  Calls Tryz.prog 127 #[v] w fun e w' => e = .returned (.tuple #[.int .i64 (if l.length ≤ 2 then I.val l else 0), .bool (decide (l.length ≤ 2))]) ∧ Below w.heap.size w w' := by
 obtain ⟨A, n, c, rfl, rfl, hc, hm, hr, _⟩ := hs
 unfold maxLen at hm
 have HR := Lib.hid hr; clear hr
 match l, hd, hc, HR with
 | [], hd, hc, HR =>
  clear hd
  go_enter Tryz.func127, Tryz.ntmps127
  go_wp2
  go_ret2
  exact ⟨rfl, Below.refl _ _⟩
 | [d], hd, hc, HR =>
  obtain ⟨b, o, rfl, hb, hcell⟩ := HR.out (by simp)
  have f0 : w.cell? ⟨b, o, none⟩ = some (.int .i64 d) := hcell 0 _ rfl
  have hv : I.val [d] = d := by simp [I.val]
  have HV := Lib.hid hv
  clear hcell hd hv
  go_enter Tryz.func127, Tryz.ntmps127
  go_wp2
  go_ret2
  refine ⟨?_, Below.refl _ _⟩
  rw [HV.out]
  rfl
 | [d, e], hd, hc, HR =>
  obtain ⟨b, o, rfl, hb, hcell⟩ := HR.out (by simp)
  have f0 : w.cell? ⟨b, o, none⟩ = some (.int .i64 d) := hcell 0 _ rfl
  have f1 : w.cell? ⟨b, o + 1, none⟩ = some (.int .i64 e) := hcell 1 _ rfl
  obtain ⟨hd0, hd1⟩ := hd.head
  obtain ⟨he0, he1⟩ := hd.tail.head
  have hv : I.val [d, e] = e * 1000000000 + d := by simp [I.val]; omega
  have HV := Lib.hid hv
  clear hcell hd hv
  go_enter Tryz.func127, Tryz.ntmps127
  go_wp2
  go_quiet (fail)
  go_wp2
  go_ret2
  refine ⟨?_, bdN (Below.refl _ _) _⟩
  rw [HV.out]
  rfl
 | d :: e :: f :: r, hd, hc, HR =>
  have h0 : (((d :: e :: f :: r).length : Int) == 0) = false := beq_eq_false_iff_ne.2 (by simp; omega)
  have h1 : (((d :: e :: f :: r).length : Int) == 1) = false := by simp; omega
  have h2 : (((d :: e :: f :: r).length : Int) == 2) = false := by simp; omega
  have h3 : decide ((d :: e :: f :: r).length ≤ 2) = false := by simp
  have h4 : ¬ (d :: e :: f :: r).length ≤ 2 := by simp
  rw [h3, if_neg h4]
  obtain ⟨n, hn⟩ : ∃ n, n = (d :: e :: f :: r).length := ⟨_, rfl⟩
  rw [← hn] at h0 h1 h2 hc ⊢
  clear hn h3 h4 hd HR
  go_enter Tryz.func127, Tryz.ntmps127
  go_wp2
  go_ret2
  exact ⟨rfl, Below.refl _ _⟩
end Go.Proofs.YtcfejkpadcccbaaGreat
namespace Go.Proofs.YtcfejkpadcccbaaGreat
set_option maxHeartbeats 1000000
open Go.RowKit
set_option linter.unusedVariables false
attribute [local go_sem] run_store_one
theorem uns_end (ng : Bool) (u : Int) (w : World) (l : List Int) (hc : I.Can l) (hv : I.val l = u) (hu : 0 < u) (hl : l.length ≤ 3) :
  IntV ((w.alloc (.cells #[.bool ng, .slice (some ⟨w.heap.size + 1, 0, none⟩) l.length l.length] 31)).alloc (.cells (il l).toArray 3)) (.bool ng) (.slice (some ⟨w.heap.size + 1, 0, none⟩) l.length l.length) (sg ng u) := by
 have h := sg_neg (ng := ng) hu
 have hb : Bk ((w.alloc (.cells #[.bool ng, .slice (some ⟨w.heap.size + 1, 0, none⟩) l.length l.length] 31)).alloc (.cells (il l).toArray 3)) (w.heap.size + 1) l := Bx.at_ (by simp)
 exact ⟨l, by rw [h.1], hb.sl rfl (Nat.le_refl _) (by unfold maxLen; omega), hc, by rw [hv, h.2]⟩
theorem uns_below (w : World) (o o' : Obj) : Below w.heap.size w ((w.alloc o).alloc o') := ((Below.refl _ _).alloc (Nat.le_refl _) _).alloc (by simp) _
theorem uns_one (ng : Bool) (u : Int) (w : World) (h0 : 0 < u) (h1 : u < 1000000000) :
  Calls Tryz.prog 120 #[.bool ng, .int .u64 u] w (RI (sg ng u) w) := by
 have hne : (u == 0) = false := beq_eq_false_iff_ne.2 (by omega)
 go_enter Tryz.func120, Tryz.ntmps120
 go_wp2
 refine bodyPost_ret (v := .agg #[.bool ng, .slice (some ⟨w.heap.size + 1, 0, none⟩) 1 1]) (by simp [results, Tryz.results120, go_sem]) rfl ⟨_, _, rfl, ?_, uns_below _ _ _⟩
 exact uns_end ng u w [u] (I.Can.one h0 h1) (by simp [I.val]) h0 (by simp)
theorem uns_two (ng : Bool) (u : Int) (w : World) (h0 : 1000000000 ≤ u) (h1 : u < 1000000000000000000) :
  Calls Tryz.prog 120 #[.bool ng, .int .u64 u] w (RI (sg ng u) w) := by
 have hne : (u == 0) = false := beq_eq_false_iff_ne.2 (by omega)
 have hq : 0 ≤ u / 1000000000 ∧ u / 1000000000 < 1000000000 := by omega
 have hr : 0 ≤ u % 1000000000 ∧ u % 1000000000 < 1000000000 := by omega
 obtain ⟨hq0, hq1⟩ := hq
 obtain ⟨hr0, hr1⟩ := hr
 go_enter Tryz.func120, Tryz.ntmps120
 go_wp2
 refine bodyPost_ret (v := .agg #[.bool ng, .slice (some ⟨w.heap.size + 1, 0, none⟩) 2 2]) (by simp [results, Tryz.results120, go_sem]) rfl ⟨_, _, rfl, ?_, uns_below _ _ _⟩
 refine uns_end ng u w [u % 1000000000, u / 1000000000] ⟨I.Dig.cons hr0 hr1 (I.Dig.cons hq0 hq1 I.Dig.nil), fun d hd => ?_⟩ (by simp [I.val]; omega) (by omega) (by simp)
 simp at hd
 omega
theorem uns_three (ng : Bool) (u : Int) (w : World) (h0 : 1000000000000000000 ≤ u) (h1 : u < 18446744073709551616) :
  Calls Tryz.prog 120 #[.bool ng, .int .u64 u] w (RI (sg ng u) w) := by
 have hne : (u == 0) = false := beq_eq_false_iff_ne.2 (by omega)
 have hq : 0 ≤ u / 1000000000 % 1000000000 ∧ u / 1000000000 % 1000000000 < 1000000000 := by omega
 have hr : 0 ≤ u % 1000000000 ∧ u % 1000000000 < 1000000000 := by omega
 have hs : 0 ≤ u / 1000000000 / 1000000000 ∧ u / 1000000000 / 1000000000 < 1000000000 := by omega
 obtain ⟨hq0, hq1⟩ := hq
 obtain ⟨hr0, hr1⟩ := hr
 obtain ⟨hs0, hs1⟩ := hs
 go_enter Tryz.func120, Tryz.ntmps120
 go_wp2
 refine bodyPost_ret (v := .agg #[.bool ng, .slice (some ⟨w.heap.size + 1, 0, none⟩) 3 3]) (by simp [results, Tryz.results120, go_sem]) rfl ⟨_, _, rfl, ?_, uns_below _ _ _⟩
 refine uns_end ng u w [u % 1000000000, u / 1000000000 % 1000000000, u / 1000000000 / 1000000000] ⟨I.Dig.cons hr0 hr1 (I.Dig.cons hq0 hq1 (I.Dig.cons hs0 hs1 I.Dig.nil)), fun d hd => ?_⟩ (by simp [I.val]; omega) (by omega) (by simp)
 simp at hd
 omega
theorem uns_zero (ng : Bool) (w : World) : Calls Tryz.prog 120 #[.bool ng, .int .u64 0] w (RI (sg ng 0) w) := by
 go_enter Tryz.func120, Tryz.ntmps120
 go_wp2
 refine bodyPost_ret (v := .agg #[.bool false, .slice none 0 0]) (by simp [results, Tryz.results120, go_sem]) rfl ⟨_, _, rfl, ?_, (Below.refl _ _).alloc (Nat.le_refl _) _⟩
 have h0 : sg ng 0 = 0 := by unfold sg; cases ng <;> rfl
 rw [h0]
 exact IntV.zero _
theorem unsigned_any (ng : Bool) (u : Int) (w : World) (h0 : 0 ≤ u) (h1 : u < 18446744073709551616) :
  Calls Tryz.prog 120 #[.bool ng, .int .u64 u] w (RI (sg ng u) w) := by
 by_cases h2 : u = 0
 ·subst h2
  exact uns_zero ng w
 ·by_cases h3 : u < 1000000000
  ·exact uns_one ng u w (by omega) h3
  ·by_cases h4 : u < 1000000000000000000
   ·exact uns_two ng u w (by omega) h4
   ·exact uns_three ng u w (by omega) h1
theorem iof_neg (n : Int) (w : World) (h0 : -9223372036854775808 ≤ n) (h1 : n < 0) : Calls Tryz.prog 88 #[.int .i64 n] w (RI n w) := by
 have e1 : IntKind.u64.wrap n = n + 18446744073709551616 := by rw [IntKind.wrap_u64]; omega
 have e2 : IntKind.u64.wrap (-(n + 18446744073709551616)) = -n := by rw [IntKind.wrap_u64]; omega
 have hcon := fun W : World => unsigned_any true (-n) W (by omega) (by omega)
 have hs : sg true (-n) = n := by unfold sg; simp
 rw [hs] at hcon
 have HCON := Lib.hid hcon
 clear hcon hs
 go_enter Tryz.func88, Tryz.ntmps88
 go_wp2_with fail
 generalize hW : w.alloc _ = W1
 obtain ⟨k2, hB⟩ := box1 hW
 have k5 := Lib.hid hB; clear hW hB
 obtain ⟨ka, kb, kc, -⟩ := k2.f2
 have k3 := HCON.out W1
 (with_reducible refine k3.mono ?_)
 clear k3
 rintro e w7 ⟨r0, r1, rfl, k0, k1⟩
 have k4 := k2.below k1
 obtain ⟨k6, k7, kd, -⟩ := k4.f2
 have k8 := Lib.hid (Blw k5.out k1)
 have k9 := Lib.hid k0
 obtain ⟨o_r0, o_r1⟩ := k0.ones
 clear k0 k1
 go_wp2
 have hkp := (Kp.refl w7).t2 k4 r0 r1
 refine bodyPost_ret (v := .agg #[r0, r1]) (by simp [results, Tryz.results88, go_sem, k6, k7]) rfl ⟨_, _, rfl, ?_, bel2 (k8.out) (by first | simp | omega)⟩
 exact k9.out.kp hkp
theorem iof_pos (n : Int) (w : World) (h0 : 0 ≤ n) (h1 : n ≤ 9223372036854775807) : Calls Tryz.prog 88 #[.int .i64 n] w (RI n w) := by
 have hd : decide (n < 0) = false := decide_eq_false (by omega)
 have e1 : IntKind.u64.wrap n = n := by rw [IntKind.wrap_u64]; omega
 have hcon := fun W : World => unsigned_any false n W (by omega) (by omega)
 have hs : sg false n = n := by unfold sg; simp
 rw [hs] at hcon
 have HCON := Lib.hid hcon
 clear hcon hs
 go_enter Tryz.func88, Tryz.ntmps88
 go_wp2_with fail
 generalize hW : w.alloc _ = W1
 obtain ⟨k2, hB⟩ := box1 hW
 have k5 := Lib.hid hB; clear hW hB
 obtain ⟨ka, kb, kc, -⟩ := k2.f2
 have k3 := HCON.out W1
 (with_reducible refine k3.mono ?_)
 clear k3
 rintro e w7 ⟨r0, r1, rfl, k0, k1⟩
 have k4 := k2.below k1
 obtain ⟨k6, k7, kd, -⟩ := k4.f2
 have k8 := Lib.hid (Blw k5.out k1)
 have k9 := Lib.hid k0
 obtain ⟨o_r0, o_r1⟩ := k0.ones
 clear k0 k1
 go_wp2
 have hkp := (Kp.refl w7).t2 k4 r0 r1
 refine bodyPost_ret (v := .agg #[r0, r1]) (by simp [results, Tryz.results88, go_sem, k6, k7]) rfl ⟨_, _, rfl, ?_, bel2 (k8.out) (by first | simp | omega)⟩
 exact k9.out.kp hkp
theorem iof_any (n : Int) (w : World) (h : W.Is64 n) : Calls Tryz.prog 88 #[.int .i64 n] w (RI n w) := by
 unfold W.Is64 at h
 by_cases h1 : n < 0
 ·exact iof_neg n w (by omega) h1
 ·exact iof_pos n w (by omega) (by omega)
end Go.Proofs.YtcfejkpadcccbaaGreat
