/-
 THE WALKS of package integer: Neg, Sign, two, unsigned, Of.
-/
import Derived.Test.YtonkbckgbfcnkaaWalkCmp
namespace Go.Proofs.Ytonkbckgbfcnkaa
set_option maxHeartbeats 1000000
open Go.RowKit
attribute [local go_sem] run_store_one
set_option linter.unusedVariables false
theorem neg_lt (A : Option Addr) (l : List Int) (c m : Nat) (x : Int) (w : World) (hx : x < 0) (hs : Sl w (.slice A m c) l) (hc : I.Can l) (hv : I.val l = (x.natAbs : Int)) :
  Calls Try.prog 76 #[.agg #[.bool true, .slice A m c]] w (RI (-x) w) := by
 have HS := Lib.hid hs; have HC := Lib.hid hc; have HV := Lib.hid hv; have HX := Lib.hid hx
 clear hs hc hv hx
 go_enter Try.func76, Try.ntmps76
 go_wp2
 refine bodyPost_ret (v := .agg #[.bool false, .slice A m c]) (by simp [results, Try.results76, go_sem]) rfl ⟨_, _, rfl, ?_, ((Below.refl _ _).alloc (Nat.le_refl _) _).alloc (by simp) _⟩
 exact ⟨l, by have := HX.out; congr 1; simp; omega, (HS.out.alloc _).alloc _, HC.out, by have := HV.out; omega⟩
theorem neg_eq (A : Option Addr) (l : List Int) (c : Nat) (x : Int) (w : World) (hx : x = 0) (hs : Sl w (.slice A 0 c) l) (hc : I.Can l) (hv : I.val l = (x.natAbs : Int)) :
  Calls Try.prog 76 #[.agg #[.bool false, .slice A 0 c]] w (RI (-x) w) := by
 have HS := Lib.hid hs; have HC := Lib.hid hc; have HV := Lib.hid hv; have HX := Lib.hid hx
 clear hs hc hv hx
 go_enter Try.func76, Try.ntmps76
 go_wp2
 refine bodyPost_ret (v := .agg #[.bool false, .slice A 0 c]) (by simp [results, Try.results76, go_sem]) rfl ⟨_, _, rfl, ?_, ((Below.refl _ _).alloc (Nat.le_refl _) _).alloc (by simp) _⟩
 exact ⟨l, by have := HX.out; congr 1; simp; omega, (HS.out.alloc _).alloc _, HC.out, by have := HV.out; omega⟩
theorem neg_gt (A : Option Addr) (l : List Int) (c m : Nat) (x : Int) (w : World) (hx : 0 < x) (hs : Sl w (.slice A m c) l) (hc : I.Can l) (hv : I.val l = (x.natAbs : Int)) (hm : 0 < (m : Int)) (hm2 : 0 < m) :
  Calls Try.prog 76 #[.agg #[.bool false, .slice A m c]] w (RI (-x) w) := by
 have HS := Lib.hid hs; have HC := Lib.hid hc; have HV := Lib.hid hv; have HX := Lib.hid hx
 clear hs hc hv hx
 go_enter Try.func76, Try.ntmps76
 go_wp2
 refine bodyPost_ret (v := .agg #[.bool true, .slice A m c]) (by simp [results, Try.results76, go_sem]) rfl ⟨_, _, rfl, ?_, ((Below.refl _ _).alloc (Nat.le_refl _) _).alloc (by simp) _⟩
 exact ⟨l, by have := HX.out; congr 1; simp; omega, (HS.out.alloc _).alloc _, HC.out, by have := HV.out; omega⟩
theorem ineg_any (a0 a1 : Value) (x : Int) (w : World) (hx : IntV w a0 a1 x) : Calls Try.prog 76 #[.agg #[a0, a1]] w (RI (-x) w) := by
 obtain ⟨l, rfl, sl, can, hv⟩ := hx
 have sl' := sl
 obtain ⟨A, n, c, rfl, rfl, _⟩ := sl'
 have hpos : x ≠ 0 → 0 < (l.length : Int) := fun h => by
  rcases Nat.eq_zero_or_pos l.length with h0 | h0
  ·have := List.eq_nil_of_length_eq_zero h0
   subst this
   simp [I.val] at hv
   omega
  ·omega
 by_cases h1 : x < 0
 ·rw [decide_eq_true h1]
  exact neg_lt A l c _ x w h1 sl can hv
 ·rw [decide_eq_false h1]
  by_cases h2 : x = 0
  ·have := can.zero (by rw [hv, h2]; rfl)
   subst this
   exact neg_eq A [] c x w h2 sl can hv
  ·exact neg_gt A l c _ x w (by omega) sl can hv (hpos h2) (by have := hpos h2; omega)
/-- The sign of a number. -/
def sgnZ (x : Int) : Int := cmpZ x 0
theorem isign_any (a0 a1 : Value) (x : Int) (w : World) (hx : IntV w a0 a1 x) : Calls Try.prog 77 #[.agg #[a0, a1]] w fun e w' => e = .returned (.int .i64 (sgnZ x)) ∧ Below w.heap.size w w' := by
 obtain ⟨l, rfl, sl, can, hv⟩ := hx
 obtain ⟨A, n, c, rfl, rfl, _⟩ := sl
 by_cases h1 : x < 0
 ·rw [decide_eq_true h1, show sgnZ x = -1 from cmpZ_lt h1]
  clear hv can
  go_enter Try.func77, Try.ntmps77
  go_wp2
  go_ret
  exact ⟨rfl, (Below.refl _ _).alloc (Nat.le_refl _) _⟩
 ·rw [decide_eq_false h1]
  by_cases h2 : x = 0
  ·have := can.zero (by rw [hv, h2]; rfl)
   subst this
   rw [show sgnZ x = 0 from cmpZ_eq h2]
   clear hv can h2
   go_enter Try.func77, Try.ntmps77
   go_wp2
   go_ret
   exact ⟨rfl, (Below.refl _ _).alloc (Nat.le_refl _) _⟩
  ·have hpos : 0 < (l.length : Int) := by
    rcases Nat.eq_zero_or_pos l.length with h0 | h0
    ·have := List.eq_nil_of_length_eq_zero h0
     subst this
     simp [I.val] at hv
     omega
    ·omega
   have hne : ((l.length : Int) == 0) = false := beq_eq_false_iff_ne.2 (by omega)
   have h3 : 0 < x := by omega
   rw [show sgnZ x = 1 from cmpZ_gt h3]
   clear hv can
   go_enter Try.func77, Try.ntmps77
   go_wp2
   go_ret
   exact ⟨rfl, (Below.refl _ _).alloc (Nat.le_refl _) _⟩
/-- What is told of at most two digits: their value. -/
theorem two_any (v : Value) (l : List Int) (w : World) (hs : Sl w v l) (hd : I.Dig l) :
  Calls Try.prog 100 #[v] w fun e w' => e = .returned (.tuple #[.int .i64 (if l.length ≤ 2 then I.val l else 0), .bool (decide (l.length ≤ 2))]) ∧ Below w.heap.size w w' := by
 obtain ⟨A, n, c, rfl, rfl, hc, hm, hr, _⟩ := hs
 unfold maxLen at hm
 have HR := Lib.hid hr; clear hr
 match l, hd, hc, HR with
 | [], hd, hc, HR =>
  clear hd
  go_enter Try.func100, Try.ntmps100
  go_wp2
  go_ret2
  exact ⟨rfl, Below.refl _ _⟩
 | [d], hd, hc, HR =>
  obtain ⟨b, o, rfl, hb, hcell⟩ := HR.out (by simp)
  have f0 : w.cell? ⟨b, o, none⟩ = some (.int .i64 d) := hcell 0 _ rfl
  have hv : I.val [d] = d := by simp [I.val]
  have HV := Lib.hid hv
  clear hcell hd hv
  go_enter Try.func100, Try.ntmps100
  go_wp2
  go_ret2
  refine ⟨?_, Below.refl _ _⟩
  rw [HV.out]
  rfl
 | [d, e], hd, hc, HR =>
  obtain ⟨b, o, rfl, hb, hcell⟩ := HR.out (by simp)
  have f0 : w.cell? ⟨b, o, none⟩ = some (.int .i64 d) := hcell 0 _ rfl
  have f1 : w.cell? ⟨b, o + 1, none⟩ = some (.int .i64 e) := hcell 1 _ rfl
  obtain ⟨hd0, hd1⟩ := hd.head
  obtain ⟨he0, he1⟩ := hd.tail.head
  have hv : I.val [d, e] = e * 1000000000 + d := by simp [I.val]; omega
  have HV := Lib.hid hv
  clear hcell hd hv
  go_enter Try.func100, Try.ntmps100
  go_wp2
  go_quiet (fail)
  go_wp2
  go_ret2
  refine ⟨?_, bdN (Below.refl _ _) _⟩
  rw [HV.out]
  rfl
 | d :: e :: f :: r, hd, hc, HR =>
  have h0 : (((d :: e :: f :: r).length : Int) == 0) = false := beq_eq_false_iff_ne.2 (by simp; omega)
  have h1 : (((d :: e :: f :: r).length : Int) == 1) = false := by simp; omega
  have h2 : (((d :: e :: f :: r).length : Int) == 2) = false := by simp; omega
  have h3 : decide ((d :: e :: f :: r).length ≤ 2) = false := by simp
  have h4 : ¬ (d :: e :: f :: r).length ≤ 2 := by simp
  rw [h3, if_neg h4]
  obtain ⟨n, hn⟩ : ∃ n, n = (d :: e :: f :: r).length := ⟨_, rfl⟩
  rw [← hn] at h0 h1 h2 hc ⊢
  clear hn h3 h4 hd HR
  go_enter Try.func100, Try.ntmps100
  go_wp2
  go_ret2
  exact ⟨rfl, Below.refl _ _⟩
end Go.Proofs.Ytonkbckgbfcnkaa
