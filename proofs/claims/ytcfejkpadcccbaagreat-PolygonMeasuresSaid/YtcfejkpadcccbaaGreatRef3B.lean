/-
 THE WALKS of the reference of package integer: Of, plus, minus (rows that grow by append).
-/
import Derived.Test.YtcfejkpadcccbaaGreatRef3A
import Derived.RegionTactic
import Derived.ChangeAlike
namespace Go.Proofs.YtcfejkpadcccbaaGreat
set_option maxHeartbeats 2000000
open Go.RowKit
attribute [local go_sem] run_store_one
set_option linter.unusedVariables false
theorem Sl.own {w : World} {base : Nat} {v : Value} {l : List Int} (h : w.ownsRow base 3 1 v l.length (il l)) : Sl w v l := by
 obtain ⟨A, c, rfl, hc, hm, hn, hl⟩ := own_form h
 refine ⟨A, l.length, c, rfl, rfl, hc, hm, Rd.of_own h, fun h0 => ?_⟩
 rcases h.2 with ⟨_, e0⟩ | ⟨g, cap, cur, hv, _, hg, _⟩
 ·omega
 ·have hA : A = some ⟨g, 0, none⟩ := by injection hv
  exact ⟨g, 0, cur, (0, 0), hA, hg⟩
theorem own_drewN {w : World} {base e size n : Nat} {v : Value} {xs : List Value} (h : w.ownsRow base e size v n xs) (m : Nat) : (w.drewN m).ownsRow base e size v n xs := h
theorem il_snoc (l : List Int) (x : Int) : il (l ++ [x]) = il l ++ [.int .i64 x] := by simp [il]
theorem il_one (x : Int) : ∀ u ∈ [Value.int .i64 x], u.oneCell' = true := il_oneCell [x]
theorem pw3 : I.pw 3 = 1000000000000000000000000000 := rfl
theorem of_step {l : List Int} {i : Nat} {q x : Int} (hl : l.length = i) (h : I.val l + I.pw i * q = x) : I.val (l ++ [q % 1000000000]) + I.pw (i + 1) * (q / 1000000000) = x := by
 rw [I.val_snoc, hl, I.pw_succ]
 have := Int.mul_ediv_add_emod q 1000000000
 generalize q % 1000000000 = a at *
 generalize q / 1000000000 = b at *
 grind
theorem of_few {l : List Int} {i : Nat} {q x : Int} (hd : I.Dig l) (h : I.val l + I.pw i * q = x) (hq : 0 < q) (hx : x ≤ 9223372036854775808) : i < 3 := by
 rcases Nat.lt_or_ge i 3 with h1 | h1
 ·exact h1
 ·have h2 := I.pw_mono h1
  have h3 := I.val_nonneg hd
  have h4 : I.pw i * 1 ≤ I.pw i * q := Int.mul_le_mul_of_nonneg_left (by omega) (by have := I.pw_pos i; omega)
  rw [pw3] at h2
  omega
set_option maxRecDepth 100000 in
theorem rof3_pos (x : Int) (w : World) (h0 : 0 ≤ x) (h1 : x ≤ 9223372036854775807) :
  Calls Tryz.prog 95 #[.int .i64 (x)] w (RI (x) w) := by
 obtain ⟨i0, hi, hz0, hz1, hz2⟩ := info_parts info_i64
 obtain ⟨w0, hw0⟩ : ∃ w0 : World, w0 = w := ⟨_, rfl⟩
 rw [← hw0]
 have HW0 := Lib.hid hw0; clear hw0
 have hsn : decide (x < 0) = false := decide_eq_false (by omega)
 go_enter Tryz.func95, Tryz.ntmps95
 go_wp2
 obtain ⟨w, hw⟩ : ∃ W : World, W = w0.alloc (.cells #[.bool false, .slice none 0 0] 31) := ⟨_, rfl⟩
 rw [← hw]
 have hx0 : Bx w w0.heap.size 31 [.bool false, .slice none 0 0] := by rw [hw]; exact Bx.new w0 _ _
 have hB0 : Below w0.heap.size w0 w := by rw [hw]; exact (Below.refl _ _).alloc (Nat.le_refl _) _
 clear hw hsn
 have HX0 := Lib.hid hx0; have k0 := Lib.hid hB0
 clear hx0 hB0
 go_loopw [0, 3] (fun m v wr => ∃ (i : Nat) (q : Int) (l : List Int), m = .int .i64 (q) ∧ 0 ≤ q ∧ q ≤ x ∧ Hid (I.Dig l ∧ l.length = i ∧ I.val l + I.pw i * q = x) ∧ wr.ownsRow w.heap.size 3 1 v i (il l) ∧ Below w.heap.size w wr) (fun m _ _ => ((intOf m)).toNat)
 case atStart => exact ⟨0, x, [], rfl, by omega, by omega, ⟨I.Dig.nil, rfl, by rw [I.pw_zero]; simp [I.val]⟩, World.ownsRow_nil _ _ _ _, Below.refl _ _⟩
 case round =>
  obtain ⟨i, q, l, rfl, hq0, hqx, HQ, hown, hnx⟩ := hrel
  have hzr := hnx.size
  by_cases hq : 0 < q
  ·have hi3 := of_few HQ.out.1 HQ.out.2.2 hq (by omega)
   have hqn : (q != 0) = true := by simp; omega
   have hst := of_step HQ.out.2.1 HQ.out.2.2
   have hst2 : Hid (I.Dig (l ++ [q % 1000000000]) ∧ (l ++ [q % 1000000000]).length = i + 1 ∧ I.val (l ++ [q % 1000000000]) + I.pw (i + 1) * (q / 1000000000) = x) := Lib.hid ⟨HQ.out.1.snoc (by omega) (by omega), by simp [HQ.out.2.1], hst⟩
   have HST2 := hst2
   clear hst hst2
   have hkn : decide (q % 1000000000 < 0) = false := decide_eq_false (by omega)
   go_wp2_with (at_builtin; refine wpList_append_own _ rfl (.tmp 16) (.tmp 18) _ rfl w.heap.size 3 i0 _ 1 8 Tryz.underlying22 hi hz0 hz1 hz2 rfl (by decide) _ _ _ rfl (hown.alloc _) ⟨wr.heap.size, 0, none⟩ 1 1 [.int .i64 (q % 1000000000)] rfl rfl (cell_one_new _ _ _) (il_one _) (by unfold maxLen; omega) (by omega) (by simp; omega) ?_)
   intro v' w1 hown' hgrow _
   have hB : Below w.heap.size w w1 := (hnx.alloc hnx.size _).grown hgrow (by simp; omega) (fun g hg => (hown.lt g hg).1)
   clear hgrow hown
   go_wp2
   go_roundw
   case rel =>
    refine ⟨i + 1, q / 1000000000, l ++ [q % 1000000000], by go_num, by omega, by omega, HST2.out, ?_, hB⟩
    rw [il_snoc]
    exact hown'
   case measure => simp [intOf]; omega
   
  ·obtain rfl : q = 0 := by omega
   have hsl := HQ.out
   rw [Int.mul_zero, Int.add_zero] at hsl
   obtain ⟨hd_, hli_, hval_⟩ := hsl
   subst hli_
   obtain ⟨A, c, rfl, _, _, _, _⟩ := own_form hown
   have hsl : I.Dig l ∧ I.val l = x := ⟨hd_, hval_⟩
   have hS := Sl.own hown
   have HS := Lib.hid hS; have HL := Lib.hid hsl; have HX1 := Lib.hid (HX0.out.below hnx)
   have HBB := Lib.hid (Blw k0.out hnx)
   have hf := HX1.out.frozen
   have c0 := HX1.out.cell (i := 0) rfl
   have c1 := HX1.out.cell (i := 1) rfl
   clear hsl hS hown hd_ hval_
   go_wp2_with fail
   have hc := normal_any false (.slice A l.length c) l wr HS.out HL.out.1
   (with_reducible refine hc.mono ?_)
   clear hc
   rintro e w3 ⟨r0, r1, rfl, hI, hb⟩
   have x3 := HX1.out.below hb
   have f3 := x3.frozen
   have d0 := x3.cell (i := 0) rfl
   have d1 := x3.cell (i := 1) rfl
   obtain ⟨o0, o1⟩ := hI.ones
   have HI := Lib.hid hI; have k1 := Lib.hid (Blw HBB.out hb)
   clear hI hb
   go_wp2
   have hkp := (Kp.refl w3).t2 x3 r0 r1
   refine bodyPost_ret (v := .agg #[r0, r1]) (by simp [results, Tryz.results95, go_sem, d0, d1]) rfl ⟨_, _, rfl, ?_, (k1.out.setCell (by simp) _).setCell (by simp) _⟩
   have h5 := HI.out.kp hkp
   rw [HL.out.2] at h5
   exact h5
set_option maxRecDepth 100000 in
theorem rof3_neg (x : Int) (w : World) (h0 : 0 < x) (h1 : x ≤ 9223372036854775808) :
  Calls Tryz.prog 95 #[.int .i64 (-x)] w (RI (-x) w) := by
 obtain ⟨i0, hi, hz0, hz1, hz2⟩ := info_parts info_i64
 obtain ⟨w0, hw0⟩ : ∃ w0 : World, w0 = w := ⟨_, rfl⟩
 rw [← hw0]
 have HW0 := Lib.hid hw0; clear hw0
 have hsn : decide (-x < 0) = true := decide_eq_true (by omega)
 go_enter Tryz.func95, Tryz.ntmps95
 go_wp2
 obtain ⟨w, hw⟩ : ∃ W : World, W = w0.alloc (.cells #[.bool false, .slice none 0 0] 31) := ⟨_, rfl⟩
 rw [← hw]
 have hx0 : Bx w w0.heap.size 31 [.bool false, .slice none 0 0] := by rw [hw]; exact Bx.new w0 _ _
 have hB0 : Below w0.heap.size w0 w := by rw [hw]; exact (Below.refl _ _).alloc (Nat.le_refl _) _
 clear hw hsn
 have HX0 := Lib.hid hx0; have k0 := Lib.hid hB0
 clear hx0 hB0
 go_loopw [0, 3] (fun m v wr => ∃ (i : Nat) (q : Int) (l : List Int), m = .int .i64 (-q) ∧ 0 ≤ q ∧ q ≤ x ∧ Hid (I.Dig l ∧ l.length = i ∧ I.val l + I.pw i * q = x) ∧ wr.ownsRow w.heap.size 3 1 v i (il l) ∧ Below w.heap.size w wr) (fun m _ _ => (-(intOf m)).toNat)
 case atStart => exact ⟨0, x, [], rfl, by omega, by omega, ⟨I.Dig.nil, rfl, by rw [I.pw_zero]; simp [I.val]⟩, World.ownsRow_nil _ _ _ _, Below.refl _ _⟩
 case round =>
  obtain ⟨i, q, l, rfl, hq0, hqx, HQ, hown, hnx⟩ := hrel
  have hzr := hnx.size
  by_cases hq : 0 < q
  ·have hi3 := of_few HQ.out.1 HQ.out.2.2 hq (by omega)
   have hqn : (-q != 0) = true := by simp; omega
   have hst := of_step HQ.out.2.1 HQ.out.2.2
   have hst2 : Hid (I.Dig (l ++ [q % 1000000000]) ∧ (l ++ [q % 1000000000]).length = i + 1 ∧ I.val (l ++ [q % 1000000000]) + I.pw (i + 1) * (q / 1000000000) = x) := Lib.hid ⟨HQ.out.1.snoc (by omega) (by omega), by simp [HQ.out.2.1], hst⟩
   have HST2 := hst2
   clear hst hst2
   have htm : Int.tmod (-q) 1000000000 = -(q % 1000000000) := by rw [Int.neg_tmod, Int.tmod_eq_emod_of_nonneg (by omega)]
   have htd : Int.tdiv (-q) 1000000000 = -(q / 1000000000) := by rw [Int.neg_tdiv, Int.tdiv_eq_ediv_of_nonneg (by omega)]
   have hk0 : 0 ≤ q % 1000000000 := by omega
   have hk1 : q % 1000000000 < 1000000000 := by omega
   have hk2 : 0 ≤ q / 1000000000 := by omega
   have hk3 : q / 1000000000 < q := by omega
   by_cases hk : 0 < q % 1000000000
   ·have hkn : decide (-(q % 1000000000) < 0) = true := decide_eq_true (by omega)
    go_wp2_with (at_builtin; refine wpList_append_own _ rfl (.tmp 16) (.tmp 18) _ rfl w.heap.size 3 i0 _ 1 8 Tryz.underlying22 hi hz0 hz1 hz2 rfl (by decide) _ _ _ rfl (hown.alloc _) ⟨wr.heap.size, 0, none⟩ 1 1 [.int .i64 (q % 1000000000)] rfl rfl (cell_one_new _ _ _) (il_one _) (by unfold maxLen; omega) (by omega) (by simp; omega) ?_)
    intro v' w1 hown' hgrow _
    have hB : Below w.heap.size w w1 := (hnx.alloc hnx.size _).grown hgrow (by simp; omega) (fun g hg => (hown.lt g hg).1)
    clear hgrow hown
    go_wp2
    go_roundw
    case rel =>
     refine ⟨i + 1, q / 1000000000, l ++ [q % 1000000000], by go_num, by omega, by omega, HST2.out, ?_, hB⟩
     rw [il_snoc]
     exact hown'
    case measure => simp [intOf]; omega
    
   ·have hkz : q % 1000000000 = 0 := by omega
    have hkn : decide (-(q % 1000000000) < 0) = false := decide_eq_false (by omega)
    rw [hkz] at htm hkn
    have HKZ := Lib.hid hkz
    clear hk hk0 hk1 hkz
    have HST3 := HST2
    rw [HKZ.out] at HST3
    clear HST2
    have HST2 := HST3
    clear HST3
    go_wp2_with (at_builtin; refine wpList_append_own _ rfl (.tmp 16) (.tmp 18) _ rfl w.heap.size 3 i0 _ 1 8 Tryz.underlying22 hi hz0 hz1 hz2 rfl (by decide) _ _ _ rfl (hown.alloc _) ⟨wr.heap.size, 0, none⟩ 1 1 [.int .i64 (0)] rfl rfl (cell_one_new _ _ _) (il_one _) (by unfold maxLen; omega) (by omega) (by simp; omega) ?_)
    intro v' w1 hown' hgrow _
    have hB : Below w.heap.size w w1 := (hnx.alloc hnx.size _).grown hgrow (by simp; omega) (fun g hg => (hown.lt g hg).1)
    clear hgrow hown
    go_wp2
    go_roundw
    case rel =>
     refine ⟨i + 1, q / 1000000000, l ++ [0], by go_num, by omega, by omega, HST2.out, ?_, hB⟩
     rw [il_snoc]
     exact hown'
    case measure => simp [intOf]; omega
    
  ·obtain rfl : q = 0 := by omega
   have hsl := HQ.out
   rw [Int.mul_zero, Int.add_zero] at hsl
   obtain ⟨hd_, hli_, hval_⟩ := hsl
   subst hli_
   obtain ⟨A, c, rfl, _, _, _, _⟩ := own_form hown
   have hsl : I.Dig l ∧ I.val l = x := ⟨hd_, hval_⟩
   have hS := Sl.own hown
   have HS := Lib.hid hS; have HL := Lib.hid hsl; have HX1 := Lib.hid (HX0.out.below hnx)
   have HBB := Lib.hid (Blw k0.out hnx)
   have hf := HX1.out.frozen
   have c0 := HX1.out.cell (i := 0) rfl
   have c1 := HX1.out.cell (i := 1) rfl
   clear hsl hS hown hd_ hval_
   go_wp2_with fail
   have hc := normal_any true (.slice A l.length c) l wr HS.out HL.out.1
   (with_reducible refine hc.mono ?_)
   clear hc
   rintro e w3 ⟨r0, r1, rfl, hI, hb⟩
   have x3 := HX1.out.below hb
   have f3 := x3.frozen
   have d0 := x3.cell (i := 0) rfl
   have d1 := x3.cell (i := 1) rfl
   obtain ⟨o0, o1⟩ := hI.ones
   have HI := Lib.hid hI; have k1 := Lib.hid (Blw HBB.out hb)
   clear hI hb
   go_wp2
   have hkp := (Kp.refl w3).t2 x3 r0 r1
   refine bodyPost_ret (v := .agg #[r0, r1]) (by simp [results, Tryz.results95, go_sem, d0, d1]) rfl ⟨_, _, rfl, ?_, (k1.out.setCell (by simp) _).setCell (by simp) _⟩
   have h5 := HI.out.kp hkp
   rw [HL.out.2] at h5
   exact h5
theorem rof3_any (x : Int) (w : World) (hx : W.Is64 x) : Calls Tryz.prog 95 #[.int .i64 x] w (RI x w) := by
 by_cases h : 0 ≤ x
 ·exact rof3_pos x w h (by have := hx.2; omega)
 ·have h2 := rof3_neg (-x) w (by omega) (by have := hx.1; omega)
  rw [Int.neg_neg] at h2
  exact h2
theorem plus_end {a b r : List Int} {k : Nat} {c : Int} (ha : a.length ≤ k) (hb : b.length ≤ k) (h : I.val r + I.pw k * c = I.val (a.take k) + I.val (b.take k)) (hc : c = 0) : I.val r = I.val a + I.val b := by
 subst hc
 rw [I.val_take_over ha, I.val_take_over hb, Int.mul_zero, Int.add_zero] at h
 exact h
set_option maxRecDepth 100000 in
theorem plus3_any (va vb : Value) (a b : List Int) (w : World) (ha : Sl w va a) (hb : Sl w vb b) (da : I.Dig a) (db : I.Dig b) (hl : a.length + b.length ≤ 2000000000000) :
  Calls Tryz.prog 131 #[va, vb] w (RS (fun l => I.Dig l ∧ I.val l = I.val a + I.val b) w) := by
 obtain ⟨i0, hi, hz0, hz1, hz2⟩ := info_parts info_i64
 obtain ⟨A, ca', rfl, hca, hma⟩ := ha.form_
 obtain ⟨B, cb', rfl, hcb, hmb⟩ := hb.form_
 have HA := Lib.hid ha; have HB_ := Lib.hid hb; have HDA := Lib.hid da; have HDB := Lib.hid db
 clear ha hb
 unfold maxLen at hma hmb
 go_enter Tryz.func131, Tryz.ntmps131
 go_wp2
 go_loopw [5, 6, 7] (fun v cy ix wr => ∃ (k : Nat) (r : List Int) (c : Int), ix = .int .i64 k ∧ cy = .int .i64 c ∧ 0 ≤ c ∧ c ≤ 1 ∧ k ≤ a.length + b.length + 1 ∧ Hid (k = a.length + b.length + 1 → c = 0) ∧ Hid (I.Dig r ∧ r.length = k ∧ I.val r + I.pw k * c = I.val (a.take k) + I.val (b.take k)) ∧ wr.ownsRow w.heap.size 3 1 v k (il r) ∧ Below w.heap.size w wr) (fun _ _ ix _ => a.length + b.length + 1 - (intOf ix).toNat)
 case atStart => exact ⟨0, [], 0, rfl, rfl, by omega, by omega, by omega, Lib.hid (fun _ => rfl), Lib.hid ⟨I.Dig.nil, rfl, by simp [I.val]⟩, World.ownsRow_nil _ _ _ _, Below.refl _ _⟩
 case round =>
  obtain ⟨k, r, c, rfl, rfl, k0, k1, hkm, HC, HR, hown, hnx⟩ := hrel
  have hzr := hnx.size
  by_cases hgo : (k < a.length ∨ k < b.length) ∨ 0 < c
  ·have hkl : k < a.length + b.length + 1 := by
    rcases Nat.lt_or_ge k (a.length + b.length + 1) with h | h
    ·exact h
    ·have := HC.out (by omega)
     omega
   have hx := I.dg_bd HDA.out k
   have hy := I.dg_bd HDB.out k
   have d1 := digit_any (.slice A a.length ca') a k k wr (HA.out.below hnx) rfl (by omega)
   have d2 := digit_any (.slice B b.length cb') b k k wr (HB_.out.below hnx) rfl (by omega)
   have hst := I.plus_step (v := (I.dg a k + I.dg b k + c) % 1000000000) (c' := (I.dg a k + I.dg b k + c) / 1000000000) HR.out.2.1 HR.out.2.2 (by omega)
   have hlast : k + 1 = a.length + b.length + 1 → (I.dg a k + I.dg b k + c) / 1000000000 = 0 := fun h => by
    rw [I.dg_none (b := a) (k := k) (by omega), I.dg_none (b := b) (k := k) (by omega)]
    omega
   obtain ⟨x, hxe⟩ : ∃ x, x = I.dg a k := ⟨_, rfl⟩
   obtain ⟨y, hye⟩ : ∃ y, y = I.dg b k := ⟨_, rfl⟩
   rw [← hxe, ← hye] at hst hlast
   rw [← hxe] at hx d1
   rw [← hye] at hy d2
   have HST := Lib.hid hst; have HLAST := Lib.hid hlast
   clear hst hlast hxe hye
   by_cases hk1 : k < a.length
   ·have hka : decide (k < a.length) = true := decide_eq_true hk1
    go_wp2_with (first | (go_at_call 139; (with_reducible refine d1.mono ?_); rintro e w' ⟨rfl, rfl⟩) | (go_at_call 139; (with_reducible refine d2.mono ?_); rintro e w' ⟨rfl, rfl⟩) | (at_builtin; refine wpList_append_own _ rfl (.tmp 34) (.tmp 37) _ rfl w.heap.size 3 i0 _ 1 8 Tryz.underlying22 hi hz0 hz1 hz2 rfl (by decide) _ _ _ rfl (hown.alloc _) ⟨wr.heap.size, 0, none⟩ 1 1 [.int .i64 ((x + y + c) % 1000000000)] rfl rfl (cell_one_new _ _ _) (il_one _) (by unfold maxLen; omega) (by omega) (by simp; omega) ?_))
    intro v' w1 hown' hgrow _
    have hB : Below w.heap.size w w1 := (hnx.alloc hnx.size _).grown hgrow (by simp; omega) (fun g hg => (hown.lt g hg).1)
    clear hgrow hown d1 d2
    go_wp2
    go_roundw
    case rel =>
     refine ⟨k + 1, r ++ [(x + y + c) % 1000000000], (x + y + c) / 1000000000, by go_num, rfl, by omega, by omega, by omega, HLAST, ⟨HR.out.1.snoc (by omega) (by omega), by simp [HR.out.2.1], HST.out⟩, ?_, hB⟩
     rw [il_snoc]
     exact hown'
    case measure => simp [intOf]; omega
   ·have hka : decide (k < a.length) = false := decide_eq_false hk1
    by_cases hk2 : k < b.length
    ·have hkb : decide (k < b.length) = true := decide_eq_true hk2
     go_wp2_with (first | (go_at_call 139; (with_reducible refine d1.mono ?_); rintro e w' ⟨rfl, rfl⟩) | (go_at_call 139; (with_reducible refine d2.mono ?_); rintro e w' ⟨rfl, rfl⟩) | (at_builtin; refine wpList_append_own _ rfl (.tmp 34) (.tmp 37) _ rfl w.heap.size 3 i0 _ 1 8 Tryz.underlying22 hi hz0 hz1 hz2 rfl (by decide) _ _ _ rfl (hown.alloc _) ⟨wr.heap.size, 0, none⟩ 1 1 [.int .i64 ((x + y + c) % 1000000000)] rfl rfl (cell_one_new _ _ _) (il_one _) (by unfold maxLen; omega) (by omega) (by simp; omega) ?_))
     intro v' w1 hown' hgrow _
     have hB : Below w.heap.size w w1 := (hnx.alloc hnx.size _).grown hgrow (by simp; omega) (fun g hg => (hown.lt g hg).1)
     clear hgrow hown d1 d2
     go_wp2
     go_roundw
     case rel =>
      refine ⟨k + 1, r ++ [(x + y + c) % 1000000000], (x + y + c) / 1000000000, by go_num, rfl, by omega, by omega, by omega, HLAST, ⟨HR.out.1.snoc (by omega) (by omega), by simp [HR.out.2.1], HST.out⟩, ?_, hB⟩
      rw [il_snoc]
      exact hown'
     case measure => simp [intOf]; omega
    ·have hkb : decide (k < b.length) = false := decide_eq_false hk2
     have hcp : 0 < c := by omega
     go_wp2_with (first | (go_at_call 139; (with_reducible refine d1.mono ?_); rintro e w' ⟨rfl, rfl⟩) | (go_at_call 139; (with_reducible refine d2.mono ?_); rintro e w' ⟨rfl, rfl⟩) | (at_builtin; refine wpList_append_own _ rfl (.tmp 34) (.tmp 37) _ rfl w.heap.size 3 i0 _ 1 8 Tryz.underlying22 hi hz0 hz1 hz2 rfl (by decide) _ _ _ rfl (hown.alloc _) ⟨wr.heap.size, 0, none⟩ 1 1 [.int .i64 ((x + y + c) % 1000000000)] rfl rfl (cell_one_new _ _ _) (il_one _) (by unfold maxLen; omega) (by omega) (by simp; omega) ?_))
     intro v' w1 hown' hgrow _
     have hB : Below w.heap.size w w1 := (hnx.alloc hnx.size _).grown hgrow (by simp; omega) (fun g hg => (hown.lt g hg).1)
     clear hgrow hown d1 d2
     go_wp2
     go_roundw
     case rel =>
      refine ⟨k + 1, r ++ [(x + y + c) % 1000000000], (x + y + c) / 1000000000, by go_num, rfl, by omega, by omega, by omega, HLAST, ⟨HR.out.1.snoc (by omega) (by omega), by simp [HR.out.2.1], HST.out⟩, ?_, hB⟩
      rw [il_snoc]
      exact hown'
     case measure => simp [intOf]; omega
  ·have hka : decide (k < a.length) = false := decide_eq_false (by omega)
   have hkb : decide (k < b.length) = false := decide_eq_false (by omega)
   obtain rfl : c = 0 := by omega
   have hv := plus_end (by omega) (by omega) HR.out.2.2 rfl
   have HV := Lib.hid hv; have hli := HR.out.2.1
   clear hv
   subst hli
   obtain ⟨A3, c3, rfl, _, _, _, _⟩ := own_form hown
   have HS := Lib.hid (Sl.own hown)
   clear hown
   go_wp2
   go_ret
   exact ⟨_, r, rfl, HS.out, ⟨HR.out.1, HV.out⟩, hnx⟩
theorem digit_q {va : Value} {l : List Int} {k : Nat} {wr : World} {n : Nat} (ha : Sl wr va l) (hk2 : k ≤ 2000000000000) :
  Calls Tryz.prog 139 #[va, .int .i64 (k : Int)] (wr.drewN n) fun e w'' => e = .returned (.int .i64 (I.dg l k)) ∧ ∃ m, w'' = wr.drewN m :=
 (digit_any va l k k (wr.drewN n) (ha.kp ((Kp.refl _).drewN _)) rfl hk2).mono fun _ _ ⟨h1, h2⟩ => ⟨h1, n, h2.symm⟩
set_option maxRecDepth 100000 in
theorem minus3_f (va vb : Value) (a b : List Int) (w : World) (ha : Sl w va a) (hb : Sl w vb b) (da : I.Dig a) (db : I.Dig b) (hl : a.length ≤ 1000000000000) (hab : b.length ≤ a.length) (hle : I.val b ≤ I.val a) :
  Calls Tryz.prog 133 #[va, vb] w fun e w' => ∃ v l, e = .returned v ∧ Sl w' v l ∧ (I.Dig l ∧ I.val l = I.val a - I.val b) ∧ Below w.heap.size w w' ∧ Fr w.heap.size v := by
 obtain ⟨i0, hi, hz0, hz1, hz2⟩ := info_parts info_i64
 obtain ⟨A, ca', rfl, hca, hma⟩ := ha.form_
 obtain ⟨B, cb', rfl, hcb, hmb⟩ := hb.form_
 have HA := Lib.hid ha; have HB_ := Lib.hid hb; have HDA := Lib.hid da; have HDB := Lib.hid db
 clear ha hb
 unfold maxLen at hma hmb
 have HLE := Lib.hid hle
 clear hle
 go_enter Tryz.func133, Tryz.ntmps133
 go_wp2
 go_loopw [5, 6, 7] (fun v cy ix wr => ∃ (k : Nat) (r : List Int) (c : Int), ix = .int .i64 k ∧ cy = .int .i64 c ∧ 0 ≤ c ∧ c ≤ 1 ∧ k ≤ a.length ∧ Hid (I.Dig r ∧ r.length = k ∧ I.val r - I.pw k * c = I.val (a.take k) - I.val (b.take k)) ∧ wr.ownsRow w.heap.size 3 1 v k (il r) ∧ Below w.heap.size w wr) (fun _ _ ix _ => a.length - (intOf ix).toNat)
 case atStart => exact ⟨0, [], 0, rfl, rfl, by omega, by omega, by omega, Lib.hid ⟨I.Dig.nil, rfl, by simp [I.val]⟩, World.ownsRow_nil _ _ _ _, Below.refl _ _⟩
 case round =>
  obtain ⟨k, r, c, rfl, rfl, k0, k1, hkm, HR, hown, hnx⟩ := hrel
  have hzr := hnx.size
  by_cases hk1 : k < a.length
  ·obtain ⟨x, hx⟩ : ∃ x, a[k]? = some x := ⟨_, List.getElem?_eq_getElem hk1⟩
   have hxb := HDA.out.get hx
   have hy := I.dg_bd HDB.out k
   have hka : decide (k < a.length) = true := decide_eq_true hk1
   obtain ⟨ba, oa, ca2, hA, _, _, hba, hcA⟩ := HA.out.at_ (by omega)
   injection hA with hA _ hcc
   subst hA; subst hcc
   have f1 := hcA wr hnx k x hx
   have d2 := fun n => digit_q (n := n) (k := k) (HB_.out.below hnx) (by omega)
   have hxd := I.dg_some hx
   have hst := fun v c' h => I.minus_step (a := a) (b := b) (v := v) (c' := c') HR.out.2.1 HR.out.2.2 h
   rw [hxd] at hst
   obtain ⟨y, hye⟩ : ∃ y, y = I.dg b k := ⟨_, rfl⟩
   rw [← hye] at hst hy d2
   have HST := Lib.hid hst; have HD2 := Lib.hid d2
   clear hst hye hcA hx hxd d2
   by_cases hw : x - y - c < 0
   ·have hwb : decide (x - y - c < 0) = true := decide_eq_true hw
    go_wp2_with fail
    go_quiet ((go_at_call 139; exact HD2.out _))
    go_wp2_with (at_builtin; refine wpList_append_own _ rfl (.tmp 29) (.tmp 31) _ rfl w.heap.size 3 i0 _ 1 8 Tryz.underlying22 hi hz0 hz1 hz2 rfl (by decide) _ _ _ rfl ((own_drewN hown _).alloc _) ⟨_, 0, none⟩ 1 1 [.int .i64 (x - y - c + 1000000000)] rfl rfl (cell_one_new _ _ _) (il_one _) (by unfold maxLen; omega) (by omega) (by simp; omega) ?_)
    intro v' w1 hown' hgrow _
    have hB : Below w.heap.size w w1 := ((bdN hnx _).alloc (by simpa using hnx.size) _).grown hgrow (by simp; omega) (fun g hg => (hown.lt g hg).1)
    clear hgrow hown
    go_wp2
    go_roundw
    case rel =>
     refine ⟨k + 1, r ++ [x - y - c + 1000000000], 1, by go_num, rfl, by omega, by omega, by omega, ⟨HR.out.1.snoc (by omega) (by omega), by simp [HR.out.2.1], HST.out _ _ (by omega)⟩, ?_, hB⟩
     rw [il_snoc]
     exact hown'
    case measure => simp [intOf]; omega
   ·have hwb : decide (x - y - c < 0) = false := decide_eq_false hw
    go_wp2_with fail
    go_quiet ((go_at_call 139; exact HD2.out _))
    go_wp2_with (at_builtin; refine wpList_append_own _ rfl (.tmp 29) (.tmp 31) _ rfl w.heap.size 3 i0 _ 1 8 Tryz.underlying22 hi hz0 hz1 hz2 rfl (by decide) _ _ _ rfl ((own_drewN hown _).alloc _) ⟨_, 0, none⟩ 1 1 [.int .i64 (x - y - c)] rfl rfl (cell_one_new _ _ _) (il_one _) (by unfold maxLen; omega) (by omega) (by simp; omega) ?_)
    intro v' w1 hown' hgrow _
    have hB : Below w.heap.size w w1 := ((bdN hnx _).alloc (by simpa using hnx.size) _).grown hgrow (by simp; omega) (fun g hg => (hown.lt g hg).1)
    clear hgrow hown
    go_wp2
    go_roundw
    case rel =>
     refine ⟨k + 1, r ++ [x - y - c], 0, by go_num, rfl, by omega, by omega, by omega, ⟨HR.out.1.snoc (by omega) (by omega), by simp [HR.out.2.1], HST.out _ _ (by omega)⟩, ?_, hB⟩
     rw [il_snoc]
     exact hown'
    case measure => simp [intOf]; omega
  ·have hka : decide (k < a.length) = false := decide_eq_false hk1
   obtain rfl : a.length = k := by omega
   have hz := I.minus_last HR.out.2.1 HR.out.2.2 hab HR.out.1 HLE.out k0
   have hv := HR.out.2.2
   rw [hz, Int.mul_zero, Int.sub_zero, I.val_take_over (Nat.le_refl _), I.val_take_over hab] at hv
   have HV := Lib.hid hv; have hli := HR.out.2.1
   have hown2 := hown
   rw [← hli] at hown2
   obtain ⟨A3, c3, rfl, _, _, _, hA3⟩ := own_form hown
   have HS := Lib.hid (Sl.own hown2)
   clear hown hown2 hz hv hli
   go_wp2
   go_ret
   exact ⟨_, r, rfl, HS.out, ⟨HR.out.1, HV.out⟩, hnx, fun A n c h => by injection h with h; exact (hA3 A h).1⟩
theorem minus3_any (va vb : Value) (a b : List Int) (w : World) (ha : Sl w va a) (hb : Sl w vb b) (da : I.Dig a) (db : I.Dig b) (hl : a.length ≤ 1000000000000) (hab : b.length ≤ a.length) (hle : I.val b ≤ I.val a) :
  Calls Tryz.prog 133 #[va, vb] w (RS (fun l => I.Dig l ∧ I.val l = I.val a - I.val b) w) :=
 (minus3_f va vb a b w ha hb da db hl hab hle).mono fun _ _ ⟨v, l, h1, h2, h3, h4, _⟩ => ⟨v, l, h1, h2, h3, h4⟩
end Go.Proofs.YtcfejkpadcccbaaGreat
