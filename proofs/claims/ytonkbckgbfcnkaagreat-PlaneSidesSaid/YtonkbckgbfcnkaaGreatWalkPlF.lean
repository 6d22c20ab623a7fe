/-
 THE WALKS of Compare: packages integer, rat and plane.
-/
import Derived.Test.YtonkbckgbfcnkaaGreatWalkPlB
namespace Go.Proofs.YtonkbckgbfcnkaaGreat
set_option maxHeartbeats 4000000
open Go.RowKit
attribute [local go_sem] run_store_one
set_option linter.unusedVariables false
/-- The order of two rationals: -1, 0 or 1. -/
def cmpQ (r t : Rat) : Int := if r < t then -1 else if t < r then 1 else 0
theorem cmp_cross (r t : Rat) : cmpZ (r.num * t.den) (t.num * r.den) = cmpQ r t := by
 unfold cmpZ cmpQ
 simp only [Rat.lt_iff]
theorem cmpQ_sgn {r t : Rat} (h : sgnZ r.num ≠ sgnZ t.num ∨ sgnZ r.num = 0) : cmpZ (sgnZ r.num) (sgnZ t.num) = cmpQ r t := by
 rw [← cmp_cross]
 have hr : 0 < (r.den : Int) := by have := r.den_pos; omega
 have ht : 0 < (t.den : Int) := by have := t.den_pos; omega
 generalize r.num = a at *
 generalize t.num = b at *
 generalize (r.den : Int) = c at *
 generalize (t.den : Int) = d at *
 rcases Int.lt_trichotomy a 0 with ha | ha | ha <;> rcases Int.lt_trichotomy b 0 with hb | hb | hb
 ·exfalso; rw [show sgnZ a = -1 from cmpZ_lt ha, show sgnZ b = -1 from cmpZ_lt hb] at h; omega
 ·subst hb; have := Int.mul_neg_of_neg_of_pos ha ht; rw [show sgnZ a = -1 from cmpZ_lt ha, show sgnZ 0 = 0 from rfl, Int.zero_mul, cmpZ_lt this]; rfl
 ·have h1 := Int.mul_neg_of_neg_of_pos ha ht; have h2 := Int.mul_pos hb hr; rw [show sgnZ a = -1 from cmpZ_lt ha, show sgnZ b = 1 from cmpZ_gt hb, cmpZ_lt (x := a * d) (by omega)]; rfl
 ·subst ha; have := Int.mul_neg_of_neg_of_pos hb hr; rw [show sgnZ b = -1 from cmpZ_lt hb, show sgnZ 0 = 0 from rfl, Int.zero_mul, cmpZ_gt (x := 0) this]; rfl
 ·subst ha; subst hb; rw [show sgnZ 0 = 0 from rfl, Int.zero_mul, Int.zero_mul]
 ·subst ha; have := Int.mul_pos hb hr; rw [show sgnZ b = 1 from cmpZ_gt hb, show sgnZ 0 = 0 from rfl, Int.zero_mul, cmpZ_lt this]; rfl
 ·have h1 := Int.mul_pos ha ht; have h2 := Int.mul_neg_of_neg_of_pos hb hr; rw [show sgnZ a = 1 from cmpZ_gt ha, show sgnZ b = -1 from cmpZ_lt hb, cmpZ_gt (x := a * d) (by omega)]; rfl
 ·subst hb; have := Int.mul_pos ha ht; rw [show sgnZ a = 1 from cmpZ_gt ha, show sgnZ 0 = 0 from rfl, Int.zero_mul, cmpZ_gt this]; rfl
 ·exfalso; rw [show sgnZ a = 1 from cmpZ_gt ha, show sgnZ b = 1 from cmpZ_gt hb] at h; omega
theorem sgn64 (x : Int) : W.Is64 (sgnZ x) := by
 unfold sgnZ cmpZ
 split
 ·exact ⟨by omega, by omega⟩
 ·split <;> exact ⟨by omega, by omega⟩
set_option maxRecDepth 100000 in
theorem icmp_0 (va vb : Value) (a b : List Int) (w : World) (ha : Sl w va a) (hb : Sl w vb b) (ca : I.Can a) (cb : I.Can b) :
  Calls Tryz.prog 84 #[.agg #[.bool true, va], .agg #[.bool false, vb]] w fun e w' => e = .returned (.int .i64 (-1)) ∧ Below w.heap.size w w' := by
 obtain ⟨A, c, rfl, _, _⟩ := ha.form_
 obtain ⟨B, d, rfl, _, _⟩ := hb.form_
 have HA := Lib.hid ha; have HB_ := Lib.hid hb; have HCA := Lib.hid ca; have HCB := Lib.hid cb
 clear ha hb ca cb
 go_enter Tryz.func84, Tryz.ntmps84
 go_wp2
 go_ret
 exact ⟨rfl, ((Below.refl _ _).alloc (by simp) _).alloc (by simp) _⟩
set_option maxRecDepth 100000 in
theorem icmp_1 (va vb : Value) (a b : List Int) (w : World) (ha : Sl w va a) (hb : Sl w vb b) (ca : I.Can a) (cb : I.Can b) :
  Calls Tryz.prog 84 #[.agg #[.bool false, va], .agg #[.bool true, vb]] w fun e w' => e = .returned (.int .i64 (1)) ∧ Below w.heap.size w w' := by
 obtain ⟨A, c, rfl, _, _⟩ := ha.form_
 obtain ⟨B, d, rfl, _, _⟩ := hb.form_
 have HA := Lib.hid ha; have HB_ := Lib.hid hb; have HCA := Lib.hid ca; have HCB := Lib.hid cb
 clear ha hb ca cb
 go_enter Tryz.func84, Tryz.ntmps84
 go_wp2
 go_ret
 exact ⟨rfl, ((Below.refl _ _).alloc (by simp) _).alloc (by simp) _⟩
set_option maxRecDepth 100000 in
theorem icmp_2 (va vb : Value) (a b : List Int) (w : World) (ha : Sl w va a) (hb : Sl w vb b) (ca : I.Can a) (cb : I.Can b) :
  Calls Tryz.prog 84 #[.agg #[.bool true, va], .agg #[.bool true, vb]] w fun e w' => e = .returned (.int .i64 (cmpZ (I.val b) (I.val a))) ∧ Below w.heap.size w w' := by
 obtain ⟨A, c, rfl, _, _⟩ := ha.form_
 obtain ⟨B, d, rfl, _, _⟩ := hb.form_
 have HA := Lib.hid ha; have HB_ := Lib.hid hb; have HCA := Lib.hid ca; have HCB := Lib.hid cb
 clear ha hb ca cb
 go_enter Tryz.func84, Tryz.ntmps84
 go_wp2_with fail
 generalize hW : (w.alloc _).alloc _ = W1
 obtain ⟨k2, k3, hB⟩ := box2 hW
 have k1 := Lib.hid hB; clear hW hB
 have F5 := Lib.hid (HA.out.kp (.of k1.out))
 have F6 := Lib.hid (HB_.out.kp (.of k1.out))
 obtain ⟨k8, k9, ka, kb⟩ := k2.f2
 obtain ⟨kc, kd, ke, kf⟩ := k3.f2
 have k4 := compare_b (.slice B b.length d) (.slice A a.length c) b a W1 F6.out F5.out HCB.out HCA.out
 (with_reducible refine k4.mono ?_)
 clear k4
 rintro e w15 ⟨rfl, k0⟩
 obtain ⟨kg, kh, ki, kj, kk⟩ := k2.b2 k0
 obtain ⟨kl, km, kn, ko, kq⟩ := k3.b2 k0
 have k7 := Lib.hid (Blw k1.out k0)
 clear k0
 go_wp2
 go_ret
 exact ⟨rfl, k7.out⟩
set_option maxRecDepth 100000 in
theorem icmp_3 (va vb : Value) (a b : List Int) (w : World) (ha : Sl w va a) (hb : Sl w vb b) (ca : I.Can a) (cb : I.Can b) :
  Calls Tryz.prog 84 #[.agg #[.bool false, va], .agg #[.bool false, vb]] w fun e w' => e = .returned (.int .i64 (cmpZ (I.val a) (I.val b))) ∧ Below w.heap.size w w' := by
 obtain ⟨A, c, rfl, _, _⟩ := ha.form_
 obtain ⟨B, d, rfl, _, _⟩ := hb.form_
 have HA := Lib.hid ha; have HB_ := Lib.hid hb; have HCA := Lib.hid ca; have HCB := Lib.hid cb
 clear ha hb ca cb
 go_enter Tryz.func84, Tryz.ntmps84
 go_wp2_with fail
 generalize hW : (w.alloc _).alloc _ = W1
 obtain ⟨k2, k3, hB⟩ := box2 hW
 have k1 := Lib.hid hB; clear hW hB
 have F5 := Lib.hid (HA.out.kp (.of k1.out))
 have F6 := Lib.hid (HB_.out.kp (.of k1.out))
 obtain ⟨k8, k9, ka, kb⟩ := k2.f2
 obtain ⟨kc, kd, ke, kf⟩ := k3.f2
 have k4 := compare_b (.slice A a.length c) (.slice B b.length d) a b W1 F5.out F6.out HCA.out HCB.out
 (with_reducible refine k4.mono ?_)
 clear k4
 rintro e w15 ⟨rfl, k0⟩
 obtain ⟨kg, kh, ki, kj, kk⟩ := k2.b2 k0
 obtain ⟨kl, km, kn, ko, kq⟩ := k3.b2 k0
 have k7 := Lib.hid (Blw k1.out k0)
 clear k0
 go_wp2
 go_ret
 exact ⟨rfl, k7.out⟩
theorem icmp_any (a0 a1 b0 b1 : Value) (x y : Int) (w : World) (hx : IntV w a0 a1 x) (hy : IntV w b0 b1 y) :
  Calls Tryz.prog 84 #[.agg #[a0, a1], .agg #[b0, b1]] w fun e w' => e = .returned (.int .i64 (cmpZ x y)) ∧ Below w.heap.size w w' := by
 obtain ⟨a, rfl, sa, ca, va⟩ := hx
 obtain ⟨b, rfl, sb, cb, vb⟩ := hy
 by_cases h1 : x < 0 <;> by_cases h2 : y < 0
 ·have h := icmp_2 a1 b1 a b w sa sb ca cb
  rw [va, vb] at h
  have e : cmpZ (y.natAbs : Int) (x.natAbs : Int) = cmpZ x y := by
   unfold cmpZ
   by_cases h3 : x < y
   ·rw [if_pos (by omega), if_pos h3]
   ·by_cases h4 : y < x
    ·rw [if_neg (by omega), if_pos (by omega), if_neg (by omega), if_pos h4]
    ·rw [if_neg (by omega), if_neg (by omega), if_neg (by omega), if_neg (by omega)]
  rw [e] at h
  rw [decide_eq_true h1, decide_eq_true h2]
  exact h
 ·have h := icmp_0 a1 b1 a b w sa sb ca cb
  rw [decide_eq_true h1, decide_eq_false h2, cmpZ_lt (by omega)]
  exact h
 ·have h := icmp_1 a1 b1 a b w sa sb ca cb
  rw [decide_eq_false h1, decide_eq_true h2, cmpZ_gt (by omega)]
  exact h
 ·have h := icmp_3 a1 b1 a b w sa sb ca cb
  rw [va, vb] at h
  have e : cmpZ (x.natAbs : Int) (y.natAbs : Int) = cmpZ x y := by
   rw [show (x.natAbs : Int) = x by omega, show (y.natAbs : Int) = y by omega]
  rw [e] at h
  rw [decide_eq_false h1, decide_eq_false h2]
  exact h
set_option maxRecDepth 100000 in
theorem rcmp_0 (j k : Nat) (a0 a1 a2 a3 b0 b1 b2 b3 : Value) (r : Rat) (t : Rat) (w : World) (ha : RatV w a0 a1 a2 a3 r) (hb : RatV w b0 b1 b2 b3 t) (ba : Bq j r) (bb : Bq k t) (hd : sgnZ r.num ≠ sgnZ t.num) (hk : 10 * (j + k) + 100 ≤ 800000000000) :
  Calls Tryz.prog 56 #[.agg #[a0, a1, a2, a3], .agg #[b0, b1, b2, b3]] w (fun e w' => e = .returned (.int .i64 (cmpZ (sgnZ r.num) (sgnZ t.num))) ∧ Below w.heap.size w w') := by
 obtain ⟨qa0, qa1, qa2, qa3⟩ := ha.ones
 obtain ⟨qb0, qb1, qb2, qb3⟩ := hb.ones
 have Hha := Lib.hid ha; have Hhb := Lib.hid hb; have Hba := Lib.hid ba; have Hbb := Lib.hid bb
 clear ha hb ba bb
 have hq1 : (sgnZ r.num == sgnZ t.num) = false := beq_eq_false_iff_ne.2 hd
 have hq2 : (sgnZ r.num != sgnZ t.num) = true := by simp [hd]
 clear hd
 go_enter Tryz.func56, Tryz.ntmps56
 go_upto_region 1 with fail
 generalize hW : (w.alloc _).alloc _ = W1
 obtain ⟨ka, kb, hB⟩ := box2 hW
 have k1 := Lib.hid hB; clear hW hB
 have F5 := Lib.hid (Hha.out.kp (.of k1.out))
 have F6 := Lib.hid (Hhb.out.kp (.of k1.out))
 go_upto_region 1 with fail
 generalize hW : W1.drew = W7
 have hB : Below W1.heap.size W1 W7 := by rw [← hW]; exact (Below.refl _ _).drew
 have ke := ka.below hB
 have kf := kb.below hB
 have kg := Lib.hid (F5.out.kp (.of hB))
 have kh := Lib.hid (F6.out.kp (.of hB))
 have ki := Lib.hid (Blw k1.out hB)
 clear hB
 generalize hF : ({ tmps := _, defers := _ } : Act) = F
 have ev2 : F.eval (.tmp 2) = .pointer (some ⟨w.heap.size, 0, none⟩) := by rw [← hF]; rfl
 have ev3 : F.eval (.tmp 3) = .pointer (some ⟨w.heap.size + 1, 0, none⟩) := by rw [← hF]; rfl
 have HF := Lib.hid hF; clear hF
 refine wp_flow_tab true hW 6 [(7, []), (8, [0]), (9, []), (10, [2]), (5, [1]), (6, [3])] [SC (.agg #[a0, a1, a2, a3]), SC (.int .i64 (sgnZ r.num)), SC (.agg #[b0, b1, b2, b3]), SC (.int .i64 (sgnZ t.num)), SC (.int .i64 (sgnZ r.num)), SC (.int .i64 (sgnZ t.num))] [false, false, false, false, false, false] (by kernel_rfl) (by kernel_rfl) (by kernel_rfl) (by kernel_rfl) (by kernel_rfl) (by rw [← HF.out]; simp) ⟨SC.mono _, SC.mono _, SC.mono _, SC.mono _, SC.mono _, SC.mono _, trivial⟩ ?_ ?_
 ·intro kq hkq a wx hB hp hs
  have hcase : kq = 0 ∨ kq = 1 ∨ kq = 2 ∨ kq = 3 ∨ kq = 4 ∨ kq = 5 := by omega
  rcases hcase with rfl | rfl | rfl | rfl | rfl | rfl
  ·exact ⟨_, rfl, ld_Rat rfl ((hs 2 rfl).trans ev2) (ke.below hB) rfl rfl rfl rfl⟩
  ·obtain ⟨k0, -⟩ := hp
   exact ⟨_, rfl, Does.rc (f := 41) (call1 rfl (fun _ => by simp [go_sem]) k0) (rsign_any a0 a1 a2 a3 r wx (kg.out.kp (.of hB)))⟩
  ·exact ⟨_, rfl, ld_Rat rfl ((hs 3 rfl).trans ev3) (kf.below hB) rfl rfl rfl rfl⟩
  ·obtain ⟨k0, -⟩ := hp
   exact ⟨_, rfl, Does.rc (f := 41) (call1 rfl (fun _ => by simp [go_sem]) k0) (rsign_any b0 b1 b2 b3 t wx (kh.out.kp (.of hB)))⟩
  ·obtain ⟨k0, -⟩ := hp
   have e0 : a.eval (.tmp 8) = .int .i64 (sgnZ r.num) := k0
   simp [Act.eval] at e0
   exact ⟨_, rfl, Does.val (by simp [execOp, Act.eval, e0, go_sem]) rfl⟩
  ·obtain ⟨k0, -⟩ := hp
   have e0 : a.eval (.tmp 10) = .int .i64 (sgnZ t.num) := k0
   simp [Act.eval] at e0
   exact ⟨_, rfl, Does.val (by simp [execOp, Act.eval, e0, go_sem]) rfl⟩
 ·intro val wx hB hsp hdis
  have e4 : val 4 = .int .i64 (sgnZ r.num) := hsp 4 (by omega)
  have e5 : val 5 = .int .i64 (sgnZ t.num) := hsp 5 (by omega)
  rw [← HF.out]
  change wpList _ _ _ [] _ _
  simp only [puts, vals, List.map_cons, List.map_nil, List.foldl_cons, List.foldl_nil, if_true, Nat.zero_add, Nat.reduceAdd, e4, e5, List.setIfInBounds_toArray, List.set_cons_succ, List.set_cons_zero]
  clear hsp hdis HF e4 e5
  clear ev2 ev3
  obtain ⟨w14, rfl⟩ : ∃ W : World, W = wx := ⟨_, rfl⟩
  have kj := Lib.hid (Blw ki.out hB)
  clear hB
  go_wp2_with fail
  have k5 := iof_any (sgnZ r.num) w14 (sgn64 _)
  (with_reducible refine k5.mono ?_)
  clear k5
  rintro e w20 ⟨m0, m1, rfl, k2, k6⟩
  have kk := Lib.hid (Blw kj.out k6)
  have kl := Lib.hid k2
  obtain ⟨o_m0, o_m1⟩ := k2.ones
  clear k2 k6
  go_wp2_with fail
  have k7 := iof_any (sgnZ t.num) w20 (sgn64 _)
  (with_reducible refine k7.mono ?_)
  clear k7
  rintro e w28 ⟨n0, n1, rfl, k3, k4⟩
  have km := Lib.hid (kl.out.kp (.of k4))
  have kn := Lib.hid (Blw kk.out k4)
  have ko := Lib.hid k3
  obtain ⟨o_n0, o_n1⟩ := k3.ones
  clear k3 k4
  go_wp2_with fail
  have k8 := icmp_any m0 m1 n0 n1 _ _ w28 km.out ko.out
  (with_reducible refine k8.mono ?_)
  clear k8
  rintro e w37 ⟨rfl, k9⟩
  have kr := Lib.hid (Blw kn.out k9)
  clear k9
  go_wp2
  go_ret
  exact ⟨rfl, kr.out⟩
set_option maxRecDepth 100000 in
theorem rcmp_1 (j k : Nat) (a0 a1 a2 a3 b0 b1 b2 b3 : Value) (r : Rat) (t : Rat) (w : World) (ha : RatV w a0 a1 a2 a3 r) (hb : RatV w b0 b1 b2 b3 t) (ba : Bq j r) (bb : Bq k t) (hd : sgnZ r.num = sgnZ t.num) (hz : sgnZ r.num = 0) (hk : 10 * (j + k) + 100 ≤ 800000000000) :
  Calls Tryz.prog 56 #[.agg #[a0, a1, a2, a3], .agg #[b0, b1, b2, b3]] w (fun e w' => e = .returned (.int .i64 (cmpZ (sgnZ r.num) (sgnZ t.num))) ∧ Below w.heap.size w w') := by
 obtain ⟨qa0, qa1, qa2, qa3⟩ := ha.ones
 obtain ⟨qb0, qb1, qb2, qb3⟩ := hb.ones
 have Hha := Lib.hid ha; have Hhb := Lib.hid hb; have Hba := Lib.hid ba; have Hbb := Lib.hid bb
 clear ha hb ba bb
 have hq1 : (sgnZ r.num == sgnZ t.num) = true := beq_iff_eq.2 hd
 have hq2 : (sgnZ r.num != sgnZ t.num) = false := by simp [hd]
 have hq3 : (sgnZ r.num == 0) = true := beq_iff_eq.2 hz
 clear hd hz
 go_enter Tryz.func56, Tryz.ntmps56
 go_upto_region 1 with fail
 generalize hW : (w.alloc _).alloc _ = W1
 obtain ⟨ka, kb, hB⟩ := box2 hW
 have k1 := Lib.hid hB; clear hW hB
 have F5 := Lib.hid (Hha.out.kp (.of k1.out))
 have F6 := Lib.hid (Hhb.out.kp (.of k1.out))
 go_upto_region 1 with fail
 generalize hW : W1.drew = W7
 have hB : Below W1.heap.size W1 W7 := by rw [← hW]; exact (Below.refl _ _).drew
 have ke := ka.below hB
 have kf := kb.below hB
 have kg := Lib.hid (F5.out.kp (.of hB))
 have kh := Lib.hid (F6.out.kp (.of hB))
 have ki := Lib.hid (Blw k1.out hB)
 clear hB
 generalize hF : ({ tmps := _, defers := _ } : Act) = F
 have ev2 : F.eval (.tmp 2) = .pointer (some ⟨w.heap.size, 0, none⟩) := by rw [← hF]; rfl
 have ev3 : F.eval (.tmp 3) = .pointer (some ⟨w.heap.size + 1, 0, none⟩) := by rw [← hF]; rfl
 have HF := Lib.hid hF; clear hF
 refine wp_flow_tab true hW 6 [(7, []), (8, [0]), (9, []), (10, [2]), (5, [1]), (6, [3])] [SC (.agg #[a0, a1, a2, a3]), SC (.int .i64 (sgnZ r.num)), SC (.agg #[b0, b1, b2, b3]), SC (.int .i64 (sgnZ t.num)), SC (.int .i64 (sgnZ r.num)), SC (.int .i64 (sgnZ t.num))] [false, false, false, false, false, false] (by kernel_rfl) (by kernel_rfl) (by kernel_rfl) (by kernel_rfl) (by kernel_rfl) (by rw [← HF.out]; simp) ⟨SC.mono _, SC.mono _, SC.mono _, SC.mono _, SC.mono _, SC.mono _, trivial⟩ ?_ ?_
 ·intro kq hkq a wx hB hp hs
  have hcase : kq = 0 ∨ kq = 1 ∨ kq = 2 ∨ kq = 3 ∨ kq = 4 ∨ kq = 5 := by omega
  rcases hcase with rfl | rfl | rfl | rfl | rfl | rfl
  ·exact ⟨_, rfl, ld_Rat rfl ((hs 2 rfl).trans ev2) (ke.below hB) rfl rfl rfl rfl⟩
  ·obtain ⟨k0, -⟩ := hp
   exact ⟨_, rfl, Does.rc (f := 41) (call1 rfl (fun _ => by simp [go_sem]) k0) (rsign_any a0 a1 a2 a3 r wx (kg.out.kp (.of hB)))⟩
  ·exact ⟨_, rfl, ld_Rat rfl ((hs 3 rfl).trans ev3) (kf.below hB) rfl rfl rfl rfl⟩
  ·obtain ⟨k0, -⟩ := hp
   exact ⟨_, rfl, Does.rc (f := 41) (call1 rfl (fun _ => by simp [go_sem]) k0) (rsign_any b0 b1 b2 b3 t wx (kh.out.kp (.of hB)))⟩
  ·obtain ⟨k0, -⟩ := hp
   have e0 : a.eval (.tmp 8) = .int .i64 (sgnZ r.num) := k0
   simp [Act.eval] at e0
   exact ⟨_, rfl, Does.val (by simp [execOp, Act.eval, e0, go_sem]) rfl⟩
  ·obtain ⟨k0, -⟩ := hp
   have e0 : a.eval (.tmp 10) = .int .i64 (sgnZ t.num) := k0
   simp [Act.eval] at e0
   exact ⟨_, rfl, Does.val (by simp [execOp, Act.eval, e0, go_sem]) rfl⟩
 ·intro val wx hB hsp hdis
  have e4 : val 4 = .int .i64 (sgnZ r.num) := hsp 4 (by omega)
  have e5 : val 5 = .int .i64 (sgnZ t.num) := hsp 5 (by omega)
  rw [← HF.out]
  change wpList _ _ _ [] _ _
  simp only [puts, vals, List.map_cons, List.map_nil, List.foldl_cons, List.foldl_nil, if_true, Nat.zero_add, Nat.reduceAdd, e4, e5, List.setIfInBounds_toArray, List.set_cons_succ, List.set_cons_zero]
  clear hsp hdis HF e4 e5
  clear ev2 ev3
  obtain ⟨w14, rfl⟩ : ∃ W : World, W = wx := ⟨_, rfl⟩
  have kj := Lib.hid (Blw ki.out hB)
  clear hB
  go_wp2_with fail
  have k5 := iof_any (sgnZ r.num) w14 (sgn64 _)
  (with_reducible refine k5.mono ?_)
  clear k5
  rintro e w20 ⟨m0, m1, rfl, k2, k6⟩
  have kk := Lib.hid (Blw kj.out k6)
  have kl := Lib.hid k2
  obtain ⟨o_m0, o_m1⟩ := k2.ones
  clear k2 k6
  go_wp2_with fail
  have k7 := iof_any (sgnZ t.num) w20 (sgn64 _)
  (with_reducible refine k7.mono ?_)
  clear k7
  rintro e w28 ⟨n0, n1, rfl, k3, k4⟩
  have km := Lib.hid (kl.out.kp (.of k4))
  have kn := Lib.hid (Blw kk.out k4)
  have ko := Lib.hid k3
  obtain ⟨o_n0, o_n1⟩ := k3.ones
  clear k3 k4
  go_wp2_with fail
  have k8 := icmp_any m0 m1 n0 n1 _ _ w28 km.out ko.out
  (with_reducible refine k8.mono ?_)
  clear k8
  rintro e w37 ⟨rfl, k9⟩
  have kr := Lib.hid (Blw kn.out k9)
  clear k9
  go_wp2
  go_ret
  exact ⟨rfl, kr.out⟩
set_option maxRecDepth 100000 in
theorem rcmp_2 (j k : Nat) (a0 a1 a2 a3 b0 b1 b2 b3 : Value) (r : Rat) (t : Rat) (w : World) (ha : RatV w a0 a1 a2 a3 r) (hb : RatV w b0 b1 b2 b3 t) (ba : Bq j r) (bb : Bq k t) (hd : sgnZ r.num = sgnZ t.num) (hz : sgnZ r.num ≠ 0) (hk : 10 * (j + k) + 100 ≤ 800000000000) :
  Calls Tryz.prog 56 #[.agg #[a0, a1, a2, a3], .agg #[b0, b1, b2, b3]] w (fun e w' => e = .returned (.int .i64 (cmpZ (r.num * t.den) (t.num * r.den))) ∧ Below w.heap.size w w') := by
 obtain ⟨qa0, qa1, qa2, qa3⟩ := ha.ones
 obtain ⟨qb0, qb1, qb2, qb3⟩ := hb.ones
 have Hha := Lib.hid ha; have Hhb := Lib.hid hb; have Hba := Lib.hid ba; have Hbb := Lib.hid bb
 clear ha hb ba bb
 have hq1 : (sgnZ r.num == sgnZ t.num) = true := beq_iff_eq.2 hd
 have hq2 : (sgnZ r.num != sgnZ t.num) = false := by simp [hd]
 have hq3 : (sgnZ r.num == 0) = false := beq_eq_false_iff_ne.2 hz
 clear hd hz
 go_enter Tryz.func56, Tryz.ntmps56
 go_upto_region 1 with fail
 generalize hW : (w.alloc _).alloc _ = W1
 obtain ⟨kb, kc, hB⟩ := box2 hW
 have k2 := Lib.hid hB; clear hW hB
 have F5 := Lib.hid (Hha.out.kp (.of k2.out))
 have F6 := Lib.hid (Hhb.out.kp (.of k2.out))
 go_upto_region 1 with fail
 generalize hW : W1.drew = W7
 have hB : Below W1.heap.size W1 W7 := by rw [← hW]; exact (Below.refl _ _).drew
 have k3 := kb.below hB
 have k4 := kc.below hB
 have k5 := Lib.hid (F5.out.kp (.of hB))
 have k6 := Lib.hid (F6.out.kp (.of hB))
 have kf := Lib.hid (Blw k2.out hB)
 clear hB
 generalize hF : ({ tmps := _, defers := _ } : Act) = F
 have ev2 : F.eval (.tmp 2) = .pointer (some ⟨w.heap.size, 0, none⟩) := by rw [← hF]; rfl
 have ev3 : F.eval (.tmp 3) = .pointer (some ⟨w.heap.size + 1, 0, none⟩) := by rw [← hF]; rfl
 have HF := Lib.hid hF; clear hF
 refine wp_flow_tab true hW 6 [(7, []), (8, [0]), (9, []), (10, [2]), (5, [1]), (6, [3])] [SC (.agg #[a0, a1, a2, a3]), SC (.int .i64 (sgnZ r.num)), SC (.agg #[b0, b1, b2, b3]), SC (.int .i64 (sgnZ t.num)), SC (.int .i64 (sgnZ r.num)), SC (.int .i64 (sgnZ t.num))] [false, false, false, false, false, false] (by kernel_rfl) (by kernel_rfl) (by kernel_rfl) (by kernel_rfl) (by kernel_rfl) (by rw [← HF.out]; simp) ⟨SC.mono _, SC.mono _, SC.mono _, SC.mono _, SC.mono _, SC.mono _, trivial⟩ ?_ ?_
 ·intro kq hkq a wx hB hp hs
  have hcase : kq = 0 ∨ kq = 1 ∨ kq = 2 ∨ kq = 3 ∨ kq = 4 ∨ kq = 5 := by omega
  rcases hcase with rfl | rfl | rfl | rfl | rfl | rfl
  ·exact ⟨_, rfl, ld_Rat rfl ((hs 2 rfl).trans ev2) (k3.below hB) rfl rfl rfl rfl⟩
  ·obtain ⟨k0, -⟩ := hp
   exact ⟨_, rfl, Does.rc (f := 41) (call1 rfl (fun _ => by simp [go_sem]) k0) (rsign_any a0 a1 a2 a3 r wx (k5.out.kp (.of hB)))⟩
  ·exact ⟨_, rfl, ld_Rat rfl ((hs 3 rfl).trans ev3) (k4.below hB) rfl rfl rfl rfl⟩
  ·obtain ⟨k0, -⟩ := hp
   exact ⟨_, rfl, Does.rc (f := 41) (call1 rfl (fun _ => by simp [go_sem]) k0) (rsign_any b0 b1 b2 b3 t wx (k6.out.kp (.of hB)))⟩
  ·obtain ⟨k0, -⟩ := hp
   have e0 : a.eval (.tmp 8) = .int .i64 (sgnZ r.num) := k0
   simp [Act.eval] at e0
   exact ⟨_, rfl, Does.val (by simp [execOp, Act.eval, e0, go_sem]) rfl⟩
  ·obtain ⟨k0, -⟩ := hp
   have e0 : a.eval (.tmp 10) = .int .i64 (sgnZ t.num) := k0
   simp [Act.eval] at e0
   exact ⟨_, rfl, Does.val (by simp [execOp, Act.eval, e0, go_sem]) rfl⟩
 ·intro val wx hB hsp hdis
  have e4 : val 4 = .int .i64 (sgnZ r.num) := hsp 4 (by omega)
  have e5 : val 5 = .int .i64 (sgnZ t.num) := hsp 5 (by omega)
  rw [← HF.out]
  change wpList _ _ _ [] _ _
  simp only [puts, vals, List.map_cons, List.map_nil, List.foldl_cons, List.foldl_nil, if_true, Nat.zero_add, Nat.reduceAdd, e4, e5, List.setIfInBounds_toArray, List.set_cons_succ, List.set_cons_zero]
  clear hsp hdis HF e4 e5
  clear ev2 ev3
  obtain ⟨w14, rfl⟩ : ∃ W : World, W = wx := ⟨_, rfl⟩
  have kg := k3.below hB
  have kh := k4.below hB
  have ki := Lib.hid (k5.out.kp (.of hB))
  have kj := Lib.hid (k6.out.kp (.of hB))
  have kk := Lib.hid (Blw kf.out hB)
  clear hB
  go_upto_region 4 with fail
  go_upto_region 4 with fail
  generalize hW : w14.drew = W20
  have hB : Below w14.heap.size w14 W20 := by rw [← hW]; exact (Below.refl _ _).drew
  have k7 := kg.below hB
  have k8 := kh.below hB
  have k9 := Lib.hid (ki.out.kp (.of hB))
  have ka := Lib.hid (kj.out.kp (.of hB))
  have kl := Lib.hid (Blw kk.out hB)
  clear hB
  generalize hF : ({ tmps := _, defers := _ } : Act) = F
  have ev2 : F.eval (.tmp 2) = .pointer (some ⟨w.heap.size, 0, none⟩) := by rw [← hF]; rfl
  have ev3 : F.eval (.tmp 3) = .pointer (some ⟨w.heap.size + 1, 0, none⟩) := by rw [← hF]; rfl
  have HF := Lib.hid hF; clear hF
  refine wp_flow_tab true hW 12 [(23, []), (24, [0]), (25, []), (26, [2]), (27, [1, 3]), (28, []), (29, [5]), (30, []), (31, [7]), (32, [6, 8]), (33, [4, 9]), (4, [10])] [SC (.pointer (some ⟨w.heap.size, 0, none⟩)), SC (.agg #[a0, a1]), SC (.agg #[b0, b1, b2, b3]), SI ((t.den : Int)), SI (r.num * t.den), SC (.pointer (some ⟨w.heap.size + 1, 0, none⟩)), SC (.agg #[b0, b1]), SC (.agg #[a0, a1, a2, a3]), SI ((r.den : Int)), SI (t.num * r.den), SC (.int .i64 (cmpZ (r.num * t.den) (t.num * r.den))), SC (.int .i64 (cmpZ (r.num * t.den) (t.num * r.den)))] [false, false, false, false, false, false, false, false, false, false, false, false] (by kernel_rfl) (by kernel_rfl) (by kernel_rfl) (by kernel_rfl) (by kernel_rfl) (by rw [← HF.out]; simp) ⟨SC.mono _, SC.mono _, SC.mono _, SI.mono _, SI.mono _, SC.mono _, SC.mono _, SC.mono _, SI.mono _, SI.mono _, SC.mono _, SC.mono _, trivial⟩ ?_ ?_
  ·intro kq hkq a wx hB hp hs
   have hcase : kq = 0 ∨ kq = 1 ∨ kq = 2 ∨ kq = 3 ∨ kq = 4 ∨ kq = 5 ∨ kq = 6 ∨ kq = 7 ∨ kq = 8 ∨ kq = 9 ∨ kq = 10 ∨ kq = 11 := by omega
   rcases hcase with rfl | rfl | rfl | rfl | rfl | rfl | rfl | rfl | rfl | rfl | rfl | rfl
   ·exact ⟨_, rfl, fa_Rat0 rfl ((hs 2 rfl).trans ev2)⟩
   ·obtain ⟨k0, -⟩ := hp
    exact ⟨_, rfl, ld_Int rfl k0 (k7.below hB) rfl rfl⟩
   ·exact ⟨_, rfl, ld_Rat rfl ((hs 3 rfl).trans ev3) (k8.below hB) rfl rfl rfl rfl⟩
   ·obtain ⟨k0, -⟩ := hp
    exact ⟨_, rfl, Does.ri (f := 74) (call1 rfl (fun _ => by simp [go_sem]) k0) (den_any b0 b1 b2 b3 t wx (ka.out.kp (.of hB)))⟩
   ·obtain ⟨k0, k1, -⟩ := hp
    obtain ⟨d0, d1, e1, h_d⟩ := k1
    replace e1 : a.eval (.tmp 26) = .agg #[d0, d1] := e1
    exact ⟨_, rfl, Does.ri (f := 73) (call2 rfl (fun _ => by simp [go_sem]) k0 e1) (imul_any j k a0 a1 d0 d1 r.num t.den wx ((k9.out.kp (.of hB))).1 h_d Hba.out.1 Hbb.out.2 (by omega))⟩
   ·exact ⟨_, rfl, fa_Rat0 rfl ((hs 3 rfl).trans ev3)⟩
   ·obtain ⟨k0, -⟩ := hp
    exact ⟨_, rfl, ld_Int rfl k0 (k8.below hB) rfl rfl⟩
   ·exact ⟨_, rfl, ld_Rat rfl ((hs 2 rfl).trans ev2) (k7.below hB) rfl rfl rfl rfl⟩
   ·obtain ⟨k0, -⟩ := hp
    exact ⟨_, rfl, Does.ri (f := 74) (call1 rfl (fun _ => by simp [go_sem]) k0) (den_any a0 a1 a2 a3 r wx (k9.out.kp (.of hB)))⟩
   ·obtain ⟨k0, k1, -⟩ := hp
    obtain ⟨e_0, e_1, e1, h_e_⟩ := k1
    replace e1 : a.eval (.tmp 31) = .agg #[e_0, e_1] := e1
    exact ⟨_, rfl, Does.ri (f := 73) (call2 rfl (fun _ => by simp [go_sem]) k0 e1) (imul_any k j b0 b1 e_0 e_1 t.num r.den wx ((ka.out.kp (.of hB))).1 h_e_ Hbb.out.1 Hba.out.2 (by omega))⟩
   ·obtain ⟨k0, k1, -⟩ := hp
    obtain ⟨u0, u1, e0, h_u⟩ := k0
    replace e0 : a.eval (.tmp 27) = .agg #[u0, u1] := e0
    obtain ⟨v0, v1, e1, h_v⟩ := k1
    replace e1 : a.eval (.tmp 32) = .agg #[v0, v1] := e1
    exact ⟨_, rfl, Does.rc (f := 84) (call2 rfl (fun _ => by simp [go_sem]) e0 e1) (icmp_any u0 u1 v0 v1 _ _ wx h_u h_v)⟩
   ·obtain ⟨k0, -⟩ := hp
    have e0 : a.eval (.tmp 33) = .int .i64 (cmpZ (r.num * t.den) (t.num * r.den)) := k0
    simp [Act.eval] at e0
    exact ⟨_, rfl, Does.val (by simp [execOp, Act.eval, e0, go_sem]) rfl⟩
  ·intro val wx hB hsp hdis
   have e11 : val 11 = .int .i64 (cmpZ (r.num * t.den) (t.num * r.den)) := hsp 11 (by omega)
   rw [← HF.out]
   change wpList _ _ _ [] _ _
   simp only [puts, vals, List.map_cons, List.map_nil, List.foldl_cons, List.foldl_nil, if_true, Nat.zero_add, Nat.reduceAdd, e11, List.setIfInBounds_toArray, List.set_cons_succ, List.set_cons_zero]
   clear hsp hdis HF e11
   clear ev2 ev3
   obtain ⟨w27, rfl⟩ : ∃ W : World, W = wx := ⟨_, rfl⟩
   have km := Lib.hid (Blw kl.out hB)
   clear hB
   go_wp2
   go_ret
   exact ⟨rfl, km.out⟩
theorem rcmp_any (j k : Nat) (a0 a1 a2 a3 b0 b1 b2 b3 : Value) (r t : Rat) (w : World) (ha : RatV w a0 a1 a2 a3 r) (hb : RatV w b0 b1 b2 b3 t) (ba : Bq j r) (bb : Bq k t) (hk : 10 * (j + k) + 100 ≤ 800000000000) :
  Calls Tryz.prog 56 #[.agg #[a0, a1, a2, a3], .agg #[b0, b1, b2, b3]] w (fun e w' => e = .returned (.int .i64 (cmpQ r t)) ∧ Below w.heap.size w w') := by
 by_cases hd : sgnZ r.num = sgnZ t.num
 ·by_cases hz : sgnZ r.num = 0
  ·rw [← cmpQ_sgn (.inr hz)]
   exact rcmp_1 j k a0 a1 a2 a3 b0 b1 b2 b3 r t w ha hb ba bb hd hz hk
  ·rw [← cmp_cross]
   exact rcmp_2 j k a0 a1 a2 a3 b0 b1 b2 b3 r t w ha hb ba bb hd hz hk
 ·rw [← cmpQ_sgn (.inl hd)]
  exact rcmp_0 j k a0 a1 a2 a3 b0 b1 b2 b3 r t w ha hb ba bb hd hk
/-- The order of two vectors. -/
def cmpV (v u : Rat × Rat) : Int := if cmpQ v.1 u.1 = 0 then cmpQ v.2 u.2 else cmpQ v.1 u.1
set_option maxRecDepth 100000 in
theorem vcp_0 (j k : Nat) (a0 a1 a2 a3 a4 a5 a6 a7 b0 b1 b2 b3 b4 b5 b6 b7 : Value) (v : Rat × Rat) (u : Rat × Rat) (w : World) (ha : VecV w a0 a1 a2 a3 a4 a5 a6 a7 v) (hb : VecV w b0 b1 b2 b3 b4 b5 b6 b7 u) (ba : Bv j v) (bb : Bv k u) (hd : cmpQ v.1 u.1 = 0) (hk : 10 * (j + k) + 100 ≤ 800000000000) :
  Calls Tryz.prog 25 #[.agg #[a0, a1, a2, a3, a4, a5, a6, a7], .agg #[b0, b1, b2, b3, b4, b5, b6, b7]] w (fun e w' => e = .returned (.int .i64 (cmpQ v.2 u.2)) ∧ Below w.heap.size w w') := by
 obtain ⟨qa0, qa1, qa2, qa3, qa4, qa5, qa6, qa7⟩ := ha.ones
 obtain ⟨qb0, qb1, qb2, qb3, qb4, qb5, qb6, qb7⟩ := hb.ones
 have Hha := Lib.hid ha; have Hhb := Lib.hid hb; have Hba := Lib.hid ba; have Hbb := Lib.hid bb
 clear ha hb ba bb
 have hq1 : (cmpQ v.1 u.1 == 0) = true := beq_iff_eq.2 hd
 have hq2 : (cmpQ v.1 u.1 != 0) = false := by simp [hd]
 clear hd
 go_enter Tryz.func25, Tryz.ntmps25
 go_wp2_with fail
 generalize hW : (w.alloc _).alloc _ = W1
 obtain ⟨k9, ka, hB⟩ := box2 hW
 have k2 := Lib.hid hB; clear hW hB
 have F5 := Lib.hid (Hha.out.kp (.of k2.out))
 have F6 := Lib.hid (Hhb.out.kp (.of k2.out))
 skip
 have k5 := rcmp_any j k a0 a1 a2 a3 b0 b1 b2 b3 v.1 u.1 W1 (F5.out).1 (F6.out).1 Hba.out.1 Hbb.out.1 hk
 (with_reducible refine k5.mono ?_)
 clear k5
 rintro e w7 ⟨rfl, k0⟩
 have k6 := k9.below k0
 have k7 := ka.below k0
 have kb := Lib.hid (F5.out.kp (.of k0))
 have kc := Lib.hid (F6.out.kp (.of k0))
 have kd := Lib.hid (Blw k2.out k0)
 clear k0
 obtain ⟨kh, ki, kj, kk, kl, km, kn, ko, kq, kr⟩ := k6.f8
 obtain ⟨ks, kt, ku, kv, kw, kx, ky, kz, kA, kB⟩ := k7.f8
 go_wp2_with fail
 have k8 := rcmp_any j k a4 a5 a6 a7 b4 b5 b6 b7 v.2 u.2 w7 (kb.out).2 (kc.out).2 Hba.out.2 Hbb.out.2 hk
 (with_reducible refine k8.mono ?_)
 clear k8
 rintro e w34 ⟨rfl, k1⟩
 have ke := k6.below k1
 have kf := k7.below k1
 have kg := Lib.hid (Blw kd.out k1)
 clear k1
 obtain ⟨kC, kD, kE, kF, kG, kH, kI, kJ, kK, kL⟩ := ke.f8
 obtain ⟨kM, kN, kO, kP, kQ, kR, kS, kT, kU, kV⟩ := kf.f8
 go_wp2
 go_ret
 exact ⟨rfl, kg.out⟩
set_option maxRecDepth 100000 in
theorem vcp_1 (j k : Nat) (a0 a1 a2 a3 a4 a5 a6 a7 b0 b1 b2 b3 b4 b5 b6 b7 : Value) (v : Rat × Rat) (u : Rat × Rat) (w : World) (ha : VecV w a0 a1 a2 a3 a4 a5 a6 a7 v) (hb : VecV w b0 b1 b2 b3 b4 b5 b6 b7 u) (ba : Bv j v) (bb : Bv k u) (hd : cmpQ v.1 u.1 ≠ 0) (hk : 10 * (j + k) + 100 ≤ 800000000000) :
  Calls Tryz.prog 25 #[.agg #[a0, a1, a2, a3, a4, a5, a6, a7], .agg #[b0, b1, b2, b3, b4, b5, b6, b7]] w (fun e w' => e = .returned (.int .i64 (cmpQ v.1 u.1)) ∧ Below w.heap.size w w') := by
 obtain ⟨qa0, qa1, qa2, qa3, qa4, qa5, qa6, qa7⟩ := ha.ones
 obtain ⟨qb0, qb1, qb2, qb3, qb4, qb5, qb6, qb7⟩ := hb.ones
 have Hha := Lib.hid ha; have Hhb := Lib.hid hb; have Hba := Lib.hid ba; have Hbb := Lib.hid bb
 clear ha hb ba bb
 have hq1 : (cmpQ v.1 u.1 == 0) = false := beq_eq_false_iff_ne.2 hd
 have hq2 : (cmpQ v.1 u.1 != 0) = true := by simp [hd]
 clear hd
 go_enter Tryz.func25, Tryz.ntmps25
 go_wp2_with fail
 generalize hW : (w.alloc _).alloc _ = W1
 obtain ⟨k3, k4, hB⟩ := box2 hW
 have k1 := Lib.hid hB; clear hW hB
 have F5 := Lib.hid (Hha.out.kp (.of k1.out))
 have F6 := Lib.hid (Hhb.out.kp (.of k1.out))
 skip
 have k2 := rcmp_any j k a0 a1 a2 a3 b0 b1 b2 b3 v.1 u.1 W1 (F5.out).1 (F6.out).1 Hba.out.1 Hbb.out.1 hk
 (with_reducible refine k2.mono ?_)
 clear k2
 rintro e w7 ⟨rfl, k0⟩
 have k7 := k3.below k0
 have k8 := k4.below k0
 have k9 := Lib.hid (Blw k1.out k0)
 clear k0
 obtain ⟨ka, kb, kc, kd, ke, kf, kg, kh, ki, kj⟩ := k7.f8
 obtain ⟨kk, kl, km, kn, ko, kq, kr, ks, kt, ku⟩ := k8.f8
 go_wp2
 go_ret
 exact ⟨rfl, k9.out⟩
theorem vcp_any (j k : Nat) (a0 a1 a2 a3 a4 a5 a6 a7 b0 b1 b2 b3 b4 b5 b6 b7 : Value) (v u : Rat × Rat) (w : World) (ha : VecV w a0 a1 a2 a3 a4 a5 a6 a7 v) (hb : VecV w b0 b1 b2 b3 b4 b5 b6 b7 u) (ba : Bv j v) (bb : Bv k u) (hk : 10 * (j + k) + 100 ≤ 800000000000) :
  Calls Tryz.prog 25 #[.agg #[a0, a1, a2, a3, a4, a5, a6, a7], .agg #[b0, b1, b2, b3, b4, b5, b6, b7]] w (fun e w' => e = .returned (.int .i64 (cmpV v u)) ∧ Below w.heap.size w w') := by
 unfold cmpV
 by_cases hd : cmpQ v.1 u.1 = 0
 ·rw [if_pos hd]; exact vcp_0 j k a0 a1 a2 a3 a4 a5 a6 a7 b0 b1 b2 b3 b4 b5 b6 b7 v u w ha hb ba bb hd hk
 ·rw [if_neg hd]; exact vcp_1 j k a0 a1 a2 a3 a4 a5 a6 a7 b0 b1 b2 b3 b4 b5 b6 b7 v u w ha hb ba bb hd hk
end Go.Proofs.YtonkbckgbfcnkaaGreat
