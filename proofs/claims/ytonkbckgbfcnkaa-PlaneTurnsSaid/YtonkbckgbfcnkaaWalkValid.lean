/-
 THE WALKS of integer.Valid, rat.Valid and plane.Valid, of canonical numbers.
-/
import Derived.Test.YtonkbckgbfcnkaaWalkPlB
import Derived.Test.YtonkbckgbfcnkaaWalkGcd
import Derived.Test.YtonkbckgbfcnkaaWalkMake
namespace Go.Proofs.Ytonkbckgbfcnkaa
set_option maxHeartbeats 4000000
open Go.RowKit
attribute [local go_sem] run_store_one
set_option linter.unusedVariables false
theorem valid1_any (d : Int) (w : World) (h0 : 0 ≤ d) (h1 : d < 1000000000) : Calls Try.prog 99 #[.int .i64 d] w fun e w' => e = .returned (.bool false) ∧ w = w' := by
 have g0 : decide (d < 0) = false := decide_eq_false (by omega)
 have g1 : decide (1000000000 ≤ d) = false := decide_eq_false (by omega)
 go_enter Try.func99, Try.ntmps99
 go_wp2
 go_ret
 exact ⟨rfl, rfl⟩
theorem index_any (v : Value) (l : List Int) (w : World) (hs : Sl w v l) (hd : I.Dig l) : Calls Try.prog 110 #[v, .func (.func 99) #[] #[]] w fun e w' => e = .returned (.int .i64 (-1)) ∧ w = w' := by
 obtain ⟨A, n, c, rfl, rfl, hc, hm, hr, _⟩ := hs
 unfold maxLen at hm
 have HD := Lib.hid hd; have HR := Lib.hid hr
 clear hd hr
 go_enter Try.func110, Try.ntmps110
 go_wp2
 go_loopw [8] (fun ix wr => ∃ k : Nat, k ≤ l.length ∧ ix = .int .i64 (k : Int) ∧ w = wr) (fun ix _ => (l.length - (intOf ix).toNat))
 case atStart => exact ⟨0, by omega, rfl, rfl⟩
 case round =>
  obtain ⟨k, hk, rfl, rfl⟩ := hrel
  by_cases hk2 : k < l.length
  ·obtain ⟨x, hx⟩ : ∃ x, l[k]? = some x := ⟨_, List.getElem?_eq_getElem hk2⟩
   have hxb := HD.out.get hx
   obtain ⟨b, o, rfl, hb, hcell⟩ := HR.out (by simp; omega)
   have f1 : w.cell? ⟨b, o + k, none⟩ = some (.int .i64 x) := hcell k _ (il_at l hx)
   have hkd := decide_eq_true hk2
   have hk3 : (k : Int) < (l.length : Int) := by omega
   clear hcell hx
   go_wp2_with (go_at_call 99; refine (valid1_any x _ hxb.1 hxb.2).mono ?_; rintro e w' ⟨rfl, rfl⟩)
   go_roundw
   case rel => exact ⟨k + 1, by omega, by go_num, by first | rfl | trivial⟩
   case measure => simp [intOf]; omega
  ·have hkd := decide_eq_false hk2
   go_wp2
   go_ret
   exact ⟨rfl, rfl⟩
theorem contains_any (v : Value) (l : List Int) (w : World) (hs : Sl w v l) (hd : I.Dig l) : Calls Try.prog 98 #[v, .func (.func 99) #[] #[]] w fun e w' => e = .returned (.bool false) ∧ Below w.heap.size w w' := by
 have HS := Lib.hid hs; have HD := Lib.hid hd
 clear hs hd
 go_enter Try.func98, Try.ntmps98
 go_wp2_with (go_at_call 110; refine (index_any v l _ HS.out HD.out).mono ?_; rintro e w' ⟨rfl, rfl⟩)
 go_ret
 exact ⟨rfl, Below.refl _ _⟩
set_option maxRecDepth 100000 in
theorem ivalid_0 (A : Option Addr) (c : Nat) (l : List Int) (w : World) (hs : Sl w (.slice A 0 c) l) (hd : I.Dig l) : Calls Try.prog 82 #[.agg #[.bool false, .slice A 0 c]] w fun e w' => e = .returned (.bool true) ∧ Below w.heap.size w w' := by
 have HS := Lib.hid hs; have HD := Lib.hid hd
 clear hs hd
 go_enter Try.func82, Try.ntmps82
 go_wp2_with fail
 generalize hW : w.alloc _ = W1
 obtain ⟨k3, hB⟩ := box1 hW
 have k1 := Lib.hid hB; clear hW hB
 have F4 := Lib.hid (HS.out.kp (.of k1.out))
 have k2 := contains_any (.slice A 0 c) l W1 F4.out HD.out
 (with_reducible refine k2.mono ?_)
 clear k2
 rintro e w5 ⟨rfl, k0⟩
 have k5 := k3.below k0
 have k6 := Lib.hid (Blw k1.out k0)
 clear k0
 obtain ⟨k7, k8, k9, ka⟩ := k5.f2
 go_wp2
 go_ret
 exact ⟨rfl, k6.out⟩
set_option maxRecDepth 100000 in
theorem ivalid_1 (gg : Bool) (A : Option Addr) (c : Nat) (l : List Int) (d : Int) (b o : Nat) (w : World) (hs : Sl w (.slice A l.length c) l) (hd : I.Dig l) (hA : A = some ⟨b, o, none⟩) (hl : 0 < l.length) (h0 : (d == 0) = false) (hc : Hid (∀ w2, Below w.heap.size w w2 → w2.cell? ⟨b, o + (l.length - 1), none⟩ = some (.int .i64 d))) : Calls Try.prog 82 #[.agg #[.bool gg, .slice A l.length c]] w fun e w' => e = .returned (.bool true) ∧ Below w.heap.size w w' := by
 have HS := Lib.hid hs; have HD := Lib.hid hd
 clear hs hd
 subst hA
 have hz : ((l.length : Int) == 0) = false := beq_eq_false_iff_ne.2 (by omega)
 have h0' : (d != 0) = true := by simpa using h0
 have hp : decide (0 < l.length) = true := decide_eq_true hl
 have hcm : l.length ≤ c ∧ c ≤ maxLen := by
  obtain ⟨_, _, _, e, h1, h2, h3, _⟩ := HS.out
  injection e with _ e1 e2
  omega
 have hcm1 := hcm.1
 have hcm2 := hcm.2
 unfold maxLen at hcm2
 clear hcm
 go_enter Try.func82, Try.ntmps82
 go_wp2_with fail
 generalize hW : w.alloc _ = W1
 obtain ⟨k4, hB⟩ := box1 hW
 have k1 := Lib.hid hB; clear hW hB
 have F4 := Lib.hid (HS.out.kp (.of k1.out))
 have k2 := contains_any (.slice (some ⟨b, o, none⟩) l.length c) l W1 F4.out HD.out
 (with_reducible refine k2.mono ?_)
 clear k2
 rintro e w5 ⟨rfl, k0⟩
 have k6 := k4.below k0
 have k3 := Lib.hid (Blw k1.out k0)
 clear k0
 have q1 := hc.out _ k3.out
 have q2 : w5.cell? ⟨b, o + ((l.length : Int) - 1).toNat, none⟩ = some (.int .i64 d) := by rw [show ((l.length : Int) - 1).toNat = l.length - 1 from by omega]; exact q1
 obtain ⟨k7, k8, k9, ka⟩ := k6.f2
 go_wp2
 go_ret
 exact ⟨rfl, k3.out⟩
theorem ivalid_any (a0 a1 : Value) (x : Int) (w : World) (hx : IntV w a0 a1 x) : Calls Try.prog 82 #[.agg #[a0, a1]] w fun e w' => e = .returned (.bool true) ∧ Below w.heap.size w w' := by
 obtain ⟨l, rfl, hs, hc, hv⟩ := hx
 have hs2 := hs
 obtain ⟨A, n, c, rfl, rfl, _, _, hr, _⟩ := hs2
 by_cases h0 : l.length = 0
 ·have hl := List.eq_nil_of_length_eq_zero h0
  subst hl
  have hx0 : x = 0 := by simp [I.val] at hv; omega
  subst hx0
  exact ivalid_0 A c [] w hs I.Dig.nil
 ·obtain ⟨d, hd⟩ : ∃ d, l[l.length - 1]? = some d := ⟨_, List.getElem?_eq_getElem (by omega)⟩
  obtain ⟨b, o, hA, hb, hcell⟩ := hr (by simp; omega)
  refine ivalid_1 _ A c l d b o w hs hc.1 hA (by omega) ?_ (Lib.hid fun w2 h2 => ?_)
  ·exact beq_eq_false_iff_ne.2 (hc.2 d (by rw [List.getLast?_eq_getElem?]; exact hd))
  ·exact kc (hcell (l.length - 1) _ (il_at l hd)) h2 hb
set_option maxRecDepth 100000 in
theorem rvalid_0 (k : Nat) (a0 a1 : Value) (A : Option Addr) (c : Nat) (r : Rat) (w : World) (hr : RatV w a0 a1 (.bool false) (.slice A 0 c) r) (bq : Bq k r) (hk : k ≤ 1000000000000) (h1 : ¬ dq r = 1) :
  Calls Try.prog 57 #[.agg #[a0, a1, .bool false, .slice A 0 c]] w fun e w' => e = .returned (.bool true) ∧ Below w.heap.size w w' := by
 have o0 := hr.one0
 have o1 := hr.one1
 have HR := Lib.hid hr; have H1 := Lib.hid h1; have HBQ := Lib.hid bq
 clear hr h1 bq
 go_enter Try.func57, Try.ntmps57
 go_wp2_with fail
 generalize hW : w.alloc _ = W1
 obtain ⟨kb, hB⟩ := box1 hW
 have k3 := Lib.hid hB; clear hW hB
 have F4 := Lib.hid (HR.out.kp (.of k3.out))
 have k5 := ivalid_any a0 a1 r.num W1 (F4.out).1
 (with_reducible refine k5.mono ?_)
 clear k5
 rintro e w5 ⟨rfl, k0⟩
 have k6 := kb.below k0
 have F8 := Lib.hid (F4.out.kp (.of k0))
 have kc := Lib.hid (Blw k3.out k0)
 clear k0
 obtain ⟨kh, ki, kj, kk, kl, km⟩ := k6.f4
 go_wp2_with fail
 have k8 := ivalid_any (.bool false) (.slice A 0 c) (dq r) w5 (F8.out).2
 (with_reducible refine k8.mono ?_)
 clear k8
 rintro e w16 ⟨rfl, k1⟩
 have k9 := k6.below k1
 have kd := Lib.hid (F8.out.kp (.of k1))
 have ke := Lib.hid (Blw kc.out k1)
 clear k1
 obtain ⟨kn, ko, kq, kr, ks, kt⟩ := k9.f4
 go_wp2_with fail
 have ka := unit_no (.bool false) (.slice A 0 c) (dq r) w16 (kd.out).2 H1.out
 (with_reducible refine ka.mono ?_)
 clear ka
 rintro e w27 ⟨rfl, k2⟩
 have kf := k9.below k2
 have kg := Lib.hid (Blw ke.out k2)
 clear k2
 obtain ⟨ku, kv, kw, kx, ky, kz⟩ := kf.f4
 go_wp2
 go_ret
 exact ⟨rfl, kg.out⟩
set_option maxRecDepth 100000 in
theorem rvalid_1 (k : Nat) (a0 a1 : Value) (A : Option Addr) (n c : Nat) (r : Rat) (w : World) (hr : RatV w a0 a1 (.bool false) (.slice A n c) r) (bq : Bq k r) (hk : k ≤ 1000000000000) (h1 : ¬ dq r = 1) (hn : ((n : Int) == 0) = false) (hd : dq r = r.den) :
  Calls Try.prog 57 #[.agg #[a0, a1, .bool false, .slice A n c]] w fun e w' => e = .returned (.bool true) ∧ Below w.heap.size w w' := by
 have o0 := hr.one0
 have o1 := hr.one1
 have HR := Lib.hid hr; have H1 := Lib.hid h1; have HBQ := Lib.hid bq; have HDQ := Lib.hid hd
 clear hr h1 bq hd
 go_enter Try.func57, Try.ntmps57
 go_wp2_with fail
 generalize hW : w.alloc _ = W1
 obtain ⟨kk, hB⟩ := box1 hW
 have k6 := Lib.hid hB; clear hW hB
 have F4 := Lib.hid (HR.out.kp (.of k6.out))
 have k8 := ivalid_any a0 a1 r.num W1 (F4.out).1
 (with_reducible refine k8.mono ?_)
 clear k8
 rintro e w5 ⟨rfl, k0⟩
 have k9 := kk.below k0
 have F8 := Lib.hid (F4.out.kp (.of k0))
 have kl := Lib.hid (Blw k6.out k0)
 clear k0
 obtain ⟨kt, ku, kv, kw, kx, ky⟩ := k9.f4
 go_wp2_with fail
 have kb := ivalid_any (.bool false) (.slice A n c) (dq r) w5 (F8.out).2
 (with_reducible refine kb.mono ?_)
 clear kb
 rintro e w16 ⟨rfl, k1⟩
 have kc := k9.below k1
 have kd := Lib.hid (F8.out.kp (.of k1))
 have km := Lib.hid (Blw kl.out k1)
 clear k1
 obtain ⟨kz, kA, kB, kC, kD, kE⟩ := kc.f4
 go_wp2_with fail
 have ke := unit_no (.bool false) (.slice A n c) (dq r) w16 (kd.out).2 H1.out
 (with_reducible refine ke.mono ?_)
 clear ke
 rintro e w27 ⟨rfl, k2⟩
 have kf := kc.below k2
 have kg := Lib.hid (kd.out.kp (.of k2))
 have kn := Lib.hid (Blw km.out k2)
 clear k2
 obtain ⟨kF, kG, kH, kI, kJ, kK⟩ := kf.f4
 go_wp2_with fail
 have kh := igcd_any k a0 a1 (.bool false) (.slice A n c) r.num (dq r) w27 (kg.out).1 (kg.out).2 HBQ.out.1 (by rw [HDQ.out]; exact HBQ.out.2) hk
 (with_reducible refine kh.mono ?_)
 clear kh
 rintro e w38 ⟨g0, g1, rfl, k3, k4⟩
 have ki := kf.below k4
 have ko := Lib.hid (Blw kn.out k4)
 have kq := Lib.hid k3
 obtain ⟨o_g0, o_g1⟩ := k3.ones
 clear k3 k4
 obtain ⟨kL, kM, kN, kO, kP, kQ⟩ := ki.f4
 go_wp2_with fail
 have kj := unit_yes g0 g1 _ w38 kq.out (by rw [HDQ.out, Int.gcd_comm, gcd_inv]; rfl)
 (with_reducible refine kj.mono ?_)
 clear kj
 rintro e w50 ⟨rfl, k5⟩
 have kr := ki.below k5
 have ks := Lib.hid (Blw ko.out k5)
 clear k5
 obtain ⟨kR, kS, kT, kU, kV, kW⟩ := kr.f4
 go_wp2
 go_ret
 exact ⟨rfl, ks.out⟩
theorem rvalid_any (k : Nat) (a0 a1 a2 a3 : Value) (r : Rat) (w : World) (hr : RatV w a0 a1 a2 a3 r) (bq : Bq k r) (hk : k ≤ 1000000000000) :
  Calls Try.prog 57 #[.agg #[a0, a1, a2, a3]] w fun e w' => e = .returned (.bool true) ∧ Below w.heap.size w w' := by
 obtain ⟨g, A, n, c, rfl, rfl⟩ := hr.2.form
 have l1 := hr.2.len
 have hg : g = false := by
  rw [l1.1]
  exact decide_eq_false (by have := dq_nonneg r; omega)
 subst hg
 have h1 : ¬ dq r = 1 := by
  intro h
  by_cases h2 : r.den = 1
  ·rw [dq_one h2] at h; omega
  ·rw [dq_more h2] at h; omega
 by_cases h0 : n = 0
 ·subst h0
  exact rvalid_0 k a0 a1 A c r w hr bq hk h1
 ·exact rvalid_1 k a0 a1 A n c r w hr bq hk h1 (ne0 h0) (dq_more (fun h => h0 (l1.2.2 (dq_zero.2 h))))
theorem one_one : Rat.divInt 1 1 = 1 := rfl
set_option maxRecDepth 100000 in
theorem tvalid_true (k : Nat) (a0 a1 a2 a3 a4 a5 a6 a7 : Value) (t : Rat × Rat) (w : World) (hc : true = decide (t.1 * t.1 + t.2 * t.2 = 1)) (ha : VecV w a0 a1 a2 a3 a4 a5 a6 a7 t) (ba : Bv k t) (hk : 40 * k + 100 ≤ 800000000000) :
  Calls Try.prog 20 #[.agg #[a0, a1, a2, a3, a4, a5, a6, a7]] w (fun e w' => e = .returned (.bool true) ∧ Below w.heap.size w w') := by
 obtain ⟨qa0, qa1, qa2, qa3, qa4, qa5, qa6, qa7⟩ := ha.ones
 have Hha := Lib.hid ha; have Hba := Lib.hid ba
 clear ha ba
 have HC := Lib.hid hc
 clear hc
 go_enter Try.func20, Try.ntmps20
 go_wp2_with fail
 generalize hW : w.alloc _ = W1
 obtain ⟨k6, hB⟩ := box1 hW
 have k5 := Lib.hid hB; clear hW hB
 have F4 := Lib.hid (Hha.out.kp (.of k5.out))
 go_upto_region 1 with fail
 generalize hW : W1.drew = W5
 have hB : Below W1.heap.size W1 W5 := by rw [← hW]; exact (Below.refl _ _).drew
 have k3 := k6.below hB
 have F7 := Lib.hid (F4.out.kp (.of hB))
 have k8 := Lib.hid (Blw k5.out hB)
 clear hB
 generalize hF : ({ tmps := _, defers := _ } : Act) = F
 have ev1 : F.eval (.tmp 1) = .pointer (some ⟨w.heap.size, 0, none⟩) := by rw [← hF]; rfl
 have HF := Lib.hid hF; clear hF
 refine wp_flow_tabG true hW 25 [(3, []), (4, [0]), (5, [1]), (6, [2]), (7, [3]), (8, [4, 3]), (9, [5, 3]), (10, [3, 6]), (11, [7]), (12, [8]), (13, [9, 8]), (14, [8]), (15, [11, 8]), (16, [10, 12, 8]), (17, [8]), (18, [14, 8]), (19, [8]), (20, [16, 8]), (21, [15, 17, 8]), (22, [13, 18, 8]), (23, [19, 8]), (24, [8]), (25, [20, 21, 8]), (26, [8, 22]), (2, [23])] [SC (.pointer (some ⟨w.heap.size, 0, none⟩)), SC (.agg #[a0, a1, a2, a3]), SC (.bool true), SC (.bool true), SC (.pointer (some ⟨w.heap.size, 4, none⟩)), SC (.agg #[a4, a5, a6, a7]), SC (.bool true), SC (.bool true), SC (.bool true), SC (.pointer (some ⟨w.heap.size, 0, none⟩)), SC (.agg #[a0, a1, a2, a3]), SC (.pointer (some ⟨w.heap.size, 0, none⟩)), SC (.agg #[a0, a1, a2, a3]), SR (t.1 * t.1), SC (.pointer (some ⟨w.heap.size, 4, none⟩)), SC (.agg #[a4, a5, a6, a7]), SC (.pointer (some ⟨w.heap.size, 4, none⟩)), SC (.agg #[a4, a5, a6, a7]), SR (t.2 * t.2), SL [t.1 * t.1, t.2 * t.2], SR (rsum [t.1 * t.1, t.2 * t.2]), SR (Rat.divInt 1 1), SC (.bool true), SC (.bool true), SC (.bool true)] [false, false, false, false, false, false, false, false, false, false, false, false, false, false, false, false, false, false, false, false, false, false, false, false, false] (by kernel_rfl) (by kernel_rfl) (by kernel_rfl) (by kernel_rfl) (by kernel_rfl) (by rw [← HF.out]; simp) ⟨SC.mono _, SC.mono _, SC.mono _, SC.mono _, SC.mono _, SC.mono _, SC.mono _, SC.mono _, SC.mono _, SC.mono _, SC.mono _, SC.mono _, SC.mono _, SR.mono _, SC.mono _, SC.mono _, SC.mono _, SC.mono _, SR.mono _, SL.mono _, SR.mono _, SR.mono _, SC.mono _, SC.mono _, SC.mono _, trivial⟩ ?_ ?_
 ·intro kq hkq a wx hB hp hs
  have hcase : kq = 0 ∨ kq = 1 ∨ kq = 2 ∨ kq = 3 ∨ kq = 4 ∨ kq = 5 ∨ kq = 6 ∨ kq = 7 ∨ kq = 8 ∨ kq = 9 ∨ kq = 10 ∨ kq = 11 ∨ kq = 12 ∨ kq = 13 ∨ kq = 14 ∨ kq = 15 ∨ kq = 16 ∨ kq = 17 ∨ kq = 18 ∨ kq = 19 ∨ kq = 20 ∨ kq = 21 ∨ kq = 22 ∨ kq = 23 ∨ kq = 24 := by omega
  rcases hcase with rfl | rfl | rfl | rfl | rfl | rfl | rfl | rfl | rfl | rfl | rfl | rfl | rfl | rfl | rfl | rfl | rfl | rfl | rfl | rfl | rfl | rfl | rfl | rfl | rfl
  ·exact ⟨_, rfl, .inl ⟨wanted_none rfl, fa_Turn0 rfl ((hs 1 rfl).trans ev1)⟩⟩
  ·obtain ⟨k0, -⟩ := hp
   exact ⟨_, rfl, .inl ⟨wanted_none rfl, ld_Rat rfl k0 (k3.below hB) rfl rfl rfl rfl⟩⟩
  ·obtain ⟨k0, -⟩ := hp
   exact ⟨_, rfl, .inl ⟨wanted_none rfl, Does.rc (f := 57) (call1 rfl (fun _ => by simp [go_sem]) k0) (rvalid_any k a0 a1 a2 a3 t.1 wx ((F7.out.kp (.of hB))).1 Hba.out.1 (by omega))⟩⟩
  ·obtain ⟨k0, -⟩ := hp
   have e0 : a.eval (.tmp 5) = .bool true := k0
   simp [Act.eval] at e0
   exact ⟨_, rfl, .inl ⟨wanted_none rfl, Does.val (by simp [execOp, Act.eval, e0, go_sem]) rfl⟩⟩
  ·obtain ⟨k0, -⟩ := hp
   have e0 : a.eval (.tmp 6) = .bool true := k0
   have hgd := e0
   exact ⟨_, rfl, .inl ⟨(wanted_of rfl rfl hgd).trans rfl, fa_Turn1 rfl ((hs 1 rfl).trans ev1)⟩⟩
  ·obtain ⟨k0, k1, -⟩ := hp
   have e1 : a.eval (.tmp 6) = .bool true := k1
   have hgd := e1
   exact ⟨_, rfl, .inl ⟨(wanted_of rfl rfl hgd).trans rfl, ld_Rat rfl k0 (k3.below hB) rfl rfl rfl rfl⟩⟩
  ·obtain ⟨k0, k1, -⟩ := hp
   have e0 : a.eval (.tmp 8) = .agg #[a4, a5, a6, a7] := k0
   have e1 : a.eval (.tmp 6) = .bool true := k1
   have hgd := e1
   exact ⟨_, rfl, .inl ⟨(wanted_of rfl rfl hgd).trans rfl, Does.rc (f := 57) (call1 rfl (fun _ => by simp [go_sem]) e0) (rvalid_any k a4 a5 a6 a7 t.2 wx ((F7.out.kp (.of hB))).2 Hba.out.2 (by omega))⟩⟩
  ·obtain ⟨k0, k1, -⟩ := hp
   have e0 : a.eval (.tmp 6) = .bool true := k0
   have e1 : a.eval (.tmp 9) = .bool true := k1
   simp [Act.eval] at e0
   simp [Act.eval] at e1
   exact ⟨_, rfl, .inl ⟨wanted_none rfl, Does.val (by simp [execOp, Act.eval, e0, e1, go_sem]) rfl⟩⟩
  ·obtain ⟨k0, -⟩ := hp
   have e0 : a.eval (.tmp 10) = .bool true := k0
   simp [Act.eval] at e0
   exact ⟨_, rfl, .inl ⟨wanted_none rfl, Does.val (by simp [execOp, Act.eval, e0, go_sem]) rfl⟩⟩
  ·obtain ⟨k0, -⟩ := hp
   have e0 : a.eval (.tmp 11) = .bool true := k0
   have hgd := e0
   exact ⟨_, rfl, .inl ⟨(wanted_of rfl rfl hgd).trans rfl, fa_Turn0 rfl ((hs 1 rfl).trans ev1)⟩⟩
  ·obtain ⟨k0, k1, -⟩ := hp
   have e1 : a.eval (.tmp 11) = .bool true := k1
   have hgd := e1
   exact ⟨_, rfl, .inl ⟨(wanted_of rfl rfl hgd).trans rfl, ld_Rat rfl k0 (k3.below hB) rfl rfl rfl rfl⟩⟩
  ·obtain ⟨k0, -⟩ := hp
   have e0 : a.eval (.tmp 11) = .bool true := k0
   have hgd := e0
   exact ⟨_, rfl, .inl ⟨(wanted_of rfl rfl hgd).trans rfl, fa_Turn0 rfl ((hs 1 rfl).trans ev1)⟩⟩
  ·obtain ⟨k0, k1, -⟩ := hp
   have e1 : a.eval (.tmp 11) = .bool true := k1
   have hgd := e1
   exact ⟨_, rfl, .inl ⟨(wanted_of rfl rfl hgd).trans rfl, ld_Rat rfl k0 (k3.below hB) rfl rfl rfl rfl⟩⟩
  ·obtain ⟨k0, k1, k2, -⟩ := hp
   have e0 : a.eval (.tmp 13) = .agg #[a0, a1, a2, a3] := k0
   have e1 : a.eval (.tmp 15) = .agg #[a0, a1, a2, a3] := k1
   have e2 : a.eval (.tmp 11) = .bool true := k2
   have hgd := e2
   exact ⟨_, rfl, .inl ⟨(wanted_of rfl rfl hgd).trans rfl, Does.rr (f := 47) (call2 rfl (fun _ => by simp [go_sem]) e0 e1) (rmul_any (k) (k) a0 a1 a2 a3 a0 a1 a2 a3 (t.1) (t.1) wx ((F7.out.kp (.of hB))).1 ((F7.out.kp (.of hB))).1 Hba.out.1 Hba.out.1 (by omega))⟩⟩
  ·obtain ⟨k0, -⟩ := hp
   have e0 : a.eval (.tmp 11) = .bool true := k0
   have hgd := e0
   exact ⟨_, rfl, .inl ⟨(wanted_of rfl rfl hgd).trans rfl, fa_Turn1 rfl ((hs 1 rfl).trans ev1)⟩⟩
  ·obtain ⟨k0, k1, -⟩ := hp
   have e1 : a.eval (.tmp 11) = .bool true := k1
   have hgd := e1
   exact ⟨_, rfl, .inl ⟨(wanted_of rfl rfl hgd).trans rfl, ld_Rat rfl k0 (k3.below hB) rfl rfl rfl rfl⟩⟩
  ·obtain ⟨k0, -⟩ := hp
   have e0 : a.eval (.tmp 11) = .bool true := k0
   have hgd := e0
   exact ⟨_, rfl, .inl ⟨(wanted_of rfl rfl hgd).trans rfl, fa_Turn1 rfl ((hs 1 rfl).trans ev1)⟩⟩
  ·obtain ⟨k0, k1, -⟩ := hp
   have e1 : a.eval (.tmp 11) = .bool true := k1
   have hgd := e1
   exact ⟨_, rfl, .inl ⟨(wanted_of rfl rfl hgd).trans rfl, ld_Rat rfl k0 (k3.below hB) rfl rfl rfl rfl⟩⟩
  ·obtain ⟨k0, k1, k2, -⟩ := hp
   have e0 : a.eval (.tmp 18) = .agg #[a4, a5, a6, a7] := k0
   have e1 : a.eval (.tmp 20) = .agg #[a4, a5, a6, a7] := k1
   have e2 : a.eval (.tmp 11) = .bool true := k2
   have hgd := e2
   exact ⟨_, rfl, .inl ⟨(wanted_of rfl rfl hgd).trans rfl, Does.rr (f := 47) (call2 rfl (fun _ => by simp [go_sem]) e0 e1) (rmul_any (k) (k) a4 a5 a6 a7 a4 a5 a6 a7 (t.2) (t.2) wx ((F7.out.kp (.of hB))).2 ((F7.out.kp (.of hB))).2 Hba.out.2 Hba.out.2 (by omega))⟩⟩
  ·obtain ⟨k0, k1, k2, -⟩ := hp
   obtain ⟨x0, x1, x2, x3, e0, h_x⟩ := k0
   replace e0 : a.eval (.tmp 16) = .agg #[x0, x1, x2, x3] := e0
   obtain ⟨y0, y1, y2, y3, e1, h_y⟩ := k1
   replace e1 : a.eval (.tmp 21) = .agg #[y0, y1, y2, y3] := e1
   have e2 : a.eval (.tmp 11) = .bool true := k2
   have hgd := e2
   simp [Act.eval] at e0
   simp [Act.eval] at e1
   exact ⟨_, rfl, .inl ⟨(wanted_of rfl rfl hgd).trans rfl, Does.two (T := 26) (by simp [execOp, Act.eval, e0, e1, go_sem]) h_x h_y⟩⟩
  ·obtain ⟨k0, k1, -⟩ := hp
   obtain ⟨vs19, e0⟩ : ∃ v, a.eval (.tmp 22) = v := ⟨_, rfl⟩
   have h_vs19 : RL wx vs19 [t.1 * t.1, t.2 * t.2] := e0 ▸ k0
   have e1 : a.eval (.tmp 11) = .bool true := k1
   have hgd := e1
   exact ⟨_, rfl, .inl ⟨(wanted_of rfl rfl hgd).trans rfl, Does.rr (f := 46) (call1 rfl (fun _ => by simp [go_sem]) e0) (psum_any (k + k) vs19 [t.1 * t.1, t.2 * t.2] wx h_vs19 (two_bits (Hba.out.1.mul Hba.out.1) (Hba.out.2.mul Hba.out.2)) (by simp; omega))⟩⟩
  ·obtain ⟨k0, -⟩ := hp
   have e0 : a.eval (.tmp 11) = .bool true := k0
   have hgd := e0
   exact ⟨_, rfl, .inl ⟨(wanted_of rfl rfl hgd).trans rfl, Does.rr (f := 42) (call2 rfl (fun _ => by simp [go_sem]) rfl rfl) (rof_any 1 1 wx ⟨by omega, by omega⟩ ⟨by omega, by omega⟩)⟩⟩
  ·obtain ⟨k0, k1, k2, -⟩ := hp
   obtain ⟨z0, z1, z2, z3, e0, h_z⟩ := k0
   replace e0 : a.eval (.tmp 23) = .agg #[z0, z1, z2, z3] := e0
   obtain ⟨u0, u1, u2, u3, e1, h_u⟩ := k1
   replace e1 : a.eval (.tmp 24) = .agg #[u0, u1, u2, u3] := e1
   have e2 : a.eval (.tmp 11) = .bool true := k2
   have hgd := e2
   exact ⟨_, rfl, .inl ⟨(wanted_of rfl rfl hgd).trans rfl, Does.rc (f := 28) (call2 rfl (fun _ => by simp [go_sem]) e0 e1) (rsame_any z0 z1 z2 z3 u0 u1 u2 u3 _ _ wx h_z h_u true (by rw [rsum_two, one_one]; exact HC.out))⟩⟩
  ·obtain ⟨k0, k1, -⟩ := hp
   have e0 : a.eval (.tmp 11) = .bool true := k0
   have e1 : a.eval (.tmp 25) = .bool true := k1
   simp [Act.eval] at e0
   simp [Act.eval] at e1
   exact ⟨_, rfl, .inl ⟨wanted_none rfl, Does.val (by simp [execOp, Act.eval, e0, e1, go_sem]) rfl⟩⟩
  ·obtain ⟨k0, -⟩ := hp
   have e0 : a.eval (.tmp 26) = .bool true := k0
   simp [Act.eval] at e0
   exact ⟨_, rfl, .inl ⟨wanted_none rfl, Does.val (by simp [execOp, Act.eval, e0, go_sem]) rfl⟩⟩
 ·intro val wx hB hsp hdis
  have e24 : val 24 = .bool true := hsp 24 (by omega)
  rw [← HF.out]
  change wpList _ _ _ [] _ _
  simp only [puts, vals, List.map_cons, List.map_nil, List.foldl_cons, List.foldl_nil, if_true, Nat.zero_add, Nat.reduceAdd, e24, List.setIfInBounds_toArray, List.set_cons_succ, List.set_cons_zero]
  clear hsp hdis HF e24
  clear ev1
  obtain ⟨w10, rfl⟩ : ∃ W : World, W = wx := ⟨_, rfl⟩
  have kd := Lib.hid (Blw k8.out hB)
  clear hB
  go_wp2
  go_ret
  exact ⟨rfl, kd.out⟩
set_option maxRecDepth 100000 in
theorem tvalid_false (k : Nat) (a0 a1 a2 a3 a4 a5 a6 a7 : Value) (t : Rat × Rat) (w : World) (hc : false = decide (t.1 * t.1 + t.2 * t.2 = 1)) (ha : VecV w a0 a1 a2 a3 a4 a5 a6 a7 t) (ba : Bv k t) (hk : 40 * k + 100 ≤ 800000000000) :
  Calls Try.prog 20 #[.agg #[a0, a1, a2, a3, a4, a5, a6, a7]] w (fun e w' => e = .returned (.bool false) ∧ Below w.heap.size w w') := by
 obtain ⟨qa0, qa1, qa2, qa3, qa4, qa5, qa6, qa7⟩ := ha.ones
 have Hha := Lib.hid ha; have Hba := Lib.hid ba
 clear ha ba
 have HC := Lib.hid hc
 clear hc
 go_enter Try.func20, Try.ntmps20
 go_wp2_with fail
 generalize hW : w.alloc _ = W1
 obtain ⟨k6, hB⟩ := box1 hW
 have k5 := Lib.hid hB; clear hW hB
 have F4 := Lib.hid (Hha.out.kp (.of k5.out))
 go_upto_region 1 with fail
 generalize hW : W1.drew = W5
 have hB : Below W1.heap.size W1 W5 := by rw [← hW]; exact (Below.refl _ _).drew
 have k3 := k6.below hB
 have F7 := Lib.hid (F4.out.kp (.of hB))
 have k8 := Lib.hid (Blw k5.out hB)
 clear hB
 generalize hF : ({ tmps := _, defers := _ } : Act) = F
 have ev1 : F.eval (.tmp 1) = .pointer (some ⟨w.heap.size, 0, none⟩) := by rw [← hF]; rfl
 have HF := Lib.hid hF; clear hF
 refine wp_flow_tabG true hW 25 [(3, []), (4, [0]), (5, [1]), (6, [2]), (7, [3]), (8, [4, 3]), (9, [5, 3]), (10, [3, 6]), (11, [7]), (12, [8]), (13, [9, 8]), (14, [8]), (15, [11, 8]), (16, [10, 12, 8]), (17, [8]), (18, [14, 8]), (19, [8]), (20, [16, 8]), (21, [15, 17, 8]), (22, [13, 18, 8]), (23, [19, 8]), (24, [8]), (25, [20, 21, 8]), (26, [8, 22]), (2, [23])] [SC (.pointer (some ⟨w.heap.size, 0, none⟩)), SC (.agg #[a0, a1, a2, a3]), SC (.bool true), SC (.bool true), SC (.pointer (some ⟨w.heap.size, 4, none⟩)), SC (.agg #[a4, a5, a6, a7]), SC (.bool true), SC (.bool true), SC (.bool true), SC (.pointer (some ⟨w.heap.size, 0, none⟩)), SC (.agg #[a0, a1, a2, a3]), SC (.pointer (some ⟨w.heap.size, 0, none⟩)), SC (.agg #[a0, a1, a2, a3]), SR (t.1 * t.1), SC (.pointer (some ⟨w.heap.size, 4, none⟩)), SC (.agg #[a4, a5, a6, a7]), SC (.pointer (some ⟨w.heap.size, 4, none⟩)), SC (.agg #[a4, a5, a6, a7]), SR (t.2 * t.2), SL [t.1 * t.1, t.2 * t.2], SR (rsum [t.1 * t.1, t.2 * t.2]), SR (Rat.divInt 1 1), SC (.bool false), SC (.bool false), SC (.bool false)] [false, false, false, false, false, false, false, false, false, false, false, false, false, false, false, false, false, false, false, false, false, false, false, false, false] (by kernel_rfl) (by kernel_rfl) (by kernel_rfl) (by kernel_rfl) (by kernel_rfl) (by rw [← HF.out]; simp) ⟨SC.mono _, SC.mono _, SC.mono _, SC.mono _, SC.mono _, SC.mono _, SC.mono _, SC.mono _, SC.mono _, SC.mono _, SC.mono _, SC.mono _, SC.mono _, SR.mono _, SC.mono _, SC.mono _, SC.mono _, SC.mono _, SR.mono _, SL.mono _, SR.mono _, SR.mono _, SC.mono _, SC.mono _, SC.mono _, trivial⟩ ?_ ?_
 ·intro kq hkq a wx hB hp hs
  have hcase : kq = 0 ∨ kq = 1 ∨ kq = 2 ∨ kq = 3 ∨ kq = 4 ∨ kq = 5 ∨ kq = 6 ∨ kq = 7 ∨ kq = 8 ∨ kq = 9 ∨ kq = 10 ∨ kq = 11 ∨ kq = 12 ∨ kq = 13 ∨ kq = 14 ∨ kq = 15 ∨ kq = 16 ∨ kq = 17 ∨ kq = 18 ∨ kq = 19 ∨ kq = 20 ∨ kq = 21 ∨ kq = 22 ∨ kq = 23 ∨ kq = 24 := by omega
  rcases hcase with rfl | rfl | rfl | rfl | rfl | rfl | rfl | rfl | rfl | rfl | rfl | rfl | rfl | rfl | rfl | rfl | rfl | rfl | rfl | rfl | rfl | rfl | rfl | rfl | rfl
  ·exact ⟨_, rfl, .inl ⟨wanted_none rfl, fa_Turn0 rfl ((hs 1 rfl).trans ev1)⟩⟩
  ·obtain ⟨k0, -⟩ := hp
   exact ⟨_, rfl, .inl ⟨wanted_none rfl, ld_Rat rfl k0 (k3.below hB) rfl rfl rfl rfl⟩⟩
  ·obtain ⟨k0, -⟩ := hp
   exact ⟨_, rfl, .inl ⟨wanted_none rfl, Does.rc (f := 57) (call1 rfl (fun _ => by simp [go_sem]) k0) (rvalid_any k a0 a1 a2 a3 t.1 wx ((F7.out.kp (.of hB))).1 Hba.out.1 (by omega))⟩⟩
  ·obtain ⟨k0, -⟩ := hp
   have e0 : a.eval (.tmp 5) = .bool true := k0
   simp [Act.eval] at e0
   exact ⟨_, rfl, .inl ⟨wanted_none rfl, Does.val (by simp [execOp, Act.eval, e0, go_sem]) rfl⟩⟩
  ·obtain ⟨k0, -⟩ := hp
   have e0 : a.eval (.tmp 6) = .bool true := k0
   have hgd := e0
   exact ⟨_, rfl, .inl ⟨(wanted_of rfl rfl hgd).trans rfl, fa_Turn1 rfl ((hs 1 rfl).trans ev1)⟩⟩
  ·obtain ⟨k0, k1, -⟩ := hp
   have e1 : a.eval (.tmp 6) = .bool true := k1
   have hgd := e1
   exact ⟨_, rfl, .inl ⟨(wanted_of rfl rfl hgd).trans rfl, ld_Rat rfl k0 (k3.below hB) rfl rfl rfl rfl⟩⟩
  ·obtain ⟨k0, k1, -⟩ := hp
   have e0 : a.eval (.tmp 8) = .agg #[a4, a5, a6, a7] := k0
   have e1 : a.eval (.tmp 6) = .bool true := k1
   have hgd := e1
   exact ⟨_, rfl, .inl ⟨(wanted_of rfl rfl hgd).trans rfl, Does.rc (f := 57) (call1 rfl (fun _ => by simp [go_sem]) e0) (rvalid_any k a4 a5 a6 a7 t.2 wx ((F7.out.kp (.of hB))).2 Hba.out.2 (by omega))⟩⟩
  ·obtain ⟨k0, k1, -⟩ := hp
   have e0 : a.eval (.tmp 6) = .bool true := k0
   have e1 : a.eval (.tmp 9) = .bool true := k1
   simp [Act.eval] at e0
   simp [Act.eval] at e1
   exact ⟨_, rfl, .inl ⟨wanted_none rfl, Does.val (by simp [execOp, Act.eval, e0, e1, go_sem]) rfl⟩⟩
  ·obtain ⟨k0, -⟩ := hp
   have e0 : a.eval (.tmp 10) = .bool true := k0
   simp [Act.eval] at e0
   exact ⟨_, rfl, .inl ⟨wanted_none rfl, Does.val (by simp [execOp, Act.eval, e0, go_sem]) rfl⟩⟩
  ·obtain ⟨k0, -⟩ := hp
   have e0 : a.eval (.tmp 11) = .bool true := k0
   have hgd := e0
   exact ⟨_, rfl, .inl ⟨(wanted_of rfl rfl hgd).trans rfl, fa_Turn0 rfl ((hs 1 rfl).trans ev1)⟩⟩
  ·obtain ⟨k0, k1, -⟩ := hp
   have e1 : a.eval (.tmp 11) = .bool true := k1
   have hgd := e1
   exact ⟨_, rfl, .inl ⟨(wanted_of rfl rfl hgd).trans rfl, ld_Rat rfl k0 (k3.below hB) rfl rfl rfl rfl⟩⟩
  ·obtain ⟨k0, -⟩ := hp
   have e0 : a.eval (.tmp 11) = .bool true := k0
   have hgd := e0
   exact ⟨_, rfl, .inl ⟨(wanted_of rfl rfl hgd).trans rfl, fa_Turn0 rfl ((hs 1 rfl).trans ev1)⟩⟩
  ·obtain ⟨k0, k1, -⟩ := hp
   have e1 : a.eval (.tmp 11) = .bool true := k1
   have hgd := e1
   exact ⟨_, rfl, .inl ⟨(wanted_of rfl rfl hgd).trans rfl, ld_Rat rfl k0 (k3.below hB) rfl rfl rfl rfl⟩⟩
  ·obtain ⟨k0, k1, k2, -⟩ := hp
   have e0 : a.eval (.tmp 13) = .agg #[a0, a1, a2, a3] := k0
   have e1 : a.eval (.tmp 15) = .agg #[a0, a1, a2, a3] := k1
   have e2 : a.eval (.tmp 11) = .bool true := k2
   have hgd := e2
   exact ⟨_, rfl, .inl ⟨(wanted_of rfl rfl hgd).trans rfl, Does.rr (f := 47) (call2 rfl (fun _ => by simp [go_sem]) e0 e1) (rmul_any (k) (k) a0 a1 a2 a3 a0 a1 a2 a3 (t.1) (t.1) wx ((F7.out.kp (.of hB))).1 ((F7.out.kp (.of hB))).1 Hba.out.1 Hba.out.1 (by omega))⟩⟩
  ·obtain ⟨k0, -⟩ := hp
   have e0 : a.eval (.tmp 11) = .bool true := k0
   have hgd := e0
   exact ⟨_, rfl, .inl ⟨(wanted_of rfl rfl hgd).trans rfl, fa_Turn1 rfl ((hs 1 rfl).trans ev1)⟩⟩
  ·obtain ⟨k0, k1, -⟩ := hp
   have e1 : a.eval (.tmp 11) = .bool true := k1
   have hgd := e1
   exact ⟨_, rfl, .inl ⟨(wanted_of rfl rfl hgd).trans rfl, ld_Rat rfl k0 (k3.below hB) rfl rfl rfl rfl⟩⟩
  ·obtain ⟨k0, -⟩ := hp
   have e0 : a.eval (.tmp 11) = .bool true := k0
   have hgd := e0
   exact ⟨_, rfl, .inl ⟨(wanted_of rfl rfl hgd).trans rfl, fa_Turn1 rfl ((hs 1 rfl).trans ev1)⟩⟩
  ·obtain ⟨k0, k1, -⟩ := hp
   have e1 : a.eval (.tmp 11) = .bool true := k1
   have hgd := e1
   exact ⟨_, rfl, .inl ⟨(wanted_of rfl rfl hgd).trans rfl, ld_Rat rfl k0 (k3.below hB) rfl rfl rfl rfl⟩⟩
  ·obtain ⟨k0, k1, k2, -⟩ := hp
   have e0 : a.eval (.tmp 18) = .agg #[a4, a5, a6, a7] := k0
   have e1 : a.eval (.tmp 20) = .agg #[a4, a5, a6, a7] := k1
   have e2 : a.eval (.tmp 11) = .bool true := k2
   have hgd := e2
   exact ⟨_, rfl, .inl ⟨(wanted_of rfl rfl hgd).trans rfl, Does.rr (f := 47) (call2 rfl (fun _ => by simp [go_sem]) e0 e1) (rmul_any (k) (k) a4 a5 a6 a7 a4 a5 a6 a7 (t.2) (t.2) wx ((F7.out.kp (.of hB))).2 ((F7.out.kp (.of hB))).2 Hba.out.2 Hba.out.2 (by omega))⟩⟩
  ·obtain ⟨k0, k1, k2, -⟩ := hp
   obtain ⟨x0, x1, x2, x3, e0, h_x⟩ := k0
   replace e0 : a.eval (.tmp 16) = .agg #[x0, x1, x2, x3] := e0
   obtain ⟨y0, y1, y2, y3, e1, h_y⟩ := k1
   replace e1 : a.eval (.tmp 21) = .agg #[y0, y1, y2, y3] := e1
   have e2 : a.eval (.tmp 11) = .bool true := k2
   have hgd := e2
   simp [Act.eval] at e0
   simp [Act.eval] at e1
   exact ⟨_, rfl, .inl ⟨(wanted_of rfl rfl hgd).trans rfl, Does.two (T := 26) (by simp [execOp, Act.eval, e0, e1, go_sem]) h_x h_y⟩⟩
  ·obtain ⟨k0, k1, -⟩ := hp
   obtain ⟨vs19, e0⟩ : ∃ v, a.eval (.tmp 22) = v := ⟨_, rfl⟩
   have h_vs19 : RL wx vs19 [t.1 * t.1, t.2 * t.2] := e0 ▸ k0
   have e1 : a.eval (.tmp 11) = .bool true := k1
   have hgd := e1
   exact ⟨_, rfl, .inl ⟨(wanted_of rfl rfl hgd).trans rfl, Does.rr (f := 46) (call1 rfl (fun _ => by simp [go_sem]) e0) (psum_any (k + k) vs19 [t.1 * t.1, t.2 * t.2] wx h_vs19 (two_bits (Hba.out.1.mul Hba.out.1) (Hba.out.2.mul Hba.out.2)) (by simp; omega))⟩⟩
  ·obtain ⟨k0, -⟩ := hp
   have e0 : a.eval (.tmp 11) = .bool true := k0
   have hgd := e0
   exact ⟨_, rfl, .inl ⟨(wanted_of rfl rfl hgd).trans rfl, Does.rr (f := 42) (call2 rfl (fun _ => by simp [go_sem]) rfl rfl) (rof_any 1 1 wx ⟨by omega, by omega⟩ ⟨by omega, by omega⟩)⟩⟩
  ·obtain ⟨k0, k1, k2, -⟩ := hp
   obtain ⟨z0, z1, z2, z3, e0, h_z⟩ := k0
   replace e0 : a.eval (.tmp 23) = .agg #[z0, z1, z2, z3] := e0
   obtain ⟨u0, u1, u2, u3, e1, h_u⟩ := k1
   replace e1 : a.eval (.tmp 24) = .agg #[u0, u1, u2, u3] := e1
   have e2 : a.eval (.tmp 11) = .bool true := k2
   have hgd := e2
   exact ⟨_, rfl, .inl ⟨(wanted_of rfl rfl hgd).trans rfl, Does.rc (f := 28) (call2 rfl (fun _ => by simp [go_sem]) e0 e1) (rsame_any z0 z1 z2 z3 u0 u1 u2 u3 _ _ wx h_z h_u false (by rw [rsum_two, one_one]; exact HC.out))⟩⟩
  ·obtain ⟨k0, k1, -⟩ := hp
   have e0 : a.eval (.tmp 11) = .bool true := k0
   have e1 : a.eval (.tmp 25) = .bool false := k1
   simp [Act.eval] at e0
   simp [Act.eval] at e1
   exact ⟨_, rfl, .inl ⟨wanted_none rfl, Does.val (by simp [execOp, Act.eval, e0, e1, go_sem]) rfl⟩⟩
  ·obtain ⟨k0, -⟩ := hp
   have e0 : a.eval (.tmp 26) = .bool false := k0
   simp [Act.eval] at e0
   exact ⟨_, rfl, .inl ⟨wanted_none rfl, Does.val (by simp [execOp, Act.eval, e0, go_sem]) rfl⟩⟩
 ·intro val wx hB hsp hdis
  have e24 : val 24 = .bool false := hsp 24 (by omega)
  rw [← HF.out]
  change wpList _ _ _ [] _ _
  simp only [puts, vals, List.map_cons, List.map_nil, List.foldl_cons, List.foldl_nil, if_true, Nat.zero_add, Nat.reduceAdd, e24, List.setIfInBounds_toArray, List.set_cons_succ, List.set_cons_zero]
  clear hsp hdis HF e24
  clear ev1
  obtain ⟨w10, rfl⟩ : ∃ W : World, W = wx := ⟨_, rfl⟩
  have kd := Lib.hid (Blw k8.out hB)
  clear hB
  go_wp2
  go_ret
  exact ⟨rfl, kd.out⟩
theorem tvalid_any (k : Nat) (a0 a1 a2 a3 a4 a5 a6 a7 : Value) (t : Rat × Rat) (w : World) (ha : VecV w a0 a1 a2 a3 a4 a5 a6 a7 t) (ba : Bv k t) (hk : 40 * k + 100 ≤ 800000000000) (c : Bool) (hc : c = decide (t.1 * t.1 + t.2 * t.2 = 1)) :
  Calls Try.prog 20 #[.agg #[a0, a1, a2, a3, a4, a5, a6, a7]] w fun e w' => e = .returned (.bool c) ∧ Below w.heap.size w w' := by
 cases c with
 | true => exact tvalid_true k a0 a1 a2 a3 a4 a5 a6 a7 t w hc ha ba hk
 | false => exact tvalid_false k a0 a1 a2 a3 a4 a5 a6 a7 t w hc ha ba hk
end Go.Proofs.Ytonkbckgbfcnkaa
