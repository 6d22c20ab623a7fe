/-
 THE WALKS of the generators: Around, At, Number, Vec, Turn.
-/
import Derived.Test.YtcfejkpadcccbaaGreatWalkPlB
import Derived.Test.YtcfejkpadcccbaaGreatWalkGcd
import Derived.Test.YtcfejkpadcccbaaGreatRef3A
import Derived.Deep.DeepCutAuto
import Derived.Test.YtcfejkpadcccbaaGreatEnS
import Derived.Test.YtcfejkpadcccbaaGreatNew
import Derived.LoopTactic
import Derived.Test.YtcfejkpadcccbaaGreatWalkMul
import Derived.Deep.LoopGhost
namespace Go.Proofs.YtcfejkpadcccbaaGreat
set_option maxHeartbeats 4000000
open Go.RowKit
attribute [local go_sem] run_store_one
set_option linter.unusedVariables false
theorem valid1_any (d : Int) (w : World) (h0 : 0 ≤ d) (h1 : d < 1000000000) : Calls Tryz.prog 126 #[.int .i64 d] w fun e w' => e = .returned (.bool false) ∧ w = w' := by
 have g0 : decide (d < 0) = false := decide_eq_false (by omega)
 have g1 : decide (1000000000 ≤ d) = false := decide_eq_false (by omega)
 go_enter Tryz.func126, Tryz.ntmps126
 go_wp2
 go_ret
 exact ⟨rfl, rfl⟩
theorem index_any (v : Value) (l : List Int) (w : World) (hs : Sl w v l) (hd : I.Dig l) : Calls Tryz.prog 136 #[v, .func (.func 126) #[] #[]] w fun e w' => e = .returned (.int .i64 (-1)) ∧ w = w' := by
 obtain ⟨A, n, c, rfl, rfl, hc, hm, hr, _⟩ := hs
 unfold maxLen at hm
 have HD := Lib.hid hd; have HR := Lib.hid hr
 clear hd hr
 go_enter Tryz.func136, Tryz.ntmps136
 go_wp2
 go_loopw [8] (fun ix wr => ∃ k : Nat, k ≤ l.length ∧ ix = .int .i64 (k : Int) ∧ w = wr) (fun ix _ => (l.length - (intOf ix).toNat))
 case atStart => exact ⟨0, by omega, rfl, rfl⟩
 case round =>
  obtain ⟨k, hk, rfl, rfl⟩ := hrel
  by_cases hk2 : k < l.length
  ·obtain ⟨x, hx⟩ : ∃ x, l[k]? = some x := ⟨_, List.getElem?_eq_getElem hk2⟩
   have hxb := HD.out.get hx
   obtain ⟨b, o, rfl, hb, hcell⟩ := HR.out (by simp; omega)
   have f1 : w.cell? ⟨b, o + k, none⟩ = some (.int .i64 x) := hcell k _ (il_at l hx)
   have hkd := decide_eq_true hk2
   have hk3 : (k : Int) < (l.length : Int) := by omega
   clear hcell hx
   go_wp2_with (go_at_call 126; refine (valid1_any x _ hxb.1 hxb.2).mono ?_; rintro e w' ⟨rfl, rfl⟩)
   go_roundw
   case rel => exact ⟨k + 1, by omega, by go_num, by first | rfl | trivial⟩
   case measure => simp [intOf]; omega
  ·have hkd := decide_eq_false hk2
   go_wp2
   go_ret
   exact ⟨rfl, rfl⟩
theorem contains_any (v : Value) (l : List Int) (w : World) (hs : Sl w v l) (hd : I.Dig l) : Calls Tryz.prog 125 #[v, .func (.func 126) #[] #[]] w fun e w' => e = .returned (.bool false) ∧ Below w.heap.size w w' := by
 have HS := Lib.hid hs; have HD := Lib.hid hd
 clear hs hd
 go_enter Tryz.func125, Tryz.ntmps125
 go_wp2_with (go_at_call 136; refine (index_any v l _ HS.out HD.out).mono ?_; rintro e w' ⟨rfl, rfl⟩)
 go_ret
 exact ⟨rfl, Below.refl _ _⟩
set_option maxRecDepth 100000 in
theorem ivalid_0 (A : Option Addr) (c : Nat) (l : List Int) (w : World) (hs : Sl w (.slice A 0 c) l) (hd : I.Dig l) : Calls Tryz.prog 96 #[.agg #[.bool false, .slice A 0 c]] w fun e w' => e = .returned (.bool true) ∧ Below w.heap.size w w' := by
 have HS := Lib.hid hs; have HD := Lib.hid hd
 clear hs hd
 go_enter Tryz.func96, Tryz.ntmps96
 go_wp2_with fail
 generalize hW : w.alloc _ = W1
 obtain ⟨k3, hB⟩ := box1 hW
 have k1 := Lib.hid hB; clear hW hB
 have F4 := Lib.hid (HS.out.kp (.of k1.out))
 have k2 := contains_any (.slice A 0 c) l W1 F4.out HD.out
 (with_reducible refine k2.mono ?_)
 clear k2
 rintro e w5 ⟨rfl, k0⟩
 have k5 := k3.below k0
 have k6 := Lib.hid (Blw k1.out k0)
 clear k0
 obtain ⟨k7, k8, k9, ka⟩ := k5.f2
 go_wp2
 go_ret
 exact ⟨rfl, k6.out⟩
set_option maxRecDepth 100000 in
theorem ivalid_1 (gg : Bool) (A : Option Addr) (c : Nat) (l : List Int) (d : Int) (b o : Nat) (w : World) (hs : Sl w (.slice A l.length c) l) (hd : I.Dig l) (hA : A = some ⟨b, o, none⟩) (hl : 0 < l.length) (h0 : (d == 0) = false) (hc : Hid (∀ w2, Below w.heap.size w w2 → w2.cell? ⟨b, o + (l.length - 1), none⟩ = some (.int .i64 d))) : Calls Tryz.prog 96 #[.agg #[.bool gg, .slice A l.length c]] w fun e w' => e = .returned (.bool true) ∧ Below w.heap.size w w' := by
 have HS := Lib.hid hs; have HD := Lib.hid hd
 clear hs hd
 subst hA
 have hz : ((l.length : Int) == 0) = false := beq_eq_false_iff_ne.2 (by omega)
 have h0' : (d != 0) = true := by simpa using h0
 have hp : decide (0 < l.length) = true := decide_eq_true hl
 have hcm : l.length ≤ c ∧ c ≤ maxLen := by
  obtain ⟨_, _, _, e, h1, h2, h3, _⟩ := HS.out
  injection e with _ e1 e2
  omega
 have hcm1 := hcm.1
 have hcm2 := hcm.2
 unfold maxLen at hcm2
 clear hcm
 go_enter Tryz.func96, Tryz.ntmps96
 go_wp2_with fail
 generalize hW : w.alloc _ = W1
 obtain ⟨k4, hB⟩ := box1 hW
 have k1 := Lib.hid hB; clear hW hB
 have F4 := Lib.hid (HS.out.kp (.of k1.out))
 have k2 := contains_any (.slice (some ⟨b, o, none⟩) l.length c) l W1 F4.out HD.out
 (with_reducible refine k2.mono ?_)
 clear k2
 rintro e w5 ⟨rfl, k0⟩
 have k6 := k4.below k0
 have k3 := Lib.hid (Blw k1.out k0)
 clear k0
 have q1 := hc.out _ k3.out
 have q2 : w5.cell? ⟨b, o + ((l.length : Int) - 1).toNat, none⟩ = some (.int .i64 d) := by rw [show ((l.length : Int) - 1).toNat = l.length - 1 from by omega]; exact q1
 obtain ⟨k7, k8, k9, ka⟩ := k6.f2
 go_wp2
 go_ret
 exact ⟨rfl, k3.out⟩
theorem ivalid_any (a0 a1 : Value) (x : Int) (w : World) (hx : IntV w a0 a1 x) : Calls Tryz.prog 96 #[.agg #[a0, a1]] w fun e w' => e = .returned (.bool true) ∧ Below w.heap.size w w' := by
 obtain ⟨l, rfl, hs, hc, hv⟩ := hx
 have hs2 := hs
 obtain ⟨A, n, c, rfl, rfl, _, _, hr, _⟩ := hs2
 by_cases h0 : l.length = 0
 ·have hl := List.eq_nil_of_length_eq_zero h0
  subst hl
  have hx0 : x = 0 := by simp [I.val] at hv; omega
  subst hx0
  exact ivalid_0 A c [] w hs I.Dig.nil
 ·obtain ⟨d, hd⟩ : ∃ d, l[l.length - 1]? = some d := ⟨_, List.getElem?_eq_getElem (by omega)⟩
  obtain ⟨b, o, hA, hb, hcell⟩ := hr (by simp; omega)
  refine ivalid_1 _ A c l d b o w hs hc.1 hA (by omega) ?_ (Lib.hid fun w2 h2 => ?_)
  ·exact beq_eq_false_iff_ne.2 (hc.2 d (by rw [List.getLast?_eq_getElem?]; exact hd))
  ·exact kc (hcell (l.length - 1) _ (il_at l hd)) h2 hb
set_option maxRecDepth 100000 in
theorem rvalid_0 (k : Nat) (a0 a1 : Value) (A : Option Addr) (c : Nat) (r : Rat) (w : World) (hr : RatV w a0 a1 (.bool false) (.slice A 0 c) r) (bq : Bq k r) (hk : k ≤ 1000000000000) (h1 : ¬ dq r = 1) :
  Calls Tryz.prog 53 #[.agg #[a0, a1, .bool false, .slice A 0 c]] w fun e w' => e = .returned (.bool true) ∧ Below w.heap.size w w' := by
 have o0 := hr.one0
 have o1 := hr.one1
 have HR := Lib.hid hr; have H1 := Lib.hid h1; have HBQ := Lib.hid bq
 clear hr h1 bq
 go_enter Tryz.func53, Tryz.ntmps53
 go_wp2_with fail
 generalize hW : w.alloc _ = W1
 obtain ⟨kb, hB⟩ := box1 hW
 have k3 := Lib.hid hB; clear hW hB
 have F4 := Lib.hid (HR.out.kp (.of k3.out))
 have k5 := ivalid_any a0 a1 r.num W1 (F4.out).1
 (with_reducible refine k5.mono ?_)
 clear k5
 rintro e w5 ⟨rfl, k0⟩
 have k6 := kb.below k0
 have F8 := Lib.hid (F4.out.kp (.of k0))
 have kc := Lib.hid (Blw k3.out k0)
 clear k0
 obtain ⟨kh, ki, kj, kk, kl, km⟩ := k6.f4
 go_wp2_with fail
 have k8 := ivalid_any (.bool false) (.slice A 0 c) (dq r) w5 (F8.out).2
 (with_reducible refine k8.mono ?_)
 clear k8
 rintro e w16 ⟨rfl, k1⟩
 have k9 := k6.below k1
 have kd := Lib.hid (F8.out.kp (.of k1))
 have ke := Lib.hid (Blw kc.out k1)
 clear k1
 obtain ⟨kn, ko, kq, kr, ks, kt⟩ := k9.f4
 go_wp2_with fail
 have ka := unit_no (.bool false) (.slice A 0 c) (dq r) w16 (kd.out).2 H1.out
 (with_reducible refine ka.mono ?_)
 clear ka
 rintro e w27 ⟨rfl, k2⟩
 have kf := k9.below k2
 have kg := Lib.hid (Blw ke.out k2)
 clear k2
 obtain ⟨ku, kv, kw, kx, ky, kz⟩ := kf.f4
 go_wp2
 go_ret
 exact ⟨rfl, kg.out⟩
set_option maxRecDepth 100000 in
theorem rvalid_1 (k : Nat) (a0 a1 : Value) (A : Option Addr) (n c : Nat) (r : Rat) (w : World) (hr : RatV w a0 a1 (.bool false) (.slice A n c) r) (bq : Bq k r) (hk : k ≤ 1000000000000) (h1 : ¬ dq r = 1) (hn : ((n : Int) == 0) = false) (hd : dq r = r.den) :
  Calls Tryz.prog 53 #[.agg #[a0, a1, .bool false, .slice A n c]] w fun e w' => e = .returned (.bool true) ∧ Below w.heap.size w w' := by
 have o0 := hr.one0
 have o1 := hr.one1
 have HR := Lib.hid hr; have H1 := Lib.hid h1; have HBQ := Lib.hid bq; have HDQ := Lib.hid hd
 clear hr h1 bq hd
 go_enter Tryz.func53, Tryz.ntmps53
 go_wp2_with fail
 generalize hW : w.alloc _ = W1
 obtain ⟨kk, hB⟩ := box1 hW
 have k6 := Lib.hid hB; clear hW hB
 have F4 := Lib.hid (HR.out.kp (.of k6.out))
 have k8 := ivalid_any a0 a1 r.num W1 (F4.out).1
 (with_reducible refine k8.mono ?_)
 clear k8
 rintro e w5 ⟨rfl, k0⟩
 have k9 := kk.below k0
 have F8 := Lib.hid (F4.out.kp (.of k0))
 have kl := Lib.hid (Blw k6.out k0)
 clear k0
 obtain ⟨kt, ku, kv, kw, kx, ky⟩ := k9.f4
 go_wp2_with fail
 have kb := ivalid_any (.bool false) (.slice A n c) (dq r) w5 (F8.out).2
 (with_reducible refine kb.mono ?_)
 clear kb
 rintro e w16 ⟨rfl, k1⟩
 have kc := k9.below k1
 have kd := Lib.hid (F8.out.kp (.of k1))
 have km := Lib.hid (Blw kl.out k1)
 clear k1
 obtain ⟨kz, kA, kB, kC, kD, kE⟩ := kc.f4
 go_wp2_with fail
 have ke := unit_no (.bool false) (.slice A n c) (dq r) w16 (kd.out).2 H1.out
 (with_reducible refine ke.mono ?_)
 clear ke
 rintro e w27 ⟨rfl, k2⟩
 have kf := kc.below k2
 have kg := Lib.hid (kd.out.kp (.of k2))
 have kn := Lib.hid (Blw km.out k2)
 clear k2
 obtain ⟨kF, kG, kH, kI, kJ, kK⟩ := kf.f4
 go_wp2_with fail
 have kh := igcd_any k a0 a1 (.bool false) (.slice A n c) r.num (dq r) w27 (kg.out).1 (kg.out).2 HBQ.out.1 (by rw [HDQ.out]; exact HBQ.out.2) hk
 (with_reducible refine kh.mono ?_)
 clear kh
 rintro e w38 ⟨g0, g1, rfl, k3, k4⟩
 have ki := kf.below k4
 have ko := Lib.hid (Blw kn.out k4)
 have kq := Lib.hid k3
 obtain ⟨o_g0, o_g1⟩ := k3.ones
 clear k3 k4
 obtain ⟨kL, kM, kN, kO, kP, kQ⟩ := ki.f4
 go_wp2_with fail
 have kj := unit_yes g0 g1 _ w38 kq.out (by rw [HDQ.out, Int.gcd_comm, gcd_inv]; rfl)
 (with_reducible refine kj.mono ?_)
 clear kj
 rintro e w50 ⟨rfl, k5⟩
 have kr := ki.below k5
 have ks := Lib.hid (Blw ko.out k5)
 clear k5
 obtain ⟨kR, kS, kT, kU, kV, kW⟩ := kr.f4
 go_wp2
 go_ret
 exact ⟨rfl, ks.out⟩
theorem rvalid_any (k : Nat) (a0 a1 a2 a3 : Value) (r : Rat) (w : World) (hr : RatV w a0 a1 a2 a3 r) (bq : Bq k r) (hk : k ≤ 1000000000000) :
  Calls Tryz.prog 53 #[.agg #[a0, a1, a2, a3]] w fun e w' => e = .returned (.bool true) ∧ Below w.heap.size w w' := by
 obtain ⟨g, A, n, c, rfl, rfl⟩ := hr.2.form
 have l1 := hr.2.len
 have hg : g = false := by
  rw [l1.1]
  exact decide_eq_false (by have := dq_nonneg r; omega)
 subst hg
 have h1 : ¬ dq r = 1 := by
  intro h
  by_cases h2 : r.den = 1
  ·rw [dq_one h2] at h; omega
  ·rw [dq_more h2] at h; omega
 by_cases h0 : n = 0
 ·subst h0
  exact rvalid_0 k a0 a1 A c r w hr bq hk h1
 ·exact rvalid_1 k a0 a1 A n c r w hr bq hk h1 (ne0 h0) (dq_more (fun h => h0 (l1.2.2 (dq_zero.2 h))))
end Go.Proofs.YtcfejkpadcccbaaGreat
namespace Go.Proofs.YtcfejkpadcccbaaGreat
set_option maxHeartbeats 2000000
open Go.RowKit
attribute [local go_sem] run_store_one
set_option linter.unusedVariables false
set_option maxRecDepth 100000 in
theorem same3_s (ga gb : Bool) (A B : Option Addr) (na ca nb cb : Nat) (w : World) (hg : (ga == gb) = false) :
  Calls Tryz.prog 64 #[.agg #[.bool ga, .slice A na ca], .agg #[.bool gb, .slice B nb cb]] w fun e w' => e = .returned (.bool false) ∧ Below w.heap.size w w' := by
 go_enter Tryz.func64, Tryz.ntmps64
 go_wp2
 go_ret
 exact ⟨rfl, ((Below.refl _ _).alloc (by simp) _).alloc (by simp) _⟩
set_option maxRecDepth 100000 in
theorem same3_l (ga gb : Bool) (A B : Option Addr) (na ca nb cb : Nat) (w : World) (hg : (ga == gb) = true) (hl : ((na : Int) != (nb : Int)) = true) (hl2 : (na != nb) = true) (hl3 : (na == nb) = false) :
  Calls Tryz.prog 64 #[.agg #[.bool ga, .slice A na ca], .agg #[.bool gb, .slice B nb cb]] w fun e w' => e = .returned (.bool false) ∧ Below w.heap.size w w' := by
 go_enter Tryz.func64, Tryz.ntmps64
 go_wp2
 go_ret
 exact ⟨rfl, ((Below.refl _ _).alloc (by simp) _).alloc (by simp) _⟩
set_option maxRecDepth 100000 in
theorem same3_e (ga gb : Bool) (A B : Option Addr) (ca' cb' : Nat) (a b : List Int) (w : World) (ha : Sl w (.slice A a.length ca') a) (hb : Sl w (.slice B b.length cb') b) (hg : (ga == gb) = true) (hlen : a.length = b.length) (v : Bool) (hv : v = decide (a = b)) :
  Calls Tryz.prog 64 #[.agg #[.bool ga, .slice A a.length ca'], .agg #[.bool gb, .slice B b.length cb']] w fun e w' => e = .returned (.bool v) ∧ Below w.heap.size w w' := by
 have hl0 : ((a.length : Int) != (b.length : Int)) = false := by rw [hlen]; simp
 have hl1 : (a.length != b.length) = false := by rw [hlen]; simp
 have HLEN := Lib.hid hlen; have HV := Lib.hid hv; have HA := Lib.hid ha; have HB_ := Lib.hid hb
 have hmx : a.length ≤ maxLen := by
  obtain ⟨_, _, _, e, h1, h2, h3, _⟩ := ha
  injection e with _ e1 e2
  omega
 unfold maxLen at hmx
 clear hlen hv ha hb
 go_enter Tryz.func64, Tryz.ntmps64
 go_upto_region 3 with fail
 generalize hW : (w.alloc _).alloc _ = W1
 obtain ⟨k1, k2, hB⟩ := box2 hW
 have k0 := Lib.hid hB; clear hW hB
 have F5 := Lib.hid (HA.out.kp (.of k0.out))
 have F6 := Lib.hid (HB_.out.kp (.of k0.out))
 obtain ⟨k5, k6, k7, k8⟩ := k1.f2
 obtain ⟨k9, ka, kb, kc⟩ := k2.f2
 go_wp2_with fail
 go_loopw [5] (fun ix wr => ∃ k : Nat, k ≤ a.length ∧ ix = .int .i64 (k : Int) ∧ Hid (a.take k = b.take k) ∧ Hid (∃ n, wr = W1.drewN n)) (fun ix _ => (a.length - (intOf ix).toNat))
 case atStart => exact ⟨0, by omega, rfl, Lib.hid (by simp), Lib.hid ⟨0, rfl⟩⟩
 case round =>
  obtain ⟨k, hk, rfl, HT, HW⟩ := hrel
  obtain ⟨nq, rfl⟩ := HW.out
  clear HW
  have k00 := k1.cell (i := 0) rfl
  have k01 := k1.cell (i := 1) rfl
  have k10 := k2.cell (i := 0) rfl
  have k11 := k2.cell (i := 1) rfl
  by_cases hk2 : k < a.length
  ·obtain ⟨x, hx⟩ : ∃ x, a[k]? = some x := ⟨_, List.getElem?_eq_getElem hk2⟩
   obtain ⟨y, hy⟩ : ∃ y, b[k]? = some y := ⟨_, List.getElem?_eq_getElem (by have := HLEN.out; omega)⟩
   obtain ⟨_, _, _, ea, _, _, _, hra, _⟩ := F5.out
   injection ea with ea1 ea2 ea3
   subst ea1
   obtain ⟨ba, oa, rfl, hba, hcA⟩ := hra (by simp; omega)
   obtain ⟨_, _, _, eb, _, _, _, hrb, _⟩ := F6.out
   injection eb with eb1 eb2 eb3
   subst eb1
   obtain ⟨bb, ob, rfl, hbb, hcB⟩ := hrb (by simp; have := HLEN.out; omega)
   have f1 : W1.cell? ⟨ba, oa + k, none⟩ = some (.int .i64 x) := hcA k _ (il_at a hx)
   have f2 : W1.cell? ⟨bb, ob + k, none⟩ = some (.int .i64 y) := hcB k _ (il_at b hy)
   have hmb2 : (k : Int) < (b.length : Int) := by have := HLEN.out; omega
   have hma2 : (k : Int) < (a.length : Int) := by omega
   have hmb3 : k < b.length := by have := HLEN.out; omega
   have hm0 : (0 : Int) ≤ (k : Int) := by omega
   have hkd := decide_eq_true hk2
   have HX := Lib.hid hx; have HY := Lib.hid hy
   clear hcA hcB hx hy hra hrb ea2 ea3 eb2 eb3
   by_cases hxy : x = y
   ·have hne : (x != y) = false := by simp [hxy]
    have HXY := Lib.hid hxy
    clear hxy
    go_wp2_with fail
    go_quiet (fail)
    go_wp2
    go_roundw
    case rel =>
     refine ⟨k + 1, by omega, by go_num, ?_, ⟨_, rfl⟩⟩
     show List.take (k + 1) a = List.take (k + 1) b
     rw [I.take_snoc HX.out, I.take_snoc HY.out, HXY.out, show List.take k a = List.take k b from HT.out]
    case measure => simp [intOf]; omega
   ·have hne : (x != y) = true := by simp [hxy]
    have hfin := take_ne HX.out HY.out hxy
    have HFIN := Lib.hid hfin
    clear hxy hfin
    go_wp2_with fail
    go_quiet (fail)
    go_wp2
    go_ret
    rw [HV.out]
    exact ⟨by simp [HFIN.out], by rw [World.drewN_drewN]; exact bdN k0.out _⟩
  ·have hkd := decide_eq_false hk2
   obtain rfl : a.length = k := by omega
   have hfin : a = b := by
    have h1 := HT.out
    rw [List.take_of_length_le (Nat.le_refl _), List.take_of_length_le (by have := HLEN.out; omega)] at h1
    exact h1
   have HFIN := Lib.hid hfin
   clear hfin
   go_wp2
   go_ret
   rw [HV.out]
   exact ⟨by simp [HFIN.out], bdN k0.out _⟩
theorem isame3_any (a0 a1 b0 b1 : Value) (x y : Int) (w : World) (hx : IntV w a0 a1 x) (hy : IntV w b0 b1 y) (v : Bool) (hv : v = decide (x = y)) :
  Calls Tryz.prog 64 #[.agg #[a0, a1], .agg #[b0, b1]] w fun e w' => e = .returned (.bool v) ∧ Below w.heap.size w w' := by
 obtain ⟨a, rfl, ha, ca, va⟩ := hx
 obtain ⟨b, rfl, hb, cb, vb⟩ := hy
 have fa : ∃ A c, a1 = .slice A a.length c := by
  obtain ⟨A, n, c, rfl, rfl, _⟩ := ha
  exact ⟨A, c, rfl⟩
 have fb : ∃ A c, b1 = .slice A b.length c := by
  obtain ⟨A, n, c, rfl, rfl, _⟩ := hb
  exact ⟨A, c, rfl⟩
 obtain ⟨Aa, ca', rfl⟩ := fa
 obtain ⟨Ab, cb', rfl⟩ := fb
 by_cases hs : decide (x < 0) = decide (y < 0)
 ·have hs2 : (x < 0) ↔ (y < 0) := by simpa using hs
  have hxy : x = y ↔ a = b := by
   constructor
   ·rintro rfl
    exact I.Can.uniq ca cb (by rw [va, vb])
   ·rintro rfl
    rw [va] at vb
    omega
  by_cases hl : a.length = b.length
  ·exact same3_e _ _ Aa Ab ca' cb' a b w ha hb (by rw [hs]; simp) hl v (by rw [hv]; simp [hxy])
  ·have hne : decide (x = y) = false := by
    apply decide_eq_false
    intro h
    exact hl (by rw [hxy.1 h])
   rw [hv, hne]
   exact same3_l _ _ Aa Ab a.length ca' b.length cb' w (by rw [hs]; simp) (by simp; omega) (by simp; omega) (by simp; omega)
 ·have hne : decide (x = y) = false := by
   apply decide_eq_false
   rintro rfl
   exact hs rfl
  rw [hv, hne]
  exact same3_s _ _ Aa Ab a.length ca' b.length cb' w (by simpa using hs)
end Go.Proofs.YtcfejkpadcccbaaGreat
namespace Go.Proofs.YtcfejkpadcccbaaGreat
set_option maxHeartbeats 2000000
open Go.RowKit
attribute [local go_sem] run_store_one
set_option linter.unusedVariables false
end Go.Proofs.YtcfejkpadcccbaaGreat
namespace Go.Proofs.YtcfejkpadcccbaaGreat
set_option maxHeartbeats 4000000
open Go.RowKit
attribute [local go_sem] run_store_one
set_option linter.unusedVariables false
set_option maxRecDepth 100000 in
theorem ivalid3_w (gg : Bool) (A : Option Addr) (c : Nat) (l : List Int) (w : World) (hs : Sl w (.slice A l.length c) l) (hd : I.Dig l) (v : Bool) (hv0 : l.length = 0 → v = !gg) (hv1 : ∀ d, l[l.length - 1]? = some d → v = (d != 0)) :
  Calls Tryz.prog 101 #[.agg #[.bool gg, .slice A l.length c]] w fun e w' => e = .returned (.bool v) ∧ Below w.heap.size w w' := by
 have hcm : l.length ≤ c ∧ c ≤ maxLen ∧ Rd w w.heap.size A (il l) := by
  obtain ⟨_, _, _, e, h1, h2, h3, h4, _⟩ := hs
  injection e with e0 e1 e2
  subst e0
  exact ⟨by omega, by omega, h4⟩
 obtain ⟨hcm1, hcm2, hr⟩ := hcm
 unfold maxLen at hcm2
 have HD := Lib.hid hd; have HR := Lib.hid hr; have HV0 := Lib.hid hv0; have HV1 := Lib.hid hv1
 clear hs hd hr hv0 hv1
 go_enter Tryz.func101, Tryz.ntmps101
 go_wp2_with fail
 generalize hW : w.alloc _ = W1
 obtain ⟨k1, hB⟩ := box1 hW
 have k0 := Lib.hid hB; clear hW hB
 obtain ⟨k2, k3, k4, l7⟩ := k1.f2
 go_wp2_with fail
 go_loopw [3] (fun ix wr => ∃ k : Nat, k ≤ l.length ∧ ix = .int .i64 (k : Int) ∧ W1 = wr) (fun ix _ => (l.length - (intOf ix).toNat))
 case atStart => exact ⟨0, by omega, rfl, rfl⟩
 case round =>
  obtain ⟨k, hk, rfl, rfl⟩ := hrel
  by_cases hk2 : k < l.length
  ·obtain ⟨x, hx⟩ : ∃ x, l[k]? = some x := ⟨_, List.getElem?_eq_getElem hk2⟩
   have hxb := HD.out.get hx
   obtain ⟨b, o, rfl, hb, hcell⟩ := HR.out (by simp; omega)
   have f1 := kc (hcell k _ (il_at l hx)) k0.out hb
   have hkd := decide_eq_true hk2
   have hk3 : (k : Int) < (l.length : Int) := by omega
   have g0 : decide (x < 0) = false := decide_eq_false (by omega)
   have g1 : decide (1000000000 ≤ x) = false := decide_eq_false (by omega)
   clear hcell hx hxb
   go_wp2
   go_roundw
   case rel => exact ⟨k + 1, by omega, by go_num, by first | rfl | trivial⟩
   case measure => simp [intOf]; omega
  ·have hkd := decide_eq_false hk2
   by_cases h0 : l.length = 0
   ·have hz : ((l.length : Int) == 0) = true := beq_iff_eq.2 (by omega)
    have hz2 : (l.length == 0) = true := beq_iff_eq.2 h0
    go_wp2
    go_ret
    exact ⟨by rw [HV0.out h0]; rfl, k0.out⟩
   ·obtain ⟨d, hd⟩ : ∃ d, l[l.length - 1]? = some d := ⟨_, List.getElem?_eq_getElem (by omega)⟩
    obtain ⟨b, o, rfl, hb, hcell⟩ := HR.out (by simp; omega)
    have q1 := kc (hcell (l.length - 1) _ (il_at l hd)) k0.out hb
    have q2 : W1.cell? ⟨b, o + ((l.length : Int) - 1).toNat, none⟩ = some (.int .i64 d) := by rw [show ((l.length : Int) - 1).toNat = l.length - 1 from by omega]; exact q1
    have hz : ((l.length : Int) == 0) = false := beq_eq_false_iff_ne.2 (by omega)
    have hz2 : (l.length == 0) = false := beq_eq_false_iff_ne.2 h0
    have hp : 0 < l.length := by omega
    have HDD := Lib.hid hd
    clear hcell hd
    go_wp2
    go_ret
    exact ⟨by rw [HV1.out d HDD.out]; rfl, k0.out⟩
theorem ivalid3_any (a0 a1 : Value) (x : Int) (w : World) (hx : IntV w a0 a1 x) : Calls Tryz.prog 101 #[.agg #[a0, a1]] w fun e w' => e = .returned (.bool true) ∧ Below w.heap.size w w' := by
 obtain ⟨l, rfl, hs, hc, hv⟩ := hx
 have hs2 := hs
 obtain ⟨A, n, c, rfl, rfl, _, _, _, _⟩ := hs2
 refine ivalid3_w _ A c l w hs hc.1 true (fun h0 => ?_) (fun d hd => ?_)
 ·have hl := List.eq_nil_of_length_eq_zero h0
  subst hl
  have hx0 : x = 0 := by simp [I.val] at hv; omega
  subst hx0
  rfl
 ·have h1 : d ≠ 0 := hc.2 d (by rw [List.getLast?_eq_getElem?]; exact hd)
  simp [h1]
set_option maxRecDepth 100000 in
theorem rvalid4_o (k : Nat) (a0 a1 q : Value) (x : Int) (w : World) (hx : IntV w a0 a1 x) (hq : IntV w (.bool false) q 1) : Calls Tryz.prog 60 #[.agg #[a0, a1, .bool false, q]] w fun e w' => e = .returned (.bool false) ∧ Below w.heap.size w w' := by
 obtain ⟨o0, o1⟩ := hx.ones
 have o3 := hq.one1
 have HX := Lib.hid hx; have HQ := Lib.hid hq
 clear hx hq
 go_enter Tryz.func60, Tryz.ntmps60
 go_wp2_with fail
 generalize hW : w.alloc _ = W1
 obtain ⟨ka, hB⟩ := box1 hW
 have k2 := Lib.hid hB; clear hW hB
 have F4 := Lib.hid (HX.out.kp (.of k2.out))
 have F5 := Lib.hid (HQ.out.kp (.of k2.out))
 have k4 := ivalid3_any a0 a1 x W1 F4.out
 (with_reducible refine k4.mono ?_)
 clear k4
 rintro e w6 ⟨rfl, k0⟩
 have k5 := ka.below k0
 have k6 := Lib.hid (F5.out.kp (.of k0))
 have kd := Lib.hid (Blw k2.out k0)
 clear k0
 obtain ⟨ki, kj, kk, kl, km, kn⟩ := k5.f4
 go_wp2_with fail
 have k7 := ivalid3_any (.bool false) q 1 w6 k6.out
 (with_reducible refine k7.mono ?_)
 clear k7
 rintro e w18 ⟨rfl, k1⟩
 have k8 := k5.below k1
 have ke := Lib.hid (k6.out.kp (.of k1))
 have kf := Lib.hid (Blw kd.out k1)
 clear k1
 obtain ⟨ko, kq, kr, ks, kt, ku⟩ := k8.f4
 go_wp2_with fail
 have k9 := one4_any (.bool false) q 1 w18 ke.out true (by decide)
 (with_reducible refine k9.mono ?_)
 clear k9
 rintro e w30 ⟨rfl, k3⟩
 have kg := k8.below k3
 have kh := Lib.hid (Blw kf.out k3)
 clear k3
 obtain ⟨kv, kw, kx, ky, kz, kA⟩ := kg.f4
 go_wp2
 go_ret
 exact ⟨rfl, kh.out⟩
set_option maxRecDepth 100000 in
theorem rvalid4_0 (k : Nat) (a0 a1 : Value) (A : Option Addr) (c : Nat) (r : Rat) (w : World) (hr : RatV w a0 a1 (.bool false) (.slice A 0 c) r) (bq : Bq k r) (hk : k ≤ 800000000000) (h1 : ¬ dq r = 1) : Calls Tryz.prog 60 #[.agg #[a0, a1, .bool false, .slice A 0 c]] w fun e w' => e = .returned (.bool true) ∧ Below w.heap.size w w' := by
 have o0 := hr.one0
 have o1 := hr.one1
 have HR := Lib.hid hr; have H1 := Lib.hid h1; have HBQ := Lib.hid bq
 clear hr h1 bq
 go_enter Tryz.func60, Tryz.ntmps60
 go_wp2_with fail
 generalize hW : w.alloc _ = W1
 obtain ⟨kb, hB⟩ := box1 hW
 have k3 := Lib.hid hB; clear hW hB
 have F4 := Lib.hid (HR.out.kp (.of k3.out))
 have k5 := ivalid3_any a0 a1 r.num W1 (F4.out).1
 (with_reducible refine k5.mono ?_)
 clear k5
 rintro e w5 ⟨rfl, k0⟩
 have k6 := kb.below k0
 have F8 := Lib.hid (F4.out.kp (.of k0))
 have kc := Lib.hid (Blw k3.out k0)
 clear k0
 obtain ⟨kh, ki, kj, kk, kl, km⟩ := k6.f4
 go_wp2_with fail
 have k8 := ivalid3_any (.bool false) (.slice A 0 c) (dq r) w5 (F8.out).2
 (with_reducible refine k8.mono ?_)
 clear k8
 rintro e w16 ⟨rfl, k1⟩
 have k9 := k6.below k1
 have kd := Lib.hid (F8.out.kp (.of k1))
 have ke := Lib.hid (Blw kc.out k1)
 clear k1
 obtain ⟨kn, ko, kq, kr, ks, kt⟩ := k9.f4
 go_wp2_with fail
 have ka := one4_any (.bool false) (.slice A 0 c) (dq r) w16 (kd.out).2 false (decide_eq_false H1.out).symm
 (with_reducible refine ka.mono ?_)
 clear ka
 rintro e w27 ⟨rfl, k2⟩
 have kf := k9.below k2
 have kg := Lib.hid (Blw ke.out k2)
 clear k2
 obtain ⟨ku, kv, kw, kx, ky, kz⟩ := kf.f4
 go_wp2
 go_ret
 exact ⟨rfl, kg.out⟩
set_option maxRecDepth 100000 in
theorem rvalid4_1 (k : Nat) (a0 a1 : Value) (A : Option Addr) (n c : Nat) (r : Rat) (w : World) (hr : RatV w a0 a1 (.bool false) (.slice A n c) r) (bq : Bq k r) (hk : k ≤ 800000000000) (h1 : ¬ dq r = 1) (hn : ((n : Int) == 0) = false) (hd : dq r = r.den) : Calls Tryz.prog 60 #[.agg #[a0, a1, .bool false, .slice A n c]] w fun e w' => e = .returned (.bool true) ∧ Below w.heap.size w w' := by
 have o0 := hr.one0
 have o1 := hr.one1
 have HR := Lib.hid hr; have H1 := Lib.hid h1; have HBQ := Lib.hid bq; have HDQ := Lib.hid hd
 clear hr h1 bq hd
 go_enter Tryz.func60, Tryz.ntmps60
 go_wp2_with fail
 generalize hW : w.alloc _ = W1
 obtain ⟨kk, hB⟩ := box1 hW
 have k6 := Lib.hid hB; clear hW hB
 have F4 := Lib.hid (HR.out.kp (.of k6.out))
 have k8 := ivalid3_any a0 a1 r.num W1 (F4.out).1
 (with_reducible refine k8.mono ?_)
 clear k8
 rintro e w5 ⟨rfl, k0⟩
 have k9 := kk.below k0
 have F8 := Lib.hid (F4.out.kp (.of k0))
 have kl := Lib.hid (Blw k6.out k0)
 clear k0
 obtain ⟨kt, ku, kv, kw, kx, ky⟩ := k9.f4
 go_wp2_with fail
 have kb := ivalid3_any (.bool false) (.slice A n c) (dq r) w5 (F8.out).2
 (with_reducible refine kb.mono ?_)
 clear kb
 rintro e w16 ⟨rfl, k1⟩
 have kc := k9.below k1
 have kd := Lib.hid (F8.out.kp (.of k1))
 have km := Lib.hid (Blw kl.out k1)
 clear k1
 obtain ⟨kz, kA, kB, kC, kD, kE⟩ := kc.f4
 go_wp2_with fail
 have ke := one4_any (.bool false) (.slice A n c) (dq r) w16 (kd.out).2 false (decide_eq_false H1.out).symm
 (with_reducible refine ke.mono ?_)
 clear ke
 rintro e w27 ⟨rfl, k2⟩
 have kf := kc.below k2
 have kg := Lib.hid (kd.out.kp (.of k2))
 have kn := Lib.hid (Blw km.out k2)
 clear k2
 obtain ⟨kF, kG, kH, kI, kJ, kK⟩ := kf.f4
 go_wp2_with fail
 have kh := rgcd3_any k a0 a1 (.bool false) (.slice A n c) r.num (dq r) w27 (kg.out).1 (kg.out).2 HBQ.out.1 (by rw [HDQ.out]; exact HBQ.out.2) hk
 (with_reducible refine kh.mono ?_)
 clear kh
 rintro e w38 ⟨g0, g1, rfl, k3, k4⟩
 have ki := kf.below k4
 have ko := Lib.hid (Blw kn.out k4)
 have kq := Lib.hid k3
 obtain ⟨o_g0, o_g1⟩ := k3.ones
 clear k3 k4
 obtain ⟨kL, kM, kN, kO, kP, kQ⟩ := ki.f4
 go_wp2_with fail
 have kj := one4_any g0 g1 _ w38 kq.out true (decide_eq_true (by rw [HDQ.out, Int.gcd_comm, gcd_inv]; rfl)).symm
 (with_reducible refine kj.mono ?_)
 clear kj
 rintro e w50 ⟨rfl, k5⟩
 have kr := ki.below k5
 have ks := Lib.hid (Blw ko.out k5)
 clear k5
 obtain ⟨kR, kS, kT, kU, kV, kW⟩ := kr.f4
 go_wp2
 go_ret
 exact ⟨rfl, ks.out⟩
theorem rvalid4_any (k : Nat) (a0 a1 a2 a3 : Value) (r : Rat) (w : World) (hr : RatV w a0 a1 a2 a3 r) (bq : Bq k r) (hk : k ≤ 800000000000) :
  Calls Tryz.prog 60 #[.agg #[a0, a1, a2, a3]] w fun e w' => e = .returned (.bool true) ∧ Below w.heap.size w w' := by
 obtain ⟨g, A, n, c, rfl, rfl⟩ := hr.2.form
 have l1 := hr.2.len
 have hg : g = false := by
  rw [l1.1]
  exact decide_eq_false (by have := dq_nonneg r; omega)
 subst hg
 have h1 : ¬ dq r = 1 := by
  intro h
  by_cases h2 : r.den = 1
  ·rw [dq_one h2] at h; omega
  ·rw [dq_more h2] at h; omega
 by_cases h0 : n = 0
 ·subst h0
  exact rvalid4_0 k a0 a1 A c r w hr bq hk h1
 ·exact rvalid4_1 k a0 a1 A n c r w hr bq hk h1 (ne0 h0) (dq_more (fun h => h0 (l1.2.2 (dq_zero.2 h))))
end Go.Proofs.YtcfejkpadcccbaaGreat
namespace Go.Proofs.YtcfejkpadcccbaaGreat
set_option maxHeartbeats 1000000
open Go.RowKit
attribute [local go_sem] run_store_one
set_option linter.unusedVariables false
/-- A slice of ints that came in: it reads as a list. -/
def Sr (w : World) (v : Value) (l : List Int) : Prop := ∃ A n c, v = .slice A n c ∧ n = l.length ∧ n ≤ c ∧ c ≤ maxLen ∧ Rd w w.heap.size A (il l)
theorem Sr.below {w w' : World} {v : Value} {l : List Int} (h : Sr w v l) (hb : Below w.heap.size w w') : Sr w' v l := by
 obtain ⟨A, n, c, h1, h2, h3, h4, h5⟩ := h
 exact ⟨A, n, c, h1, h2, h3, h4, fun hn => by
  obtain ⟨b, o, e, hlt, hc⟩ := h5.below hb (Nat.le_refl _) hn
  exact ⟨b, o, e, Nat.lt_of_lt_of_le hlt hb.size, hc⟩⟩
end Go.Proofs.YtcfejkpadcccbaaGreat
