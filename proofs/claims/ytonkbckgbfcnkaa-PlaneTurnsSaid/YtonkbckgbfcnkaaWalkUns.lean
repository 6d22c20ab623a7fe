/-
 THE WALKS of package integer: unsigned, Of.
-/
import Derived.Test.YtonkbckgbfcnkaaWalkNeg
import Derived.Test.YtonkbckgbfcnkaaWalkOf
namespace Go.Proofs.Ytonkbckgbfcnkaa
set_option maxHeartbeats 1000000
open Go.RowKit
set_option linter.unusedVariables false
attribute [local go_sem] run_store_one
theorem uns_end (ng : Bool) (u : Int) (w : World) (l : List Int) (hc : I.Can l) (hv : I.val l = u) (hu : 0 < u) (hl : l.length ≤ 3) :
  IntV ((w.alloc (.cells #[.bool ng, .slice (some ⟨w.heap.size + 1, 0, none⟩) l.length l.length] 24)).alloc (.cells (il l).toArray 3)) (.bool ng) (.slice (some ⟨w.heap.size + 1, 0, none⟩) l.length l.length) (sg ng u) := by
 have h := sg_neg (ng := ng) hu
 have hb : Bk ((w.alloc (.cells #[.bool ng, .slice (some ⟨w.heap.size + 1, 0, none⟩) l.length l.length] 24)).alloc (.cells (il l).toArray 3)) (w.heap.size + 1) l := Bx.at_ (by simp)
 exact ⟨l, by rw [h.1], hb.sl rfl (Nat.le_refl _) (by unfold maxLen; omega), hc, by rw [hv, h.2]⟩
theorem uns_below (w : World) (o o' : Obj) : Below w.heap.size w ((w.alloc o).alloc o') := ((Below.refl _ _).alloc (Nat.le_refl _) _).alloc (by simp) _
theorem uns_one (ng : Bool) (u : Int) (w : World) (h0 : 0 < u) (h1 : u < 1000000000) :
  Calls Try.prog 91 #[.bool ng, .int .u64 u] w (RI (sg ng u) w) := by
 have hne : (u == 0) = false := beq_eq_false_iff_ne.2 (by omega)
 go_enter Try.func91, Try.ntmps91
 go_wp2
 refine bodyPost_ret (v := .agg #[.bool ng, .slice (some ⟨w.heap.size + 1, 0, none⟩) 1 1]) (by simp [results, Try.results91, go_sem]) rfl ⟨_, _, rfl, ?_, uns_below _ _ _⟩
 exact uns_end ng u w [u] (I.Can.one h0 h1) (by simp [I.val]) h0 (by simp)
theorem uns_two (ng : Bool) (u : Int) (w : World) (h0 : 1000000000 ≤ u) (h1 : u < 1000000000000000000) :
  Calls Try.prog 91 #[.bool ng, .int .u64 u] w (RI (sg ng u) w) := by
 have hne : (u == 0) = false := beq_eq_false_iff_ne.2 (by omega)
 have hq : 0 ≤ u / 1000000000 ∧ u / 1000000000 < 1000000000 := by omega
 have hr : 0 ≤ u % 1000000000 ∧ u % 1000000000 < 1000000000 := by omega
 obtain ⟨hq0, hq1⟩ := hq
 obtain ⟨hr0, hr1⟩ := hr
 go_enter Try.func91, Try.ntmps91
 go_wp2
 refine bodyPost_ret (v := .agg #[.bool ng, .slice (some ⟨w.heap.size + 1, 0, none⟩) 2 2]) (by simp [results, Try.results91, go_sem]) rfl ⟨_, _, rfl, ?_, uns_below _ _ _⟩
 refine uns_end ng u w [u % 1000000000, u / 1000000000] ⟨I.Dig.cons hr0 hr1 (I.Dig.cons hq0 hq1 I.Dig.nil), fun d hd => ?_⟩ (by simp [I.val]; omega) (by omega) (by simp)
 simp at hd
 omega
theorem uns_three (ng : Bool) (u : Int) (w : World) (h0 : 1000000000000000000 ≤ u) (h1 : u < 18446744073709551616) :
  Calls Try.prog 91 #[.bool ng, .int .u64 u] w (RI (sg ng u) w) := by
 have hne : (u == 0) = false := beq_eq_false_iff_ne.2 (by omega)
 have hq : 0 ≤ u / 1000000000 % 1000000000 ∧ u / 1000000000 % 1000000000 < 1000000000 := by omega
 have hr : 0 ≤ u % 1000000000 ∧ u % 1000000000 < 1000000000 := by omega
 have hs : 0 ≤ u / 1000000000 / 1000000000 ∧ u / 1000000000 / 1000000000 < 1000000000 := by omega
 obtain ⟨hq0, hq1⟩ := hq
 obtain ⟨hr0, hr1⟩ := hr
 obtain ⟨hs0, hs1⟩ := hs
 go_enter Try.func91, Try.ntmps91
 go_wp2
 refine bodyPost_ret (v := .agg #[.bool ng, .slice (some ⟨w.heap.size + 1, 0, none⟩) 3 3]) (by simp [results, Try.results91, go_sem]) rfl ⟨_, _, rfl, ?_, uns_below _ _ _⟩
 refine uns_end ng u w [u % 1000000000, u / 1000000000 % 1000000000, u / 1000000000 / 1000000000] ⟨I.Dig.cons hr0 hr1 (I.Dig.cons hq0 hq1 (I.Dig.cons hs0 hs1 I.Dig.nil)), fun d hd => ?_⟩ (by simp [I.val]; omega) (by omega) (by simp)
 simp at hd
 omega
theorem uns_zero (ng : Bool) (w : World) : Calls Try.prog 91 #[.bool ng, .int .u64 0] w (RI (sg ng 0) w) := by
 go_enter Try.func91, Try.ntmps91
 go_wp2
 refine bodyPost_ret (v := .agg #[.bool false, .slice none 0 0]) (by simp [results, Try.results91, go_sem]) rfl ⟨_, _, rfl, ?_, (Below.refl _ _).alloc (Nat.le_refl _) _⟩
 have h0 : sg ng 0 = 0 := by unfold sg; cases ng <;> rfl
 rw [h0]
 exact IntV.zero _
theorem unsigned_any (ng : Bool) (u : Int) (w : World) (h0 : 0 ≤ u) (h1 : u < 18446744073709551616) :
  Calls Try.prog 91 #[.bool ng, .int .u64 u] w (RI (sg ng u) w) := by
 by_cases h2 : u = 0
 ·subst h2
  exact uns_zero ng w
 ·by_cases h3 : u < 1000000000
  ·exact uns_one ng u w (by omega) h3
  ·by_cases h4 : u < 1000000000000000000
   ·exact uns_two ng u w (by omega) h4
   ·exact uns_three ng u w (by omega) h1
theorem iof_neg (n : Int) (w : World) (h0 : -9223372036854775808 ≤ n) (h1 : n < 0) : Calls Try.prog 69 #[.int .i64 n] w (RI n w) := by
 have e1 : IntKind.u64.wrap n = n + 18446744073709551616 := by rw [IntKind.wrap_u64]; omega
 have e2 : IntKind.u64.wrap (-(n + 18446744073709551616)) = -n := by rw [IntKind.wrap_u64]; omega
 have hcon := fun W : World => unsigned_any true (-n) W (by omega) (by omega)
 have hs : sg true (-n) = n := by unfold sg; simp
 rw [hs] at hcon
 have HCON := Lib.hid hcon
 clear hcon hs
 go_enter Try.func69, Try.ntmps69
 go_wp2_with fail
 generalize hW : w.alloc _ = W1
 obtain ⟨k2, hB⟩ := box1 hW
 have k5 := Lib.hid hB; clear hW hB
 obtain ⟨ka, kb, kc, -⟩ := k2.f2
 have k3 := HCON.out W1
 (with_reducible refine k3.mono ?_)
 clear k3
 rintro e w7 ⟨r0, r1, rfl, k0, k1⟩
 have k4 := k2.below k1
 obtain ⟨k6, k7, kd, -⟩ := k4.f2
 have k8 := Lib.hid (Blw k5.out k1)
 have k9 := Lib.hid k0
 obtain ⟨o_r0, o_r1⟩ := k0.ones
 clear k0 k1
 go_wp2
 have hkp := (Kp.refl w7).t2 k4 r0 r1
 refine bodyPost_ret (v := .agg #[r0, r1]) (by simp [results, Try.results69, go_sem, k6, k7]) rfl ⟨_, _, rfl, ?_, bel2 (k8.out) (by first | simp | omega)⟩
 exact k9.out.kp hkp
theorem iof_pos (n : Int) (w : World) (h0 : 0 ≤ n) (h1 : n ≤ 9223372036854775807) : Calls Try.prog 69 #[.int .i64 n] w (RI n w) := by
 have hd : decide (n < 0) = false := decide_eq_false (by omega)
 have e1 : IntKind.u64.wrap n = n := by rw [IntKind.wrap_u64]; omega
 have hcon := fun W : World => unsigned_any false n W (by omega) (by omega)
 have hs : sg false n = n := by unfold sg; simp
 rw [hs] at hcon
 have HCON := Lib.hid hcon
 clear hcon hs
 go_enter Try.func69, Try.ntmps69
 go_wp2_with fail
 generalize hW : w.alloc _ = W1
 obtain ⟨k2, hB⟩ := box1 hW
 have k5 := Lib.hid hB; clear hW hB
 obtain ⟨ka, kb, kc, -⟩ := k2.f2
 have k3 := HCON.out W1
 (with_reducible refine k3.mono ?_)
 clear k3
 rintro e w7 ⟨r0, r1, rfl, k0, k1⟩
 have k4 := k2.below k1
 obtain ⟨k6, k7, kd, -⟩ := k4.f2
 have k8 := Lib.hid (Blw k5.out k1)
 have k9 := Lib.hid k0
 obtain ⟨o_r0, o_r1⟩ := k0.ones
 clear k0 k1
 go_wp2
 have hkp := (Kp.refl w7).t2 k4 r0 r1
 refine bodyPost_ret (v := .agg #[r0, r1]) (by simp [results, Try.results69, go_sem, k6, k7]) rfl ⟨_, _, rfl, ?_, bel2 (k8.out) (by first | simp | omega)⟩
 exact k9.out.kp hkp
theorem iof_any (n : Int) (w : World) (h : W.Is64 n) : Calls Try.prog 69 #[.int .i64 n] w (RI n w) := by
 unfold W.Is64 at h
 by_cases h1 : n < 0
 ·exact iof_neg n w (by omega) h1
 ·exact iof_pos n w (by omega) (by omega)
end Go.Proofs.Ytonkbckgbfcnkaa
