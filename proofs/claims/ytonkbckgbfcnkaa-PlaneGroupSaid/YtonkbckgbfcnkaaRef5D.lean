/-
 THE WALKS of the generators: Around, At, Number, Vec, Turn.
-/
import Derived.Test.YtonkbckgbfcnkaaRef4B
import Derived.Test.YtonkbckgbfcnkaaWalkMul
import Derived.Deep.LoopGhost
import Derived.Deep.DeepCutAuto
namespace Go.Proofs.Ytonkbckgbfcnkaa
set_option maxHeartbeats 1000000
open Go.RowKit
attribute [local go_sem] run_store_one
set_option linter.unusedVariables false
/-- A slice of ints that came in: it reads as a list. -/
def Sr (w : World) (v : Value) (l : List Int) : Prop := ∃ A n c, v = .slice A n c ∧ n = l.length ∧ n ≤ c ∧ c ≤ maxLen ∧ Rd w w.heap.size A (il l)
theorem Sr.below {w w' : World} {v : Value} {l : List Int} (h : Sr w v l) (hb : Below w.heap.size w w') : Sr w' v l := by
 obtain ⟨A, n, c, h1, h2, h3, h4, h5⟩ := h
 exact ⟨A, n, c, h1, h2, h3, h4, fun hn => by
  obtain ⟨b, o, e, hlt, hc⟩ := h5.below hb (Nat.le_refl _) hn
  exact ⟨b, o, e, Nat.lt_of_lt_of_le hlt hb.size, hc⟩⟩
/-- What returns a number from 0 to most - 1, and leaves the world alone. -/
def Lt0 (most : Int) (w : World) (e : Ending) (w' : World) : Prop := ∃ m, e = .returned (.int .i64 m) ∧ 0 ≤ m ∧ m < most ∧ w = w'
theorem around_any (n most : Int) (w : World) (hn : W.Is64 n) (h0 : 0 < most) (h1 : most ≤ 1000000000000) : Calls Try.prog 19 #[.int .i64 n, .int .i64 most] w (Lt0 most w) := by
 have hlo := hn.1
 have hhi := hn.2
 have hz : (most == 0) = false := beq_eq_false_iff_ne.2 (by omega)
 clear hn
 by_cases h : n < 0
 ·have hd := decide_eq_true h
  obtain ⟨m, hm⟩ : ∃ m, n = -m := ⟨-n, by omega⟩
  subst hm
  have e : -(-m + 1) = m - 1 := by omega
  have hm0 : 0 ≤ m - 1 := by omega
  have hw : IntKind.i64.wrap (-(-m + 1)) = m - 1 := by rw [e, IntKind.wrap_i64]; omega
  have hq0 : 0 ≤ (m - 1) % most := Int.emod_nonneg _ (by omega)
  have hq1 : (m - 1) % most < most := Int.emod_lt_of_pos _ h0
  have ht : Int.tmod (-(-m + 1)) most = (m - 1) % most := by rw [e, Int.tmod_eq_emod_of_nonneg hm0]
  have ht2 : Int.tmod (m - 1) most = (m - 1) % most := Int.tmod_eq_emod_of_nonneg hm0
  clear e
  go_enter Try.func19, Try.ntmps19
  go_wp2
  go_ret
  exact ⟨_, rfl, by omega, by omega, rfl⟩
 ·have hd := decide_eq_false h
  have hn0 : 0 ≤ n := by omega
  have hq0 : 0 ≤ n % most := Int.emod_nonneg _ (by omega)
  have hq1 : n % most < most := Int.emod_lt_of_pos _ h0
  go_enter Try.func19, Try.ntmps19
  go_wp2
  go_ret
  exact ⟨_, rfl, hq0, hq1, rfl⟩
theorem at_any (v : Value) (l : List Int) (i most : Int) (w : World) (hs : Sr w v l) (hl : ∀ x ∈ l, W.Is64 x) (hi : W.Is64 i) (h0 : 0 < most) (h1 : most ≤ 1000000000000) : Calls Try.prog 43 #[v, .int .i64 i, .int .i64 most] w (Lt0 most w) := by
 obtain ⟨A, n, c, rfl, rfl, hc, hm, hr⟩ := hs
 unfold maxLen at hm
 have hlo := hi.1
 have hhi := hi.2
 have HR := Lib.hid hr; have HL := Lib.hid hl
 clear hi hr hl
 by_cases h : i < 0
 ·have hd := decide_eq_true h
  go_enter Try.func43, Try.ntmps43
  go_wp2
  go_ret
  exact ⟨0, rfl, by omega, h0, rfl⟩
 ·have hd := decide_eq_false h
  obtain ⟨j, rfl⟩ := Int.eq_ofNat_of_zero_le (show 0 ≤ i by omega)
  by_cases h2 : j < l.length
  ·have hd2 : decide (l.length ≤ j) = false := decide_eq_false (by omega)
   obtain ⟨x, hx⟩ : ∃ x, l[j]? = some x := ⟨_, List.getElem?_eq_getElem h2⟩
   obtain ⟨b, o, rfl, hb, hcell⟩ := HR.out (by simp; omega)
   have f1 : w.cell? ⟨b, o + j, none⟩ = some (.int .i64 x) := hcell j _ (il_at l hx)
   have HX := Lib.hid (HL.out x (List.mem_of_getElem? hx))
   have hj2 : (j : Int) < (l.length : Int) := by omega
   clear hcell hx hd
   go_enter Try.func43, Try.ntmps43
   go_wp2_with (go_at_call 19; refine (around_any x most _ HX.out h0 h1).mono ?_; rintro e w' ⟨m, rfl, hm0, hm1, rfl⟩)
   go_ret
   exact ⟨_, rfl, hm0, hm1, rfl⟩
  ·have hd2 : decide (l.length ≤ j) = true := decide_eq_true (by omega)
   go_enter Try.func43, Try.ntmps43
   go_wp2
   go_ret
   exact ⟨0, rfl, by omega, h0, rfl⟩
/-- What returns some small rational. -/
def SmallR (w : World) (e : Ending) (w' : World) : Prop := ∃ r, Bq 7 r ∧ RR r w e w'
theorem bd_num {x : Int} (h0 : -12 ≤ x) (h1 : x ≤ 12) : I.Bd 7 x := by unfold I.Bd; simp; omega
theorem number_any (n : Int) (w : World) (hn : W.Is64 n) : Calls Try.prog 18 #[.int .i64 n] w (SmallR w) := by
 have HN := Lib.hid hn; clear hn
 go_enter Try.func18, Try.ntmps18
 go_wp2_with fail
 obtain ⟨W1, hW⟩ : ∃ W, W = w.alloc (.cells #[.bool false, .slice none 0 0, .bool false, .slice none 0 0] 26) := ⟨_, rfl⟩
 rw [← hW]
 have k3 : Bx W1 (w.heap.size) 26 [.bool false, .slice none 0 0, .bool false, .slice none 0 0] := by rw [hW]; exact Bx.at_ rfl
 have hB : Below w.heap.size w W1 := by rw [hW]; exact (Below.refl _ _).alloc (by simp) _
 have k7 := Lib.hid hB; clear hW hB
 obtain ⟨kf, kg, kh, ki, kj, l9⟩ := k3.f4
 refine (around_any n 100 W1 HN.out (by omega) (by omega)).mono ?_
 rintro e w' ⟨m, rfl, hm0, hm1, rfl⟩
 have hq0 : 0 ≤ m % 25 ∧ m % 25 ≤ 24 := by omega
 have hq1 : 0 ≤ m / 25 ∧ m / 25 ≤ 3 := by omega
 have hbq : Bq 7 (Rat.divInt (m % 25 - 12) (1 + m / 25)) := Bq.divInt (bd_num (by omega) (by omega)) (bd_num (by omega) (by omega)) (by omega)
 have HBQ := Lib.hid hbq
 clear hbq
 go_wp2_with fail
 have k4 := rof4_any (m % 25 - 12) (1 + m / 25) W1 ⟨by omega, by omega⟩ ⟨by omega, by omega⟩
 (with_reducible refine k4.mono ?_)
 clear k4
 rintro e w10 ⟨z0, z1, z2, z3, rfl, k0, k1⟩
 have k2 := k3.below k1
 have k8 := Lib.hid (Blw k7.out k1)
 have k9 := Lib.hid k0
 have o_z0 := k0.one0
 have o_z1 := k0.one1
 have o_z2 := k0.one2
 have o_z3 := k0.one3
 clear k0 k1
 obtain ⟨ka, kb, kc, kd, kl, km⟩ := k2.f4
 go_wp2
 have k5 := (k2).set_ 0 (z0)
 have k6 := (k5).set_ 1 (z1)
 have ke := (k6).set_ 2 (z2)
 have hkp : Kp w10 ((((w10.setCell ⟨w.heap.size, 0, none⟩ (z0)).setCell ⟨w.heap.size, 1, none⟩ (z1)).setCell ⟨w.heap.size, 2, none⟩ (z2)).setCell ⟨w.heap.size, 3, none⟩ (z3)) := ((((Kp.refl _).set_ (k2) (by decide) _).set_ (k5) (by decide) _).set_ (k6) (by decide) _).set_ (ke) (by decide) _
 refine bodyPost_ret (v := .agg #[z0, z1, z2, z3]) (by simp [results, Try.results18, go_sem, ka, kb, kc, kd]) rfl ⟨_, HBQ.out, _, _, _, _, rfl, ?_, ((((k8.out).setCell (by simp) _).setCell (by simp) _).setCell (by simp) _).setCell (by simp) _⟩
 exact k9.out.kp hkp
/-- What returns some small vector. -/
def SmallV (w : World) (e : Ending) (w' : World) : Prop := ∃ v, Bv 7 v ∧ RV v w e w'
set_option maxRecDepth 100000 in
theorem vec_any (v : Value) (l : List Int) (i : Int) (w : World) (hs : Sr w v l) (hl : ∀ x ∈ l, W.Is64 x) (h0 : 0 ≤ i) (h1 : i ≤ 1000) : Calls Try.prog 7 #[v, .int .i64 i] w (SmallV w) := by
 have HL := Lib.hid hl; have HS := Lib.hid hs
 clear hl hs
 go_enter Try.func7, Try.ntmps7
 go_wp2_with fail
 obtain ⟨W1, hW⟩ : ∃ W, W = w.alloc (.cells #[.bool false, .slice none 0 0, .bool false, .slice none 0 0, .bool false, .slice none 0 0, .bool false, .slice none 0 0] 28) := ⟨_, rfl⟩
 rw [← hW]
 have k8 : Bx W1 (w.heap.size) 28 [.bool false, .slice none 0 0, .bool false, .slice none 0 0, .bool false, .slice none 0 0, .bool false, .slice none 0 0] := by rw [hW]; exact Bx.at_ rfl
 have hB : Below w.heap.size w W1 := by rw [hW]; exact (Below.refl _ _).alloc (by simp) _
 have k9 := Lib.hid hB; clear hW hB
 obtain ⟨kx, ky, kz, kA, kB, kC, kD, kE, kF, kG⟩ := k8.f8
 refine (at_any v l (i) 100 W1 (HS.out.below k9.out) HL.out ⟨by omega, by omega⟩ (by omega) (by omega)).mono ?_
 rintro e w' ⟨mx, rfl, hmx0, hmx1, rfl⟩
 go_wp2_with fail
 refine (number_any mx W1 ⟨by omega, by omega⟩).mono ?_
 rintro e w14 ⟨rx, hbqx, x0, x1, x2, x3, rfl, k0, k3⟩
 have HBx := Lib.hid hbqx; clear hbqx
 have ka := k8.below k3
 have kb := Lib.hid (Blw k9.out k3)
 have kj := Lib.hid k0
 have o_x0 := k0.one0
 have o_x1 := k0.one1
 have o_x2 := k0.one2
 have o_x3 := k0.one3
 clear k0 k3
 obtain ⟨kH, kI, kJ, kK, kL, kM, kN, kO, kP, kQ⟩ := ka.f8
 go_wp2_with fail
 refine (at_any v l (i + 1) 100 w14 (HS.out.below kb.out) HL.out ⟨by omega, by omega⟩ (by omega) (by omega)).mono ?_
 rintro e w' ⟨my, rfl, hmy0, hmy1, rfl⟩
 go_wp2_with fail
 refine (number_any my w14 ⟨by omega, by omega⟩).mono ?_
 rintro e w29 ⟨ry, hbqy, y0, y1, y2, y3, rfl, k1, k2⟩
 have HBy := Lib.hid hbqy; clear hbqy
 have k7 := ka.below k2
 have kk := Lib.hid (kj.out.kp (.of k2))
 have kl := Lib.hid (Blw kb.out k2)
 have km := Lib.hid k1
 have o_y0 := k1.one0
 have o_y1 := k1.one1
 have o_y2 := k1.one2
 have o_y3 := k1.one3
 clear k1 k2
 obtain ⟨kn, ko, kq, kr, ks, kt, ku, kv, kR, kS⟩ := k7.f8
 go_wp2
 have kd := (k7).set_ 0 (x0)
 have ke := (kd).set_ 1 (x1)
 have kf := (ke).set_ 2 (x2)
 have kg := (kf).set_ 3 (x3)
 have kh := (kg).set_ 4 (y0)
 have ki := (kh).set_ 5 (y1)
 have kw := (ki).set_ 6 (y2)
 have hkp : Kp w29 ((((((((w29.setCell ⟨w.heap.size, 0, none⟩ (x0)).setCell ⟨w.heap.size, 1, none⟩ (x1)).setCell ⟨w.heap.size, 2, none⟩ (x2)).setCell ⟨w.heap.size, 3, none⟩ (x3)).setCell ⟨w.heap.size, 4, none⟩ (y0)).setCell ⟨w.heap.size, 5, none⟩ (y1)).setCell ⟨w.heap.size, 6, none⟩ (y2)).setCell ⟨w.heap.size, 7, none⟩ (y3)) := ((((((((Kp.refl _).set_ (k7) (by decide) _).set_ (kd) (by decide) _).set_ (ke) (by decide) _).set_ (kf) (by decide) _).set_ (kg) (by decide) _).set_ (kh) (by decide) _).set_ (ki) (by decide) _).set_ (kw) (by decide) _
 refine bodyPost_ret (v := .agg #[x0, x1, x2, x3, y0, y1, y2, y3]) (by simp [results, Try.results7, go_sem, kn, ko, kq, kr, ks, kt, ku, kv]) rfl ⟨(rx, ry), ⟨HBx.out, HBy.out⟩, _, _, _, _, _, _, _, _, rfl, ⟨?_, ?_⟩, ((((((((kl.out).setCell (by simp) _).setCell (by simp) _).setCell (by simp) _).setCell (by simp) _).setCell (by simp) _).setCell (by simp) _).setCell (by simp) _).setCell (by simp) _⟩
 ·exact kk.out.kp hkp
 ·exact km.out.kp hkp
end Go.Proofs.Ytonkbckgbfcnkaa
