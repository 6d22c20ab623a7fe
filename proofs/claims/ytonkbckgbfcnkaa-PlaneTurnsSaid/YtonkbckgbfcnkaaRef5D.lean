/-
 THE WALKS of the generators: Around, At, Number, Vec, Turn.
-/
import Derived.Test.YtonkbckgbfcnkaaRef4B
import Derived.Test.YtonkbckgbfcnkaaWalkMul
import Derived.Deep.LoopGhost
import Derived.Deep.DeepCutAuto
namespace Go.Proofs.Ytonkbckgbfcnkaa
set_option maxHeartbeats 1000000
open Go.RowKit
attribute [local go_sem] run_store_one
set_option linter.unusedVariables false
/-- A slice of ints that came in: it reads as a list. -/
def Sr (w : World) (v : Value) (l : List Int) : Prop := ∃ A n c, v = .slice A n c ∧ n = l.length ∧ n ≤ c ∧ c ≤ maxLen ∧ Rd w w.heap.size A (il l)
theorem Sr.below {w w' : World} {v : Value} {l : List Int} (h : Sr w v l) (hb : Below w.heap.size w w') : Sr w' v l := by
 obtain ⟨A, n, c, h1, h2, h3, h4, h5⟩ := h
 exact ⟨A, n, c, h1, h2, h3, h4, fun hn => by
  obtain ⟨b, o, e, hlt, hc⟩ := h5.below hb (Nat.le_refl _) hn
  exact ⟨b, o, e, Nat.lt_of_lt_of_le hlt hb.size, hc⟩⟩
/-- What returns a number from 0 to most - 1, and leaves the world alone. -/
def Lt0 (most : Int) (w : World) (e : Ending) (w' : World) : Prop := ∃ m, e = .returned (.int .i64 m) ∧ 0 ≤ m ∧ m < most ∧ w = w'
theorem around_any (n most : Int) (w : World) (hn : W.Is64 n) (h0 : 0 < most) (h1 : most ≤ 1000000000000) : Calls Try.prog 19 #[.int .i64 n, .int .i64 most] w (Lt0 most w) := by
 have hlo := hn.1
 have hhi := hn.2
 have hz : (most == 0) = false := beq_eq_false_iff_ne.2 (by omega)
 clear hn
 by_cases h : n < 0
 ·have hd := decide_eq_true h
  obtain ⟨m, hm⟩ : ∃ m, n = -m := ⟨-n, by omega⟩
  subst hm
  have e : -(-m + 1) = m - 1 := by omega
  have hm0 : 0 ≤ m - 1 := by omega
  have hw : IntKind.i64.wrap (-(-m + 1)) = m - 1 := by rw [e, IntKind.wrap_i64]; omega
  have hq0 : 0 ≤ (m - 1) % most := Int.emod_nonneg _ (by omega)
  have hq1 : (m - 1) % most < most := Int.emod_lt_of_pos _ h0
  have ht : Int.tmod (-(-m + 1)) most = (m - 1) % most := by rw [e, Int.tmod_eq_emod_of_nonneg hm0]
  have ht2 : Int.tmod (m - 1) most = (m - 1) % most := Int.tmod_eq_emod_of_nonneg hm0
  clear e
  go_enter Try.func19, Try.ntmps19
  go_wp2
  go_ret
  exact ⟨_, rfl, by omega, by omega, rfl⟩
 ·have hd := decide_eq_false h
  have hn0 : 0 ≤ n := by omega
  have hq0 : 0 ≤ n % most := Int.emod_nonneg _ (by omega)
  have hq1 : n % most < most := Int.emod_lt_of_pos _ h0
  go_enter Try.func19, Try.ntmps19
  go_wp2
  go_ret
  exact ⟨_, rfl, hq0, hq1, rfl⟩
theorem at_any (v : Value) (l : List Int) (i most : Int) (w : World) (hs : Sr w v l) (hl : ∀ x ∈ l, W.Is64 x) (hi : W.Is64 i) (h0 : 0 < most) (h1 : most ≤ 1000000000000) : Calls Try.prog 43 #[v, .int .i64 i, .int .i64 most] w (Lt0 most w) := by
 obtain ⟨A, n, c, rfl, rfl, hc, hm, hr⟩ := hs
 unfold maxLen at hm
 have hlo := hi.1
 have hhi := hi.2
 have HR := Lib.hid hr; have HL := Lib.hid hl
 clear hi hr hl
 by_cases h : i < 0
 ·have hd := decide_eq_true h
  go_enter Try.func43, Try.ntmps43
  go_wp2
  go_ret
  exact ⟨0, rfl, by omega, h0, rfl⟩
 ·have hd := decide_eq_false h
  obtain ⟨j, rfl⟩ := Int.eq_ofNat_of_zero_le (show 0 ≤ i by omega)
  by_cases h2 : j < l.length
  ·have hd2 : decide (l.length ≤ j) = false := decide_eq_false (by omega)
   obtain ⟨x, hx⟩ : ∃ x, l[j]? = some x := ⟨_, List.getElem?_eq_getElem h2⟩
   obtain ⟨b, o, rfl, hb, hcell⟩ := HR.out (by simp; omega)
   have f1 : w.cell? ⟨b, o + j, none⟩ = some (.int .i64 x) := hcell j _ (il_at l hx)
   have HX := Lib.hid (HL.out x (List.mem_of_getElem? hx))
   have hj2 : (j : Int) < (l.length : Int) := by omega
   clear hcell hx hd
   go_enter Try.func43, Try.ntmps43
   go_wp2_with (go_at_call 19; refine (around_any x most _ HX.out h0 h1).mono ?_; rintro e w' ⟨m, rfl, hm0, hm1, rfl⟩)
   go_ret
   exact ⟨_, rfl, hm0, hm1, rfl⟩
  ·have hd2 : decide (l.length ≤ j) = true := decide_eq_true (by omega)
   go_enter Try.func43, Try.ntmps43
   go_wp2
   go_ret
   exact ⟨0, rfl, by omega, h0, rfl⟩
/-- What returns some small rational. -/
def SmallR (w : World) (e : Ending) (w' : World) : Prop := ∃ r, Bq 7 r ∧ RR r w e w'
theorem bd_num {x : Int} (h0 : -12 ≤ x) (h1 : x ≤ 12) : I.Bd 7 x := by unfold I.Bd; simp; omega
theorem number_any (n : Int) (w : World) (hn : W.Is64 n) : Calls Try.prog 18 #[.int .i64 n] w (SmallR w) := by
 have HN := Lib.hid hn; clear hn
 go_enter Try.func18, Try.ntmps18
 go_wp2_with fail
 generalize hW : w.alloc _ = W1
 obtain ⟨k2, hB⟩ := box1 hW
 have k5 := Lib.hid hB; clear hW hB
 obtain ⟨kc, kd, ke, kf, kg, l9⟩ := k2.f4
 refine (around_any n 100 W1 HN.out (by omega) (by omega)).mono ?_
 rintro e w' ⟨m, rfl, hm0, hm1, rfl⟩
 have hq0 : 0 ≤ m % 25 ∧ m % 25 ≤ 24 := by omega
 have hq1 : 0 ≤ m / 25 ∧ m / 25 ≤ 3 := by omega
 have hbq : Bq 7 (Rat.divInt (m % 25 - 12) (1 + m / 25)) := Bq.divInt (bd_num (by omega) (by omega)) (bd_num (by omega) (by omega)) (by omega)
 have HBQ := Lib.hid hbq
 clear hbq
 go_wp2_with fail
 have k3 := rof4_any (m % 25 - 12) (1 + m / 25) W1 ⟨by omega, by omega⟩ ⟨by omega, by omega⟩
 (with_reducible refine k3.mono ?_)
 clear k3
 rintro e w10 ⟨z0, z1, z2, z3, rfl, k0, k1⟩
 have k4 := k2.below k1
 have k6 := Lib.hid (Blw k5.out k1)
 have k7 := Lib.hid k0
 obtain ⟨o_z0, o_z1, o_z2, o_z3⟩ := k0.ones
 clear k0 k1
 obtain ⟨k8, k9, ka, kb, ki, kj⟩ := k4.f4
 go_wp2
 have hkp := (Kp.refl w10).t4 (k4) z0 z1 z2 z3
 refine bodyPost_ret (v := .agg #[z0, z1, z2, z3]) (by simp [results, Try.results18, go_sem, k8, k9, ka, kb]) rfl ⟨_, HBQ.out, _, _, _, _, rfl, ?_, bel4 (k6.out) (by first | simp | omega)⟩
 exact k7.out.kp hkp
/-- What returns some small vector. -/
def SmallV (w : World) (e : Ending) (w' : World) : Prop := ∃ v, Bv 7 v ∧ RV v w e w'
set_option maxRecDepth 100000 in
theorem vec_any (v : Value) (l : List Int) (i : Int) (w : World) (hs : Sr w v l) (hl : ∀ x ∈ l, W.Is64 x) (h0 : 0 ≤ i) (h1 : i ≤ 1000) : Calls Try.prog 7 #[v, .int .i64 i] w (SmallV w) := by
 have HL := Lib.hid hl; have HS := Lib.hid hs
 clear hl hs
 go_enter Try.func7, Try.ntmps7
 go_wp2_with fail
 generalize hW : w.alloc _ = W1
 obtain ⟨k4, hB⟩ := box1 hW
 have k5 := Lib.hid hB; clear hW hB
 obtain ⟨kq, kr, ks, kt, ku, kv, kw, kx, ky, kz⟩ := k4.f8
 refine (at_any v l (i) 100 W1 (HS.out.below k5.out) HL.out ⟨by omega, by omega⟩ (by omega) (by omega)).mono ?_
 rintro e w' ⟨mx, rfl, hmx0, hmx1, rfl⟩
 go_wp2_with fail
 refine (number_any mx W1 ⟨by omega, by omega⟩).mono ?_
 rintro e w14 ⟨rx, hbqx, x0, x1, x2, x3, rfl, k1, k2⟩
 have HBx := Lib.hid hbqx; clear hbqx
 have k6 := k4.below k2
 have k7 := Lib.hid (Blw k5.out k2)
 have kd := Lib.hid k1
 obtain ⟨o_x0, o_x1, o_x2, o_x3⟩ := k1.ones
 clear k1 k2
 obtain ⟨kA, kB, kC, kD, kE, kF, kG, kH, kI, kJ⟩ := k6.f8
 go_wp2_with fail
 refine (at_any v l (i + 1) 100 w14 (HS.out.below k7.out) HL.out ⟨by omega, by omega⟩ (by omega) (by omega)).mono ?_
 rintro e w' ⟨my, rfl, hmy0, hmy1, rfl⟩
 go_wp2_with fail
 refine (number_any my w14 ⟨by omega, by omega⟩).mono ?_
 rintro e w29 ⟨ry, hbqy, y0, y1, y2, y3, rfl, k3, k0⟩
 have HBy := Lib.hid hbqy; clear hbqy
 have kc := k6.below k0
 have ke := Lib.hid (kd.out.kp (.of k0))
 have kf := Lib.hid (Blw k7.out k0)
 have kg := Lib.hid k3
 obtain ⟨o_y0, o_y1, o_y2, o_y3⟩ := k3.ones
 clear k3 k0
 obtain ⟨kh, ki, kj, kk, kl, km, kn, ko, kK, kL⟩ := kc.f8
 go_wp2
 have hkp := (Kp.refl w29).t8 (kc) x0 x1 x2 x3 y0 y1 y2 y3
 refine bodyPost_ret (v := .agg #[x0, x1, x2, x3, y0, y1, y2, y3]) (by simp [results, Try.results7, go_sem, kh, ki, kj, kk, kl, km, kn, ko]) rfl ⟨(rx, ry), ⟨HBx.out, HBy.out⟩, _, _, _, _, _, _, _, _, rfl, ⟨?_, ?_⟩, bel8 (kf.out) (by first | simp | omega)⟩
 ·exact ke.out.kp hkp
 ·exact kg.out.kp hkp
end Go.Proofs.Ytonkbckgbfcnkaa
