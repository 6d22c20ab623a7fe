/-
 THE WALKS of the reference of package integer: Gcd.
-/
import Derived.Test.YtonkbckgbfcnkaaRef3E
import Derived.Test.YtonkbckgbfcnkaaWalkGcd
namespace Go.Proofs.Ytonkbckgbfcnkaa
set_option maxHeartbeats 4000000
open Go.RowKit
attribute [local go_sem] run_store_one
set_option linter.unusedVariables false
set_option maxRecDepth 100000 in
theorem rgcd3_any (k : Nat) (a0 a1 b0 b1 : Value) (x y : Int) (w : World) (hx : IntV w a0 a1 x) (hy : IntV w b0 b1 y) (bx : I.Bd k x) (by_ : I.Bd k y) (hk : k ≤ 800000000000) :
  Calls Try.prog 87 #[.agg #[a0, a1], .agg #[b0, b1]] w (RI (Int.gcd x y : Int) w) := by
 have oa0 := hx.one0
 have oa1 := hx.one1
 have ob0 := hy.one0
 have ob1 := hy.one1
 obtain ⟨la, sa, ca, va⟩ := hx.sl
 obtain ⟨lb, sb, cb, vb⟩ := hy.sl
 have HSA := Lib.hid sa; have HSB := Lib.hid sb; have HCA := Lib.hid ca; have HCB := Lib.hid cb; have HVA := Lib.hid va; have HVB := Lib.hid vb
 have HBX := Lib.hid bx; have HBY := Lib.hid by_
 clear sa sb ca cb va vb bx by_ hx hy
 obtain ⟨GG, hGG⟩ : ∃ GG : Int, GG = (Int.gcd x y : Int) := ⟨_, rfl⟩
 rw [← hGG]
 have HGG := Lib.hid hGG; clear hGG
 go_enter Try.func87, Try.ntmps87
 go_wp2_with fail
 obtain ⟨W1, hW⟩ : ∃ W, W = ((w.alloc (.cells #[a0, a1] 24)).alloc (.cells #[b0, b1] 24)).alloc (.cells #[.bool false, .slice none 0 0] 24) := ⟨_, rfl⟩
 rw [← hW]
 have kP : Bx W1 (w.heap.size) 24 [a0, a1] := by rw [hW]; exact ((Bx.at_ rfl).alloc _).alloc _
 have kQ : Bx W1 (w.heap.size + 1) 24 [b0, b1] := by rw [hW]; exact (Bx.at_ (by simp)).alloc _
 have kR : Bx W1 (w.heap.size + 1 + 1) 24 [.bool false, .slice none 0 0] := by rw [hW]; exact Bx.at_ (by simp)
 have hB : Below w.heap.size w W1 := by rw [hW]; exact (((Below.refl _ _).alloc (by simp) _).alloc (by simp) _).alloc (by simp; omega) _
 have ks := Lib.hid hB; clear hW hB
 have F6 := Lib.hid (HSA.out.kp (.of ks.out))
 have F7 := Lib.hid (HSB.out.kp (.of ks.out))
 obtain ⟨k1x, k1y, k1z, l11⟩ := kP.f2
 obtain ⟨k1B, k1C, k1D, l15⟩ := kQ.f2
 obtain ⟨k1F, k1G, k1H, l19⟩ := kR.f2
 have kt := normal_any false a1 la W1 F6.out HCA.out.1
 rw [sg_false, HVA.out] at kt
 (with_reducible refine kt.mono ?_)
 clear kt
 rintro e w20 ⟨r0, r1, rfl, kl, k8⟩
 obtain ⟨kS, k1J, k1K, k1L, l26⟩ := kP.b2 k8
 obtain ⟨kT, k1N, k1O, k1P, l31⟩ := kQ.b2 k8
 obtain ⟨kU, k1R, k1S, k1T, l36⟩ := kR.b2 k8
 have F38 := Lib.hid (F7.out.kp (.of k8))
 have k0m := Lib.hid (Blw ks.out k8)
 have F40 := Lib.hid kl
 have o_r0 := kl.one0
 have o_r1 := kl.one1
 clear kl k8
 go_wp2_with fail
 obtain ⟨W41, hW⟩ : ∃ W, W = w20.alloc (.cells #[r0, r1] 24) := ⟨_, rfl⟩
 rw [← hW]
 have hB : Below w20.heap.size w20 W41 := by rw [hW]; exact (Below.refl _ _).alloc (by simp) _
 have k1V := kS.lt
 have k1W := kT.lt
 have k1X := kU.lt
 have kV : Bx W41 (w20.heap.size) 24 [r0, r1] := by rw [hW]; exact Bx.at_ rfl
 clear hW
 obtain ⟨k0o, k1Y, k1Z, k20, l50⟩ := kS.b2 hB
 obtain ⟨k0p, k22, k23, k24, l55⟩ := kT.b2 hB
 obtain ⟨k0q, k26, k27, k28, l60⟩ := kU.b2 hB
 have F62 := Lib.hid (F38.out.kp (.of hB))
 have F63 := Lib.hid (F40.out.kp (.of hB))
 have k0t := Lib.hid (Blw k0m.out hB)
 clear hB
 obtain ⟨k2a, k2b, k2c, l68⟩ := kV.f2
 have ku := normal_any false b1 lb W41 F62.out HCB.out.1
 rw [sg_false, HVB.out] at ku
 (with_reducible refine ku.mono ?_)
 clear ku
 rintro e w69 ⟨t0, t1, rfl, km, k4⟩
 obtain ⟨kW, k2e, k2f, k2g, l75⟩ := k0o.b2 k4
 obtain ⟨kX, k2i, k2j, k2k, l80⟩ := k0p.b2 k4
 obtain ⟨kY, k2m, k2n, k2o, l85⟩ := k0q.b2 k4
 obtain ⟨kZ, k2q, k2r, k2s, l90⟩ := kV.b2 k4
 have F93 := Lib.hid (F63.out.kp (.of k4))
 have k0v := Lib.hid (Blw k0t.out k4)
 have F95 := Lib.hid km
 have o_t0 := km.one0
 have o_t1 := km.one1
 clear km k4
 go_wp2_with fail
 obtain ⟨W96, hW⟩ : ∃ W, W = w69.alloc (.cells #[t0, t1] 24) := ⟨_, rfl⟩
 rw [← hW]
 have hB : Below w69.heap.size w69 W96 := by rw [hW]; exact (Below.refl _ _).alloc (by simp) _
 have k2u := kW.lt
 have k2v := kX.lt
 have k2w := kY.lt
 have k2x := kZ.lt
 have k00 : Bx W96 (w69.heap.size) 24 [t0, t1] := by rw [hW]; exact Bx.at_ rfl
 clear hW
 obtain ⟨k2y, k0x, k0y, k0z, k2z⟩ := kW.b2 hB
 obtain ⟨k2A, k0A, k0B, k0C, k2B⟩ := kX.b2 hB
 obtain ⟨k0D, k0E, k0F, k0G, k2C⟩ := kY.b2 hB
 obtain ⟨k0H, k0I, k0J, k0K, k2D⟩ := kZ.b2 hB
 have k0L := Lib.hid (F93.out.kp (.of hB))
 have k0M := Lib.hid (F95.out.kp (.of hB))
 have k0N := Lib.hid (Blw k0v.out hB)
 clear hB
 obtain ⟨k0O, k0P, k0Q, k2E⟩ := k00.f2
 obtain ⟨g5, hg5⟩ : ∃ g, g = w20.heap.size := ⟨_, rfl⟩
 obtain ⟨g6, hg6⟩ : ∃ g, g = w69.heap.size := ⟨_, rfl⟩
 rw [← hg5, ← hg6]
 have hx5 := k0H
 have hx6 := k00
 rw [← hg5] at hx5
 rw [← hg6] at hx6
 have hn4 : w.heap.size + 1 + 1 ≠ g5 := by omega
 have hn5 : w.heap.size + 1 + 1 ≠ g6 := by omega
 have hn56 : g5 ≠ g6 := by omega
 have hw5 : w.heap.size + 1 + 1 < g5 := by omega
 have hw6 : w.heap.size + 1 + 1 < g6 := by omega
 have HST := Lib.hid (show GcdAt k y.natAbs x y w W96 (w.heap.size + 1 + 1) g5 g6 from ⟨r0, r1, t0, t1, x.natAbs, y.natAbs, k0D, hx5, hx6, k0L.out, k0M.out, by omega, by omega, by omega, by simp [Int.gcd], by have := HBX.out; unfold I.Bd at *; simpa using this, by have := HBY.out; unfold I.Bd at *; simpa using this, k0N.out⟩)
 clear hx5 hx6 hg5 hg6 oa0 oa1 ob0 ob1 HSA HSB HCA HCB HVA HVB HBX HBY k0x k0y k0z k0A k0B k0C k0E k0F k0G k0I k0J k0K k0O k0P k0Q
 go_wp2_with fail
 go_loopg [] y.natAbs (fun n wr => GcdAt k n x y w wr (w.heap.size + 1 + 1) g5 g6)
 case atStart => exact HST.out
 case round =>
  clear HST
  obtain ⟨wo, rfl⟩ : ∃ wo : World, wo = wr := ⟨_, rfl⟩
  obtain ⟨p0, p1, q0, q1, X, Y, hx4, hx5, hx6, hrp, hrq, hX0, hY0, hYn, hgcd, hbX, hbY, hbw⟩ := hrel
  subst hYn
  have HRP := Lib.hid hrp; have HRQ := Lib.hid hrq; have HGC := Lib.hid hgcd; have HBX := Lib.hid hbX; have HBY := Lib.hid hbY; have HBW := Lib.hid hbw
  clear hrp hrq hgcd hbX hbY hbw
  obtain ⟨gp, Ap, np, cp, rfl, rfl⟩ := HRP.out.form
  obtain ⟨gq, Aq, nq, cq, rfl, rfl⟩ := HRQ.out.form
  obtain ⟨k0R, k0S, k2F, k2G⟩ := hx4.f2
  obtain ⟨k2H, k2I, k2J, k2K⟩ := hx5.f2
  obtain ⟨k2L, k2M, k2N, k2O⟩ := hx6.f2
  have hlq := HRQ.out.len
  by_cases hz : Y = 0
  ·obtain rfl : nq = 0 := hlq.2.2 hz
   subst hz
   clear hlq
   have e : X = GG := by rw [HGG.out, ← HGC.out]; exact (gcd_zero hX0).symm
   subst e
   go_wp2_with fail
   have k0T := hx4.set_ 0 (.bool gp)
   have hkp : Kp wo ((wo.setCell ⟨w.heap.size + 1 + 1, 0, none⟩ (.bool gp)).setCell ⟨w.heap.size + 1 + 1, 1, none⟩ (.slice Ap np cp)) := ((Kp.refl _).set_ hx4 (by decide) _).set_ k0T (by decide) _
   refine bodyPost_ret (v := .agg #[.bool gp, .slice Ap np cp]) (by simp [results, Try.results87, go_sem, k0R, k0S]) rfl ⟨_, _, rfl, ?_, ((HBW.out).setCell (by simp <;> omega) _).setCell (by simp <;> omega) _⟩
   exact HRP.out.kp hkp
  ·have hnq2 : 0 < nq := by
    have h2 := hlq.2
    rcases Nat.eq_zero_or_pos nq with h3 | h3
    ·exact absurd (h2.1 h3) hz
    ·exact h3
   have hnq : 0 < (nq : Int) := by omega
   have hY1 : 0 < Y := by omega
   have hY1b : Y ≠ 0 := hz
   obtain ⟨LP, sp, cp_, vp⟩ := HRP.out.sl
   obtain ⟨LQ, sq, cq2, vq⟩ := HRQ.out.sl
   have hlenp : np = LP.length := by
    obtain ⟨_, _, _, e, h, _⟩ := id sp
    injection e with _ e _
    omega
   have hlenq : nq = LQ.length := by
    obtain ⟨_, _, _, e, h, _⟩ := id sq
    injection e with _ e _
    omega
   rw [show (X.natAbs : Int) = X by omega] at vp
   rw [show (Y.natAbs : Int) = Y by omega] at vq
   have HSP := Lib.hid sp; have HSQ := Lib.hid sq; have HCP := Lib.hid cp_; have HCQ := Lib.hid cq2; have HVP := Lib.hid vp; have HVQ := Lib.hid vq; have HNP := Lib.hid hlenp; have HNQ := Lib.hid hlenq
   clear hlq hz sp sq cp_ cq2 vp vq hlenp hlenq
   by_cases hLP : np ≤ 2
   ·have g1 := decide_eq_true hLP
    by_cases hLQ : nq ≤ 2
    ·have g2 := decide_eq_true hLQ
     go_wp2_with fail
     have hX1 := two_lt HCP.out.1 (by have := HNP.out; omega : LP.length ≤ 2)
     have hY2 := two_lt HCQ.out.1 (by have := HNQ.out; omega : LQ.length ≤ 2)
     rw [HVP.out] at hX1
     rw [HVQ.out] at hY2
     have k3 := tiny_b (.slice Ap np cp) LP wo HSP.out HCP.out.1 (by have := HNP.out; omega) X HVP.out.symm
     (with_reducible refine k3.mono ?_)
     clear k3
     rintro e w513 ⟨rfl, k0⟩
     obtain ⟨k5, k01, k02, k03, k04⟩ := hx4.b2 k0
     obtain ⟨k6, k05, k06, k07, k08⟩ := hx5.b2 k0
     obtain ⟨k7, k09, k0a, k0b, k0c⟩ := hx6.b2 k0
     have kn := Lib.hid (HRP.out.kp (.of k0))
     have ko := Lib.hid (HRQ.out.kp (.of k0))
     have kq := Lib.hid (HSP.out.kp (.of k0))
     have k9 := Lib.hid (HSQ.out.kp (.of k0))
     have ka := Lib.hid (Blw HBW.out k0)
     clear k0
     go_wp2_with fail
     have k0d := tiny_b (.slice Aq nq cq) LQ w513 k9.out HCQ.out.1 (by have := HNQ.out; omega) Y HVQ.out.symm
     (with_reducible refine k0d.mono ?_)
     clear k0d
     rintro e w535 ⟨rfl, kb⟩
     obtain ⟨k0U, k2P, k2Q, k2R, k2S⟩ := k5.b2 kb
     obtain ⟨k0V, k2T, k2U, k2V, k2W⟩ := k6.b2 kb
     obtain ⟨k0W, k2X, k2Y, k2Z, k30⟩ := k7.b2 kb
     have k0X := Lib.hid (Blw ka.out kb)
     clear kb
     go_wp2_with fail
     go_loopw [7, 8] (fun m n wi => ∃ M N : Int, m = .int .i64 M ∧ n = .int .i64 N ∧ 0 ≤ M ∧ M < 1000000000000000000 ∧ 0 ≤ N ∧ N < 1000000000000000000 ∧ Hid (Int.gcd M N = Int.gcd x y) ∧ Hid (Below w535.heap.size w535 wi)) (fun _ n _ => (intOf n).toNat)
     case atStart => exact ⟨X, Y, rfl, rfl, hX0, hX1, hY0, hY2, HGC, Below.refl _ _⟩
     case round =>
      obtain ⟨M, N, rfl, rfl, hM0, hM1, hN0, hN1, HG2, HN⟩ := hrel
      by_cases hz : N = 0
      ·subst hz
       have e : M = GG := by rw [HGG.out, ← HG2.out]; exact (gcd_zero hM0).symm
       subst e
       have k0e := k0U.below HN.out
       obtain ⟨k31, k32, k33, k34⟩ := k0e.f2
       have k0f := k0V.below HN.out
       obtain ⟨k35, k36, k37, k38⟩ := k0f.f2
       have k0g := k0W.below HN.out
       obtain ⟨k39, k3a, k3b, k3c⟩ := k0g.f2
       have k0Y := Lib.hid (Blw k0X.out HN.out)
       go_wp2_with fail
       have k0h := rof3_any M wr ⟨by omega, by omega⟩
       (with_reducible refine k0h.mono ?_)
       clear k0h
       rintro e w577 ⟨u0, u1, rfl, kr, kc⟩
       obtain ⟨k0i, k0Z, k10, k3d, k3e⟩ := k0e.b2 kc
       obtain ⟨k3f, k3g, k3h, k3i, k3j⟩ := k0f.b2 kc
       obtain ⟨k3k, k3l, k3m, k3n, k3o⟩ := k0g.b2 kc
       have k11 := Lib.hid (Blw k0Y.out kc)
       have k12 := Lib.hid kr
       have o_u0 := kr.one0
       have o_u1 := kr.one1
       clear kr kc
       go_wp2_with fail
       have k13 := k0i.set_ 0 (u0)
       have hkp : Kp w577 ((w577.setCell ⟨w.heap.size + 1 + 1, 0, none⟩ (u0)).setCell ⟨w.heap.size + 1 + 1, 1, none⟩ (u1)) := ((Kp.refl _).set_ k0i (by decide) _).set_ k13 (by decide) _
       refine bodyPost_ret (v := .agg #[u0, u1]) (by simp [results, Try.results87, go_sem, k0Z, k10]) rfl ⟨_, _, rfl, ?_, ((k11.out).setCell (by simp <;> omega) _).setCell (by simp <;> omega) _⟩
       exact k12.out.kp hkp
      ·have hN2 : 0 < N := by omega
       have hs0 : 0 ≤ M % N := Int.emod_nonneg _ (by omega)
       have hs1 : M % N < N := Int.emod_lt_of_pos _ hN2
       have hst := gcd_step hM0 hN2
       rw [HG2.out] at hst
       have HST := Lib.hid hst; clear hst
       go_wp2
       go_roundw
       case rel => exact ⟨N, M % N, rfl, rfl, hN0, hN1, hs0, by omega, HST, HN⟩
       case measure => simp [intOf]; omega
    ·have g2 := decide_eq_false hLQ
     have g2' : decide ((nq : Int) ≤ 2) = false := decide_eq_false (by omega)
     go_wp2_with fail
     have k3 := rdiv3_any k (.bool gp) (.slice Ap np cp) (.bool gq) (.slice Aq nq cq) X Y wo HRP.out HRQ.out HBX.out HBY.out hk hY1b
     (with_reducible refine k3.mono ?_)
     clear k3
     rintro e w513 ⟨u0, u1, v0, v1, rfl, k1, k2, k0⟩
     obtain ⟨k5, k01, k02, k03, k04⟩ := hx4.b2 k0
     obtain ⟨k6, k05, k06, k07, k08⟩ := hx5.b2 k0
     obtain ⟨k7, k09, k0a, k0b, k0c⟩ := hx6.b2 k0
     have kn := Lib.hid (HRP.out.kp (.of k0))
     have ko := Lib.hid (HRQ.out.kp (.of k0))
     have kq := Lib.hid (HSP.out.kp (.of k0))
     have k9 := Lib.hid (HSQ.out.kp (.of k0))
     have ka := Lib.hid (Blw HBW.out k0)
     have kd := Lib.hid k1
     have o_u0 := k1.one0
     have o_u1 := k1.one1
     have ke := Lib.hid k2
     have o_v0 := k2.one0
     have o_v1 := k2.one1
     clear k1 k2 k0
     obtain ⟨gu, Au, nu, cu, rfl, rfl⟩ := kd.out.form
     obtain ⟨gv, Av, nv, cv, rfl, rfl⟩ := ke.out.form
     go_upto_region 13 with fail
     obtain ⟨W537, hW⟩ : ∃ W, W = (w513.alloc (.cells #[.bool gu, .slice Au nu cu] 24)).alloc (.cells #[.bool gv, .slice Av nv cv] 24) := ⟨_, rfl⟩
     rw [← hW]
     have hB : Below w513.heap.size w513 W537 := by rw [hW]; exact ((Below.refl _ _).alloc (by simp) _).alloc (by simp <;> omega) _
     have k14 := k5.lt
     have k15 := k6.lt
     have k16 := k7.lt
     have kf : Bx W537 (w513.heap.size) 24 [.bool gu, .slice Au nu cu] := by rw [hW]; exact (Bx.at_ rfl).alloc _
     have kg : Bx W537 (w513.heap.size + 1) 24 [.bool gv, .slice Av nv cv] := by rw [hW]; exact Bx.at_ (by simp)
     clear hW
     obtain ⟨kv, k17, k18, k19, k1a⟩ := k5.b2 hB
     obtain ⟨kh, k1b, k1c, k1d, k1e⟩ := k6.b2 hB
     obtain ⟨kw, k1f, k1g, k1h, k1i⟩ := k7.b2 hB
     have k1j := Lib.hid (kn.out.kp (.of hB))
     have kx := Lib.hid (ko.out.kp (.of hB))
     have k1k := Lib.hid (kq.out.kp (.of hB))
     have k1l := Lib.hid (k9.out.kp (.of hB))
     have k1m := Lib.hid (kd.out.kp (.of hB))
     have ky := Lib.hid (ke.out.kp (.of hB))
     have kz := Lib.hid (Blw ka.out hB)
     clear hB
     obtain ⟨k1n, k1o, k1p, k1q⟩ := kf.f2
     obtain ⟨k1r, k1s, k1t, k1u⟩ := kg.f2
     go_wp2_with fail
     have ki := kh.set_ 0 (.bool gq)
     have kA := kv.far_ (g' := g5) (j := 0) (by omega) (.bool gq)
     have kB := kw.far_ (g' := g5) (j := 0) (by omega) (.bool gq)
     have kC := kf.far_ (g' := g5) (j := 0) (by omega) (.bool gq)
     have kD := kg.far_ (g' := g5) (j := 0) (by omega) (.bool gq)
     have kE := ki.set_ 1 (.slice Aq nq cq)
     have kF := kA.far_ (g' := g5) (j := 1) (by omega) (.slice Aq nq cq)
     have kj := kB.far_ (g' := g5) (j := 1) (by omega) (.slice Aq nq cq)
     have kG := kC.far_ (g' := g5) (j := 1) (by omega) (.slice Aq nq cq)
     have kH := kD.far_ (g' := g5) (j := 1) (by omega) (.slice Aq nq cq)
     have kk := kj.set_ 0 (.bool gv)
     have kI := kF.far_ (g' := g6) (j := 0) (by omega) (.bool gv)
     have kJ := kE.far_ (g' := g6) (j := 0) (by omega) (.bool gv)
     have kK := kG.far_ (g' := g6) (j := 0) (by omega) (.bool gv)
     have kL := kH.far_ (g' := g6) (j := 0) (by omega) (.bool gv)
     have kM := kk.set_ 1 (.slice Av nv cv)
     have kN := kI.far_ (g' := g6) (j := 1) (by omega) (.slice Av nv cv)
     have kO := kJ.far_ (g' := g6) (j := 1) (by omega) (.slice Av nv cv)
     have k1v := kK.far_ (g' := g6) (j := 1) (by omega) (.slice Av nv cv)
     have k1w := kL.far_ (g' := g6) (j := 1) (by omega) (.slice Av nv cv)
     have hkp : Kp W537 ((((W537.setCell ⟨g5, 0, none⟩ (.bool gq)).setCell ⟨g5, 1, none⟩ (.slice Aq nq cq)).setCell ⟨g6, 0, none⟩ (.bool gv)).setCell ⟨g6, 1, none⟩ (.slice Av nv cv)) := ((((Kp.refl _).set_ kh (by decide) _).set_ ki (by decide) _).set_ kj (by decide) _).set_ kk (by decide) _
     have hs0 : 0 ≤ X % Y := Int.emod_nonneg _ (by omega)
     have hs1 : X % Y < Y := Int.emod_lt_of_pos _ hY1
     go_wp2
     go_roundg (X % Y).toNat
     case measure => omega
     case rel => exact ⟨_, _, _, _, Y, X % Y, kN, kO, kM, kx.out.kp hkp, ky.out.kp hkp, hY0, hs0, rfl, by rw [gcd_step hX0 hY1]; exact HGC.out, HBY.out, HBY.out.of_le (by omega), ((((kz.out).setCell (by simp <;> omega) _).setCell (by simp <;> omega) _).setCell (by simp <;> omega) _).setCell (by simp <;> omega) _⟩
   ·have g1 := decide_eq_false hLP
    have g1' : decide ((np : Int) ≤ 2) = false := decide_eq_false (by omega)
    go_wp2_with fail
    have k3 := rdiv3_any k (.bool gp) (.slice Ap np cp) (.bool gq) (.slice Aq nq cq) X Y wo HRP.out HRQ.out HBX.out HBY.out hk hY1b
    (with_reducible refine k3.mono ?_)
    clear k3
    rintro e w513 ⟨u0, u1, v0, v1, rfl, k1, k2, k0⟩
    obtain ⟨k5, k01, k02, k03, k04⟩ := hx4.b2 k0
    obtain ⟨k6, k05, k06, k07, k08⟩ := hx5.b2 k0
    obtain ⟨k7, k09, k0a, k0b, k0c⟩ := hx6.b2 k0
    have kn := Lib.hid (HRP.out.kp (.of k0))
    have ko := Lib.hid (HRQ.out.kp (.of k0))
    have kq := Lib.hid (HSP.out.kp (.of k0))
    have k9 := Lib.hid (HSQ.out.kp (.of k0))
    have ka := Lib.hid (Blw HBW.out k0)
    have kd := Lib.hid k1
    have o_u0 := k1.one0
    have o_u1 := k1.one1
    have ke := Lib.hid k2
    have o_v0 := k2.one0
    have o_v1 := k2.one1
    clear k1 k2 k0
    obtain ⟨gu, Au, nu, cu, rfl, rfl⟩ := kd.out.form
    obtain ⟨gv, Av, nv, cv, rfl, rfl⟩ := ke.out.form
    go_upto_region 13 with fail
    obtain ⟨W537, hW⟩ : ∃ W, W = (w513.alloc (.cells #[.bool gu, .slice Au nu cu] 24)).alloc (.cells #[.bool gv, .slice Av nv cv] 24) := ⟨_, rfl⟩
    rw [← hW]
    have hB : Below w513.heap.size w513 W537 := by rw [hW]; exact ((Below.refl _ _).alloc (by simp) _).alloc (by simp <;> omega) _
    have k14 := k5.lt
    have k15 := k6.lt
    have k16 := k7.lt
    have kf : Bx W537 (w513.heap.size) 24 [.bool gu, .slice Au nu cu] := by rw [hW]; exact (Bx.at_ rfl).alloc _
    have kg : Bx W537 (w513.heap.size + 1) 24 [.bool gv, .slice Av nv cv] := by rw [hW]; exact Bx.at_ (by simp)
    clear hW
    obtain ⟨kv, k17, k18, k19, k1a⟩ := k5.b2 hB
    obtain ⟨kh, k1b, k1c, k1d, k1e⟩ := k6.b2 hB
    obtain ⟨kw, k1f, k1g, k1h, k1i⟩ := k7.b2 hB
    have k1j := Lib.hid (kn.out.kp (.of hB))
    have kx := Lib.hid (ko.out.kp (.of hB))
    have k1k := Lib.hid (kq.out.kp (.of hB))
    have k1l := Lib.hid (k9.out.kp (.of hB))
    have k1m := Lib.hid (kd.out.kp (.of hB))
    have ky := Lib.hid (ke.out.kp (.of hB))
    have kz := Lib.hid (Blw ka.out hB)
    clear hB
    obtain ⟨k1n, k1o, k1p, k1q⟩ := kf.f2
    obtain ⟨k1r, k1s, k1t, k1u⟩ := kg.f2
    go_wp2_with fail
    have ki := kh.set_ 0 (.bool gq)
    have kA := kv.far_ (g' := g5) (j := 0) (by omega) (.bool gq)
    have kB := kw.far_ (g' := g5) (j := 0) (by omega) (.bool gq)
    have kC := kf.far_ (g' := g5) (j := 0) (by omega) (.bool gq)
    have kD := kg.far_ (g' := g5) (j := 0) (by omega) (.bool gq)
    have kE := ki.set_ 1 (.slice Aq nq cq)
    have kF := kA.far_ (g' := g5) (j := 1) (by omega) (.slice Aq nq cq)
    have kj := kB.far_ (g' := g5) (j := 1) (by omega) (.slice Aq nq cq)
    have kG := kC.far_ (g' := g5) (j := 1) (by omega) (.slice Aq nq cq)
    have kH := kD.far_ (g' := g5) (j := 1) (by omega) (.slice Aq nq cq)
    have kk := kj.set_ 0 (.bool gv)
    have kI := kF.far_ (g' := g6) (j := 0) (by omega) (.bool gv)
    have kJ := kE.far_ (g' := g6) (j := 0) (by omega) (.bool gv)
    have kK := kG.far_ (g' := g6) (j := 0) (by omega) (.bool gv)
    have kL := kH.far_ (g' := g6) (j := 0) (by omega) (.bool gv)
    have kM := kk.set_ 1 (.slice Av nv cv)
    have kN := kI.far_ (g' := g6) (j := 1) (by omega) (.slice Av nv cv)
    have kO := kJ.far_ (g' := g6) (j := 1) (by omega) (.slice Av nv cv)
    have k1v := kK.far_ (g' := g6) (j := 1) (by omega) (.slice Av nv cv)
    have k1w := kL.far_ (g' := g6) (j := 1) (by omega) (.slice Av nv cv)
    have hkp : Kp W537 ((((W537.setCell ⟨g5, 0, none⟩ (.bool gq)).setCell ⟨g5, 1, none⟩ (.slice Aq nq cq)).setCell ⟨g6, 0, none⟩ (.bool gv)).setCell ⟨g6, 1, none⟩ (.slice Av nv cv)) := ((((Kp.refl _).set_ kh (by decide) _).set_ ki (by decide) _).set_ kj (by decide) _).set_ kk (by decide) _
    have hs0 : 0 ≤ X % Y := Int.emod_nonneg _ (by omega)
    have hs1 : X % Y < Y := Int.emod_lt_of_pos _ hY1
    go_wp2
    go_roundg (X % Y).toNat
    case measure => omega
    case rel => exact ⟨_, _, _, _, Y, X % Y, kN, kO, kM, kx.out.kp hkp, ky.out.kp hkp, hY0, hs0, rfl, by rw [gcd_step hX0 hY1]; exact HGC.out, HBY.out, HBY.out.of_le (by omega), ((((kz.out).setCell (by simp <;> omega) _).setCell (by simp <;> omega) _).setCell (by simp <;> omega) _).setCell (by simp <;> omega) _⟩
end Go.Proofs.Ytonkbckgbfcnkaa
