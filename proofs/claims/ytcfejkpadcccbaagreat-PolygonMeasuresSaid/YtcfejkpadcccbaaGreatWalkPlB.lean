/-
 THE WALKS of package plane: Same, SameTurn, Of, Still.
-/
import Derived.Test.YtcfejkpadcccbaaGreatRef3E
import Derived.Test.YtcfejkpadcccbaaGreatWalkGcd
import Derived.Test.YtcfejkpadcccbaaGreatMemR
import Derived.Test.YtcfejkpadcccbaaGreatWalkUns
import Derived.RegionTactic
import Derived.BigRegion
import Derived.Deep.RegionHeld3
import Derived.ChangeAlike
import Derived.Test.YtcfejkpadcccbaaGreatWalkDiv
import Derived.Test.YtcfejkpadcccbaaGreatWalkAdd
import Derived.Test.YtcfejkpadcccbaaGreatEnK
import Derived.Deep.LoopGhost
import Derived.Deep.DeepCutAuto
namespace Go.Proofs.YtcfejkpadcccbaaGreat
set_option maxHeartbeats 4000000
open Go.RowKit
attribute [local go_sem] run_store_one
set_option linter.unusedVariables false
set_option maxRecDepth 100000 in
theorem rgcd3_any (k : Nat) (a0 a1 b0 b1 : Value) (x y : Int) (w : World) (hx : IntV w a0 a1 x) (hy : IntV w b0 b1 y) (bx : I.Bd k x) (by_ : I.Bd k y) (hk : k ≤ 800000000000) :
  Calls Tryz.prog 103 #[.agg #[a0, a1], .agg #[b0, b1]] w (RI (Int.gcd x y : Int) w) := by
 obtain ⟨oa0, oa1⟩ := hx.ones
 obtain ⟨ob0, ob1⟩ := hy.ones
 obtain ⟨la, sa, ca, va⟩ := hx.sl
 obtain ⟨lb, sb, cb, vb⟩ := hy.sl
 have HSA := Lib.hid sa; have HSB := Lib.hid sb; have HCA := Lib.hid ca; have HCB := Lib.hid cb; have HVA := Lib.hid va; have HVB := Lib.hid vb
 have HBX := Lib.hid bx; have HBY := Lib.hid by_
 clear sa sb ca cb va vb bx by_ hx hy
 obtain ⟨GG, hGG⟩ : ∃ GG : Int, GG = (Int.gcd x y : Int) := ⟨_, rfl⟩
 rw [← hGG]
 have HGG := Lib.hid hGG; clear hGG
 go_enter Tryz.func103, Tryz.ntmps103
 go_wp2_with fail
 generalize hW : ((w.alloc _).alloc _).alloc _ = W1
 obtain ⟨kP, kQ, kR, hB⟩ := box3 hW
 have km := Lib.hid hB; clear hW hB
 have F6 := Lib.hid (HSA.out.kp (.of km.out))
 have F7 := Lib.hid (HSB.out.kp (.of km.out))
 obtain ⟨k1v, k1w, k1x, l11⟩ := kP.f2
 obtain ⟨k1z, k1A, k1B, l15⟩ := kQ.f2
 obtain ⟨k1D, k1E, k1F, l19⟩ := kR.f2
 have kn := normal_any false a1 la W1 F6.out HCA.out.1
 rw [sg_false, HVA.out] at kn
 (with_reducible refine kn.mono ?_)
 clear kn
 rintro e w20 ⟨r0, r1, rfl, ko, k8⟩
 obtain ⟨kS, k1H, k1I, k1J, l26⟩ := kP.b2 k8
 obtain ⟨kT, k1L, k1M, k1N, l31⟩ := kQ.b2 k8
 obtain ⟨kU, k1P, k1Q, k1R, l36⟩ := kR.b2 k8
 have F38 := Lib.hid (F7.out.kp (.of k8))
 have k0l := Lib.hid (Blw km.out k8)
 have F40 := Lib.hid ko
 obtain ⟨o_r0, o_r1⟩ := ko.ones
 clear ko k8
 go_wp2_with fail
 generalize hW : w20.alloc _ = W41
 obtain ⟨kV, hB⟩ := box1 hW
 have k1T := kS.lt
 have k1U := kT.lt
 have k1V := kU.lt
 clear hW
 obtain ⟨k0n, k1W, k1X, k1Y, l50⟩ := kS.b2 hB
 obtain ⟨k0o, k20, k21, k22, l55⟩ := kT.b2 hB
 obtain ⟨k0p, k24, k25, k26, l60⟩ := kU.b2 hB
 have F62 := Lib.hid (F38.out.kp (.of hB))
 have F63 := Lib.hid (F40.out.kp (.of hB))
 have k0s := Lib.hid (Blw k0l.out hB)
 clear hB
 obtain ⟨k28, k29, k2a, l68⟩ := kV.f2
 have kq := normal_any false b1 lb W41 F62.out HCB.out.1
 rw [sg_false, HVB.out] at kq
 (with_reducible refine kq.mono ?_)
 clear kq
 rintro e w69 ⟨t0, t1, rfl, kr, k2⟩
 obtain ⟨kW, k2c, k2d, k2e, l75⟩ := k0n.b2 k2
 obtain ⟨kX, k2g, k2h, k2i, l80⟩ := k0o.b2 k2
 obtain ⟨kY, k2k, k2l, k2m, l85⟩ := k0p.b2 k2
 obtain ⟨kZ, k2o, k2p, k2q, l90⟩ := kV.b2 k2
 have F93 := Lib.hid (F63.out.kp (.of k2))
 have k0u := Lib.hid (Blw k0s.out k2)
 have F95 := Lib.hid kr
 obtain ⟨o_t0, o_t1⟩ := kr.ones
 clear kr k2
 go_wp2_with fail
 generalize hW : w69.alloc _ = W96
 obtain ⟨k00, hB⟩ := box1 hW
 have k2s := kW.lt
 have k2t := kX.lt
 have k2u := kY.lt
 have k2v := kZ.lt
 clear hW
 obtain ⟨k2w, k0w, k0x, k0y, k2x⟩ := kW.b2 hB
 obtain ⟨k2y, k0z, k0A, k0B, k2z⟩ := kX.b2 hB
 obtain ⟨k0C, k0D, k0E, k0F, k2A⟩ := kY.b2 hB
 obtain ⟨k0G, k0H, k0I, k0J, k2B⟩ := kZ.b2 hB
 have k0K := Lib.hid (F93.out.kp (.of hB))
 have k0L := Lib.hid (F95.out.kp (.of hB))
 have k0M := Lib.hid (Blw k0u.out hB)
 clear hB
 obtain ⟨k0N, k0O, k0P, k2C⟩ := k00.f2
 obtain ⟨g5, hg5⟩ : ∃ g, g = w20.heap.size := ⟨_, rfl⟩
 obtain ⟨g6, hg6⟩ : ∃ g, g = w69.heap.size := ⟨_, rfl⟩
 rw [← hg5, ← hg6]
 have hx5 := k0G
 have hx6 := k00
 rw [← hg5] at hx5
 rw [← hg6] at hx6
 have hn4 : w.heap.size + 1 + 1 ≠ g5 := by omega
 have hn5 : w.heap.size + 1 + 1 ≠ g6 := by omega
 have hn56 : g5 ≠ g6 := by omega
 have hw5 : w.heap.size + 1 + 1 < g5 := by omega
 have hw6 : w.heap.size + 1 + 1 < g6 := by omega
 have HST := Lib.hid (show GcdAt k y.natAbs x y w W96 (w.heap.size + 1 + 1) g5 g6 from ⟨r0, r1, t0, t1, x.natAbs, y.natAbs, k0C, hx5, hx6, k0K.out, k0L.out, by omega, by omega, by omega, by simp [Int.gcd], by have := HBX.out; unfold I.Bd at *; simpa using this, by have := HBY.out; unfold I.Bd at *; simpa using this, k0M.out⟩)
 clear hx5 hx6 hg5 hg6 oa0 oa1 ob0 ob1 HSA HSB HCA HCB HVA HVB HBX HBY k0w k0x k0y k0z k0A k0B k0D k0E k0F k0H k0I k0J k0N k0O k0P
 go_wp2_with fail
 go_loopg [] y.natAbs (fun n wr => GcdAt k n x y w wr (w.heap.size + 1 + 1) g5 g6)
 case atStart => exact HST.out
 case round =>
  clear HST
  obtain ⟨wo, rfl⟩ : ∃ wo : World, wo = wr := ⟨_, rfl⟩
  obtain ⟨p0, p1, q0, q1, X, Y, hx4, hx5, hx6, hrp, hrq, hX0, hY0, hYn, hgcd, hbX, hbY, hbw⟩ := hrel
  subst hYn
  have HRP := Lib.hid hrp; have HRQ := Lib.hid hrq; have HGC := Lib.hid hgcd; have HBX := Lib.hid hbX; have HBY := Lib.hid hbY; have HBW := Lib.hid hbw
  clear hrp hrq hgcd hbX hbY hbw
  obtain ⟨gp, Ap, np, cp, rfl, rfl⟩ := HRP.out.form
  obtain ⟨gq, Aq, nq, cq, rfl, rfl⟩ := HRQ.out.form
  obtain ⟨k0Q, k0R, k2D, k2E⟩ := hx4.f2
  obtain ⟨k2F, k2G, k2H, k2I⟩ := hx5.f2
  obtain ⟨k2J, k2K, k2L, k2M⟩ := hx6.f2
  have hlq := HRQ.out.len
  by_cases hz : Y = 0
  ·obtain rfl : nq = 0 := hlq.2.2 hz
   subst hz
   clear hlq
   have e : X = GG := by rw [HGG.out, ← HGC.out]; exact (gcd_zero hX0).symm
   subst e
   go_wp2_with fail
   have hkp := (Kp.refl wo).t2 hx4 (.bool gp) (.slice Ap np cp)
   refine bodyPost_ret (v := .agg #[.bool gp, .slice Ap np cp]) (by simp [results, Tryz.results103, go_sem, k0Q, k0R]) rfl ⟨_, _, rfl, ?_, bel2 (HBW.out) (by first | simp | omega)⟩
   exact HRP.out.kp hkp
  ·have hnq2 : 0 < nq := by
    have h2 := hlq.2
    rcases Nat.eq_zero_or_pos nq with h3 | h3
    ·exact absurd (h2.1 h3) hz
    ·exact h3
   have hnq : 0 < (nq : Int) := by omega
   have hY1 : 0 < Y := by omega
   have hY1b : Y ≠ 0 := hz
   obtain ⟨LP, sp, cp_, vp⟩ := HRP.out.sl
   obtain ⟨LQ, sq, cq2, vq⟩ := HRQ.out.sl
   have hlenp : np = LP.length := by
    obtain ⟨_, _, _, e, h, _⟩ := id sp
    injection e with _ e _
    omega
   have hlenq : nq = LQ.length := by
    obtain ⟨_, _, _, e, h, _⟩ := id sq
    injection e with _ e _
    omega
   rw [show (X.natAbs : Int) = X by omega] at vp
   rw [show (Y.natAbs : Int) = Y by omega] at vq
   have HSP := Lib.hid sp; have HSQ := Lib.hid sq; have HCP := Lib.hid cp_; have HCQ := Lib.hid cq2; have HVP := Lib.hid vp; have HVQ := Lib.hid vq; have HNP := Lib.hid hlenp; have HNQ := Lib.hid hlenq
   clear hlq hz sp sq cp_ cq2 vp vq hlenp hlenq
   by_cases hLP : np ≤ 2
   ·have g1 := decide_eq_true hLP
    by_cases hLQ : nq ≤ 2
    ·have g2 := decide_eq_true hLQ
     go_wp2_with fail
     have hX1 := two_lt HCP.out.1 (by have := HNP.out; omega : LP.length ≤ 2)
     have hY2 := two_lt HCQ.out.1 (by have := HNQ.out; omega : LQ.length ≤ 2)
     rw [HVP.out] at hX1
     rw [HVQ.out] at hY2
     have k1 := tiny_b (.slice Ap np cp) LP wo HSP.out HCP.out.1 (by have := HNP.out; omega) X HVP.out.symm
     (with_reducible refine k1.mono ?_)
     clear k1
     rintro e w513 ⟨rfl, k0⟩
     obtain ⟨k3, k01, k02, k03, k04⟩ := hx4.b2 k0
     obtain ⟨k4, k05, k06, k07, k08⟩ := hx5.b2 k0
     obtain ⟨k5, k09, k0a, k0b, k0c⟩ := hx6.b2 k0
     have kj := Lib.hid (HRP.out.kp (.of k0))
     have kk := Lib.hid (HRQ.out.kp (.of k0))
     have kl := Lib.hid (HSP.out.kp (.of k0))
     have k9 := Lib.hid (HSQ.out.kp (.of k0))
     have ka := Lib.hid (Blw HBW.out k0)
     clear k0
     go_wp2_with fail
     have k0d := tiny_b (.slice Aq nq cq) LQ w513 k9.out HCQ.out.1 (by have := HNQ.out; omega) Y HVQ.out.symm
     (with_reducible refine k0d.mono ?_)
     clear k0d
     rintro e w535 ⟨rfl, kb⟩
     obtain ⟨k0S, k2N, k2O, k2P, k2Q⟩ := k3.b2 kb
     obtain ⟨k0T, k2R, k2S, k2T, k2U⟩ := k4.b2 kb
     obtain ⟨k0U, k2V, k2W, k2X, k2Y⟩ := k5.b2 kb
     have k0V := Lib.hid (Blw ka.out kb)
     clear kb
     go_wp2_with fail
     go_loopw [7, 8] (fun m n wi => ∃ M N : Int, m = .int .i64 M ∧ n = .int .i64 N ∧ 0 ≤ M ∧ M < 1000000000000000000 ∧ 0 ≤ N ∧ N < 1000000000000000000 ∧ Hid (Int.gcd M N = Int.gcd x y) ∧ Hid (Below w535.heap.size w535 wi)) (fun _ n _ => (intOf n).toNat)
     case atStart => exact ⟨X, Y, rfl, rfl, hX0, hX1, hY0, hY2, HGC, Below.refl _ _⟩
     case round =>
      obtain ⟨M, N, rfl, rfl, hM0, hM1, hN0, hN1, HG2, HN⟩ := hrel
      by_cases hz : N = 0
      ·subst hz
       have e : M = GG := by rw [HGG.out, ← HG2.out]; exact (gcd_zero hM0).symm
       subst e
       have k0e := k0S.below HN.out
       obtain ⟨k2Z, k30, k31, k32⟩ := k0e.f2
       have k0f := k0T.below HN.out
       obtain ⟨k33, k34, k35, k36⟩ := k0f.f2
       have k0g := k0U.below HN.out
       obtain ⟨k37, k38, k39, k3a⟩ := k0g.f2
       have k0W := Lib.hid (Blw k0V.out HN.out)
       go_wp2_with fail
       have k0h := rof3_any M wr ⟨by omega, by omega⟩
       (with_reducible refine k0h.mono ?_)
       clear k0h
       rintro e w577 ⟨u0, u1, rfl, ks, kc⟩
       obtain ⟨k0X, k0Y, k0Z, k3b, k3c⟩ := k0e.b2 kc
       obtain ⟨k3d, k3e, k3f, k3g, k3h⟩ := k0f.b2 kc
       obtain ⟨k3i, k3j, k3k, k3l, k3m⟩ := k0g.b2 kc
       have k10 := Lib.hid (Blw k0W.out kc)
       have k11 := Lib.hid ks
       obtain ⟨o_u0, o_u1⟩ := ks.ones
       clear ks kc
       go_wp2_with fail
       have hkp := (Kp.refl w577).t2 k0X u0 u1
       refine bodyPost_ret (v := .agg #[u0, u1]) (by simp [results, Tryz.results103, go_sem, k0Y, k0Z]) rfl ⟨_, _, rfl, ?_, bel2 (k10.out) (by first | simp | omega)⟩
       exact k11.out.kp hkp
      ·have hN2 : 0 < N := by omega
       have hs0 : 0 ≤ M % N := Int.emod_nonneg _ (by omega)
       have hs1 : M % N < N := Int.emod_lt_of_pos _ hN2
       have hst := gcd_step hM0 hN2
       rw [HG2.out] at hst
       have HST := Lib.hid hst; clear hst
       go_wp2
       go_roundw
       case rel => exact ⟨N, M % N, rfl, rfl, hN0, hN1, hs0, by omega, HST, HN⟩
       case measure => simp [intOf]; omega
    ·have g2 := decide_eq_false hLQ
     have g2' : decide ((nq : Int) ≤ 2) = false := decide_eq_false (by omega)
     go_wp2_with fail
     have k1 := rdiv3_any k (.bool gp) (.slice Ap np cp) (.bool gq) (.slice Aq nq cq) X Y wo HRP.out HRQ.out HBX.out HBY.out hk hY1b
     (with_reducible refine k1.mono ?_)
     clear k1
     rintro e w513 ⟨u0, u1, v0, v1, rfl, k6, k7, k0⟩
     obtain ⟨k3, k01, k02, k03, k04⟩ := hx4.b2 k0
     obtain ⟨k4, k05, k06, k07, k08⟩ := hx5.b2 k0
     obtain ⟨k5, k09, k0a, k0b, k0c⟩ := hx6.b2 k0
     have kj := Lib.hid (HRP.out.kp (.of k0))
     have kk := Lib.hid (HRQ.out.kp (.of k0))
     have kl := Lib.hid (HSP.out.kp (.of k0))
     have k9 := Lib.hid (HSQ.out.kp (.of k0))
     have ka := Lib.hid (Blw HBW.out k0)
     have kd := Lib.hid k6
     obtain ⟨o_u0, o_u1⟩ := k6.ones
     have ke := Lib.hid k7
     obtain ⟨o_v0, o_v1⟩ := k7.ones
     clear k6 k7 k0
     obtain ⟨gu, Au, nu, cu, rfl, rfl⟩ := kd.out.form
     obtain ⟨gv, Av, nv, cv, rfl, rfl⟩ := ke.out.form
     go_upto_region 13 with fail
     generalize hW : (w513.alloc _).alloc _ = W537
     obtain ⟨kf, kg, hB⟩ := box2 hW
     have k12 := k3.lt
     have k13 := k4.lt
     have k14 := k5.lt
     clear hW
     obtain ⟨kt, k15, k16, k17, k18⟩ := k3.b2 hB
     obtain ⟨kh, k19, k1a, k1b, k1c⟩ := k4.b2 hB
     obtain ⟨ku, k1d, k1e, k1f, k1g⟩ := k5.b2 hB
     have k1h := Lib.hid (kj.out.kp (.of hB))
     have kv := Lib.hid (kk.out.kp (.of hB))
     have k1i := Lib.hid (kl.out.kp (.of hB))
     have k1j := Lib.hid (k9.out.kp (.of hB))
     have k1k := Lib.hid (kd.out.kp (.of hB))
     have kw := Lib.hid (ke.out.kp (.of hB))
     have kx := Lib.hid (Blw ka.out hB)
     clear hB
     obtain ⟨k1l, k1m, k1n, k1o⟩ := kf.f2
     obtain ⟨k1p, k1q, k1r, k1s⟩ := kg.f2
     go_wp2_with fail
     have ky := kh.set_ 0 (.bool gq)
     have kz := kt.far_ (g' := g5) (j := 0) (by omega) (.bool gq)
     have kA := ku.far_ (g' := g5) (j := 0) (by omega) (.bool gq)
     have kB := kf.far_ (g' := g5) (j := 0) (by omega) (.bool gq)
     have kC := kg.far_ (g' := g5) (j := 0) (by omega) (.bool gq)
     have kD := ky.set_ 1 (.slice Aq nq cq)
     have kE := kz.far_ (g' := g5) (j := 1) (by omega) (.slice Aq nq cq)
     have ki := kA.far_ (g' := g5) (j := 1) (by omega) (.slice Aq nq cq)
     have kF := kB.far_ (g' := g5) (j := 1) (by omega) (.slice Aq nq cq)
     have kG := kC.far_ (g' := g5) (j := 1) (by omega) (.slice Aq nq cq)
     have kH := ki.set_ 0 (.bool gv)
     have kI := kE.far_ (g' := g6) (j := 0) (by omega) (.bool gv)
     have kJ := kD.far_ (g' := g6) (j := 0) (by omega) (.bool gv)
     have kK := kF.far_ (g' := g6) (j := 0) (by omega) (.bool gv)
     have kL := kG.far_ (g' := g6) (j := 0) (by omega) (.bool gv)
     have kM := kH.set_ 1 (.slice Av nv cv)
     have kN := kI.far_ (g' := g6) (j := 1) (by omega) (.slice Av nv cv)
     have kO := kJ.far_ (g' := g6) (j := 1) (by omega) (.slice Av nv cv)
     have k1t := kK.far_ (g' := g6) (j := 1) (by omega) (.slice Av nv cv)
     have k1u := kL.far_ (g' := g6) (j := 1) (by omega) (.slice Av nv cv)
     have hkp := ((Kp.refl W537).t2 kh (.bool gq) (.slice Aq nq cq)).t2 ki (.bool gv) (.slice Av nv cv)
     have hs0 : 0 ≤ X % Y := Int.emod_nonneg _ (by omega)
     have hs1 : X % Y < Y := Int.emod_lt_of_pos _ hY1
     go_wp2
     go_roundg (X % Y).toNat
     case measure => omega
     case rel => exact ⟨_, _, _, _, Y, X % Y, kN, kO, kM, kv.out.kp hkp, kw.out.kp hkp, hY0, hs0, rfl, by rw [gcd_step hX0 hY1]; exact HGC.out, HBY.out, HBY.out.of_le (by omega), ((((kx.out).setCell (by simp <;> omega) _).setCell (by simp <;> omega) _).setCell (by simp <;> omega) _).setCell (by simp <;> omega) _⟩
   ·have g1 := decide_eq_false hLP
    have g1' : decide ((np : Int) ≤ 2) = false := decide_eq_false (by omega)
    go_wp2_with fail
    have k1 := rdiv3_any k (.bool gp) (.slice Ap np cp) (.bool gq) (.slice Aq nq cq) X Y wo HRP.out HRQ.out HBX.out HBY.out hk hY1b
    (with_reducible refine k1.mono ?_)
    clear k1
    rintro e w513 ⟨u0, u1, v0, v1, rfl, k6, k7, k0⟩
    obtain ⟨k3, k01, k02, k03, k04⟩ := hx4.b2 k0
    obtain ⟨k4, k05, k06, k07, k08⟩ := hx5.b2 k0
    obtain ⟨k5, k09, k0a, k0b, k0c⟩ := hx6.b2 k0
    have kj := Lib.hid (HRP.out.kp (.of k0))
    have kk := Lib.hid (HRQ.out.kp (.of k0))
    have kl := Lib.hid (HSP.out.kp (.of k0))
    have k9 := Lib.hid (HSQ.out.kp (.of k0))
    have ka := Lib.hid (Blw HBW.out k0)
    have kd := Lib.hid k6
    obtain ⟨o_u0, o_u1⟩ := k6.ones
    have ke := Lib.hid k7
    obtain ⟨o_v0, o_v1⟩ := k7.ones
    clear k6 k7 k0
    obtain ⟨gu, Au, nu, cu, rfl, rfl⟩ := kd.out.form
    obtain ⟨gv, Av, nv, cv, rfl, rfl⟩ := ke.out.form
    go_upto_region 13 with fail
    generalize hW : (w513.alloc _).alloc _ = W537
    obtain ⟨kf, kg, hB⟩ := box2 hW
    have k12 := k3.lt
    have k13 := k4.lt
    have k14 := k5.lt
    clear hW
    obtain ⟨kt, k15, k16, k17, k18⟩ := k3.b2 hB
    obtain ⟨kh, k19, k1a, k1b, k1c⟩ := k4.b2 hB
    obtain ⟨ku, k1d, k1e, k1f, k1g⟩ := k5.b2 hB
    have k1h := Lib.hid (kj.out.kp (.of hB))
    have kv := Lib.hid (kk.out.kp (.of hB))
    have k1i := Lib.hid (kl.out.kp (.of hB))
    have k1j := Lib.hid (k9.out.kp (.of hB))
    have k1k := Lib.hid (kd.out.kp (.of hB))
    have kw := Lib.hid (ke.out.kp (.of hB))
    have kx := Lib.hid (Blw ka.out hB)
    clear hB
    obtain ⟨k1l, k1m, k1n, k1o⟩ := kf.f2
    obtain ⟨k1p, k1q, k1r, k1s⟩ := kg.f2
    go_wp2_with fail
    have ky := kh.set_ 0 (.bool gq)
    have kz := kt.far_ (g' := g5) (j := 0) (by omega) (.bool gq)
    have kA := ku.far_ (g' := g5) (j := 0) (by omega) (.bool gq)
    have kB := kf.far_ (g' := g5) (j := 0) (by omega) (.bool gq)
    have kC := kg.far_ (g' := g5) (j := 0) (by omega) (.bool gq)
    have kD := ky.set_ 1 (.slice Aq nq cq)
    have kE := kz.far_ (g' := g5) (j := 1) (by omega) (.slice Aq nq cq)
    have ki := kA.far_ (g' := g5) (j := 1) (by omega) (.slice Aq nq cq)
    have kF := kB.far_ (g' := g5) (j := 1) (by omega) (.slice Aq nq cq)
    have kG := kC.far_ (g' := g5) (j := 1) (by omega) (.slice Aq nq cq)
    have kH := ki.set_ 0 (.bool gv)
    have kI := kE.far_ (g' := g6) (j := 0) (by omega) (.bool gv)
    have kJ := kD.far_ (g' := g6) (j := 0) (by omega) (.bool gv)
    have kK := kF.far_ (g' := g6) (j := 0) (by omega) (.bool gv)
    have kL := kG.far_ (g' := g6) (j := 0) (by omega) (.bool gv)
    have kM := kH.set_ 1 (.slice Av nv cv)
    have kN := kI.far_ (g' := g6) (j := 1) (by omega) (.slice Av nv cv)
    have kO := kJ.far_ (g' := g6) (j := 1) (by omega) (.slice Av nv cv)
    have k1t := kK.far_ (g' := g6) (j := 1) (by omega) (.slice Av nv cv)
    have k1u := kL.far_ (g' := g6) (j := 1) (by omega) (.slice Av nv cv)
    have hkp := ((Kp.refl W537).t2 kh (.bool gq) (.slice Aq nq cq)).t2 ki (.bool gv) (.slice Av nv cv)
    have hs0 : 0 ≤ X % Y := Int.emod_nonneg _ (by omega)
    have hs1 : X % Y < Y := Int.emod_lt_of_pos _ hY1
    go_wp2
    go_roundg (X % Y).toNat
    case measure => omega
    case rel => exact ⟨_, _, _, _, Y, X % Y, kN, kO, kM, kv.out.kp hkp, kw.out.kp hkp, hY0, hs0, rfl, by rw [gcd_step hX0 hY1]; exact HGC.out, HBY.out, HBY.out.of_le (by omega), ((((kx.out).setCell (by simp <;> omega) _).setCell (by simp <;> omega) _).setCell (by simp <;> omega) _).setCell (by simp <;> omega) _⟩
end Go.Proofs.YtcfejkpadcccbaaGreat
namespace Go.Proofs.YtcfejkpadcccbaaGreat
set_option maxHeartbeats 1000000
open Go.RowKit
attribute [local go_sem] run_store_one
set_option linter.unusedVariables false
theorem unit_any (a0 a1 : Value) (x : Int) (w : World) (hx : IntV w a0 a1 x) : Calls Tryz.prog 97 #[.agg #[a0, a1]] w fun e w' => e = .returned (.bool (decide (x = 1))) ∧ Below w.heap.size w w' := by
 obtain ⟨l, rfl, sl, can, hv⟩ := hx
 obtain ⟨A, n, c, rfl, rfl, hc, hm, hr, _⟩ := sl
 by_cases h1 : x < 0
 ·rw [decide_eq_true h1, decide_eq_false (show ¬ x = 1 by omega)]
  clear hv can hr
  go_enter Tryz.func97, Tryz.ntmps97
  go_wp2
  go_ret
  exact ⟨rfl, (Below.refl _ _).alloc (Nat.le_refl _) _⟩
 ·rw [decide_eq_false h1]
  by_cases hn : l.length = 1
  ·obtain ⟨d, rfl⟩ := List.length_eq_one_iff.1 hn
   have hd : I.val [d] = d := by simp [I.val]
   rw [hd] at hv
   obtain ⟨b, o, rfl, hb, hcell⟩ := hr (by simp)
   have f0 : (w.alloc (.cells #[.bool false, .slice (some ⟨b, o, none⟩) 1 c] 31)).cell? ⟨b, o, none⟩ = some (.int .i64 d) := by
    have h := hcell 0 _ rfl
    exact kc h ((Below.refl _ _).alloc (Nat.le_refl _) _) hb
   clear hcell hr
   by_cases hd1 : d = 1
   ·rw [decide_eq_true (show x = 1 by omega)]
    subst hd1
    clear hv can hd hn h1
    go_enter Tryz.func97, Tryz.ntmps97
    go_wp2
    go_ret
    exact ⟨rfl, (Below.refl _ _).alloc (Nat.le_refl _) _⟩
   ·rw [decide_eq_false (show ¬ x = 1 by omega)]
    have hd2 : (d == 1) = false := beq_eq_false_iff_ne.2 hd1
    clear hv can hd hn h1 hd1
    go_enter Tryz.func97, Tryz.ntmps97
    go_wp2
    go_ret
    exact ⟨rfl, (Below.refl _ _).alloc (Nat.le_refl _) _⟩
  ·have hx1 : ¬ x = 1 := by
    intro h
    have := can.uniq (I.Can.one (d := 1) (by omega) (by omega)) (by rw [hv, h]; simp [I.val])
    subst this
    exact hn rfl
   rw [decide_eq_false hx1]
   obtain ⟨n, hn2⟩ : ∃ n, n = l.length := ⟨_, rfl⟩
   rw [← hn2] at hn ⊢
   have hne : ((n : Int) == 1) = false := beq_eq_false_iff_ne.2 (by omega)
   clear hv can hr hn2 hx1 h1 hn hm hc
   go_enter Tryz.func97, Tryz.ntmps97
   go_wp2
   go_ret
   exact ⟨rfl, (Below.refl _ _).alloc (Nat.le_refl _) _⟩
end Go.Proofs.YtcfejkpadcccbaaGreat
namespace Go.Proofs.YtcfejkpadcccbaaGreat
set_option maxHeartbeats 4000000
open Go.RowKit
attribute [local go_sem] run_store_one
set_option linter.unusedVariables false
theorem divInt_pos {p q : Int} (h : 0 < q) (hg : Int.gcd p q = 1) : (Rat.divInt p q).num = p ∧ ((Rat.divInt p q).den : Int) = q := by
 obtain ⟨d, rfl⟩ := Int.eq_ofNat_of_zero_le (Int.le_of_lt h)
 have := Rat.mk_eq_divInt (num := p) (den := d) (nz := by omega) (c := by simpa [Int.gcd] using hg)
 rw [← this]
 exact ⟨rfl, rfl⟩
theorem divInt_neg_ {p q : Int} (h : q < 0) (hg : Int.gcd p q = 1) : (Rat.divInt p q).num = -p ∧ ((Rat.divInt p q).den : Int) = -q := by
 have h2 := divInt_pos (p := -p) (q := -q) (by omega) (by rw [Int.gcd_neg, Int.neg_gcd]; exact hg)
 rw [← Rat.neg_divInt_neg]
 exact h2
theorem gcd_ne {x y : Int} (hy : y ≠ 0) : (Int.gcd x y : Int) ≠ 0 := by
 have := Int.gcd_pos_of_ne_zero_right x hy
 omega
theorem divInt_low {x y : Int} (hy : y ≠ 0) : Rat.divInt (x / (Int.gcd x y : Int)) (y / (Int.gcd x y : Int)) = Rat.divInt x y := by
 have h1 := Int.ediv_mul_cancel (Int.gcd_dvd_left (a := x) (b := y))
 have h2 := Int.ediv_mul_cancel (Int.gcd_dvd_right (a := x) (b := y))
 have := Rat.divInt_mul_right (n := x / (Int.gcd x y : Int)) (d := y / (Int.gcd x y : Int)) (gcd_ne (x := x) hy)
 rw [h1, h2] at this
 exact this.symm
theorem gcd_low {x y : Int} (hy : y ≠ 0) : Int.gcd (x / (Int.gcd x y : Int)) (y / (Int.gcd x y : Int)) = 1 := by
 have := Int.gcd_pos_of_ne_zero_right x hy
 rw [Int.gcd_ediv_gcd_ediv_gcd this]
theorem low_ne {x y : Int} (hy : y ≠ 0) : y / (Int.gcd x y : Int) ≠ 0 := by
 have h2 := Int.ediv_mul_cancel (Int.gcd_dvd_right (a := x) (b := y))
 intro h
 rw [h] at h2
 omega
theorem unit_yes (a0 a1 : Value) (x : Int) (w : World) (hx : IntV w a0 a1 x) (h : x = 1) : Calls Tryz.prog 97 #[.agg #[a0, a1]] w fun e w' => e = .returned (.bool true) ∧ Below w.heap.size w w' := by
 have h1 := unit_any a0 a1 x w hx
 rw [decide_eq_true h] at h1
 exact h1
theorem unit_no (a0 a1 : Value) (x : Int) (w : World) (hx : IntV w a0 a1 x) (h : ¬ x = 1) : Calls Tryz.prog 97 #[.agg #[a0, a1]] w fun e w' => e = .returned (.bool false) ∧ Below w.heap.size w w' := by
 have h1 := unit_any a0 a1 x w hx
 rw [decide_eq_false h] at h1
 exact h1
end Go.Proofs.YtcfejkpadcccbaaGreat
namespace Go.Proofs.YtcfejkpadcccbaaGreat
set_option maxHeartbeats 1000000
open Go.RowKit
attribute [local go_sem] run_store_one
set_option linter.unusedVariables false
theorem bd64 {x : Int} (h : W.Is64 x) : I.Bd 64 x := by
 unfold W.Is64 at h
 unfold I.Bd
 omega
end Go.Proofs.YtcfejkpadcccbaaGreat
namespace Go.Proofs.YtcfejkpadcccbaaGreat
set_option maxHeartbeats 4000000
open Go.RowKit
attribute [local go_sem] run_store_one
set_option linter.unusedVariables false
theorem ne0 {n : Nat} (h : n ≠ 0) : ((n : Int) == 0) = false := beq_eq_false_iff_ne.2 (by omega)
end Go.Proofs.YtcfejkpadcccbaaGreat
namespace Go.Proofs.YtcfejkpadcccbaaGreat
set_option maxHeartbeats 4000000
open Go.RowKit
attribute [local go_sem] run_store_one
set_option linter.unusedVariables false
theorem RatV.zero (w : World) : RatV w (.bool false) (.slice none 0 0) (.bool false) (.slice none 0 0) 0 := ⟨IntV.zero w, IntV.zero w⟩
end Go.Proofs.YtcfejkpadcccbaaGreat
namespace Go.Proofs.YtcfejkpadcccbaaGreat
set_option maxHeartbeats 2000000
open Go.RowKit
attribute [local go_sem] run_store_one
set_option linter.unusedVariables false
theorem gcd_inv (t : Rat) : Int.gcd (t.den : Int) t.num = 1 := by
 have h := t.reduced.symm
 unfold Int.gcd
 rw [Int.natAbs_natCast]
 exact h
theorem Bq.div {j k : Nat} {r t : Rat} (h : Bq j r) (g : Bq k t) (hj : 0 < j) : Bq (j + k) (r / t) := by
 by_cases h0 : t.num = 0
 ·rw [num_zero.1 h0, Rat.div_def, Rat.inv_zero, Rat.mul_zero]
  exact Bq.zero (by omega)
 ·rw [Rat.div_def]
  exact h.mul (g.inv h0)
theorem Bq.sub {j k : Nat} {r t : Rat} (h : Bq j r) (g : Bq k t) : Bq (j + k + 1) (r - t) := by
 rw [Rat.sub_eq_add_neg]
 exact h.add g.neg
end Go.Proofs.YtcfejkpadcccbaaGreat
namespace Go.Proofs.YtcfejkpadcccbaaGreat
set_option maxHeartbeats 1000000
open Go.RowKit
attribute [local go_sem] run_store_one
set_option linter.unusedVariables false
theorem take_ne {a b : List Int} {k : Nat} {x y : Int} (hx : a[k]? = some x) (hy : b[k]? = some y) (h : x ≠ y) : a ≠ b := by
 rintro rfl
 rw [hx] at hy
 injection hy with hy
 exact h hy
end Go.Proofs.YtcfejkpadcccbaaGreat
namespace Go.Proofs.YtcfejkpadcccbaaGreat
set_option maxHeartbeats 2000000
open Go.RowKit
attribute [local go_sem] run_store_one
set_option linter.unusedVariables false
end Go.Proofs.YtcfejkpadcccbaaGreat
namespace Go.Proofs.YtcfejkpadcccbaaGreat
set_option maxHeartbeats 4000000
open Go.RowKit
attribute [local go_sem] run_store_one
set_option linter.unusedVariables false
theorem Bv.add {j k : Nat} {v u : Rat × Rat} (h : Bv j v) (g : Bv k u) : Bv (j + k + 1) (vadd v u) := ⟨h.1.add g.1, h.2.add g.2⟩
theorem Bv.sub {j k : Nat} {v u : Rat × Rat} (h : Bv j v) (g : Bv k u) : Bv (j + k + 1) (vsub v u) := ⟨h.1.sub g.1, h.2.sub g.2⟩
theorem Bv.sca {j k : Nat} {v : Rat × Rat} {r : Rat} (h : Bv j v) (g : Bq k r) : Bv (j + k) (vsca v r) := ⟨h.1.mul g, h.2.mul g⟩
theorem Bv.dot {j k : Nat} {v u : Rat × Rat} (h : Bv j v) (g : Bv k u) : Bq (2 * (j + k) + 1) (vdot v u) := ((h.1.mul g.1).add (h.2.mul g.2)).mono (by omega)
theorem Bv.crs {j k : Nat} {v u : Rat × Rat} (h : Bv j v) (g : Bv k u) : Bq (2 * (j + k) + 1) (vcrs v u) := ((h.1.mul g.2).sub (h.2.mul g.1)).mono (by omega)
theorem Bv.rot {j k : Nat} {t a : Rat × Rat} (h : Bv j t) (g : Bv k a) : Bv (2 * (j + k) + 1) (vrot t a) := ⟨((h.1.mul g.1).sub (h.2.mul g.2)).mono (by omega), ((h.2.mul g.1).add (h.1.mul g.2)).mono (by omega)⟩
theorem Bv.bak {k : Nat} {t : Rat × Rat} (h : Bv k t) : Bv k (vbak t) := ⟨h.1, h.2.neg⟩
end Go.Proofs.YtcfejkpadcccbaaGreat
namespace Go.Proofs.YtcfejkpadcccbaaGreat
set_option maxHeartbeats 2000000
open Go.RowKit
attribute [local go_sem] run_store_one
set_option linter.unusedVariables false
end Go.Proofs.YtcfejkpadcccbaaGreat
