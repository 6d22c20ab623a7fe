/-
 THE WALK of the generator of turns.
-/
import Derived.Test.YtonkbckgbfcnkaaRef5D
import Derived.Test.YtonkbckgbfcnkaaWalkPlA
namespace Go.Proofs.Ytonkbckgbfcnkaa
set_option maxHeartbeats 4000000
open Go.RowKit
attribute [local go_sem] run_store_one
set_option linter.unusedVariables false
/-- A turn. -/
def Unit1 (t : Rat × Rat) : Prop := t.1 * t.1 + t.2 * t.2 = 1
theorem unit_of {a b h : Int} (h0 : h ≠ 0) (e : a * a + b * b = h * h) : Unit1 (Rat.divInt a h, Rat.divInt b h) := by
 unfold Unit1
 simp only
 rw [Rat.divInt_mul_divInt, Rat.divInt_mul_divInt, Rat.divInt_add_divInt _ _ (Int.mul_ne_zero h0 h0) (Int.mul_ne_zero h0 h0), ← Int.add_mul, e]
 have h1 : h * h * (h * h) ≠ 0 := Int.mul_ne_zero (Int.mul_ne_zero h0 h0) (Int.mul_ne_zero h0 h0)
 have h2 := (Rat.divInt_eq_divInt_iff (n₁ := h * h * (h * h)) (n₂ := 1) h1 (show (1 : Int) ≠ 0 by omega)).2 (by omega)
 rw [h2]
 rfl
theorem unit_rot {t : Rat × Rat} (h : Unit1 t) : Unit1 (-t.2, t.1) := by
 unfold Unit1 at *
 simp only
 grind
/-- What returns some turn with small numbers. -/
def SmallT (w : World) (e : Ending) (w' : World) : Prop := ∃ t, Bv 7 t ∧ Unit1 t ∧ RV t w e w'
set_option maxRecDepth 100000 in
theorem turn_any (n : Int) (w : World) (hn : W.Is64 n) : Calls Try.prog 8 #[.int .i64 n] w (SmallT w) := by
 have HN := Lib.hid hn; clear hn
 go_enter Try.func8, Try.ntmps8
 go_wp2_with fail
 generalize hW : w.alloc _ = W1
 obtain ⟨k6, hB⟩ := box1 hW
 have kg := Lib.hid hB; clear hW hB
 obtain ⟨k0g, k0h, k0i, k0j, k0k, k0l, k0m, k0n, k0o, l13⟩ := k6.f8
 refine (around_any n 64 W1 HN.out (by omega) (by omega)).mono ?_
 rintro e w' ⟨k, rfl, hk0, hk1, rfl⟩
 go_upto_region 4 with fail
 have hM0 : 1 ≤ 1 + k / 4 % 4 ∧ 1 + k / 4 % 4 ≤ 4 := by omega
 have hV0 : 0 ≤ k / 16 ∧ k / 16 ≤ 3 := by omega
 generalize 1 + k / 4 % 4 = M at hM0 ⊢
 generalize k / 16 = V at hV0 ⊢
 have hmm : 1 ≤ M * M ∧ M * M ≤ 16 := ⟨by have := Int.mul_le_mul_of_nonneg_right hM0.1 (show 0 ≤ M by omega); omega, by have := Int.mul_le_mul_of_nonneg_right hM0.2 (show 0 ≤ M by omega); omega⟩
 have hvv : 0 ≤ V * V ∧ V * V ≤ 9 := ⟨Int.mul_nonneg hV0.1 hV0.1, by have := Int.mul_le_mul_of_nonneg_right hV0.2 hV0.1; omega⟩
 have hmv : 0 ≤ 2 * M * V ∧ 2 * M * V ≤ 24 := ⟨Int.mul_nonneg (by omega) hV0.1, by have := Int.mul_le_mul_of_nonneg_left hV0.2 (show 0 ≤ 2 * M by omega); omega⟩
 have hh0 : M * M + V * V ≠ 0 := by omega
 have hun := unit_of (a := M * M - V * V) (b := 2 * M * V) hh0 (by grind)
 have k7 : Bq 7 (Rat.divInt (M * M - V * V) (M * M + V * V)) := Bq.divInt (by unfold I.Bd; simp; omega) (by unfold I.Bd; simp; omega) hh0
 have k8 : Bq 7 (Rat.divInt (2 * M * V) (M * M + V * V)) := Bq.divInt (by unfold I.Bd; rw [show (2 : Nat) ^ 7 = 128 from rfl]; omega) (by unfold I.Bd; simp; omega) hh0
 have HUN := Lib.hid hun; have kh := Lib.hid k7; have ki := Lib.hid k8
 clear hun k7 k8 hh0
 have hkm : 0 ≤ k % 4 ∧ k % 4 ≤ 3 := by omega
 go_wp2_with fail
 have k9 := rof4_any (M * M - V * V) (M * M + V * V) W1 ⟨by omega, by omega⟩ ⟨by omega, by omega⟩
 (with_reducible refine k9.mono ?_)
 clear k9
 rintro e w14 ⟨c0, c1, c2, c3, rfl, k2, k3⟩
 obtain ⟨kj, k0q, k0r, k0s, k0t, k0u, k0v, k0w, k0x, k0y, l26⟩ := k6.b8 k3
 have kk := Lib.hid (Blw kg.out k3)
 have kl := Lib.hid k2
 obtain ⟨o_c0, o_c1, o_c2, o_c3⟩ := k2.ones
 clear k2 k3
 go_wp2_with fail
 have ka := rof4_any (2 * M * V) (M * M + V * V) w14 ⟨by omega, by omega⟩ ⟨by omega, by omega⟩
 (with_reducible refine ka.mono ?_)
 clear ka
 rintro e w29 ⟨s0, s1, s2, s3, rfl, k4, k1⟩
 obtain ⟨kb, k0A, k0B, k0C, k0D, k0E, k0F, k0G, k0H, k0I, l41⟩ := kj.b8 k1
 have km := Lib.hid (kl.out.kp (.of k1))
 have kn := Lib.hid (Blw kk.out k1)
 have ko := Lib.hid k4
 obtain ⟨o_s0, o_s1, o_s2, o_s3⟩ := k4.ones
 clear k4 k1
 go_wp2_with fail
 generalize hW : w29.alloc _ = W45
 obtain ⟨kc, hB⟩ := box1 hW
 have k0K := kb.lt
 clear hW
 obtain ⟨kd, kr, ks, kt, ku, kv, kw, kx, ky, kz, l58⟩ := kb.b8 hB
 have kA := Lib.hid (km.out.kp (.of hB))
 have kB := Lib.hid (ko.out.kp (.of hB))
 have kC := Lib.hid (Blw kn.out hB)
 clear hB
 obtain ⟨kD, kE, kF, kG, kH, kI, kJ, kK, kL, l71⟩ := kc.f8
 obtain ⟨g7, hg7⟩ : ∃ g, g = w29.heap.size := ⟨_, rfl⟩
 have hlz := kd.lt
 have hw7 : w.heap.size < g7 := by omega
 have hx7 := kc
 rw [← hg7] at hx7 ⊢
 have HST := Lib.hid (⟨kd, hx7, kA.out, kB.out, kC.out⟩ : Bx W45 w.heap.size 31 [.bool false, .slice none 0 0, .bool false, .slice none 0 0, .bool false, .slice none 0 0, .bool false, .slice none 0 0] ∧ Bx W45 g7 31 [c0, c1, c2, c3, s0, s1, s2, s3] ∧ RatV W45 c0 c1 c2 c3 (Rat.divInt (M * M - V * V) (M * M + V * V)) ∧ RatV W45 s0 s1 s2 s3 (Rat.divInt (2 * M * V) (M * M + V * V)) ∧ Below w.heap.size w W45)
 clear hx7 hg7 kr ks kt ku kv kw kx ky kz kD kE kF kG kH kI kJ kK kL
 go_wp2_with fail
 go_loopg [8] 4 (fun gk s8 wr => ∃ (i : Nat) (t : Rat × Rat) (a0 a1 a2 a3 a4 a5 a6 a7 : Value), i + gk = 4 ∧ s8 = .int .i64 i ∧ (i : Int) ≤ k % 4 ∧ Bx wr w.heap.size 31 [.bool false, .slice none 0 0, .bool false, .slice none 0 0, .bool false, .slice none 0 0, .bool false, .slice none 0 0] ∧ Bx wr g7 31 [a0, a1, a2, a3, a4, a5, a6, a7] ∧ VecV wr a0 a1 a2 a3 a4 a5 a6 a7 t ∧ Bv 7 t ∧ Unit1 t ∧ Below w.heap.size w wr)
 case atStart => exact ⟨0, _, _, _, _, _, _, _, _, _, by omega, rfl, by omega, HST.out.1, HST.out.2.1, ⟨HST.out.2.2.1, HST.out.2.2.2.1⟩, ⟨kh.out, ki.out⟩, HUN.out, HST.out.2.2.2.2⟩
 case round =>
  clear HST
  obtain ⟨wo, rfl⟩ : ∃ wo : World, wo = wr := ⟨_, rfl⟩
  obtain ⟨i, t, a0, a1, a2, a3, a4, a5, a6, a7, hig, rfl, hik, hx2, hx7, hv, hbv, hu, hbw⟩ := hrel
  have HV := Lib.hid hv; have HBV := Lib.hid hbv; have HU := Lib.hid hu; have HBW := Lib.hid hbw; have HIG := Lib.hid hig
  obtain ⟨o0, o1, o2, o3, o4, o5, o6, o7⟩ := hv.ones
  clear hv hbv hu hbw hig
  obtain ⟨kM, kN, kO, kP, kQ, kR, kS, kT, k0N, k0O⟩ := hx2.f8
  obtain ⟨k0P, k0Q, k0R, k0S, k0T, k0U, k0V, k0W, k0X, k0Y⟩ := hx7.f8
  by_cases hlt : (i : Int) < k % 4
  ·skip
   have hltd := decide_eq_true hlt
   go_upto_region 9 with fail
   go_upto_region 9 with fail
   generalize hW : wo.drew = W521
   have hB : Below wo.heap.size wo W521 := by rw [← hW]; exact (Below.refl _ _).drew
   obtain ⟨kU, k0Z, k10, k11, k12, k13, k14, k15, k16, k17, k18⟩ := hx2.b8 hB
   obtain ⟨k5, k19, k1a, k1b, k1c, k1d, k1e, k1f, k1g, k1h, k1i⟩ := hx7.b8 hB
   have ke := Lib.hid (HV.out.kp (.of hB))
   have kV := Lib.hid (Blw HBW.out hB)
   clear hB
   generalize hF : ({ tmps := _, defers := _ } : Act) = F
   have ev7 : F.eval (.tmp 7) = .pointer (some ⟨g7, 0, none⟩) := by rw [← hF]; rfl
   have HF := Lib.hid hF; clear hF
   refine wp_flow_tab true hW 6 [(46, []), (47, [0]), (48, [1]), (49, []), (50, [3]), (51, [2, 4])] [SC (.pointer (some ⟨g7, 4, none⟩)), SC (.agg #[a4, a5, a6, a7]), SR (-t.2), SC (.pointer (some ⟨g7, 0, none⟩)), SC (.agg #[a0, a1, a2, a3]), SV ((-t.2, t.1))] [false, false, false, false, false, false] (by kernel_rfl) (by kernel_rfl) (by kernel_rfl) (by kernel_rfl) (by kernel_rfl) (by rw [← HF.out]; simp) ⟨SC.mono _, SC.mono _, SR.mono _, SC.mono _, SC.mono _, SV.mono _, trivial⟩ ?_ ?_
   ·intro kq hkq a wx hB hp hs
    have hcase : kq = 0 ∨ kq = 1 ∨ kq = 2 ∨ kq = 3 ∨ kq = 4 ∨ kq = 5 := by omega
    rcases hcase with rfl | rfl | rfl | rfl | rfl | rfl
    ·exact ⟨_, rfl, fa_Turn1 rfl ((hs 7 rfl).trans ev7)⟩
    ·obtain ⟨k0, -⟩ := hp
     exact ⟨_, rfl, ld_Rat rfl k0 (k5.below hB) rfl rfl rfl rfl⟩
    ·obtain ⟨k0, -⟩ := hp
     exact ⟨_, rfl, Does.rr (f := 45) (call1 rfl (fun _ => by simp [go_sem]) k0) (rneg4_any a4 a5 a6 a7 (t.2) wx ((ke.out.kp (.of hB))).2)⟩
    ·exact ⟨_, rfl, fa_Turn0 rfl ((hs 7 rfl).trans ev7)⟩
    ·obtain ⟨k0, -⟩ := hp
     exact ⟨_, rfl, ld_Rat rfl k0 (k5.below hB) rfl rfl rfl rfl⟩
    ·obtain ⟨k0, kW, -⟩ := hp
     obtain ⟨n0, n1, n2, n3, e0, h_n⟩ := k0
     replace e0 : a.eval (.tmp 48) = .agg #[n0, n1, n2, n3] := e0
     have e1 : a.eval (.tmp 50) = .agg #[a0, a1, a2, a3] := kW
     simp [Act.eval] at e0
     simp [Act.eval] at e1
     exact ⟨_, rfl, Does.val (by simp [execOp, Act.eval, e0, e1, go_sem]) ⟨n0, n1, n2, n3, a0, a1, a2, a3, rfl, ⟨h_n, ((ke.out.kp (.of hB))).1⟩⟩⟩
   ·intro val wx hB hsp hdis
    have e0 : val 0 = .pointer (some ⟨g7, 4, none⟩) := hsp 0 (by omega)
    have e1 : val 1 = .agg #[a4, a5, a6, a7] := hsp 1 (by omega)
    obtain ⟨n0, n1, n2, n3, e2, h_n⟩ := hsp 2 (by omega)
    replace e2 : val 2 = .agg #[n0, n1, n2, n3] := e2
    have e3 : val 3 = .pointer (some ⟨g7, 0, none⟩) := hsp 3 (by omega)
    have e4 : val 4 = .agg #[a0, a1, a2, a3] := hsp 4 (by omega)
    obtain ⟨z0, z1, z2, z3, z4, z5, z6, z7, e5, h_z⟩ := hsp 5 (by omega)
    replace e5 : val 5 = .agg #[z0, z1, z2, z3, z4, z5, z6, z7] := e5
    rw [← HF.out]
    change wpList _ _ _ [_] _ _
    simp only [puts, vals, List.map_cons, List.map_nil, List.foldl_cons, List.foldl_nil, if_true, Nat.zero_add, Nat.reduceAdd, e0, e1, e2, e3, e4, e5, List.setIfInBounds_toArray, List.set_cons_succ, List.set_cons_zero]
    clear hsp hdis HF e0 e1 e2 e3 e4 e5
    clear ev7
    obtain ⟨w547, rfl⟩ : ∃ W : World, W = wx := ⟨_, rfl⟩
    obtain ⟨kX, k1j, k1k, k1l, k1m, k1n, k1o, k1p, k1q, k1r, k1s⟩ := kU.b8 hB
    obtain ⟨kf, k1t, k1u, k1v, k1w, k1x, k1y, k1z, k1A, k1B, k1C⟩ := k5.b8 hB
    have kY := Lib.hid (Blw kV.out hB)
    obtain ⟨o_n0, o_n1, o_n2, o_n3⟩ := h_n.ones
    clear h_n
    have kZ := Lib.hid h_z
    obtain ⟨o_z0, o_z1, o_z2, o_z3, o_z4, o_z5, o_z6, o_z7⟩ := h_z.ones
    clear h_z
    clear hB
    go_wp2
    have k00 := kf.set_ 0 (z0)
    have k01 := kX.far_ (g' := g7) (j := 0) (by omega) (z0)
    have k02 := k00.set_ 1 (z1)
    have k03 := k01.far_ (g' := g7) (j := 1) (by omega) (z1)
    have k04 := k02.set_ 2 (z2)
    have k05 := k03.far_ (g' := g7) (j := 2) (by omega) (z2)
    have k06 := k04.set_ 3 (z3)
    have k07 := k05.far_ (g' := g7) (j := 3) (by omega) (z3)
    have k08 := k06.set_ 4 (z4)
    have k09 := k07.far_ (g' := g7) (j := 4) (by omega) (z4)
    have k0a := k08.set_ 5 (z5)
    have k0b := k09.far_ (g' := g7) (j := 5) (by omega) (z5)
    have k0c := k0a.set_ 6 (z6)
    have k0d := k0b.far_ (g' := g7) (j := 6) (by omega) (z6)
    have k0e := k0c.set_ 7 (z7)
    have k0f := k0d.far_ (g' := g7) (j := 7) (by omega) (z7)
    have hkp := (Kp.refl w547).t8 kf z0 z1 z2 z3 z4 z5 z6 z7
    go_roundg (4 - (i + 1))
    case measure => have := HIG.out; omega
    case rel => exact ⟨i + 1, (-t.2, t.1), z0, z1, z2, z3, z4, z5, z6, z7, by have := HIG.out; omega, by go_num, by omega, k0f, k0e, kZ.out.kp hkp, ⟨HBV.out.2.neg, HBV.out.1⟩, unit_rot HU.out, ((((((((kY.out).setCell (by simp <;> omega) _).setCell (by simp <;> omega) _).setCell (by simp <;> omega) _).setCell (by simp <;> omega) _).setCell (by simp <;> omega) _).setCell (by simp <;> omega) _).setCell (by simp <;> omega) _).setCell (by simp <;> omega) _⟩
  ·skip
   have hltd := decide_eq_false hlt
   go_wp2_with fail
   have hkp := (Kp.refl wo).t8 hx2 a0 a1 a2 a3 a4 a5 a6 a7
   refine bodyPost_ret (v := .agg #[a0, a1, a2, a3, a4, a5, a6, a7]) (by simp [results, Try.results8, go_sem, kM, kN, kO, kP, kQ, kR, kS, kT]) rfl ⟨t, HBV.out, HU.out, _, _, _, _, _, _, _, _, rfl, ?_, bel8 (HBW.out) (by first | simp | omega)⟩
   exact HV.out.kp hkp
end Go.Proofs.Ytonkbckgbfcnkaa
