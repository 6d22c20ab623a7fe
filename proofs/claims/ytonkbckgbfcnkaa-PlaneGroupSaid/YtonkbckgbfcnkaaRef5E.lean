/-
 THE WALK of the generator of turns.
-/
import Derived.Test.YtonkbckgbfcnkaaRef5D
import Derived.Test.YtonkbckgbfcnkaaWalkPlA
namespace Go.Proofs.Ytonkbckgbfcnkaa
set_option maxHeartbeats 4000000
open Go.RowKit
attribute [local go_sem] run_store_one
set_option linter.unusedVariables false
/-- A turn. -/
def Unit1 (t : Rat × Rat) : Prop := t.1 * t.1 + t.2 * t.2 = 1
theorem unit_of {a b h : Int} (h0 : h ≠ 0) (e : a * a + b * b = h * h) : Unit1 (Rat.divInt a h, Rat.divInt b h) := by
 unfold Unit1
 simp only
 rw [Rat.divInt_mul_divInt, Rat.divInt_mul_divInt, Rat.divInt_add_divInt _ _ (Int.mul_ne_zero h0 h0) (Int.mul_ne_zero h0 h0), ← Int.add_mul, e]
 have h1 : h * h * (h * h) ≠ 0 := Int.mul_ne_zero (Int.mul_ne_zero h0 h0) (Int.mul_ne_zero h0 h0)
 have h2 := (Rat.divInt_eq_divInt_iff (n₁ := h * h * (h * h)) (n₂ := 1) h1 (show (1 : Int) ≠ 0 by omega)).2 (by omega)
 rw [h2]
 rfl
theorem unit_rot {t : Rat × Rat} (h : Unit1 t) : Unit1 (-t.2, t.1) := by
 unfold Unit1 at *
 simp only
 grind
/-- What returns some turn with small numbers. -/
def SmallT (w : World) (e : Ending) (w' : World) : Prop := ∃ t, Bv 7 t ∧ Unit1 t ∧ RV t w e w'
set_option maxRecDepth 100000 in
theorem turn_any (n : Int) (w : World) (hn : W.Is64 n) : Calls Try.prog 8 #[.int .i64 n] w (SmallT w) := by
 have HN := Lib.hid hn; clear hn
 go_enter Try.func8, Try.ntmps8
 go_wp2_with fail
 obtain ⟨W1, hW⟩ : ∃ W, W = w.alloc (.cells #[.bool false, .slice none 0 0, .bool false, .slice none 0 0, .bool false, .slice none 0 0, .bool false, .slice none 0 0] 31) := ⟨_, rfl⟩
 rw [← hW]
 have k6 : Bx W1 (w.heap.size) 31 [.bool false, .slice none 0 0, .bool false, .slice none 0 0, .bool false, .slice none 0 0, .bool false, .slice none 0 0] := by rw [hW]; exact Bx.at_ rfl
 have hB : Below w.heap.size w W1 := by rw [hW]; exact (Below.refl _ _).alloc (by simp) _
 have kv := Lib.hid hB; clear hW hB
 obtain ⟨k0n, k0o, k0p, k0q, k0r, k0s, k0t, k0u, k0v, l13⟩ := k6.f8
 refine (around_any n 64 W1 HN.out (by omega) (by omega)).mono ?_
 rintro e w' ⟨k, rfl, hk0, hk1, rfl⟩
 go_upto_region 4 with fail
 have hM0 : 1 ≤ 1 + k / 4 % 4 ∧ 1 + k / 4 % 4 ≤ 4 := by omega
 have hV0 : 0 ≤ k / 16 ∧ k / 16 ≤ 3 := by omega
 generalize 1 + k / 4 % 4 = M at hM0 ⊢
 generalize k / 16 = V at hV0 ⊢
 have hmm : 1 ≤ M * M ∧ M * M ≤ 16 := ⟨by have := Int.mul_le_mul_of_nonneg_right hM0.1 (show 0 ≤ M by omega); omega, by have := Int.mul_le_mul_of_nonneg_right hM0.2 (show 0 ≤ M by omega); omega⟩
 have hvv : 0 ≤ V * V ∧ V * V ≤ 9 := ⟨Int.mul_nonneg hV0.1 hV0.1, by have := Int.mul_le_mul_of_nonneg_right hV0.2 hV0.1; omega⟩
 have hmv : 0 ≤ 2 * M * V ∧ 2 * M * V ≤ 24 := ⟨Int.mul_nonneg (by omega) hV0.1, by have := Int.mul_le_mul_of_nonneg_left hV0.2 (show 0 ≤ 2 * M by omega); omega⟩
 have hh0 : M * M + V * V ≠ 0 := by omega
 have hun := unit_of (a := M * M - V * V) (b := 2 * M * V) hh0 (by grind)
 have k7 : Bq 7 (Rat.divInt (M * M - V * V) (M * M + V * V)) := Bq.divInt (by unfold I.Bd; simp; omega) (by unfold I.Bd; simp; omega) hh0
 have k8 : Bq 7 (Rat.divInt (2 * M * V) (M * M + V * V)) := Bq.divInt (by unfold I.Bd; rw [show (2 : Nat) ^ 7 = 128 from rfl]; omega) (by unfold I.Bd; simp; omega) hh0
 have HUN := Lib.hid hun; have kw := Lib.hid k7; have kx := Lib.hid k8
 clear hun k7 k8 hh0
 have hkm : 0 ≤ k % 4 ∧ k % 4 ≤ 3 := by omega
 go_wp2_with fail
 have k9 := rof4_any (M * M - V * V) (M * M + V * V) W1 ⟨by omega, by omega⟩ ⟨by omega, by omega⟩
 (with_reducible refine k9.mono ?_)
 clear k9
 rintro e w14 ⟨c0, c1, c2, c3, rfl, k1, k4⟩
 obtain ⟨ky, k0x, k0y, k0z, k0A, k0B, k0C, k0D, k0E, k0F, l26⟩ := k6.b8 k4
 have kz := Lib.hid (Blw kv.out k4)
 have kA := Lib.hid k1
 have o_c0 := k1.one0
 have o_c1 := k1.one1
 have o_c2 := k1.one2
 have o_c3 := k1.one3
 clear k1 k4
 go_wp2_with fail
 have ka := rof4_any (2 * M * V) (M * M + V * V) w14 ⟨by omega, by omega⟩ ⟨by omega, by omega⟩
 (with_reducible refine ka.mono ?_)
 clear ka
 rintro e w29 ⟨s0, s1, s2, s3, rfl, k2, k3⟩
 obtain ⟨kb, k0H, k0I, k0J, k0K, k0L, k0M, k0N, k0O, k0P, l41⟩ := ky.b8 k3
 have kB := Lib.hid (kA.out.kp (.of k3))
 have kC := Lib.hid (Blw kz.out k3)
 have kD := Lib.hid k2
 have o_s0 := k2.one0
 have o_s1 := k2.one1
 have o_s2 := k2.one2
 have o_s3 := k2.one3
 clear k2 k3
 go_wp2_with fail
 obtain ⟨W45, hW⟩ : ∃ W, W = w29.alloc (.cells #[c0, c1, c2, c3, s0, s1, s2, s3] 31) := ⟨_, rfl⟩
 rw [← hW]
 have hB : Below w29.heap.size w29 W45 := by rw [hW]; exact (Below.refl _ _).alloc (by simp) _
 have k0R := kb.lt
 have kc : Bx W45 (w29.heap.size) 31 [c0, c1, c2, c3, s0, s1, s2, s3] := by rw [hW]; exact Bx.at_ rfl
 clear hW
 obtain ⟨kd, kE, kF, kG, kH, kI, kJ, kK, kL, kM, l58⟩ := kb.b8 hB
 have kN := Lib.hid (kB.out.kp (.of hB))
 have kO := Lib.hid (kD.out.kp (.of hB))
 have kP := Lib.hid (Blw kC.out hB)
 clear hB
 obtain ⟨kQ, kR, kS, kT, kU, kV, kW, kX, kY, l71⟩ := kc.f8
 obtain ⟨g7, hg7⟩ : ∃ g, g = w29.heap.size := ⟨_, rfl⟩
 have hlz := kd.lt
 have hw7 : w.heap.size < g7 := by omega
 have hx7 := kc
 rw [← hg7] at hx7 ⊢
 have HST := Lib.hid (⟨kd, hx7, kN.out, kO.out, kP.out⟩ : Bx W45 w.heap.size 31 [.bool false, .slice none 0 0, .bool false, .slice none 0 0, .bool false, .slice none 0 0, .bool false, .slice none 0 0] ∧ Bx W45 g7 31 [c0, c1, c2, c3, s0, s1, s2, s3] ∧ RatV W45 c0 c1 c2 c3 (Rat.divInt (M * M - V * V) (M * M + V * V)) ∧ RatV W45 s0 s1 s2 s3 (Rat.divInt (2 * M * V) (M * M + V * V)) ∧ Below w.heap.size w W45)
 clear hx7 hg7 kE kF kG kH kI kJ kK kL kM kQ kR kS kT kU kV kW kX kY
 go_wp2_with fail
 go_loopg [8] 4 (fun gk s8 wr => ∃ (i : Nat) (t : Rat × Rat) (a0 a1 a2 a3 a4 a5 a6 a7 : Value), i + gk = 4 ∧ s8 = .int .i64 i ∧ (i : Int) ≤ k % 4 ∧ Bx wr w.heap.size 31 [.bool false, .slice none 0 0, .bool false, .slice none 0 0, .bool false, .slice none 0 0, .bool false, .slice none 0 0] ∧ Bx wr g7 31 [a0, a1, a2, a3, a4, a5, a6, a7] ∧ VecV wr a0 a1 a2 a3 a4 a5 a6 a7 t ∧ Bv 7 t ∧ Unit1 t ∧ Below w.heap.size w wr)
 case atStart => exact ⟨0, _, _, _, _, _, _, _, _, _, by omega, rfl, by omega, HST.out.1, HST.out.2.1, ⟨HST.out.2.2.1, HST.out.2.2.2.1⟩, ⟨kw.out, kx.out⟩, HUN.out, HST.out.2.2.2.2⟩
 case round =>
  clear HST
  obtain ⟨wo, rfl⟩ : ∃ wo : World, wo = wr := ⟨_, rfl⟩
  obtain ⟨i, t, a0, a1, a2, a3, a4, a5, a6, a7, hig, rfl, hik, hx2, hx7, hv, hbv, hu, hbw⟩ := hrel
  have HV := Lib.hid hv; have HBV := Lib.hid hbv; have HU := Lib.hid hu; have HBW := Lib.hid hbw; have HIG := Lib.hid hig
  have o0 := hv.one0
  have o1 := hv.one1
  have o2 := hv.one2
  have o3 := hv.one3
  have o4 := hv.one4
  have o5 := hv.one5
  have o6 := hv.one6
  have o7 := hv.one7
  clear hv hbv hu hbw hig
  obtain ⟨kZ, k00, k01, k02, k03, k04, k05, k06, k0U, k0V⟩ := hx2.f8
  obtain ⟨k0W, k0X, k0Y, k0Z, k10, k11, k12, k13, k14, k15⟩ := hx7.f8
  by_cases hlt : (i : Int) < k % 4
  ·skip
   have hltd := decide_eq_true hlt
   go_upto_region 9 with fail
   go_upto_region 9 with fail
   generalize hW : wo.drew = W521
   have hB : Below wo.heap.size wo W521 := by rw [← hW]; exact (Below.refl _ _).drew
   obtain ⟨k07, k16, k17, k18, k19, k1a, k1b, k1c, k1d, k1e, k1f⟩ := hx2.b8 hB
   obtain ⟨k5, k1g, k1h, k1i, k1j, k1k, k1l, k1m, k1n, k1o, k1p⟩ := hx7.b8 hB
   have ke := Lib.hid (HV.out.kp (.of hB))
   have k08 := Lib.hid (Blw HBW.out hB)
   clear hB
   generalize hF : ({ tmps := _, defers := _ } : Act) = F
   have ev7 : F.eval (.tmp 7) = .pointer (some ⟨g7, 0, none⟩) := by rw [← hF]; rfl
   have hsz : ∀ d ∈ ([(46, []), (47, [0]), (48, [1]), (49, []), (50, [3]), (51, [2, 4])] : List (Nat × List Nat)).map (·.1), d < F.tmps.size := by rw [← hF]; simp
   have HF := Lib.hid hF; clear hF
   refine wp_flow_tab true hW 6 [(46, []), (47, [0]), (48, [1]), (49, []), (50, [3]), (51, [2, 4])] [SC (.pointer (some ⟨g7, 4, none⟩)), SC (.agg #[a4, a5, a6, a7]), SR (-t.2), SC (.pointer (some ⟨g7, 0, none⟩)), SC (.agg #[a0, a1, a2, a3]), SV ((-t.2, t.1))] [false, false, false, false, false, false] (by kernel_rfl) (by kernel_rfl) (by kernel_rfl) (by kernel_rfl) (by kernel_rfl) hsz ⟨SC.mono _, SC.mono _, SR.mono _, SC.mono _, SC.mono _, SV.mono _, trivial⟩ ?_ ?_
   ·intro kq hkq a wx hB hp hs
    have hcase : kq = 0 ∨ kq = 1 ∨ kq = 2 ∨ kq = 3 ∨ kq = 4 ∨ kq = 5 := by omega
    rcases hcase with rfl | rfl | rfl | rfl | rfl | rfl
    ·exact ⟨_, rfl, fa_Turn1 rfl ((hs 7 rfl).trans ev7)⟩
    ·obtain ⟨k0, -⟩ := hp
     exact ⟨_, rfl, ld_Rat rfl k0 (k5.below hB) rfl rfl rfl rfl⟩
    ·obtain ⟨k0, -⟩ := hp
     have e0 : a.eval (.tmp 47) = .agg #[a4, a5, a6, a7] := k0
     exact ⟨_, rfl, Does.rr (f := 45) (call1 rfl (fun _ => by simp [go_sem]) e0) (rneg4_any a4 a5 a6 a7 (t.2) wx ((ke.out.kp (.of hB))).2)⟩
    ·exact ⟨_, rfl, fa_Turn0 rfl ((hs 7 rfl).trans ev7)⟩
    ·obtain ⟨k0, -⟩ := hp
     exact ⟨_, rfl, ld_Rat rfl k0 (k5.below hB) rfl rfl rfl rfl⟩
    ·obtain ⟨k0, pq1, -⟩ := hp
     obtain ⟨n0, n1, n2, n3, e0, h_n⟩ := k0
     replace e0 : a.eval (.tmp 48) = .agg #[n0, n1, n2, n3] := e0
     have e1 : a.eval (.tmp 50) = .agg #[a0, a1, a2, a3] := pq1
     simp [Act.eval] at e0
     simp [Act.eval] at e1
     exact ⟨_, rfl, Does.val (by simp [execOp, Act.eval, e0, e1, go_sem]) ⟨n0, n1, n2, n3, a0, a1, a2, a3, rfl, ⟨h_n, ((ke.out.kp (.of hB))).1⟩⟩⟩
   ·intro val wx hB hsp hdis
    have e0 : val 0 = .pointer (some ⟨g7, 4, none⟩) := hsp 0 (by omega)
    have e1 : val 1 = .agg #[a4, a5, a6, a7] := hsp 1 (by omega)
    obtain ⟨n0, n1, n2, n3, e2, h_n⟩ := hsp 2 (by omega)
    replace e2 : val 2 = .agg #[n0, n1, n2, n3] := e2
    have e3 : val 3 = .pointer (some ⟨g7, 0, none⟩) := hsp 3 (by omega)
    have e4 : val 4 = .agg #[a0, a1, a2, a3] := hsp 4 (by omega)
    obtain ⟨z0, z1, z2, z3, z4, z5, z6, z7, e5, h_z⟩ := hsp 5 (by omega)
    replace e5 : val 5 = .agg #[z0, z1, z2, z3, z4, z5, z6, z7] := e5
    rw [← HF.out]
    change wpList _ _ _ [_] _ _
    simp only [puts, vals, List.map_cons, List.map_nil, List.foldl_cons, List.foldl_nil, if_true, Nat.zero_add, Nat.reduceAdd, e0, e1, e2, e3, e4, e5, List.setIfInBounds_toArray, List.set_cons_succ, List.set_cons_zero]
    clear hsp hdis HF hsz e0 e1 e2 e3 e4 e5
    clear ev7
    obtain ⟨w547, rfl⟩ : ∃ W : World, W = wx := ⟨_, rfl⟩
    obtain ⟨k0a, k1q, k1r, k1s, k1t, k1u, k1v, k1w, k1x, k1y, k1z⟩ := k07.b8 hB
    obtain ⟨kf, k1A, k1B, k1C, k1D, k1E, k1F, k1G, k1H, k1I, k1J⟩ := k5.b8 hB
    have k0b := Lib.hid (Blw k08.out hB)
    have o_n0 := h_n.one0
    have o_n1 := h_n.one1
    have o_n2 := h_n.one2
    have o_n3 := h_n.one3
    clear h_n
    have k0c := Lib.hid h_z
    have o_z0 := h_z.one0
    have o_z1 := h_z.one1
    have o_z2 := h_z.one2
    have o_z3 := h_z.one3
    have o_z4 := h_z.one4
    have o_z5 := h_z.one5
    have o_z6 := h_z.one6
    have o_z7 := h_z.one7
    clear h_z
    clear hB
    go_wp2
    have kg := kf.set_ 0 (z0)
    have k0d := k0a.far_ (g' := g7) (j := 0) (by omega) (z0)
    have kh := kg.set_ 1 (z1)
    have k0e := k0d.far_ (g' := g7) (j := 1) (by omega) (z1)
    have ki := kh.set_ 2 (z2)
    have k0f := k0e.far_ (g' := g7) (j := 2) (by omega) (z2)
    have kj := ki.set_ 3 (z3)
    have k0g := k0f.far_ (g' := g7) (j := 3) (by omega) (z3)
    have kk := kj.set_ 4 (z4)
    have k0h := k0g.far_ (g' := g7) (j := 4) (by omega) (z4)
    have kl := kk.set_ 5 (z5)
    have k0i := k0h.far_ (g' := g7) (j := 5) (by omega) (z5)
    have km := kl.set_ 6 (z6)
    have k0j := k0i.far_ (g' := g7) (j := 6) (by omega) (z6)
    have k0k := km.set_ 7 (z7)
    have k0l := k0j.far_ (g' := g7) (j := 7) (by omega) (z7)
    have hkp : Kp w547 ((((((((w547.setCell ⟨g7, 0, none⟩ (z0)).setCell ⟨g7, 1, none⟩ (z1)).setCell ⟨g7, 2, none⟩ (z2)).setCell ⟨g7, 3, none⟩ (z3)).setCell ⟨g7, 4, none⟩ (z4)).setCell ⟨g7, 5, none⟩ (z5)).setCell ⟨g7, 6, none⟩ (z6)).setCell ⟨g7, 7, none⟩ (z7)) := ((((((((Kp.refl _).set_ kf (by decide) _).set_ kg (by decide) _).set_ kh (by decide) _).set_ ki (by decide) _).set_ kj (by decide) _).set_ kk (by decide) _).set_ kl (by decide) _).set_ km (by decide) _
    go_roundg (4 - (i + 1))
    case measure => have := HIG.out; omega
    case rel => exact ⟨i + 1, (-t.2, t.1), z0, z1, z2, z3, z4, z5, z6, z7, by have := HIG.out; omega, by go_num, by omega, k0l, k0k, k0c.out.kp hkp, ⟨HBV.out.2.neg, HBV.out.1⟩, unit_rot HU.out, ((((((((k0b.out).setCell (by simp <;> omega) _).setCell (by simp <;> omega) _).setCell (by simp <;> omega) _).setCell (by simp <;> omega) _).setCell (by simp <;> omega) _).setCell (by simp <;> omega) _).setCell (by simp <;> omega) _).setCell (by simp <;> omega) _⟩
  ·skip
   have hltd := decide_eq_false hlt
   go_wp2_with fail
   have kn := hx2.set_ 0 (a0)
   have ko := kn.set_ 1 (a1)
   have kr := ko.set_ 2 (a2)
   have ks := kr.set_ 3 (a3)
   have kt := ks.set_ 4 (a4)
   have ku := kt.set_ 5 (a5)
   have k0m := ku.set_ 6 (a6)
   have hkp : Kp wo ((((((((wo.setCell ⟨w.heap.size, 0, none⟩ (a0)).setCell ⟨w.heap.size, 1, none⟩ (a1)).setCell ⟨w.heap.size, 2, none⟩ (a2)).setCell ⟨w.heap.size, 3, none⟩ (a3)).setCell ⟨w.heap.size, 4, none⟩ (a4)).setCell ⟨w.heap.size, 5, none⟩ (a5)).setCell ⟨w.heap.size, 6, none⟩ (a6)).setCell ⟨w.heap.size, 7, none⟩ (a7)) := ((((((((Kp.refl _).set_ hx2 (by decide) _).set_ kn (by decide) _).set_ ko (by decide) _).set_ kr (by decide) _).set_ ks (by decide) _).set_ kt (by decide) _).set_ ku (by decide) _).set_ k0m (by decide) _
   refine bodyPost_ret (v := .agg #[a0, a1, a2, a3, a4, a5, a6, a7]) (by simp [results, Try.results8, go_sem, kZ, k00, k01, k02, k03, k04, k05, k06]) rfl ⟨t, HBV.out, HU.out, _, _, _, _, _, _, _, _, rfl, ?_, ((((((((HBW.out).setCell (by simp) _).setCell (by simp) _).setCell (by simp) _).setCell (by simp) _).setCell (by simp) _).setCell (by simp) _).setCell (by simp) _).setCell (by simp) _⟩
   exact HV.out.kp hkp
end Go.Proofs.Ytonkbckgbfcnkaa
