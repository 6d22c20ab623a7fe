/-
 THE WALKS of package rat: Sub, Div.
-/
import Derived.Test.YtonkbckgbfcnkaaWalkRMul
namespace Go.Proofs.Ytonkbckgbfcnkaa
set_option maxHeartbeats 2000000
open Go.RowKit
attribute [local go_sem] run_store_one
set_option linter.unusedVariables false
set_option maxRecDepth 100000 in
theorem rsub_any (j k : Nat) (a0 a1 a2 a3 b0 b1 b2 b3 : Value) (r t : Rat) (w : World) (hr : RatV w a0 a1 a2 a3 r) (ht : RatV w b0 b1 b2 b3 t) (br : Bq j r) (bt : Bq k t) (hk : j + k + 1 ≤ 1000000000000) :
  Calls Try.prog 65 #[.agg #[a0, a1, a2, a3], .agg #[b0, b1, b2, b3]] w (RR (r - t) w) := by
 obtain ⟨oa0, oa1, oa2, oa3⟩ := hr.ones
 obtain ⟨ob0, ob1, ob2, ob3⟩ := ht.ones
 have HR := Lib.hid hr; have HT := Lib.hid ht; have HBR := Lib.hid br; have HBT := Lib.hid bt
 clear hr ht br bt
 go_enter Try.func65, Try.ntmps65
 go_wp2_with fail
 generalize hW : ((w.alloc _).alloc _).alloc _ = W1
 obtain ⟨k5, k6, k7, hB⟩ := box3 hW
 have k0 := Lib.hid hB; clear hW hB
 have F6 := Lib.hid (HR.out.kp (.of k0.out))
 have F7 := Lib.hid (HT.out.kp (.of k0.out))
 go_upto_region 1 with fail
 generalize hW : W1.drew = W8
 have hB : Below W1.heap.size W1 W8 := by rw [← hW]; exact (Below.refl _ _).drew
 have k2 := k5.below hB
 have k3 := k6.below hB
 have ka := k7.below hB
 have kb := Lib.hid (F6.out.kp (.of hB))
 have kc := Lib.hid (F7.out.kp (.of hB))
 have kd := Lib.hid (Blw k0.out hB)
 clear hB
 generalize hF : ({ tmps := _, defers := _ } : Act) = F
 have ev2 : F.eval (.tmp 2) = .pointer (some ⟨w.heap.size, 0, none⟩) := by rw [← hF]; rfl
 have ev3 : F.eval (.tmp 3) = .pointer (some ⟨w.heap.size + 1, 0, none⟩) := by rw [← hF]; rfl
 have HF := Lib.hid hF; clear hF
 refine wp_flow_tab true hW 4 [(5, []), (6, []), (7, [1]), (8, [0, 2])] [SC (.agg #[a0, a1, a2, a3]), SC (.agg #[b0, b1, b2, b3]), SR (-t), SR (r + -t)] [false, false, false, false] (by kernel_rfl) (by kernel_rfl) (by kernel_rfl) (by kernel_rfl) (by kernel_rfl) (by rw [← HF.out]; simp) ⟨SC.mono _, SC.mono _, SR.mono _, SR.mono _, trivial⟩ ?_ ?_
 ·intro kq hkq a wx hB hp hs
  have hcase : kq = 0 ∨ kq = 1 ∨ kq = 2 ∨ kq = 3 := by omega
  rcases hcase with rfl | rfl | rfl | rfl
  ·exact ⟨_, rfl, ld_Rat rfl ((hs 2 rfl).trans ev2) (k2.below hB) rfl rfl rfl rfl⟩
  ·exact ⟨_, rfl, ld_Rat rfl ((hs 3 rfl).trans ev3) (k3.below hB) rfl rfl rfl rfl⟩
  ·obtain ⟨k1, -⟩ := hp
   exact ⟨_, rfl, Does.rr (f := 48) (call1 rfl (fun _ => by simp [go_sem]) k1) (rneg_any b0 b1 b2 b3 t wx (kc.out.kp (.of hB)))⟩
  ·obtain ⟨k1, ke, -⟩ := hp
   obtain ⟨n0, n1, n2, n3, e1, h_n⟩ := ke
   replace e1 : a.eval (.tmp 7) = .agg #[n0, n1, n2, n3] := e1
   exact ⟨_, rfl, Does.rr (f := 64) (call2 rfl (fun _ => by simp [go_sem]) k1 e1) (radd_any j k a0 a1 a2 a3 n0 n1 n2 n3 r (-t) wx (kb.out.kp (.of hB)) h_n HBR.out HBT.out.neg hk)⟩
 ·intro val wx hB hsp hdis
  obtain ⟨z0, z1, z2, z3, e3, h_z⟩ := hsp 3 (by omega)
  replace e3 : val 3 = .agg #[z0, z1, z2, z3] := e3
  rw [← HF.out]
  change wpList _ _ _ [_] _ _
  simp only [puts, vals, List.map_cons, List.map_nil, List.foldl_cons, List.foldl_nil, if_true, Nat.zero_add, Nat.reduceAdd, e3, List.setIfInBounds_toArray, List.set_cons_succ, List.set_cons_zero]
  clear hsp hdis HF e3
  clear ev2 ev3
  obtain ⟨w16, rfl⟩ : ∃ W : World, W = wx := ⟨_, rfl⟩
  have kf := k2.below hB
  have kg := k3.below hB
  have k4 := ka.below hB
  have kh := Lib.hid (Blw kd.out hB)
  have ki := Lib.hid h_z
  obtain ⟨o_z0, o_z1, o_z2, o_z3⟩ := h_z.ones
  clear h_z
  clear hB
  obtain ⟨kn, ko, kr, ks, kt, ku⟩ := kf.f4
  obtain ⟨kv, kw, kx, ky, kz, kA⟩ := kg.f4
  obtain ⟨kj, kk, kl, km, kB, kC⟩ := k4.f4
  go_wp2
  have hkp := (Kp.refl w16).t4 (k4) z0 z1 z2 z3
  rw [Rat.sub_eq_add_neg]
  refine bodyPost_ret (v := .agg #[z0, z1, z2, z3]) (by simp [results, Try.results65, go_sem, kj, kk, kl, km]) rfl ⟨_, _, _, _, rfl, ?_, bel4 (kh.out) (by first | simp | omega)⟩
  exact ki.out.kp hkp
theorem gcd_inv (t : Rat) : Int.gcd (t.den : Int) t.num = 1 := by
 have h := t.reduced.symm
 unfold Int.gcd
 rw [Int.natAbs_natCast]
 exact h
theorem rdiv_zero (a0 a1 a2 a3 b2 b3 : Value) (gp : Bool) (Bp : Option Addr) (dp : Nat) (w : World) (oa0 : a0.oneCell' = true) (oa1 : a1.oneCell' = true) (oa2 : a2.oneCell' = true) (oa3 : a3.oneCell' = true) (ob2 : b2.oneCell' = true) (ob3 : b3.oneCell' = true) :
  Calls Try.prog 50 #[.agg #[a0, a1, a2, a3], .agg #[.bool gp, .slice Bp 0 dp, b2, b3]] w (RR 0 w) := by
 go_enter Try.func50, Try.ntmps50
 go_wp2
 exact bodyPost_ret (v := .agg #[.bool false, .slice none 0 0, .bool false, .slice none 0 0]) (by simp [results, Try.results50, go_sem]) rfl ⟨_, _, _, _, rfl, RatV.zero _, (((Below.refl _ _).alloc (Nat.le_refl _) _).alloc (by simp) _).alloc (by simp <;> omega) _⟩
set_option maxRecDepth 100000 in
theorem rdiv_more (j k : Nat) (a0 a1 a2 a3 b2 b3 : Value) (gp : Bool) (Bp : Option Addr) (mp dp : Nat) (r t : Rat) (w : World) (hr : RatV w a0 a1 a2 a3 r) (ht : RatV w (.bool gp) (.slice Bp mp dp) b2 b3 t) (br : Bq j r) (bt : Bq k t) (hk : j + k ≤ 1000000000000) (hmp : ((mp : Int) == 0) = false) (h0 : t.num ≠ 0) :
  Calls Try.prog 50 #[.agg #[a0, a1, a2, a3], .agg #[.bool gp, .slice Bp mp dp, b2, b3]] w (RR (r / t) w) := by
 obtain ⟨oa0, oa1, oa2, oa3⟩ := hr.ones
 have ob2 := ht.one2
 have ob3 := ht.one3
 have HR := Lib.hid hr; have HT := Lib.hid ht; have HBR := Lib.hid br; have HBT := Lib.hid bt; have H0 := Lib.hid h0
 clear hr ht br bt h0
 go_enter Try.func50, Try.ntmps50
 go_wp2_with fail
 generalize hW : ((w.alloc _).alloc _).alloc _ = W1
 obtain ⟨k7, k8, k9, hB⟩ := box3 hW
 have k1 := Lib.hid hB; clear hW hB
 have F6 := Lib.hid (HR.out.kp (.of k1.out))
 have F7 := Lib.hid (HT.out.kp (.of k1.out))
 go_upto_region 3 with fail
 generalize hW : W1.drew = W8
 have hB : Below W1.heap.size W1 W8 := by rw [← hW]; exact (Below.refl _ _).drew
 have k4 := k7.below hB
 have k2 := k8.below hB
 have kc := k9.below hB
 have kd := Lib.hid (F6.out.kp (.of hB))
 have k5 := Lib.hid (F7.out.kp (.of hB))
 have ke := Lib.hid (Blw k1.out hB)
 clear hB
 generalize hF : ({ tmps := _, defers := _ } : Act) = F
 have ev2 : F.eval (.tmp 2) = .pointer (some ⟨w.heap.size, 0, none⟩) := by rw [← hF]; rfl
 have ev3 : F.eval (.tmp 3) = .pointer (some ⟨w.heap.size + 1, 0, none⟩) := by rw [← hF]; rfl
 have HF := Lib.hid hF; clear hF
 refine wp_flow_tab true hW 7 [(11, []), (12, []), (13, [1]), (14, []), (15, [3]), (16, [2, 4]), (17, [0, 5])] [SC (.agg #[a0, a1, a2, a3]), SC (.agg #[.bool gp, .slice Bp mp dp, b2, b3]), SI (t.den), SC (.pointer (some ⟨w.heap.size + 1, 0, none⟩)), SC (.agg #[.bool gp, .slice Bp mp dp]), SR (Rat.divInt t.den t.num), SR (r * Rat.divInt t.den t.num)] [false, false, false, false, false, false, false] (by kernel_rfl) (by kernel_rfl) (by kernel_rfl) (by kernel_rfl) (by kernel_rfl) (by rw [← HF.out]; simp) ⟨SC.mono _, SC.mono _, SI.mono _, SC.mono _, SC.mono _, SR.mono _, SR.mono _, trivial⟩ ?_ ?_
 ·intro kq hkq a wx hB hp hs
  have hcase : kq = 0 ∨ kq = 1 ∨ kq = 2 ∨ kq = 3 ∨ kq = 4 ∨ kq = 5 ∨ kq = 6 := by omega
  rcases hcase with rfl | rfl | rfl | rfl | rfl | rfl | rfl
  ·exact ⟨_, rfl, ld_Rat rfl ((hs 2 rfl).trans ev2) (k4.below hB) rfl rfl rfl rfl⟩
  ·exact ⟨_, rfl, ld_Rat rfl ((hs 3 rfl).trans ev3) (k2.below hB) rfl rfl rfl rfl⟩
  ·obtain ⟨k0, -⟩ := hp
   exact ⟨_, rfl, Does.ri (f := 74) (call1 rfl (fun _ => by simp [go_sem]) k0) (den_any (.bool gp) (.slice Bp mp dp) b2 b3 t wx (k5.out.kp (.of hB)))⟩
  ·exact ⟨_, rfl, fa_Rat0 rfl ((hs 3 rfl).trans ev3)⟩
  ·obtain ⟨k0, -⟩ := hp
   exact ⟨_, rfl, ld_Int rfl k0 (k2.below hB) rfl rfl⟩
  ·obtain ⟨k0, k3, -⟩ := hp
   obtain ⟨d0, d1, e0, h_d⟩ := k0
   replace e0 : a.eval (.tmp 13) = .agg #[d0, d1] := e0
   exact ⟨_, rfl, Does.rr (f := 75) (call2 rfl (fun _ => by simp [go_sem]) e0 k3) (lowest_any d0 d1 (.bool gp) (.slice Bp mp dp) t.den t.num wx h_d ((k5.out.kp (.of hB))).1 H0.out (gcd_inv t))⟩
  ·obtain ⟨k0, k3, -⟩ := hp
   obtain ⟨n0, n1, n2, n3, e1, h_n⟩ := k3
   replace e1 : a.eval (.tmp 16) = .agg #[n0, n1, n2, n3] := e1
   exact ⟨_, rfl, Does.rr (f := 47) (call2 rfl (fun _ => by simp [go_sem]) k0 e1) (rmul_any j k a0 a1 a2 a3 n0 n1 n2 n3 r (Rat.divInt t.den t.num) wx (kd.out.kp (.of hB)) h_n HBR.out (Bq.divInt HBT.out.2 HBT.out.1 H0.out) hk)⟩
 ·intro val wx hB hsp hdis
  obtain ⟨z0, z1, z2, z3, e6, h_z⟩ := hsp 6 (by omega)
  replace e6 : val 6 = .agg #[z0, z1, z2, z3] := e6
  rw [← HF.out]
  change wpList _ _ _ [_] _ _
  simp only [puts, vals, List.map_cons, List.map_nil, List.foldl_cons, List.foldl_nil, if_true, Nat.zero_add, Nat.reduceAdd, e6, List.setIfInBounds_toArray, List.set_cons_succ, List.set_cons_zero]
  clear hsp hdis HF e6
  clear ev2 ev3
  obtain ⟨w16, rfl⟩ : ∃ W : World, W = wx := ⟨_, rfl⟩
  have kf := k4.below hB
  have kg := k2.below hB
  have k6 := kc.below hB
  have kh := Lib.hid (Blw ke.out hB)
  have ki := Lib.hid h_z
  obtain ⟨o_z0, o_z1, o_z2, o_z3⟩ := h_z.ones
  clear h_z
  clear hB
  obtain ⟨kn, ko, kr, ks, kt, ku⟩ := kf.f4
  obtain ⟨kv, kw, kx, ky, kz, kA⟩ := kg.f4
  obtain ⟨kj, kk, kl, km, kB, kC⟩ := k6.f4
  go_wp2
  have hkp := (Kp.refl w16).t4 (k6) z0 z1 z2 z3
  rw [Rat.div_def, Rat.inv_def]
  refine bodyPost_ret (v := .agg #[z0, z1, z2, z3]) (by simp [results, Try.results50, go_sem, kj, kk, kl, km]) rfl ⟨_, _, _, _, rfl, ?_, bel4 (kh.out) (by first | simp | omega)⟩
  exact ki.out.kp hkp
theorem rdiv_any (j k : Nat) (a0 a1 a2 a3 b0 b1 b2 b3 : Value) (r t : Rat) (w : World) (hr : RatV w a0 a1 a2 a3 r) (ht : RatV w b0 b1 b2 b3 t) (br : Bq j r) (bt : Bq k t) (hk : j + k ≤ 1000000000000) :
  Calls Try.prog 50 #[.agg #[a0, a1, a2, a3], .agg #[b0, b1, b2, b3]] w (RR (r / t) w) := by
 obtain ⟨gp, Bp, mp, dp, rfl, rfl⟩ := ht.1.form
 have l3 := ht.1.len.2
 by_cases c4 : mp = 0
 ·have d1 := num_zero.1 (l3.1 c4)
  subst c4
  rw [d1, Rat.div_def, Rat.inv_zero, Rat.mul_zero]
  exact rdiv_zero a0 a1 a2 a3 b2 b3 gp Bp dp w hr.one0 hr.one1 hr.one2 hr.one3 ht.one2 ht.one3
 ·exact rdiv_more j k a0 a1 a2 a3 b2 b3 gp Bp mp dp r t w hr ht br bt hk (ne0 c4) (fun h => c4 (l3.2 h))
theorem Bq.div {j k : Nat} {r t : Rat} (h : Bq j r) (g : Bq k t) (hj : 0 < j) : Bq (j + k) (r / t) := by
 by_cases h0 : t.num = 0
 ·rw [num_zero.1 h0, Rat.div_def, Rat.inv_zero, Rat.mul_zero]
  exact Bq.zero (by omega)
 ·rw [Rat.div_def]
  exact h.mul (g.inv h0)
theorem Bq.sub {j k : Nat} {r t : Rat} (h : Bq j r) (g : Bq k t) : Bq (j + k + 1) (r - t) := by
 rw [Rat.sub_eq_add_neg]
 exact h.add g.neg
end Go.Proofs.Ytonkbckgbfcnkaa
