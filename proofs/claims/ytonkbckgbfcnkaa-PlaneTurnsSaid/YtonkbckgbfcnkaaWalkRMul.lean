/-
 THE WALKS of package rat: Mul.
-/
import Derived.Test.YtonkbckgbfcnkaaWalkRAdd
namespace Go.Proofs.Ytonkbckgbfcnkaa
set_option maxHeartbeats 4000000
open Go.RowKit
attribute [local go_sem] run_store_one
set_option linter.unusedVariables false
theorem RatV.zero (w : World) : RatV w (.bool false) (.slice none 0 0) (.bool false) (.slice none 0 0) 0 := ⟨IntV.zero w, IntV.zero w⟩
theorem mul_whole {r t : Rat} (hr : r.den = 1) (ht : t.den = 1) : (r * t).num = r.num * t.num ∧ (r * t).den = 1 := by
 rw [← q_mul r t, hr, ht]
 have h4 := divInt_pos (p := r.num * t.num) (q := ((1 : Nat) : Int) * ((1 : Nat) : Int)) (by omega) (by simp)
 refine ⟨h4.1, by have := h4.2; omega⟩
theorem mul_z0 (gp ga hp_ ha_ : Bool) (Ap Aa Bp Ba : Option Addr) (mp cp na ca dp ma da : Nat) (w : World) :
  Calls Try.prog 47 #[.agg #[.bool gp, .slice Ap 0 cp, .bool ga, .slice Aa na ca], .agg #[.bool hp_, .slice Bp mp dp, .bool ha_, .slice Ba ma da]] w (RR 0 w) := by
 go_enter Try.func47, Try.ntmps47
 go_wp2
 exact bodyPost_ret (v := .agg #[.bool false, .slice none 0 0, .bool false, .slice none 0 0]) (by simp [results, Try.results47, go_sem]) rfl ⟨_, _, _, _, rfl, RatV.zero _, (((Below.refl _ _).alloc (Nat.le_refl _) _).alloc (by simp) _).alloc (by simp <;> omega) _⟩
theorem mul_z1 (gp ga hp_ ha_ : Bool) (Ap Aa Bp Ba : Option Addr) (np cp na ca dp ma da : Nat) (w : World) (hnp : ((np : Int) == 0) = false) :
  Calls Try.prog 47 #[.agg #[.bool gp, .slice Ap np cp, .bool ga, .slice Aa na ca], .agg #[.bool hp_, .slice Bp 0 dp, .bool ha_, .slice Ba ma da]] w (RR 0 w) := by
 go_enter Try.func47, Try.ntmps47
 go_wp2
 exact bodyPost_ret (v := .agg #[.bool false, .slice none 0 0, .bool false, .slice none 0 0]) (by simp [results, Try.results47, go_sem]) rfl ⟨_, _, _, _, rfl, RatV.zero _, (((Below.refl _ _).alloc (Nat.le_refl _) _).alloc (by simp) _).alloc (by simp <;> omega) _⟩
theorem mul_ii (j k : Nat) (a0 b0 : Value) (ga gb : Bool) (Ap Aa Bp Ba : Option Addr) (np cp ca mp dp da : Nat) (r t : Rat) (w : World) (hr : IntV w a0 (.slice Ap np cp) r.num) (ht : IntV w b0 (.slice Bp mp dp) t.num) (hr1 : r.den = 1) (ht1 : t.den = 1) (br : I.Bd j r.num) (bt : I.Bd k t.num) (hk : j + k ≤ 1000000000000) (hnp : ((np : Int) == 0) = false) (hmp : ((mp : Int) == 0) = false) :
  Calls Try.prog 47 #[.agg #[a0, .slice Ap np cp, .bool ga, .slice Aa 0 ca], .agg #[b0, .slice Bp mp dp, .bool gb, .slice Ba 0 da]] w (RR (r * t) w) := by
 have hs := mul_whole hr1 ht1
 have oa0 := hr.one0
 have ob0 := ht.one0
 have HR := Lib.hid hr; have HT := Lib.hid ht; have HBR := Lib.hid br; have HBT := Lib.hid bt; have HS := Lib.hid hs
 clear hr ht br bt hs hr1 ht1
 go_enter Try.func47, Try.ntmps47
 go_wp2_with fail
 generalize hW : ((w.alloc _).alloc _).alloc _ = W1
 obtain ⟨k5, k6, k7, hB⟩ := box3 hW
 have k1 := Lib.hid hB; clear hW hB
 have F6 := Lib.hid (HR.out.kp (.of k1.out))
 have F7 := Lib.hid (HT.out.kp (.of k1.out))
 have k3 := imul_any j k a0 (.slice Ap np cp) b0 (.slice Bp mp dp) r.num t.num W1 F6.out F7.out HBR.out HBT.out hk
 (with_reducible refine k3.mono ?_)
 clear k3
 rintro e w8 ⟨u0, u1, rfl, k2, k0⟩
 have ka := k5.below k0
 have kb := k6.below k0
 have k4 := k7.below k0
 have kc := Lib.hid (Blw k1.out k0)
 have kd := Lib.hid k2
 obtain ⟨o_u0, o_u1⟩ := k2.ones
 clear k2 k0
 obtain ⟨ki, kj, kk, kl, km, kn⟩ := ka.f4
 obtain ⟨ko, kq, kr, ks, kt, ku⟩ := kb.f4
 obtain ⟨ke, kf, kg, kh, kv, kw⟩ := k4.f4
 go_wp2_with fail
 have hkp := (Kp.refl w8).t4 (k4) u0 u1 (.bool false) (.slice none 0 0)
 refine bodyPost_ret (v := .agg #[u0, u1, .bool false, .slice none 0 0]) (by simp [results, Try.results47, go_sem, ke, kf, kg, kh]) rfl ⟨_, _, _, _, rfl, ⟨?_, ?_⟩, bel4 (kc.out) (by first | simp | omega)⟩
 ·rw [HS.out.1]; exact kd.out.kp hkp
 ·rw [dq_one HS.out.2]; exact IntV.zero _
set_option maxRecDepth 100000 in
theorem mul_f0 (j k : Nat) (gp ga hp_ ha_ : Bool) (Ap Aa Bp Ba : Option Addr) (np cp na ca mp dp ma da : Nat) (r t : Rat) (w : World) (hr : RatV w (.bool gp) (.slice Ap np cp) (.bool ga) (.slice Aa na ca) r) (ht : RatV w (.bool hp_) (.slice Bp mp dp) (.bool ha_) (.slice Ba ma da) t) (br : Bq j r) (bt : Bq k t) (hk : j + k ≤ 1000000000000) (hnp : ((np : Int) == 0) = false) (hmp : ((mp : Int) == 0) = false) (hna : ((na : Int) == 0) = false) :
  Calls Try.prog 47 #[.agg #[.bool gp, .slice Ap np cp, .bool ga, .slice Aa na ca], .agg #[.bool hp_, .slice Bp mp dp, .bool ha_, .slice Ba ma da]] w (RR (Rat.divInt ((Rat.divInt r.num t.den).num * (Rat.divInt t.num r.den).num) ((Rat.divInt r.num t.den).den * (Rat.divInt t.num r.den).den)) w) := by
 have hgc := q_gcd r t
 have hden : ((Rat.divInt r.num t.den).den : Int) * (Rat.divInt t.num r.den).den ≠ 0 := Int.mul_ne_zero (den_ne _) (den_ne _)
 have hbx : Bq (j + k) (Rat.divInt r.num t.den) := Bq.divInt (br.1.mono (by omega)) (bt.2.mono (by omega)) (den_ne t)
 have hby : Bq (j + k) (Rat.divInt t.num r.den) := Bq.divInt (bt.1.mono (by omega)) (br.2.mono (by omega)) (den_ne r)
 have hbm : I.Bd j (Rat.divInt r.num t.den).num := by
  by_cases h0 : r.num = 0
  ·rw [h0, Rat.zero_divInt]; exact I.Bd.zero j
  ·exact Bd.dvd br.1 (q_dvd (den_ne t)).1 h0
 have hbn : I.Bd k (Rat.divInt t.num r.den).num := by
  by_cases h0 : t.num = 0
  ·rw [h0, Rat.zero_divInt]; exact I.Bd.zero k
  ·exact Bd.dvd bt.1 (q_dvd (den_ne r)).1 h0
 have hbd : I.Bd k ((Rat.divInt r.num t.den).den : Int) := Bd.dvd bt.2 (by rw [Int.natAbs_natCast]; exact (q_dvd (den_ne t)).2) (den_ne t)
 have hbe : I.Bd j ((Rat.divInt t.num r.den).den : Int) := Bd.dvd br.2 (by rw [Int.natAbs_natCast]; exact (q_dvd (den_ne r)).2) (den_ne r)
 have HR := Lib.hid hr; have HT := Lib.hid ht; have HBR := Lib.hid br; have HBT := Lib.hid bt; have HG := Lib.hid hgc; have HDN := Lib.hid hden
 have HBM := Lib.hid hbm; have HBN := Lib.hid hbn; have HBD := Lib.hid hbd; have HBE := Lib.hid hbe
 clear hr ht br bt hgc hden hbx hby hbm hbn hbd hbe
 go_enter Try.func47, Try.ntmps47
 go_wp2_with fail
 generalize hW : ((w.alloc _).alloc _).alloc _ = W1
 obtain ⟨ks, kt, ku, hB⟩ := box3 hW
 have k8 := Lib.hid hB; clear hW hB
 have F6 := Lib.hid (HR.out.kp (.of k8.out))
 have F7 := Lib.hid (HT.out.kp (.of k8.out))
 go_upto_region 5 with fail
 generalize hW : W1.drew = W8
 have hB : Below W1.heap.size W1 W8 := by rw [← hW]; exact (Below.refl _ _).drew
 have k6 := ks.below hB
 have k7 := kt.below hB
 have kg := ku.below hB
 have kh := Lib.hid (F6.out.kp (.of hB))
 have ki := Lib.hid (F7.out.kp (.of hB))
 have k9 := Lib.hid (Blw k8.out hB)
 clear hB
 have kR := k6.lt
 have kS := k7.lt
 have kT := kg.lt
 generalize hF : ({ tmps := _, defers := _ } : Act) = F
 have ev2 : F.eval (.tmp 2) = .pointer (some ⟨w.heap.size, 0, none⟩) := by rw [← hF]; rfl
 have ev3 : F.eval (.tmp 3) = .pointer (some ⟨w.heap.size + 1, 0, none⟩) := by rw [← hF]; rfl
 have HF := Lib.hid hF; clear hF
 refine wp_flow_tab true hW 12 [(38, []), (39, [0]), (40, []), (41, [2]), (42, [1, 3]), (43, []), (44, [5]), (45, []), (46, [7]), (47, [6, 8]), (5, []), (6, [])] [SC (.pointer (some ⟨w.heap.size, 0, none⟩)), SC (.agg #[.bool gp, .slice Ap np cp]), SC (.agg #[.bool hp_, .slice Bp mp dp, .bool ha_, .slice Ba ma da]), SI (t.den), SR (Rat.divInt r.num t.den), SC (.pointer (some ⟨w.heap.size + 1, 0, none⟩)), SC (.agg #[.bool hp_, .slice Bp mp dp]), SC (.agg #[.bool gp, .slice Ap np cp, .bool ga, .slice Aa na ca]), SI (r.den), SR (Rat.divInt t.num r.den), SB W8 26 [.bool false, .slice none 0 0, .bool false, .slice none 0 0], SB W8 26 [.bool false, .slice none 0 0, .bool false, .slice none 0 0]] [false, false, false, false, false, false, false, false, false, false, true, true] (by kernel_rfl) (by kernel_rfl) (by kernel_rfl) (by kernel_rfl) (by kernel_rfl) (by rw [← HF.out]; simp) ⟨SC.mono _, SC.mono _, SC.mono _, SI.mono _, SR.mono _, SC.mono _, SC.mono _, SC.mono _, SI.mono _, SR.mono _, SB.mono _ _ _, SB.mono _ _ _, trivial⟩ ?_ ?_
 ·intro kq hkq a wx hB hp hs
  have hcase : kq = 0 ∨ kq = 1 ∨ kq = 2 ∨ kq = 3 ∨ kq = 4 ∨ kq = 5 ∨ kq = 6 ∨ kq = 7 ∨ kq = 8 ∨ kq = 9 ∨ kq = 10 ∨ kq = 11 := by omega
  rcases hcase with rfl | rfl | rfl | rfl | rfl | rfl | rfl | rfl | rfl | rfl | rfl | rfl
  ·exact ⟨_, rfl, fa_Rat0 rfl ((hs 2 rfl).trans ev2)⟩
  ·obtain ⟨k0, -⟩ := hp
   exact ⟨_, rfl, ld_Int rfl k0 (k6.below hB) rfl rfl⟩
  ·exact ⟨_, rfl, ld_Rat rfl ((hs 3 rfl).trans ev3) (k7.below hB) rfl rfl rfl rfl⟩
  ·obtain ⟨k0, -⟩ := hp
   exact ⟨_, rfl, Does.ri (f := 74) (call1 rfl (fun _ => by simp [go_sem]) k0) (den_any (.bool hp_) (.slice Bp mp dp) (.bool ha_) (.slice Ba ma da) t wx (ki.out.kp (.of hB)))⟩
  ·obtain ⟨k0, k5, -⟩ := hp
   obtain ⟨d0, d1, e1, h_d⟩ := k5
   replace e1 : a.eval (.tmp 41) = .agg #[d0, d1] := e1
   exact ⟨_, rfl, Does.rr (f := 68) (call2 rfl (fun _ => by simp [go_sem]) k0 e1) (make_any (j + k) (.bool gp) (.slice Ap np cp) d0 d1 r.num t.den wx ((kh.out.kp (.of hB))).1 h_d (HBR.out.1.mono (by omega)) (HBT.out.2.mono (by omega)) hk)⟩
  ·exact ⟨_, rfl, fa_Rat0 rfl ((hs 3 rfl).trans ev3)⟩
  ·obtain ⟨k0, -⟩ := hp
   exact ⟨_, rfl, ld_Int rfl k0 (k7.below hB) rfl rfl⟩
  ·exact ⟨_, rfl, ld_Rat rfl ((hs 2 rfl).trans ev2) (k6.below hB) rfl rfl rfl rfl⟩
  ·obtain ⟨k0, -⟩ := hp
   exact ⟨_, rfl, Does.ri (f := 74) (call1 rfl (fun _ => by simp [go_sem]) k0) (den_any (.bool gp) (.slice Ap np cp) (.bool ga) (.slice Aa na ca) r wx (kh.out.kp (.of hB)))⟩
  ·obtain ⟨k0, k5, -⟩ := hp
   obtain ⟨e_0, e_1, e1, h_e_⟩ := k5
   replace e1 : a.eval (.tmp 46) = .agg #[e_0, e_1] := e1
   exact ⟨_, rfl, Does.rr (f := 68) (call2 rfl (fun _ => by simp [go_sem]) k0 e1) (make_any (j + k) (.bool hp_) (.slice Bp mp dp) e_0 e_1 t.num r.den wx ((ki.out.kp (.of hB))).1 h_e_ (HBT.out.1.mono (by omega)) (HBR.out.2.mono (by omega)) hk)⟩
  ·clear hp
   exact ⟨_, rfl, Does.box (by simp [execOp, go_sem]) hB⟩
  ·clear hp
   exact ⟨_, rfl, Does.box (by simp [execOp, go_sem]) hB⟩
 ·intro val wx hB hsp hdis
  obtain ⟨x0, x1, x2, x3, e4, h_x⟩ := hsp 4 (by omega)
  replace e4 : val 4 = .agg #[x0, x1, x2, x3] := e4
  obtain ⟨y0, y1, y2, y3, e9, h_y⟩ := hsp 9 (by omega)
  replace e9 : val 9 = .agg #[y0, y1, y2, y3] := e9
  obtain ⟨g18_10, e10, hg18_10, hbx18_10⟩ := hsp 10 (by omega)
  have hgw18_10 : w.heap.size ≤ g18_10 := Nat.le_trans k9.out.size hg18_10
  have hgl18_10 := hbx18_10.lt
  obtain ⟨g18_11, e11, hg18_11, hbx18_11⟩ := hsp 11 (by omega)
  have hgw18_11 : w.heap.size ≤ g18_11 := Nat.le_trans k9.out.size hg18_11
  have hgl18_11 := hbx18_11.lt
  have hne18_10_11 : g18_10 ≠ g18_11 := by
   have h := hdis 10 11 (by omega) (by omega) (by omega) rfl rfl
   rw [e10, e11] at h
   intro hh
   exact h (by rw [hh])
  rw [← HF.out]
  change wpList _ _ _ [_, _] _ _
  simp only [puts, vals, List.map_cons, List.map_nil, List.foldl_cons, List.foldl_nil, if_true, Nat.zero_add, Nat.reduceAdd, e4, e9, e10, e11, List.setIfInBounds_toArray, List.set_cons_succ, List.set_cons_zero]
  clear hsp hdis HF e4 e9 e10 e11
  clear ev2 ev3
  obtain ⟨w19, rfl⟩ : ∃ W : World, W = wx := ⟨_, rfl⟩
  have kx := k6.below hB
  have ky := k7.below hB
  have kz := kg.below hB
  have kA := Lib.hid (Blw k9.out hB)
  have kB := Lib.hid h_x
  obtain ⟨o_x0, o_x1, o_x2, o_x3⟩ := h_x.ones
  clear h_x
  have kC := Lib.hid h_y
  obtain ⟨o_y0, o_y1, o_y2, o_y3⟩ := h_y.ones
  clear h_y
  clear hB
  obtain ⟨kU, kV, kW, kX, kY, kZ⟩ := hbx18_10.f4
  obtain ⟨k00, k01, k02, k03, k04, l39⟩ := hbx18_11.f4
  go_wp2_with fail
  have ka := (hbx18_10).set_ 0 (x0)
  have kb := (ka).set_ 1 (x1)
  have kc := (kb).set_ 2 (x2)
  have kj := (kc).set_ 3 (x3)
  have kd := (((((hbx18_11).far_ (g' := g18_10) (j := 0) (by omega) (x0)).far_ (g' := g18_10) (j := 1) (by omega) (x1)).far_ (g' := g18_10) (j := 2) (by omega) (x2)).far_ (g' := g18_10) (j := 3) (by omega) (x3)).set_ 0 (y0)
  have ke := (kd).set_ 1 (y1)
  have kf := (ke).set_ 2 (y2)
  have kk := (kf).set_ 3 (y3)
  have hkp : Kp w19 ((((((((w19.setCell ⟨g18_10, 0, none⟩ (x0)).setCell ⟨g18_10, 1, none⟩ (x1)).setCell ⟨g18_10, 2, none⟩ (x2)).setCell ⟨g18_10, 3, none⟩ (x3)).setCell ⟨g18_11, 0, none⟩ (y0)).setCell ⟨g18_11, 1, none⟩ (y1)).setCell ⟨g18_11, 2, none⟩ (y2)).setCell ⟨g18_11, 3, none⟩ (y3)) := ((((((((Kp.refl _).set_ (hbx18_10) (by decide) _).set_ (ka) (by decide) _).set_ (kb) (by decide) _).set_ (kc) (by decide) _).set_ (((((hbx18_11).far_ (g' := g18_10) (j := 0) (by omega) (x0)).far_ (g' := g18_10) (j := 1) (by omega) (x1)).far_ (g' := g18_10) (j := 2) (by omega) (x2)).far_ (g' := g18_10) (j := 3) (by omega) (x3)) (by decide) _).set_ (kd) (by decide) _).set_ (ke) (by decide) _).set_ (kf) (by decide) _
  obtain ⟨W48, hW⟩ : ∃ W, W = (((((((w19.setCell ⟨g18_10, 0, none⟩ (x0)).setCell ⟨g18_10, 1, none⟩ (x1)).setCell ⟨g18_10, 2, none⟩ (x2)).setCell ⟨g18_10, 3, none⟩ (x3)).setCell ⟨g18_11, 0, none⟩ (y0)).setCell ⟨g18_11, 1, none⟩ (y1)).setCell ⟨g18_11, 2, none⟩ (y2)).setCell ⟨g18_11, 3, none⟩ (y3) := ⟨_, rfl⟩
  rw [← hW]
  rw [← hW] at hkp
  have hB : Below w.heap.size w W48 := by rw [hW]; exact bel4 (bel4 (kA.out) (by first | simp | omega)) (by first | simp | omega)
  have kD := Lib.hid hB; clear hB
  have kE := Lib.hid (kB.out.kp hkp)
  have kF := Lib.hid (kC.out.kp hkp)
  have k06 : Bx W48 (w.heap.size) 26 [.bool gp, .slice Ap np cp, .bool ga, .slice Aa na ca] := by rw [hW]; exact ((((((((kx).far_ (g' := g18_10) (j := 0) (by omega) (x0)).far_ (g' := g18_10) (j := 1) (by omega) (x1)).far_ (g' := g18_10) (j := 2) (by omega) (x2)).far_ (g' := g18_10) (j := 3) (by omega) (x3)).far_ (g' := g18_11) (j := 0) (by omega) (y0)).far_ (g' := g18_11) (j := 1) (by omega) (y1)).far_ (g' := g18_11) (j := 2) (by omega) (y2)).far_ (g' := g18_11) (j := 3) (by omega) (y3)
  have k07 : Bx W48 (w.heap.size + 1) 26 [.bool hp_, .slice Bp mp dp, .bool ha_, .slice Ba ma da] := by rw [hW]; exact ((((((((ky).far_ (g' := g18_10) (j := 0) (by omega) (x0)).far_ (g' := g18_10) (j := 1) (by omega) (x1)).far_ (g' := g18_10) (j := 2) (by omega) (x2)).far_ (g' := g18_10) (j := 3) (by omega) (x3)).far_ (g' := g18_11) (j := 0) (by omega) (y0)).far_ (g' := g18_11) (j := 1) (by omega) (y1)).far_ (g' := g18_11) (j := 2) (by omega) (y2)).far_ (g' := g18_11) (j := 3) (by omega) (y3)
  have kG : Bx W48 (w.heap.size + 1 + 1) 26 [.bool false, .slice none 0 0, .bool false, .slice none 0 0] := by rw [hW]; exact ((((((((kz).far_ (g' := g18_10) (j := 0) (by omega) (x0)).far_ (g' := g18_10) (j := 1) (by omega) (x1)).far_ (g' := g18_10) (j := 2) (by omega) (x2)).far_ (g' := g18_10) (j := 3) (by omega) (x3)).far_ (g' := g18_11) (j := 0) (by omega) (y0)).far_ (g' := g18_11) (j := 1) (by omega) (y1)).far_ (g' := g18_11) (j := 2) (by omega) (y2)).far_ (g' := g18_11) (j := 3) (by omega) (y3)
  have kH : Bx W48 (g18_10) 26 [x0, x1, x2, x3] := by rw [hW]; exact ((((kj).far_ (g' := g18_11) (j := 0) (by omega) (y0)).far_ (g' := g18_11) (j := 1) (by omega) (y1)).far_ (g' := g18_11) (j := 2) (by omega) (y2)).far_ (g' := g18_11) (j := 3) (by omega) (y3)
  have kI : Bx W48 (g18_11) 26 [y0, y1, y2, y3] := by rw [hW]; exact kk
  clear hW hkp ka kb kc kj kd ke kf kk
  go_upto_region 6 with fail
  generalize hW : W48.drew = W59
  have hB : Below W48.heap.size W48 W59 := by rw [← hW]; exact (Below.refl _ _).drew
  have kJ := kG.below hB
  have kl := kH.below hB
  have km := kI.below hB
  have kn := Lib.hid (kE.out.kp (.of hB))
  have ko := Lib.hid (kF.out.kp (.of hB))
  have kK := Lib.hid (Blw kD.out hB)
  clear hB
  generalize hF : ({ tmps := _, defers := _ } : Act) = F
  have ev5 : F.eval (.tmp 5) = .pointer (some ⟨g18_10, 0, none⟩) := by rw [← hF]; rfl
  have ev6 : F.eval (.tmp 6) = .pointer (some ⟨g18_11, 0, none⟩) := by rw [← hF]; rfl
  have HF := Lib.hid hF; clear hF
  refine wp_flow_tab true hW 11 [(48, []), (49, [0]), (50, []), (51, [2]), (52, [1, 3]), (53, []), (54, [5]), (55, []), (56, [7]), (57, [6, 8]), (58, [4, 9])] [SC (.pointer (some ⟨g18_10, 0, none⟩)), SC (.agg #[x0, x1]), SC (.pointer (some ⟨g18_11, 0, none⟩)), SC (.agg #[y0, y1]), SI ((Rat.divInt r.num t.den).num * (Rat.divInt t.num r.den).num), SC (.agg #[x0, x1, x2, x3]), SI ((Rat.divInt r.num t.den).den), SC (.agg #[y0, y1, y2, y3]), SI ((Rat.divInt t.num r.den).den), SI (((Rat.divInt r.num t.den).den : Int) * (Rat.divInt t.num r.den).den), SR (Rat.divInt ((Rat.divInt r.num t.den).num * (Rat.divInt t.num r.den).num) ((Rat.divInt r.num t.den).den * (Rat.divInt t.num r.den).den))] [false, false, false, false, false, false, false, false, false, false, false] (by kernel_rfl) (by kernel_rfl) (by kernel_rfl) (by kernel_rfl) (by kernel_rfl) (by rw [← HF.out]; simp) ⟨SC.mono _, SC.mono _, SC.mono _, SC.mono _, SI.mono _, SC.mono _, SI.mono _, SC.mono _, SI.mono _, SI.mono _, SR.mono _, trivial⟩ ?_ ?_
  ·intro kq hkq a wx hB hp hs
   have hcase : kq = 0 ∨ kq = 1 ∨ kq = 2 ∨ kq = 3 ∨ kq = 4 ∨ kq = 5 ∨ kq = 6 ∨ kq = 7 ∨ kq = 8 ∨ kq = 9 ∨ kq = 10 := by omega
   rcases hcase with rfl | rfl | rfl | rfl | rfl | rfl | rfl | rfl | rfl | rfl | rfl
   ·exact ⟨_, rfl, fa_Rat0 rfl ((hs 5 rfl).trans ev5)⟩
   ·obtain ⟨k0, -⟩ := hp
    exact ⟨_, rfl, ld_Int rfl k0 (kl.below hB) rfl rfl⟩
   ·exact ⟨_, rfl, fa_Rat0 rfl ((hs 6 rfl).trans ev6)⟩
   ·obtain ⟨k0, -⟩ := hp
    exact ⟨_, rfl, ld_Int rfl k0 (km.below hB) rfl rfl⟩
   ·obtain ⟨k0, k5, -⟩ := hp
    exact ⟨_, rfl, Does.ri (f := 73) (call2 rfl (fun _ => by simp [go_sem]) k0 k5) (imul_any j k x0 x1 y0 y1 _ _ wx ((kn.out.kp (.of hB))).1 ((ko.out.kp (.of hB))).1 HBM.out HBN.out hk)⟩
   ·exact ⟨_, rfl, ld_Rat rfl ((hs 5 rfl).trans ev5) (kl.below hB) rfl rfl rfl rfl⟩
   ·obtain ⟨k0, -⟩ := hp
    exact ⟨_, rfl, Does.ri (f := 74) (call1 rfl (fun _ => by simp [go_sem]) k0) (den_any x0 x1 x2 x3 _ wx (kn.out.kp (.of hB)))⟩
   ·exact ⟨_, rfl, ld_Rat rfl ((hs 6 rfl).trans ev6) (km.below hB) rfl rfl rfl rfl⟩
   ·obtain ⟨k0, -⟩ := hp
    exact ⟨_, rfl, Does.ri (f := 74) (call1 rfl (fun _ => by simp [go_sem]) k0) (den_any y0 y1 y2 y3 _ wx (ko.out.kp (.of hB)))⟩
   ·obtain ⟨k0, k5, -⟩ := hp
    obtain ⟨p0, p1, e0, h_p⟩ := k0
    replace e0 : a.eval (.tmp 54) = .agg #[p0, p1] := e0
    obtain ⟨q0, q1, e1, h_q⟩ := k5
    replace e1 : a.eval (.tmp 56) = .agg #[q0, q1] := e1
    exact ⟨_, rfl, Does.ri (f := 73) (call2 rfl (fun _ => by simp [go_sem]) e0 e1) (imul_any k j p0 p1 q0 q1 _ _ wx h_p h_q HBD.out HBE.out (by omega))⟩
   ·obtain ⟨k0, k5, -⟩ := hp
    obtain ⟨u0, u1, e0, h_u⟩ := k0
    replace e0 : a.eval (.tmp 52) = .agg #[u0, u1] := e0
    obtain ⟨v0, v1, e1, h_v⟩ := k5
    replace e1 : a.eval (.tmp 57) = .agg #[v0, v1] := e1
    exact ⟨_, rfl, Does.rr (f := 75) (call2 rfl (fun _ => by simp [go_sem]) e0 e1) (lowest_any u0 u1 v0 v1 _ _ wx h_u h_v HDN.out HG.out)⟩
  ·intro val wx hB hsp hdis
   obtain ⟨z0, z1, z2, z3, e10, h_z⟩ := hsp 10 (by omega)
   replace e10 : val 10 = .agg #[z0, z1, z2, z3] := e10
   rw [← HF.out]
   change wpList _ _ _ [_] _ _
   simp only [puts, vals, List.map_cons, List.map_nil, List.foldl_cons, List.foldl_nil, if_true, Nat.zero_add, Nat.reduceAdd, e10, List.setIfInBounds_toArray, List.set_cons_succ, List.set_cons_zero]
   clear hsp hdis HF e10
   clear ev5 ev6
   obtain ⟨w71, rfl⟩ : ∃ W : World, W = wx := ⟨_, rfl⟩
   have kr := kJ.below hB
   have kL := Lib.hid (Blw kK.out hB)
   have kM := Lib.hid h_z
   obtain ⟨o_z0, o_z1, o_z2, o_z3⟩ := h_z.ones
   clear h_z
   clear hB
   obtain ⟨kN, kO, kP, kQ, k08, l88⟩ := kr.f4
   go_wp2
   have hkp := (Kp.refl w71).t4 (kr) z0 z1 z2 z3
   refine bodyPost_ret (v := .agg #[z0, z1, z2, z3]) (by simp [results, Try.results47, go_sem, kN, kO, kP, kQ]) rfl ⟨_, _, _, _, rfl, ?_, bel4 (kL.out) (by first | simp | omega)⟩
   exact kM.out.kp hkp
set_option maxRecDepth 100000 in
theorem mul_f1 (j k : Nat) (gp ga hp_ ha_ : Bool) (Ap Aa Bp Ba : Option Addr) (np cp ca mp dp ma da : Nat) (r t : Rat) (w : World) (hr : RatV w (.bool gp) (.slice Ap np cp) (.bool ga) (.slice Aa 0 ca) r) (ht : RatV w (.bool hp_) (.slice Bp mp dp) (.bool ha_) (.slice Ba ma da) t) (br : Bq j r) (bt : Bq k t) (hk : j + k ≤ 1000000000000) (hnp : ((np : Int) == 0) = false) (hmp : ((mp : Int) == 0) = false) (hma : ((ma : Int) == 0) = false) :
  Calls Try.prog 47 #[.agg #[.bool gp, .slice Ap np cp, .bool ga, .slice Aa 0 ca], .agg #[.bool hp_, .slice Bp mp dp, .bool ha_, .slice Ba ma da]] w (RR (Rat.divInt ((Rat.divInt r.num t.den).num * (Rat.divInt t.num r.den).num) ((Rat.divInt r.num t.den).den * (Rat.divInt t.num r.den).den)) w) := by
 have hgc := q_gcd r t
 have hden : ((Rat.divInt r.num t.den).den : Int) * (Rat.divInt t.num r.den).den ≠ 0 := Int.mul_ne_zero (den_ne _) (den_ne _)
 have hbx : Bq (j + k) (Rat.divInt r.num t.den) := Bq.divInt (br.1.mono (by omega)) (bt.2.mono (by omega)) (den_ne t)
 have hby : Bq (j + k) (Rat.divInt t.num r.den) := Bq.divInt (bt.1.mono (by omega)) (br.2.mono (by omega)) (den_ne r)
 have hbm : I.Bd j (Rat.divInt r.num t.den).num := by
  by_cases h0 : r.num = 0
  ·rw [h0, Rat.zero_divInt]; exact I.Bd.zero j
  ·exact Bd.dvd br.1 (q_dvd (den_ne t)).1 h0
 have hbn : I.Bd k (Rat.divInt t.num r.den).num := by
  by_cases h0 : t.num = 0
  ·rw [h0, Rat.zero_divInt]; exact I.Bd.zero k
  ·exact Bd.dvd bt.1 (q_dvd (den_ne r)).1 h0
 have hbd : I.Bd k ((Rat.divInt r.num t.den).den : Int) := Bd.dvd bt.2 (by rw [Int.natAbs_natCast]; exact (q_dvd (den_ne t)).2) (den_ne t)
 have hbe : I.Bd j ((Rat.divInt t.num r.den).den : Int) := Bd.dvd br.2 (by rw [Int.natAbs_natCast]; exact (q_dvd (den_ne r)).2) (den_ne r)
 have HR := Lib.hid hr; have HT := Lib.hid ht; have HBR := Lib.hid br; have HBT := Lib.hid bt; have HG := Lib.hid hgc; have HDN := Lib.hid hden
 have HBM := Lib.hid hbm; have HBN := Lib.hid hbn; have HBD := Lib.hid hbd; have HBE := Lib.hid hbe
 clear hr ht br bt hgc hden hbx hby hbm hbn hbd hbe
 go_enter Try.func47, Try.ntmps47
 go_wp2_with fail
 generalize hW : ((w.alloc _).alloc _).alloc _ = W1
 obtain ⟨ks, kt, ku, hB⟩ := box3 hW
 have k8 := Lib.hid hB; clear hW hB
 have F6 := Lib.hid (HR.out.kp (.of k8.out))
 have F7 := Lib.hid (HT.out.kp (.of k8.out))
 go_upto_region 5 with fail
 generalize hW : W1.drew = W8
 have hB : Below W1.heap.size W1 W8 := by rw [← hW]; exact (Below.refl _ _).drew
 have k6 := ks.below hB
 have k7 := kt.below hB
 have kg := ku.below hB
 have kh := Lib.hid (F6.out.kp (.of hB))
 have ki := Lib.hid (F7.out.kp (.of hB))
 have k9 := Lib.hid (Blw k8.out hB)
 clear hB
 have kR := k6.lt
 have kS := k7.lt
 have kT := kg.lt
 generalize hF : ({ tmps := _, defers := _ } : Act) = F
 have ev2 : F.eval (.tmp 2) = .pointer (some ⟨w.heap.size, 0, none⟩) := by rw [← hF]; rfl
 have ev3 : F.eval (.tmp 3) = .pointer (some ⟨w.heap.size + 1, 0, none⟩) := by rw [← hF]; rfl
 have HF := Lib.hid hF; clear hF
 refine wp_flow_tab true hW 12 [(38, []), (39, [0]), (40, []), (41, [2]), (42, [1, 3]), (43, []), (44, [5]), (45, []), (46, [7]), (47, [6, 8]), (5, []), (6, [])] [SC (.pointer (some ⟨w.heap.size, 0, none⟩)), SC (.agg #[.bool gp, .slice Ap np cp]), SC (.agg #[.bool hp_, .slice Bp mp dp, .bool ha_, .slice Ba ma da]), SI (t.den), SR (Rat.divInt r.num t.den), SC (.pointer (some ⟨w.heap.size + 1, 0, none⟩)), SC (.agg #[.bool hp_, .slice Bp mp dp]), SC (.agg #[.bool gp, .slice Ap np cp, .bool ga, .slice Aa 0 ca]), SI (r.den), SR (Rat.divInt t.num r.den), SB W8 26 [.bool false, .slice none 0 0, .bool false, .slice none 0 0], SB W8 26 [.bool false, .slice none 0 0, .bool false, .slice none 0 0]] [false, false, false, false, false, false, false, false, false, false, true, true] (by kernel_rfl) (by kernel_rfl) (by kernel_rfl) (by kernel_rfl) (by kernel_rfl) (by rw [← HF.out]; simp) ⟨SC.mono _, SC.mono _, SC.mono _, SI.mono _, SR.mono _, SC.mono _, SC.mono _, SC.mono _, SI.mono _, SR.mono _, SB.mono _ _ _, SB.mono _ _ _, trivial⟩ ?_ ?_
 ·intro kq hkq a wx hB hp hs
  have hcase : kq = 0 ∨ kq = 1 ∨ kq = 2 ∨ kq = 3 ∨ kq = 4 ∨ kq = 5 ∨ kq = 6 ∨ kq = 7 ∨ kq = 8 ∨ kq = 9 ∨ kq = 10 ∨ kq = 11 := by omega
  rcases hcase with rfl | rfl | rfl | rfl | rfl | rfl | rfl | rfl | rfl | rfl | rfl | rfl
  ·exact ⟨_, rfl, fa_Rat0 rfl ((hs 2 rfl).trans ev2)⟩
  ·obtain ⟨k0, -⟩ := hp
   exact ⟨_, rfl, ld_Int rfl k0 (k6.below hB) rfl rfl⟩
  ·exact ⟨_, rfl, ld_Rat rfl ((hs 3 rfl).trans ev3) (k7.below hB) rfl rfl rfl rfl⟩
  ·obtain ⟨k0, -⟩ := hp
   exact ⟨_, rfl, Does.ri (f := 74) (call1 rfl (fun _ => by simp [go_sem]) k0) (den_any (.bool hp_) (.slice Bp mp dp) (.bool ha_) (.slice Ba ma da) t wx (ki.out.kp (.of hB)))⟩
  ·obtain ⟨k0, k5, -⟩ := hp
   obtain ⟨d0, d1, e1, h_d⟩ := k5
   replace e1 : a.eval (.tmp 41) = .agg #[d0, d1] := e1
   exact ⟨_, rfl, Does.rr (f := 68) (call2 rfl (fun _ => by simp [go_sem]) k0 e1) (make_any (j + k) (.bool gp) (.slice Ap np cp) d0 d1 r.num t.den wx ((kh.out.kp (.of hB))).1 h_d (HBR.out.1.mono (by omega)) (HBT.out.2.mono (by omega)) hk)⟩
  ·exact ⟨_, rfl, fa_Rat0 rfl ((hs 3 rfl).trans ev3)⟩
  ·obtain ⟨k0, -⟩ := hp
   exact ⟨_, rfl, ld_Int rfl k0 (k7.below hB) rfl rfl⟩
  ·exact ⟨_, rfl, ld_Rat rfl ((hs 2 rfl).trans ev2) (k6.below hB) rfl rfl rfl rfl⟩
  ·obtain ⟨k0, -⟩ := hp
   exact ⟨_, rfl, Does.ri (f := 74) (call1 rfl (fun _ => by simp [go_sem]) k0) (den_any (.bool gp) (.slice Ap np cp) (.bool ga) (.slice Aa 0 ca) r wx (kh.out.kp (.of hB)))⟩
  ·obtain ⟨k0, k5, -⟩ := hp
   obtain ⟨e_0, e_1, e1, h_e_⟩ := k5
   replace e1 : a.eval (.tmp 46) = .agg #[e_0, e_1] := e1
   exact ⟨_, rfl, Does.rr (f := 68) (call2 rfl (fun _ => by simp [go_sem]) k0 e1) (make_any (j + k) (.bool hp_) (.slice Bp mp dp) e_0 e_1 t.num r.den wx ((ki.out.kp (.of hB))).1 h_e_ (HBT.out.1.mono (by omega)) (HBR.out.2.mono (by omega)) hk)⟩
  ·clear hp
   exact ⟨_, rfl, Does.box (by simp [execOp, go_sem]) hB⟩
  ·clear hp
   exact ⟨_, rfl, Does.box (by simp [execOp, go_sem]) hB⟩
 ·intro val wx hB hsp hdis
  obtain ⟨x0, x1, x2, x3, e4, h_x⟩ := hsp 4 (by omega)
  replace e4 : val 4 = .agg #[x0, x1, x2, x3] := e4
  obtain ⟨y0, y1, y2, y3, e9, h_y⟩ := hsp 9 (by omega)
  replace e9 : val 9 = .agg #[y0, y1, y2, y3] := e9
  obtain ⟨g18_10, e10, hg18_10, hbx18_10⟩ := hsp 10 (by omega)
  have hgw18_10 : w.heap.size ≤ g18_10 := Nat.le_trans k9.out.size hg18_10
  have hgl18_10 := hbx18_10.lt
  obtain ⟨g18_11, e11, hg18_11, hbx18_11⟩ := hsp 11 (by omega)
  have hgw18_11 : w.heap.size ≤ g18_11 := Nat.le_trans k9.out.size hg18_11
  have hgl18_11 := hbx18_11.lt
  have hne18_10_11 : g18_10 ≠ g18_11 := by
   have h := hdis 10 11 (by omega) (by omega) (by omega) rfl rfl
   rw [e10, e11] at h
   intro hh
   exact h (by rw [hh])
  rw [← HF.out]
  change wpList _ _ _ [_, _] _ _
  simp only [puts, vals, List.map_cons, List.map_nil, List.foldl_cons, List.foldl_nil, if_true, Nat.zero_add, Nat.reduceAdd, e4, e9, e10, e11, List.setIfInBounds_toArray, List.set_cons_succ, List.set_cons_zero]
  clear hsp hdis HF e4 e9 e10 e11
  clear ev2 ev3
  obtain ⟨w19, rfl⟩ : ∃ W : World, W = wx := ⟨_, rfl⟩
  have kx := k6.below hB
  have ky := k7.below hB
  have kz := kg.below hB
  have kA := Lib.hid (Blw k9.out hB)
  have kB := Lib.hid h_x
  obtain ⟨o_x0, o_x1, o_x2, o_x3⟩ := h_x.ones
  clear h_x
  have kC := Lib.hid h_y
  obtain ⟨o_y0, o_y1, o_y2, o_y3⟩ := h_y.ones
  clear h_y
  clear hB
  obtain ⟨kU, kV, kW, kX, kY, kZ⟩ := hbx18_10.f4
  obtain ⟨k00, k01, k02, k03, k04, l39⟩ := hbx18_11.f4
  go_wp2_with fail
  have ka := (hbx18_10).set_ 0 (x0)
  have kb := (ka).set_ 1 (x1)
  have kc := (kb).set_ 2 (x2)
  have kj := (kc).set_ 3 (x3)
  have kd := (((((hbx18_11).far_ (g' := g18_10) (j := 0) (by omega) (x0)).far_ (g' := g18_10) (j := 1) (by omega) (x1)).far_ (g' := g18_10) (j := 2) (by omega) (x2)).far_ (g' := g18_10) (j := 3) (by omega) (x3)).set_ 0 (y0)
  have ke := (kd).set_ 1 (y1)
  have kf := (ke).set_ 2 (y2)
  have kk := (kf).set_ 3 (y3)
  have hkp : Kp w19 ((((((((w19.setCell ⟨g18_10, 0, none⟩ (x0)).setCell ⟨g18_10, 1, none⟩ (x1)).setCell ⟨g18_10, 2, none⟩ (x2)).setCell ⟨g18_10, 3, none⟩ (x3)).setCell ⟨g18_11, 0, none⟩ (y0)).setCell ⟨g18_11, 1, none⟩ (y1)).setCell ⟨g18_11, 2, none⟩ (y2)).setCell ⟨g18_11, 3, none⟩ (y3)) := ((((((((Kp.refl _).set_ (hbx18_10) (by decide) _).set_ (ka) (by decide) _).set_ (kb) (by decide) _).set_ (kc) (by decide) _).set_ (((((hbx18_11).far_ (g' := g18_10) (j := 0) (by omega) (x0)).far_ (g' := g18_10) (j := 1) (by omega) (x1)).far_ (g' := g18_10) (j := 2) (by omega) (x2)).far_ (g' := g18_10) (j := 3) (by omega) (x3)) (by decide) _).set_ (kd) (by decide) _).set_ (ke) (by decide) _).set_ (kf) (by decide) _
  obtain ⟨W48, hW⟩ : ∃ W, W = (((((((w19.setCell ⟨g18_10, 0, none⟩ (x0)).setCell ⟨g18_10, 1, none⟩ (x1)).setCell ⟨g18_10, 2, none⟩ (x2)).setCell ⟨g18_10, 3, none⟩ (x3)).setCell ⟨g18_11, 0, none⟩ (y0)).setCell ⟨g18_11, 1, none⟩ (y1)).setCell ⟨g18_11, 2, none⟩ (y2)).setCell ⟨g18_11, 3, none⟩ (y3) := ⟨_, rfl⟩
  rw [← hW]
  rw [← hW] at hkp
  have hB : Below w.heap.size w W48 := by rw [hW]; exact bel4 (bel4 (kA.out) (by first | simp | omega)) (by first | simp | omega)
  have kD := Lib.hid hB; clear hB
  have kE := Lib.hid (kB.out.kp hkp)
  have kF := Lib.hid (kC.out.kp hkp)
  have k06 : Bx W48 (w.heap.size) 26 [.bool gp, .slice Ap np cp, .bool ga, .slice Aa 0 ca] := by rw [hW]; exact ((((((((kx).far_ (g' := g18_10) (j := 0) (by omega) (x0)).far_ (g' := g18_10) (j := 1) (by omega) (x1)).far_ (g' := g18_10) (j := 2) (by omega) (x2)).far_ (g' := g18_10) (j := 3) (by omega) (x3)).far_ (g' := g18_11) (j := 0) (by omega) (y0)).far_ (g' := g18_11) (j := 1) (by omega) (y1)).far_ (g' := g18_11) (j := 2) (by omega) (y2)).far_ (g' := g18_11) (j := 3) (by omega) (y3)
  have k07 : Bx W48 (w.heap.size + 1) 26 [.bool hp_, .slice Bp mp dp, .bool ha_, .slice Ba ma da] := by rw [hW]; exact ((((((((ky).far_ (g' := g18_10) (j := 0) (by omega) (x0)).far_ (g' := g18_10) (j := 1) (by omega) (x1)).far_ (g' := g18_10) (j := 2) (by omega) (x2)).far_ (g' := g18_10) (j := 3) (by omega) (x3)).far_ (g' := g18_11) (j := 0) (by omega) (y0)).far_ (g' := g18_11) (j := 1) (by omega) (y1)).far_ (g' := g18_11) (j := 2) (by omega) (y2)).far_ (g' := g18_11) (j := 3) (by omega) (y3)
  have kG : Bx W48 (w.heap.size + 1 + 1) 26 [.bool false, .slice none 0 0, .bool false, .slice none 0 0] := by rw [hW]; exact ((((((((kz).far_ (g' := g18_10) (j := 0) (by omega) (x0)).far_ (g' := g18_10) (j := 1) (by omega) (x1)).far_ (g' := g18_10) (j := 2) (by omega) (x2)).far_ (g' := g18_10) (j := 3) (by omega) (x3)).far_ (g' := g18_11) (j := 0) (by omega) (y0)).far_ (g' := g18_11) (j := 1) (by omega) (y1)).far_ (g' := g18_11) (j := 2) (by omega) (y2)).far_ (g' := g18_11) (j := 3) (by omega) (y3)
  have kH : Bx W48 (g18_10) 26 [x0, x1, x2, x3] := by rw [hW]; exact ((((kj).far_ (g' := g18_11) (j := 0) (by omega) (y0)).far_ (g' := g18_11) (j := 1) (by omega) (y1)).far_ (g' := g18_11) (j := 2) (by omega) (y2)).far_ (g' := g18_11) (j := 3) (by omega) (y3)
  have kI : Bx W48 (g18_11) 26 [y0, y1, y2, y3] := by rw [hW]; exact kk
  clear hW hkp ka kb kc kj kd ke kf kk
  go_upto_region 6 with fail
  generalize hW : W48.drew = W59
  have hB : Below W48.heap.size W48 W59 := by rw [← hW]; exact (Below.refl _ _).drew
  have kJ := kG.below hB
  have kl := kH.below hB
  have km := kI.below hB
  have kn := Lib.hid (kE.out.kp (.of hB))
  have ko := Lib.hid (kF.out.kp (.of hB))
  have kK := Lib.hid (Blw kD.out hB)
  clear hB
  generalize hF : ({ tmps := _, defers := _ } : Act) = F
  have ev5 : F.eval (.tmp 5) = .pointer (some ⟨g18_10, 0, none⟩) := by rw [← hF]; rfl
  have ev6 : F.eval (.tmp 6) = .pointer (some ⟨g18_11, 0, none⟩) := by rw [← hF]; rfl
  have HF := Lib.hid hF; clear hF
  refine wp_flow_tab true hW 11 [(48, []), (49, [0]), (50, []), (51, [2]), (52, [1, 3]), (53, []), (54, [5]), (55, []), (56, [7]), (57, [6, 8]), (58, [4, 9])] [SC (.pointer (some ⟨g18_10, 0, none⟩)), SC (.agg #[x0, x1]), SC (.pointer (some ⟨g18_11, 0, none⟩)), SC (.agg #[y0, y1]), SI ((Rat.divInt r.num t.den).num * (Rat.divInt t.num r.den).num), SC (.agg #[x0, x1, x2, x3]), SI ((Rat.divInt r.num t.den).den), SC (.agg #[y0, y1, y2, y3]), SI ((Rat.divInt t.num r.den).den), SI (((Rat.divInt r.num t.den).den : Int) * (Rat.divInt t.num r.den).den), SR (Rat.divInt ((Rat.divInt r.num t.den).num * (Rat.divInt t.num r.den).num) ((Rat.divInt r.num t.den).den * (Rat.divInt t.num r.den).den))] [false, false, false, false, false, false, false, false, false, false, false] (by kernel_rfl) (by kernel_rfl) (by kernel_rfl) (by kernel_rfl) (by kernel_rfl) (by rw [← HF.out]; simp) ⟨SC.mono _, SC.mono _, SC.mono _, SC.mono _, SI.mono _, SC.mono _, SI.mono _, SC.mono _, SI.mono _, SI.mono _, SR.mono _, trivial⟩ ?_ ?_
  ·intro kq hkq a wx hB hp hs
   have hcase : kq = 0 ∨ kq = 1 ∨ kq = 2 ∨ kq = 3 ∨ kq = 4 ∨ kq = 5 ∨ kq = 6 ∨ kq = 7 ∨ kq = 8 ∨ kq = 9 ∨ kq = 10 := by omega
   rcases hcase with rfl | rfl | rfl | rfl | rfl | rfl | rfl | rfl | rfl | rfl | rfl
   ·exact ⟨_, rfl, fa_Rat0 rfl ((hs 5 rfl).trans ev5)⟩
   ·obtain ⟨k0, -⟩ := hp
    exact ⟨_, rfl, ld_Int rfl k0 (kl.below hB) rfl rfl⟩
   ·exact ⟨_, rfl, fa_Rat0 rfl ((hs 6 rfl).trans ev6)⟩
   ·obtain ⟨k0, -⟩ := hp
    exact ⟨_, rfl, ld_Int rfl k0 (km.below hB) rfl rfl⟩
   ·obtain ⟨k0, k5, -⟩ := hp
    exact ⟨_, rfl, Does.ri (f := 73) (call2 rfl (fun _ => by simp [go_sem]) k0 k5) (imul_any j k x0 x1 y0 y1 _ _ wx ((kn.out.kp (.of hB))).1 ((ko.out.kp (.of hB))).1 HBM.out HBN.out hk)⟩
   ·exact ⟨_, rfl, ld_Rat rfl ((hs 5 rfl).trans ev5) (kl.below hB) rfl rfl rfl rfl⟩
   ·obtain ⟨k0, -⟩ := hp
    exact ⟨_, rfl, Does.ri (f := 74) (call1 rfl (fun _ => by simp [go_sem]) k0) (den_any x0 x1 x2 x3 _ wx (kn.out.kp (.of hB)))⟩
   ·exact ⟨_, rfl, ld_Rat rfl ((hs 6 rfl).trans ev6) (km.below hB) rfl rfl rfl rfl⟩
   ·obtain ⟨k0, -⟩ := hp
    exact ⟨_, rfl, Does.ri (f := 74) (call1 rfl (fun _ => by simp [go_sem]) k0) (den_any y0 y1 y2 y3 _ wx (ko.out.kp (.of hB)))⟩
   ·obtain ⟨k0, k5, -⟩ := hp
    obtain ⟨p0, p1, e0, h_p⟩ := k0
    replace e0 : a.eval (.tmp 54) = .agg #[p0, p1] := e0
    obtain ⟨q0, q1, e1, h_q⟩ := k5
    replace e1 : a.eval (.tmp 56) = .agg #[q0, q1] := e1
    exact ⟨_, rfl, Does.ri (f := 73) (call2 rfl (fun _ => by simp [go_sem]) e0 e1) (imul_any k j p0 p1 q0 q1 _ _ wx h_p h_q HBD.out HBE.out (by omega))⟩
   ·obtain ⟨k0, k5, -⟩ := hp
    obtain ⟨u0, u1, e0, h_u⟩ := k0
    replace e0 : a.eval (.tmp 52) = .agg #[u0, u1] := e0
    obtain ⟨v0, v1, e1, h_v⟩ := k5
    replace e1 : a.eval (.tmp 57) = .agg #[v0, v1] := e1
    exact ⟨_, rfl, Does.rr (f := 75) (call2 rfl (fun _ => by simp [go_sem]) e0 e1) (lowest_any u0 u1 v0 v1 _ _ wx h_u h_v HDN.out HG.out)⟩
  ·intro val wx hB hsp hdis
   obtain ⟨z0, z1, z2, z3, e10, h_z⟩ := hsp 10 (by omega)
   replace e10 : val 10 = .agg #[z0, z1, z2, z3] := e10
   rw [← HF.out]
   change wpList _ _ _ [_] _ _
   simp only [puts, vals, List.map_cons, List.map_nil, List.foldl_cons, List.foldl_nil, if_true, Nat.zero_add, Nat.reduceAdd, e10, List.setIfInBounds_toArray, List.set_cons_succ, List.set_cons_zero]
   clear hsp hdis HF e10
   clear ev5 ev6
   obtain ⟨w71, rfl⟩ : ∃ W : World, W = wx := ⟨_, rfl⟩
   have kr := kJ.below hB
   have kL := Lib.hid (Blw kK.out hB)
   have kM := Lib.hid h_z
   obtain ⟨o_z0, o_z1, o_z2, o_z3⟩ := h_z.ones
   clear h_z
   clear hB
   obtain ⟨kN, kO, kP, kQ, k08, l88⟩ := kr.f4
   go_wp2
   have hkp := (Kp.refl w71).t4 (kr) z0 z1 z2 z3
   refine bodyPost_ret (v := .agg #[z0, z1, z2, z3]) (by simp [results, Try.results47, go_sem, kN, kO, kP, kQ]) rfl ⟨_, _, _, _, rfl, ?_, bel4 (kL.out) (by first | simp | omega)⟩
   exact kM.out.kp hkp
theorem rmul_any (j k : Nat) (a0 a1 a2 a3 b0 b1 b2 b3 : Value) (r t : Rat) (w : World) (hr : RatV w a0 a1 a2 a3 r) (ht : RatV w b0 b1 b2 b3 t) (br : Bq j r) (bt : Bq k t) (hk : j + k ≤ 1000000000000) :
  Calls Try.prog 47 #[.agg #[a0, a1, a2, a3], .agg #[b0, b1, b2, b3]] w (RR (r * t) w) := by
 obtain ⟨gp, Ap, np, cp, rfl, rfl⟩ := hr.1.form
 obtain ⟨ga, Aa, na, ca, rfl, rfl⟩ := hr.2.form
 obtain ⟨hp, Bp, mp, dp, rfl, rfl⟩ := ht.1.form
 obtain ⟨ha, Ba, ma, da, rfl, rfl⟩ := ht.2.form
 have l1 := hr.1.len.2
 have l2 : na = 0 ↔ r.den = 1 := hr.2.len.2.trans dq_zero
 have l3 := ht.1.len.2
 have l4 : ma = 0 ↔ t.den = 1 := ht.2.len.2.trans dq_zero
 by_cases c3 : np = 0
 ·have d1 := num_zero.1 (l1.1 c3)
  subst c3
  rw [d1, Rat.zero_mul]
  exact mul_z0 _ _ _ _ _ _ _ _ _ _ _ _ _ _ _ w
 ·by_cases c4 : mp = 0
  ·have d1 := num_zero.1 (l3.1 c4)
   subst c4
   rw [d1, Rat.mul_zero]
   exact mul_z1 _ _ _ _ _ _ _ _ _ _ _ _ _ _ _ w (ne0 c3)
  ·by_cases c1 : na = 0
   ·by_cases c2 : ma = 0
    ·have d1 := l2.1 c1
     have d2 := l4.1 c2
     subst c1; subst c2
     exact mul_ii j k _ _ ga ha Ap Aa Bp Ba np cp ca mp dp da r t w hr.1 ht.1 d1 d2 br.1 bt.1 hk (ne0 c3) (ne0 c4)
    ·subst c1
     have h := mul_f1 j k gp ga hp ha Ap Aa Bp Ba np cp ca mp dp ma da r t w hr ht br bt hk (ne0 c3) (ne0 c4) (ne0 c2)
     rwa [q_mul, q_mulx] at h
   ·have h := mul_f0 j k gp ga hp ha Ap Aa Bp Ba np cp na ca mp dp ma da r t w hr ht br bt hk (ne0 c3) (ne0 c4) (ne0 c1)
    rwa [q_mul, q_mulx] at h
end Go.Proofs.Ytonkbckgbfcnkaa
