/-
 THE WALKS of package rat: Add.
-/
import Derived.Test.YtonkbckgbfcnkaaWalkROf
import Derived.Test.YtonkbckgbfcnkaaWalkAdd
import Derived.Test.YtonkbckgbfcnkaaDo
import Derived.Test.YtonkbckgbfcnkaaPlainQ
namespace Go.Proofs.Ytonkbckgbfcnkaa
set_option maxHeartbeats 4000000
open Go.RowKit
attribute [local go_sem] run_store_one
set_option linter.unusedVariables false
theorem add_whole {r t : Rat} (hr : r.den = 1) (ht : t.den = 1) : (r + t).num = r.num + t.num ∧ (r + t).den = 1 := by
 have h1 := Rat.num_divInt_den r
 have h2 := Rat.num_divInt_den t
 rw [hr] at h1
 rw [ht] at h2
 have h3 := Rat.divInt_add_divInt r.num t.num (d₁ := 1) (d₂ := 1) (by omega) (by omega)
 rw [show ((1 : Int)) = ((1 : Nat) : Int) from rfl, h1, h2] at h3
 rw [h3]
 have h4 := divInt_pos (p := r.num * ((1 : Nat) : Int) + t.num * ((1 : Nat) : Int)) (q := ((1 : Nat) : Int) * ((1 : Nat) : Int)) (by omega) (by simp)
 refine ⟨by rw [h4.1]; simp, by have := h4.2; omega⟩
theorem add_ii (k : Nat) (a0 a1 b0 b1 : Value) (ga gb : Bool) (Aa Ab : Option Addr) (ca cb : Nat) (r t : Rat) (w : World) (hr : IntV w a0 a1 r.num) (ht : IntV w b0 b1 t.num) (hr1 : r.den = 1) (ht1 : t.den = 1) (br : I.Bd k r.num) (bt : I.Bd k t.num) (hk : k ≤ 1000000000000) :
  Calls Try.prog 64 #[.agg #[a0, a1, .bool ga, .slice Aa 0 ca], .agg #[b0, b1, .bool gb, .slice Ab 0 cb]] w (RR (r + t) w) := by
 have hs := add_whole hr1 ht1
 obtain ⟨oa0, oa1⟩ := hr.ones
 obtain ⟨ob0, ob1⟩ := ht.ones
 have HR := Lib.hid hr; have HT := Lib.hid ht; have HBR := Lib.hid br; have HBT := Lib.hid bt; have HS := Lib.hid hs
 clear hr ht br bt hs hr1 ht1
 go_enter Try.func64, Try.ntmps64
 go_wp2_with fail
 generalize hW : ((w.alloc _).alloc _).alloc _ = W1
 obtain ⟨k3, k4, k5, hB⟩ := box3 hW
 have k1 := Lib.hid hB; clear hW hB
 have F6 := Lib.hid (HR.out.kp (.of k1.out))
 have F7 := Lib.hid (HT.out.kp (.of k1.out))
 obtain ⟨kg, kh, ki, kj, kk, kl⟩ := k3.f4
 obtain ⟨km, kn, ko, kq, kr, ks⟩ := k4.f4
 obtain ⟨kt, ku, kv, kw, kx, ky⟩ := k5.f4
 have k6 := iadd_any k a0 a1 b0 b1 r.num t.num W1 F6.out F7.out HBR.out HBT.out hk
 (with_reducible refine k6.mono ?_)
 clear k6
 rintro e w26 ⟨u0, u1, rfl, k2, k0⟩
 obtain ⟨kz, kA, kB, kC, kD, kE, kF⟩ := k3.b4 k0
 obtain ⟨kG, kH, kI, kJ, kK, kL, kM⟩ := k4.b4 k0
 obtain ⟨k9, ka, kb, kc, kd, kN, kO⟩ := k5.b4 k0
 have ke := Lib.hid (Blw k1.out k0)
 have kf := Lib.hid k2
 obtain ⟨o_u0, o_u1⟩ := k2.ones
 clear k2 k0
 go_wp2_with fail
 have hkp := (Kp.refl w26).t4 k9 u0 u1 (.bool false) (.slice none 0 0)
 refine bodyPost_ret (v := .agg #[u0, u1, .bool false, .slice none 0 0]) (by simp [results, Try.results64, go_sem, ka, kb, kc, kd]) rfl ⟨_, _, _, _, rfl, ⟨?_, ?_⟩, bel4 (ke.out) (by first | simp | omega)⟩
 ·rw [HS.out.1]; exact kf.out.kp hkp
 ·rw [dq_one HS.out.2]; exact IntV.zero _
theorem add_za (b0 b1 : Value) (gp ga gb : Bool) (Ap Aa Ab : Option Addr) (cp ca cb nb : Nat) (t : Rat) (w : World) (ht : RatV w (b0) (b1) (.bool gb) (.slice Ab nb cb) t) (hnb : ((nb : Int) == 0) = false) :
  Calls Try.prog 64 #[.agg #[.bool gp, .slice Ap 0 cp, .bool ga, .slice Aa 0 ca], .agg #[b0, b1, .bool gb, .slice Ab nb cb]] w (RR t w) := by
 have o0 := ht.one0
 have o1 := ht.one1
 have HT := Lib.hid ht
 clear ht
 go_enter Try.func64, Try.ntmps64
 go_wp2_with fail
 exact bodyPost_ret (v := .agg #[b0, b1, .bool gb, .slice Ab nb cb]) (by simp [results, Try.results64, go_sem]) rfl ⟨_, _, _, _, rfl, ((HT.out.below ((Below.refl _ _).alloc (Nat.le_refl _) _)).below ((Below.refl _ _).alloc (Nat.le_refl _) _)).below ((Below.refl _ _).alloc (Nat.le_refl _) _), (((Below.refl _ _).alloc (Nat.le_refl _) _).alloc (by simp) _).alloc (by simp <;> omega) _⟩
theorem add_bz (gn : Bool) (gp ga gb : Bool) (Ap Aa Ab An : Option Addr) (cp ca cb nb np cn : Nat) (t : Rat) (w : World) (ht : RatV w (.bool gn) (.slice An np cn) (.bool gb) (.slice Ab nb cb) t) (hnb : ((nb : Int) == 0) = false) (hnp : ((np : Int) == 0) = false) :
  Calls Try.prog 64 #[.agg #[.bool gn, .slice An np cn, .bool gb, .slice Ab nb cb], .agg #[.bool gp, .slice Ap 0 cp, .bool ga, .slice Aa 0 ca]] w (RR t w) := by
 have o0 := ht.one0
 have o1 := ht.one1
 have HT := Lib.hid ht
 clear ht
 go_enter Try.func64, Try.ntmps64
 go_wp2_with fail
 exact bodyPost_ret (v := .agg #[.bool gn, .slice An np cn, .bool gb, .slice Ab nb cb]) (by simp [results, Try.results64, go_sem]) rfl ⟨_, _, _, _, rfl, ((HT.out.below ((Below.refl _ _).alloc (Nat.le_refl _) _)).below ((Below.refl _ _).alloc (Nat.le_refl _) _)).below ((Below.refl _ _).alloc (Nat.le_refl _) _), (((Below.refl _ _).alloc (Nat.le_refl _) _).alloc (by simp) _).alloc (by simp <;> omega) _⟩
set_option maxRecDepth 100000 in
theorem add_f0 (j k : Nat) (gp ga hp_ ha_ : Bool) (Ap Aa Bp Ba : Option Addr) (np cp na ca mp dp ma da : Nat) (r t : Rat) (w : World) (hr : RatV w (.bool gp) (.slice Ap np cp) (.bool ga) (.slice Aa na ca) r) (ht : RatV w (.bool hp_) (.slice Bp mp dp) (.bool ha_) (.slice Ba ma da) t) (br : Bq j r) (bt : Bq k t) (hk : j + k + 1 ≤ 1000000000000) (hnp : ((np : Int) == 0) = false) (hmp : ((mp : Int) == 0) = false) (hna : ((na : Int) == 0) = false) :
  Calls Try.prog 64 #[.agg #[.bool gp, .slice Ap np cp, .bool ga, .slice Aa na ca], .agg #[.bool hp_, .slice Bp mp dp, .bool ha_, .slice Ba ma da]] w (RR (Rat.divInt (r.num * t.den + t.num * r.den) (r.den * t.den)) w) := by
 have HR := Lib.hid hr; have HT := Lib.hid ht; have HBR := Lib.hid br; have HBT := Lib.hid bt
 clear hr ht br bt
 go_enter Try.func64, Try.ntmps64
 go_wp2_with fail
 generalize hW : ((w.alloc _).alloc _).alloc _ = W1
 obtain ⟨ki, kj, kk, hB⟩ := box3 hW
 have k2 := Lib.hid hB; clear hW hB
 have F6 := Lib.hid (HR.out.kp (.of k2.out))
 have F7 := Lib.hid (HT.out.kp (.of k2.out))
 go_upto_region 7 with fail
 generalize hW : W1.drew = W8
 have hB : Below W1.heap.size W1 W8 := by rw [← hW]; exact (Below.refl _ _).drew
 have k3 := ki.below hB
 have k4 := kj.below hB
 have k8 := kk.below hB
 have k9 := Lib.hid (F6.out.kp (.of hB))
 have ka := Lib.hid (F7.out.kp (.of hB))
 have k5 := Lib.hid (Blw k2.out hB)
 clear hB
 have kT := k3.lt
 have kU := k4.lt
 have kV := k8.lt
 generalize hF : ({ tmps := _, defers := _ } : Act) = F
 have ev2 : F.eval (.tmp 2) = .pointer (some ⟨w.heap.size, 0, none⟩) := by rw [← hF]; rfl
 have ev3 : F.eval (.tmp 3) = .pointer (some ⟨w.heap.size + 1, 0, none⟩) := by rw [← hF]; rfl
 have HF := Lib.hid hF; clear hF
 refine wp_flow_tab true hW 6 [(40, []), (41, [0]), (42, []), (43, [2]), (5, []), (6, [])] [SC (.agg #[.bool gp, .slice Ap np cp, .bool ga, .slice Aa na ca]), SI (r.den), SC (.agg #[.bool hp_, .slice Bp mp dp, .bool ha_, .slice Ba ma da]), SI (t.den), SB W8 24 [.bool false, .slice none 0 0], SB W8 24 [.bool false, .slice none 0 0]] [false, false, false, false, true, true] (by kernel_rfl) (by kernel_rfl) (by kernel_rfl) (by kernel_rfl) (by kernel_rfl) (by rw [← HF.out]; simp) ⟨SC.mono _, SI.mono _, SC.mono _, SI.mono _, SB.mono _ _ _, SB.mono _ _ _, trivial⟩ ?_ ?_
 ·intro kq hkq a wx hB hp hs
  have hcase : kq = 0 ∨ kq = 1 ∨ kq = 2 ∨ kq = 3 ∨ kq = 4 ∨ kq = 5 := by omega
  rcases hcase with rfl | rfl | rfl | rfl | rfl | rfl
  ·exact ⟨_, rfl, ld_Rat rfl ((hs 2 rfl).trans ev2) (k3.below hB) rfl rfl rfl rfl⟩
  ·obtain ⟨k0, -⟩ := hp
   exact ⟨_, rfl, Does.ri (f := 74) (call1 rfl (fun _ => by simp [go_sem]) k0) (den_any (.bool gp) (.slice Ap np cp) (.bool ga) (.slice Aa na ca) r wx (k9.out.kp (.of hB)))⟩
  ·exact ⟨_, rfl, ld_Rat rfl ((hs 3 rfl).trans ev3) (k4.below hB) rfl rfl rfl rfl⟩
  ·obtain ⟨k0, -⟩ := hp
   exact ⟨_, rfl, Does.ri (f := 74) (call1 rfl (fun _ => by simp [go_sem]) k0) (den_any (.bool hp_) (.slice Bp mp dp) (.bool ha_) (.slice Ba ma da) t wx (ka.out.kp (.of hB)))⟩
  ·clear hp
   exact ⟨_, rfl, Does.box (by simp [execOp, go_sem]) hB⟩
  ·clear hp
   exact ⟨_, rfl, Does.box (by simp [execOp, go_sem]) hB⟩
 ·intro val wx hB hsp hdis
  obtain ⟨p0, p1, e1, h_p⟩ := hsp 1 (by omega)
  replace e1 : val 1 = .agg #[p0, p1] := e1
  obtain ⟨q0, q1, e3, h_q⟩ := hsp 3 (by omega)
  replace e3 : val 3 = .agg #[q0, q1] := e3
  obtain ⟨g18_4, e4, hg18_4, hbx18_4⟩ := hsp 4 (by omega)
  have hgw18_4 : w.heap.size ≤ g18_4 := Nat.le_trans k5.out.size hg18_4
  have hgl18_4 := hbx18_4.lt
  obtain ⟨g18_5, e5, hg18_5, hbx18_5⟩ := hsp 5 (by omega)
  have hgw18_5 : w.heap.size ≤ g18_5 := Nat.le_trans k5.out.size hg18_5
  have hgl18_5 := hbx18_5.lt
  have hne18_4_5 : g18_4 ≠ g18_5 := by
   have h := hdis 4 5 (by omega) (by omega) (by omega) rfl rfl
   rw [e4, e5] at h
   intro hh
   exact h (by rw [hh])
  rw [← HF.out]
  change wpList _ _ _ [_, _] _ _
  simp only [puts, vals, List.map_cons, List.map_nil, List.foldl_cons, List.foldl_nil, if_true, Nat.zero_add, Nat.reduceAdd, e1, e3, e4, e5, List.setIfInBounds_toArray, List.set_cons_succ, List.set_cons_zero]
  clear hsp hdis HF e1 e3 e4 e5
  clear ev2 ev3
  obtain ⟨w19, rfl⟩ : ∃ W : World, W = wx := ⟨_, rfl⟩
  have kn := k3.below hB
  have ko := k4.below hB
  have kr := k8.below hB
  have ks := Lib.hid (k9.out.kp (.of hB))
  have kt := Lib.hid (ka.out.kp (.of hB))
  have ku := Lib.hid (Blw k5.out hB)
  have kv := Lib.hid h_p
  obtain ⟨o_p0, o_p1⟩ := h_p.ones
  clear h_p
  have kw := Lib.hid h_q
  obtain ⟨o_q0, o_q1⟩ := h_q.ones
  clear h_q
  clear hB
  obtain ⟨kW, kX, kY, kZ⟩ := hbx18_4.f2
  obtain ⟨k00, k01, k02, l35⟩ := hbx18_5.f2
  go_wp2_with fail
  have k6 := (hbx18_4).set_ 0 (p0)
  have kb := (k6).set_ 1 (p1)
  have k7 := (((hbx18_5).far_ (g' := g18_4) (j := 0) (by omega) (p0)).far_ (g' := g18_4) (j := 1) (by omega) (p1)).set_ 0 (q0)
  have kc := (k7).set_ 1 (q1)
  have hkp : Kp w19 ((((w19.setCell ⟨g18_4, 0, none⟩ (p0)).setCell ⟨g18_4, 1, none⟩ (p1)).setCell ⟨g18_5, 0, none⟩ (q0)).setCell ⟨g18_5, 1, none⟩ (q1)) := ((((Kp.refl _).set_ (hbx18_4) (by decide) _).set_ (k6) (by decide) _).set_ (((hbx18_5).far_ (g' := g18_4) (j := 0) (by omega) (p0)).far_ (g' := g18_4) (j := 1) (by omega) (p1)) (by decide) _).set_ (k7) (by decide) _
  obtain ⟨W40, hW⟩ : ∃ W, W = (((w19.setCell ⟨g18_4, 0, none⟩ (p0)).setCell ⟨g18_4, 1, none⟩ (p1)).setCell ⟨g18_5, 0, none⟩ (q0)).setCell ⟨g18_5, 1, none⟩ (q1) := ⟨_, rfl⟩
  rw [← hW]
  rw [← hW] at hkp
  have hB : Below w.heap.size w W40 := by rw [hW]; exact bel2 (bel2 (ku.out) (by first | simp | omega)) (by first | simp | omega)
  have kx := Lib.hid hB; clear hB
  have ky := Lib.hid (ks.out.kp hkp)
  have kz := Lib.hid (kt.out.kp hkp)
  have kA := Lib.hid (kv.out.kp hkp)
  have kB := Lib.hid (kw.out.kp hkp)
  have kC : Bx W40 (w.heap.size) 26 [.bool gp, .slice Ap np cp, .bool ga, .slice Aa na ca] := by rw [hW]; exact ((((kn).far_ (g' := g18_4) (j := 0) (by omega) (p0)).far_ (g' := g18_4) (j := 1) (by omega) (p1)).far_ (g' := g18_5) (j := 0) (by omega) (q0)).far_ (g' := g18_5) (j := 1) (by omega) (q1)
  have kD : Bx W40 (w.heap.size + 1) 26 [.bool hp_, .slice Bp mp dp, .bool ha_, .slice Ba ma da] := by rw [hW]; exact ((((ko).far_ (g' := g18_4) (j := 0) (by omega) (p0)).far_ (g' := g18_4) (j := 1) (by omega) (p1)).far_ (g' := g18_5) (j := 0) (by omega) (q0)).far_ (g' := g18_5) (j := 1) (by omega) (q1)
  have kE : Bx W40 (w.heap.size + 1 + 1) 26 [.bool false, .slice none 0 0, .bool false, .slice none 0 0] := by rw [hW]; exact ((((kr).far_ (g' := g18_4) (j := 0) (by omega) (p0)).far_ (g' := g18_4) (j := 1) (by omega) (p1)).far_ (g' := g18_5) (j := 0) (by omega) (q0)).far_ (g' := g18_5) (j := 1) (by omega) (q1)
  have kF : Bx W40 (g18_4) 24 [p0, p1] := by rw [hW]; exact ((kb).far_ (g' := g18_5) (j := 0) (by omega) (q0)).far_ (g' := g18_5) (j := 1) (by omega) (q1)
  have kG : Bx W40 (g18_5) 24 [q0, q1] := by rw [hW]; exact kc
  clear hW hkp k6 kb k7 kc
  go_upto_region 8 with fail
  generalize hW : W40.drew = W51
  have hB : Below W40.heap.size W40 W51 := by rw [← hW]; exact (Below.refl _ _).drew
  have kH := kC.below hB
  have kI := kD.below hB
  have kJ := kE.below hB
  have kd := kF.below hB
  have ke := kG.below hB
  have kK := Lib.hid (ky.out.kp (.of hB))
  have kL := Lib.hid (kz.out.kp (.of hB))
  have kf := Lib.hid (kA.out.kp (.of hB))
  have kg := Lib.hid (kB.out.kp (.of hB))
  have kM := Lib.hid (Blw kx.out hB)
  clear hB
  generalize hF : ({ tmps := _, defers := _ } : Act) = F
  have ev2 : F.eval (.tmp 2) = .pointer (some ⟨w.heap.size, 0, none⟩) := by rw [← hF]; rfl
  have ev3 : F.eval (.tmp 3) = .pointer (some ⟨w.heap.size + 1, 0, none⟩) := by rw [← hF]; rfl
  have ev5 : F.eval (.tmp 5) = .pointer (some ⟨g18_4, 0, none⟩) := by rw [← hF]; rfl
  have ev6 : F.eval (.tmp 6) = .pointer (some ⟨g18_5, 0, none⟩) := by rw [← hF]; rfl
  have HF := Lib.hid hF; clear hF
  refine wp_flow_tab true hW 13 [(44, []), (45, [0]), (46, []), (47, [1, 2]), (48, []), (49, [4]), (50, []), (51, [5, 6]), (52, [3, 7]), (53, []), (54, []), (55, [9, 10]), (56, [8, 11])] [SC (.pointer (some ⟨w.heap.size, 0, none⟩)), SC (.agg #[.bool gp, .slice Ap np cp]), SC (.agg #[q0, q1]), SI (r.num * t.den), SC (.pointer (some ⟨w.heap.size + 1, 0, none⟩)), SC (.agg #[.bool hp_, .slice Bp mp dp]), SC (.agg #[p0, p1]), SI (t.num * r.den), SI (r.num * t.den + t.num * r.den), SC (.agg #[p0, p1]), SC (.agg #[q0, q1]), SI (r.den * t.den), SR (Rat.divInt (r.num * t.den + t.num * r.den) (r.den * t.den))] [false, false, false, false, false, false, false, false, false, false, false, false, false] (by kernel_rfl) (by kernel_rfl) (by kernel_rfl) (by kernel_rfl) (by kernel_rfl) (by rw [← HF.out]; simp) ⟨SC.mono _, SC.mono _, SC.mono _, SI.mono _, SC.mono _, SC.mono _, SC.mono _, SI.mono _, SI.mono _, SC.mono _, SC.mono _, SI.mono _, SR.mono _, trivial⟩ ?_ ?_
  ·intro kq hkq a wx hB hp hs
   have hcase : kq = 0 ∨ kq = 1 ∨ kq = 2 ∨ kq = 3 ∨ kq = 4 ∨ kq = 5 ∨ kq = 6 ∨ kq = 7 ∨ kq = 8 ∨ kq = 9 ∨ kq = 10 ∨ kq = 11 ∨ kq = 12 := by omega
   rcases hcase with rfl | rfl | rfl | rfl | rfl | rfl | rfl | rfl | rfl | rfl | rfl | rfl | rfl
   ·exact ⟨_, rfl, fa_Rat0 rfl ((hs 2 rfl).trans ev2)⟩
   ·obtain ⟨k0, -⟩ := hp
    exact ⟨_, rfl, ld_Int rfl k0 (kH.below hB) rfl rfl⟩
   ·exact ⟨_, rfl, ld_Int rfl ((hs 6 rfl).trans ev6) (ke.below hB) rfl rfl⟩
   ·obtain ⟨k0, k1, -⟩ := hp
    exact ⟨_, rfl, Does.ri (f := 73) (call2 rfl (fun _ => by simp [go_sem]) k0 k1) (imul_any j k (.bool gp) (.slice Ap np cp) (q0) (q1) r.num t.den wx ((kK.out.kp (.of hB))).1 (kg.out.kp (.of hB)) HBR.out.1 HBT.out.2 (by omega))⟩
   ·exact ⟨_, rfl, fa_Rat0 rfl ((hs 3 rfl).trans ev3)⟩
   ·obtain ⟨k0, -⟩ := hp
    exact ⟨_, rfl, ld_Int rfl k0 (kI.below hB) rfl rfl⟩
   ·exact ⟨_, rfl, ld_Int rfl ((hs 5 rfl).trans ev5) (kd.below hB) rfl rfl⟩
   ·obtain ⟨k0, k1, -⟩ := hp
    exact ⟨_, rfl, Does.ri (f := 73) (call2 rfl (fun _ => by simp [go_sem]) k0 k1) (imul_any k j (.bool hp_) (.slice Bp mp dp) (p0) (p1) t.num r.den wx ((kL.out.kp (.of hB))).1 (kf.out.kp (.of hB)) HBT.out.1 HBR.out.2 (by omega))⟩
   ·obtain ⟨k0, k1, -⟩ := hp
    obtain ⟨u0, u1, e0, h_u⟩ := k0
    replace e0 : a.eval (.tmp 47) = .agg #[u0, u1] := e0
    obtain ⟨v0, v1, e1, h_v⟩ := k1
    replace e1 : a.eval (.tmp 51) = .agg #[v0, v1] := e1
    exact ⟨_, rfl, Does.ri (f := 89) (call2 rfl (fun _ => by simp [go_sem]) e0 e1) (iadd_any (j + k) u0 u1 v0 v1 (r.num * t.den) (t.num * r.den) wx h_u h_v (HBR.out.1.mul HBT.out.2) (by rw [Nat.add_comm]; exact HBT.out.1.mul HBR.out.2) (by omega))⟩
   ·exact ⟨_, rfl, ld_Int rfl ((hs 5 rfl).trans ev5) (kd.below hB) rfl rfl⟩
   ·exact ⟨_, rfl, ld_Int rfl ((hs 6 rfl).trans ev6) (ke.below hB) rfl rfl⟩
   ·obtain ⟨k0, k1, -⟩ := hp
    exact ⟨_, rfl, Does.ri (f := 73) (call2 rfl (fun _ => by simp [go_sem]) k0 k1) (imul_any j k (p0) (p1) (q0) (q1) r.den t.den wx (kf.out.kp (.of hB)) (kg.out.kp (.of hB)) HBR.out.2 HBT.out.2 (by omega))⟩
   ·obtain ⟨k0, k1, -⟩ := hp
    obtain ⟨s0, s1, e0, h_s⟩ := k0
    replace e0 : a.eval (.tmp 52) = .agg #[s0, s1] := e0
    obtain ⟨d0, d1, e1, h_d⟩ := k1
    replace e1 : a.eval (.tmp 55) = .agg #[d0, d1] := e1
    exact ⟨_, rfl, Does.rr (f := 68) (call2 rfl (fun _ => by simp [go_sem]) e0 e1) (make_any (j + k + 1) s0 s1 d0 d1 (r.num * t.den + t.num * r.den) (r.den * t.den) wx h_s h_d ((HBR.out.1.mul HBT.out.2).add' (by rw [Nat.add_comm]; exact HBT.out.1.mul HBR.out.2)) ((HBR.out.2.mul HBT.out.2).mono (by omega)) hk)⟩
  ·intro val wx hB hsp hdis
   obtain ⟨z0, z1, z2, z3, e12, h_z⟩ := hsp 12 (by omega)
   replace e12 : val 12 = .agg #[z0, z1, z2, z3] := e12
   rw [← HF.out]
   change wpList _ _ _ [_] _ _
   simp only [puts, vals, List.map_cons, List.map_nil, List.foldl_cons, List.foldl_nil, if_true, Nat.zero_add, Nat.reduceAdd, e12, List.setIfInBounds_toArray, List.set_cons_succ, List.set_cons_zero]
   clear hsp hdis HF e12
   clear ev2 ev3 ev5 ev6
   obtain ⟨w63, rfl⟩ : ∃ W : World, W = wx := ⟨_, rfl⟩
   have kh := kJ.below hB
   have kN := Lib.hid (Blw kM.out hB)
   have kO := Lib.hid h_z
   obtain ⟨o_z0, o_z1, o_z2, o_z3⟩ := h_z.ones
   clear h_z
   clear hB
   obtain ⟨kP, kQ, kR, kS, k04, l80⟩ := kh.f4
   go_wp2
   have hkp := (Kp.refl w63).t4 (kh) z0 z1 z2 z3
   refine bodyPost_ret (v := .agg #[z0, z1, z2, z3]) (by simp [results, Try.results64, go_sem, kP, kQ, kR, kS]) rfl ⟨_, _, _, _, rfl, ?_, bel4 (kN.out) (by first | simp | omega)⟩
   exact kO.out.kp hkp
set_option maxRecDepth 100000 in
theorem add_f1 (j k : Nat) (gp ga hp_ ha_ : Bool) (Ap Aa Bp Ba : Option Addr) (np cp ca mp dp ma da : Nat) (r t : Rat) (w : World) (hr : RatV w (.bool gp) (.slice Ap np cp) (.bool ga) (.slice Aa 0 ca) r) (ht : RatV w (.bool hp_) (.slice Bp mp dp) (.bool ha_) (.slice Ba ma da) t) (br : Bq j r) (bt : Bq k t) (hk : j + k + 1 ≤ 1000000000000) (hnp : ((np : Int) == 0) = false) (hmp : ((mp : Int) == 0) = false) (hma : ((ma : Int) == 0) = false) :
  Calls Try.prog 64 #[.agg #[.bool gp, .slice Ap np cp, .bool ga, .slice Aa 0 ca], .agg #[.bool hp_, .slice Bp mp dp, .bool ha_, .slice Ba ma da]] w (RR (Rat.divInt (r.num * t.den + t.num * r.den) (r.den * t.den)) w) := by
 have HR := Lib.hid hr; have HT := Lib.hid ht; have HBR := Lib.hid br; have HBT := Lib.hid bt
 clear hr ht br bt
 go_enter Try.func64, Try.ntmps64
 go_wp2_with fail
 generalize hW : ((w.alloc _).alloc _).alloc _ = W1
 obtain ⟨ki, kj, kk, hB⟩ := box3 hW
 have k2 := Lib.hid hB; clear hW hB
 have F6 := Lib.hid (HR.out.kp (.of k2.out))
 have F7 := Lib.hid (HT.out.kp (.of k2.out))
 go_upto_region 7 with fail
 generalize hW : W1.drew = W8
 have hB : Below W1.heap.size W1 W8 := by rw [← hW]; exact (Below.refl _ _).drew
 have k3 := ki.below hB
 have k4 := kj.below hB
 have k8 := kk.below hB
 have k9 := Lib.hid (F6.out.kp (.of hB))
 have ka := Lib.hid (F7.out.kp (.of hB))
 have k5 := Lib.hid (Blw k2.out hB)
 clear hB
 have kT := k3.lt
 have kU := k4.lt
 have kV := k8.lt
 generalize hF : ({ tmps := _, defers := _ } : Act) = F
 have ev2 : F.eval (.tmp 2) = .pointer (some ⟨w.heap.size, 0, none⟩) := by rw [← hF]; rfl
 have ev3 : F.eval (.tmp 3) = .pointer (some ⟨w.heap.size + 1, 0, none⟩) := by rw [← hF]; rfl
 have HF := Lib.hid hF; clear hF
 refine wp_flow_tab true hW 6 [(40, []), (41, [0]), (42, []), (43, [2]), (5, []), (6, [])] [SC (.agg #[.bool gp, .slice Ap np cp, .bool ga, .slice Aa 0 ca]), SI (r.den), SC (.agg #[.bool hp_, .slice Bp mp dp, .bool ha_, .slice Ba ma da]), SI (t.den), SB W8 24 [.bool false, .slice none 0 0], SB W8 24 [.bool false, .slice none 0 0]] [false, false, false, false, true, true] (by kernel_rfl) (by kernel_rfl) (by kernel_rfl) (by kernel_rfl) (by kernel_rfl) (by rw [← HF.out]; simp) ⟨SC.mono _, SI.mono _, SC.mono _, SI.mono _, SB.mono _ _ _, SB.mono _ _ _, trivial⟩ ?_ ?_
 ·intro kq hkq a wx hB hp hs
  have hcase : kq = 0 ∨ kq = 1 ∨ kq = 2 ∨ kq = 3 ∨ kq = 4 ∨ kq = 5 := by omega
  rcases hcase with rfl | rfl | rfl | rfl | rfl | rfl
  ·exact ⟨_, rfl, ld_Rat rfl ((hs 2 rfl).trans ev2) (k3.below hB) rfl rfl rfl rfl⟩
  ·obtain ⟨k0, -⟩ := hp
   exact ⟨_, rfl, Does.ri (f := 74) (call1 rfl (fun _ => by simp [go_sem]) k0) (den_any (.bool gp) (.slice Ap np cp) (.bool ga) (.slice Aa 0 ca) r wx (k9.out.kp (.of hB)))⟩
  ·exact ⟨_, rfl, ld_Rat rfl ((hs 3 rfl).trans ev3) (k4.below hB) rfl rfl rfl rfl⟩
  ·obtain ⟨k0, -⟩ := hp
   exact ⟨_, rfl, Does.ri (f := 74) (call1 rfl (fun _ => by simp [go_sem]) k0) (den_any (.bool hp_) (.slice Bp mp dp) (.bool ha_) (.slice Ba ma da) t wx (ka.out.kp (.of hB)))⟩
  ·clear hp
   exact ⟨_, rfl, Does.box (by simp [execOp, go_sem]) hB⟩
  ·clear hp
   exact ⟨_, rfl, Does.box (by simp [execOp, go_sem]) hB⟩
 ·intro val wx hB hsp hdis
  obtain ⟨p0, p1, e1, h_p⟩ := hsp 1 (by omega)
  replace e1 : val 1 = .agg #[p0, p1] := e1
  obtain ⟨q0, q1, e3, h_q⟩ := hsp 3 (by omega)
  replace e3 : val 3 = .agg #[q0, q1] := e3
  obtain ⟨g18_4, e4, hg18_4, hbx18_4⟩ := hsp 4 (by omega)
  have hgw18_4 : w.heap.size ≤ g18_4 := Nat.le_trans k5.out.size hg18_4
  have hgl18_4 := hbx18_4.lt
  obtain ⟨g18_5, e5, hg18_5, hbx18_5⟩ := hsp 5 (by omega)
  have hgw18_5 : w.heap.size ≤ g18_5 := Nat.le_trans k5.out.size hg18_5
  have hgl18_5 := hbx18_5.lt
  have hne18_4_5 : g18_4 ≠ g18_5 := by
   have h := hdis 4 5 (by omega) (by omega) (by omega) rfl rfl
   rw [e4, e5] at h
   intro hh
   exact h (by rw [hh])
  rw [← HF.out]
  change wpList _ _ _ [_, _] _ _
  simp only [puts, vals, List.map_cons, List.map_nil, List.foldl_cons, List.foldl_nil, if_true, Nat.zero_add, Nat.reduceAdd, e1, e3, e4, e5, List.setIfInBounds_toArray, List.set_cons_succ, List.set_cons_zero]
  clear hsp hdis HF e1 e3 e4 e5
  clear ev2 ev3
  obtain ⟨w19, rfl⟩ : ∃ W : World, W = wx := ⟨_, rfl⟩
  have kn := k3.below hB
  have ko := k4.below hB
  have kr := k8.below hB
  have ks := Lib.hid (k9.out.kp (.of hB))
  have kt := Lib.hid (ka.out.kp (.of hB))
  have ku := Lib.hid (Blw k5.out hB)
  have kv := Lib.hid h_p
  obtain ⟨o_p0, o_p1⟩ := h_p.ones
  clear h_p
  have kw := Lib.hid h_q
  obtain ⟨o_q0, o_q1⟩ := h_q.ones
  clear h_q
  clear hB
  obtain ⟨kW, kX, kY, kZ⟩ := hbx18_4.f2
  obtain ⟨k00, k01, k02, l35⟩ := hbx18_5.f2
  go_wp2_with fail
  have k6 := (hbx18_4).set_ 0 (p0)
  have kb := (k6).set_ 1 (p1)
  have k7 := (((hbx18_5).far_ (g' := g18_4) (j := 0) (by omega) (p0)).far_ (g' := g18_4) (j := 1) (by omega) (p1)).set_ 0 (q0)
  have kc := (k7).set_ 1 (q1)
  have hkp : Kp w19 ((((w19.setCell ⟨g18_4, 0, none⟩ (p0)).setCell ⟨g18_4, 1, none⟩ (p1)).setCell ⟨g18_5, 0, none⟩ (q0)).setCell ⟨g18_5, 1, none⟩ (q1)) := ((((Kp.refl _).set_ (hbx18_4) (by decide) _).set_ (k6) (by decide) _).set_ (((hbx18_5).far_ (g' := g18_4) (j := 0) (by omega) (p0)).far_ (g' := g18_4) (j := 1) (by omega) (p1)) (by decide) _).set_ (k7) (by decide) _
  obtain ⟨W40, hW⟩ : ∃ W, W = (((w19.setCell ⟨g18_4, 0, none⟩ (p0)).setCell ⟨g18_4, 1, none⟩ (p1)).setCell ⟨g18_5, 0, none⟩ (q0)).setCell ⟨g18_5, 1, none⟩ (q1) := ⟨_, rfl⟩
  rw [← hW]
  rw [← hW] at hkp
  have hB : Below w.heap.size w W40 := by rw [hW]; exact bel2 (bel2 (ku.out) (by first | simp | omega)) (by first | simp | omega)
  have kx := Lib.hid hB; clear hB
  have ky := Lib.hid (ks.out.kp hkp)
  have kz := Lib.hid (kt.out.kp hkp)
  have kA := Lib.hid (kv.out.kp hkp)
  have kB := Lib.hid (kw.out.kp hkp)
  have kC : Bx W40 (w.heap.size) 26 [.bool gp, .slice Ap np cp, .bool ga, .slice Aa 0 ca] := by rw [hW]; exact ((((kn).far_ (g' := g18_4) (j := 0) (by omega) (p0)).far_ (g' := g18_4) (j := 1) (by omega) (p1)).far_ (g' := g18_5) (j := 0) (by omega) (q0)).far_ (g' := g18_5) (j := 1) (by omega) (q1)
  have kD : Bx W40 (w.heap.size + 1) 26 [.bool hp_, .slice Bp mp dp, .bool ha_, .slice Ba ma da] := by rw [hW]; exact ((((ko).far_ (g' := g18_4) (j := 0) (by omega) (p0)).far_ (g' := g18_4) (j := 1) (by omega) (p1)).far_ (g' := g18_5) (j := 0) (by omega) (q0)).far_ (g' := g18_5) (j := 1) (by omega) (q1)
  have kE : Bx W40 (w.heap.size + 1 + 1) 26 [.bool false, .slice none 0 0, .bool false, .slice none 0 0] := by rw [hW]; exact ((((kr).far_ (g' := g18_4) (j := 0) (by omega) (p0)).far_ (g' := g18_4) (j := 1) (by omega) (p1)).far_ (g' := g18_5) (j := 0) (by omega) (q0)).far_ (g' := g18_5) (j := 1) (by omega) (q1)
  have kF : Bx W40 (g18_4) 24 [p0, p1] := by rw [hW]; exact ((kb).far_ (g' := g18_5) (j := 0) (by omega) (q0)).far_ (g' := g18_5) (j := 1) (by omega) (q1)
  have kG : Bx W40 (g18_5) 24 [q0, q1] := by rw [hW]; exact kc
  clear hW hkp k6 kb k7 kc
  go_upto_region 8 with fail
  generalize hW : W40.drew = W51
  have hB : Below W40.heap.size W40 W51 := by rw [← hW]; exact (Below.refl _ _).drew
  have kH := kC.below hB
  have kI := kD.below hB
  have kJ := kE.below hB
  have kd := kF.below hB
  have ke := kG.below hB
  have kK := Lib.hid (ky.out.kp (.of hB))
  have kL := Lib.hid (kz.out.kp (.of hB))
  have kf := Lib.hid (kA.out.kp (.of hB))
  have kg := Lib.hid (kB.out.kp (.of hB))
  have kM := Lib.hid (Blw kx.out hB)
  clear hB
  generalize hF : ({ tmps := _, defers := _ } : Act) = F
  have ev2 : F.eval (.tmp 2) = .pointer (some ⟨w.heap.size, 0, none⟩) := by rw [← hF]; rfl
  have ev3 : F.eval (.tmp 3) = .pointer (some ⟨w.heap.size + 1, 0, none⟩) := by rw [← hF]; rfl
  have ev5 : F.eval (.tmp 5) = .pointer (some ⟨g18_4, 0, none⟩) := by rw [← hF]; rfl
  have ev6 : F.eval (.tmp 6) = .pointer (some ⟨g18_5, 0, none⟩) := by rw [← hF]; rfl
  have HF := Lib.hid hF; clear hF
  refine wp_flow_tab true hW 13 [(44, []), (45, [0]), (46, []), (47, [1, 2]), (48, []), (49, [4]), (50, []), (51, [5, 6]), (52, [3, 7]), (53, []), (54, []), (55, [9, 10]), (56, [8, 11])] [SC (.pointer (some ⟨w.heap.size, 0, none⟩)), SC (.agg #[.bool gp, .slice Ap np cp]), SC (.agg #[q0, q1]), SI (r.num * t.den), SC (.pointer (some ⟨w.heap.size + 1, 0, none⟩)), SC (.agg #[.bool hp_, .slice Bp mp dp]), SC (.agg #[p0, p1]), SI (t.num * r.den), SI (r.num * t.den + t.num * r.den), SC (.agg #[p0, p1]), SC (.agg #[q0, q1]), SI (r.den * t.den), SR (Rat.divInt (r.num * t.den + t.num * r.den) (r.den * t.den))] [false, false, false, false, false, false, false, false, false, false, false, false, false] (by kernel_rfl) (by kernel_rfl) (by kernel_rfl) (by kernel_rfl) (by kernel_rfl) (by rw [← HF.out]; simp) ⟨SC.mono _, SC.mono _, SC.mono _, SI.mono _, SC.mono _, SC.mono _, SC.mono _, SI.mono _, SI.mono _, SC.mono _, SC.mono _, SI.mono _, SR.mono _, trivial⟩ ?_ ?_
  ·intro kq hkq a wx hB hp hs
   have hcase : kq = 0 ∨ kq = 1 ∨ kq = 2 ∨ kq = 3 ∨ kq = 4 ∨ kq = 5 ∨ kq = 6 ∨ kq = 7 ∨ kq = 8 ∨ kq = 9 ∨ kq = 10 ∨ kq = 11 ∨ kq = 12 := by omega
   rcases hcase with rfl | rfl | rfl | rfl | rfl | rfl | rfl | rfl | rfl | rfl | rfl | rfl | rfl
   ·exact ⟨_, rfl, fa_Rat0 rfl ((hs 2 rfl).trans ev2)⟩
   ·obtain ⟨k0, -⟩ := hp
    exact ⟨_, rfl, ld_Int rfl k0 (kH.below hB) rfl rfl⟩
   ·exact ⟨_, rfl, ld_Int rfl ((hs 6 rfl).trans ev6) (ke.below hB) rfl rfl⟩
   ·obtain ⟨k0, k1, -⟩ := hp
    exact ⟨_, rfl, Does.ri (f := 73) (call2 rfl (fun _ => by simp [go_sem]) k0 k1) (imul_any j k (.bool gp) (.slice Ap np cp) (q0) (q1) r.num t.den wx ((kK.out.kp (.of hB))).1 (kg.out.kp (.of hB)) HBR.out.1 HBT.out.2 (by omega))⟩
   ·exact ⟨_, rfl, fa_Rat0 rfl ((hs 3 rfl).trans ev3)⟩
   ·obtain ⟨k0, -⟩ := hp
    exact ⟨_, rfl, ld_Int rfl k0 (kI.below hB) rfl rfl⟩
   ·exact ⟨_, rfl, ld_Int rfl ((hs 5 rfl).trans ev5) (kd.below hB) rfl rfl⟩
   ·obtain ⟨k0, k1, -⟩ := hp
    exact ⟨_, rfl, Does.ri (f := 73) (call2 rfl (fun _ => by simp [go_sem]) k0 k1) (imul_any k j (.bool hp_) (.slice Bp mp dp) (p0) (p1) t.num r.den wx ((kL.out.kp (.of hB))).1 (kf.out.kp (.of hB)) HBT.out.1 HBR.out.2 (by omega))⟩
   ·obtain ⟨k0, k1, -⟩ := hp
    obtain ⟨u0, u1, e0, h_u⟩ := k0
    replace e0 : a.eval (.tmp 47) = .agg #[u0, u1] := e0
    obtain ⟨v0, v1, e1, h_v⟩ := k1
    replace e1 : a.eval (.tmp 51) = .agg #[v0, v1] := e1
    exact ⟨_, rfl, Does.ri (f := 89) (call2 rfl (fun _ => by simp [go_sem]) e0 e1) (iadd_any (j + k) u0 u1 v0 v1 (r.num * t.den) (t.num * r.den) wx h_u h_v (HBR.out.1.mul HBT.out.2) (by rw [Nat.add_comm]; exact HBT.out.1.mul HBR.out.2) (by omega))⟩
   ·exact ⟨_, rfl, ld_Int rfl ((hs 5 rfl).trans ev5) (kd.below hB) rfl rfl⟩
   ·exact ⟨_, rfl, ld_Int rfl ((hs 6 rfl).trans ev6) (ke.below hB) rfl rfl⟩
   ·obtain ⟨k0, k1, -⟩ := hp
    exact ⟨_, rfl, Does.ri (f := 73) (call2 rfl (fun _ => by simp [go_sem]) k0 k1) (imul_any j k (p0) (p1) (q0) (q1) r.den t.den wx (kf.out.kp (.of hB)) (kg.out.kp (.of hB)) HBR.out.2 HBT.out.2 (by omega))⟩
   ·obtain ⟨k0, k1, -⟩ := hp
    obtain ⟨s0, s1, e0, h_s⟩ := k0
    replace e0 : a.eval (.tmp 52) = .agg #[s0, s1] := e0
    obtain ⟨d0, d1, e1, h_d⟩ := k1
    replace e1 : a.eval (.tmp 55) = .agg #[d0, d1] := e1
    exact ⟨_, rfl, Does.rr (f := 68) (call2 rfl (fun _ => by simp [go_sem]) e0 e1) (make_any (j + k + 1) s0 s1 d0 d1 (r.num * t.den + t.num * r.den) (r.den * t.den) wx h_s h_d ((HBR.out.1.mul HBT.out.2).add' (by rw [Nat.add_comm]; exact HBT.out.1.mul HBR.out.2)) ((HBR.out.2.mul HBT.out.2).mono (by omega)) hk)⟩
  ·intro val wx hB hsp hdis
   obtain ⟨z0, z1, z2, z3, e12, h_z⟩ := hsp 12 (by omega)
   replace e12 : val 12 = .agg #[z0, z1, z2, z3] := e12
   rw [← HF.out]
   change wpList _ _ _ [_] _ _
   simp only [puts, vals, List.map_cons, List.map_nil, List.foldl_cons, List.foldl_nil, if_true, Nat.zero_add, Nat.reduceAdd, e12, List.setIfInBounds_toArray, List.set_cons_succ, List.set_cons_zero]
   clear hsp hdis HF e12
   clear ev2 ev3 ev5 ev6
   obtain ⟨w63, rfl⟩ : ∃ W : World, W = wx := ⟨_, rfl⟩
   have kh := kJ.below hB
   have kN := Lib.hid (Blw kM.out hB)
   have kO := Lib.hid h_z
   obtain ⟨o_z0, o_z1, o_z2, o_z3⟩ := h_z.ones
   clear h_z
   clear hB
   obtain ⟨kP, kQ, kR, kS, k04, l80⟩ := kh.f4
   go_wp2
   have hkp := (Kp.refl w63).t4 (kh) z0 z1 z2 z3
   refine bodyPost_ret (v := .agg #[z0, z1, z2, z3]) (by simp [results, Try.results64, go_sem, kP, kQ, kR, kS]) rfl ⟨_, _, _, _, rfl, ?_, bel4 (kN.out) (by first | simp | omega)⟩
   exact kO.out.kp hkp
theorem ne0 {n : Nat} (h : n ≠ 0) : ((n : Int) == 0) = false := beq_eq_false_iff_ne.2 (by omega)
theorem radd_any (j k : Nat) (a0 a1 a2 a3 b0 b1 b2 b3 : Value) (r t : Rat) (w : World) (hr : RatV w a0 a1 a2 a3 r) (ht : RatV w b0 b1 b2 b3 t) (br : Bq j r) (bt : Bq k t) (hk : j + k + 1 ≤ 1000000000000) :
  Calls Try.prog 64 #[.agg #[a0, a1, a2, a3], .agg #[b0, b1, b2, b3]] w (RR (r + t) w) := by
 obtain ⟨gp, Ap, np, cp, rfl, rfl⟩ := hr.1.form
 obtain ⟨ga, Aa, na, ca, rfl, rfl⟩ := hr.2.form
 obtain ⟨hp, Bp, mp, dp, rfl, rfl⟩ := ht.1.form
 obtain ⟨ha, Ba, ma, da, rfl, rfl⟩ := ht.2.form
 have l1 := hr.1.len.2
 have l2 : na = 0 ↔ r.den = 1 := hr.2.len.2.trans dq_zero
 have l3 := ht.1.len.2
 have l4 : ma = 0 ↔ t.den = 1 := ht.2.len.2.trans dq_zero
 have z1 : np = 0 → na = 0 := fun h => l2.2 (by rw [num_zero.1 (l1.1 h)]; rfl)
 have z2 : mp = 0 → ma = 0 := fun h => l4.2 (by rw [num_zero.1 (l3.1 h)]; rfl)
 by_cases c1 : na = 0
 ·by_cases c2 : ma = 0
  ·have d1 := l2.1 c1
   have d2 := l4.1 c2
   subst c1; subst c2
   exact add_ii (j + k) _ _ _ _ ga ha Aa Ba ca da r t w hr.1 ht.1 d1 d2 (br.1.mono (by omega)) (bt.1.mono (by omega)) (by omega)
  ·by_cases c3 : np = 0
   ·have d1 := num_zero.1 (l1.1 c3)
    subst c1; subst c3
    rw [d1, Rat.zero_add]
    exact add_za _ _ gp ga ha Ap Aa Ba cp ca da ma t w ht (ne0 c2)
   ·have c4 : mp ≠ 0 := fun h => c2 (z2 h)
    subst c1
    have h := add_f1 j k gp ga hp ha Ap Aa Bp Ba np cp ca mp dp ma da r t w hr ht br bt hk (ne0 c3) (ne0 c4) (ne0 c2)
    rwa [q_add] at h
 ·have c3 : np ≠ 0 := fun h => c1 (z1 h)
  by_cases c4 : mp = 0
  ·have d1 := num_zero.1 (l3.1 c4)
   have c2 := z2 c4
   subst c2; subst c4
   rw [d1, Rat.add_zero]
   exact add_bz gp hp ha ga Bp Ba Aa Ap dp da ca na np cp r w hr (ne0 c1) (ne0 c3)
  ·have h := add_f0 j k gp ga hp ha Ap Aa Bp Ba np cp na ca mp dp ma da r t w hr ht br bt hk (ne0 c3) (ne0 c4) (ne0 c1)
   rwa [q_add] at h
end Go.Proofs.Ytonkbckgbfcnkaa
