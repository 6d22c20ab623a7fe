/-
 THE LAW PlanePlaces: for every input it returns true, and each argument reads afterwards as it read before. Its walk: LawPlacesI; here the row's step.
-/
import Derived.Test.YtonkbckgbfcnkaaGreatMemI
import Derived.OpenShut
import Derived.Test.YtonkbckgbfcnkaaGreatWalkLives
import Derived.Test.YtonkbckgbfcnkaaGreatNew
import Derived.Test.YtonkbckgbfcnkaaGreatRef5F
import Derived.WalkKit
import Derived.ProofKit
import Derived.ShutString
import Derived.ChangeOld
import Derived.Below
import Derived.SizedLaws
namespace Go.Proofs.YtonkbckgbfcnkaaGreat
open Go.RowKit
/-- What is told of a slice of ints that came in. -/
def IsI (w : World) (a : Option Addr) (len cap : Nat) (l : List Int) : Prop := Rd w w.heap.size a (il l) ∧ len = l.length ∧ len ≤ cap ∧ cap ≤ maxLen ∧ ∀ x ∈ l, W.Is64 x
theorem isI_of {w : World} {x : Addr} {len cap : Nat} {zs : List Int} (hl : len ≤ cap) (hm : cap ≤ maxLen) (hz : zs.length = cap) (hcell : ∀ i, i < zs.length → w.cell? (x.add i) = some (.int .i64 (zs.getD i 0))) (hwf : ∀ n ∈ zs, (Lit.int .i64 n).wf = true) :
  ∃ l, IsI w (some x) len cap l := by
 refine ⟨zs.take len, ?_, by simp; omega, hl, hm, ?_⟩
 ·intro hn
  simp at hn
  obtain ⟨b, o, rfl, hc⟩ := ints_at hcell (by omega)
  refine ⟨b, o, rfl, ?_, fun j u hu => ?_⟩
  ·exact World.block_lt_of_cell? w ⟨b, o + 0, none⟩ (hc 0 (by omega))
  ·have hj : j < (il (zs.take len)).length := (List.getElem?_eq_some_iff.1 hu).1
   simp at hj
   rw [hc j (by omega), ← hu]
   have hjz : j < zs.length := by omega
   simp only [il]
   rw [List.getElem?_map, List.getElem?_take, if_pos (by omega), List.getElem?_eq_getElem hjz]
   simp only [Option.map_some, List.getD, List.getElem?_eq_getElem hjz, Option.getD_some]
 ·intro n hn
  have hwj := hwf n (List.mem_of_mem_take hn)
  have := bounds_i64 hwj
  unfold W.Is64
  omega
theorem isI_nil (w : World) : IsI w none 0 0 [] := ⟨Rd.nil _ _ _, rfl, Nat.le_refl _, by decide, by simp⟩
theorem is64_of {n : Int} (h : (Lit.int .i64 n).wf = true) : W.Is64 n := by
 have := bounds_i64 h
 unfold W.Is64
 omega
end Go.Proofs.YtonkbckgbfcnkaaGreat
namespace Go.Proofs.YtonkbckgbfcnkaaGreat
set_option maxHeartbeats 16000000
open Go.RowKit
attribute [local go_sem] run_store_one
set_option linter.unusedVariables false
theorem put_cmp {p q : Pl} {a : Rat × Rat} : vput (vcmp p q) a = vput p (vput q a) := by
 simp only [vput, vcmp, vadd, vrot]; apply Prod.ext <;> (simp only; grind)
theorem cmp_ass {p q r : Pl} : vcmp (vcmp p q) r = vcmp p (vcmp q r) := by
 simp only [vput, vcmp, vadd, vrot]; refine Prod.ext (Prod.ext ?_ ?_) (Prod.ext ?_ ?_) <;> (simp only; grind)
theorem m_one : (Rat.divInt (-1) 1 : Rat) = -1 := by decide +kernel
theorem inv_put {p : Pl} {a : Rat × Rat} (h : Unit1 p.1) : vput (vinv p) (vput p a) = a := by
 unfold Unit1 at h; simp only [vput, vinv, vadd, vrot, vbak, vsca, m_one]; apply Prod.ext <;> (simp only; grind)
theorem put_inv {p : Pl} {a : Rat × Rat} (h : Unit1 p.1) : vput p (vput (vinv p) a) = a := by
 unfold Unit1 at h; simp only [vput, vinv, vadd, vrot, vbak, vsca, m_one]; apply Prod.ext <;> (simp only; grind)
theorem side_put {p : Pl} {a b c : Rat × Rat} (h : Unit1 p.1) : vside (vput p a) (vput p b) (vput p c) = vside a b c := by
 unfold vside
 have e : vcrs (vsub (vput p b) (vput p a)) (vsub (vput p c) (vput p a)) = vcrs (vsub b a) (vsub c a) := by
  unfold Unit1 at h; simp only [vput, vadd, vrot, vsub, vcrs]; grind
 rw [e]
theorem u_rot {t u : Rat × Rat} (h : Unit1 t) (g : Unit1 u) : Unit1 (vrot t u) := by
 unfold Unit1 at *; simp only [vrot]; grind
theorem u_bak {t : Rat × Rat} (h : Unit1 t) : Unit1 (vbak t) := by
 unfold Unit1 at *; simp only [vbak]; grind
theorem u_cmp {p q : Pl} (h : Unit1 p.1) (g : Unit1 q.1) : Unit1 (vcmp p q).1 := u_rot h g
theorem u_inv {p : Pl} (h : Unit1 p.1) : Unit1 (vinv p).1 := u_bak h
theorem tru {a b : Rat × Rat} (h : a = b) : true = decide (a = b) := (decide_eq_true h).symm
theorem truu {t : Rat × Rat} (h : Unit1 t) : true = decide (t.1 * t.1 + t.2 * t.2 = 1) := (decide_eq_true (p := t.1 * t.1 + t.2 * t.2 = 1) h).symm
set_option maxRecDepth 100000 in
theorem places_walk (sl : Value) (l : List Int) (w : World) (hs : Sr w sl l) (hl : ∀ x ∈ l, W.Is64 x) :
  Calls Tryz.prog 3 #[sl] w fun e w' => e = .returned (.bool true) ∧ Below w.heap.size w w' := by
 have HS := Lib.hid hs; have HL := Lib.hid hl
 clear hs hl
 go_enter Tryz.func3, Tryz.ntmps3
 go_wp2_with fail
 have HBREFL := Lib.hid (Below.refl w.heap.size w)
 have kO := place_any sl l 0 w (HS.out.below HBREFL.out) HL.out (by omega) (by omega)
 (with_reducible refine kO.mono ?_)
 clear kO
 rintro e w1 ⟨p, hb7p, hup, pc0, pc1, pc2, pc3, pc4, pc5, pc6, pc7, pc8, pc9, pc10, pc11, pc12, pc13, pc14, pc15, rfl, kr, ks⟩
 have HBp := Lib.hid hb7p; clear hb7p
 have HUp := Lib.hid hup; clear hup
 have HS3 := Lib.hid ks
 have HB4 := Lib.hid (Blw HBREFL.out ks)
 have F5 := Lib.hid kr
 obtain ⟨o_pc0, o_pc1, o_pc2, o_pc3, o_pc4, o_pc5, o_pc6, o_pc7, o_pc8, o_pc9, o_pc10, o_pc11, o_pc12, o_pc13, o_pc14, o_pc15⟩ := kr.ones
 clear kr ks
 dsimp only
 go_step
 refine new_Place rfl rfl rfl rfl rfl rfl rfl (by simp) rfl o_pc0 o_pc1 o_pc2 o_pc3 o_pc4 o_pc5 o_pc6 o_pc7 o_pc8 o_pc9 o_pc10 o_pc11 o_pc12 o_pc13 o_pc14 o_pc15 (fun W6 hx7 hB => ?_)
 simp only [Act.put, List.setIfInBounds_toArray, List.set_cons_succ, List.set_cons_zero]
 have HS8 := Lib.hid hB
 have kP := Lib.hid (Blw HB4.out hB)
 clear hB
 go_wp2_with fail
 have kQ := place_any sl l 3 W6 (HS.out.below kP.out) HL.out (by omega) (by omega)
 (with_reducible refine kQ.mono ?_)
 clear kQ
 rintro e w10 ⟨q, hb7q, huq, qc0, qc1, qc2, qc3, qc4, qc5, qc6, qc7, qc8, qc9, qc10, qc11, qc12, qc13, qc14, qc15, rfl, kt, ku⟩
 have HBq := Lib.hid hb7q; clear hb7q
 have HUq := Lib.hid huq; clear huq
 have HS12 := Lib.hid ku
 have k0u := Lib.hid (Blw kP.out ku)
 have F14 := Lib.hid kt
 obtain ⟨o_qc0, o_qc1, o_qc2, o_qc3, o_qc4, o_qc5, o_qc6, o_qc7, o_qc8, o_qc9, o_qc10, o_qc11, o_qc12, o_qc13, o_qc14, o_qc15⟩ := kt.ones
 clear kt ku
 dsimp only
 go_step
 refine new_Place rfl rfl rfl rfl rfl rfl rfl (by simp) rfl o_qc0 o_qc1 o_qc2 o_qc3 o_qc4 o_qc5 o_qc6 o_qc7 o_qc8 o_qc9 o_qc10 o_qc11 o_qc12 o_qc13 o_qc14 o_qc15 (fun W15 hx16 hB => ?_)
 simp only [Act.put, List.setIfInBounds_toArray, List.set_cons_succ, List.set_cons_zero]
 have HS17 := Lib.hid hB
 have kR := Lib.hid (Blw k0u.out hB)
 clear hB
 go_wp2_with fail
 have kS := place_any sl l 6 W15 (HS.out.below kR.out) HL.out (by omega) (by omega)
 (with_reducible refine kS.mono ?_)
 clear kS
 rintro e w19 ⟨r, hb7r, hur, rc0, rc1, rc2, rc3, rc4, rc5, rc6, rc7, rc8, rc9, rc10, rc11, rc12, rc13, rc14, rc15, rfl, kv, kw⟩
 have HBr := Lib.hid hb7r; clear hb7r
 have HUr := Lib.hid hur; clear hur
 have HS21 := Lib.hid kw
 have k0w := Lib.hid (Blw kR.out kw)
 have F23 := Lib.hid kv
 obtain ⟨o_rc0, o_rc1, o_rc2, o_rc3, o_rc4, o_rc5, o_rc6, o_rc7, o_rc8, o_rc9, o_rc10, o_rc11, o_rc12, o_rc13, o_rc14, o_rc15⟩ := kv.ones
 clear kv kw
 dsimp only
 go_step
 refine new_Place rfl rfl rfl rfl rfl rfl rfl (by simp) rfl o_rc0 o_rc1 o_rc2 o_rc3 o_rc4 o_rc5 o_rc6 o_rc7 o_rc8 o_rc9 o_rc10 o_rc11 o_rc12 o_rc13 o_rc14 o_rc15 (fun W24 hx25 hB => ?_)
 simp only [Act.put, List.setIfInBounds_toArray, List.set_cons_succ, List.set_cons_zero]
 have HS26 := Lib.hid hB
 have kT := Lib.hid (Blw k0w.out hB)
 clear hB
 go_wp2_with fail
 have kU := vec_any sl l 9 W24 (HS.out.below kT.out) HL.out (by omega) (by omega)
 (with_reducible refine kU.mono ?_)
 clear kU
 rintro e w28 ⟨aa, hb7aa, aac0, aac1, aac2, aac3, aac4, aac5, aac6, aac7, rfl, kx, ky⟩
 have HBaa := Lib.hid hb7aa; clear hb7aa
 have HS30 := Lib.hid ky
 have k0y := Lib.hid (Blw kT.out ky)
 have F32 := Lib.hid kx
 obtain ⟨o_aac0, o_aac1, o_aac2, o_aac3, o_aac4, o_aac5, o_aac6, o_aac7⟩ := kx.ones
 clear kx ky
 dsimp only
 go_step
 refine new_Vec rfl rfl rfl rfl rfl rfl rfl (by simp) rfl o_aac0 o_aac1 o_aac2 o_aac3 o_aac4 o_aac5 o_aac6 o_aac7 (fun W33 hx34 hB => ?_)
 simp only [Act.put, List.setIfInBounds_toArray, List.set_cons_succ, List.set_cons_zero]
 have HS35 := Lib.hid hB
 have kV := Lib.hid (Blw k0y.out hB)
 clear hB
 go_wp2_with fail
 have kW := vec_any sl l 11 W33 (HS.out.below kV.out) HL.out (by omega) (by omega)
 (with_reducible refine kW.mono ?_)
 clear kW
 rintro e w37 ⟨bb, hb7bb, bbc0, bbc1, bbc2, bbc3, bbc4, bbc5, bbc6, bbc7, rfl, kz, kA⟩
 have HBbb := Lib.hid hb7bb; clear hb7bb
 have HS39 := Lib.hid kA
 have k0A := Lib.hid (Blw kV.out kA)
 have F41 := Lib.hid kz
 obtain ⟨o_bbc0, o_bbc1, o_bbc2, o_bbc3, o_bbc4, o_bbc5, o_bbc6, o_bbc7⟩ := kz.ones
 clear kz kA
 dsimp only
 go_step
 refine new_Vec rfl rfl rfl rfl rfl rfl rfl (by simp) rfl o_bbc0 o_bbc1 o_bbc2 o_bbc3 o_bbc4 o_bbc5 o_bbc6 o_bbc7 (fun W42 hx43 hB => ?_)
 simp only [Act.put, List.setIfInBounds_toArray, List.set_cons_succ, List.set_cons_zero]
 have HS44 := Lib.hid hB
 have kX := Lib.hid (Blw k0A.out hB)
 clear hB
 go_wp2_with fail
 have kY := vec_any sl l 13 W42 (HS.out.below kX.out) HL.out (by omega) (by omega)
 (with_reducible refine kY.mono ?_)
 clear kY
 rintro e w46 ⟨cc, hb7cc, ccc0, ccc1, ccc2, ccc3, ccc4, ccc5, ccc6, ccc7, rfl, kB, kC⟩
 have HBcc := Lib.hid hb7cc; clear hb7cc
 have HS48 := Lib.hid kC
 have k0C := Lib.hid (Blw kX.out kC)
 have F50 := Lib.hid kB
 obtain ⟨o_ccc0, o_ccc1, o_ccc2, o_ccc3, o_ccc4, o_ccc5, o_ccc6, o_ccc7⟩ := kB.ones
 clear kB kC
 dsimp only
 go_step
 refine new_Vec rfl rfl rfl rfl rfl rfl rfl (by simp) rfl o_ccc0 o_ccc1 o_ccc2 o_ccc3 o_ccc4 o_ccc5 o_ccc6 o_ccc7 (fun W51 hx52 hB => ?_)
 simp only [Act.put, List.setIfInBounds_toArray, List.set_cons_succ, List.set_cons_zero]
 have HS53 := Lib.hid hB
 have kZ := Lib.hid (Blw k0C.out hB)
 clear hB
 go_upto_region 7 with fail
 have kD := ((((((((((hx7.below HS12.out).below HS17.out).below HS21.out).below HS26.out).below HS30.out).below HS35.out).below HS39.out).below HS44.out).below HS48.out).below HS53.out)
 have kE := ((((((((hx16.below HS21.out).below HS26.out).below HS30.out).below HS35.out).below HS39.out).below HS44.out).below HS48.out).below HS53.out)
 have k00 := ((((((hx25.below HS30.out).below HS35.out).below HS39.out).below HS44.out).below HS48.out).below HS53.out)
 have k01 := ((((hx34.below HS39.out).below HS44.out).below HS48.out).below HS53.out)
 have k02 := ((hx43.below HS48.out).below HS53.out)
 have l65 := kD.lt
 have l66 := kE.lt
 have l67 := k00.lt
 have l68 := k01.lt
 have l69 := k02.lt
 have l70 := hx52.lt
 have F71 := Lib.hid (((((((((((F5.out.kp (.of HS8.out)).kp (.of HS12.out)).kp (.of HS17.out)).kp (.of HS21.out)).kp (.of HS26.out)).kp (.of HS30.out)).kp (.of HS35.out)).kp (.of HS39.out)).kp (.of HS44.out)).kp (.of HS48.out)).kp (.of HS53.out))
 have F72 := Lib.hid (((((((((F14.out.kp (.of HS17.out)).kp (.of HS21.out)).kp (.of HS26.out)).kp (.of HS30.out)).kp (.of HS35.out)).kp (.of HS39.out)).kp (.of HS44.out)).kp (.of HS48.out)).kp (.of HS53.out))
 generalize hF : ({ tmps := _, defers := _ } : Act) = F
 have ev3 : F.eval (.tmp 3) = .pointer (some ⟨w1.heap.size, 0, none⟩) := by rw [← hF]; rfl
 have ev4 : F.eval (.tmp 4) = .pointer (some ⟨w10.heap.size, 0, none⟩) := by rw [← hF]; rfl
 have HF := Lib.hid hF; clear hF
 refine wp_flow_tab false rfl 4 [(23, []), (24, []), (25, [0, 1]), (9, [])] [SC (.agg #[pc0, pc1, pc2, pc3, pc4, pc5, pc6, pc7, pc8, pc9, pc10, pc11, pc12, pc13, pc14, pc15]), SC (.agg #[qc0, qc1, qc2, qc3, qc4, qc5, qc6, qc7, qc8, qc9, qc10, qc11, qc12, qc13, qc14, qc15]), SPl (vcmp p q), SB W51 32 [.bool false, .slice none 0 0, .bool false, .slice none 0 0, .bool false, .slice none 0 0, .bool false, .slice none 0 0, .bool false, .slice none 0 0, .bool false, .slice none 0 0, .bool false, .slice none 0 0, .bool false, .slice none 0 0]] [false, false, false, true] (by kernel_rfl) (by kernel_rfl) (by kernel_rfl) (by kernel_rfl) (by kernel_rfl) (by rw [← HF.out]; simp) ⟨SC.mono _, SC.mono _, SPl.mono _, SB.mono _ _ _, trivial⟩ ?_ ?_
 ·intro kq hkq a wx hB hp hs
  have hcase : kq = 0 ∨ kq = 1 ∨ kq = 2 ∨ kq = 3 := by omega
  rcases hcase with rfl | rfl | rfl | rfl
  ·exact ⟨_, rfl, ld_Place rfl ((hs 3 rfl).trans ev3) (kD.below hB) rfl rfl rfl rfl rfl rfl rfl rfl rfl rfl rfl rfl rfl rfl rfl rfl⟩
  ·exact ⟨_, rfl, ld_Place rfl ((hs 4 rfl).trans ev4) (kE.below hB) rfl rfl rfl rfl rfl rfl rfl rfl rfl rfl rfl rfl rfl rfl rfl rfl⟩
  ·obtain ⟨k0, k1, -⟩ := hp
   exact ⟨_, rfl, Does.rp (f := 7) (call2 rfl (fun _ => by simp [go_sem]) k0 k1) (vcmp_any 7 7 pc0 pc1 pc2 pc3 pc4 pc5 pc6 pc7 pc8 pc9 pc10 pc11 pc12 pc13 pc14 pc15 qc0 qc1 qc2 qc3 qc4 qc5 qc6 qc7 qc8 qc9 qc10 qc11 qc12 qc13 qc14 qc15 (p) (q) wx (F71.out.kp (.of hB)) (F72.out.kp (.of hB)) HBp.out HBq.out (by omega))⟩
  ·clear hp
   exact ⟨_, rfl, Does.box (by simp [execOp, go_sem]) hB⟩
 ·intro val wx hB hsp hdis
  obtain ⟨x0, x1, x2, x3, x4, x5, x6, x7, x8, x9, x10, x11, x12, x13, x14, x15, e2, h_x⟩ := hsp 2 (by omega)
  replace e2 : val 2 = .agg #[x0, x1, x2, x3, x4, x5, x6, x7, x8, x9, x10, x11, x12, x13, x14, x15] := e2
  obtain ⟨g73_3, e3, hg73_3, hbx73_3⟩ := hsp 3 (by omega)
  have hgw73_3 : w.heap.size ≤ g73_3 := Nat.le_trans kZ.out.size hg73_3
  have hgl73_3 := hbx73_3.lt
  rw [← HF.out]
  change wpList _ _ _ [_] _ _
  simp only [puts, vals, List.map_cons, List.map_nil, List.foldl_cons, List.foldl_nil, if_true, Nat.zero_add, Nat.reduceAdd, e2, e3, List.setIfInBounds_toArray, List.set_cons_succ, List.set_cons_zero]
  clear hsp hdis HF e2 e3
  clear ev3 ev4
  obtain ⟨o_x0, o_x1, o_x2, o_x3, o_x4, o_x5, o_x6, o_x7, o_x8, o_x9, o_x10, o_x11, o_x12, o_x13, o_x14, o_x15⟩ := h_x.ones
  refine wst_Place rfl rfl rfl rfl rfl hbx73_3 o_x0 o_x1 o_x2 o_x3 o_x4 o_x5 o_x6 o_x7 o_x8 o_x9 o_x10 o_x11 o_x12 o_x13 o_x14 o_x15 (fun w74 hx75 hst => ?_)
  have hB2 := hst.2.1 _ _ hg73_3 hB
  have HS76 := Lib.hid hB2
  have k05 := Lib.hid (Blw kZ.out hB2)
  have F78 := Lib.hid (h_x.kp hst.1)
  clear h_x hB hB2 hst hbx73_3 hgl73_3
  go_upto_region 8 with fail
  have kF := (kD.below HS76.out)
  have k06 := (kE.below HS76.out)
  have k07 := (k00.below HS76.out)
  have k08 := (k01.below HS76.out)
  have k09 := (k02.below HS76.out)
  have k0a := (hx52.below HS76.out)
  have l91 := kF.lt
  have l92 := k06.lt
  have l93 := k07.lt
  have l94 := k08.lt
  have l95 := k09.lt
  have l96 := k0a.lt
  have l97 := hx75.lt
  have F98 := Lib.hid (F71.out.kp (.of HS76.out))
  generalize hF : ({ tmps := _, defers := _ } : Act) = F
  have ev3 : F.eval (.tmp 3) = .pointer (some ⟨w1.heap.size, 0, none⟩) := by rw [← hF]; rfl
  have HF := Lib.hid hF; clear hF
  refine wp_flow_tab false rfl 3 [(26, []), (27, [0]), (10, [])] [SC (.agg #[pc0, pc1, pc2, pc3, pc4, pc5, pc6, pc7, pc8, pc9, pc10, pc11, pc12, pc13, pc14, pc15]), SPl (vinv p), SB w74 32 [.bool false, .slice none 0 0, .bool false, .slice none 0 0, .bool false, .slice none 0 0, .bool false, .slice none 0 0, .bool false, .slice none 0 0, .bool false, .slice none 0 0, .bool false, .slice none 0 0, .bool false, .slice none 0 0]] [false, false, true] (by kernel_rfl) (by kernel_rfl) (by kernel_rfl) (by kernel_rfl) (by kernel_rfl) (by rw [← HF.out]; simp) ⟨SC.mono _, SPl.mono _, SB.mono _ _ _, trivial⟩ ?_ ?_
  ·intro kq hkq a wx hB hp hs
   have hcase : kq = 0 ∨ kq = 1 ∨ kq = 2 := by omega
   rcases hcase with rfl | rfl | rfl
   ·exact ⟨_, rfl, ld_Place rfl ((hs 3 rfl).trans ev3) (kF.below hB) rfl rfl rfl rfl rfl rfl rfl rfl rfl rfl rfl rfl rfl rfl rfl rfl⟩
   ·obtain ⟨k0, -⟩ := hp
    exact ⟨_, rfl, Does.rp (f := 8) (call1 rfl (fun _ => by simp [go_sem]) k0) (vinv_any 7 pc0 pc1 pc2 pc3 pc4 pc5 pc6 pc7 pc8 pc9 pc10 pc11 pc12 pc13 pc14 pc15 p wx (F98.out.kp (.of hB)) HBp.out (by omega))⟩
   ·clear hp
    exact ⟨_, rfl, Does.box (by simp [execOp, go_sem]) hB⟩
  ·intro val wx hB hsp hdis
   obtain ⟨y0, y1, y2, y3, y4, y5, y6, y7, y8, y9, kd, ke, kf, kg, kh, ki, e1, h_y⟩ := hsp 1 (by omega)
   replace e1 : val 1 = .agg #[y0, y1, y2, y3, y4, y5, y6, y7, y8, y9, kd, ke, kf, kg, kh, ki] := e1
   obtain ⟨g99_2, e2, hg99_2, hbx99_2⟩ := hsp 2 (by omega)
   have hgw99_2 : w.heap.size ≤ g99_2 := Nat.le_trans k05.out.size hg99_2
   have hgl99_2 := hbx99_2.lt
   rw [← HF.out]
   change wpList _ _ _ [_] _ _
   simp only [puts, vals, List.map_cons, List.map_nil, List.foldl_cons, List.foldl_nil, if_true, Nat.zero_add, Nat.reduceAdd, e1, e2, List.setIfInBounds_toArray, List.set_cons_succ, List.set_cons_zero]
   clear hsp hdis HF e1 e2
   clear ev3
   obtain ⟨o_y0, o_y1, o_y2, o_y3, o_y4, o_y5, o_y6, o_y7, o_y8, o_y9, o_y10, o_y11, o_y12, o_y13, o_y14, o_y15⟩ := h_y.ones
   refine wst_Place rfl rfl rfl rfl rfl hbx99_2 o_y0 o_y1 o_y2 o_y3 o_y4 o_y5 o_y6 o_y7 o_y8 o_y9 o_y10 o_y11 o_y12 o_y13 o_y14 o_y15 (fun w100 hx101 hst => ?_)
   have hB2 := hst.2.1 _ _ hg99_2 hB
   have HS102 := Lib.hid hB2
   have k0F := Lib.hid (Blw k05.out hB2)
   have k0G := Lib.hid (h_y.kp hst.1)
   clear h_y hB hB2 hst hbx99_2 hgl99_2
   go_upto_region 9 with fail
   generalize hW : w100.drew = W105
   have hB : Below w100.heap.size w100 W105 := by rw [← hW]; exact (Below.refl _ _).drew
   have HS106 := Lib.hid hB
   have k0H := Lib.hid (Blw k0F.out hB)
   clear hB
   have kl := ((kF.below HS102.out).below HS106.out)
   have kG := ((k08.below HS102.out).below HS106.out)
   have km := Lib.hid ((F98.out.kp (.of HS102.out)).kp (.of HS106.out))
   have kH := Lib.hid ((((((((F32.out.kp (.of HS35.out)).kp (.of HS39.out)).kp (.of HS44.out)).kp (.of HS48.out)).kp (.of HS53.out)).kp (.of HS76.out)).kp (.of HS102.out)).kp (.of HS106.out))
   have k0c := ((hx75.below HS102.out).below HS106.out)
   have k0d := ((k06.below HS102.out).below HS106.out)
   have k0e := Lib.hid (((F72.out.kp (.of HS76.out)).kp (.of HS102.out)).kp (.of HS106.out))
   have k0f := Lib.hid ((F78.out.kp (.of HS102.out)).kp (.of HS106.out))
   have k0g := (hx101.below HS106.out)
   have k0h := Lib.hid (k0G.out.kp (.of HS106.out))
   generalize hF : ({ tmps := _, defers := _ } : Act) = F
   have ev3 : F.eval (.tmp 3) = .pointer (some ⟨w1.heap.size, 0, none⟩) := by rw [← hF]; rfl
   have ev4 : F.eval (.tmp 4) = .pointer (some ⟨w10.heap.size, 0, none⟩) := by rw [← hF]; rfl
   have ev6 : F.eval (.tmp 6) = .pointer (some ⟨w28.heap.size, 0, none⟩) := by rw [← hF]; rfl
   have ev9 : F.eval (.tmp 9) = .pointer (some ⟨g73_3, 0, none⟩) := by rw [← hF]; rfl
   have ev10 : F.eval (.tmp 10) = .pointer (some ⟨g99_2, 0, none⟩) := by rw [← hF]; rfl
   have HF := Lib.hid hF; clear hF
   refine wp_flow_tabG true hW 23 [(28, []), (29, []), (30, [0, 1]), (31, []), (32, []), (33, [3, 4]), (34, [2, 5]), (35, [6]), (36, [7]), (37, [8]), (38, [8]), (39, [8]), (40, [10, 11, 8]), (41, [9, 12, 8]), (42, [13, 8]), (43, [8, 14]), (44, [15]), (45, [16]), (46, [16]), (47, [18, 16]), (48, [17, 19, 16]), (49, [20, 16]), (50, [16, 21])] [SC (.agg #[pc0, pc1, pc2, pc3, pc4, pc5, pc6, pc7, pc8, pc9, pc10, pc11, pc12, pc13, pc14, pc15]), SC (.agg #[aac0, aac1, aac2, aac3, aac4, aac5, aac6, aac7]), SV (vput p aa), SC (.agg #[pc0, pc1, pc2, pc3, pc4, pc5, pc6, pc7, pc8, pc9, pc10, pc11, pc12, pc13, pc14, pc15]), SC (.agg #[aac0, aac1, aac2, aac3, aac4, aac5, aac6, aac7]), SV (vput p aa), SC (.bool true), SC (.bool false), SC (.bool false), SC (.agg #[x0, x1, x2, x3, x4, x5, x6, x7, x8, x9, x10, x11, x12, x13, x14, x15]), SC (.agg #[pc0, pc1, pc2, pc3, pc4, pc5, pc6, pc7, pc8, pc9, pc10, pc11, pc12, pc13, pc14, pc15]), SC (.agg #[qc0, qc1, qc2, qc3, qc4, qc5, qc6, qc7, qc8, qc9, qc10, qc11, qc12, qc13, qc14, qc15]), SPl (vcmp p q), SC (.bool true), SC (.bool false), SC (.bool false), SC (.bool false), SC (.agg #[y0, y1, y2, y3, y4, y5, y6, y7, y8, y9, kd, ke, kf, kg, kh, ki]), SC (.agg #[pc0, pc1, pc2, pc3, pc4, pc5, pc6, pc7, pc8, pc9, pc10, pc11, pc12, pc13, pc14, pc15]), SPl (vinv p), SC (.bool true), SC (.bool false), SC (.bool false)] [false, false, false, false, false, false, false, false, false, false, false, false, false, false, false, false, false, false, false, false, false, false, false] (by kernel_rfl) (by kernel_rfl) (by kernel_rfl) (by kernel_rfl) (by kernel_rfl) (by rw [← HF.out]; simp) ⟨SC.mono _, SC.mono _, SV.mono _, SC.mono _, SC.mono _, SV.mono _, SC.mono _, SC.mono _, SC.mono _, SC.mono _, SC.mono _, SC.mono _, SPl.mono _, SC.mono _, SC.mono _, SC.mono _, SC.mono _, SC.mono _, SC.mono _, SPl.mono _, SC.mono _, SC.mono _, SC.mono _, trivial⟩ ?_ ?_
   ·intro kq hkq a wx hB hp hs
    have hcase : kq = 0 ∨ kq = 1 ∨ kq = 2 ∨ kq = 3 ∨ kq = 4 ∨ kq = 5 ∨ kq = 6 ∨ kq = 7 ∨ kq = 8 ∨ kq = 9 ∨ kq = 10 ∨ kq = 11 ∨ kq = 12 ∨ kq = 13 ∨ kq = 14 ∨ kq = 15 ∨ kq = 16 ∨ kq = 17 ∨ kq = 18 ∨ kq = 19 ∨ kq = 20 ∨ kq = 21 ∨ kq = 22 := by omega
    rcases hcase with rfl | rfl | rfl | rfl | rfl | rfl | rfl | rfl | rfl | rfl | rfl | rfl | rfl | rfl | rfl | rfl | rfl | rfl | rfl | rfl | rfl | rfl | rfl
    ·exact ⟨_, rfl, .inl ⟨wanted_none rfl, ld_Place rfl ((hs 3 rfl).trans ev3) (kl.below hB) rfl rfl rfl rfl rfl rfl rfl rfl rfl rfl rfl rfl rfl rfl rfl rfl⟩⟩
    ·exact ⟨_, rfl, .inl ⟨wanted_none rfl, ld_Vec rfl ((hs 6 rfl).trans ev6) (kG.below hB) rfl rfl rfl rfl rfl rfl rfl rfl⟩⟩
    ·obtain ⟨k0, k1, -⟩ := hp
     exact ⟨_, rfl, .inl ⟨wanted_none rfl, Does.rv (f := 10) (call2 rfl (fun _ => by simp [go_sem]) k0 k1) (vput_any 7 7 pc0 pc1 pc2 pc3 pc4 pc5 pc6 pc7 pc8 pc9 pc10 pc11 pc12 pc13 pc14 pc15 aac0 aac1 aac2 aac3 aac4 aac5 aac6 aac7 (p) (aa) wx (km.out.kp (.of hB)) (kH.out.kp (.of hB)) HBp.out HBaa.out (by omega))⟩⟩
    ·exact ⟨_, rfl, .inl ⟨wanted_none rfl, ld_Place rfl ((hs 3 rfl).trans ev3) (kl.below hB) rfl rfl rfl rfl rfl rfl rfl rfl rfl rfl rfl rfl rfl rfl rfl rfl⟩⟩
    ·exact ⟨_, rfl, .inl ⟨wanted_none rfl, ld_Vec rfl ((hs 6 rfl).trans ev6) (kG.below hB) rfl rfl rfl rfl rfl rfl rfl rfl⟩⟩
    ·obtain ⟨k0, k1, -⟩ := hp
     exact ⟨_, rfl, .inl ⟨wanted_none rfl, Does.rv (f := 11) (call2 rfl (fun _ => by simp [go_sem]) k0 k1) (vput5_any 7 7 pc0 pc1 pc2 pc3 pc4 pc5 pc6 pc7 pc8 pc9 pc10 pc11 pc12 pc13 pc14 pc15 aac0 aac1 aac2 aac3 aac4 aac5 aac6 aac7 (p) (aa) wx (km.out.kp (.of hB)) (kH.out.kp (.of hB)) HBp.out HBaa.out (by omega))⟩⟩
    ·obtain ⟨k0, k1, -⟩ := hp
     obtain ⟨d0, d1, d2, d3, d4, d5, d6, d7, e0, h_d⟩ := k0
     replace e0 : a.eval (.tmp 30) = .agg #[d0, d1, d2, d3, d4, d5, d6, d7] := e0
     obtain ⟨e_0, e_1, e_2, e_3, e_4, e_5, e_6, e_7, e1, h_e_⟩ := k1
     replace e1 : a.eval (.tmp 33) = .agg #[e_0, e_1, e_2, e_3, e_4, e_5, e_6, e_7] := e1
     exact ⟨_, rfl, .inl ⟨wanted_none rfl, Does.rc (f := 9) (call2 rfl (fun _ => by simp [go_sem]) e0 e1) (vsame5_any d0 d1 d2 d3 d4 d5 d6 d7 e_0 e_1 e_2 e_3 e_4 e_5 e_6 e_7 _ _ wx h_d h_e_ true (tru rfl))⟩⟩
    ·obtain ⟨k0, -⟩ := hp
     have e0 : a.eval (.tmp 34) = .bool true := k0
     simp [Act.eval] at e0
     exact ⟨_, rfl, .inl ⟨wanted_none rfl, Does.val (by simp [execOp, Act.eval, e0, go_sem]) rfl⟩⟩
    ·obtain ⟨k0, -⟩ := hp
     have e0 : a.eval (.tmp 35) = .bool false := k0
     simp [Act.eval] at e0
     exact ⟨_, rfl, .inl ⟨wanted_none rfl, Does.val (by simp [execOp, Act.eval, e0, go_sem]) rfl⟩⟩
    ·obtain ⟨k0, -⟩ := hp
     have e0 : a.eval (.tmp 36) = .bool false := k0
     have hgd := e0
     exact ⟨_, rfl, .inl ⟨(wanted_of rfl rfl hgd).trans rfl, ld_Place rfl ((hs 9 rfl).trans ev9) (k0c.below hB) rfl rfl rfl rfl rfl rfl rfl rfl rfl rfl rfl rfl rfl rfl rfl rfl⟩⟩
    ·obtain ⟨k0, -⟩ := hp
     have e0 : a.eval (.tmp 36) = .bool false := k0
     have hgd := e0
     exact ⟨_, rfl, .inl ⟨(wanted_of rfl rfl hgd).trans rfl, ld_Place rfl ((hs 3 rfl).trans ev3) (kl.below hB) rfl rfl rfl rfl rfl rfl rfl rfl rfl rfl rfl rfl rfl rfl rfl rfl⟩⟩
    ·obtain ⟨k0, -⟩ := hp
     have e0 : a.eval (.tmp 36) = .bool false := k0
     have hgd := e0
     exact ⟨_, rfl, .inl ⟨(wanted_of rfl rfl hgd).trans rfl, ld_Place rfl ((hs 4 rfl).trans ev4) (k0d.below hB) rfl rfl rfl rfl rfl rfl rfl rfl rfl rfl rfl rfl rfl rfl rfl rfl⟩⟩
    ·obtain ⟨k0, k1, k2, -⟩ := hp
     have e0 : a.eval (.tmp 38) = .agg #[pc0, pc1, pc2, pc3, pc4, pc5, pc6, pc7, pc8, pc9, pc10, pc11, pc12, pc13, pc14, pc15] := k0
     have e1 : a.eval (.tmp 39) = .agg #[qc0, qc1, qc2, qc3, qc4, qc5, qc6, qc7, qc8, qc9, qc10, qc11, qc12, qc13, qc14, qc15] := k1
     have e2 : a.eval (.tmp 36) = .bool false := k2
     have hgd := e2
     exact ⟨_, rfl, .inl ⟨(wanted_of rfl rfl hgd).trans rfl, Does.rp (f := 13) (call2 rfl (fun _ => by simp [go_sem]) e0 e1) (vcmp5_any 7 7 pc0 pc1 pc2 pc3 pc4 pc5 pc6 pc7 pc8 pc9 pc10 pc11 pc12 pc13 pc14 pc15 qc0 qc1 qc2 qc3 qc4 qc5 qc6 qc7 qc8 qc9 qc10 qc11 qc12 qc13 qc14 qc15 (p) (q) wx (km.out.kp (.of hB)) (k0e.out.kp (.of hB)) HBp.out HBq.out (by omega))⟩⟩
    ·obtain ⟨k0, k1, k2, -⟩ := hp
     have e0 : a.eval (.tmp 37) = .agg #[x0, x1, x2, x3, x4, x5, x6, x7, x8, x9, x10, x11, x12, x13, x14, x15] := k0
     obtain ⟨f_0, f_1, f_2, f_3, f_4, f_5, f_6, f_7, f_8, f_9, f_10, f_11, f_12, f_13, f_14, f_15, e1, h_f_⟩ := k1
     replace e1 : a.eval (.tmp 40) = .agg #[f_0, f_1, f_2, f_3, f_4, f_5, f_6, f_7, f_8, f_9, f_10, f_11, f_12, f_13, f_14, f_15] := e1
     have e2 : a.eval (.tmp 36) = .bool false := k2
     have hgd := e2
     exact ⟨_, rfl, .inl ⟨(wanted_of rfl rfl hgd).trans rfl, Does.rc (f := 12) (call2 rfl (fun _ => by simp [go_sem]) e0 e1) (psame5_any 0 0 x0 x1 x2 x3 x4 x5 x6 x7 x8 x9 x10 x11 x12 x13 x14 x15 f_0 f_1 f_2 f_3 f_4 f_5 f_6 f_7 f_8 f_9 f_10 f_11 f_12 f_13 f_14 f_15 _ _ wx (k0f.out.kp (.of hB)) h_f_ rfl)⟩⟩
    ·obtain ⟨k0, k1, -⟩ := hp
     have e0 : a.eval (.tmp 41) = .bool true := k0
     have e1 : a.eval (.tmp 36) = .bool false := k1
     have hgd := e1
     simp [Act.eval] at e0
     exact ⟨_, rfl, .inl ⟨(wanted_of rfl rfl hgd).trans rfl, Does.val (by simp [execOp, Act.eval, e0, go_sem]) rfl⟩⟩
    ·obtain ⟨k0, k1, -⟩ := hp
     have e0 : a.eval (.tmp 36) = .bool false := k0
     have e1 : a.eval (.tmp 42) = .bool false := k1
     simp [Act.eval] at e0
     simp [Act.eval] at e1
     exact ⟨_, rfl, .inl ⟨wanted_none rfl, Does.val (by simp [execOp, Act.eval, e0, e1, go_sem]) rfl⟩⟩
    ·obtain ⟨k0, -⟩ := hp
     have e0 : a.eval (.tmp 43) = .bool false := k0
     simp [Act.eval] at e0
     exact ⟨_, rfl, .inl ⟨wanted_none rfl, Does.val (by simp [execOp, Act.eval, e0, go_sem]) rfl⟩⟩
    ·obtain ⟨k0, -⟩ := hp
     have e0 : a.eval (.tmp 44) = .bool false := k0
     have hgd := e0
     exact ⟨_, rfl, .inl ⟨(wanted_of rfl rfl hgd).trans rfl, ld_Place rfl ((hs 10 rfl).trans ev10) (k0g.below hB) rfl rfl rfl rfl rfl rfl rfl rfl rfl rfl rfl rfl rfl rfl rfl rfl⟩⟩
    ·obtain ⟨k0, -⟩ := hp
     have e0 : a.eval (.tmp 44) = .bool false := k0
     have hgd := e0
     exact ⟨_, rfl, .inl ⟨(wanted_of rfl rfl hgd).trans rfl, ld_Place rfl ((hs 3 rfl).trans ev3) (kl.below hB) rfl rfl rfl rfl rfl rfl rfl rfl rfl rfl rfl rfl rfl rfl rfl rfl⟩⟩
    ·obtain ⟨k0, k1, -⟩ := hp
     have e0 : a.eval (.tmp 46) = .agg #[pc0, pc1, pc2, pc3, pc4, pc5, pc6, pc7, pc8, pc9, pc10, pc11, pc12, pc13, pc14, pc15] := k0
     have e1 : a.eval (.tmp 44) = .bool false := k1
     have hgd := e1
     exact ⟨_, rfl, .inl ⟨(wanted_of rfl rfl hgd).trans rfl, Does.rp (f := 14) (call1 rfl (fun _ => by simp [go_sem]) e0) (vinv5_any 7 pc0 pc1 pc2 pc3 pc4 pc5 pc6 pc7 pc8 pc9 pc10 pc11 pc12 pc13 pc14 pc15 p wx (km.out.kp (.of hB)) HBp.out (by omega))⟩⟩
    ·obtain ⟨k0, k1, k2, -⟩ := hp
     have e0 : a.eval (.tmp 45) = .agg #[y0, y1, y2, y3, y4, y5, y6, y7, y8, y9, kd, ke, kf, kg, kh, ki] := k0
     obtain ⟨g_0, g_1, g_2, g_3, g_4, g_5, g_6, g_7, g_8, g_9, g_10, g_11, g_12, g_13, g_14, g_15, e1, h_g_⟩ := k1
     replace e1 : a.eval (.tmp 47) = .agg #[g_0, g_1, g_2, g_3, g_4, g_5, g_6, g_7, g_8, g_9, g_10, g_11, g_12, g_13, g_14, g_15] := e1
     have e2 : a.eval (.tmp 44) = .bool false := k2
     have hgd := e2
     exact ⟨_, rfl, .inl ⟨(wanted_of rfl rfl hgd).trans rfl, Does.rc (f := 12) (call2 rfl (fun _ => by simp [go_sem]) e0 e1) (psame5_any 0 0 y0 y1 y2 y3 y4 y5 y6 y7 y8 y9 kd ke kf kg kh ki g_0 g_1 g_2 g_3 g_4 g_5 g_6 g_7 g_8 g_9 g_10 g_11 g_12 g_13 g_14 g_15 _ _ wx (k0h.out.kp (.of hB)) h_g_ rfl)⟩⟩
    ·obtain ⟨k0, k1, -⟩ := hp
     have e0 : a.eval (.tmp 48) = .bool true := k0
     have e1 : a.eval (.tmp 44) = .bool false := k1
     have hgd := e1
     simp [Act.eval] at e0
     exact ⟨_, rfl, .inl ⟨(wanted_of rfl rfl hgd).trans rfl, Does.val (by simp [execOp, Act.eval, e0, go_sem]) rfl⟩⟩
    ·obtain ⟨k0, k1, -⟩ := hp
     have e0 : a.eval (.tmp 44) = .bool false := k0
     have e1 : a.eval (.tmp 49) = .bool false := k1
     simp [Act.eval] at e0
     simp [Act.eval] at e1
     exact ⟨_, rfl, .inl ⟨wanted_none rfl, Does.val (by simp [execOp, Act.eval, e0, e1, go_sem]) rfl⟩⟩
   ·intro val wx hB hsp hdis
    have e22 : val 22 = .bool false := hsp 22 (by omega)
    rw [← HF.out]
    change wpList _ _ _ [] _ _
    simp only [puts, vals, List.map_cons, List.map_nil, List.foldl_cons, List.foldl_nil, if_true, Nat.zero_add, Nat.reduceAdd, e22, List.setIfInBounds_toArray, List.set_cons_succ, List.set_cons_zero]
    clear hsp hdis HF e22
    clear ev3 ev4 ev6 ev9 ev10
    obtain ⟨w124, rfl⟩ : ∃ W : World, W = wx := ⟨_, rfl⟩
    have HS125 := Lib.hid hB
    have k0I := Lib.hid (Blw k0H.out hB)
    clear hB
    go_upto_region 11 with fail
    go_upto_region 11 with fail
    generalize hW : w124.drew = W127
    have hB : Below w124.heap.size w124 W127 := by rw [← hW]; exact (Below.refl _ _).drew
    have HS128 := Lib.hid hB
    have k0J := Lib.hid (Blw k0I.out hB)
    clear hB
    have kI := ((k0c.below HS125.out).below HS128.out)
    have kj := ((kG.below HS125.out).below HS128.out)
    have kJ := Lib.hid ((k0f.out.kp (.of HS125.out)).kp (.of HS128.out))
    have kk := Lib.hid ((kH.out.kp (.of HS125.out)).kp (.of HS128.out))
    have kn := ((kl.below HS125.out).below HS128.out)
    have k0i := ((k0d.below HS125.out).below HS128.out)
    have k0j := Lib.hid ((k0e.out.kp (.of HS125.out)).kp (.of HS128.out))
    have ko := Lib.hid ((km.out.kp (.of HS125.out)).kp (.of HS128.out))
    have k0k := ((((k07.below HS102.out).below HS106.out).below HS125.out).below HS128.out)
    have k0l := Lib.hid ((((((((((((F23.out.kp (.of HS26.out)).kp (.of HS30.out)).kp (.of HS35.out)).kp (.of HS39.out)).kp (.of HS44.out)).kp (.of HS48.out)).kp (.of HS53.out)).kp (.of HS76.out)).kp (.of HS102.out)).kp (.of HS106.out)).kp (.of HS125.out)).kp (.of HS128.out))
    have kK := ((k0g.below HS125.out).below HS128.out)
    have kL := Lib.hid ((k0h.out.kp (.of HS125.out)).kp (.of HS128.out))
    generalize hF : ({ tmps := _, defers := _ } : Act) = F
    have ev3 : F.eval (.tmp 3) = .pointer (some ⟨w1.heap.size, 0, none⟩) := by rw [← hF]; rfl
    have ev4 : F.eval (.tmp 4) = .pointer (some ⟨w10.heap.size, 0, none⟩) := by rw [← hF]; rfl
    have ev5 : F.eval (.tmp 5) = .pointer (some ⟨w19.heap.size, 0, none⟩) := by rw [← hF]; rfl
    have ev6 : F.eval (.tmp 6) = .pointer (some ⟨w28.heap.size, 0, none⟩) := by rw [← hF]; rfl
    have ev9 : F.eval (.tmp 9) = .pointer (some ⟨g73_3, 0, none⟩) := by rw [← hF]; rfl
    have ev10 : F.eval (.tmp 10) = .pointer (some ⟨g99_2, 0, none⟩) := by rw [← hF]; rfl
    have HF := Lib.hid hF; clear hF
    refine wp_flow_tabG true hW 42 [(51, []), (52, []), (53, [0, 1]), (54, []), (55, []), (56, []), (57, [4, 5]), (58, [3, 6]), (59, [2, 7]), (60, [8]), (61, [9]), (62, [10]), (63, [10]), (64, [11, 12, 10]), (65, [10]), (66, [10]), (67, [10]), (68, [15, 16, 10]), (69, [14, 17, 10]), (70, [13, 18, 10]), (71, [19, 10]), (72, [10, 20]), (73, [21]), (74, [22]), (75, [22]), (76, [22]), (77, [24, 25, 22]), (78, [23, 26, 22]), (79, [22]), (80, [27, 28, 22]), (81, [29, 22]), (82, [22, 30]), (83, [31]), (84, [32]), (85, [32]), (86, [32]), (87, [34, 35, 32]), (88, [33, 36, 32]), (89, [32]), (90, [37, 38, 32]), (91, [39, 32]), (92, [32, 40])] [SC (.agg #[x0, x1, x2, x3, x4, x5, x6, x7, x8, x9, x10, x11, x12, x13, x14, x15]), SC (.agg #[aac0, aac1, aac2, aac3, aac4, aac5, aac6, aac7]), SV (vput (vcmp p q) aa), SC (.agg #[pc0, pc1, pc2, pc3, pc4, pc5, pc6, pc7, pc8, pc9, pc10, pc11, pc12, pc13, pc14, pc15]), SC (.agg #[qc0, qc1, qc2, qc3, qc4, qc5, qc6, qc7, qc8, qc9, qc10, qc11, qc12, qc13, qc14, qc15]), SC (.agg #[aac0, aac1, aac2, aac3, aac4, aac5, aac6, aac7]), SV (vput q aa), SV (vput p (vput q aa)), SC (.bool true), SC (.bool false), SC (.bool false), SC (.agg #[x0, x1, x2, x3, x4, x5, x6, x7, x8, x9, x10, x11, x12, x13, x14, x15]), SC (.agg #[rc0, rc1, rc2, rc3, rc4, rc5, rc6, rc7, rc8, rc9, rc10, rc11, rc12, rc13, rc14, rc15]), SPl (vcmp (vcmp p q) r), SC (.agg #[pc0, pc1, pc2, pc3, pc4, pc5, pc6, pc7, pc8, pc9, pc10, pc11, pc12, pc13, pc14, pc15]), SC (.agg #[qc0, qc1, qc2, qc3, qc4, qc5, qc6, qc7, qc8, qc9, qc10, qc11, qc12, qc13, qc14, qc15]), SC (.agg #[rc0, rc1, rc2, rc3, rc4, rc5, rc6, rc7, rc8, rc9, rc10, rc11, rc12, rc13, rc14, rc15]), SPl (vcmp q r), SPl (vcmp p (vcmp q r)), SC (.bool true), SC (.bool false), SC (.bool false), SC (.bool false), SC (.agg #[y0, y1, y2, y3, y4, y5, y6, y7, y8, y9, kd, ke, kf, kg, kh, ki]), SC (.agg #[pc0, pc1, pc2, pc3, pc4, pc5, pc6, pc7, pc8, pc9, pc10, pc11, pc12, pc13, pc14, pc15]), SC (.agg #[aac0, aac1, aac2, aac3, aac4, aac5, aac6, aac7]), SV (vput p aa), SV (vput (vinv p) (vput p aa)), SC (.agg #[aac0, aac1, aac2, aac3, aac4, aac5, aac6, aac7]), SC (.bool true), SC (.bool false), SC (.bool false), SC (.bool false), SC (.agg #[pc0, pc1, pc2, pc3, pc4, pc5, pc6, pc7, pc8, pc9, pc10, pc11, pc12, pc13, pc14, pc15]), SC (.agg #[y0, y1, y2, y3, y4, y5, y6, y7, y8, y9, kd, ke, kf, kg, kh, ki]), SC (.agg #[aac0, aac1, aac2, aac3, aac4, aac5, aac6, aac7]), SV (vput (vinv p) aa), SV (vput p (vput (vinv p) aa)), SC (.agg #[aac0, aac1, aac2, aac3, aac4, aac5, aac6, aac7]), SC (.bool true), SC (.bool false), SC (.bool false)] [false, false, false, false, false, false, false, false, false, false, false, false, false, false, false, false, false, false, false, false, false, false, false, false, false, false, false, false, false, false, false, false, false, false, false, false, false, false, false, false, false, false] (by kernel_rfl) (by kernel_rfl) (by kernel_rfl) (by kernel_rfl) (by kernel_rfl) (by rw [← HF.out]; simp) ⟨SC.mono _, SC.mono _, SV.mono _, SC.mono _, SC.mono _, SC.mono _, SV.mono _, SV.mono _, SC.mono _, SC.mono _, SC.mono _, SC.mono _, SC.mono _, SPl.mono _, SC.mono _, SC.mono _, SC.mono _, SPl.mono _, SPl.mono _, SC.mono _, SC.mono _, SC.mono _, SC.mono _, SC.mono _, SC.mono _, SC.mono _, SV.mono _, SV.mono _, SC.mono _, SC.mono _, SC.mono _, SC.mono _, SC.mono _, SC.mono _, SC.mono _, SC.mono _, SV.mono _, SV.mono _, SC.mono _, SC.mono _, SC.mono _, SC.mono _, trivial⟩ ?_ ?_
    ·intro kq hkq a wx hB hp hs
     have hcase : kq = 0 ∨ kq = 1 ∨ kq = 2 ∨ kq = 3 ∨ kq = 4 ∨ kq = 5 ∨ kq = 6 ∨ kq = 7 ∨ kq = 8 ∨ kq = 9 ∨ kq = 10 ∨ kq = 11 ∨ kq = 12 ∨ kq = 13 ∨ kq = 14 ∨ kq = 15 ∨ kq = 16 ∨ kq = 17 ∨ kq = 18 ∨ kq = 19 ∨ kq = 20 ∨ kq = 21 ∨ kq = 22 ∨ kq = 23 ∨ kq = 24 ∨ kq = 25 ∨ kq = 26 ∨ kq = 27 ∨ kq = 28 ∨ kq = 29 ∨ kq = 30 ∨ kq = 31 ∨ kq = 32 ∨ kq = 33 ∨ kq = 34 ∨ kq = 35 ∨ kq = 36 ∨ kq = 37 ∨ kq = 38 ∨ kq = 39 ∨ kq = 40 ∨ kq = 41 := by omega
     rcases hcase with rfl | rfl | rfl | rfl | rfl | rfl | rfl | rfl | rfl | rfl | rfl | rfl | rfl | rfl | rfl | rfl | rfl | rfl | rfl | rfl | rfl | rfl | rfl | rfl | rfl | rfl | rfl | rfl | rfl | rfl | rfl | rfl | rfl | rfl | rfl | rfl | rfl | rfl | rfl | rfl | rfl | rfl
     ·exact ⟨_, rfl, .inl ⟨wanted_none rfl, ld_Place rfl ((hs 9 rfl).trans ev9) (kI.below hB) rfl rfl rfl rfl rfl rfl rfl rfl rfl rfl rfl rfl rfl rfl rfl rfl⟩⟩
     ·exact ⟨_, rfl, .inl ⟨wanted_none rfl, ld_Vec rfl ((hs 6 rfl).trans ev6) (kj.below hB) rfl rfl rfl rfl rfl rfl rfl rfl⟩⟩
     ·obtain ⟨k0, k1, -⟩ := hp
      exact ⟨_, rfl, .inl ⟨wanted_none rfl, Does.rv (f := 10) (call2 rfl (fun _ => by simp [go_sem]) k0 k1) (vput_any 44 7 x0 x1 x2 x3 x4 x5 x6 x7 x8 x9 x10 x11 x12 x13 x14 x15 aac0 aac1 aac2 aac3 aac4 aac5 aac6 aac7 (vcmp p q) (aa) wx (kJ.out.kp (.of hB)) (kk.out.kp (.of hB)) (HBp.out.cmp HBq.out) HBaa.out (by omega))⟩⟩
     ·exact ⟨_, rfl, .inl ⟨wanted_none rfl, ld_Place rfl ((hs 3 rfl).trans ev3) (kn.below hB) rfl rfl rfl rfl rfl rfl rfl rfl rfl rfl rfl rfl rfl rfl rfl rfl⟩⟩
     ·exact ⟨_, rfl, .inl ⟨wanted_none rfl, ld_Place rfl ((hs 4 rfl).trans ev4) (k0i.below hB) rfl rfl rfl rfl rfl rfl rfl rfl rfl rfl rfl rfl rfl rfl rfl rfl⟩⟩
     ·exact ⟨_, rfl, .inl ⟨wanted_none rfl, ld_Vec rfl ((hs 6 rfl).trans ev6) (kj.below hB) rfl rfl rfl rfl rfl rfl rfl rfl⟩⟩
     ·obtain ⟨k0, k1, -⟩ := hp
      exact ⟨_, rfl, .inl ⟨wanted_none rfl, Does.rv (f := 10) (call2 rfl (fun _ => by simp [go_sem]) k0 k1) (vput_any 7 7 qc0 qc1 qc2 qc3 qc4 qc5 qc6 qc7 qc8 qc9 qc10 qc11 qc12 qc13 qc14 qc15 aac0 aac1 aac2 aac3 aac4 aac5 aac6 aac7 (q) (aa) wx (k0j.out.kp (.of hB)) (kk.out.kp (.of hB)) HBq.out HBaa.out (by omega))⟩⟩
     ·obtain ⟨k0, k1, -⟩ := hp
      obtain ⟨e_0, e_1, e_2, e_3, e_4, e_5, e_6, e_7, e1, h_e_⟩ := k1
      replace e1 : a.eval (.tmp 57) = .agg #[e_0, e_1, e_2, e_3, e_4, e_5, e_6, e_7] := e1
      exact ⟨_, rfl, .inl ⟨wanted_none rfl, Does.rv (f := 10) (call2 rfl (fun _ => by simp [go_sem]) k0 e1) (vput_any 7 44 pc0 pc1 pc2 pc3 pc4 pc5 pc6 pc7 pc8 pc9 pc10 pc11 pc12 pc13 pc14 pc15 e_0 e_1 e_2 e_3 e_4 e_5 e_6 e_7 (p) (vput q aa) wx (ko.out.kp (.of hB)) h_e_ HBp.out (HBq.out.put HBaa.out) (by omega))⟩⟩
     ·obtain ⟨k0, k1, -⟩ := hp
      obtain ⟨d0, d1, d2, d3, d4, d5, d6, d7, e0, h_d⟩ := k0
      replace e0 : a.eval (.tmp 53) = .agg #[d0, d1, d2, d3, d4, d5, d6, d7] := e0
      obtain ⟨f_0, f_1, f_2, f_3, f_4, f_5, f_6, f_7, e1, h_f_⟩ := k1
      replace e1 : a.eval (.tmp 58) = .agg #[f_0, f_1, f_2, f_3, f_4, f_5, f_6, f_7] := e1
      exact ⟨_, rfl, .inl ⟨wanted_none rfl, Does.rc (f := 15) (call2 rfl (fun _ => by simp [go_sem]) e0 e1) (vsame_any d0 d1 d2 d3 d4 d5 d6 d7 f_0 f_1 f_2 f_3 f_4 f_5 f_6 f_7 _ _ wx h_d h_f_ true (tru put_cmp))⟩⟩
     ·obtain ⟨k0, -⟩ := hp
      have e0 : a.eval (.tmp 59) = .bool true := k0
      simp [Act.eval] at e0
      exact ⟨_, rfl, .inl ⟨wanted_none rfl, Does.val (by simp [execOp, Act.eval, e0, go_sem]) rfl⟩⟩
     ·obtain ⟨k0, -⟩ := hp
      have e0 : a.eval (.tmp 60) = .bool false := k0
      simp [Act.eval] at e0
      exact ⟨_, rfl, .inl ⟨wanted_none rfl, Does.val (by simp [execOp, Act.eval, e0, go_sem]) rfl⟩⟩
     ·obtain ⟨k0, -⟩ := hp
      have e0 : a.eval (.tmp 61) = .bool false := k0
      have hgd := e0
      exact ⟨_, rfl, .inl ⟨(wanted_of rfl rfl hgd).trans rfl, ld_Place rfl ((hs 9 rfl).trans ev9) (kI.below hB) rfl rfl rfl rfl rfl rfl rfl rfl rfl rfl rfl rfl rfl rfl rfl rfl⟩⟩
     ·obtain ⟨k0, -⟩ := hp
      have e0 : a.eval (.tmp 61) = .bool false := k0
      have hgd := e0
      exact ⟨_, rfl, .inl ⟨(wanted_of rfl rfl hgd).trans rfl, ld_Place rfl ((hs 5 rfl).trans ev5) (k0k.below hB) rfl rfl rfl rfl rfl rfl rfl rfl rfl rfl rfl rfl rfl rfl rfl rfl⟩⟩
     ·obtain ⟨k0, k1, k2, -⟩ := hp
      have e0 : a.eval (.tmp 62) = .agg #[x0, x1, x2, x3, x4, x5, x6, x7, x8, x9, x10, x11, x12, x13, x14, x15] := k0
      have e1 : a.eval (.tmp 63) = .agg #[rc0, rc1, rc2, rc3, rc4, rc5, rc6, rc7, rc8, rc9, rc10, rc11, rc12, rc13, rc14, rc15] := k1
      have e2 : a.eval (.tmp 61) = .bool false := k2
      have hgd := e2
      exact ⟨_, rfl, .inl ⟨(wanted_of rfl rfl hgd).trans rfl, Does.rp (f := 7) (call2 rfl (fun _ => by simp [go_sem]) e0 e1) (vcmp_any 44 7 x0 x1 x2 x3 x4 x5 x6 x7 x8 x9 x10 x11 x12 x13 x14 x15 rc0 rc1 rc2 rc3 rc4 rc5 rc6 rc7 rc8 rc9 rc10 rc11 rc12 rc13 rc14 rc15 (vcmp p q) (r) wx (kJ.out.kp (.of hB)) (k0l.out.kp (.of hB)) (HBp.out.cmp HBq.out) HBr.out (by omega))⟩⟩
     ·obtain ⟨k0, -⟩ := hp
      have e0 : a.eval (.tmp 61) = .bool false := k0
      have hgd := e0
      exact ⟨_, rfl, .inl ⟨(wanted_of rfl rfl hgd).trans rfl, ld_Place rfl ((hs 3 rfl).trans ev3) (kn.below hB) rfl rfl rfl rfl rfl rfl rfl rfl rfl rfl rfl rfl rfl rfl rfl rfl⟩⟩
     ·obtain ⟨k0, -⟩ := hp
      have e0 : a.eval (.tmp 61) = .bool false := k0
      have hgd := e0
      exact ⟨_, rfl, .inl ⟨(wanted_of rfl rfl hgd).trans rfl, ld_Place rfl ((hs 4 rfl).trans ev4) (k0i.below hB) rfl rfl rfl rfl rfl rfl rfl rfl rfl rfl rfl rfl rfl rfl rfl rfl⟩⟩
     ·obtain ⟨k0, -⟩ := hp
      have e0 : a.eval (.tmp 61) = .bool false := k0
      have hgd := e0
      exact ⟨_, rfl, .inl ⟨(wanted_of rfl rfl hgd).trans rfl, ld_Place rfl ((hs 5 rfl).trans ev5) (k0k.below hB) rfl rfl rfl rfl rfl rfl rfl rfl rfl rfl rfl rfl rfl rfl rfl rfl⟩⟩
     ·obtain ⟨k0, k1, k2, -⟩ := hp
      have e0 : a.eval (.tmp 66) = .agg #[qc0, qc1, qc2, qc3, qc4, qc5, qc6, qc7, qc8, qc9, qc10, qc11, qc12, qc13, qc14, qc15] := k0
      have e1 : a.eval (.tmp 67) = .agg #[rc0, rc1, rc2, rc3, rc4, rc5, rc6, rc7, rc8, rc9, rc10, rc11, rc12, rc13, rc14, rc15] := k1
      have e2 : a.eval (.tmp 61) = .bool false := k2
      have hgd := e2
      exact ⟨_, rfl, .inl ⟨(wanted_of rfl rfl hgd).trans rfl, Does.rp (f := 7) (call2 rfl (fun _ => by simp [go_sem]) e0 e1) (vcmp_any 7 7 qc0 qc1 qc2 qc3 qc4 qc5 qc6 qc7 qc8 qc9 qc10 qc11 qc12 qc13 qc14 qc15 rc0 rc1 rc2 rc3 rc4 rc5 rc6 rc7 rc8 rc9 rc10 rc11 rc12 rc13 rc14 rc15 (q) (r) wx (k0j.out.kp (.of hB)) (k0l.out.kp (.of hB)) HBq.out HBr.out (by omega))⟩⟩
     ·obtain ⟨k0, k1, k2, -⟩ := hp
      have e0 : a.eval (.tmp 65) = .agg #[pc0, pc1, pc2, pc3, pc4, pc5, pc6, pc7, pc8, pc9, pc10, pc11, pc12, pc13, pc14, pc15] := k0
      obtain ⟨h_0, h_1, h_2, h_3, h_4, h_5, h_6, h_7, h_8, h_9, h_10, h_11, h_12, h_13, h_14, h_15, e1, h_h_⟩ := k1
      replace e1 : a.eval (.tmp 68) = .agg #[h_0, h_1, h_2, h_3, h_4, h_5, h_6, h_7, h_8, h_9, h_10, h_11, h_12, h_13, h_14, h_15] := e1
      have e2 : a.eval (.tmp 61) = .bool false := k2
      have hgd := e2
      exact ⟨_, rfl, .inl ⟨(wanted_of rfl rfl hgd).trans rfl, Does.rp (f := 7) (call2 rfl (fun _ => by simp [go_sem]) e0 e1) (vcmp_any 7 44 pc0 pc1 pc2 pc3 pc4 pc5 pc6 pc7 pc8 pc9 pc10 pc11 pc12 pc13 pc14 pc15 h_0 h_1 h_2 h_3 h_4 h_5 h_6 h_7 h_8 h_9 h_10 h_11 h_12 h_13 h_14 h_15 (p) (vcmp q r) wx (ko.out.kp (.of hB)) h_h_ HBp.out (HBq.out.cmp HBr.out) (by omega))⟩⟩
     ·obtain ⟨k0, k1, k2, -⟩ := hp
      obtain ⟨g_0, g_1, g_2, g_3, g_4, g_5, g_6, g_7, g_8, g_9, g_10, g_11, g_12, g_13, g_14, g_15, e0, h_g_⟩ := k0
      replace e0 : a.eval (.tmp 64) = .agg #[g_0, g_1, g_2, g_3, g_4, g_5, g_6, g_7, g_8, g_9, g_10, g_11, g_12, g_13, g_14, g_15] := e0
      obtain ⟨i_0, i_1, i_2, i_3, i_4, i_5, i_6, i_7, i_8, i_9, i_10, i_11, i_12, i_13, i_14, i_15, e1, h_i_⟩ := k1
      replace e1 : a.eval (.tmp 69) = .agg #[i_0, i_1, i_2, i_3, i_4, i_5, i_6, i_7, i_8, i_9, i_10, i_11, i_12, i_13, i_14, i_15] := e1
      have e2 : a.eval (.tmp 61) = .bool false := k2
      have hgd := e2
      exact ⟨_, rfl, .inl ⟨(wanted_of rfl rfl hgd).trans rfl, Does.rc (f := 12) (call2 rfl (fun _ => by simp [go_sem]) e0 e1) (psame5_any 0 0 g_0 g_1 g_2 g_3 g_4 g_5 g_6 g_7 g_8 g_9 g_10 g_11 g_12 g_13 g_14 g_15 i_0 i_1 i_2 i_3 i_4 i_5 i_6 i_7 i_8 i_9 i_10 i_11 i_12 i_13 i_14 i_15 _ _ wx h_g_ h_i_ cmp_ass)⟩⟩
     ·obtain ⟨k0, k1, -⟩ := hp
      have e0 : a.eval (.tmp 70) = .bool true := k0
      have e1 : a.eval (.tmp 61) = .bool false := k1
      have hgd := e1
      simp [Act.eval] at e0
      exact ⟨_, rfl, .inl ⟨(wanted_of rfl rfl hgd).trans rfl, Does.val (by simp [execOp, Act.eval, e0, go_sem]) rfl⟩⟩
     ·obtain ⟨k0, k1, -⟩ := hp
      have e0 : a.eval (.tmp 61) = .bool false := k0
      have e1 : a.eval (.tmp 71) = .bool false := k1
      simp [Act.eval] at e0
      simp [Act.eval] at e1
      exact ⟨_, rfl, .inl ⟨wanted_none rfl, Does.val (by simp [execOp, Act.eval, e0, e1, go_sem]) rfl⟩⟩
     ·obtain ⟨k0, -⟩ := hp
      have e0 : a.eval (.tmp 72) = .bool false := k0
      simp [Act.eval] at e0
      exact ⟨_, rfl, .inl ⟨wanted_none rfl, Does.val (by simp [execOp, Act.eval, e0, go_sem]) rfl⟩⟩
     ·obtain ⟨k0, -⟩ := hp
      have e0 : a.eval (.tmp 73) = .bool false := k0
      have hgd := e0
      exact ⟨_, rfl, .inl ⟨(wanted_of rfl rfl hgd).trans rfl, ld_Place rfl ((hs 10 rfl).trans ev10) (kK.below hB) rfl rfl rfl rfl rfl rfl rfl rfl rfl rfl rfl rfl rfl rfl rfl rfl⟩⟩
     ·obtain ⟨k0, -⟩ := hp
      have e0 : a.eval (.tmp 73) = .bool false := k0
      have hgd := e0
      exact ⟨_, rfl, .inl ⟨(wanted_of rfl rfl hgd).trans rfl, ld_Place rfl ((hs 3 rfl).trans ev3) (kn.below hB) rfl rfl rfl rfl rfl rfl rfl rfl rfl rfl rfl rfl rfl rfl rfl rfl⟩⟩
     ·obtain ⟨k0, -⟩ := hp
      have e0 : a.eval (.tmp 73) = .bool false := k0
      have hgd := e0
      exact ⟨_, rfl, .inl ⟨(wanted_of rfl rfl hgd).trans rfl, ld_Vec rfl ((hs 6 rfl).trans ev6) (kj.below hB) rfl rfl rfl rfl rfl rfl rfl rfl⟩⟩
     ·obtain ⟨k0, k1, k2, -⟩ := hp
      have e0 : a.eval (.tmp 75) = .agg #[pc0, pc1, pc2, pc3, pc4, pc5, pc6, pc7, pc8, pc9, pc10, pc11, pc12, pc13, pc14, pc15] := k0
      have e1 : a.eval (.tmp 76) = .agg #[aac0, aac1, aac2, aac3, aac4, aac5, aac6, aac7] := k1
      have e2 : a.eval (.tmp 73) = .bool false := k2
      have hgd := e2
      exact ⟨_, rfl, .inl ⟨(wanted_of rfl rfl hgd).trans rfl, Does.rv (f := 10) (call2 rfl (fun _ => by simp [go_sem]) e0 e1) (vput_any 7 7 pc0 pc1 pc2 pc3 pc4 pc5 pc6 pc7 pc8 pc9 pc10 pc11 pc12 pc13 pc14 pc15 aac0 aac1 aac2 aac3 aac4 aac5 aac6 aac7 (p) (aa) wx (ko.out.kp (.of hB)) (kk.out.kp (.of hB)) HBp.out HBaa.out (by omega))⟩⟩
     ·obtain ⟨k0, k1, k2, -⟩ := hp
      have e0 : a.eval (.tmp 74) = .agg #[y0, y1, y2, y3, y4, y5, y6, y7, y8, y9, kd, ke, kf, kg, kh, ki] := k0
      obtain ⟨j_0, j_1, j_2, j_3, j_4, j_5, j_6, j_7, e1, h_j_⟩ := k1
      replace e1 : a.eval (.tmp 77) = .agg #[j_0, j_1, j_2, j_3, j_4, j_5, j_6, j_7] := e1
      have e2 : a.eval (.tmp 73) = .bool false := k2
      have hgd := e2
      exact ⟨_, rfl, .inl ⟨(wanted_of rfl rfl hgd).trans rfl, Does.rv (f := 10) (call2 rfl (fun _ => by simp [go_sem]) e0 e1) (vput_any 31 44 y0 y1 y2 y3 y4 y5 y6 y7 y8 y9 kd ke kf kg kh ki j_0 j_1 j_2 j_3 j_4 j_5 j_6 j_7 (vinv p) (vput p aa) wx (kL.out.kp (.of hB)) h_j_ HBp.out.inv (HBp.out.put HBaa.out) (by omega))⟩⟩
     ·obtain ⟨k0, -⟩ := hp
      have e0 : a.eval (.tmp 73) = .bool false := k0
      have hgd := e0
      exact ⟨_, rfl, .inl ⟨(wanted_of rfl rfl hgd).trans rfl, ld_Vec rfl ((hs 6 rfl).trans ev6) (kj.below hB) rfl rfl rfl rfl rfl rfl rfl rfl⟩⟩
     ·obtain ⟨k0, k1, k2, -⟩ := hp
      obtain ⟨k_0, k_1, k_2, k_3, k_4, k_5, k_6, k_7, e0, h_k_⟩ := k0
      replace e0 : a.eval (.tmp 78) = .agg #[k_0, k_1, k_2, k_3, k_4, k_5, k_6, k_7] := e0
      have e1 : a.eval (.tmp 79) = .agg #[aac0, aac1, aac2, aac3, aac4, aac5, aac6, aac7] := k1
      have e2 : a.eval (.tmp 73) = .bool false := k2
      have hgd := e2
      exact ⟨_, rfl, .inl ⟨(wanted_of rfl rfl hgd).trans rfl, Does.rc (f := 15) (call2 rfl (fun _ => by simp [go_sem]) e0 e1) (vsame_any k_0 k_1 k_2 k_3 k_4 k_5 k_6 k_7 aac0 aac1 aac2 aac3 aac4 aac5 aac6 aac7 _ _ wx h_k_ (kk.out.kp (.of hB)) true (tru (inv_put HUp.out)))⟩⟩
     ·obtain ⟨k0, k1, -⟩ := hp
      have e0 : a.eval (.tmp 80) = .bool true := k0
      have e1 : a.eval (.tmp 73) = .bool false := k1
      have hgd := e1
      simp [Act.eval] at e0
      exact ⟨_, rfl, .inl ⟨(wanted_of rfl rfl hgd).trans rfl, Does.val (by simp [execOp, Act.eval, e0, go_sem]) rfl⟩⟩
     ·obtain ⟨k0, k1, -⟩ := hp
      have e0 : a.eval (.tmp 73) = .bool false := k0
      have e1 : a.eval (.tmp 81) = .bool false := k1
      simp [Act.eval] at e0
      simp [Act.eval] at e1
      exact ⟨_, rfl, .inl ⟨wanted_none rfl, Does.val (by simp [execOp, Act.eval, e0, e1, go_sem]) rfl⟩⟩
     ·obtain ⟨k0, -⟩ := hp
      have e0 : a.eval (.tmp 82) = .bool false := k0
      simp [Act.eval] at e0
      exact ⟨_, rfl, .inl ⟨wanted_none rfl, Does.val (by simp [execOp, Act.eval, e0, go_sem]) rfl⟩⟩
     ·obtain ⟨k0, -⟩ := hp
      have e0 : a.eval (.tmp 83) = .bool false := k0
      have hgd := e0
      exact ⟨_, rfl, .inl ⟨(wanted_of rfl rfl hgd).trans rfl, ld_Place rfl ((hs 3 rfl).trans ev3) (kn.below hB) rfl rfl rfl rfl rfl rfl rfl rfl rfl rfl rfl rfl rfl rfl rfl rfl⟩⟩
     ·obtain ⟨k0, -⟩ := hp
      have e0 : a.eval (.tmp 83) = .bool false := k0
      have hgd := e0
      exact ⟨_, rfl, .inl ⟨(wanted_of rfl rfl hgd).trans rfl, ld_Place rfl ((hs 10 rfl).trans ev10) (kK.below hB) rfl rfl rfl rfl rfl rfl rfl rfl rfl rfl rfl rfl rfl rfl rfl rfl⟩⟩
     ·obtain ⟨k0, -⟩ := hp
      have e0 : a.eval (.tmp 83) = .bool false := k0
      have hgd := e0
      exact ⟨_, rfl, .inl ⟨(wanted_of rfl rfl hgd).trans rfl, ld_Vec rfl ((hs 6 rfl).trans ev6) (kj.below hB) rfl rfl rfl rfl rfl rfl rfl rfl⟩⟩
     ·obtain ⟨k0, k1, k2, -⟩ := hp
      have e0 : a.eval (.tmp 85) = .agg #[y0, y1, y2, y3, y4, y5, y6, y7, y8, y9, kd, ke, kf, kg, kh, ki] := k0
      have e1 : a.eval (.tmp 86) = .agg #[aac0, aac1, aac2, aac3, aac4, aac5, aac6, aac7] := k1
      have e2 : a.eval (.tmp 83) = .bool false := k2
      have hgd := e2
      exact ⟨_, rfl, .inl ⟨(wanted_of rfl rfl hgd).trans rfl, Does.rv (f := 10) (call2 rfl (fun _ => by simp [go_sem]) e0 e1) (vput_any 31 7 y0 y1 y2 y3 y4 y5 y6 y7 y8 y9 kd ke kf kg kh ki aac0 aac1 aac2 aac3 aac4 aac5 aac6 aac7 (vinv p) (aa) wx (kL.out.kp (.of hB)) (kk.out.kp (.of hB)) HBp.out.inv HBaa.out (by omega))⟩⟩
     ·obtain ⟨k0, k1, k2, -⟩ := hp
      have e0 : a.eval (.tmp 84) = .agg #[pc0, pc1, pc2, pc3, pc4, pc5, pc6, pc7, pc8, pc9, pc10, pc11, pc12, pc13, pc14, pc15] := k0
      obtain ⟨l_0, l_1, l_2, l_3, l_4, l_5, l_6, l_7, e1, h_l_⟩ := k1
      replace e1 : a.eval (.tmp 87) = .agg #[l_0, l_1, l_2, l_3, l_4, l_5, l_6, l_7] := e1
      have e2 : a.eval (.tmp 83) = .bool false := k2
      have hgd := e2
      exact ⟨_, rfl, .inl ⟨(wanted_of rfl rfl hgd).trans rfl, Does.rv (f := 10) (call2 rfl (fun _ => by simp [go_sem]) e0 e1) (vput_any 7 116 pc0 pc1 pc2 pc3 pc4 pc5 pc6 pc7 pc8 pc9 pc10 pc11 pc12 pc13 pc14 pc15 l_0 l_1 l_2 l_3 l_4 l_5 l_6 l_7 (p) (vput (vinv p) aa) wx (ko.out.kp (.of hB)) h_l_ HBp.out (HBp.out.inv.put HBaa.out) (by omega))⟩⟩
     ·obtain ⟨k0, -⟩ := hp
      have e0 : a.eval (.tmp 83) = .bool false := k0
      have hgd := e0
      exact ⟨_, rfl, .inl ⟨(wanted_of rfl rfl hgd).trans rfl, ld_Vec rfl ((hs 6 rfl).trans ev6) (kj.below hB) rfl rfl rfl rfl rfl rfl rfl rfl⟩⟩
     ·obtain ⟨k0, k1, k2, -⟩ := hp
      obtain ⟨m_0, m_1, m_2, m_3, m_4, m_5, m_6, m_7, e0, h_m_⟩ := k0
      replace e0 : a.eval (.tmp 88) = .agg #[m_0, m_1, m_2, m_3, m_4, m_5, m_6, m_7] := e0
      have e1 : a.eval (.tmp 89) = .agg #[aac0, aac1, aac2, aac3, aac4, aac5, aac6, aac7] := k1
      have e2 : a.eval (.tmp 83) = .bool false := k2
      have hgd := e2
      exact ⟨_, rfl, .inl ⟨(wanted_of rfl rfl hgd).trans rfl, Does.rc (f := 15) (call2 rfl (fun _ => by simp [go_sem]) e0 e1) (vsame_any m_0 m_1 m_2 m_3 m_4 m_5 m_6 m_7 aac0 aac1 aac2 aac3 aac4 aac5 aac6 aac7 _ _ wx h_m_ (kk.out.kp (.of hB)) true (tru (put_inv HUp.out)))⟩⟩
     ·obtain ⟨k0, k1, -⟩ := hp
      have e0 : a.eval (.tmp 90) = .bool true := k0
      have e1 : a.eval (.tmp 83) = .bool false := k1
      have hgd := e1
      simp [Act.eval] at e0
      exact ⟨_, rfl, .inl ⟨(wanted_of rfl rfl hgd).trans rfl, Does.val (by simp [execOp, Act.eval, e0, go_sem]) rfl⟩⟩
     ·obtain ⟨k0, k1, -⟩ := hp
      have e0 : a.eval (.tmp 83) = .bool false := k0
      have e1 : a.eval (.tmp 91) = .bool false := k1
      simp [Act.eval] at e0
      simp [Act.eval] at e1
      exact ⟨_, rfl, .inl ⟨wanted_none rfl, Does.val (by simp [execOp, Act.eval, e0, e1, go_sem]) rfl⟩⟩
    ·intro val wx hB hsp hdis
     have e41 : val 41 = .bool false := hsp 41 (by omega)
     rw [← HF.out]
     change wpList _ _ _ [] _ _
     simp only [puts, vals, List.map_cons, List.map_nil, List.foldl_cons, List.foldl_nil, if_true, Nat.zero_add, Nat.reduceAdd, e41, List.setIfInBounds_toArray, List.set_cons_succ, List.set_cons_zero]
     clear hsp hdis HF e41
     clear ev3 ev4 ev5 ev6 ev9 ev10
     obtain ⟨w149, rfl⟩ : ∃ W : World, W = wx := ⟨_, rfl⟩
     have HS150 := Lib.hid hB
     have k0K := Lib.hid (Blw k0J.out hB)
     clear hB
     go_upto_region 13 with fail
     go_upto_region 13 with fail
     generalize hW : w149.drew = W152
     have hB : Below w149.heap.size w149 W152 := by rw [← hW]; exact (Below.refl _ _).drew
     have HS153 := Lib.hid hB
     have k0L := Lib.hid (Blw k0K.out hB)
     clear hB
     have k0m := ((kj.below HS150.out).below HS153.out)
     have k0n := ((((((k09.below HS102.out).below HS106.out).below HS125.out).below HS128.out).below HS150.out).below HS153.out)
     have k0o := ((((((k0a.below HS102.out).below HS106.out).below HS125.out).below HS128.out).below HS150.out).below HS153.out)
     have k0p := Lib.hid ((kk.out.kp (.of HS150.out)).kp (.of HS153.out))
     have k0q := Lib.hid ((((((((((F41.out.kp (.of HS44.out)).kp (.of HS48.out)).kp (.of HS53.out)).kp (.of HS76.out)).kp (.of HS102.out)).kp (.of HS106.out)).kp (.of HS125.out)).kp (.of HS128.out)).kp (.of HS150.out)).kp (.of HS153.out))
     have k0r := Lib.hid ((((((((F50.out.kp (.of HS53.out)).kp (.of HS76.out)).kp (.of HS102.out)).kp (.of HS106.out)).kp (.of HS125.out)).kp (.of HS128.out)).kp (.of HS150.out)).kp (.of HS153.out))
     have kM := ((kn.below HS150.out).below HS153.out)
     have kN := Lib.hid ((ko.out.kp (.of HS150.out)).kp (.of HS153.out))
     have k0M := ((kI.below HS150.out).below HS153.out)
     have k0N := Lib.hid ((kJ.out.kp (.of HS150.out)).kp (.of HS153.out))
     have k0O := ((kK.below HS150.out).below HS153.out)
     have k0P := Lib.hid ((kL.out.kp (.of HS150.out)).kp (.of HS153.out))
     generalize hF : ({ tmps := _, defers := _ } : Act) = F
     have ev3 : F.eval (.tmp 3) = .pointer (some ⟨w1.heap.size, 0, none⟩) := by rw [← hF]; rfl
     have ev6 : F.eval (.tmp 6) = .pointer (some ⟨w28.heap.size, 0, none⟩) := by rw [← hF]; rfl
     have ev7 : F.eval (.tmp 7) = .pointer (some ⟨w37.heap.size, 0, none⟩) := by rw [← hF]; rfl
     have ev8 : F.eval (.tmp 8) = .pointer (some ⟨w46.heap.size, 0, none⟩) := by rw [← hF]; rfl
     have ev9 : F.eval (.tmp 9) = .pointer (some ⟨g73_3, 0, none⟩) := by rw [← hF]; rfl
     have ev10 : F.eval (.tmp 10) = .pointer (some ⟨g99_2, 0, none⟩) := by rw [← hF]; rfl
     have HF := Lib.hid hF; clear hF
     refine wp_flow_tabG true hW 29 [(93, []), (94, []), (95, []), (96, [0, 1, 2]), (97, []), (98, []), (99, [4, 5]), (100, []), (101, []), (102, [7, 8]), (103, []), (104, []), (105, [10, 11]), (106, [6, 9, 12]), (107, [3, 13]), (108, [14]), (109, [15]), (110, [16, 15]), (111, [17, 15]), (112, [15, 18]), (113, [19]), (114, [20]), (115, [21, 20]), (116, [22, 20]), (117, [20, 23]), (118, [24]), (119, [25]), (120, [25, 26]), (2, [27])] [SC (.agg #[aac0, aac1, aac2, aac3, aac4, aac5, aac6, aac7]), SC (.agg #[bbc0, bbc1, bbc2, bbc3, bbc4, bbc5, bbc6, bbc7]), SC (.agg #[ccc0, ccc1, ccc2, ccc3, ccc4, ccc5, ccc6, ccc7]), SC (.int .i64 (vside aa bb cc)), SC (.agg #[pc0, pc1, pc2, pc3, pc4, pc5, pc6, pc7, pc8, pc9, pc10, pc11, pc12, pc13, pc14, pc15]), SC (.agg #[aac0, aac1, aac2, aac3, aac4, aac5, aac6, aac7]), SV (vput p aa), SC (.agg #[pc0, pc1, pc2, pc3, pc4, pc5, pc6, pc7, pc8, pc9, pc10, pc11, pc12, pc13, pc14, pc15]), SC (.agg #[bbc0, bbc1, bbc2, bbc3, bbc4, bbc5, bbc6, bbc7]), SV (vput p bb), SC (.agg #[pc0, pc1, pc2, pc3, pc4, pc5, pc6, pc7, pc8, pc9, pc10, pc11, pc12, pc13, pc14, pc15]), SC (.agg #[ccc0, ccc1, ccc2, ccc3, ccc4, ccc5, ccc6, ccc7]), SV (vput p cc), SC (.int .i64 (vside aa bb cc)), SC (.bool true), SC (.bool true), SC (.pointer (some ⟨g73_3, 0, none⟩)), SC (.agg #[x0, x1, x2, x3, x4, x5, x6, x7]), SC (.bool true), SC (.bool true), SC (.bool true), SC (.pointer (some ⟨g99_2, 0, none⟩)), SC (.agg #[y0, y1, y2, y3, y4, y5, y6, y7]), SC (.bool true), SC (.bool true), SC (.bool true), SC (.bool true), SC (.bool true), SC (.bool true)] [false, false, false, false, false, false, false, false, false, false, false, false, false, false, false, false, false, false, false, false, false, false, false, false, false, false, false, false, false] (by kernel_rfl) (by kernel_rfl) (by kernel_rfl) (by kernel_rfl) (by kernel_rfl) (by rw [← HF.out]; simp) ⟨SC.mono _, SC.mono _, SC.mono _, SC.mono _, SC.mono _, SC.mono _, SV.mono _, SC.mono _, SC.mono _, SV.mono _, SC.mono _, SC.mono _, SV.mono _, SC.mono _, SC.mono _, SC.mono _, SC.mono _, SC.mono _, SC.mono _, SC.mono _, SC.mono _, SC.mono _, SC.mono _, SC.mono _, SC.mono _, SC.mono _, SC.mono _, SC.mono _, SC.mono _, trivial⟩ ?_ ?_
     ·intro kq hkq a wx hB hp hs
      have hcase : kq = 0 ∨ kq = 1 ∨ kq = 2 ∨ kq = 3 ∨ kq = 4 ∨ kq = 5 ∨ kq = 6 ∨ kq = 7 ∨ kq = 8 ∨ kq = 9 ∨ kq = 10 ∨ kq = 11 ∨ kq = 12 ∨ kq = 13 ∨ kq = 14 ∨ kq = 15 ∨ kq = 16 ∨ kq = 17 ∨ kq = 18 ∨ kq = 19 ∨ kq = 20 ∨ kq = 21 ∨ kq = 22 ∨ kq = 23 ∨ kq = 24 ∨ kq = 25 ∨ kq = 26 ∨ kq = 27 ∨ kq = 28 := by omega
      rcases hcase with rfl | rfl | rfl | rfl | rfl | rfl | rfl | rfl | rfl | rfl | rfl | rfl | rfl | rfl | rfl | rfl | rfl | rfl | rfl | rfl | rfl | rfl | rfl | rfl | rfl | rfl | rfl | rfl | rfl
      ·exact ⟨_, rfl, .inl ⟨wanted_none rfl, ld_Vec rfl ((hs 6 rfl).trans ev6) (k0m.below hB) rfl rfl rfl rfl rfl rfl rfl rfl⟩⟩
      ·exact ⟨_, rfl, .inl ⟨wanted_none rfl, ld_Vec rfl ((hs 7 rfl).trans ev7) (k0n.below hB) rfl rfl rfl rfl rfl rfl rfl rfl⟩⟩
      ·exact ⟨_, rfl, .inl ⟨wanted_none rfl, ld_Vec rfl ((hs 8 rfl).trans ev8) (k0o.below hB) rfl rfl rfl rfl rfl rfl rfl rfl⟩⟩
      ·obtain ⟨k0, k1, k2, -⟩ := hp
       exact ⟨_, rfl, .inl ⟨wanted_none rfl, Does.rc (f := 16) (call3 rfl (fun _ => by simp [go_sem]) k0 k1 k2) (vside_any 7 aac0 aac1 aac2 aac3 aac4 aac5 aac6 aac7 bbc0 bbc1 bbc2 bbc3 bbc4 bbc5 bbc6 bbc7 ccc0 ccc1 ccc2 ccc3 ccc4 ccc5 ccc6 ccc7 aa bb cc wx (k0p.out.kp (.of hB)) (k0q.out.kp (.of hB)) (k0r.out.kp (.of hB)) HBaa.out HBbb.out HBcc.out (by omega))⟩⟩
      ·exact ⟨_, rfl, .inl ⟨wanted_none rfl, ld_Place rfl ((hs 3 rfl).trans ev3) (kM.below hB) rfl rfl rfl rfl rfl rfl rfl rfl rfl rfl rfl rfl rfl rfl rfl rfl⟩⟩
      ·exact ⟨_, rfl, .inl ⟨wanted_none rfl, ld_Vec rfl ((hs 6 rfl).trans ev6) (k0m.below hB) rfl rfl rfl rfl rfl rfl rfl rfl⟩⟩
      ·obtain ⟨k0, k1, -⟩ := hp
       exact ⟨_, rfl, .inl ⟨wanted_none rfl, Does.rv (f := 10) (call2 rfl (fun _ => by simp [go_sem]) k0 k1) (vput_any 7 7 pc0 pc1 pc2 pc3 pc4 pc5 pc6 pc7 pc8 pc9 pc10 pc11 pc12 pc13 pc14 pc15 aac0 aac1 aac2 aac3 aac4 aac5 aac6 aac7 (p) (aa) wx (kN.out.kp (.of hB)) (k0p.out.kp (.of hB)) HBp.out HBaa.out (by omega))⟩⟩
      ·exact ⟨_, rfl, .inl ⟨wanted_none rfl, ld_Place rfl ((hs 3 rfl).trans ev3) (kM.below hB) rfl rfl rfl rfl rfl rfl rfl rfl rfl rfl rfl rfl rfl rfl rfl rfl⟩⟩
      ·exact ⟨_, rfl, .inl ⟨wanted_none rfl, ld_Vec rfl ((hs 7 rfl).trans ev7) (k0n.below hB) rfl rfl rfl rfl rfl rfl rfl rfl⟩⟩
      ·obtain ⟨k0, k1, -⟩ := hp
       exact ⟨_, rfl, .inl ⟨wanted_none rfl, Does.rv (f := 10) (call2 rfl (fun _ => by simp [go_sem]) k0 k1) (vput_any 7 7 pc0 pc1 pc2 pc3 pc4 pc5 pc6 pc7 pc8 pc9 pc10 pc11 pc12 pc13 pc14 pc15 bbc0 bbc1 bbc2 bbc3 bbc4 bbc5 bbc6 bbc7 (p) (bb) wx (kN.out.kp (.of hB)) (k0q.out.kp (.of hB)) HBp.out HBbb.out (by omega))⟩⟩
      ·exact ⟨_, rfl, .inl ⟨wanted_none rfl, ld_Place rfl ((hs 3 rfl).trans ev3) (kM.below hB) rfl rfl rfl rfl rfl rfl rfl rfl rfl rfl rfl rfl rfl rfl rfl rfl⟩⟩
      ·exact ⟨_, rfl, .inl ⟨wanted_none rfl, ld_Vec rfl ((hs 8 rfl).trans ev8) (k0o.below hB) rfl rfl rfl rfl rfl rfl rfl rfl⟩⟩
      ·obtain ⟨k0, k1, -⟩ := hp
       exact ⟨_, rfl, .inl ⟨wanted_none rfl, Does.rv (f := 10) (call2 rfl (fun _ => by simp [go_sem]) k0 k1) (vput_any 7 7 pc0 pc1 pc2 pc3 pc4 pc5 pc6 pc7 pc8 pc9 pc10 pc11 pc12 pc13 pc14 pc15 ccc0 ccc1 ccc2 ccc3 ccc4 ccc5 ccc6 ccc7 (p) (cc) wx (kN.out.kp (.of hB)) (k0r.out.kp (.of hB)) HBp.out HBcc.out (by omega))⟩⟩
      ·obtain ⟨k0, k1, k2, -⟩ := hp
       obtain ⟨d0, d1, d2, d3, d4, d5, d6, d7, e0, h_d⟩ := k0
       replace e0 : a.eval (.tmp 99) = .agg #[d0, d1, d2, d3, d4, d5, d6, d7] := e0
       obtain ⟨e_0, e_1, e_2, e_3, e_4, e_5, e_6, e_7, e1, h_e_⟩ := k1
       replace e1 : a.eval (.tmp 102) = .agg #[e_0, e_1, e_2, e_3, e_4, e_5, e_6, e_7] := e1
       obtain ⟨f_0, f_1, f_2, f_3, f_4, f_5, f_6, f_7, e2, h_f_⟩ := k2
       replace e2 : a.eval (.tmp 105) = .agg #[f_0, f_1, f_2, f_3, f_4, f_5, f_6, f_7] := e2
       exact ⟨_, rfl, .inl ⟨wanted_none rfl, Does.rc (f := 16) (call3 rfl (fun _ => by simp [go_sem]) e0 e1 e2) ((side_put HUp.out) ▸ vside_any 44 d0 d1 d2 d3 d4 d5 d6 d7 e_0 e_1 e_2 e_3 e_4 e_5 e_6 e_7 f_0 f_1 f_2 f_3 f_4 f_5 f_6 f_7 (vput p aa) (vput p bb) (vput p cc) wx h_d h_e_ h_f_ (HBp.out.put HBaa.out) (HBp.out.put HBbb.out) (HBp.out.put HBcc.out) (by omega))⟩⟩
      ·obtain ⟨k0, k1, -⟩ := hp
       have e0 : a.eval (.tmp 96) = .int .i64 (vside aa bb cc) := k0
       have e1 : a.eval (.tmp 106) = .int .i64 (vside aa bb cc) := k1
       simp [Act.eval] at e0
       simp [Act.eval] at e1
       exact ⟨_, rfl, .inl ⟨wanted_none rfl, Does.val (by simp [execOp, Act.eval, e0, e1, go_sem]) rfl⟩⟩
      ·obtain ⟨k0, -⟩ := hp
       have e0 : a.eval (.tmp 107) = .bool true := k0
       simp [Act.eval] at e0
       exact ⟨_, rfl, .inl ⟨wanted_none rfl, Does.val (by simp [execOp, Act.eval, e0, go_sem]) rfl⟩⟩
      ·obtain ⟨k0, -⟩ := hp
       have e0 : a.eval (.tmp 108) = .bool true := k0
       have hgd := e0
       exact ⟨_, rfl, .inl ⟨(wanted_of rfl rfl hgd).trans rfl, fa_Place0 rfl ((hs 9 rfl).trans ev9)⟩⟩
      ·obtain ⟨k0, k1, -⟩ := hp
       have e1 : a.eval (.tmp 108) = .bool true := k1
       have hgd := e1
       exact ⟨_, rfl, .inl ⟨(wanted_of rfl rfl hgd).trans rfl, ld_Turn rfl k0 (k0M.below hB) rfl rfl rfl rfl rfl rfl rfl rfl⟩⟩
      ·obtain ⟨k0, k1, -⟩ := hp
       have e0 : a.eval (.tmp 110) = .agg #[x0, x1, x2, x3, x4, x5, x6, x7] := k0
       have e1 : a.eval (.tmp 108) = .bool true := k1
       have hgd := e1
       exact ⟨_, rfl, .inl ⟨(wanted_of rfl rfl hgd).trans rfl, Does.rc (f := 17) (call1 rfl (fun _ => by simp [go_sem]) e0) (tvalid_any 44 x0 x1 x2 x3 x4 x5 x6 x7 (vcmp p q).1 wx ((k0N.out.kp (.of hB))).1 (HBp.out.cmp HBq.out).1 (by omega) true (truu (u_cmp HUp.out HUq.out)))⟩⟩
      ·obtain ⟨k0, k1, -⟩ := hp
       have e0 : a.eval (.tmp 108) = .bool true := k0
       have e1 : a.eval (.tmp 111) = .bool true := k1
       simp [Act.eval] at e0
       simp [Act.eval] at e1
       exact ⟨_, rfl, .inl ⟨wanted_none rfl, Does.val (by simp [execOp, Act.eval, e0, e1, go_sem]) rfl⟩⟩
      ·obtain ⟨k0, -⟩ := hp
       have e0 : a.eval (.tmp 112) = .bool true := k0
       simp [Act.eval] at e0
       exact ⟨_, rfl, .inl ⟨wanted_none rfl, Does.val (by simp [execOp, Act.eval, e0, go_sem]) rfl⟩⟩
      ·obtain ⟨k0, -⟩ := hp
       have e0 : a.eval (.tmp 113) = .bool true := k0
       have hgd := e0
       exact ⟨_, rfl, .inl ⟨(wanted_of rfl rfl hgd).trans rfl, fa_Place0 rfl ((hs 10 rfl).trans ev10)⟩⟩
      ·obtain ⟨k0, k1, -⟩ := hp
       have e1 : a.eval (.tmp 113) = .bool true := k1
       have hgd := e1
       exact ⟨_, rfl, .inl ⟨(wanted_of rfl rfl hgd).trans rfl, ld_Turn rfl k0 (k0O.below hB) rfl rfl rfl rfl rfl rfl rfl rfl⟩⟩
      ·obtain ⟨k0, k1, -⟩ := hp
       have e0 : a.eval (.tmp 115) = .agg #[y0, y1, y2, y3, y4, y5, y6, y7] := k0
       have e1 : a.eval (.tmp 113) = .bool true := k1
       have hgd := e1
       exact ⟨_, rfl, .inl ⟨(wanted_of rfl rfl hgd).trans rfl, Does.rc (f := 17) (call1 rfl (fun _ => by simp [go_sem]) e0) (tvalid_any 31 y0 y1 y2 y3 y4 y5 y6 y7 (vinv p).1 wx ((k0P.out.kp (.of hB))).1 HBp.out.inv.1 (by omega) true (truu (u_inv HUp.out)))⟩⟩
      ·obtain ⟨k0, k1, -⟩ := hp
       have e0 : a.eval (.tmp 113) = .bool true := k0
       have e1 : a.eval (.tmp 116) = .bool true := k1
       simp [Act.eval] at e0
       simp [Act.eval] at e1
       exact ⟨_, rfl, .inl ⟨wanted_none rfl, Does.val (by simp [execOp, Act.eval, e0, e1, go_sem]) rfl⟩⟩
      ·obtain ⟨k0, -⟩ := hp
       have e0 : a.eval (.tmp 117) = .bool true := k0
       simp [Act.eval] at e0
       exact ⟨_, rfl, .inl ⟨wanted_none rfl, Does.val (by simp [execOp, Act.eval, e0, go_sem]) rfl⟩⟩
      ·obtain ⟨k0, -⟩ := hp
       have e0 : a.eval (.tmp 118) = .bool true := k0
       have hgd := e0
       exact ⟨_, rfl, .inl ⟨(wanted_of rfl rfl hgd).trans rfl, Does.rc (f := 18) (call0 rfl (fun _ => by simp [go_sem])) (lives_any wx)⟩⟩
      ·obtain ⟨k0, k1, -⟩ := hp
       have e0 : a.eval (.tmp 118) = .bool true := k0
       have e1 : a.eval (.tmp 119) = .bool true := k1
       simp [Act.eval] at e0
       simp [Act.eval] at e1
       exact ⟨_, rfl, .inl ⟨wanted_none rfl, Does.val (by simp [execOp, Act.eval, e0, e1, go_sem]) rfl⟩⟩
      ·obtain ⟨k0, -⟩ := hp
       have e0 : a.eval (.tmp 120) = .bool true := k0
       simp [Act.eval] at e0
       exact ⟨_, rfl, .inl ⟨wanted_none rfl, Does.val (by simp [execOp, Act.eval, e0, go_sem]) rfl⟩⟩
     ·intro val wx hB hsp hdis
      have e28 : val 28 = .bool true := hsp 28 (by omega)
      rw [← HF.out]
      change wpList _ _ _ [] _ _
      simp only [puts, vals, List.map_cons, List.map_nil, List.foldl_cons, List.foldl_nil, if_true, Nat.zero_add, Nat.reduceAdd, e28, List.setIfInBounds_toArray, List.set_cons_succ, List.set_cons_zero]
      clear hsp hdis HF e28
      clear ev3 ev6 ev7 ev8 ev9 ev10
      obtain ⟨w174, rfl⟩ : ∃ W : World, W = wx := ⟨_, rfl⟩
      have HS175 := Lib.hid hB
      have k0Q := Lib.hid (Blw k0L.out hB)
      clear hB
      go_wp2
      go_ret
      exact ⟨rfl, k0Q.out⟩
end Go.Proofs.YtonkbckgbfcnkaaGreat
namespace Go.Proofs.YtonkbckgbfcnkaaGreat
open Go.RowKit
theorem law_places (A : Option Addr) (len cap : Nat) (l : List Int) (w : World) (hs : IsI w A len cap l) :
  Calls Tryz.prog 3 #[.slice A len cap] w fun e w' => e = .returned (.bool true) ∧ Below w.heap.size w w' :=
 places_walk _ l  w ⟨A, len, cap, rfl, hs.2.1, hs.2.2.1, hs.2.2.2.1, hs.1⟩ hs.2.2.2.2
end Go.Proofs.YtonkbckgbfcnkaaGreat
namespace Go.Proofs.YtonkbckgbfcnkaaGreat.planePlaces
open Go.ChangeShapes Go.WideShapes Go.ChangeAt Go.RowKit
open Go.ChangeMaps (open_string shut_string)
set_option linter.unusedVariables false
theorem own : ownKnob Tryz.prog.godebug = none := by kernel_rfl
theorem laidOut : laidOutB Tryz.prog = true := by kernel_rfl
set_option maxRecDepth 100000 in
theorem lifted (os : Os) (started : os.Started) (H : Type) (enc : TypeId × Value → H) :
  ReturnsInHanded {} Tryz.checked os 3 .any (Rows.planePlacesSpec.pre6 enc Tryz.prog Tryz.f3 Rows.planePlacesRow.domain false) (Rows.planePlacesSpec.post enc Tryz.prog Tryz.f3 false true false false) := by
 refine returnsInHanded_of_change (C := Tryz.checked) own started (by kernel_rfl) Tryz.func3
  (ChangeSpec.witness6 (enc := enc) (C := Tryz.checked) false ⟨#[], #[.slice none 0 0], []⟩ 8 (by kernel_rfl) (by kernel_rfl) (by kernel_rfl) (by kernel_rfl)) ?_
 intro W base args ds gs before hval0 hW hcnd _
 have hval : ∀ (j : Nat) t v, Tryz.f3.params[j]? = some t → args[j]? = some v → Value.okWide Tryz.prog W .any base t v := hval0
 have hW' := hW
 obtain ⟨p, q, hA0, hV, rfl, hfz, hnd⟩ := hW
 have hA : DataW.TrodAll enc Tryz.prog W 0 (fun _ => true) true Tryz.f3.params.toList args.toList ds p := hA0
 rw [Tryz.params3] at hA hval
 obtain ⟨v0, vs0, d0, ds0, p0, q0, hargs, rfl, rfl, h0, r0⟩ := trodAll_cons hA
 obtain ⟨rfl, rfl, rfl⟩ := trodAll_nil r0
 obtain rfl : args = #[v0] := by cases args; simp_all
 obtain ⟨rfl, rfl⟩ := trodVars_none hV
 obtain ⟨a0, len0, cap0, rfl⟩ := okWide_slice Tryz.underlying22 (hval 0 22 v0 rfl rfl)
 have k0 := h0
 have lt0 : ∀ x ∈ p0, x.block < W.heap.size := by obtain ⟨m, hm⟩ := k0; exact DataW.trod_lt m _ _ _ hm
 obtain ⟨z0, w0⟩ : ∃ zs, IsI W a0 len0 cap0 zs := by
  obtain ⟨fuel, hf⟩ := h0
  rcases open_ints Tryz.underlying22 Tryz.underlying3 (by kernel_rfl) hf with ⟨hcs, _⟩ | ⟨x, l, c, zs, hcs, _, hl, hm, hz, _, hcell, hwz⟩
  ·simp [Value.cells] at hcs
   obtain ⟨rfl, rfl, rfl⟩ := hcs
   exact ⟨[], isI_nil _⟩
  ·simp [Value.cells] at hcs
   obtain ⟨rfl, rfl, rfl⟩ := hcs
   exact isI_of hl hm (by simpa using hz) hcell hwz
 clear hA0 hval0
 refine (law_places a0 len0 cap0 z0 W w0).mono fun e W' ⟨he, bel⟩ => ?_
 subst he
 exact ⟨_, rfl, _, _, _, [], _, [], hW', trodAll_mk1 (shut_bool Tryz.underlying4 _), (trodAll_cons_mk (Below.trod laidOut (by kernel_rfl) (of_decide_eq_true (by kernel_rfl)) k0 bel lt0) trodAll_mk0), rfl, bel.frame _, fun h => by cases h⟩
theorem over : Rows.planePlacesRow.holds Tryz.pinned (OpenSpec.ofChange Rows.planePlacesSpec) :=
 OpenClaim.holds_of_wide 3 Tryz.f3 rfl rfl rfl rfl rfl rfl rfl ⟨rfl, rfl, rfl, rfl, rfl⟩ rfl rfl rfl rfl rfl (by kernel_rfl) Tryz.func3 (by kernel_rfl)
  (of_decide_eq_true (by kernel_rfl)) (by unfold Func.isWrapper; first | (rw [if_pos (by decide +kernel)]; kernel_rfl) | (rw [if_neg (by decide +kernel)]; exact ⟨rfl, rfl⟩))
  (fun os started H enc _ => lifted os started H enc)
theorem proved : Rows.PlanePlacesSaid := over
#print axioms proved
end Go.Proofs.YtonkbckgbfcnkaaGreat.planePlaces
