/-
 THE LAW PlaneVectors: for every input it returns true, and each argument reads afterwards as it read before. Its walk: LawVectorsI; here the row's step.
-/
import Derived.Test.YtonkbckgbfcnkaaMemI
import Derived.OpenShut
import Derived.Test.YtonkbckgbfcnkaaWalkLives
import Derived.Test.YtonkbckgbfcnkaaWalkRDot
import Derived.Test.YtonkbckgbfcnkaaRef5A
import Derived.Test.YtonkbckgbfcnkaaRef5D
import Derived.Test.YtonkbckgbfcnkaaNew
import Derived.WalkKit
import Derived.ProofKit
import Derived.ShutString
import Derived.ChangeOld
import Derived.Below
import Derived.SizedLaws
namespace Go.Proofs.Ytonkbckgbfcnkaa
open Go.RowKit
/-- What is told of a slice of ints that came in. -/
def IsI (w : World) (a : Option Addr) (len cap : Nat) (l : List Int) : Prop := Rd w w.heap.size a (il l) ∧ len = l.length ∧ len ≤ cap ∧ cap ≤ maxLen ∧ ∀ x ∈ l, W.Is64 x
theorem isI_of {w : World} {x : Addr} {len cap : Nat} {zs : List Int} (hl : len ≤ cap) (hm : cap ≤ maxLen) (hz : zs.length = cap) (hcell : ∀ i, i < zs.length → w.cell? (x.add i) = some (.int .i64 (zs.getD i 0))) (hwf : ∀ n ∈ zs, (Lit.int .i64 n).wf = true) :
  ∃ l, IsI w (some x) len cap l := by
 refine ⟨zs.take len, ?_, by simp; omega, hl, hm, ?_⟩
 ·intro hn
  simp at hn
  obtain ⟨b, o, rfl, hc⟩ := ints_at hcell (by omega)
  refine ⟨b, o, rfl, ?_, fun j u hu => ?_⟩
  ·exact World.block_lt_of_cell? w ⟨b, o + 0, none⟩ (hc 0 (by omega))
  ·have hj : j < (il (zs.take len)).length := (List.getElem?_eq_some_iff.1 hu).1
   simp at hj
   rw [hc j (by omega), ← hu]
   have hjz : j < zs.length := by omega
   simp only [il]
   rw [List.getElem?_map, List.getElem?_take, if_pos (by omega), List.getElem?_eq_getElem hjz]
   simp only [Option.map_some, List.getD, List.getElem?_eq_getElem hjz, Option.getD_some]
 ·intro n hn
  have hwj := hwf n (List.mem_of_mem_take hn)
  have := bounds_i64 hwj
  unfold W.Is64
  omega
theorem isI_nil (w : World) : IsI w none 0 0 [] := ⟨Rd.nil _ _ _, rfl, Nat.le_refl _, by decide, by simp⟩
theorem is64_of {n : Int} (h : (Lit.int .i64 n).wf = true) : W.Is64 n := by
 have := bounds_i64 h
 unfold W.Is64
 omega
end Go.Proofs.Ytonkbckgbfcnkaa
namespace Go.Proofs.Ytonkbckgbfcnkaa
set_option maxHeartbeats 16000000
open Go.RowKit
attribute [local go_sem] run_store_one
set_option linter.unusedVariables false
theorem dot_two (a b : Rat × Rat) : vdot a b = rsum (mulL [a.1, a.2] [b.1, b.2]) := by
 simp [rsum, mulL, vdot, Rat.zero_add]
theorem tru {a b : Rat × Rat} (h : a = b) : true = decide (a = b) := (decide_eq_true h).symm
theorem truq {a b : Rat} (h : a = b) : true = decide (a = b) := (decide_eq_true h).symm
set_option maxRecDepth 100000 in
theorem vectors_walk (sl : Value) (l : List Int) (n m : Int) (w : World) (hs : Sr w sl l) (hl : ∀ x ∈ l, W.Is64 x) (hn : W.Is64 n) (hm : W.Is64 m) :
  Calls Try.prog 6 #[sl, .int .i64 n, .int .i64 m] w fun e w' => e = .returned (.bool true) ∧ Below w.heap.size w w' := by
 have HS := Lib.hid hs; have HL := Lib.hid hl; have HN := Lib.hid hn; have HM := Lib.hid hm
 have H1 := Lib.hid (show W.Is64 1 from ⟨by omega, by omega⟩)
 clear hs hl hn hm
 go_enter Try.func6, Try.ntmps6
 go_wp2_with fail
 have HBREFL := Lib.hid (Below.refl w.heap.size w)
 have kh := vec_any sl l 0 w (HS.out.below HBREFL.out) HL.out (by omega) (by omega)
 (with_reducible refine kh.mono ?_)
 clear kh
 rintro e w1 ⟨aa, hb7aa, aac0, aac1, aac2, aac3, aac4, aac5, aac6, aac7, rfl, kb, kc⟩
 have HBaa := Lib.hid hb7aa; clear hb7aa
 have HS3 := Lib.hid kc
 have kt := Lib.hid (Blw HBREFL.out kc)
 have F5 := Lib.hid kb
 obtain ⟨o_aac0, o_aac1, o_aac2, o_aac3, o_aac4, o_aac5, o_aac6, o_aac7⟩ := kb.ones
 clear kb kc
 dsimp only
 go_step
 refine new_Vec rfl rfl rfl rfl rfl rfl rfl (by simp) rfl o_aac0 o_aac1 o_aac2 o_aac3 o_aac4 o_aac5 o_aac6 o_aac7 (fun W6 hx7 hB => ?_)
 simp only [Act.put, List.setIfInBounds_toArray, List.set_cons_succ, List.set_cons_zero]
 have HS8 := Lib.hid hB
 have ki := Lib.hid (Blw kt.out hB)
 clear hB
 obtain ⟨kM, kN, kO, kP, kQ, kR, kS, kT, kU, kv⟩ := hx7.f8
 go_wp2_with fail
 have kj := vec_any sl l 2 W6 (HS.out.below ki.out) HL.out (by omega) (by omega)
 (with_reducible refine kj.mono ?_)
 clear kj
 rintro e w20 ⟨bb, hb7bb, bbc0, bbc1, bbc2, bbc3, bbc4, bbc5, bbc6, bbc7, rfl, kd, ke⟩
 have HBbb := Lib.hid hb7bb; clear hb7bb
 clear kv
 have HS22 := Lib.hid ke
 have kw := Lib.hid (Blw ki.out ke)
 have kx := Lib.hid kd
 obtain ⟨o_bbc0, o_bbc1, o_bbc2, o_bbc3, o_bbc4, o_bbc5, o_bbc6, o_bbc7⟩ := kd.ones
 clear kd ke
 dsimp only
 go_step
 refine new_Vec rfl rfl rfl rfl rfl rfl rfl (by simp) rfl o_bbc0 o_bbc1 o_bbc2 o_bbc3 o_bbc4 o_bbc5 o_bbc6 o_bbc7 (fun W25 hx26 hB => ?_)
 simp only [Act.put, List.setIfInBounds_toArray, List.set_cons_succ, List.set_cons_zero]
 have HS27 := Lib.hid hB
 have ky := Lib.hid (Blw kw.out hB)
 clear hB
 have kl := ((hx7.below HS22.out).below HS27.out)
 obtain ⟨kV, kW, kX, kY, kZ, k00, k01, k02, k03, kz⟩ := kl.f8
 obtain ⟨k04, k05, k06, k07, k08, k09, k0a, k0b, k0c, kA⟩ := hx26.f8
 go_wp2_with fail
 have km := number_any n W25 HN.out
 (with_reducible refine km.mono ?_)
 clear km
 rintro e w51 ⟨kk, hb7kk, kkc0, kkc1, kkc2, kkc3, rfl, kf, kg⟩
 have HBkk := Lib.hid hb7kk; clear hb7kk
 clear kz kA
 have HS53 := Lib.hid kg
 have kB := Lib.hid (Blw ky.out kg)
 have kC := Lib.hid kf
 obtain ⟨o_kkc0, o_kkc1, o_kkc2, o_kkc3⟩ := kf.ones
 clear kf kg
 dsimp only
 go_step
 refine new_Rat rfl rfl rfl rfl rfl rfl rfl (by simp) rfl o_kkc0 o_kkc1 o_kkc2 o_kkc3 (fun W56 hx57 hB => ?_)
 simp only [Act.put, List.setIfInBounds_toArray, List.set_cons_succ, List.set_cons_zero]
 have HS58 := Lib.hid hB
 have kD := Lib.hid (Blw kB.out hB)
 clear hB
 have kn := ((kl.below HS53.out).below HS58.out)
 obtain ⟨k0d, k0e, k0f, k0g, k0h, k0i, k0j, k0k, k0l, kE⟩ := kn.f8
 have ko := ((hx26.below HS53.out).below HS58.out)
 obtain ⟨k0m, k0n, k0o, k0p, k0q, k0r, k0s, k0t, k0u, kF⟩ := ko.f8
 obtain ⟨k0v, k0w, k0x, k0y, k0z, kG⟩ := hx57.f4
 go_upto_region 4 with fail
 go_upto_region 4 with fail
 generalize hW : W56.drew = W90
 have hB : Below W56.heap.size W56 W90 := by rw [← hW]; exact (Below.refl _ _).drew
 clear kE kF kG
 have HS91 := Lib.hid hB
 have kH := Lib.hid (Blw kD.out hB)
 clear hB
 have k3 := (kn.below HS91.out)
 have k9 := (ko.below HS91.out)
 have k4 := Lib.hid ((((((F5.out.kp (.of HS8.out)).kp (.of HS22.out)).kp (.of HS27.out)).kp (.of HS53.out)).kp (.of HS58.out)).kp (.of HS91.out))
 have ka := Lib.hid ((((kx.out.kp (.of HS27.out)).kp (.of HS53.out)).kp (.of HS58.out)).kp (.of HS91.out))
 have kr := (hx57.below HS91.out)
 have ks := Lib.hid ((kC.out.kp (.of HS58.out)).kp (.of HS91.out))
 generalize hF : ({ tmps := _, defers := _ } : Act) = F
 have ev7 : F.eval (.tmp 7) = .pointer (some ⟨w1.heap.size, 0, none⟩) := by rw [← hF]; rfl
 have ev8 : F.eval (.tmp 8) = .pointer (some ⟨w20.heap.size, 0, none⟩) := by rw [← hF]; rfl
 have ev9 : F.eval (.tmp 9) = .pointer (some ⟨w51.heap.size, 0, none⟩) := by rw [← hF]; rfl
 have HF := Lib.hid hF; clear hF
 refine wp_flow_tabG true hW 28 [(16, []), (17, []), (18, [0, 1]), (19, []), (20, []), (21, [3, 4]), (22, [2, 5]), (23, [6]), (24, [7]), (25, [8]), (26, [8]), (27, [9, 10, 8]), (28, [8]), (29, [8]), (30, [12, 13, 8]), (31, [11, 14, 8]), (32, [15, 8]), (33, [8, 16]), (34, [17]), (35, [18]), (36, [18]), (37, [19, 20, 18]), (38, [18]), (39, [18]), (40, [22, 23, 18]), (41, [21, 24, 18]), (42, [25, 18]), (43, [18, 26])] [SC (.agg #[aac0, aac1, aac2, aac3, aac4, aac5, aac6, aac7]), SC (.agg #[bbc0, bbc1, bbc2, bbc3, bbc4, bbc5, bbc6, bbc7]), SV (vadd aa bb), SC (.agg #[aac0, aac1, aac2, aac3, aac4, aac5, aac6, aac7]), SC (.agg #[bbc0, bbc1, bbc2, bbc3, bbc4, bbc5, bbc6, bbc7]), SV (vadd aa bb), SC (.bool true), SC (.bool false), SC (.bool false), SC (.agg #[aac0, aac1, aac2, aac3, aac4, aac5, aac6, aac7]), SC (.agg #[bbc0, bbc1, bbc2, bbc3, bbc4, bbc5, bbc6, bbc7]), SV (vsub aa bb), SC (.agg #[aac0, aac1, aac2, aac3, aac4, aac5, aac6, aac7]), SC (.agg #[bbc0, bbc1, bbc2, bbc3, bbc4, bbc5, bbc6, bbc7]), SV (vsub aa bb), SC (.bool true), SC (.bool false), SC (.bool false), SC (.bool false), SC (.agg #[aac0, aac1, aac2, aac3, aac4, aac5, aac6, aac7]), SC (.agg #[kkc0, kkc1, kkc2, kkc3]), SV (vsca aa kk), SC (.agg #[aac0, aac1, aac2, aac3, aac4, aac5, aac6, aac7]), SC (.agg #[kkc0, kkc1, kkc2, kkc3]), SV (vsca aa kk), SC (.bool true), SC (.bool false), SC (.bool false)] [false, false, false, false, false, false, false, false, false, false, false, false, false, false, false, false, false, false, false, false, false, false, false, false, false, false, false, false] (by kernel_rfl) (by kernel_rfl) (by kernel_rfl) (by kernel_rfl) (by kernel_rfl) (by rw [← HF.out]; simp) ⟨SC.mono _, SC.mono _, SV.mono _, SC.mono _, SC.mono _, SV.mono _, SC.mono _, SC.mono _, SC.mono _, SC.mono _, SC.mono _, SV.mono _, SC.mono _, SC.mono _, SV.mono _, SC.mono _, SC.mono _, SC.mono _, SC.mono _, SC.mono _, SC.mono _, SV.mono _, SC.mono _, SC.mono _, SV.mono _, SC.mono _, SC.mono _, SC.mono _, trivial⟩ ?_ ?_
 ·intro kq hkq a wx hB hp hs
  have hcase : kq = 0 ∨ kq = 1 ∨ kq = 2 ∨ kq = 3 ∨ kq = 4 ∨ kq = 5 ∨ kq = 6 ∨ kq = 7 ∨ kq = 8 ∨ kq = 9 ∨ kq = 10 ∨ kq = 11 ∨ kq = 12 ∨ kq = 13 ∨ kq = 14 ∨ kq = 15 ∨ kq = 16 ∨ kq = 17 ∨ kq = 18 ∨ kq = 19 ∨ kq = 20 ∨ kq = 21 ∨ kq = 22 ∨ kq = 23 ∨ kq = 24 ∨ kq = 25 ∨ kq = 26 ∨ kq = 27 := by omega
  rcases hcase with rfl | rfl | rfl | rfl | rfl | rfl | rfl | rfl | rfl | rfl | rfl | rfl | rfl | rfl | rfl | rfl | rfl | rfl | rfl | rfl | rfl | rfl | rfl | rfl | rfl | rfl | rfl | rfl
  ·exact ⟨_, rfl, .inl ⟨wanted_none rfl, ld_Vec rfl ((hs 7 rfl).trans ev7) (k3.below hB) rfl rfl rfl rfl rfl rfl rfl rfl⟩⟩
  ·exact ⟨_, rfl, .inl ⟨wanted_none rfl, ld_Vec rfl ((hs 8 rfl).trans ev8) (k9.below hB) rfl rfl rfl rfl rfl rfl rfl rfl⟩⟩
  ·obtain ⟨k0, k1, -⟩ := hp
   exact ⟨_, rfl, .inl ⟨wanted_none rfl, Does.rv (f := 31) (call2 rfl (fun _ => by simp [go_sem]) k0 k1) (vadd_any (7) (7) aac0 aac1 aac2 aac3 aac4 aac5 aac6 aac7 bbc0 bbc1 bbc2 bbc3 bbc4 bbc5 bbc6 bbc7 (aa) (bb) wx (k4.out.kp (.of hB)) (ka.out.kp (.of hB)) HBaa.out HBbb.out (by omega))⟩⟩
  ·exact ⟨_, rfl, .inl ⟨wanted_none rfl, ld_Vec rfl ((hs 7 rfl).trans ev7) (k3.below hB) rfl rfl rfl rfl rfl rfl rfl rfl⟩⟩
  ·exact ⟨_, rfl, .inl ⟨wanted_none rfl, ld_Vec rfl ((hs 8 rfl).trans ev8) (k9.below hB) rfl rfl rfl rfl rfl rfl rfl rfl⟩⟩
  ·obtain ⟨k0, k1, -⟩ := hp
   exact ⟨_, rfl, .inl ⟨wanted_none rfl, Does.rv (f := 32) (call2 rfl (fun _ => by simp [go_sem]) k0 k1) (vadd5_any (7) (7) aac0 aac1 aac2 aac3 aac4 aac5 aac6 aac7 bbc0 bbc1 bbc2 bbc3 bbc4 bbc5 bbc6 bbc7 (aa) (bb) wx (k4.out.kp (.of hB)) (ka.out.kp (.of hB)) HBaa.out HBbb.out (by omega))⟩⟩
  ·obtain ⟨k0, k1, -⟩ := hp
   obtain ⟨c0, c1, c2, c3, c4, c5, c6, c7, e0, h_c⟩ := k0
   replace e0 : a.eval (.tmp 18) = .agg #[c0, c1, c2, c3, c4, c5, c6, c7] := e0
   obtain ⟨d0, d1, d2, d3, d4, d5, d6, d7, e1, h_d⟩ := k1
   replace e1 : a.eval (.tmp 21) = .agg #[d0, d1, d2, d3, d4, d5, d6, d7] := e1
   exact ⟨_, rfl, .inl ⟨wanted_none rfl, Does.rc (f := 13) (call2 rfl (fun _ => by simp [go_sem]) e0 e1) (vsame_any c0 c1 c2 c3 c4 c5 c6 c7 d0 d1 d2 d3 d4 d5 d6 d7 _ _ wx h_c h_d true (tru rfl))⟩⟩
  ·obtain ⟨k0, -⟩ := hp
   have e0 : a.eval (.tmp 22) = .bool true := k0
   simp [Act.eval] at e0
   exact ⟨_, rfl, .inl ⟨wanted_none rfl, Does.val (by simp [execOp, Act.eval, e0, go_sem]) rfl⟩⟩
  ·obtain ⟨k0, -⟩ := hp
   have e0 : a.eval (.tmp 23) = .bool false := k0
   simp [Act.eval] at e0
   exact ⟨_, rfl, .inl ⟨wanted_none rfl, Does.val (by simp [execOp, Act.eval, e0, go_sem]) rfl⟩⟩
  ·obtain ⟨k0, -⟩ := hp
   have e0 : a.eval (.tmp 24) = .bool false := k0
   have hgd := e0
   exact ⟨_, rfl, .inl ⟨(wanted_of rfl rfl hgd).trans rfl, ld_Vec rfl ((hs 7 rfl).trans ev7) (k3.below hB) rfl rfl rfl rfl rfl rfl rfl rfl⟩⟩
  ·obtain ⟨k0, -⟩ := hp
   have e0 : a.eval (.tmp 24) = .bool false := k0
   have hgd := e0
   exact ⟨_, rfl, .inl ⟨(wanted_of rfl rfl hgd).trans rfl, ld_Vec rfl ((hs 8 rfl).trans ev8) (k9.below hB) rfl rfl rfl rfl rfl rfl rfl rfl⟩⟩
  ·obtain ⟨k0, k1, k2, -⟩ := hp
   have e0 : a.eval (.tmp 25) = .agg #[aac0, aac1, aac2, aac3, aac4, aac5, aac6, aac7] := k0
   have e1 : a.eval (.tmp 26) = .agg #[bbc0, bbc1, bbc2, bbc3, bbc4, bbc5, bbc6, bbc7] := k1
   have e2 : a.eval (.tmp 24) = .bool false := k2
   have hgd := e2
   exact ⟨_, rfl, .inl ⟨(wanted_of rfl rfl hgd).trans rfl, Does.rv (f := 33) (call2 rfl (fun _ => by simp [go_sem]) e0 e1) (vsub_any (7) (7) aac0 aac1 aac2 aac3 aac4 aac5 aac6 aac7 bbc0 bbc1 bbc2 bbc3 bbc4 bbc5 bbc6 bbc7 (aa) (bb) wx (k4.out.kp (.of hB)) (ka.out.kp (.of hB)) HBaa.out HBbb.out (by omega))⟩⟩
  ·obtain ⟨k0, -⟩ := hp
   have e0 : a.eval (.tmp 24) = .bool false := k0
   have hgd := e0
   exact ⟨_, rfl, .inl ⟨(wanted_of rfl rfl hgd).trans rfl, ld_Vec rfl ((hs 7 rfl).trans ev7) (k3.below hB) rfl rfl rfl rfl rfl rfl rfl rfl⟩⟩
  ·obtain ⟨k0, -⟩ := hp
   have e0 : a.eval (.tmp 24) = .bool false := k0
   have hgd := e0
   exact ⟨_, rfl, .inl ⟨(wanted_of rfl rfl hgd).trans rfl, ld_Vec rfl ((hs 8 rfl).trans ev8) (k9.below hB) rfl rfl rfl rfl rfl rfl rfl rfl⟩⟩
  ·obtain ⟨k0, k1, k2, -⟩ := hp
   have e0 : a.eval (.tmp 28) = .agg #[aac0, aac1, aac2, aac3, aac4, aac5, aac6, aac7] := k0
   have e1 : a.eval (.tmp 29) = .agg #[bbc0, bbc1, bbc2, bbc3, bbc4, bbc5, bbc6, bbc7] := k1
   have e2 : a.eval (.tmp 24) = .bool false := k2
   have hgd := e2
   exact ⟨_, rfl, .inl ⟨(wanted_of rfl rfl hgd).trans rfl, Does.rv (f := 34) (call2 rfl (fun _ => by simp [go_sem]) e0 e1) (vsub5_any (7) (7) aac0 aac1 aac2 aac3 aac4 aac5 aac6 aac7 bbc0 bbc1 bbc2 bbc3 bbc4 bbc5 bbc6 bbc7 (aa) (bb) wx (k4.out.kp (.of hB)) (ka.out.kp (.of hB)) HBaa.out HBbb.out (by omega))⟩⟩
  ·obtain ⟨k0, k1, k2, -⟩ := hp
   obtain ⟨e_0, e_1, e_2, e_3, e_4, e_5, e_6, e_7, e0, h_e_⟩ := k0
   replace e0 : a.eval (.tmp 27) = .agg #[e_0, e_1, e_2, e_3, e_4, e_5, e_6, e_7] := e0
   obtain ⟨f_0, f_1, f_2, f_3, f_4, f_5, f_6, f_7, e1, h_f_⟩ := k1
   replace e1 : a.eval (.tmp 30) = .agg #[f_0, f_1, f_2, f_3, f_4, f_5, f_6, f_7] := e1
   have e2 : a.eval (.tmp 24) = .bool false := k2
   have hgd := e2
   exact ⟨_, rfl, .inl ⟨(wanted_of rfl rfl hgd).trans rfl, Does.rc (f := 13) (call2 rfl (fun _ => by simp [go_sem]) e0 e1) (vsame_any e_0 e_1 e_2 e_3 e_4 e_5 e_6 e_7 f_0 f_1 f_2 f_3 f_4 f_5 f_6 f_7 _ _ wx h_e_ h_f_ true (tru rfl))⟩⟩
  ·obtain ⟨k0, k1, -⟩ := hp
   have e0 : a.eval (.tmp 31) = .bool true := k0
   have e1 : a.eval (.tmp 24) = .bool false := k1
   have hgd := e1
   simp [Act.eval] at e0
   exact ⟨_, rfl, .inl ⟨(wanted_of rfl rfl hgd).trans rfl, Does.val (by simp [execOp, Act.eval, e0, go_sem]) rfl⟩⟩
  ·obtain ⟨k0, k1, -⟩ := hp
   have e0 : a.eval (.tmp 24) = .bool false := k0
   have e1 : a.eval (.tmp 32) = .bool false := k1
   simp [Act.eval] at e0
   simp [Act.eval] at e1
   exact ⟨_, rfl, .inl ⟨wanted_none rfl, Does.val (by simp [execOp, Act.eval, e0, e1, go_sem]) rfl⟩⟩
  ·obtain ⟨k0, -⟩ := hp
   have e0 : a.eval (.tmp 33) = .bool false := k0
   simp [Act.eval] at e0
   exact ⟨_, rfl, .inl ⟨wanted_none rfl, Does.val (by simp [execOp, Act.eval, e0, go_sem]) rfl⟩⟩
  ·obtain ⟨k0, -⟩ := hp
   have e0 : a.eval (.tmp 34) = .bool false := k0
   have hgd := e0
   exact ⟨_, rfl, .inl ⟨(wanted_of rfl rfl hgd).trans rfl, ld_Vec rfl ((hs 7 rfl).trans ev7) (k3.below hB) rfl rfl rfl rfl rfl rfl rfl rfl⟩⟩
  ·obtain ⟨k0, -⟩ := hp
   have e0 : a.eval (.tmp 34) = .bool false := k0
   have hgd := e0
   exact ⟨_, rfl, .inl ⟨(wanted_of rfl rfl hgd).trans rfl, ld_Rat rfl ((hs 9 rfl).trans ev9) (kr.below hB) rfl rfl rfl rfl⟩⟩
  ·obtain ⟨k0, k1, k2, -⟩ := hp
   have e0 : a.eval (.tmp 35) = .agg #[aac0, aac1, aac2, aac3, aac4, aac5, aac6, aac7] := k0
   have e1 : a.eval (.tmp 36) = .agg #[kkc0, kkc1, kkc2, kkc3] := k1
   have e2 : a.eval (.tmp 34) = .bool false := k2
   have hgd := e2
   exact ⟨_, rfl, .inl ⟨(wanted_of rfl rfl hgd).trans rfl, Does.rv (f := 35) (call2 rfl (fun _ => by simp [go_sem]) e0 e1) (vsca_any (7) (7) aac0 aac1 aac2 aac3 aac4 aac5 aac6 aac7 kkc0 kkc1 kkc2 kkc3 (aa) (kk) wx (k4.out.kp (.of hB)) (ks.out.kp (.of hB)) HBaa.out HBkk.out (by omega))⟩⟩
  ·obtain ⟨k0, -⟩ := hp
   have e0 : a.eval (.tmp 34) = .bool false := k0
   have hgd := e0
   exact ⟨_, rfl, .inl ⟨(wanted_of rfl rfl hgd).trans rfl, ld_Vec rfl ((hs 7 rfl).trans ev7) (k3.below hB) rfl rfl rfl rfl rfl rfl rfl rfl⟩⟩
  ·obtain ⟨k0, -⟩ := hp
   have e0 : a.eval (.tmp 34) = .bool false := k0
   have hgd := e0
   exact ⟨_, rfl, .inl ⟨(wanted_of rfl rfl hgd).trans rfl, ld_Rat rfl ((hs 9 rfl).trans ev9) (kr.below hB) rfl rfl rfl rfl⟩⟩
  ·obtain ⟨k0, k1, k2, -⟩ := hp
   have e0 : a.eval (.tmp 38) = .agg #[aac0, aac1, aac2, aac3, aac4, aac5, aac6, aac7] := k0
   have e1 : a.eval (.tmp 39) = .agg #[kkc0, kkc1, kkc2, kkc3] := k1
   have e2 : a.eval (.tmp 34) = .bool false := k2
   have hgd := e2
   exact ⟨_, rfl, .inl ⟨(wanted_of rfl rfl hgd).trans rfl, Does.rv (f := 36) (call2 rfl (fun _ => by simp [go_sem]) e0 e1) (vsca5_any (7) (7) aac0 aac1 aac2 aac3 aac4 aac5 aac6 aac7 kkc0 kkc1 kkc2 kkc3 (aa) (kk) wx (k4.out.kp (.of hB)) (ks.out.kp (.of hB)) HBaa.out HBkk.out (by omega))⟩⟩
  ·obtain ⟨k0, k1, k2, -⟩ := hp
   obtain ⟨g_0, g_1, g_2, g_3, g_4, g_5, g_6, g_7, e0, h_g_⟩ := k0
   replace e0 : a.eval (.tmp 37) = .agg #[g_0, g_1, g_2, g_3, g_4, g_5, g_6, g_7] := e0
   obtain ⟨h_0, h_1, h_2, h_3, h_4, h_5, h_6, h_7, e1, h_h_⟩ := k1
   replace e1 : a.eval (.tmp 40) = .agg #[h_0, h_1, h_2, h_3, h_4, h_5, h_6, h_7] := e1
   have e2 : a.eval (.tmp 34) = .bool false := k2
   have hgd := e2
   exact ⟨_, rfl, .inl ⟨(wanted_of rfl rfl hgd).trans rfl, Does.rc (f := 13) (call2 rfl (fun _ => by simp [go_sem]) e0 e1) (vsame_any g_0 g_1 g_2 g_3 g_4 g_5 g_6 g_7 h_0 h_1 h_2 h_3 h_4 h_5 h_6 h_7 _ _ wx h_g_ h_h_ true (tru rfl))⟩⟩
  ·obtain ⟨k0, k1, -⟩ := hp
   have e0 : a.eval (.tmp 41) = .bool true := k0
   have e1 : a.eval (.tmp 34) = .bool false := k1
   have hgd := e1
   simp [Act.eval] at e0
   exact ⟨_, rfl, .inl ⟨(wanted_of rfl rfl hgd).trans rfl, Does.val (by simp [execOp, Act.eval, e0, go_sem]) rfl⟩⟩
  ·obtain ⟨k0, k1, -⟩ := hp
   have e0 : a.eval (.tmp 34) = .bool false := k0
   have e1 : a.eval (.tmp 42) = .bool false := k1
   simp [Act.eval] at e0
   simp [Act.eval] at e1
   exact ⟨_, rfl, .inl ⟨wanted_none rfl, Does.val (by simp [execOp, Act.eval, e0, e1, go_sem]) rfl⟩⟩
 ·intro val wx hB hsp hdis
  have e27 : val 27 = .bool false := hsp 27 (by omega)
  rw [← HF.out]
  change wpList _ _ _ [] _ _
  simp only [puts, vals, List.map_cons, List.map_nil, List.foldl_cons, List.foldl_nil, if_true, Nat.zero_add, Nat.reduceAdd, e27, List.setIfInBounds_toArray, List.set_cons_succ, List.set_cons_zero]
  clear hsp hdis HF e27
  clear ev7 ev8 ev9
  obtain ⟨w103, rfl⟩ : ∃ W : World, W = wx := ⟨_, rfl⟩
  have HS104 := Lib.hid hB
  have kI := Lib.hid (Blw kH.out hB)
  clear hB
  go_upto_region 6 with fail
  go_upto_region 6 with fail
  generalize hW : w103.drew = W106
  have hB : Below w103.heap.size w103 W106 := by rw [← hW]; exact (Below.refl _ _).drew
  have HS107 := Lib.hid hB
  have kJ := Lib.hid (Blw kI.out hB)
  clear hB
  have k5 := ((k3.below HS104.out).below HS107.out)
  have k6 := ((k9.below HS104.out).below HS107.out)
  have k7 := Lib.hid ((k4.out.kp (.of HS104.out)).kp (.of HS107.out))
  have k8 := Lib.hid ((ka.out.kp (.of HS104.out)).kp (.of HS107.out))
  generalize hF : ({ tmps := _, defers := _ } : Act) = F
  have ev7 : F.eval (.tmp 7) = .pointer (some ⟨w1.heap.size, 0, none⟩) := by rw [← hF]; rfl
  have ev8 : F.eval (.tmp 8) = .pointer (some ⟨w20.heap.size, 0, none⟩) := by rw [← hF]; rfl
  have HF := Lib.hid hF; clear hF
  refine wp_flow_tabG true hW 36 [(44, []), (45, []), (46, [0, 1]), (47, []), (48, []), (49, [3, 4]), (50, [2, 5]), (51, [6]), (52, [7]), (53, [8]), (54, [8]), (55, [9, 10, 8]), (56, [8]), (57, [8]), (58, [12, 13, 8]), (59, [11, 14, 8]), (60, [15, 8]), (61, [8, 16]), (62, [17]), (63, [18]), (64, [18]), (65, [19, 20, 18]), (66, [18]), (67, [22, 18]), (68, [18]), (69, [24, 18]), (70, [23, 25, 18]), (71, [18]), (72, [27, 18]), (73, [18]), (74, [29, 18]), (75, [28, 30, 18]), (76, [26, 31, 18]), (77, [21, 32, 18]), (78, [33, 18]), (79, [18, 34])] [SC (.agg #[aac0, aac1, aac2, aac3, aac4, aac5, aac6, aac7]), SC (.agg #[bbc0, bbc1, bbc2, bbc3, bbc4, bbc5, bbc6, bbc7]), SR (vdot aa bb), SC (.agg #[aac0, aac1, aac2, aac3, aac4, aac5, aac6, aac7]), SC (.agg #[bbc0, bbc1, bbc2, bbc3, bbc4, bbc5, bbc6, bbc7]), SR (vdot aa bb), SC (.bool true), SC (.bool false), SC (.bool false), SC (.agg #[aac0, aac1, aac2, aac3, aac4, aac5, aac6, aac7]), SC (.agg #[bbc0, bbc1, bbc2, bbc3, bbc4, bbc5, bbc6, bbc7]), SR (vcrs aa bb), SC (.agg #[aac0, aac1, aac2, aac3, aac4, aac5, aac6, aac7]), SC (.agg #[bbc0, bbc1, bbc2, bbc3, bbc4, bbc5, bbc6, bbc7]), SR (vcrs aa bb), SC (.bool true), SC (.bool false), SC (.bool false), SC (.bool false), SC (.agg #[aac0, aac1, aac2, aac3, aac4, aac5, aac6, aac7]), SC (.agg #[bbc0, bbc1, bbc2, bbc3, bbc4, bbc5, bbc6, bbc7]), SR (vdot aa bb), SC (.pointer (some ⟨w1.heap.size, 0, none⟩)), SC (.agg #[aac0, aac1, aac2, aac3]), SC (.pointer (some ⟨w1.heap.size, 4, none⟩)), SC (.agg #[aac4, aac5, aac6, aac7]), SL [aa.1, aa.2], SC (.pointer (some ⟨w20.heap.size, 0, none⟩)), SC (.agg #[bbc0, bbc1, bbc2, bbc3]), SC (.pointer (some ⟨w20.heap.size, 4, none⟩)), SC (.agg #[bbc4, bbc5, bbc6, bbc7]), SL [bb.1, bb.2], SR (rsum (mulL [aa.1, aa.2] [bb.1, bb.2])), SC (.bool true), SC (.bool false), SC (.bool false)] [false, false, false, false, false, false, false, false, false, false, false, false, false, false, false, false, false, false, false, false, false, false, false, false, false, false, false, false, false, false, false, false, false, false, false, false] (by kernel_rfl) (by kernel_rfl) (by kernel_rfl) (by kernel_rfl) (by kernel_rfl) (by rw [← HF.out]; simp) ⟨SC.mono _, SC.mono _, SR.mono _, SC.mono _, SC.mono _, SR.mono _, SC.mono _, SC.mono _, SC.mono _, SC.mono _, SC.mono _, SR.mono _, SC.mono _, SC.mono _, SR.mono _, SC.mono _, SC.mono _, SC.mono _, SC.mono _, SC.mono _, SC.mono _, SR.mono _, SC.mono _, SC.mono _, SC.mono _, SC.mono _, SL.mono _, SC.mono _, SC.mono _, SC.mono _, SC.mono _, SL.mono _, SR.mono _, SC.mono _, SC.mono _, SC.mono _, trivial⟩ ?_ ?_
  ·intro kq hkq a wx hB hp hs
   have hcase : kq = 0 ∨ kq = 1 ∨ kq = 2 ∨ kq = 3 ∨ kq = 4 ∨ kq = 5 ∨ kq = 6 ∨ kq = 7 ∨ kq = 8 ∨ kq = 9 ∨ kq = 10 ∨ kq = 11 ∨ kq = 12 ∨ kq = 13 ∨ kq = 14 ∨ kq = 15 ∨ kq = 16 ∨ kq = 17 ∨ kq = 18 ∨ kq = 19 ∨ kq = 20 ∨ kq = 21 ∨ kq = 22 ∨ kq = 23 ∨ kq = 24 ∨ kq = 25 ∨ kq = 26 ∨ kq = 27 ∨ kq = 28 ∨ kq = 29 ∨ kq = 30 ∨ kq = 31 ∨ kq = 32 ∨ kq = 33 ∨ kq = 34 ∨ kq = 35 := by omega
   rcases hcase with rfl | rfl | rfl | rfl | rfl | rfl | rfl | rfl | rfl | rfl | rfl | rfl | rfl | rfl | rfl | rfl | rfl | rfl | rfl | rfl | rfl | rfl | rfl | rfl | rfl | rfl | rfl | rfl | rfl | rfl | rfl | rfl | rfl | rfl | rfl | rfl
   ·exact ⟨_, rfl, .inl ⟨wanted_none rfl, ld_Vec rfl ((hs 7 rfl).trans ev7) (k5.below hB) rfl rfl rfl rfl rfl rfl rfl rfl⟩⟩
   ·exact ⟨_, rfl, .inl ⟨wanted_none rfl, ld_Vec rfl ((hs 8 rfl).trans ev8) (k6.below hB) rfl rfl rfl rfl rfl rfl rfl rfl⟩⟩
   ·obtain ⟨k0, k1, -⟩ := hp
    exact ⟨_, rfl, .inl ⟨wanted_none rfl, Does.rr (f := 29) (call2 rfl (fun _ => by simp [go_sem]) k0 k1) (vdot_any (7) (7) aac0 aac1 aac2 aac3 aac4 aac5 aac6 aac7 bbc0 bbc1 bbc2 bbc3 bbc4 bbc5 bbc6 bbc7 (aa) (bb) wx (k7.out.kp (.of hB)) (k8.out.kp (.of hB)) HBaa.out HBbb.out (by omega))⟩⟩
   ·exact ⟨_, rfl, .inl ⟨wanted_none rfl, ld_Vec rfl ((hs 7 rfl).trans ev7) (k5.below hB) rfl rfl rfl rfl rfl rfl rfl rfl⟩⟩
   ·exact ⟨_, rfl, .inl ⟨wanted_none rfl, ld_Vec rfl ((hs 8 rfl).trans ev8) (k6.below hB) rfl rfl rfl rfl rfl rfl rfl rfl⟩⟩
   ·obtain ⟨k0, k1, -⟩ := hp
    exact ⟨_, rfl, .inl ⟨wanted_none rfl, Does.rr (f := 38) (call2 rfl (fun _ => by simp [go_sem]) k0 k1) (vdot5_any (7) (7) aac0 aac1 aac2 aac3 aac4 aac5 aac6 aac7 bbc0 bbc1 bbc2 bbc3 bbc4 bbc5 bbc6 bbc7 (aa) (bb) wx (k7.out.kp (.of hB)) (k8.out.kp (.of hB)) HBaa.out HBbb.out (by omega))⟩⟩
   ·obtain ⟨k0, k1, -⟩ := hp
    obtain ⟨c0, c1, c2, c3, e0, h_c⟩ := k0
    replace e0 : a.eval (.tmp 46) = .agg #[c0, c1, c2, c3] := e0
    obtain ⟨d0, d1, d2, d3, e1, h_d⟩ := k1
    replace e1 : a.eval (.tmp 49) = .agg #[d0, d1, d2, d3] := e1
    exact ⟨_, rfl, .inl ⟨wanted_none rfl, Does.rc (f := 37) (call2 rfl (fun _ => by simp [go_sem]) e0 e1) (rsame4_any c0 c1 c2 c3 d0 d1 d2 d3 _ _ wx h_c h_d true (truq rfl))⟩⟩
   ·obtain ⟨k0, -⟩ := hp
    have e0 : a.eval (.tmp 50) = .bool true := k0
    simp [Act.eval] at e0
    exact ⟨_, rfl, .inl ⟨wanted_none rfl, Does.val (by simp [execOp, Act.eval, e0, go_sem]) rfl⟩⟩
   ·obtain ⟨k0, -⟩ := hp
    have e0 : a.eval (.tmp 51) = .bool false := k0
    simp [Act.eval] at e0
    exact ⟨_, rfl, .inl ⟨wanted_none rfl, Does.val (by simp [execOp, Act.eval, e0, go_sem]) rfl⟩⟩
   ·obtain ⟨k0, -⟩ := hp
    have e0 : a.eval (.tmp 52) = .bool false := k0
    have hgd := e0
    exact ⟨_, rfl, .inl ⟨(wanted_of rfl rfl hgd).trans rfl, ld_Vec rfl ((hs 7 rfl).trans ev7) (k5.below hB) rfl rfl rfl rfl rfl rfl rfl rfl⟩⟩
   ·obtain ⟨k0, -⟩ := hp
    have e0 : a.eval (.tmp 52) = .bool false := k0
    have hgd := e0
    exact ⟨_, rfl, .inl ⟨(wanted_of rfl rfl hgd).trans rfl, ld_Vec rfl ((hs 8 rfl).trans ev8) (k6.below hB) rfl rfl rfl rfl rfl rfl rfl rfl⟩⟩
   ·obtain ⟨k0, k1, k2, -⟩ := hp
    have e0 : a.eval (.tmp 53) = .agg #[aac0, aac1, aac2, aac3, aac4, aac5, aac6, aac7] := k0
    have e1 : a.eval (.tmp 54) = .agg #[bbc0, bbc1, bbc2, bbc3, bbc4, bbc5, bbc6, bbc7] := k1
    have e2 : a.eval (.tmp 52) = .bool false := k2
    have hgd := e2
    exact ⟨_, rfl, .inl ⟨(wanted_of rfl rfl hgd).trans rfl, Does.rr (f := 30) (call2 rfl (fun _ => by simp [go_sem]) e0 e1) (vcrs_any (7) (7) aac0 aac1 aac2 aac3 aac4 aac5 aac6 aac7 bbc0 bbc1 bbc2 bbc3 bbc4 bbc5 bbc6 bbc7 (aa) (bb) wx (k7.out.kp (.of hB)) (k8.out.kp (.of hB)) HBaa.out HBbb.out (by omega))⟩⟩
   ·obtain ⟨k0, -⟩ := hp
    have e0 : a.eval (.tmp 52) = .bool false := k0
    have hgd := e0
    exact ⟨_, rfl, .inl ⟨(wanted_of rfl rfl hgd).trans rfl, ld_Vec rfl ((hs 7 rfl).trans ev7) (k5.below hB) rfl rfl rfl rfl rfl rfl rfl rfl⟩⟩
   ·obtain ⟨k0, -⟩ := hp
    have e0 : a.eval (.tmp 52) = .bool false := k0
    have hgd := e0
    exact ⟨_, rfl, .inl ⟨(wanted_of rfl rfl hgd).trans rfl, ld_Vec rfl ((hs 8 rfl).trans ev8) (k6.below hB) rfl rfl rfl rfl rfl rfl rfl rfl⟩⟩
   ·obtain ⟨k0, k1, k2, -⟩ := hp
    have e0 : a.eval (.tmp 56) = .agg #[aac0, aac1, aac2, aac3, aac4, aac5, aac6, aac7] := k0
    have e1 : a.eval (.tmp 57) = .agg #[bbc0, bbc1, bbc2, bbc3, bbc4, bbc5, bbc6, bbc7] := k1
    have e2 : a.eval (.tmp 52) = .bool false := k2
    have hgd := e2
    exact ⟨_, rfl, .inl ⟨(wanted_of rfl rfl hgd).trans rfl, Does.rr (f := 39) (call2 rfl (fun _ => by simp [go_sem]) e0 e1) (vcrs5_any (7) (7) aac0 aac1 aac2 aac3 aac4 aac5 aac6 aac7 bbc0 bbc1 bbc2 bbc3 bbc4 bbc5 bbc6 bbc7 (aa) (bb) wx (k7.out.kp (.of hB)) (k8.out.kp (.of hB)) HBaa.out HBbb.out (by omega))⟩⟩
   ·obtain ⟨k0, k1, k2, -⟩ := hp
    obtain ⟨e_0, e_1, e_2, e_3, e0, h_e_⟩ := k0
    replace e0 : a.eval (.tmp 55) = .agg #[e_0, e_1, e_2, e_3] := e0
    obtain ⟨f_0, f_1, f_2, f_3, e1, h_f_⟩ := k1
    replace e1 : a.eval (.tmp 58) = .agg #[f_0, f_1, f_2, f_3] := e1
    have e2 : a.eval (.tmp 52) = .bool false := k2
    have hgd := e2
    exact ⟨_, rfl, .inl ⟨(wanted_of rfl rfl hgd).trans rfl, Does.rc (f := 37) (call2 rfl (fun _ => by simp [go_sem]) e0 e1) (rsame4_any e_0 e_1 e_2 e_3 f_0 f_1 f_2 f_3 _ _ wx h_e_ h_f_ true (truq rfl))⟩⟩
   ·obtain ⟨k0, k1, -⟩ := hp
    have e0 : a.eval (.tmp 59) = .bool true := k0
    have e1 : a.eval (.tmp 52) = .bool false := k1
    have hgd := e1
    simp [Act.eval] at e0
    exact ⟨_, rfl, .inl ⟨(wanted_of rfl rfl hgd).trans rfl, Does.val (by simp [execOp, Act.eval, e0, go_sem]) rfl⟩⟩
   ·obtain ⟨k0, k1, -⟩ := hp
    have e0 : a.eval (.tmp 52) = .bool false := k0
    have e1 : a.eval (.tmp 60) = .bool false := k1
    simp [Act.eval] at e0
    simp [Act.eval] at e1
    exact ⟨_, rfl, .inl ⟨wanted_none rfl, Does.val (by simp [execOp, Act.eval, e0, e1, go_sem]) rfl⟩⟩
   ·obtain ⟨k0, -⟩ := hp
    have e0 : a.eval (.tmp 61) = .bool false := k0
    simp [Act.eval] at e0
    exact ⟨_, rfl, .inl ⟨wanted_none rfl, Does.val (by simp [execOp, Act.eval, e0, go_sem]) rfl⟩⟩
   ·obtain ⟨k0, -⟩ := hp
    have e0 : a.eval (.tmp 62) = .bool false := k0
    have hgd := e0
    exact ⟨_, rfl, .inl ⟨(wanted_of rfl rfl hgd).trans rfl, ld_Vec rfl ((hs 7 rfl).trans ev7) (k5.below hB) rfl rfl rfl rfl rfl rfl rfl rfl⟩⟩
   ·obtain ⟨k0, -⟩ := hp
    have e0 : a.eval (.tmp 62) = .bool false := k0
    have hgd := e0
    exact ⟨_, rfl, .inl ⟨(wanted_of rfl rfl hgd).trans rfl, ld_Vec rfl ((hs 8 rfl).trans ev8) (k6.below hB) rfl rfl rfl rfl rfl rfl rfl rfl⟩⟩
   ·obtain ⟨k0, k1, k2, -⟩ := hp
    have e0 : a.eval (.tmp 63) = .agg #[aac0, aac1, aac2, aac3, aac4, aac5, aac6, aac7] := k0
    have e1 : a.eval (.tmp 64) = .agg #[bbc0, bbc1, bbc2, bbc3, bbc4, bbc5, bbc6, bbc7] := k1
    have e2 : a.eval (.tmp 62) = .bool false := k2
    have hgd := e2
    exact ⟨_, rfl, .inl ⟨(wanted_of rfl rfl hgd).trans rfl, Does.rr (f := 29) (call2 rfl (fun _ => by simp [go_sem]) e0 e1) (vdot_any (7) (7) aac0 aac1 aac2 aac3 aac4 aac5 aac6 aac7 bbc0 bbc1 bbc2 bbc3 bbc4 bbc5 bbc6 bbc7 (aa) (bb) wx (k7.out.kp (.of hB)) (k8.out.kp (.of hB)) HBaa.out HBbb.out (by omega))⟩⟩
   ·obtain ⟨k0, -⟩ := hp
    have e0 : a.eval (.tmp 62) = .bool false := k0
    have hgd := e0
    exact ⟨_, rfl, .inl ⟨(wanted_of rfl rfl hgd).trans rfl, fa_Vec0 rfl ((hs 7 rfl).trans ev7)⟩⟩
   ·obtain ⟨k0, k1, -⟩ := hp
    have e1 : a.eval (.tmp 62) = .bool false := k1
    have hgd := e1
    exact ⟨_, rfl, .inl ⟨(wanted_of rfl rfl hgd).trans rfl, ld_Rat rfl k0 (k5.below hB) rfl rfl rfl rfl⟩⟩
   ·obtain ⟨k0, -⟩ := hp
    have e0 : a.eval (.tmp 62) = .bool false := k0
    have hgd := e0
    exact ⟨_, rfl, .inl ⟨(wanted_of rfl rfl hgd).trans rfl, fa_Vec1 rfl ((hs 7 rfl).trans ev7)⟩⟩
   ·obtain ⟨k0, k1, -⟩ := hp
    have e1 : a.eval (.tmp 62) = .bool false := k1
    have hgd := e1
    exact ⟨_, rfl, .inl ⟨(wanted_of rfl rfl hgd).trans rfl, ld_Rat rfl k0 (k5.below hB) rfl rfl rfl rfl⟩⟩
   ·obtain ⟨k0, k1, k2, -⟩ := hp
    have e0 : a.eval (.tmp 67) = .agg #[aac0, aac1, aac2, aac3] := k0
    have e1 : a.eval (.tmp 69) = .agg #[aac4, aac5, aac6, aac7] := k1
    have e2 : a.eval (.tmp 62) = .bool false := k2
    have hgd := e2
    simp [Act.eval] at e0
    simp [Act.eval] at e1
    exact ⟨_, rfl, .inl ⟨(wanted_of rfl rfl hgd).trans rfl, Does.two (T := 26) (by simp [execOp, Act.eval, e0, e1, go_sem]) ((k7.out.kp (.of hB))).1 ((k7.out.kp (.of hB))).2⟩⟩
   ·obtain ⟨k0, -⟩ := hp
    have e0 : a.eval (.tmp 62) = .bool false := k0
    have hgd := e0
    exact ⟨_, rfl, .inl ⟨(wanted_of rfl rfl hgd).trans rfl, fa_Vec0 rfl ((hs 8 rfl).trans ev8)⟩⟩
   ·obtain ⟨k0, k1, -⟩ := hp
    have e1 : a.eval (.tmp 62) = .bool false := k1
    have hgd := e1
    exact ⟨_, rfl, .inl ⟨(wanted_of rfl rfl hgd).trans rfl, ld_Rat rfl k0 (k6.below hB) rfl rfl rfl rfl⟩⟩
   ·obtain ⟨k0, -⟩ := hp
    have e0 : a.eval (.tmp 62) = .bool false := k0
    have hgd := e0
    exact ⟨_, rfl, .inl ⟨(wanted_of rfl rfl hgd).trans rfl, fa_Vec1 rfl ((hs 8 rfl).trans ev8)⟩⟩
   ·obtain ⟨k0, k1, -⟩ := hp
    have e1 : a.eval (.tmp 62) = .bool false := k1
    have hgd := e1
    exact ⟨_, rfl, .inl ⟨(wanted_of rfl rfl hgd).trans rfl, ld_Rat rfl k0 (k6.below hB) rfl rfl rfl rfl⟩⟩
   ·obtain ⟨k0, k1, k2, -⟩ := hp
    have e0 : a.eval (.tmp 72) = .agg #[bbc0, bbc1, bbc2, bbc3] := k0
    have e1 : a.eval (.tmp 74) = .agg #[bbc4, bbc5, bbc6, bbc7] := k1
    have e2 : a.eval (.tmp 62) = .bool false := k2
    have hgd := e2
    simp [Act.eval] at e0
    simp [Act.eval] at e1
    exact ⟨_, rfl, .inl ⟨(wanted_of rfl rfl hgd).trans rfl, Does.two (T := 26) (by simp [execOp, Act.eval, e0, e1, go_sem]) ((k8.out.kp (.of hB))).1 ((k8.out.kp (.of hB))).2⟩⟩
   ·obtain ⟨k0, k1, k2, -⟩ := hp
    obtain ⟨vs26, e0⟩ : ∃ v, a.eval (.tmp 70) = v := ⟨_, rfl⟩
    have h_vs26 : RL wx vs26 [aa.1, aa.2] := e0 ▸ k0
    obtain ⟨vs31, e1⟩ : ∃ v, a.eval (.tmp 75) = v := ⟨_, rfl⟩
    have h_vs31 : RL wx vs31 [bb.1, bb.2] := e1 ▸ k1
    have e2 : a.eval (.tmp 62) = .bool false := k2
    have hgd := e2
    exact ⟨_, rfl, .inl ⟨(wanted_of rfl rfl hgd).trans rfl, Does.rr (f := 40) (call2 rfl (fun _ => by simp [go_sem]) e0 e1) (rdot_any 7 7 vs26 vs31 [aa.1, aa.2] [bb.1, bb.2] wx h_vs26 h_vs31 rfl (by simp) (two_bits HBaa.out.1 HBaa.out.2) (two_bits HBbb.out.1 HBbb.out.2) (by omega))⟩⟩
   ·obtain ⟨k0, k1, k2, -⟩ := hp
    obtain ⟨g_0, g_1, g_2, g_3, e0, h_g_⟩ := k0
    replace e0 : a.eval (.tmp 65) = .agg #[g_0, g_1, g_2, g_3] := e0
    obtain ⟨h_0, h_1, h_2, h_3, e1, h_h_⟩ := k1
    replace e1 : a.eval (.tmp 76) = .agg #[h_0, h_1, h_2, h_3] := e1
    have e2 : a.eval (.tmp 62) = .bool false := k2
    have hgd := e2
    exact ⟨_, rfl, .inl ⟨(wanted_of rfl rfl hgd).trans rfl, Does.rc (f := 28) (call2 rfl (fun _ => by simp [go_sem]) e0 e1) (rsame_any g_0 g_1 g_2 g_3 h_0 h_1 h_2 h_3 _ _ wx h_g_ h_h_ true (truq (dot_two aa bb)))⟩⟩
   ·obtain ⟨k0, k1, -⟩ := hp
    have e0 : a.eval (.tmp 77) = .bool true := k0
    have e1 : a.eval (.tmp 62) = .bool false := k1
    have hgd := e1
    simp [Act.eval] at e0
    exact ⟨_, rfl, .inl ⟨(wanted_of rfl rfl hgd).trans rfl, Does.val (by simp [execOp, Act.eval, e0, go_sem]) rfl⟩⟩
   ·obtain ⟨k0, k1, -⟩ := hp
    have e0 : a.eval (.tmp 62) = .bool false := k0
    have e1 : a.eval (.tmp 78) = .bool false := k1
    simp [Act.eval] at e0
    simp [Act.eval] at e1
    exact ⟨_, rfl, .inl ⟨wanted_none rfl, Does.val (by simp [execOp, Act.eval, e0, e1, go_sem]) rfl⟩⟩
  ·intro val wx hB hsp hdis
   have e35 : val 35 = .bool false := hsp 35 (by omega)
   rw [← HF.out]
   change wpList _ _ _ [] _ _
   simp only [puts, vals, List.map_cons, List.map_nil, List.foldl_cons, List.foldl_nil, if_true, Nat.zero_add, Nat.reduceAdd, e35, List.setIfInBounds_toArray, List.set_cons_succ, List.set_cons_zero]
   clear hsp hdis HF e35
   clear ev7 ev8
   obtain ⟨w116, rfl⟩ : ∃ W : World, W = wx := ⟨_, rfl⟩
   have HS117 := Lib.hid hB
   have kK := Lib.hid (Blw kJ.out hB)
   clear hB
   go_upto_region 8 with fail
   go_upto_region 8 with fail
   generalize hF : ({ tmps := _, defers := _ } : Act) = F
   have ev1 : F.eval (.tmp 1) = .int .i64 n := by rw [← hF]; rfl
   have ev2 : F.eval (.tmp 2) = .int .i64 m := by rw [← hF]; rfl
   have HF := Lib.hid hF; clear hF
   refine wp_flow_tabG false rfl 13 [(80, []), (81, []), (82, [0, 1]), (83, []), (84, [3]), (85, []), (86, [5]), (87, [4, 6]), (88, [2, 7]), (89, [8]), (90, [9]), (91, [9, 10]), (6, [11])] [SC (.int .i64 n), SC (.int .i64 m), SV ((Rat.divInt n 1, Rat.divInt m 1)), SC (.int .i64 n), SR (Rat.divInt n 1), SC (.int .i64 m), SR (Rat.divInt m 1), SV ((Rat.divInt n 1, Rat.divInt m 1)), SC (.bool true), SC (.bool true), SC (.bool true), SC (.bool true), SC (.bool true)] [false, false, false, false, false, false, false, false, false, false, false, false, false] (by kernel_rfl) (by kernel_rfl) (by kernel_rfl) (by kernel_rfl) (by kernel_rfl) (by rw [← HF.out]; simp) ⟨SC.mono _, SC.mono _, SV.mono _, SC.mono _, SR.mono _, SC.mono _, SR.mono _, SV.mono _, SC.mono _, SC.mono _, SC.mono _, SC.mono _, SC.mono _, trivial⟩ ?_ ?_
   ·intro kq hkq a wx hB hp hs
    have hcase : kq = 0 ∨ kq = 1 ∨ kq = 2 ∨ kq = 3 ∨ kq = 4 ∨ kq = 5 ∨ kq = 6 ∨ kq = 7 ∨ kq = 8 ∨ kq = 9 ∨ kq = 10 ∨ kq = 11 ∨ kq = 12 := by omega
    rcases hcase with rfl | rfl | rfl | rfl | rfl | rfl | rfl | rfl | rfl | rfl | rfl | rfl | rfl
    ·clear hp
     have b1 := (hs 1 rfl).trans ev1
     simp [Act.eval] at b1
     exact ⟨_, rfl, .inl ⟨wanted_none rfl, Does.val (by simp [execOp, Act.eval, b1, go_sem]) rfl⟩⟩
    ·clear hp
     have b2 := (hs 2 rfl).trans ev2
     simp [Act.eval] at b2
     exact ⟨_, rfl, .inl ⟨wanted_none rfl, Does.val (by simp [execOp, Act.eval, b2, go_sem]) rfl⟩⟩
    ·obtain ⟨k0, k1, -⟩ := hp
     exact ⟨_, rfl, .inl ⟨wanted_none rfl, Does.rv (f := 41) (call2 rfl (fun _ => by simp [go_sem]) k0 k1) (vof_any n m wx HN.out HM.out)⟩⟩
    ·clear hp
     have b1 := (hs 1 rfl).trans ev1
     simp [Act.eval] at b1
     exact ⟨_, rfl, .inl ⟨wanted_none rfl, Does.val (by simp [execOp, Act.eval, b1, go_sem]) rfl⟩⟩
    ·obtain ⟨k0, -⟩ := hp
     exact ⟨_, rfl, .inl ⟨wanted_none rfl, Does.rr (f := 42) (call2 rfl (fun _ => by simp [go_sem]) k0 rfl) (rof_any n 1 wx HN.out H1.out)⟩⟩
    ·clear hp
     have b2 := (hs 2 rfl).trans ev2
     simp [Act.eval] at b2
     exact ⟨_, rfl, .inl ⟨wanted_none rfl, Does.val (by simp [execOp, Act.eval, b2, go_sem]) rfl⟩⟩
    ·obtain ⟨k0, -⟩ := hp
     exact ⟨_, rfl, .inl ⟨wanted_none rfl, Does.rr (f := 42) (call2 rfl (fun _ => by simp [go_sem]) k0 rfl) (rof_any m 1 wx HM.out H1.out)⟩⟩
    ·obtain ⟨k0, k1, -⟩ := hp
     obtain ⟨d0, d1, d2, d3, e0, h_d⟩ := k0
     replace e0 : a.eval (.tmp 84) = .agg #[d0, d1, d2, d3] := e0
     obtain ⟨e_0, e_1, e_2, e_3, e1, h_e_⟩ := k1
     replace e1 : a.eval (.tmp 86) = .agg #[e_0, e_1, e_2, e_3] := e1
     simp [Act.eval] at e0
     simp [Act.eval] at e1
     exact ⟨_, rfl, .inl ⟨wanted_none rfl, Does.val (by simp [execOp, Act.eval, e0, e1, go_sem]) ⟨d0, d1, d2, d3, e_0, e_1, e_2, e_3, rfl, ⟨h_d, h_e_⟩⟩⟩⟩
    ·obtain ⟨k0, k1, -⟩ := hp
     obtain ⟨c0, c1, c2, c3, c4, c5, c6, c7, e0, h_c⟩ := k0
     replace e0 : a.eval (.tmp 82) = .agg #[c0, c1, c2, c3, c4, c5, c6, c7] := e0
     obtain ⟨f_0, f_1, f_2, f_3, f_4, f_5, f_6, f_7, e1, h_f_⟩ := k1
     replace e1 : a.eval (.tmp 87) = .agg #[f_0, f_1, f_2, f_3, f_4, f_5, f_6, f_7] := e1
     exact ⟨_, rfl, .inl ⟨wanted_none rfl, Does.rc (f := 15) (call2 rfl (fun _ => by simp [go_sem]) e0 e1) (vsame5_any c0 c1 c2 c3 c4 c5 c6 c7 f_0 f_1 f_2 f_3 f_4 f_5 f_6 f_7 _ _ wx h_c h_f_ true (tru rfl))⟩⟩
    ·obtain ⟨k0, -⟩ := hp
     have e0 : a.eval (.tmp 88) = .bool true := k0
     simp [Act.eval] at e0
     exact ⟨_, rfl, .inl ⟨wanted_none rfl, Does.val (by simp [execOp, Act.eval, e0, go_sem]) rfl⟩⟩
    ·obtain ⟨k0, -⟩ := hp
     have e0 : a.eval (.tmp 89) = .bool true := k0
     have hgd := e0
     exact ⟨_, rfl, .inl ⟨(wanted_of rfl rfl hgd).trans rfl, Does.rc (f := 14) (call0 rfl (fun _ => by simp [go_sem])) (lives_any wx)⟩⟩
    ·obtain ⟨k0, k1, -⟩ := hp
     have e0 : a.eval (.tmp 89) = .bool true := k0
     have e1 : a.eval (.tmp 90) = .bool true := k1
     simp [Act.eval] at e0
     simp [Act.eval] at e1
     exact ⟨_, rfl, .inl ⟨wanted_none rfl, Does.val (by simp [execOp, Act.eval, e0, e1, go_sem]) rfl⟩⟩
    ·obtain ⟨k0, -⟩ := hp
     have e0 : a.eval (.tmp 91) = .bool true := k0
     simp [Act.eval] at e0
     exact ⟨_, rfl, .inl ⟨wanted_none rfl, Does.val (by simp [execOp, Act.eval, e0, go_sem]) rfl⟩⟩
   ·intro val wx hB hsp hdis
    have e12 : val 12 = .bool true := hsp 12 (by omega)
    rw [← HF.out]
    change wpList _ _ _ [] _ _
    simp only [puts, vals, List.map_cons, List.map_nil, List.foldl_cons, List.foldl_nil, if_true, Nat.zero_add, Nat.reduceAdd, e12, List.setIfInBounds_toArray, List.set_cons_succ, List.set_cons_zero]
    clear hsp hdis HF e12
    clear ev1 ev2
    obtain ⟨w120, rfl⟩ : ∃ W : World, W = wx := ⟨_, rfl⟩
    have HS121 := Lib.hid hB
    have kL := Lib.hid (Blw kK.out hB)
    clear hB
    go_wp2
    go_ret
    exact ⟨rfl, kL.out⟩
end Go.Proofs.Ytonkbckgbfcnkaa
namespace Go.Proofs.Ytonkbckgbfcnkaa
open Go.RowKit
theorem law_vectors (A : Option Addr) (len cap : Nat) (l : List Int) (n m : Int) (w : World) (hs : IsI w A len cap l) (hn : W.Is64 n) (hm : W.Is64 m) :
  Calls Try.prog 6 #[.slice A len cap, .int .i64 n, .int .i64 m] w fun e w' => e = .returned (.bool true) ∧ Below w.heap.size w w' :=
 vectors_walk _ l n m w ⟨A, len, cap, rfl, hs.2.1, hs.2.2.1, hs.2.2.2.1, hs.1⟩ hs.2.2.2.2 hn hm
end Go.Proofs.Ytonkbckgbfcnkaa
namespace Go.Proofs.Ytonkbckgbfcnkaa.planeVectors
open Go.ChangeShapes Go.WideShapes Go.ChangeAt Go.RowKit
open Go.ChangeMaps (open_string shut_string)
set_option linter.unusedVariables false
theorem own : ownKnob Try.prog.godebug = none := by kernel_rfl
theorem laidOut : laidOutB Try.prog = true := by kernel_rfl
set_option maxRecDepth 100000 in
theorem lifted (os : Os) (started : os.Started) (H : Type) (enc : TypeId × Value → H) :
  ReturnsInHanded {} Try.checked os 6 .any (Rows.planeVectorsSpec.pre6 enc Try.prog Try.f6 Rows.planeVectorsRow.domain false) (Rows.planeVectorsSpec.post enc Try.prog Try.f6 false true false false) := by
 refine returnsInHanded_of_change (C := Try.checked) own started (by kernel_rfl) Try.func6
  (ChangeSpec.witness6 (enc := enc) (C := Try.checked) false ⟨#[], #[.slice none 0 0, .int .i64 0, .int .i64 0], []⟩ 8 (by kernel_rfl) (by kernel_rfl) (by kernel_rfl) (by kernel_rfl)) ?_
 intro W base args ds gs before hval0 hW hcnd _
 have hval : ∀ (j : Nat) t v, Try.f6.params[j]? = some t → args[j]? = some v → Value.okWide Try.prog W .any base t v := hval0
 have hW' := hW
 obtain ⟨p, q, hA0, hV, rfl, hfz, hnd⟩ := hW
 have hA : DataW.TrodAll enc Try.prog W 0 (fun _ => true) true Try.f6.params.toList args.toList ds p := hA0
 rw [Try.params6] at hA hval
 obtain ⟨v0, vs0, d0, ds0, p0, q0, hargs, rfl, rfl, h0, r0⟩ := trodAll_cons hA
 obtain ⟨v1, vs1, d1, ds1, p1, q1, rfl, rfl, rfl, h1, r1⟩ := trodAll_cons r0
 obtain ⟨v2, vs2, d2, ds2, p2, q2, rfl, rfl, rfl, h2, r2⟩ := trodAll_cons r1
 obtain ⟨rfl, rfl, rfl⟩ := trodAll_nil r2
 obtain rfl : args = #[v0, v1, v2] := by cases args; simp_all
 obtain ⟨rfl, rfl⟩ := trodVars_none hV
 obtain ⟨a0, len0, cap0, rfl⟩ := okWide_slice Try.underlying22 (hval 0 22 v0 rfl rfl)
 have k0 := h0
 have lt0 : ∀ x ∈ p0, x.block < W.heap.size := by obtain ⟨m, hm⟩ := k0; exact DataW.trod_lt m _ _ _ hm
 obtain ⟨z0, w0⟩ : ∃ zs, IsI W a0 len0 cap0 zs := by
  obtain ⟨fuel, hf⟩ := h0
  rcases open_ints Try.underlying22 Try.underlying3 (by kernel_rfl) hf with ⟨hcs, _⟩ | ⟨x, l, c, zs, hcs, _, hl, hm, hz, _, hcell, hwz⟩
  ·simp [Value.cells] at hcs
   obtain ⟨rfl, rfl, rfl⟩ := hcs
   exact ⟨[], isI_nil _⟩
  ·simp [Value.cells] at hcs
   obtain ⟨rfl, rfl, rfl⟩ := hcs
   exact isI_of hl hm (by simpa using hz) hcell hwz
 obtain ⟨a1, rfl, rfl, rfl, w1⟩ := open_int Try.underlying3 (hval 1 3 v1 rfl rfl) h1
 obtain ⟨a2, rfl, rfl, rfl, w2⟩ := open_int Try.underlying3 (hval 2 3 v2 rfl rfl) h2
 clear hA0 hval0
 refine (law_vectors a0 len0 cap0 z0 a1 a2 W w0 (is64_of w1) (is64_of w2)).mono fun e W' ⟨he, bel⟩ => ?_
 subst he
 exact ⟨_, rfl, _, _, _, [], _, [], hW', trodAll_mk1 (shut_bool Try.underlying4 _), (trodAll_cons_mk (Below.trod laidOut (by kernel_rfl) (of_decide_eq_true (by kernel_rfl)) k0 bel lt0) (trodAll_cons_mk (shut_int Try.underlying3 w1) (trodAll_cons_mk (shut_int Try.underlying3 w2) trodAll_mk0))), rfl, bel.frame _, fun h => by cases h⟩
theorem over : Rows.planeVectorsRow.holds Try.pinned (OpenSpec.ofChange Rows.planeVectorsSpec) :=
 OpenClaim.holds_of_wide 6 Try.f6 rfl rfl rfl rfl rfl rfl rfl ⟨rfl, rfl, rfl, rfl, rfl⟩ rfl rfl rfl rfl rfl (by kernel_rfl) Try.func6 (by kernel_rfl)
  (of_decide_eq_true (by kernel_rfl)) (by unfold Func.isWrapper; first | (rw [if_pos (by decide +kernel)]; kernel_rfl) | (rw [if_neg (by decide +kernel)]; exact ⟨rfl, rfl⟩))
  (fun os started H enc _ => lifted os started H enc)
theorem proved : Rows.PlaneVectorsSaid := over
#print axioms proved
end Go.Proofs.Ytonkbckgbfcnkaa.planeVectors
