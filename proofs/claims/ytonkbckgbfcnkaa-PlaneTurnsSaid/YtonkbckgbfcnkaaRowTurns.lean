/-
 THE LAW PlaneTurns: for every input it returns true, and each argument reads afterwards as it read before. Its walk: LawTurnsI; here the row's step.
-/
import Derived.Test.YtonkbckgbfcnkaaMemI
import Derived.OpenShut
import Derived.Test.YtonkbckgbfcnkaaRef5D
import Derived.Test.YtonkbckgbfcnkaaWalkLives
import Derived.Test.YtonkbckgbfcnkaaRef5A
import Derived.Test.YtonkbckgbfcnkaaRef5T
import Derived.Test.YtonkbckgbfcnkaaRef5E
import Derived.Test.YtonkbckgbfcnkaaNew
import Derived.WalkKit
import Derived.ProofKit
import Derived.ShutString
import Derived.ChangeOld
import Derived.Below
import Derived.SizedLaws
namespace Go.Proofs.Ytonkbckgbfcnkaa
open Go.RowKit
/-- What is told of a slice of ints that came in. -/
def IsI (w : World) (a : Option Addr) (len cap : Nat) (l : List Int) : Prop := Rd w w.heap.size a (il l) ∧ len = l.length ∧ len ≤ cap ∧ cap ≤ maxLen ∧ ∀ x ∈ l, W.Is64 x
theorem isI_of {w : World} {x : Addr} {len cap : Nat} {zs : List Int} (hl : len ≤ cap) (hm : cap ≤ maxLen) (hz : zs.length = cap) (hcell : ∀ i, i < zs.length → w.cell? (x.add i) = some (.int .i64 (zs.getD i 0))) (hwf : ∀ n ∈ zs, (Lit.int .i64 n).wf = true) :
  ∃ l, IsI w (some x) len cap l := by
 refine ⟨zs.take len, ?_, by simp; omega, hl, hm, ?_⟩
 ·intro hn
  simp at hn
  obtain ⟨b, o, rfl, hc⟩ := ints_at hcell (by omega)
  refine ⟨b, o, rfl, ?_, fun j u hu => ?_⟩
  ·exact World.block_lt_of_cell? w ⟨b, o + 0, none⟩ (hc 0 (by omega))
  ·have hj : j < (il (zs.take len)).length := (List.getElem?_eq_some_iff.1 hu).1
   simp at hj
   rw [hc j (by omega), ← hu]
   have hjz : j < zs.length := by omega
   simp only [il]
   rw [List.getElem?_map, List.getElem?_take, if_pos (by omega), List.getElem?_eq_getElem hjz]
   simp only [Option.map_some, List.getD, List.getElem?_eq_getElem hjz, Option.getD_some]
 ·intro n hn
  have hwj := hwf n (List.mem_of_mem_take hn)
  have := bounds_i64 hwj
  unfold W.Is64
  omega
theorem isI_nil (w : World) : IsI w none 0 0 [] := ⟨Rd.nil _ _ _, rfl, Nat.le_refl _, by decide, by simp⟩
theorem is64_of {n : Int} (h : (Lit.int .i64 n).wf = true) : W.Is64 n := by
 have := bounds_i64 h
 unfold W.Is64
 omega
end Go.Proofs.Ytonkbckgbfcnkaa
namespace Go.Proofs.Ytonkbckgbfcnkaa
set_option maxHeartbeats 1000000
open Go.RowKit
attribute [local go_sem] run_store_one
set_option linter.unusedVariables false
theorem around_det (n most : Int) (hn : W.Is64 n) (h0 : 0 < most) (h1 : most ≤ 1000000000000) : ∃ m, 0 ≤ m ∧ m < most ∧ ∀ w : World, Calls Try.prog 19 #[.int .i64 n, .int .i64 most] w (fun e w' => e = .returned (.int .i64 m) ∧ w = w') := by
 have hlo := hn.1
 have hhi := hn.2
 have hz : (most == 0) = false := beq_eq_false_iff_ne.2 (by omega)
 clear hn
 by_cases h : n < 0
 ·have hd := decide_eq_true h
  obtain ⟨m, hm⟩ : ∃ m, n = -m := ⟨-n, by omega⟩
  subst hm
  have e : -(-m + 1) = m - 1 := by omega
  have hm0 : 0 ≤ m - 1 := by omega
  have hw : IntKind.i64.wrap (-(-m + 1)) = m - 1 := by rw [e, IntKind.wrap_i64]; omega
  have hq0 : 0 ≤ (m - 1) % most := Int.emod_nonneg _ (by omega)
  have hq1 : (m - 1) % most < most := Int.emod_lt_of_pos _ h0
  have ht : Int.tmod (-(-m + 1)) most = (m - 1) % most := by rw [e, Int.tmod_eq_emod_of_nonneg hm0]
  have ht2 : Int.tmod (m - 1) most = (m - 1) % most := Int.tmod_eq_emod_of_nonneg hm0
  clear e
  refine ⟨(m - 1) % most, by omega, by omega, fun w => ?_⟩
  go_enter Try.func19, Try.ntmps19
  go_wp2
  go_ret
  exact ⟨rfl, rfl⟩
 ·have hd := decide_eq_false h
  have hn0 : 0 ≤ n := by omega
  have hq0 : 0 ≤ n % most := Int.emod_nonneg _ (by omega)
  have hq1 : n % most < most := Int.emod_lt_of_pos _ h0
  refine ⟨n % most, hq0, hq1, fun w => ?_⟩
  go_enter Try.func19, Try.ntmps19
  go_wp2
  go_ret
  exact ⟨rfl, rfl⟩
theorem number_det (n : Int) (hn : W.Is64 n) : ∃ r, Bq 7 r ∧ ∀ w : World, Calls Try.prog 18 #[.int .i64 n] w (RR r w) := by
 obtain ⟨m, hm0, hm1, har⟩ := around_det n 100 hn (by omega) (by omega)
 have hq0 : 0 ≤ m % 25 ∧ m % 25 ≤ 24 := by omega
 have hq1 : 0 ≤ m / 25 ∧ m / 25 ≤ 3 := by omega
 refine ⟨Rat.divInt (m % 25 - 12) (1 + m / 25), Bq.divInt (bd_num (by omega) (by omega)) (bd_num (by omega) (by omega)) (by omega), fun w => ?_⟩
 have HAR := Lib.hid har; clear har
 go_enter Try.func18, Try.ntmps18
 go_wp2_with fail
 generalize hW : w.alloc _ = W1
 obtain ⟨k2, hB⟩ := box1 hW
 have k5 := Lib.hid hB; clear hW hB
 obtain ⟨kc, kd, ke, kf, kg, l9⟩ := k2.f4
 refine (HAR.out W1).mono ?_
 rintro e w' ⟨rfl, rfl⟩
 go_wp2_with fail
 have k3 := rof4_any (m % 25 - 12) (1 + m / 25) W1 ⟨by omega, by omega⟩ ⟨by omega, by omega⟩
 (with_reducible refine k3.mono ?_)
 clear k3
 rintro e w10 ⟨z0, z1, z2, z3, rfl, k0, k1⟩
 have k4 := k2.below k1
 have k6 := Lib.hid (Blw k5.out k1)
 have k7 := Lib.hid k0
 obtain ⟨o_z0, o_z1, o_z2, o_z3⟩ := k0.ones
 clear k0 k1
 obtain ⟨k8, k9, ka, kb, ki, kj⟩ := k4.f4
 go_wp2
 have hkp := (Kp.refl w10).t4 (k4) z0 z1 z2 z3
 refine bodyPost_ret (v := .agg #[z0, z1, z2, z3]) (by simp [results, Try.results18, go_sem, k8, k9, ka, kb]) rfl ⟨_, _, _, _, rfl, ?_, bel4 (k6.out) (by first | simp | omega)⟩
 exact k7.out.kp hkp
end Go.Proofs.Ytonkbckgbfcnkaa
namespace Go.Proofs.Ytonkbckgbfcnkaa
set_option maxHeartbeats 16000000
open Go.RowKit
attribute [local go_sem] run_store_one
set_option linter.unusedVariables false
set_option linter.unusedSimpArgs false
theorem tru {a b : Rat × Rat} (h : a = b) : true = decide (a = b) := (decide_eq_true h).symm
theorem truu {t : Rat × Rat} (h : Unit1 t) : true = decide (t.1 * t.1 + t.2 * t.2 = 1) := (decide_eq_true (p := t.1 * t.1 + t.2 * t.2 = 1) h).symm
/-- Whether the squares add up to 1. -/
def ok1 (t : Rat × Rat) : Bool := decide (t.1 * t.1 + t.2 * t.2 = 1)
/-- A struct with a row of one digit in it. -/
def SQd (f : Value → Value) (d : Int) : Sp := fun w v => ∃ b o c, v = f (.slice (some ⟨b, o, none⟩) 1 c) ∧ Sl w (.slice (some ⟨b, o, none⟩) 1 c) [d]
theorem SQd.mono (f : Value → Value) (d : Int) : Mono (SQd f d) := fun _ _ _ ⟨b, o, c, h1, h2⟩ hb => ⟨b, o, c, h1, h2.below hb⟩
theorem int_one {w : World} {q : Value} {d : Int} (h : Sl w q [d]) (h0 : 0 < d) (h1 : d < 1000000000) : IntV w (.bool false) q d :=
 ⟨[d], by rw [decide_eq_false (by omega)], h, I.Can.one h0 h1, by simp [I.val]; omega⟩
theorem half {x : Int} (hg : Int.gcd x 2 = 1) : (Rat.divInt x 2).num = x ∧ ((Rat.divInt x 2).den : Int) = 2 := divInt_pos (by omega) hg
theorem raw_valid (t : Rat × Rat) (tc0 tc1 tc2 tc3 tc4 tc5 tc6 tc7 : Value) (bq oq cq : Nat) (d : Int) (w : World) (ht : VecV w tc0 tc1 tc2 tc3 tc4 tc5 tc6 tc7 t) (hq : Sl w (.slice (some ⟨bq, oq, none⟩) 1 cq) [d]) (hd0 : 0 ≤ d) (hd1 : d < 3) (hb : Bv 7 t) :
  ∃ cr : Bool, (∀ W, Below w.heap.size w W → Calls Try.prog 20 #[.agg #[tc0, tc1, .bool false, .slice (some ⟨bq, oq, none⟩) 1 cq, tc4, tc5, tc6, tc7]] W (fun e w' => e = .returned (.bool cr) ∧ Below W.heap.size W w')) ∧ (∀ W, Below w.heap.size w W → Calls Try.prog 21 #[.agg #[tc0, tc1, .bool false, .slice (some ⟨bq, oq, none⟩) 1 cq, tc4, tc5, tc6, tc7]] W (fun e w' => e = .returned (.bool cr) ∧ Below W.heap.size W w')) := by
 have hd : d = 0 ∨ d = 1 ∨ d = 2 := by omega
 rcases hd with rfl | rfl | rfl
 ·refine ⟨false, fun W hW => ?_, fun W hW => ?_⟩
  ·exact tvalid_c tc0 tc1 (.bool false) (.slice (some ⟨bq, oq, none⟩) 1 cq) tc4 tc5 tc6 tc7 W ht.one0 ht.one1 rfl rfl ht.one4 ht.one5 ht.one6 ht.one7 fun W2 h2 => rvalid_z 0 tc0 tc1 (.slice (some ⟨bq, oq, none⟩) 1 cq) t.1.num W2 ((ht.1.1.below hW).below h2) ((hq.below hW).below h2)
  ·exact tvalid5_c tc0 tc1 (.bool false) (.slice (some ⟨bq, oq, none⟩) 1 cq) tc4 tc5 tc6 tc7 W ht.one0 ht.one1 rfl rfl ht.one4 ht.one5 ht.one6 ht.one7 fun W2 h2 => rvalid4_z 0 tc0 tc1 (.slice (some ⟨bq, oq, none⟩) 1 cq) t.1.num W2 ((ht.1.1.below hW).below h2) ((hq.below hW).below h2)
 ·refine ⟨false, fun W hW => ?_, fun W hW => ?_⟩
  ·exact tvalid_c tc0 tc1 (.bool false) (.slice (some ⟨bq, oq, none⟩) 1 cq) tc4 tc5 tc6 tc7 W ht.one0 ht.one1 rfl rfl ht.one4 ht.one5 ht.one6 ht.one7 fun W2 h2 => rvalid_o 0 tc0 tc1 (.slice (some ⟨bq, oq, none⟩) 1 cq) t.1.num W2 ((ht.1.1.below hW).below h2) (int_one ((hq.below hW).below h2) (by omega) (by omega))
  ·exact tvalid5_c tc0 tc1 (.bool false) (.slice (some ⟨bq, oq, none⟩) 1 cq) tc4 tc5 tc6 tc7 W ht.one0 ht.one1 rfl rfl ht.one4 ht.one5 ht.one6 ht.one7 fun W2 h2 => rvalid4_o 0 tc0 tc1 (.slice (some ⟨bq, oq, none⟩) 1 cq) t.1.num W2 ((ht.1.1.below hW).below h2) (int_one ((hq.below hW).below h2) (by omega) (by omega))
 ·by_cases hg : Int.gcd t.1.num 2 = 1
  ·obtain ⟨h1, h2⟩ := half hg
   have hden : (Rat.divInt t.1.num 2).den ≠ 1 := by omega
   have hv : ∀ W, Below w.heap.size w W → VecV W tc0 tc1 (.bool false) (.slice (some ⟨bq, oq, none⟩) 1 cq) tc4 tc5 tc6 tc7 (Rat.divInt t.1.num 2, t.2) := by
    intro W hW
    refine ⟨⟨?_, ?_⟩, (ht.below hW).2⟩
    ·show IntV W _ _ (Rat.divInt t.1.num 2).num
     rw [h1]; exact ht.1.1.below hW
    ·show IntV W _ _ (dq (Rat.divInt t.1.num 2))
     rw [dq_more hden, h2]; exact int_one (hq.below hW) (by omega) (by omega)
   have hbv : Bv 7 (Rat.divInt t.1.num 2, t.2) := ⟨Bq.divInt hb.1.1 (by unfold I.Bd; decide) (by omega), hb.2⟩
   exact ⟨_, fun W hW => tvalid_any 7 tc0 tc1 (.bool false) (.slice (some ⟨bq, oq, none⟩) 1 cq) tc4 tc5 tc6 tc7 _ W (hv W hW) hbv (by omega) _ rfl, fun W hW => tvalid5_any 7 tc0 tc1 (.bool false) (.slice (some ⟨bq, oq, none⟩) 1 cq) tc4 tc5 tc6 tc7 _ W _ rfl (hv W hW) hbv (by omega)⟩
  ·refine ⟨false, fun W hW => ?_, fun W hW => ?_⟩
   ·exact tvalid_c tc0 tc1 (.bool false) (.slice (some ⟨bq, oq, none⟩) 1 cq) tc4 tc5 tc6 tc7 W ht.one0 ht.one1 rfl rfl ht.one4 ht.one5 ht.one6 ht.one7 fun W2 h2 => rvalid_g 7 tc0 tc1 (.slice (some ⟨bq, oq, none⟩) 1 cq) t.1.num W2 ((ht.1.1.below hW).below h2) (int_one ((hq.below hW).below h2) (by omega) (by omega)) hb.1.1 (by omega) hg
   ·exact tvalid5_c tc0 tc1 (.bool false) (.slice (some ⟨bq, oq, none⟩) 1 cq) tc4 tc5 tc6 tc7 W ht.one0 ht.one1 rfl rfl ht.one4 ht.one5 ht.one6 ht.one7 fun W2 h2 => rvalid4_g 7 tc0 tc1 (.slice (some ⟨bq, oq, none⟩) 1 cq) t.1.num W2 ((ht.1.1.below hW).below h2) (int_one ((hq.below hW).below h2) (by omega) (by omega)) hb.1.1 (by omega) hg
set_option maxRecDepth 100000 in
theorem turns_walk (sl : Value) (l : List Int) (n m k : Int) (w : World) (hs : Sr w sl l) (hl : ∀ x ∈ l, W.Is64 x) (hn : W.Is64 n) (hm : W.Is64 m) (hk : W.Is64 k) :
  Calls Try.prog 4 #[sl, .int .i64 n, .int .i64 m, .int .i64 k] w fun e w' => e = .returned (.bool true) ∧ Below w.heap.size w w' := by
 obtain ⟨rn, hbn, hcn⟩ := number_det k hk
 obtain ⟨d, hd0, hd1, har⟩ := around_det k 3 hk (by omega) (by omega)
 have HS := Lib.hid hs; have HL := Lib.hid hl; have HN := Lib.hid hn; have HM := Lib.hid hm; have HCN := Lib.hid hcn; have HBN := Lib.hid hbn; have HAR := Lib.hid har
 have HD := Lib.hid (And.intro hd0 hd1)
 clear hs hl hn hm hk hbn hcn har hd0 hd1
 go_enter Try.func4, Try.ntmps4
 go_wp2_with fail
 have HBREFL := Lib.hid (Below.refl w.heap.size w)
 have kh := turn_any n w HN.out
 (with_reducible refine kh.mono ?_)
 clear kh
 rintro e w1 ⟨t, hb7t, hut, tc0, tc1, tc2, tc3, tc4, tc5, tc6, tc7, rfl, k8, k9⟩
 have HBt := Lib.hid hb7t; clear hb7t
 have HUt := Lib.hid hut; clear hut
 have HS3 := Lib.hid k9
 have kQ := Lib.hid (Blw HBREFL.out k9)
 have F5 := Lib.hid k8
 obtain ⟨o_tc0, o_tc1, o_tc2, o_tc3, o_tc4, o_tc5, o_tc6, o_tc7⟩ := k8.ones
 clear k8 k9
 dsimp only
 go_step
 refine new_Turn rfl rfl rfl rfl rfl rfl rfl (by simp) rfl o_tc0 o_tc1 o_tc2 o_tc3 o_tc4 o_tc5 o_tc6 o_tc7 (fun W6 hx7 hB => ?_)
 simp only [Act.put, List.setIfInBounds_toArray, List.set_cons_succ, List.set_cons_zero]
 have HS8 := Lib.hid hB
 have kS := Lib.hid (Blw kQ.out hB)
 clear hB
 obtain ⟨k0e, k0f, k0g, k0h, k0i, k0j, k0k, k0l, k0m, kT⟩ := hx7.f8
 go_wp2_with fail
 have ki := turn_any m W6 HM.out
 (with_reducible refine ki.mono ?_)
 clear ki
 rintro e w20 ⟨u, hb7u, huu, uc0, uc1, uc2, uc3, uc4, uc5, uc6, uc7, rfl, ka, kb⟩
 have HBu := Lib.hid hb7u; clear hb7u
 have HUu := Lib.hid huu; clear huu
 clear kT
 have HS22 := Lib.hid kb
 have kU := Lib.hid (Blw kS.out kb)
 have kV := Lib.hid ka
 obtain ⟨o_uc0, o_uc1, o_uc2, o_uc3, o_uc4, o_uc5, o_uc6, o_uc7⟩ := ka.ones
 clear ka kb
 dsimp only
 go_step
 refine new_Turn rfl rfl rfl rfl rfl rfl rfl (by simp) rfl o_uc0 o_uc1 o_uc2 o_uc3 o_uc4 o_uc5 o_uc6 o_uc7 (fun W25 hx26 hB => ?_)
 simp only [Act.put, List.setIfInBounds_toArray, List.set_cons_succ, List.set_cons_zero]
 have HS27 := Lib.hid hB
 have kj := Lib.hid (Blw kU.out hB)
 clear hB
 have kk := ((hx7.below HS22.out).below HS27.out)
 obtain ⟨k0n, k0o, k0p, k0q, k0r, k0s, k0t, k0u, k0v, kW⟩ := kk.f8
 obtain ⟨k0w, k0x, k0y, k0z, k0A, k0B, k0C, k0D, k0E, kX⟩ := hx26.f8
 go_wp2_with fail
 have kl := vec_any sl l 0 W25 (HS.out.below kj.out) HL.out (by omega) (by omega)
 (with_reducible refine kl.mono ?_)
 clear kl
 rintro e w51 ⟨aa, hb7aa, aac0, aac1, aac2, aac3, aac4, aac5, aac6, aac7, rfl, kc, kd⟩
 have HBaa := Lib.hid hb7aa; clear hb7aa
 clear kW kX
 have HS53 := Lib.hid kd
 have kY := Lib.hid (Blw kj.out kd)
 have kZ := Lib.hid kc
 obtain ⟨o_aac0, o_aac1, o_aac2, o_aac3, o_aac4, o_aac5, o_aac6, o_aac7⟩ := kc.ones
 clear kc kd
 dsimp only
 go_step
 refine new_Vec rfl rfl rfl rfl rfl rfl rfl (by simp) rfl o_aac0 o_aac1 o_aac2 o_aac3 o_aac4 o_aac5 o_aac6 o_aac7 (fun W56 hx57 hB => ?_)
 simp only [Act.put, List.setIfInBounds_toArray, List.set_cons_succ, List.set_cons_zero]
 have HS58 := Lib.hid hB
 have k00 := Lib.hid (Blw kY.out hB)
 clear hB
 have km := ((kk.below HS53.out).below HS58.out)
 obtain ⟨k0F, k0G, k0H, k0I, k0J, k0K, k0L, k0M, k0N, l71⟩ := km.f8
 have kn := ((hx26.below HS53.out).below HS58.out)
 obtain ⟨k0O, k0P, k0Q, k0R, k0S, k0T, k0U, k0V, k0W, l83⟩ := kn.f8
 obtain ⟨k0X, k0Y, k0Z, k10, k11, k12, k13, k14, k15, l93⟩ := hx57.f8
 go_upto_region 4 with fail
 go_upto_region 4 with fail
 generalize hW : W56.drew = W94
 have hB : Below W56.heap.size W56 W94 := by rw [← hW]; exact (Below.refl _ _).drew
 clear l71 l83 l93
 have HS95 := Lib.hid hB
 have ko := Lib.hid (Blw k00.out hB)
 clear hB
 have kr := (km.below HS95.out)
 have ke := (kn.below HS95.out)
 have ks := (hx57.below HS95.out)
 have k16 := kr.lt
 have k17 := ke.lt
 have k18 := ks.lt
 have kt := Lib.hid ((((kV.out.kp (.of HS27.out)).kp (.of HS53.out)).kp (.of HS58.out)).kp (.of HS95.out))
 generalize hF : ({ tmps := _, defers := _ } : Act) = F
 have ev3 : F.eval (.tmp 3) = .int .i64 k := by rw [← hF]; rfl
 have ev10 : F.eval (.tmp 10) = .pointer (some ⟨w20.heap.size, 0, none⟩) := by rw [← hF]; rfl
 have HF := Lib.hid hF; clear hF
 refine wp_flow_tab true hW 6 [(20, []), (21, [0]), (22, []), (23, [2]), (24, [1, 3]), (12, [])] [SC (.int .i64 k), SR (rn), SC (.pointer (some ⟨w20.heap.size, 4, none⟩)), SC (.agg #[uc4, uc5, uc6, uc7]), SV ((rn, u.2)), SB W94 31 [.bool false, .slice none 0 0, .bool false, .slice none 0 0, .bool false, .slice none 0 0, .bool false, .slice none 0 0]] [false, false, false, false, false, true] (by kernel_rfl) (by kernel_rfl) (by kernel_rfl) (by kernel_rfl) (by kernel_rfl) (by rw [← HF.out]; simp) ⟨SC.mono _, SR.mono _, SC.mono _, SC.mono _, SV.mono _, SB.mono _ _ _, trivial⟩ ?_ ?_
 ·intro kq hkq a wx hB hp hs
  have hcase : kq = 0 ∨ kq = 1 ∨ kq = 2 ∨ kq = 3 ∨ kq = 4 ∨ kq = 5 := by omega
  rcases hcase with rfl | rfl | rfl | rfl | rfl | rfl
  ·clear hp
   have b3 := (hs 3 rfl).trans ev3
   simp [Act.eval] at b3
   exact ⟨_, rfl, Does.val (by simp [execOp, Act.eval, b3, go_sem]) rfl⟩
  ·obtain ⟨k0, -⟩ := hp
   exact ⟨_, rfl, Does.rr (f := 18) (call1 rfl (fun _ => by simp [go_sem]) k0) (HCN.out wx)⟩
  ·exact ⟨_, rfl, fa_Turn1 rfl ((hs 10 rfl).trans ev10)⟩
  ·obtain ⟨k0, -⟩ := hp
   exact ⟨_, rfl, ld_Rat rfl k0 (ke.below hB) rfl rfl rfl rfl⟩
  ·obtain ⟨k0, k1, -⟩ := hp
   obtain ⟨rr0, rr1, rr2, rr3, e0, h_rr⟩ := k0
   replace e0 : a.eval (.tmp 21) = .agg #[rr0, rr1, rr2, rr3] := e0
   have e1 : a.eval (.tmp 23) = .agg #[uc4, uc5, uc6, uc7] := k1
   simp [Act.eval] at e0
   simp [Act.eval] at e1
   exact ⟨_, rfl, Does.val (by simp [execOp, Act.eval, e0, e1, go_sem]) ⟨rr0, rr1, rr2, rr3, uc4, uc5, uc6, uc7, rfl, ⟨h_rr, ((kt.out.kp (.of hB))).2⟩⟩⟩
  ·clear hp
   exact ⟨_, rfl, Does.box (by simp [execOp, go_sem]) hB⟩
 ·intro val wx hB hsp hdis
  obtain ⟨ot0, ot1, ot2, ot3, ot4, ot5, ot6, ot7, e4, h_ot⟩ := hsp 4 (by omega)
  replace e4 : val 4 = .agg #[ot0, ot1, ot2, ot3, ot4, ot5, ot6, ot7] := e4
  obtain ⟨g107_5, e5, hg107_5, hbx107_5⟩ := hsp 5 (by omega)
  have hgw107_5 : w.heap.size ≤ g107_5 := Nat.le_trans ko.out.size hg107_5
  have hgl107_5 := hbx107_5.lt
  rw [← HF.out]
  change wpList _ _ _ [_] _ _
  simp only [puts, vals, List.map_cons, List.map_nil, List.foldl_cons, List.foldl_nil, if_true, Nat.zero_add, Nat.reduceAdd, e4, e5, List.setIfInBounds_toArray, List.set_cons_succ, List.set_cons_zero]
  clear hsp hdis HF e4 e5
  clear ev3 ev10
  obtain ⟨o_ot0, o_ot1, o_ot2, o_ot3, o_ot4, o_ot5, o_ot6, o_ot7⟩ := h_ot.ones
  refine wst_Turn rfl rfl rfl rfl rfl hbx107_5 o_ot0 o_ot1 o_ot2 o_ot3 o_ot4 o_ot5 o_ot6 o_ot7 (fun w108 hx109 hst => ?_)
  have hB2 := hst.2.1 _ _ hg107_5 hB
  have HS110 := Lib.hid hB2
  have k04 := Lib.hid (Blw ko.out hB2)
  have k05 := Lib.hid (h_ot.kp hst.1)
  clear h_ot hB hB2 hst hbx107_5 hgl107_5
  go_upto_region 5 with fail
  go_upto_region 5 with fail
  generalize hW : w108.drew = W113
  have hB : Below w108.heap.size w108 W113 := by rw [← hW]; exact (Below.refl _ _).drew
  have HS114 := Lib.hid hB
  have ku := Lib.hid (Blw k04.out hB)
  clear hB
  have k5 := ((kr.below HS110.out).below HS114.out)
  have kv := ((ke.below HS110.out).below HS114.out)
  have kw := ((ks.below HS110.out).below HS114.out)
  have kx := (hx109.below HS114.out)
  have k19 := k5.lt
  have k1a := kv.lt
  have k1b := kw.lt
  have k1c := kx.lt
  generalize hF : ({ tmps := _, defers := _ } : Act) = F
  have ev3 : F.eval (.tmp 3) = .int .i64 k := by rw [← hF]; rfl
  have ev9 : F.eval (.tmp 9) = .pointer (some ⟨w1.heap.size, 0, none⟩) := by rw [← hF]; rfl
  have HF := Lib.hid hF; clear hF
  refine wp_flow_tab true hW 12 [(25, []), (26, [0]), (27, [1]), (28, []), (29, [3]), (30, [4]), (31, [5]), (32, [2, 6]), (33, []), (34, [8]), (35, [7, 9]), (13, [])] [SC (.pointer (some ⟨w1.heap.size, 0, none⟩)), SC (.pointer (some ⟨w1.heap.size, 0, none⟩)), SC (.agg #[tc0, tc1]), SC (.int .i64 k), SC (.int .i64 d), SS [d], SQd (fun q => .agg #[.bool false, q]) d, SQd (fun q => .agg #[tc0, tc1, .bool false, q]) d, SC (.pointer (some ⟨w1.heap.size, 4, none⟩)), SC (.agg #[tc4, tc5, tc6, tc7]), SQd (fun q => .agg #[tc0, tc1, .bool false, q, tc4, tc5, tc6, tc7]) d, SB W113 31 [.bool false, .slice none 0 0, .bool false, .slice none 0 0, .bool false, .slice none 0 0, .bool false, .slice none 0 0]] [false, false, false, false, false, false, false, false, false, false, false, true] (by kernel_rfl) (by kernel_rfl) (by kernel_rfl) (by kernel_rfl) (by kernel_rfl) (by rw [← HF.out]; simp) ⟨SC.mono _, SC.mono _, SC.mono _, SC.mono _, SC.mono _, SS.mono _, SQd.mono _ _, SQd.mono _ _, SC.mono _, SC.mono _, SQd.mono _ _, SB.mono _ _ _, trivial⟩ ?_ ?_
  ·intro kq hkq a wx hB hp hs
   have hcase : kq = 0 ∨ kq = 1 ∨ kq = 2 ∨ kq = 3 ∨ kq = 4 ∨ kq = 5 ∨ kq = 6 ∨ kq = 7 ∨ kq = 8 ∨ kq = 9 ∨ kq = 10 ∨ kq = 11 := by omega
   rcases hcase with rfl | rfl | rfl | rfl | rfl | rfl | rfl | rfl | rfl | rfl | rfl | rfl
   ·exact ⟨_, rfl, fa_Turn0 rfl ((hs 9 rfl).trans ev9)⟩
   ·obtain ⟨k0, -⟩ := hp
    exact ⟨_, rfl, fa_Rat0 rfl k0⟩
   ·obtain ⟨k0, -⟩ := hp
    exact ⟨_, rfl, ld_Int rfl k0 (k5.below hB) rfl rfl⟩
   ·clear hp
    have b3 := (hs 3 rfl).trans ev3
    simp [Act.eval] at b3
    exact ⟨_, rfl, Does.val (by simp [execOp, Act.eval, b3, go_sem]) rfl⟩
   ·obtain ⟨k0, -⟩ := hp
    exact ⟨_, rfl, Does.rc (f := 19) (call2 rfl (fun _ => by simp [go_sem]) k0 rfl) ((HAR.out wx).mono (fun _ _ h => ⟨h.1, h.2 ▸ Below.refl _ _⟩))⟩
   ·obtain ⟨k0, -⟩ := hp
    have e0 : a.eval (.tmp 29) = .int .i64 d := k0
    simp [Act.eval] at e0
    exact ⟨_, rfl, Does.one (by simp [execOp, Act.eval, e0, go_sem])⟩
   ·obtain ⟨k0, -⟩ := hp
    obtain ⟨q, e0⟩ : ∃ v, a.eval (.tmp 30) = v := ⟨_, rfl⟩
    have hq : Sl wx q [d] := e0 ▸ k0
    obtain ⟨bq, oq, cq, rfl, -, -, -, -⟩ := sl_form hq
    simp [Act.eval] at e0
    exact ⟨_, rfl, Does.val (by simp [execOp, Act.eval, e0, go_sem]) ⟨bq, oq, cq, rfl, hq⟩⟩
   ·obtain ⟨k0, k1, -⟩ := hp
    have e0 : a.eval (.tmp 27) = .agg #[tc0, tc1] := k0
    obtain ⟨bq, oq, cq, e1, hq⟩ := k1
    replace e1 : a.eval (.tmp 31) = .agg #[.bool false, .slice (some ⟨bq, oq, none⟩) 1 cq] := e1
    simp [Act.eval] at e0
    simp [Act.eval] at e1
    exact ⟨_, rfl, Does.val (by simp [execOp, Act.eval, e0, e1, go_sem]) ⟨bq, oq, cq, rfl, hq⟩⟩
   ·exact ⟨_, rfl, fa_Turn1 rfl ((hs 9 rfl).trans ev9)⟩
   ·obtain ⟨k0, -⟩ := hp
    exact ⟨_, rfl, ld_Rat rfl k0 (k5.below hB) rfl rfl rfl rfl⟩
   ·obtain ⟨k0, k1, -⟩ := hp
    have e1 : a.eval (.tmp 34) = .agg #[tc4, tc5, tc6, tc7] := k1
    obtain ⟨bq, oq, cq, e0, hq⟩ := k0
    replace e0 : a.eval (.tmp 32) = .agg #[tc0, tc1, .bool false, .slice (some ⟨bq, oq, none⟩) 1 cq] := e0
    simp [Act.eval] at e0
    simp [Act.eval] at e1
    exact ⟨_, rfl, Does.val (by simp [execOp, Act.eval, e0, e1, go_sem]) ⟨bq, oq, cq, rfl, hq⟩⟩
   ·clear hp
    exact ⟨_, rfl, Does.box (by simp [execOp, go_sem]) hB⟩
  ·intro val wx hB hsp hdis
   obtain ⟨bq, oq, cq, e10, h_raw⟩ := hsp 10 (by omega)
   replace e10 : val 10 = .agg #[tc0, tc1, .bool false, .slice (some ⟨bq, oq, none⟩) 1 cq, tc4, tc5, tc6, tc7] := e10
   obtain ⟨g128_11, e11, hg128_11, hbx128_11⟩ := hsp 11 (by omega)
   have hgw128_11 : w.heap.size ≤ g128_11 := Nat.le_trans ku.out.size hg128_11
   have hgl128_11 := hbx128_11.lt
   rw [← HF.out]
   change wpList _ _ _ [_] _ _
   simp only [puts, vals, List.map_cons, List.map_nil, List.foldl_cons, List.foldl_nil, if_true, Nat.zero_add, Nat.reduceAdd, e10, e11, List.setIfInBounds_toArray, List.set_cons_succ, List.set_cons_zero]
   clear hsp hdis HF e10 e11
   clear ev3 ev9
   refine wst_Turn rfl rfl rfl rfl rfl hbx128_11 o_tc0 o_tc1 rfl rfl o_tc4 o_tc5 o_tc6 o_tc7 (fun w129 hx130 hst => ?_)
   have hB2 := hst.2.1 _ _ hg128_11 hB
   have HS131 := Lib.hid hB2
   have k06 := Lib.hid (Blw ku.out hB2)
   have k07 := Lib.hid (h_raw.kp hst.1)
   clear h_raw hB hB2 hst hbx128_11 hgl128_11
   have ky := Lib.hid (((((((((F5.out.kp (.of HS8.out)).kp (.of HS22.out)).kp (.of HS27.out)).kp (.of HS53.out)).kp (.of HS58.out)).kp (.of HS95.out)).kp (.of HS110.out)).kp (.of HS114.out)).kp (.of HS131.out))
   obtain ⟨cr, hr1, hr2⟩ := raw_valid t tc0 tc1 tc2 tc3 tc4 tc5 tc6 tc7 bq oq cq d w129 ky.out k07.out HD.out.1 HD.out.2 HBt.out
   have HR1 := Lib.hid hr1; have HR2 := Lib.hid hr2; clear hr1 hr2
   go_upto_region 6 with fail
   go_upto_region 6 with fail
   generalize hW : w129.drew = W135
   have hB : Below w129.heap.size w129 W135 := by rw [← hW]; exact (Below.refl _ _).drew
   have HS136 := Lib.hid hB
   have k08 := Lib.hid (Blw k06.out hB)
   clear hB
   have kz := ((kx.below HS131.out).below HS136.out)
   have kA := Lib.hid (((k05.out.kp (.of HS114.out)).kp (.of HS131.out)).kp (.of HS136.out))
   have kB := (hx130.below HS136.out)
   have kC := ((k5.below HS131.out).below HS136.out)
   have kD := Lib.hid (ky.out.kp (.of HS136.out))
   generalize hF : ({ tmps := _, defers := _ } : Act) = F
   have ev9 : F.eval (.tmp 9) = .pointer (some ⟨w1.heap.size, 0, none⟩) := by rw [← hF]; rfl
   have ev12 : F.eval (.tmp 12) = .pointer (some ⟨g107_5, 0, none⟩) := by rw [← hF]; rfl
   have ev13 : F.eval (.tmp 13) = .pointer (some ⟨g128_11, 0, none⟩) := by rw [← hF]; rfl
   have HF := Lib.hid hF; clear hF
   refine wp_flow_tabG true hW 23 [(36, []), (37, [0]), (38, []), (39, [2]), (40, [1, 3]), (41, [4]), (42, [5]), (43, [6, 5]), (44, [5]), (45, [8, 5]), (46, [7, 9, 5]), (47, [5, 10]), (48, [11]), (49, [12]), (50, [13, 12]), (51, [14, 12]), (52, [12, 15]), (53, [16]), (54, [17]), (55, [17]), (56, [18, 19, 17]), (57, [20, 17]), (58, [17, 21])] [SC (.agg #[ot0, ot1, ot2, ot3, ot4, ot5, ot6, ot7]), SC (.bool (ok1 (rn, u.2))), SC (.agg #[ot0, ot1, ot2, ot3, ot4, ot5, ot6, ot7]), SC (.bool (ok1 (rn, u.2))), SC (.bool false), SC (.bool false), SC (.agg #[tc0, tc1, .bool false, .slice (some ⟨bq, oq, none⟩) 1 cq, tc4, tc5, tc6, tc7]), SC (.bool cr), SC (.agg #[tc0, tc1, .bool false, .slice (some ⟨bq, oq, none⟩) 1 cq, tc4, tc5, tc6, tc7]), SC (.bool cr), SC (.bool false), SC (.bool false), SC (.bool false), SC (.agg #[tc0, tc1, tc2, tc3, tc4, tc5, tc6, tc7]), SC (.bool true), SC (.bool false), SC (.bool false), SC (.bool false), SV ((Rat.divInt 1 1, 0)), SV ((Rat.divInt 1 1, 0)), SC (.bool true), SC (.bool false), SC (.bool false)] [false, false, false, false, false, false, false, false, false, false, false, false, false, false, false, false, false, false, false, false, false, false, false] (by kernel_rfl) (by kernel_rfl) (by kernel_rfl) (by kernel_rfl) (by kernel_rfl) (by rw [← HF.out]; simp) ⟨SC.mono _, SC.mono _, SC.mono _, SC.mono _, SC.mono _, SC.mono _, SC.mono _, SC.mono _, SC.mono _, SC.mono _, SC.mono _, SC.mono _, SC.mono _, SC.mono _, SC.mono _, SC.mono _, SC.mono _, SC.mono _, SV.mono _, SV.mono _, SC.mono _, SC.mono _, SC.mono _, trivial⟩ ?_ ?_
   ·intro kq hkq a wx hB hp hs
    have hcase : kq = 0 ∨ kq = 1 ∨ kq = 2 ∨ kq = 3 ∨ kq = 4 ∨ kq = 5 ∨ kq = 6 ∨ kq = 7 ∨ kq = 8 ∨ kq = 9 ∨ kq = 10 ∨ kq = 11 ∨ kq = 12 ∨ kq = 13 ∨ kq = 14 ∨ kq = 15 ∨ kq = 16 ∨ kq = 17 ∨ kq = 18 ∨ kq = 19 ∨ kq = 20 ∨ kq = 21 ∨ kq = 22 := by omega
    rcases hcase with rfl | rfl | rfl | rfl | rfl | rfl | rfl | rfl | rfl | rfl | rfl | rfl | rfl | rfl | rfl | rfl | rfl | rfl | rfl | rfl | rfl | rfl | rfl
    ·exact ⟨_, rfl, .inl ⟨wanted_none rfl, ld_Turn rfl ((hs 12 rfl).trans ev12) (kz.below hB) rfl rfl rfl rfl rfl rfl rfl rfl⟩⟩
    ·obtain ⟨k0, -⟩ := hp
     exact ⟨_, rfl, .inl ⟨wanted_none rfl, Does.rc (f := 20) (call1 rfl (fun _ => by simp [go_sem]) k0) (tvalid_any 7 ot0 ot1 ot2 ot3 ot4 ot5 ot6 ot7 (rn, u.2) wx (kA.out.kp (.of hB)) ⟨HBN.out, HBu.out.2⟩ (by omega) (ok1 (rn, u.2)) rfl)⟩⟩
    ·exact ⟨_, rfl, .inl ⟨wanted_none rfl, ld_Turn rfl ((hs 12 rfl).trans ev12) (kz.below hB) rfl rfl rfl rfl rfl rfl rfl rfl⟩⟩
    ·obtain ⟨k0, -⟩ := hp
     exact ⟨_, rfl, .inl ⟨wanted_none rfl, Does.rc (f := 21) (call1 rfl (fun _ => by simp [go_sem]) k0) (tvalid5_any 7 ot0 ot1 ot2 ot3 ot4 ot5 ot6 ot7 (rn, u.2) wx (ok1 (rn, u.2)) rfl (kA.out.kp (.of hB)) ⟨HBN.out, HBu.out.2⟩ (by omega))⟩⟩
    ·obtain ⟨k0, k1, -⟩ := hp
     have e0 : a.eval (.tmp 37) = .bool (ok1 (rn, u.2)) := k0
     have e1 : a.eval (.tmp 39) = .bool (ok1 (rn, u.2)) := k1
     simp [Act.eval] at e0
     simp [Act.eval] at e1
     exact ⟨_, rfl, .inl ⟨wanted_none rfl, Does.val (by simp [execOp, Act.eval, e0, e1, go_sem]) rfl⟩⟩
    ·obtain ⟨k0, -⟩ := hp
     have e0 : a.eval (.tmp 40) = .bool false := k0
     simp [Act.eval] at e0
     exact ⟨_, rfl, .inl ⟨wanted_none rfl, Does.val (by simp [execOp, Act.eval, e0, go_sem]) rfl⟩⟩
    ·obtain ⟨k0, -⟩ := hp
     have e0 : a.eval (.tmp 41) = .bool false := k0
     have hgd := e0
     exact ⟨_, rfl, .inl ⟨(wanted_of rfl rfl hgd).trans rfl, ld_Turn rfl ((hs 13 rfl).trans ev13) (kB.below hB) rfl rfl rfl rfl rfl rfl rfl rfl⟩⟩
    ·obtain ⟨k0, k1, -⟩ := hp
     have e0 : a.eval (.tmp 42) = .agg #[tc0, tc1, .bool false, .slice (some ⟨bq, oq, none⟩) 1 cq, tc4, tc5, tc6, tc7] := k0
     have e1 : a.eval (.tmp 41) = .bool false := k1
     have hgd := e1
     exact ⟨_, rfl, .inl ⟨(wanted_of rfl rfl hgd).trans rfl, Does.rc (f := 20) (call1 rfl (fun _ => by simp [go_sem]) e0) (HR1.out wx (Blw HS136.out hB))⟩⟩
    ·obtain ⟨k0, -⟩ := hp
     have e0 : a.eval (.tmp 41) = .bool false := k0
     have hgd := e0
     exact ⟨_, rfl, .inl ⟨(wanted_of rfl rfl hgd).trans rfl, ld_Turn rfl ((hs 13 rfl).trans ev13) (kB.below hB) rfl rfl rfl rfl rfl rfl rfl rfl⟩⟩
    ·obtain ⟨k0, k1, -⟩ := hp
     have e0 : a.eval (.tmp 44) = .agg #[tc0, tc1, .bool false, .slice (some ⟨bq, oq, none⟩) 1 cq, tc4, tc5, tc6, tc7] := k0
     have e1 : a.eval (.tmp 41) = .bool false := k1
     have hgd := e1
     exact ⟨_, rfl, .inl ⟨(wanted_of rfl rfl hgd).trans rfl, Does.rc (f := 21) (call1 rfl (fun _ => by simp [go_sem]) e0) (HR2.out wx (Blw HS136.out hB))⟩⟩
    ·obtain ⟨k0, k1, k2, -⟩ := hp
     have e0 : a.eval (.tmp 43) = .bool cr := k0
     have e1 : a.eval (.tmp 45) = .bool cr := k1
     have e2 : a.eval (.tmp 41) = .bool false := k2
     have hgd := e2
     simp [Act.eval] at e0
     simp [Act.eval] at e1
     exact ⟨_, rfl, .inl ⟨(wanted_of rfl rfl hgd).trans rfl, Does.val (by simp [execOp, Act.eval, e0, e1, go_sem]) rfl⟩⟩
    ·obtain ⟨k0, k1, -⟩ := hp
     have e0 : a.eval (.tmp 41) = .bool false := k0
     have e1 : a.eval (.tmp 46) = .bool false := k1
     simp [Act.eval] at e0
     simp [Act.eval] at e1
     exact ⟨_, rfl, .inl ⟨wanted_none rfl, Does.val (by simp [execOp, Act.eval, e0, e1, go_sem]) rfl⟩⟩
    ·obtain ⟨k0, -⟩ := hp
     have e0 : a.eval (.tmp 47) = .bool false := k0
     simp [Act.eval] at e0
     exact ⟨_, rfl, .inl ⟨wanted_none rfl, Does.val (by simp [execOp, Act.eval, e0, go_sem]) rfl⟩⟩
    ·obtain ⟨k0, -⟩ := hp
     have e0 : a.eval (.tmp 48) = .bool false := k0
     have hgd := e0
     exact ⟨_, rfl, .inl ⟨(wanted_of rfl rfl hgd).trans rfl, ld_Turn rfl ((hs 9 rfl).trans ev9) (kC.below hB) rfl rfl rfl rfl rfl rfl rfl rfl⟩⟩
    ·obtain ⟨k0, k1, -⟩ := hp
     have e0 : a.eval (.tmp 49) = .agg #[tc0, tc1, tc2, tc3, tc4, tc5, tc6, tc7] := k0
     have e1 : a.eval (.tmp 48) = .bool false := k1
     have hgd := e1
     exact ⟨_, rfl, .inl ⟨(wanted_of rfl rfl hgd).trans rfl, Does.rc (f := 20) (call1 rfl (fun _ => by simp [go_sem]) e0) (tvalid_any 7 tc0 tc1 tc2 tc3 tc4 tc5 tc6 tc7 t wx (kD.out.kp (.of hB)) HBt.out (by omega) true (truu HUt.out))⟩⟩
    ·obtain ⟨k0, k1, -⟩ := hp
     have e0 : a.eval (.tmp 50) = .bool true := k0
     have e1 : a.eval (.tmp 48) = .bool false := k1
     have hgd := e1
     simp [Act.eval] at e0
     exact ⟨_, rfl, .inl ⟨(wanted_of rfl rfl hgd).trans rfl, Does.val (by simp [execOp, Act.eval, e0, go_sem]) rfl⟩⟩
    ·obtain ⟨k0, k1, -⟩ := hp
     have e0 : a.eval (.tmp 48) = .bool false := k0
     have e1 : a.eval (.tmp 51) = .bool false := k1
     simp [Act.eval] at e0
     simp [Act.eval] at e1
     exact ⟨_, rfl, .inl ⟨wanted_none rfl, Does.val (by simp [execOp, Act.eval, e0, e1, go_sem]) rfl⟩⟩
    ·obtain ⟨k0, -⟩ := hp
     have e0 : a.eval (.tmp 52) = .bool false := k0
     simp [Act.eval] at e0
     exact ⟨_, rfl, .inl ⟨wanted_none rfl, Does.val (by simp [execOp, Act.eval, e0, go_sem]) rfl⟩⟩
    ·obtain ⟨k0, -⟩ := hp
     have e0 : a.eval (.tmp 53) = .bool false := k0
     have hgd := e0
     exact ⟨_, rfl, .inl ⟨(wanted_of rfl rfl hgd).trans rfl, Does.rv (f := 22) (call0 rfl (fun _ => by simp [go_sem])) (still_any wx)⟩⟩
    ·obtain ⟨k0, -⟩ := hp
     have e0 : a.eval (.tmp 53) = .bool false := k0
     have hgd := e0
     exact ⟨_, rfl, .inl ⟨(wanted_of rfl rfl hgd).trans rfl, Does.rv (f := 23) (call0 rfl (fun _ => by simp [go_sem])) (still5_any wx)⟩⟩
    ·obtain ⟨k0, k1, k2, -⟩ := hp
     obtain ⟨o_0, o_1, o_2, o_3, o_4, o_5, o_6, o_7, e0, h_o_⟩ := k0
     replace e0 : a.eval (.tmp 54) = .agg #[o_0, o_1, o_2, o_3, o_4, o_5, o_6, o_7] := e0
     obtain ⟨s_0, s_1, s_2, s_3, s_4, s_5, s_6, s_7, e1, h_s_⟩ := k1
     replace e1 : a.eval (.tmp 55) = .agg #[s_0, s_1, s_2, s_3, s_4, s_5, s_6, s_7] := e1
     have e2 : a.eval (.tmp 53) = .bool false := k2
     have hgd := e2
     exact ⟨_, rfl, .inl ⟨(wanted_of rfl rfl hgd).trans rfl, Does.rc (f := 12) (call2 rfl (fun _ => by simp [go_sem]) e0 e1) (tsame5_any o_0 o_1 o_2 o_3 o_4 o_5 o_6 o_7 s_0 s_1 s_2 s_3 s_4 s_5 s_6 s_7 _ _ wx h_o_ h_s_ true (tru rfl))⟩⟩
    ·obtain ⟨k0, k1, -⟩ := hp
     have e0 : a.eval (.tmp 56) = .bool true := k0
     have e1 : a.eval (.tmp 53) = .bool false := k1
     have hgd := e1
     simp [Act.eval] at e0
     exact ⟨_, rfl, .inl ⟨(wanted_of rfl rfl hgd).trans rfl, Does.val (by simp [execOp, Act.eval, e0, go_sem]) rfl⟩⟩
    ·obtain ⟨k0, k1, -⟩ := hp
     have e0 : a.eval (.tmp 53) = .bool false := k0
     have e1 : a.eval (.tmp 57) = .bool false := k1
     simp [Act.eval] at e0
     simp [Act.eval] at e1
     exact ⟨_, rfl, .inl ⟨wanted_none rfl, Does.val (by simp [execOp, Act.eval, e0, e1, go_sem]) rfl⟩⟩
   ·intro val wx hB hsp hdis
    have e22 : val 22 = .bool false := hsp 22 (by omega)
    rw [← HF.out]
    change wpList _ _ _ [] _ _
    simp only [puts, vals, List.map_cons, List.map_nil, List.foldl_cons, List.foldl_nil, if_true, Nat.zero_add, Nat.reduceAdd, e22, List.setIfInBounds_toArray, List.set_cons_succ, List.set_cons_zero]
    clear hsp hdis HF e22
    clear ev9 ev12 ev13
    obtain ⟨w147, rfl⟩ : ∃ W : World, W = wx := ⟨_, rfl⟩
    have HS148 := Lib.hid hB
    have k09 := Lib.hid (Blw k08.out hB)
    clear hB
    go_upto_region 8 with fail
    go_upto_region 8 with fail
    generalize hW : w147.drew = W150
    have hB : Below w147.heap.size w147 W150 := by rw [← hW]; exact (Below.refl _ _).drew
    have HS151 := Lib.hid hB
    have k0a := Lib.hid (Blw k09.out hB)
    clear hB
    have k3 := ((kC.below HS148.out).below HS151.out)
    have kE := ((((kw.below HS131.out).below HS136.out).below HS148.out).below HS151.out)
    have k4 := Lib.hid ((kD.out.kp (.of HS148.out)).kp (.of HS151.out))
    have kF := Lib.hid ((((((((kZ.out.kp (.of HS58.out)).kp (.of HS95.out)).kp (.of HS110.out)).kp (.of HS114.out)).kp (.of HS131.out)).kp (.of HS136.out)).kp (.of HS148.out)).kp (.of HS151.out))
    have kf := ((((kv.below HS131.out).below HS136.out).below HS148.out).below HS151.out)
    have kg := Lib.hid ((((((kt.out.kp (.of HS110.out)).kp (.of HS114.out)).kp (.of HS131.out)).kp (.of HS136.out)).kp (.of HS148.out)).kp (.of HS151.out))
    generalize hF : ({ tmps := _, defers := _ } : Act) = F
    have ev9 : F.eval (.tmp 9) = .pointer (some ⟨w1.heap.size, 0, none⟩) := by rw [← hF]; rfl
    have ev10 : F.eval (.tmp 10) = .pointer (some ⟨w20.heap.size, 0, none⟩) := by rw [← hF]; rfl
    have ev11 : F.eval (.tmp 11) = .pointer (some ⟨w51.heap.size, 0, none⟩) := by rw [← hF]; rfl
    have HF := Lib.hid hF; clear hF
    refine wp_flow_tabG true hW 26 [(59, []), (60, []), (61, [0, 1]), (62, []), (63, []), (64, [3, 4]), (65, [2, 5]), (66, [6]), (67, [7]), (68, [8]), (69, [8]), (70, [9, 10, 8]), (71, [8]), (72, [8]), (73, [12, 13, 8]), (74, [11, 14, 8]), (75, [15, 8]), (76, [8, 16]), (77, [17]), (78, [18]), (79, [19, 18]), (80, [18]), (81, [21, 18]), (82, [20, 22, 18]), (83, [23, 18]), (84, [18, 24])] [SC (.agg #[tc0, tc1, tc2, tc3, tc4, tc5, tc6, tc7]), SC (.agg #[aac0, aac1, aac2, aac3, aac4, aac5, aac6, aac7]), SV (vrot t aa), SC (.agg #[tc0, tc1, tc2, tc3, tc4, tc5, tc6, tc7]), SC (.agg #[aac0, aac1, aac2, aac3, aac4, aac5, aac6, aac7]), SV (vrot t aa), SC (.bool true), SC (.bool false), SC (.bool false), SC (.agg #[tc0, tc1, tc2, tc3, tc4, tc5, tc6, tc7]), SC (.agg #[uc0, uc1, uc2, uc3, uc4, uc5, uc6, uc7]), SV (vrot t u), SC (.agg #[tc0, tc1, tc2, tc3, tc4, tc5, tc6, tc7]), SC (.agg #[uc0, uc1, uc2, uc3, uc4, uc5, uc6, uc7]), SV (vrot t u), SC (.bool true), SC (.bool false), SC (.bool false), SC (.bool false), SC (.agg #[tc0, tc1, tc2, tc3, tc4, tc5, tc6, tc7]), SV (vbak t), SC (.agg #[tc0, tc1, tc2, tc3, tc4, tc5, tc6, tc7]), SV (vbak t), SC (.bool true), SC (.bool false), SC (.bool false)] [false, false, false, false, false, false, false, false, false, false, false, false, false, false, false, false, false, false, false, false, false, false, false, false, false, false] (by kernel_rfl) (by kernel_rfl) (by kernel_rfl) (by kernel_rfl) (by kernel_rfl) (by rw [← HF.out]; simp) ⟨SC.mono _, SC.mono _, SV.mono _, SC.mono _, SC.mono _, SV.mono _, SC.mono _, SC.mono _, SC.mono _, SC.mono _, SC.mono _, SV.mono _, SC.mono _, SC.mono _, SV.mono _, SC.mono _, SC.mono _, SC.mono _, SC.mono _, SC.mono _, SV.mono _, SC.mono _, SV.mono _, SC.mono _, SC.mono _, SC.mono _, trivial⟩ ?_ ?_
    ·intro kq hkq a wx hB hp hs
     have hcase : kq = 0 ∨ kq = 1 ∨ kq = 2 ∨ kq = 3 ∨ kq = 4 ∨ kq = 5 ∨ kq = 6 ∨ kq = 7 ∨ kq = 8 ∨ kq = 9 ∨ kq = 10 ∨ kq = 11 ∨ kq = 12 ∨ kq = 13 ∨ kq = 14 ∨ kq = 15 ∨ kq = 16 ∨ kq = 17 ∨ kq = 18 ∨ kq = 19 ∨ kq = 20 ∨ kq = 21 ∨ kq = 22 ∨ kq = 23 ∨ kq = 24 ∨ kq = 25 := by omega
     rcases hcase with rfl | rfl | rfl | rfl | rfl | rfl | rfl | rfl | rfl | rfl | rfl | rfl | rfl | rfl | rfl | rfl | rfl | rfl | rfl | rfl | rfl | rfl | rfl | rfl | rfl | rfl
     ·exact ⟨_, rfl, .inl ⟨wanted_none rfl, ld_Turn rfl ((hs 9 rfl).trans ev9) (k3.below hB) rfl rfl rfl rfl rfl rfl rfl rfl⟩⟩
     ·exact ⟨_, rfl, .inl ⟨wanted_none rfl, ld_Vec rfl ((hs 11 rfl).trans ev11) (kE.below hB) rfl rfl rfl rfl rfl rfl rfl rfl⟩⟩
     ·obtain ⟨k0, k1, -⟩ := hp
      exact ⟨_, rfl, .inl ⟨wanted_none rfl, Does.rv (f := 9) (call2 rfl (fun _ => by simp [go_sem]) k0 k1) (vrot_any (7) (7) tc0 tc1 tc2 tc3 tc4 tc5 tc6 tc7 aac0 aac1 aac2 aac3 aac4 aac5 aac6 aac7 (t) (aa) wx (k4.out.kp (.of hB)) (kF.out.kp (.of hB)) HBt.out HBaa.out (by omega))⟩⟩
     ·exact ⟨_, rfl, .inl ⟨wanted_none rfl, ld_Turn rfl ((hs 9 rfl).trans ev9) (k3.below hB) rfl rfl rfl rfl rfl rfl rfl rfl⟩⟩
     ·exact ⟨_, rfl, .inl ⟨wanted_none rfl, ld_Vec rfl ((hs 11 rfl).trans ev11) (kE.below hB) rfl rfl rfl rfl rfl rfl rfl rfl⟩⟩
     ·obtain ⟨k0, k1, -⟩ := hp
      exact ⟨_, rfl, .inl ⟨wanted_none rfl, Does.rv (f := 24) (call2 rfl (fun _ => by simp [go_sem]) k0 k1) (vrot5_any (7) (7) tc0 tc1 tc2 tc3 tc4 tc5 tc6 tc7 aac0 aac1 aac2 aac3 aac4 aac5 aac6 aac7 (t) (aa) wx (k4.out.kp (.of hB)) (kF.out.kp (.of hB)) HBt.out HBaa.out (by omega))⟩⟩
     ·obtain ⟨k0, k1, -⟩ := hp
      obtain ⟨x0, x1, x2, x3, x4, x5, x6, x7, e0, h_x⟩ := k0
      replace e0 : a.eval (.tmp 61) = .agg #[x0, x1, x2, x3, x4, x5, x6, x7] := e0
      obtain ⟨y0, y1, y2, y3, y4, y5, y6, y7, e1, h_y⟩ := k1
      replace e1 : a.eval (.tmp 64) = .agg #[y0, y1, y2, y3, y4, y5, y6, y7] := e1
      exact ⟨_, rfl, .inl ⟨wanted_none rfl, Does.rc (f := 15) (call2 rfl (fun _ => by simp [go_sem]) e0 e1) (vsame5_any x0 x1 x2 x3 x4 x5 x6 x7 y0 y1 y2 y3 y4 y5 y6 y7 _ _ wx h_x h_y true (tru rfl))⟩⟩
     ·obtain ⟨k0, -⟩ := hp
      have e0 : a.eval (.tmp 65) = .bool true := k0
      simp [Act.eval] at e0
      exact ⟨_, rfl, .inl ⟨wanted_none rfl, Does.val (by simp [execOp, Act.eval, e0, go_sem]) rfl⟩⟩
     ·obtain ⟨k0, -⟩ := hp
      have e0 : a.eval (.tmp 66) = .bool false := k0
      simp [Act.eval] at e0
      exact ⟨_, rfl, .inl ⟨wanted_none rfl, Does.val (by simp [execOp, Act.eval, e0, go_sem]) rfl⟩⟩
     ·obtain ⟨k0, -⟩ := hp
      have e0 : a.eval (.tmp 67) = .bool false := k0
      have hgd := e0
      exact ⟨_, rfl, .inl ⟨(wanted_of rfl rfl hgd).trans rfl, ld_Turn rfl ((hs 9 rfl).trans ev9) (k3.below hB) rfl rfl rfl rfl rfl rfl rfl rfl⟩⟩
     ·obtain ⟨k0, -⟩ := hp
      have e0 : a.eval (.tmp 67) = .bool false := k0
      have hgd := e0
      exact ⟨_, rfl, .inl ⟨(wanted_of rfl rfl hgd).trans rfl, ld_Turn rfl ((hs 10 rfl).trans ev10) (kf.below hB) rfl rfl rfl rfl rfl rfl rfl rfl⟩⟩
     ·obtain ⟨k0, k1, k2, -⟩ := hp
      have e0 : a.eval (.tmp 68) = .agg #[tc0, tc1, tc2, tc3, tc4, tc5, tc6, tc7] := k0
      have e1 : a.eval (.tmp 69) = .agg #[uc0, uc1, uc2, uc3, uc4, uc5, uc6, uc7] := k1
      have e2 : a.eval (.tmp 67) = .bool false := k2
      have hgd := e2
      exact ⟨_, rfl, .inl ⟨(wanted_of rfl rfl hgd).trans rfl, Does.rv (f := 25) (call2 rfl (fun _ => by simp [go_sem]) e0 e1) (vaft_any (7) (7) tc0 tc1 tc2 tc3 tc4 tc5 tc6 tc7 uc0 uc1 uc2 uc3 uc4 uc5 uc6 uc7 (t) (u) wx (k4.out.kp (.of hB)) (kg.out.kp (.of hB)) HBt.out HBu.out (by omega))⟩⟩
     ·obtain ⟨k0, -⟩ := hp
      have e0 : a.eval (.tmp 67) = .bool false := k0
      have hgd := e0
      exact ⟨_, rfl, .inl ⟨(wanted_of rfl rfl hgd).trans rfl, ld_Turn rfl ((hs 9 rfl).trans ev9) (k3.below hB) rfl rfl rfl rfl rfl rfl rfl rfl⟩⟩
     ·obtain ⟨k0, -⟩ := hp
      have e0 : a.eval (.tmp 67) = .bool false := k0
      have hgd := e0
      exact ⟨_, rfl, .inl ⟨(wanted_of rfl rfl hgd).trans rfl, ld_Turn rfl ((hs 10 rfl).trans ev10) (kf.below hB) rfl rfl rfl rfl rfl rfl rfl rfl⟩⟩
     ·obtain ⟨k0, k1, k2, -⟩ := hp
      have e0 : a.eval (.tmp 71) = .agg #[tc0, tc1, tc2, tc3, tc4, tc5, tc6, tc7] := k0
      have e1 : a.eval (.tmp 72) = .agg #[uc0, uc1, uc2, uc3, uc4, uc5, uc6, uc7] := k1
      have e2 : a.eval (.tmp 67) = .bool false := k2
      have hgd := e2
      exact ⟨_, rfl, .inl ⟨(wanted_of rfl rfl hgd).trans rfl, Does.rv (f := 26) (call2 rfl (fun _ => by simp [go_sem]) e0 e1) (vaft5_any (7) (7) tc0 tc1 tc2 tc3 tc4 tc5 tc6 tc7 uc0 uc1 uc2 uc3 uc4 uc5 uc6 uc7 (t) (u) wx (k4.out.kp (.of hB)) (kg.out.kp (.of hB)) HBt.out HBu.out (by omega))⟩⟩
     ·obtain ⟨k0, k1, k2, -⟩ := hp
      obtain ⟨p0, p1, p2, p3, p4, p5, p6, p7, e0, h_p⟩ := k0
      replace e0 : a.eval (.tmp 70) = .agg #[p0, p1, p2, p3, p4, p5, p6, p7] := e0
      obtain ⟨q_0, q_1, q_2, q_3, q_4, q_5, q_6, q_7, e1, h_q_⟩ := k1
      replace e1 : a.eval (.tmp 73) = .agg #[q_0, q_1, q_2, q_3, q_4, q_5, q_6, q_7] := e1
      have e2 : a.eval (.tmp 67) = .bool false := k2
      have hgd := e2
      exact ⟨_, rfl, .inl ⟨(wanted_of rfl rfl hgd).trans rfl, Does.rc (f := 12) (call2 rfl (fun _ => by simp [go_sem]) e0 e1) (tsame5_any p0 p1 p2 p3 p4 p5 p6 p7 q_0 q_1 q_2 q_3 q_4 q_5 q_6 q_7 _ _ wx h_p h_q_ true (tru rfl))⟩⟩
     ·obtain ⟨k0, k1, -⟩ := hp
      have e0 : a.eval (.tmp 74) = .bool true := k0
      have e1 : a.eval (.tmp 67) = .bool false := k1
      have hgd := e1
      simp [Act.eval] at e0
      exact ⟨_, rfl, .inl ⟨(wanted_of rfl rfl hgd).trans rfl, Does.val (by simp [execOp, Act.eval, e0, go_sem]) rfl⟩⟩
     ·obtain ⟨k0, k1, -⟩ := hp
      have e0 : a.eval (.tmp 67) = .bool false := k0
      have e1 : a.eval (.tmp 75) = .bool false := k1
      simp [Act.eval] at e0
      simp [Act.eval] at e1
      exact ⟨_, rfl, .inl ⟨wanted_none rfl, Does.val (by simp [execOp, Act.eval, e0, e1, go_sem]) rfl⟩⟩
     ·obtain ⟨k0, -⟩ := hp
      have e0 : a.eval (.tmp 76) = .bool false := k0
      simp [Act.eval] at e0
      exact ⟨_, rfl, .inl ⟨wanted_none rfl, Does.val (by simp [execOp, Act.eval, e0, go_sem]) rfl⟩⟩
     ·obtain ⟨k0, -⟩ := hp
      have e0 : a.eval (.tmp 77) = .bool false := k0
      have hgd := e0
      exact ⟨_, rfl, .inl ⟨(wanted_of rfl rfl hgd).trans rfl, ld_Turn rfl ((hs 9 rfl).trans ev9) (k3.below hB) rfl rfl rfl rfl rfl rfl rfl rfl⟩⟩
     ·obtain ⟨k0, k1, -⟩ := hp
      have e0 : a.eval (.tmp 78) = .agg #[tc0, tc1, tc2, tc3, tc4, tc5, tc6, tc7] := k0
      have e1 : a.eval (.tmp 77) = .bool false := k1
      have hgd := e1
      exact ⟨_, rfl, .inl ⟨(wanted_of rfl rfl hgd).trans rfl, Does.rv (f := 17) (call1 rfl (fun _ => by simp [go_sem]) e0) (vbak_any tc0 tc1 tc2 tc3 tc4 tc5 tc6 tc7 (t) wx (k4.out.kp (.of hB)))⟩⟩
     ·obtain ⟨k0, -⟩ := hp
      have e0 : a.eval (.tmp 77) = .bool false := k0
      have hgd := e0
      exact ⟨_, rfl, .inl ⟨(wanted_of rfl rfl hgd).trans rfl, ld_Turn rfl ((hs 9 rfl).trans ev9) (k3.below hB) rfl rfl rfl rfl rfl rfl rfl rfl⟩⟩
     ·obtain ⟨k0, k1, -⟩ := hp
      have e0 : a.eval (.tmp 80) = .agg #[tc0, tc1, tc2, tc3, tc4, tc5, tc6, tc7] := k0
      have e1 : a.eval (.tmp 77) = .bool false := k1
      have hgd := e1
      exact ⟨_, rfl, .inl ⟨(wanted_of rfl rfl hgd).trans rfl, Does.rv (f := 27) (call1 rfl (fun _ => by simp [go_sem]) e0) (vbak5_any tc0 tc1 tc2 tc3 tc4 tc5 tc6 tc7 (t) wx (k4.out.kp (.of hB)))⟩⟩
     ·obtain ⟨k0, k1, k2, -⟩ := hp
      obtain ⟨b_0, b_1, b_2, b_3, b_4, b_5, b_6, b_7, e0, h_b_⟩ := k0
      replace e0 : a.eval (.tmp 79) = .agg #[b_0, b_1, b_2, b_3, b_4, b_5, b_6, b_7] := e0
      obtain ⟨c_0, c_1, c_2, c_3, c_4, c_5, c_6, c_7, e1, h_c_⟩ := k1
      replace e1 : a.eval (.tmp 81) = .agg #[c_0, c_1, c_2, c_3, c_4, c_5, c_6, c_7] := e1
      have e2 : a.eval (.tmp 77) = .bool false := k2
      have hgd := e2
      exact ⟨_, rfl, .inl ⟨(wanted_of rfl rfl hgd).trans rfl, Does.rc (f := 12) (call2 rfl (fun _ => by simp [go_sem]) e0 e1) (tsame5_any b_0 b_1 b_2 b_3 b_4 b_5 b_6 b_7 c_0 c_1 c_2 c_3 c_4 c_5 c_6 c_7 _ _ wx h_b_ h_c_ true (tru rfl))⟩⟩
     ·obtain ⟨k0, k1, -⟩ := hp
      have e0 : a.eval (.tmp 82) = .bool true := k0
      have e1 : a.eval (.tmp 77) = .bool false := k1
      have hgd := e1
      simp [Act.eval] at e0
      exact ⟨_, rfl, .inl ⟨(wanted_of rfl rfl hgd).trans rfl, Does.val (by simp [execOp, Act.eval, e0, go_sem]) rfl⟩⟩
     ·obtain ⟨k0, k1, -⟩ := hp
      have e0 : a.eval (.tmp 77) = .bool false := k0
      have e1 : a.eval (.tmp 83) = .bool false := k1
      simp [Act.eval] at e0
      simp [Act.eval] at e1
      exact ⟨_, rfl, .inl ⟨wanted_none rfl, Does.val (by simp [execOp, Act.eval, e0, e1, go_sem]) rfl⟩⟩
    ·intro val wx hB hsp hdis
     have e25 : val 25 = .bool false := hsp 25 (by omega)
     rw [← HF.out]
     change wpList _ _ _ [] _ _
     simp only [puts, vals, List.map_cons, List.map_nil, List.foldl_cons, List.foldl_nil, if_true, Nat.zero_add, Nat.reduceAdd, e25, List.setIfInBounds_toArray, List.set_cons_succ, List.set_cons_zero]
     clear hsp hdis HF e25
     clear ev9 ev10 ev11
     obtain ⟨w163, rfl⟩ : ∃ W : World, W = wx := ⟨_, rfl⟩
     have HS164 := Lib.hid hB
     have k0b := Lib.hid (Blw k0a.out hB)
     clear hB
     go_upto_region 10 with fail
     go_upto_region 10 with fail
     generalize hW : w163.drew = W166
     have hB : Below w163.heap.size w163 W166 := by rw [← hW]; exact (Below.refl _ _).drew
     have HS167 := Lib.hid hB
     have k0c := Lib.hid (Blw k0b.out hB)
     clear hB
     have k6 := ((k3.below HS164.out).below HS167.out)
     have kO := ((kf.below HS164.out).below HS167.out)
     have k7 := Lib.hid ((k4.out.kp (.of HS164.out)).kp (.of HS167.out))
     have kP := Lib.hid ((kg.out.kp (.of HS164.out)).kp (.of HS167.out))
     generalize hF : ({ tmps := _, defers := _ } : Act) = F
     have ev9 : F.eval (.tmp 9) = .pointer (some ⟨w1.heap.size, 0, none⟩) := by rw [← hF]; rfl
     have ev10 : F.eval (.tmp 10) = .pointer (some ⟨w20.heap.size, 0, none⟩) := by rw [← hF]; rfl
     have HF := Lib.hid hF; clear hF
     refine wp_flow_tabG true hW 16 [(85, []), (86, []), (87, [0, 1]), (88, []), (89, []), (90, [3, 4]), (91, [2, 5]), (92, [6]), (93, [7]), (94, [7]), (95, [8, 9, 7]), (96, [7, 10]), (97, [11]), (98, [12]), (99, [12, 13]), (8, [14])] [SC (.agg #[tc0, tc1, tc2, tc3, tc4, tc5, tc6, tc7]), SC (.agg #[uc0, uc1, uc2, uc3, uc4, uc5, uc6, uc7]), SC (.bool (decide (t = u))), SC (.agg #[tc0, tc1, tc2, tc3, tc4, tc5, tc6, tc7]), SC (.agg #[uc0, uc1, uc2, uc3, uc4, uc5, uc6, uc7]), SC (.bool (decide (t = u))), SC (.bool true), SC (.bool true), SC (.agg #[tc0, tc1, tc2, tc3, tc4, tc5, tc6, tc7]), SC (.agg #[tc0, tc1, tc2, tc3, tc4, tc5, tc6, tc7]), SC (.bool true), SC (.bool true), SC (.bool true), SC (.bool true), SC (.bool true), SC (.bool true)] [false, false, false, false, false, false, false, false, false, false, false, false, false, false, false, false] (by kernel_rfl) (by kernel_rfl) (by kernel_rfl) (by kernel_rfl) (by kernel_rfl) (by rw [← HF.out]; simp) ⟨SC.mono _, SC.mono _, SC.mono _, SC.mono _, SC.mono _, SC.mono _, SC.mono _, SC.mono _, SC.mono _, SC.mono _, SC.mono _, SC.mono _, SC.mono _, SC.mono _, SC.mono _, SC.mono _, trivial⟩ ?_ ?_
     ·intro kq hkq a wx hB hp hs
      have hcase : kq = 0 ∨ kq = 1 ∨ kq = 2 ∨ kq = 3 ∨ kq = 4 ∨ kq = 5 ∨ kq = 6 ∨ kq = 7 ∨ kq = 8 ∨ kq = 9 ∨ kq = 10 ∨ kq = 11 ∨ kq = 12 ∨ kq = 13 ∨ kq = 14 ∨ kq = 15 := by omega
      rcases hcase with rfl | rfl | rfl | rfl | rfl | rfl | rfl | rfl | rfl | rfl | rfl | rfl | rfl | rfl | rfl | rfl
      ·exact ⟨_, rfl, .inl ⟨wanted_none rfl, ld_Turn rfl ((hs 9 rfl).trans ev9) (k6.below hB) rfl rfl rfl rfl rfl rfl rfl rfl⟩⟩
      ·exact ⟨_, rfl, .inl ⟨wanted_none rfl, ld_Turn rfl ((hs 10 rfl).trans ev10) (kO.below hB) rfl rfl rfl rfl rfl rfl rfl rfl⟩⟩
      ·obtain ⟨k0, k1, -⟩ := hp
       exact ⟨_, rfl, .inl ⟨wanted_none rfl, Does.rc (f := 16) (call2 rfl (fun _ => by simp [go_sem]) k0 k1) (tsame_any tc0 tc1 tc2 tc3 tc4 tc5 tc6 tc7 uc0 uc1 uc2 uc3 uc4 uc5 uc6 uc7 t u wx (k7.out.kp (.of hB)) (kP.out.kp (.of hB)) (decide (t = u)) rfl)⟩⟩
      ·exact ⟨_, rfl, .inl ⟨wanted_none rfl, ld_Turn rfl ((hs 9 rfl).trans ev9) (k6.below hB) rfl rfl rfl rfl rfl rfl rfl rfl⟩⟩
      ·exact ⟨_, rfl, .inl ⟨wanted_none rfl, ld_Turn rfl ((hs 10 rfl).trans ev10) (kO.below hB) rfl rfl rfl rfl rfl rfl rfl rfl⟩⟩
      ·obtain ⟨k0, k1, -⟩ := hp
       exact ⟨_, rfl, .inl ⟨wanted_none rfl, Does.rc (f := 12) (call2 rfl (fun _ => by simp [go_sem]) k0 k1) (tsame5_any tc0 tc1 tc2 tc3 tc4 tc5 tc6 tc7 uc0 uc1 uc2 uc3 uc4 uc5 uc6 uc7 t u wx (k7.out.kp (.of hB)) (kP.out.kp (.of hB)) (decide (t = u)) rfl)⟩⟩
      ·obtain ⟨k0, k1, -⟩ := hp
       have e0 : a.eval (.tmp 87) = .bool (decide (t = u)) := k0
       have e1 : a.eval (.tmp 90) = .bool (decide (t = u)) := k1
       simp [Act.eval] at e0
       simp [Act.eval] at e1
       exact ⟨_, rfl, .inl ⟨wanted_none rfl, Does.val (by simp [execOp, Act.eval, e0, e1, go_sem]) rfl⟩⟩
      ·obtain ⟨k0, -⟩ := hp
       have e0 : a.eval (.tmp 91) = .bool true := k0
       simp [Act.eval] at e0
       exact ⟨_, rfl, .inl ⟨wanted_none rfl, Does.val (by simp [execOp, Act.eval, e0, go_sem]) rfl⟩⟩
      ·obtain ⟨k0, -⟩ := hp
       have e0 : a.eval (.tmp 92) = .bool true := k0
       have hgd := e0
       exact ⟨_, rfl, .inl ⟨(wanted_of rfl rfl hgd).trans rfl, ld_Turn rfl ((hs 9 rfl).trans ev9) (k6.below hB) rfl rfl rfl rfl rfl rfl rfl rfl⟩⟩
      ·obtain ⟨k0, -⟩ := hp
       have e0 : a.eval (.tmp 92) = .bool true := k0
       have hgd := e0
       exact ⟨_, rfl, .inl ⟨(wanted_of rfl rfl hgd).trans rfl, ld_Turn rfl ((hs 9 rfl).trans ev9) (k6.below hB) rfl rfl rfl rfl rfl rfl rfl rfl⟩⟩
      ·obtain ⟨k0, k1, k2, -⟩ := hp
       have e0 : a.eval (.tmp 93) = .agg #[tc0, tc1, tc2, tc3, tc4, tc5, tc6, tc7] := k0
       have e1 : a.eval (.tmp 94) = .agg #[tc0, tc1, tc2, tc3, tc4, tc5, tc6, tc7] := k1
       have e2 : a.eval (.tmp 92) = .bool true := k2
       have hgd := e2
       exact ⟨_, rfl, .inl ⟨(wanted_of rfl rfl hgd).trans rfl, Does.rc (f := 16) (call2 rfl (fun _ => by simp [go_sem]) e0 e1) (tsame_any tc0 tc1 tc2 tc3 tc4 tc5 tc6 tc7 tc0 tc1 tc2 tc3 tc4 tc5 tc6 tc7 t t wx (k7.out.kp (.of hB)) (k7.out.kp (.of hB)) true (tru rfl))⟩⟩
      ·obtain ⟨k0, k1, -⟩ := hp
       have e0 : a.eval (.tmp 92) = .bool true := k0
       have e1 : a.eval (.tmp 95) = .bool true := k1
       simp [Act.eval] at e0
       simp [Act.eval] at e1
       exact ⟨_, rfl, .inl ⟨wanted_none rfl, Does.val (by simp [execOp, Act.eval, e0, e1, go_sem]) rfl⟩⟩
      ·obtain ⟨k0, -⟩ := hp
       have e0 : a.eval (.tmp 96) = .bool true := k0
       simp [Act.eval] at e0
       exact ⟨_, rfl, .inl ⟨wanted_none rfl, Does.val (by simp [execOp, Act.eval, e0, go_sem]) rfl⟩⟩
      ·obtain ⟨k0, -⟩ := hp
       have e0 : a.eval (.tmp 97) = .bool true := k0
       have hgd := e0
       exact ⟨_, rfl, .inl ⟨(wanted_of rfl rfl hgd).trans rfl, Does.rc (f := 14) (call0 rfl (fun _ => by simp [go_sem])) (lives_any wx)⟩⟩
      ·obtain ⟨k0, k1, -⟩ := hp
       have e0 : a.eval (.tmp 97) = .bool true := k0
       have e1 : a.eval (.tmp 98) = .bool true := k1
       simp [Act.eval] at e0
       simp [Act.eval] at e1
       exact ⟨_, rfl, .inl ⟨wanted_none rfl, Does.val (by simp [execOp, Act.eval, e0, e1, go_sem]) rfl⟩⟩
      ·obtain ⟨k0, -⟩ := hp
       have e0 : a.eval (.tmp 99) = .bool true := k0
       simp [Act.eval] at e0
       exact ⟨_, rfl, .inl ⟨wanted_none rfl, Does.val (by simp [execOp, Act.eval, e0, go_sem]) rfl⟩⟩
     ·intro val wx hB hsp hdis
      have e15 : val 15 = .bool true := hsp 15 (by omega)
      rw [← HF.out]
      change wpList _ _ _ [] _ _
      simp only [puts, vals, List.map_cons, List.map_nil, List.foldl_cons, List.foldl_nil, if_true, Nat.zero_add, Nat.reduceAdd, e15, List.setIfInBounds_toArray, List.set_cons_succ, List.set_cons_zero]
      clear hsp hdis HF e15
      clear ev9 ev10
      obtain ⟨w176, rfl⟩ : ∃ W : World, W = wx := ⟨_, rfl⟩
      have HS177 := Lib.hid hB
      have k0d := Lib.hid (Blw k0c.out hB)
      clear hB
      go_wp2
      go_ret
      exact ⟨rfl, k0d.out⟩
end Go.Proofs.Ytonkbckgbfcnkaa
namespace Go.Proofs.Ytonkbckgbfcnkaa
open Go.RowKit
theorem law_turns (A : Option Addr) (len cap : Nat) (l : List Int) (n m k : Int) (w : World) (hs : IsI w A len cap l) (hn : W.Is64 n) (hm : W.Is64 m) (hk : W.Is64 k) :
  Calls Try.prog 4 #[.slice A len cap, .int .i64 n, .int .i64 m, .int .i64 k] w fun e w' => e = .returned (.bool true) ∧ Below w.heap.size w w' :=
 turns_walk _ l n m k w ⟨A, len, cap, rfl, hs.2.1, hs.2.2.1, hs.2.2.2.1, hs.1⟩ hs.2.2.2.2 hn hm hk
end Go.Proofs.Ytonkbckgbfcnkaa
namespace Go.Proofs.Ytonkbckgbfcnkaa.planeTurns
open Go.ChangeShapes Go.WideShapes Go.ChangeAt Go.RowKit
open Go.ChangeMaps (open_string shut_string)
set_option linter.unusedVariables false
theorem own : ownKnob Try.prog.godebug = none := by kernel_rfl
theorem laidOut : laidOutB Try.prog = true := by kernel_rfl
set_option maxRecDepth 100000 in
theorem lifted (os : Os) (started : os.Started) (H : Type) (enc : TypeId × Value → H) :
  ReturnsInHanded {} Try.checked os 4 .any (Rows.planeTurnsSpec.pre6 enc Try.prog Try.f4 Rows.planeTurnsRow.domain false) (Rows.planeTurnsSpec.post enc Try.prog Try.f4 false true false false) := by
 refine returnsInHanded_of_change (C := Try.checked) own started (by kernel_rfl) Try.func4
  (ChangeSpec.witness6 (enc := enc) (C := Try.checked) false ⟨#[], #[.slice none 0 0, .int .i64 0, .int .i64 0, .int .i64 0], []⟩ 8 (by kernel_rfl) (by kernel_rfl) (by kernel_rfl) (by kernel_rfl)) ?_
 intro W base args ds gs before hval0 hW hcnd _
 have hval : ∀ (j : Nat) t v, Try.f4.params[j]? = some t → args[j]? = some v → Value.okWide Try.prog W .any base t v := hval0
 have hW' := hW
 obtain ⟨p, q, hA0, hV, rfl, hfz, hnd⟩ := hW
 have hA : DataW.TrodAll enc Try.prog W 0 (fun _ => true) true Try.f4.params.toList args.toList ds p := hA0
 rw [Try.params4] at hA hval
 obtain ⟨v0, vs0, d0, ds0, p0, q0, hargs, rfl, rfl, h0, r0⟩ := trodAll_cons hA
 obtain ⟨v1, vs1, d1, ds1, p1, q1, rfl, rfl, rfl, h1, r1⟩ := trodAll_cons r0
 obtain ⟨v2, vs2, d2, ds2, p2, q2, rfl, rfl, rfl, h2, r2⟩ := trodAll_cons r1
 obtain ⟨v3, vs3, d3, ds3, p3, q3, rfl, rfl, rfl, h3, r3⟩ := trodAll_cons r2
 obtain ⟨rfl, rfl, rfl⟩ := trodAll_nil r3
 obtain rfl : args = #[v0, v1, v2, v3] := by cases args; simp_all
 obtain ⟨rfl, rfl⟩ := trodVars_none hV
 obtain ⟨a0, len0, cap0, rfl⟩ := okWide_slice Try.underlying22 (hval 0 22 v0 rfl rfl)
 have k0 := h0
 have lt0 : ∀ x ∈ p0, x.block < W.heap.size := by obtain ⟨m, hm⟩ := k0; exact DataW.trod_lt m _ _ _ hm
 obtain ⟨z0, w0⟩ : ∃ zs, IsI W a0 len0 cap0 zs := by
  obtain ⟨fuel, hf⟩ := h0
  rcases open_ints Try.underlying22 Try.underlying3 (by kernel_rfl) hf with ⟨hcs, _⟩ | ⟨x, l, c, zs, hcs, _, hl, hm, hz, _, hcell, hwz⟩
  ·simp [Value.cells] at hcs
   obtain ⟨rfl, rfl, rfl⟩ := hcs
   exact ⟨[], isI_nil _⟩
  ·simp [Value.cells] at hcs
   obtain ⟨rfl, rfl, rfl⟩ := hcs
   exact isI_of hl hm (by simpa using hz) hcell hwz
 obtain ⟨a1, rfl, rfl, rfl, w1⟩ := open_int Try.underlying3 (hval 1 3 v1 rfl rfl) h1
 obtain ⟨a2, rfl, rfl, rfl, w2⟩ := open_int Try.underlying3 (hval 2 3 v2 rfl rfl) h2
 obtain ⟨a3, rfl, rfl, rfl, w3⟩ := open_int Try.underlying3 (hval 3 3 v3 rfl rfl) h3
 clear hA0 hval0
 refine (law_turns a0 len0 cap0 z0 a1 a2 a3 W w0 (is64_of w1) (is64_of w2) (is64_of w3)).mono fun e W' ⟨he, bel⟩ => ?_
 subst he
 exact ⟨_, rfl, _, _, _, [], _, [], hW', trodAll_mk1 (shut_bool Try.underlying4 _), (trodAll_cons_mk (Below.trod laidOut (by kernel_rfl) (of_decide_eq_true (by kernel_rfl)) k0 bel lt0) (trodAll_cons_mk (shut_int Try.underlying3 w1) (trodAll_cons_mk (shut_int Try.underlying3 w2) (trodAll_cons_mk (shut_int Try.underlying3 w3) trodAll_mk0)))), rfl, bel.frame _, fun h => by cases h⟩
theorem over : Rows.planeTurnsRow.holds Try.pinned (OpenSpec.ofChange Rows.planeTurnsSpec) :=
 OpenClaim.holds_of_wide 4 Try.f4 rfl rfl rfl rfl rfl rfl rfl ⟨rfl, rfl, rfl, rfl, rfl⟩ rfl rfl rfl rfl rfl (by kernel_rfl) Try.func4 (by kernel_rfl)
  (of_decide_eq_true (by kernel_rfl)) (by unfold Func.isWrapper; first | (rw [if_pos (by decide +kernel)]; kernel_rfl) | (rw [if_neg (by decide +kernel)]; exact ⟨rfl, rfl⟩))
  (fun os started H enc _ => lifted os started H enc)
theorem proved : Rows.PlaneTurnsSaid := over
#print axioms proved
end Go.Proofs.Ytonkbckgbfcnkaa.planeTurns
