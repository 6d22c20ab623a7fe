/-
 THE LAW PlaneSides: for every input it returns true, and each argument reads afterwards as it read before. Its walk: LawSidesI; here the row's step.
-/
import Derived.Test.YtonkbckgbfcnkaaGreatMemI
import Derived.OpenShut
import Derived.Test.YtonkbckgbfcnkaaGreatRef5D
import Derived.Test.YtonkbckgbfcnkaaGreatWalkLives
import Derived.Test.YtonkbckgbfcnkaaGreatRef5G
import Derived.Test.YtonkbckgbfcnkaaGreatRef5E
import Derived.Test.YtonkbckgbfcnkaaGreatNew
import Derived.Deep.DeepCutAuto
import Derived.WalkKit
import Derived.ProofKit
import Derived.ShutString
import Derived.ChangeOld
import Derived.Below
import Derived.SizedLaws
namespace Go.Proofs.YtonkbckgbfcnkaaGreat
open Go.RowKit
/-- What is told of a slice of ints that came in. -/
def IsI (w : World) (a : Option Addr) (len cap : Nat) (l : List Int) : Prop := Rd w w.heap.size a (il l) ∧ len = l.length ∧ len ≤ cap ∧ cap ≤ maxLen ∧ ∀ x ∈ l, W.Is64 x
theorem isI_of {w : World} {x : Addr} {len cap : Nat} {zs : List Int} (hl : len ≤ cap) (hm : cap ≤ maxLen) (hz : zs.length = cap) (hcell : ∀ i, i < zs.length → w.cell? (x.add i) = some (.int .i64 (zs.getD i 0))) (hwf : ∀ n ∈ zs, (Lit.int .i64 n).wf = true) :
  ∃ l, IsI w (some x) len cap l := by
 refine ⟨zs.take len, ?_, by simp; omega, hl, hm, ?_⟩
 ·intro hn
  simp at hn
  obtain ⟨b, o, rfl, hc⟩ := ints_at hcell (by omega)
  refine ⟨b, o, rfl, ?_, fun j u hu => ?_⟩
  ·exact World.block_lt_of_cell? w ⟨b, o + 0, none⟩ (hc 0 (by omega))
  ·have hj : j < (il (zs.take len)).length := (List.getElem?_eq_some_iff.1 hu).1
   simp at hj
   rw [hc j (by omega), ← hu]
   have hjz : j < zs.length := by omega
   simp only [il]
   rw [List.getElem?_map, List.getElem?_take, if_pos (by omega), List.getElem?_eq_getElem hjz]
   simp only [Option.map_some, List.getD, List.getElem?_eq_getElem hjz, Option.getD_some]
 ·intro n hn
  have hwj := hwf n (List.mem_of_mem_take hn)
  have := bounds_i64 hwj
  unfold W.Is64
  omega
theorem isI_nil (w : World) : IsI w none 0 0 [] := ⟨Rd.nil _ _ _, rfl, Nat.le_refl _, by decide, by simp⟩
theorem is64_of {n : Int} (h : (Lit.int .i64 n).wf = true) : W.Is64 n := by
 have := bounds_i64 h
 unfold W.Is64
 omega
end Go.Proofs.YtonkbckgbfcnkaaGreat
namespace Go.Proofs.YtonkbckgbfcnkaaGreat
set_option maxHeartbeats 1000000
open Go.RowKit
attribute [local go_sem] run_store_one
set_option linter.unusedVariables false
theorem around_det (n most : Int) (hn : W.Is64 n) (h0 : 0 < most) (h1 : most ≤ 1000000000000) : ∃ m, 0 ≤ m ∧ m < most ∧ ∀ w : World, Calls Tryz.prog 19 #[.int .i64 n, .int .i64 most] w (fun e w' => e = .returned (.int .i64 m) ∧ w = w') := by
 have hlo := hn.1
 have hhi := hn.2
 have hz : (most == 0) = false := beq_eq_false_iff_ne.2 (by omega)
 clear hn
 by_cases h : n < 0
 ·have hd := decide_eq_true h
  obtain ⟨m, hm⟩ : ∃ m, n = -m := ⟨-n, by omega⟩
  subst hm
  have e : -(-m + 1) = m - 1 := by omega
  have hm0 : 0 ≤ m - 1 := by omega
  have hw : IntKind.i64.wrap (-(-m + 1)) = m - 1 := by rw [e, IntKind.wrap_i64]; omega
  have hq0 : 0 ≤ (m - 1) % most := Int.emod_nonneg _ (by omega)
  have hq1 : (m - 1) % most < most := Int.emod_lt_of_pos _ h0
  have ht : Int.tmod (-(-m + 1)) most = (m - 1) % most := by rw [e, Int.tmod_eq_emod_of_nonneg hm0]
  have ht2 : Int.tmod (m - 1) most = (m - 1) % most := Int.tmod_eq_emod_of_nonneg hm0
  clear e
  refine ⟨(m - 1) % most, by omega, by omega, fun w => ?_⟩
  go_enter Tryz.func19, Tryz.ntmps19
  go_wp2
  go_ret
  exact ⟨rfl, rfl⟩
 ·have hd := decide_eq_false h
  have hn0 : 0 ≤ n := by omega
  have hq0 : 0 ≤ n % most := Int.emod_nonneg _ (by omega)
  have hq1 : n % most < most := Int.emod_lt_of_pos _ h0
  refine ⟨n % most, hq0, hq1, fun w => ?_⟩
  go_enter Tryz.func19, Tryz.ntmps19
  go_wp2
  go_ret
  exact ⟨rfl, rfl⟩
theorem number_det (n : Int) (hn : W.Is64 n) : ∃ r, Bq 7 r ∧ ∀ w : World, Calls Tryz.prog 23 #[.int .i64 n] w (RR r w) := by
 obtain ⟨m, hm0, hm1, har⟩ := around_det n 100 hn (by omega) (by omega)
 have hq0 : 0 ≤ m % 25 ∧ m % 25 ≤ 24 := by omega
 have hq1 : 0 ≤ m / 25 ∧ m / 25 ≤ 3 := by omega
 refine ⟨Rat.divInt (m % 25 - 12) (1 + m / 25), Bq.divInt (bd_num (by omega) (by omega)) (bd_num (by omega) (by omega)) (by omega), fun w => ?_⟩
 have HAR := Lib.hid har; clear har
 go_enter Tryz.func23, Tryz.ntmps23
 go_wp2_with fail
 generalize hW : w.alloc _ = W1
 obtain ⟨k2, hB⟩ := box1 hW
 have k5 := Lib.hid hB; clear hW hB
 obtain ⟨kc, kd, ke, kf, kg, l9⟩ := k2.f4
 refine (HAR.out W1).mono ?_
 rintro e w' ⟨rfl, rfl⟩
 go_wp2_with fail
 have k3 := rof4_any (m % 25 - 12) (1 + m / 25) W1 ⟨by omega, by omega⟩ ⟨by omega, by omega⟩
 (with_reducible refine k3.mono ?_)
 clear k3
 rintro e w10 ⟨z0, z1, z2, z3, rfl, k0, k1⟩
 have k4 := k2.below k1
 have k6 := Lib.hid (Blw k5.out k1)
 have k7 := Lib.hid k0
 obtain ⟨o_z0, o_z1, o_z2, o_z3⟩ := k0.ones
 clear k0 k1
 obtain ⟨k8, k9, ka, kb, ki, kj⟩ := k4.f4
 go_wp2
 have hkp := (Kp.refl w10).t4 (k4) z0 z1 z2 z3
 refine bodyPost_ret (v := .agg #[z0, z1, z2, z3]) (by simp [results, Tryz.results23, go_sem, k8, k9, ka, kb]) rfl ⟨_, _, _, _, rfl, ?_, bel4 (k6.out) (by first | simp | omega)⟩
 exact k7.out.kp hkp
end Go.Proofs.YtonkbckgbfcnkaaGreat
namespace Go.Proofs.YtonkbckgbfcnkaaGreat
set_option maxHeartbeats 16000000
open Go.RowKit
attribute [local go_sem] run_store_one
set_option linter.unusedVariables false
set_option linter.unusedSimpArgs false
theorem sgn_neg (x : Int) : sgnZ (-x) = -sgnZ x := by
 unfold sgnZ cmpZ
 rcases Int.lt_trichotomy x 0 with h | h | h
 ·rw [if_neg (by omega), if_pos (by omega), if_pos h]; rfl
 ·subst h; rfl
 ·rw [if_pos (by omega), if_neg (by omega), if_pos h]
theorem sgn_small (x : Int) : sgnZ x = -1 ∨ sgnZ x = 0 ∨ sgnZ x = 1 := by
 unfold sgnZ cmpZ
 split
 ·exact .inl rfl
 ·split
  ·exact .inr (.inr rfl)
  ·exact .inr (.inl rfl)
theorem side_small (a b c : Rat × Rat) : vside a b c = -1 ∨ vside a b c = 0 ∨ vside a b c = 1 := sgn_small _
theorem side_cyc {a b c : Rat × Rat} : vside b c a = vside a b c := by
 unfold vside
 have e : vcrs (vsub c b) (vsub a b) = vcrs (vsub b a) (vsub c a) := by simp only [vsub, vcrs]; grind
 rw [e]
theorem side_neg1 {a b c : Rat × Rat} : -vside b a c = vside a b c := by
 unfold vside
 have e : vcrs (vsub a b) (vsub c b) = -vcrs (vsub b a) (vsub c a) := by simp only [vsub, vcrs]; grind
 rw [e, Rat.neg_num, sgn_neg]; omega
theorem side_neg2 {a b c : Rat × Rat} : -vside a c b = vside a b c := by
 unfold vside
 have e : vcrs (vsub c a) (vsub b a) = -vcrs (vsub b a) (vsub c a) := by simp only [vsub, vcrs]; grind
 rw [e, Rat.neg_num, sgn_neg]; omega
theorem wrap_small {x : Int} (h : x = -1 ∨ x = 0 ∨ x = 1) : IntKind.i64.wrap (-x) = -x := by
 rcases h with h | h | h <;> subst h <;> rfl
theorem wside1 {a b c : Rat × Rat} : IntKind.i64.wrap (-vside b a c) = vside a b c := (wrap_small (side_small _ _ _)).trans side_neg1
theorem wside2 {a b c : Rat × Rat} : IntKind.i64.wrap (-vside a c b) = vside a b c := (wrap_small (side_small _ _ _)).trans side_neg2
theorem cmpQ_lt {r t : Rat} (h : r < t) : cmpQ r t = -1 := by unfold cmpQ; rw [if_pos h]
theorem cmpQ_gt {r t : Rat} (h : t < r) : cmpQ r t = 1 := by unfold cmpQ; rw [if_neg (by grind), if_pos h]
theorem cmpQ_eq (r : Rat) : cmpQ r r = 0 := by unfold cmpQ; rw [if_neg (by grind), if_neg (by grind)]
theorem triQ (r t : Rat) : r < t ∨ r = t ∨ t < r := by grind
theorem cmpQ_neg (r t : Rat) : -cmpQ t r = cmpQ r t := by
 rcases triQ r t with h | h | h
 ·rw [cmpQ_lt h, cmpQ_gt h]
 ·subst h; rw [cmpQ_eq]; rfl
 ·rw [cmpQ_gt h, cmpQ_lt h]; rfl
theorem cmpQ_zero {r t : Rat} : cmpQ r t = 0 ↔ r = t := by
 rcases triQ r t with h | h | h
 ·rw [cmpQ_lt h]; grind
 ·subst h; rw [cmpQ_eq]; simp
 ·rw [cmpQ_gt h]; grind
theorem cmpQ_le {r t : Rat} : cmpQ r t ≤ 0 ↔ r ≤ t := by
 rcases triQ r t with h | h | h
 ·rw [cmpQ_lt h]; grind
 ·subst h; rw [cmpQ_eq]; grind
 ·rw [cmpQ_gt h]; grind
theorem cmpV_neg (a b : Rat × Rat) : -cmpV b a = cmpV a b := by
 unfold cmpV
 have h1 := cmpQ_neg a.1 b.1
 have h2 := cmpQ_neg a.2 b.2
 split <;> split <;> omega
theorem cmpV_small (a b : Rat × Rat) : cmpV a b = -1 ∨ cmpV a b = 0 ∨ cmpV a b = 1 := by
 have hq : ∀ r t, cmpQ r t = -1 ∨ cmpQ r t = 0 ∨ cmpQ r t = 1 := by
  intro r t
  rcases triQ r t with h | h | h
  ·exact .inl (cmpQ_lt h)
  ·subst h; exact .inr (.inl (cmpQ_eq _))
  ·exact .inr (.inr (cmpQ_gt h))
 unfold cmpV
 split
 ·exact hq _ _
 ·exact hq _ _
theorem wcmp {a b : Rat × Rat} : IntKind.i64.wrap (-cmpV b a) = cmpV a b := (wrap_small (cmpV_small _ _)).trans (cmpV_neg _ _)
theorem cmpV_zero {a b : Rat × Rat} : cmpV a b = 0 ↔ a = b := by
 unfold cmpV
 by_cases h : cmpQ a.1 b.1 = 0
 ·rw [if_pos h, cmpQ_zero]
  have := cmpQ_zero.1 h
  constructor
  ·intro e; exact Prod.ext this e
  ·intro e; rw [e]
 ·rw [if_neg h]
  constructor
  ·intro e; exact absurd e h
  ·intro e; rw [e, cmpQ_eq] at h; exact absurd rfl h
theorem cmpV_beq (a b : Rat × Rat) : (cmpV a b == 0) = decide (a = b) := by
 by_cases h : a = b
 ·rw [beq_iff_eq.2 (cmpV_zero.2 h), decide_eq_true h]
 ·rw [beq_eq_false_iff_ne.2 (fun e => h (cmpV_zero.1 e)), decide_eq_false h]
theorem cmpV_le {a b : Rat × Rat} : cmpV a b ≤ 0 ↔ a.1 < b.1 ∨ (a.1 = b.1 ∧ a.2 ≤ b.2) := by
 unfold cmpV
 by_cases h : cmpQ a.1 b.1 = 0
 ·rw [if_pos h, cmpQ_le]; have := cmpQ_zero.1 h; grind
 ·rw [if_neg h, cmpQ_le]; have : a.1 ≠ b.1 := fun e => h (cmpQ_zero.2 e); grind
theorem cmpV_trans {a b c : Rat × Rat} (h : cmpV a b ≤ 0) (g : cmpV b c ≤ 0) : cmpV a c ≤ 0 := by
 rw [cmpV_le] at *; grind
theorem cmpV_rev {a b c : Rat × Rat} (h : 0 ≤ cmpV a b) (g : 0 ≤ cmpV b c) : 0 ≤ cmpV a c := by
 have h1 := cmpV_neg a b; have h2 := cmpV_neg b c; have h3 := cmpV_neg a c
 have := cmpV_trans (a := c) (b := b) (c := a) (by omega) (by omega)
 omega
set_option maxRecDepth 100000 in
theorem sides_walk (sl : Value) (l : List Int) (n : Int) (w : World) (hs : Sr w sl l) (hl : ∀ x ∈ l, W.Is64 x) (hn : W.Is64 n) :
  Calls Tryz.prog 4 #[sl, .int .i64 n] w fun e w' => e = .returned (.bool true) ∧ Below w.heap.size w w' := by
 have HS := Lib.hid hs; have HL := Lib.hid hl; have HN := Lib.hid hn
 clear hs hl hn
 go_enter Tryz.func4, Tryz.ntmps4
 go_wp2_with fail
 have HBREFL := Lib.hid (Below.refl w.heap.size w)
 have kE := vec_any sl l 0 w (HS.out.below HBREFL.out) HL.out (by omega) (by omega)
 (with_reducible refine kE.mono ?_)
 clear kE
 rintro e w1 ⟨aa, hb7aa, aac0, aac1, aac2, aac3, aac4, aac5, aac6, aac7, rfl, kt, ku⟩
 have HBaa := Lib.hid hb7aa; clear hb7aa
 have HS3 := Lib.hid ku
 have kF := Lib.hid (Blw HBREFL.out ku)
 have hgaa := kF.out.size
 have F5 := Lib.hid kt
 obtain ⟨o_aac0, o_aac1, o_aac2, o_aac3, o_aac4, o_aac5, o_aac6, o_aac7⟩ := kt.ones
 clear kt ku
 dsimp only
 go_step
 refine new_Vec rfl rfl rfl rfl rfl rfl rfl (by simp) rfl o_aac0 o_aac1 o_aac2 o_aac3 o_aac4 o_aac5 o_aac6 o_aac7 (fun W6 hx7 hB => ?_)
 simp only [Act.put, List.setIfInBounds_toArray, List.set_cons_succ, List.set_cons_zero]
 have HS8 := Lib.hid hB
 have kG := Lib.hid (Blw kF.out hB)
 clear hB
 obtain ⟨k0k, k0l, k0m, k0n, k0o, k0p, k0q, k0r, k0s, l19⟩ := hx7.f8
 go_wp2_with fail
 have kH := vec_any sl l 2 W6 (HS.out.below kG.out) HL.out (by omega) (by omega)
 (with_reducible refine kH.mono ?_)
 clear kH
 rintro e w20 ⟨bb, hb7bb, bbc0, bbc1, bbc2, bbc3, bbc4, bbc5, bbc6, bbc7, rfl, kv, kw⟩
 have HBbb := Lib.hid hb7bb; clear hb7bb
 clear l19
 have HS22 := Lib.hid kw
 have k01 := Lib.hid (Blw kG.out kw)
 have F24 := Lib.hid kv
 obtain ⟨o_bbc0, o_bbc1, o_bbc2, o_bbc3, o_bbc4, o_bbc5, o_bbc6, o_bbc7⟩ := kv.ones
 clear kv kw
 dsimp only
 go_step
 refine new_Vec rfl rfl rfl rfl rfl rfl rfl (by simp) rfl o_bbc0 o_bbc1 o_bbc2 o_bbc3 o_bbc4 o_bbc5 o_bbc6 o_bbc7 (fun W25 hx26 hB => ?_)
 simp only [Act.put, List.setIfInBounds_toArray, List.set_cons_succ, List.set_cons_zero]
 have kI := (hx7.below HS22.out)
 have k0t := kI.lt
 have HS30 := Lib.hid hB
 have kJ := Lib.hid (Blw k01.out hB)
 clear hB
 have kK := (kI.below HS30.out)
 obtain ⟨k0u, k0v, k0w, k0x, k0y, k0z, k0A, k0B, k0C, l43⟩ := kK.f8
 obtain ⟨k0D, k0E, k0F, k0G, k0H, k0I, k0J, k0K, k0L, l53⟩ := hx26.f8
 go_wp2_with fail
 have kL := vec_any sl l 4 W25 (HS.out.below kJ.out) HL.out (by omega) (by omega)
 (with_reducible refine kL.mono ?_)
 clear kL
 rintro e w54 ⟨cc, hb7cc, ccc0, ccc1, ccc2, ccc3, ccc4, ccc5, ccc6, ccc7, rfl, kx, ky⟩
 have HBcc := Lib.hid hb7cc; clear hb7cc
 clear l43 l53
 have HS56 := Lib.hid ky
 have k05 := Lib.hid (Blw kJ.out ky)
 have F58 := Lib.hid kx
 obtain ⟨o_ccc0, o_ccc1, o_ccc2, o_ccc3, o_ccc4, o_ccc5, o_ccc6, o_ccc7⟩ := kx.ones
 clear kx ky
 dsimp only
 go_step
 refine new_Vec rfl rfl rfl rfl rfl rfl rfl (by simp) rfl o_ccc0 o_ccc1 o_ccc2 o_ccc3 o_ccc4 o_ccc5 o_ccc6 o_ccc7 (fun W59 hx60 hB => ?_)
 simp only [Act.put, List.setIfInBounds_toArray, List.set_cons_succ, List.set_cons_zero]
 have kM := (kK.below HS56.out)
 have k0M := kM.lt
 have kN := (hx26.below HS56.out)
 have k0N := kN.lt
 have HS67 := Lib.hid hB
 have ko := Lib.hid (Blw k05.out hB)
 clear hB
 have ke := (kM.below HS67.out)
 obtain ⟨k0O, k0P, k0Q, k0R, k0S, k0T, k0U, k0V, k0W, l80⟩ := ke.f8
 have kf := (kN.below HS67.out)
 obtain ⟨k0X, k0Y, k0Z, k10, k11, k12, k13, k14, k15, l92⟩ := kf.f8
 obtain ⟨k16, k17, k18, k19, k1a, k1b, k1c, k1d, k1e, k09⟩ := hx60.f8
 go_wp2_with fail
 refine (around_any n 6 W59 HN.out (by omega) (by omega)).mono ?_
 rintro e w9 ⟨k6, rfl, hk60, hk61, rfl⟩
 dsimp only
 go_step
 go_step
 go_step
 go_step
 
 go_cut [] (fun wx => ∃ (b2 c2 : Rat × Rat) (bd0 bd1 bd2 bd3 bd4 bd5 bd6 bd7 cd0 cd1 cd2 cd3 cd4 cd5 cd6 cd7 : Value), Bx wx w1.heap.size 30 [aac0, aac1, aac2, aac3, aac4, aac5, aac6, aac7] ∧ Bx wx w20.heap.size 30 [bd0, bd1, bd2, bd3, bd4, bd5, bd6, bd7] ∧ Bx wx w54.heap.size 30 [cd0, cd1, cd2, cd3, cd4, cd5, cd6, cd7] ∧ VecV wx aac0 aac1 aac2 aac3 aac4 aac5 aac6 aac7 aa ∧ VecV wx bd0 bd1 bd2 bd3 bd4 bd5 bd6 bd7 b2 ∧ VecV wx cd0 cd1 cd2 cd3 cd4 cd5 cd6 cd7 c2 ∧ Bv 30 b2 ∧ Bv 30 c2 ∧ Below w.heap.size w wx)
 have kg := Lib.hid (((((F5.out.kp (.of HS8.out)).kp (.of HS22.out)).kp (.of HS30.out)).kp (.of HS56.out)).kp (.of HS67.out))
 have kr := Lib.hid (((F24.out.kp (.of HS30.out)).kp (.of HS56.out)).kp (.of HS67.out))
 have kO := Lib.hid (F58.out.kp (.of HS67.out))
 case first =>
  rename_i J_ K_ hJ_ hK_
  have hk : k6 = 1 ∨ k6 = 2 ∨ k6 = 3 ∨ (k6 ≠ 1 ∧ k6 ≠ 2 ∧ k6 ≠ 3) := by omega
  rcases hk with rfl | rfl | rfl | ⟨h1, h2, h3⟩
  ·go_upto_region 6 with fail
   go_upto_region 6 with fail
   generalize hF : ({ tmps := _, defers := _ } : Act) = F
   have ev5 : F.eval (.tmp 5) = .pointer (some ⟨w1.heap.size, 0, none⟩) := by rw [← hF]; rfl
   have HF := Lib.hid hF; clear hF
   refine wp_flow_tab false rfl 1 [(21, [])] [SC (.agg #[aac0, aac1, aac2, aac3, aac4, aac5, aac6, aac7])] [false] (by kernel_rfl) (by kernel_rfl) (by kernel_rfl) (by kernel_rfl) (by kernel_rfl) (by rw [← HF.out]; simp) ⟨SC.mono _, trivial⟩ ?_ ?_
   ·intro kq hkq a wx hB hp hs
    have hcase : kq = 0 := by omega
    rcases hcase with rfl
    ·exact ⟨_, rfl, ld_Vec rfl ((hs 5 rfl).trans ev5) (ke.below hB) rfl rfl rfl rfl rfl rfl rfl rfl⟩
   ·intro val wx hB hsp hdis
    have e0 : val 0 = .agg #[aac0, aac1, aac2, aac3, aac4, aac5, aac6, aac7] := hsp 0 (by omega)
    rw [← HF.out]
    change wpList _ _ _ [_] _ _
    simp only [puts, vals, List.map_cons, List.map_nil, List.foldl_cons, List.foldl_nil, if_true, Nat.zero_add, e0, List.setIfInBounds_toArray, List.set_cons_succ, List.set_cons_zero]
    clear hsp hdis HF e0
    clear ev5
    refine wst_Vec rfl rfl rfl rfl rfl (hx60.below hB) o_aac0 o_aac1 o_aac2 o_aac3 o_aac4 o_aac5 o_aac6 o_aac7 (fun w107 hx108 hst => ?_)
    go_wp2_with fail
    go_meet
    exact ⟨_, _, _, _, _, _, _, _, _, _, _, _, _, _, _, _, _, _, hst.2.2 _ _ _ (by omega) (ke.below hB), hst.2.2 _ _ _ (by omega) (kf.below hB), hx108, (kg.out.kp (.of hB)).kp hst.1, (kr.out.kp (.of hB)).kp hst.1, (kg.out.kp (.of hB)).kp hst.1, HBbb.out.mono (by omega), HBaa.out.mono (by omega), hst.2.1 _ _ (by omega) (Blw ko.out hB)⟩
  ·obtain ⟨rn, hbn, hcn⟩ := number_det n HN.out
   have HBN := Lib.hid hbn; have HCN := Lib.hid hcn; clear hbn hcn
   go_upto_region 8 with fail
   go_upto_region 8 with fail
   generalize hW : W59.drew = W106
   have hB : Below W59.heap.size W59 W106 := by rw [← hW]; exact (Below.refl _ _).drew
   clear l80 l92 k09
   have HS107 := Lib.hid hB
   have k0a := Lib.hid (Blw ko.out hB)
   clear hB
   have ks := (ke.below HS107.out)
   have kz := (kf.below HS107.out)
   have kP := Lib.hid (kr.out.kp (.of HS107.out))
   have kA := Lib.hid (kg.out.kp (.of HS107.out))
   generalize hF : ({ tmps := _, defers := _ } : Act) = F
   have ev1 : F.eval (.tmp 1) = .int .i64 n := by rw [← hF]; rfl
   have ev5 : F.eval (.tmp 5) = .pointer (some ⟨w1.heap.size, 0, none⟩) := by rw [← hF]; rfl
   have ev6 : F.eval (.tmp 6) = .pointer (some ⟨w20.heap.size, 0, none⟩) := by rw [← hF]; rfl
   have HF := Lib.hid hF; clear hF
   refine wp_flow_tab true hW 8 [(24, []), (25, []), (26, []), (27, [1, 2]), (28, []), (29, [4]), (30, [3, 5]), (31, [0, 6])] [SC (.agg #[aac0, aac1, aac2, aac3, aac4, aac5, aac6, aac7]), SC (.agg #[bbc0, bbc1, bbc2, bbc3, bbc4, bbc5, bbc6, bbc7]), SC (.agg #[aac0, aac1, aac2, aac3, aac4, aac5, aac6, aac7]), SV (vsub bb aa), SC (.int .i64 n), SR (rn), SV (vsca (vsub bb aa) rn), SV (vadd aa (vsca (vsub bb aa) rn))] [false, false, false, false, false, false, false, false] (by kernel_rfl) (by kernel_rfl) (by kernel_rfl) (by kernel_rfl) (by kernel_rfl) (by rw [← HF.out]; simp) ⟨SC.mono _, SC.mono _, SC.mono _, SV.mono _, SC.mono _, SR.mono _, SV.mono _, SV.mono _, trivial⟩ ?_ ?_
   ·intro kq hkq a wx hB hp hs
    have hcase : kq = 0 ∨ kq = 1 ∨ kq = 2 ∨ kq = 3 ∨ kq = 4 ∨ kq = 5 ∨ kq = 6 ∨ kq = 7 := by omega
    rcases hcase with rfl | rfl | rfl | rfl | rfl | rfl | rfl | rfl
    ·exact ⟨_, rfl, ld_Vec rfl ((hs 5 rfl).trans ev5) (ks.below hB) rfl rfl rfl rfl rfl rfl rfl rfl⟩
    ·exact ⟨_, rfl, ld_Vec rfl ((hs 6 rfl).trans ev6) (kz.below hB) rfl rfl rfl rfl rfl rfl rfl rfl⟩
    ·exact ⟨_, rfl, ld_Vec rfl ((hs 5 rfl).trans ev5) (ks.below hB) rfl rfl rfl rfl rfl rfl rfl rfl⟩
    ·obtain ⟨k0, k1, -⟩ := hp
     exact ⟨_, rfl, Does.rv (f := 22) (call2 rfl (fun _ => by simp [go_sem]) k0 k1) (vsub5_any (7) (7) bbc0 bbc1 bbc2 bbc3 bbc4 bbc5 bbc6 bbc7 aac0 aac1 aac2 aac3 aac4 aac5 aac6 aac7 (bb) (aa) wx (kP.out.kp (.of hB)) (kA.out.kp (.of hB)) HBbb.out HBaa.out (by omega))⟩
    ·clear hp
     have b1 := (hs 1 rfl).trans ev1
     simp [Act.eval] at b1
     exact ⟨_, rfl, Does.val (by simp [execOp, Act.eval, b1, go_sem]) rfl⟩
    ·obtain ⟨k0, -⟩ := hp
     exact ⟨_, rfl, Does.rr (f := 23) (call1 rfl (fun _ => by simp [go_sem]) k0) (HCN.out wx)⟩
    ·obtain ⟨k0, k1, -⟩ := hp
     obtain ⟨d0, d1, d2, d3, d4, d5, d6, d7, e0, h_d⟩ := k0
     replace e0 : a.eval (.tmp 27) = .agg #[d0, d1, d2, d3, d4, d5, d6, d7] := e0
     obtain ⟨m0, m1, m2, m3, e1, h_m⟩ := k1
     replace e1 : a.eval (.tmp 29) = .agg #[m0, m1, m2, m3] := e1
     exact ⟨_, rfl, Does.rv (f := 21) (call2 rfl (fun _ => by simp [go_sem]) e0 e1) (vsca5_any (15) (7) d0 d1 d2 d3 d4 d5 d6 d7 m0 m1 m2 m3 (vsub bb aa) (rn) wx h_d h_m (HBbb.out.sub HBaa.out) HBN.out (by omega))⟩
    ·obtain ⟨k0, k1, -⟩ := hp
     obtain ⟨e_0, e_1, e_2, e_3, e_4, e_5, e_6, e_7, e1, h_e_⟩ := k1
     replace e1 : a.eval (.tmp 30) = .agg #[e_0, e_1, e_2, e_3, e_4, e_5, e_6, e_7] := e1
     exact ⟨_, rfl, Does.rv (f := 20) (call2 rfl (fun _ => by simp [go_sem]) k0 e1) (vadd5_any (7) (22) aac0 aac1 aac2 aac3 aac4 aac5 aac6 aac7 e_0 e_1 e_2 e_3 e_4 e_5 e_6 e_7 (aa) (vsca (vsub bb aa) rn) wx (kA.out.kp (.of hB)) h_e_ HBaa.out ((HBbb.out.sub HBaa.out).sca HBN.out) (by omega))⟩
   ·intro val wx hB hsp hdis
    obtain ⟨f_0, f_1, f_2, f_3, f_4, f_5, f_6, f_7, e7, h_f_⟩ := hsp 7 (by omega)
    replace e7 : val 7 = .agg #[f_0, f_1, f_2, f_3, f_4, f_5, f_6, f_7] := e7
    rw [← HF.out]
    change wpList _ _ _ [_] _ _
    simp only [puts, vals, List.map_cons, List.map_nil, List.foldl_cons, List.foldl_nil, if_true, Nat.zero_add, Nat.reduceAdd, e7, List.setIfInBounds_toArray, List.set_cons_succ, List.set_cons_zero]
    clear hsp hdis HF e7
    clear ev1 ev5 ev6
    have kQ := (hx60.below HS107.out)
    obtain ⟨o_f_0, o_f_1, o_f_2, o_f_3, o_f_4, o_f_5, o_f_6, o_f_7⟩ := h_f_.ones
    refine wst_Vec rfl rfl rfl rfl rfl (kQ.below hB) o_f_0 o_f_1 o_f_2 o_f_3 o_f_4 o_f_5 o_f_6 o_f_7 (fun w116 hx119 hst => ?_)
    obtain ⟨k1f, k1g, k1h, k1i, k1j, k1k, k1l, k1m, k1n, k1o⟩ := ks.f8
    obtain ⟨k1p, k1q, k1r, k1s, k1t, k1u, k1v, k1w, k1x, k1y⟩ := kz.f8
    obtain ⟨k1z, k1A, k1B, k1C, k1D, k1E, k1F, k1G, k1H, k1I⟩ := kQ.f8
    go_wp2_with fail
    go_meet
    exact ⟨_, _, _, _, _, _, _, _, _, _, _, _, _, _, _, _, _, _, hst.2.2 _ _ _ (by omega) (ks.below hB), hst.2.2 _ _ _ (by omega) (kz.below hB), hx119, (kA.out.kp (.of hB)).kp hst.1, (kP.out.kp (.of hB)).kp hst.1, h_f_.kp hst.1, HBbb.out.mono (by omega), (HBaa.out.add ((HBbb.out.sub HBaa.out).sca HBN.out)).mono (by omega), hst.2.1 _ _ (by omega) (Blw k0a.out hB)⟩
  ·go_upto_region 10 with fail
   go_wp2_with fail
   have k0b := (kf).set_ 0 (aac0)
   have k0c := (k0b).set_ 1 (aac1)
   have k0d := (k0c).set_ 2 (aac2)
   have k0e := (k0d).set_ 3 (aac3)
   have hkp := (Kp.refl W59).t4 (kf) aac0 aac1 aac2 aac3
   go_meet
   exact ⟨(aa.1, bb.2), _, _, _, _, _, _, _, _, _, _, _, _, _, _, _, _, _, ((((ke).far_ (g' := w20.heap.size) (j := 0) (by omega) (aac0)).far_ (g' := w20.heap.size) (j := 1) (by omega) (aac1)).far_ (g' := w20.heap.size) (j := 2) (by omega) (aac2)).far_ (g' := w20.heap.size) (j := 3) (by omega) (aac3), k0e, ((((hx60).far_ (g' := w20.heap.size) (j := 0) (by omega) (aac0)).far_ (g' := w20.heap.size) (j := 1) (by omega) (aac1)).far_ (g' := w20.heap.size) (j := 2) (by omega) (aac2)).far_ (g' := w20.heap.size) (j := 3) (by omega) (aac3), kg.out.kp hkp, ⟨(kg.out.kp hkp).1, (kr.out.kp hkp).2⟩, kO.out.kp hkp, ⟨HBaa.out.1.mono (by omega), HBbb.out.2.mono (by omega)⟩, HBcc.out.mono (by omega), ((((ko.out).setCell (by simp <;> omega) _).setCell (by simp <;> omega) _).setCell (by simp <;> omega) _).setCell (by simp <;> omega) _⟩
  ·have q1 : (k6 == 1) = false := beq_eq_false_iff_ne.2 h1
   have q2 : (k6 == 2) = false := beq_eq_false_iff_ne.2 h2
   have q3 : (k6 == 3) = false := beq_eq_false_iff_ne.2 h3
   go_wp2_with fail
   go_meet
   exact ⟨_, _, _, _, _, _, _, _, _, _, _, _, _, _, _, _, _, _, ke, kf, hx60, kg.out, kr.out, kO.out, HBbb.out.mono (by omega), HBcc.out.mono (by omega), ko.out⟩
 case rest =>
  obtain ⟨b2, c2, bd0, bd1, bd2, bd3, bd4, bd5, bd6, bd7, cd0, cd1, cd2, cd3, cd4, cd5, cd6, cd7, hA, hB_, hC, hVa, hVb, hVc, hbb, hbc, hbl⟩ := hcut
  have HBc := Lib.hid hbl; have HBb := Lib.hid hbb; have HBc2 := Lib.hid hbc; have HVA := Lib.hid hVa; have HVB := Lib.hid hVb; have HVC := Lib.hid hVc
  have HBa : Hid (Bv 30 aa) := Lib.hid (HBaa.out.mono (by omega))
  clear hbl hbb hbc hVa hVb hVc
  go_upto_region 11 with fail
  go_upto_region 11 with fail
  generalize hF : ({ tmps := _, defers := _ } : Act) = F
  have ev5 : F.eval (.tmp 5) = .pointer (some ⟨w1.heap.size, 0, none⟩) := by rw [← hF]; rfl
  have ev6 : F.eval (.tmp 6) = .pointer (some ⟨w20.heap.size, 0, none⟩) := by rw [← hF]; rfl
  have ev7 : F.eval (.tmp 7) = .pointer (some ⟨w54.heap.size, 0, none⟩) := by rw [← hF]; rfl
  have HF := Lib.hid hF; clear hF
  refine wp_flow_tab false rfl 5 [(37, []), (38, []), (39, []), (40, [0, 1, 2]), (8, [3])] [SC (.agg #[aac0, aac1, aac2, aac3, aac4, aac5, aac6, aac7]), SC (.agg #[bd0, bd1, bd2, bd3, bd4, bd5, bd6, bd7]), SC (.agg #[cd0, cd1, cd2, cd3, cd4, cd5, cd6, cd7]), SC (.int .i64 (vside aa b2 c2)), SC (.int .i64 (vside aa b2 c2))] [false, false, false, false, false] (by kernel_rfl) (by kernel_rfl) (by kernel_rfl) (by kernel_rfl) (by kernel_rfl) (by rw [← HF.out]; simp) ⟨SC.mono _, SC.mono _, SC.mono _, SC.mono _, SC.mono _, trivial⟩ ?_ ?_
  ·intro kq hkq a wx hB hp hs
   have hcase : kq = 0 ∨ kq = 1 ∨ kq = 2 ∨ kq = 3 ∨ kq = 4 := by omega
   rcases hcase with rfl | rfl | rfl | rfl | rfl
   ·exact ⟨_, rfl, ld_Vec rfl ((hs 5 rfl).trans ev5) (hA.below hB) rfl rfl rfl rfl rfl rfl rfl rfl⟩
   ·exact ⟨_, rfl, ld_Vec rfl ((hs 6 rfl).trans ev6) (hB_.below hB) rfl rfl rfl rfl rfl rfl rfl rfl⟩
   ·exact ⟨_, rfl, ld_Vec rfl ((hs 7 rfl).trans ev7) (hC.below hB) rfl rfl rfl rfl rfl rfl rfl rfl⟩
   ·obtain ⟨k0, k1, k2, -⟩ := hp
    exact ⟨_, rfl, Does.rc (f := 16) (call3 rfl (fun _ => by simp [go_sem]) k0 k1 k2) (vside_any 30 aac0 aac1 aac2 aac3 aac4 aac5 aac6 aac7 bd0 bd1 bd2 bd3 bd4 bd5 bd6 bd7 cd0 cd1 cd2 cd3 cd4 cd5 cd6 cd7 aa b2 c2 wx (HVA.out.kp (.of hB)) (HVB.out.kp (.of hB)) (HVC.out.kp (.of hB)) HBa.out HBb.out HBc2.out (by omega))⟩
   ·obtain ⟨k0, -⟩ := hp
    have e0 : a.eval (.tmp 40) = .int .i64 (vside aa b2 c2) := k0
    simp [Act.eval] at e0
    exact ⟨_, rfl, Does.val (by simp [execOp, Act.eval, e0, go_sem]) rfl⟩
  ·intro val wx hB hsp hdis
   have e4 : val 4 = .int .i64 (vside aa b2 c2) := hsp 4 (by omega)
   rw [← HF.out]
   change wpList _ _ _ [] _ _
   simp only [puts, vals, List.map_cons, List.map_nil, List.foldl_cons, List.foldl_nil, if_true, Nat.zero_add, Nat.reduceAdd, e4, List.setIfInBounds_toArray, List.set_cons_succ, List.set_cons_zero]
   clear hsp hdis HF e4
   clear ev5 ev6 ev7
   obtain ⟨w3002, rfl⟩ : ∃ W : World, W = wx := ⟨_, rfl⟩
   have HS3003 := Lib.hid hB
   have k0f := Lib.hid (Blw HBc.out hB)
   clear hB
   go_upto_region 12 with fail
   go_upto_region 12 with fail
   have kh := (hA.below HS3003.out)
   have ki := (hB_.below HS3003.out)
   have kj := (hC.below HS3003.out)
   have kk := Lib.hid (HVA.out.kp (.of HS3003.out))
   have kl := Lib.hid (HVB.out.kp (.of HS3003.out))
   have km := Lib.hid (HVC.out.kp (.of HS3003.out))
   generalize hF : ({ tmps := _, defers := _ } : Act) = F
   have ev5 : F.eval (.tmp 5) = .pointer (some ⟨w1.heap.size, 0, none⟩) := by rw [← hF]; rfl
   have ev6 : F.eval (.tmp 6) = .pointer (some ⟨w20.heap.size, 0, none⟩) := by rw [← hF]; rfl
   have ev7 : F.eval (.tmp 7) = .pointer (some ⟨w54.heap.size, 0, none⟩) := by rw [← hF]; rfl
   have ev8 : F.eval (.tmp 8) = .int .i64 (vside aa b2 c2) := by rw [← hF]; rfl
   have HF := Lib.hid hF; clear hF
   refine wp_flow_tabG false rfl 32 [(41, []), (42, []), (43, []), (44, []), (45, [1, 2, 3]), (46, [0, 4]), (47, [5]), (48, [6]), (49, [6]), (50, [6]), (51, [6]), (52, [8, 9, 10, 6]), (53, [7, 11, 6]), (54, [6, 12]), (55, [13]), (56, [14]), (57, [14]), (58, [14]), (59, [14]), (60, [16, 17, 18, 14]), (61, [19, 14]), (62, [15, 20, 14]), (63, [14, 21]), (64, [22]), (65, [23]), (66, [23]), (67, [23]), (68, [23]), (69, [25, 26, 27, 23]), (70, [28, 23]), (71, [24, 29, 23]), (72, [23, 30])] [SC (.int .i64 (vside aa b2 c2)), SC (.agg #[aac0, aac1, aac2, aac3, aac4, aac5, aac6, aac7]), SC (.agg #[bd0, bd1, bd2, bd3, bd4, bd5, bd6, bd7]), SC (.agg #[cd0, cd1, cd2, cd3, cd4, cd5, cd6, cd7]), SC (.int .i64 (vside aa b2 c2)), SC (.bool false), SC (.bool false), SC (.int .i64 (vside aa b2 c2)), SC (.agg #[bd0, bd1, bd2, bd3, bd4, bd5, bd6, bd7]), SC (.agg #[cd0, cd1, cd2, cd3, cd4, cd5, cd6, cd7]), SC (.agg #[aac0, aac1, aac2, aac3, aac4, aac5, aac6, aac7]), SC (.int .i64 (vside aa b2 c2)), SC (.bool false), SC (.bool false), SC (.bool false), SC (.int .i64 (vside aa b2 c2)), SC (.agg #[bd0, bd1, bd2, bd3, bd4, bd5, bd6, bd7]), SC (.agg #[aac0, aac1, aac2, aac3, aac4, aac5, aac6, aac7]), SC (.agg #[cd0, cd1, cd2, cd3, cd4, cd5, cd6, cd7]), SC (.int .i64 (vside b2 aa c2)), SC (.int .i64 (vside aa b2 c2)), SC (.bool false), SC (.bool false), SC (.bool false), SC (.int .i64 (vside aa b2 c2)), SC (.agg #[aac0, aac1, aac2, aac3, aac4, aac5, aac6, aac7]), SC (.agg #[cd0, cd1, cd2, cd3, cd4, cd5, cd6, cd7]), SC (.agg #[bd0, bd1, bd2, bd3, bd4, bd5, bd6, bd7]), SC (.int .i64 (vside aa c2 b2)), SC (.int .i64 (vside aa b2 c2)), SC (.bool false), SC (.bool false)] [false, false, false, false, false, false, false, false, false, false, false, false, false, false, false, false, false, false, false, false, false, false, false, false, false, false, false, false, false, false, false, false] (by kernel_rfl) (by kernel_rfl) (by kernel_rfl) (by kernel_rfl) (by kernel_rfl) (by rw [← HF.out]; simp) ⟨SC.mono _, SC.mono _, SC.mono _, SC.mono _, SC.mono _, SC.mono _, SC.mono _, SC.mono _, SC.mono _, SC.mono _, SC.mono _, SC.mono _, SC.mono _, SC.mono _, SC.mono _, SC.mono _, SC.mono _, SC.mono _, SC.mono _, SC.mono _, SC.mono _, SC.mono _, SC.mono _, SC.mono _, SC.mono _, SC.mono _, SC.mono _, SC.mono _, SC.mono _, SC.mono _, SC.mono _, SC.mono _, trivial⟩ ?_ ?_
   ·intro kq hkq a wx hB hp hs
    have hcase : kq = 0 ∨ kq = 1 ∨ kq = 2 ∨ kq = 3 ∨ kq = 4 ∨ kq = 5 ∨ kq = 6 ∨ kq = 7 ∨ kq = 8 ∨ kq = 9 ∨ kq = 10 ∨ kq = 11 ∨ kq = 12 ∨ kq = 13 ∨ kq = 14 ∨ kq = 15 ∨ kq = 16 ∨ kq = 17 ∨ kq = 18 ∨ kq = 19 ∨ kq = 20 ∨ kq = 21 ∨ kq = 22 ∨ kq = 23 ∨ kq = 24 ∨ kq = 25 ∨ kq = 26 ∨ kq = 27 ∨ kq = 28 ∨ kq = 29 ∨ kq = 30 ∨ kq = 31 := by omega
    rcases hcase with rfl | rfl | rfl | rfl | rfl | rfl | rfl | rfl | rfl | rfl | rfl | rfl | rfl | rfl | rfl | rfl | rfl | rfl | rfl | rfl | rfl | rfl | rfl | rfl | rfl | rfl | rfl | rfl | rfl | rfl | rfl | rfl
    ·clear hp
     have b8 := (hs 8 rfl).trans ev8
     simp [Act.eval] at b8
     exact ⟨_, rfl, .inl ⟨wanted_none rfl, Does.val (by simp [execOp, Act.eval, b8, go_sem]) rfl⟩⟩
    ·exact ⟨_, rfl, .inl ⟨wanted_none rfl, ld_Vec rfl ((hs 5 rfl).trans ev5) (kh.below hB) rfl rfl rfl rfl rfl rfl rfl rfl⟩⟩
    ·exact ⟨_, rfl, .inl ⟨wanted_none rfl, ld_Vec rfl ((hs 6 rfl).trans ev6) (ki.below hB) rfl rfl rfl rfl rfl rfl rfl rfl⟩⟩
    ·exact ⟨_, rfl, .inl ⟨wanted_none rfl, ld_Vec rfl ((hs 7 rfl).trans ev7) (kj.below hB) rfl rfl rfl rfl rfl rfl rfl rfl⟩⟩
    ·obtain ⟨k0, k1, k2, -⟩ := hp
     exact ⟨_, rfl, .inl ⟨wanted_none rfl, Does.rc (f := 24) (call3 rfl (fun _ => by simp [go_sem]) k0 k1 k2) (vside5_any 30 aac0 aac1 aac2 aac3 aac4 aac5 aac6 aac7 bd0 bd1 bd2 bd3 bd4 bd5 bd6 bd7 cd0 cd1 cd2 cd3 cd4 cd5 cd6 cd7 aa b2 c2 wx (kk.out.kp (.of hB)) (kl.out.kp (.of hB)) (km.out.kp (.of hB)) HBa.out HBb.out HBc2.out (by omega))⟩⟩
    ·obtain ⟨k0, k1, -⟩ := hp
     have e0 : a.eval (.tmp 41) = .int .i64 (vside aa b2 c2) := k0
     have e1 : a.eval (.tmp 45) = .int .i64 (vside aa b2 c2) := k1
     simp [Act.eval] at e0
     simp [Act.eval] at e1
     exact ⟨_, rfl, .inl ⟨wanted_none rfl, Does.val (by simp [execOp, Act.eval, e0, e1, go_sem]) rfl⟩⟩
    ·obtain ⟨k0, -⟩ := hp
     have e0 : a.eval (.tmp 46) = .bool false := k0
     simp [Act.eval] at e0
     exact ⟨_, rfl, .inl ⟨wanted_none rfl, Does.val (by simp [execOp, Act.eval, e0, go_sem]) rfl⟩⟩
    ·obtain ⟨k0, -⟩ := hp
     have e0 : a.eval (.tmp 47) = .bool false := k0
     have b8 := (hs 8 rfl).trans ev8
     have hgd := e0
     simp [Act.eval] at b8
     exact ⟨_, rfl, .inl ⟨(wanted_of rfl rfl hgd).trans rfl, Does.val (by simp [execOp, Act.eval, b8, go_sem]) rfl⟩⟩
    ·obtain ⟨k0, -⟩ := hp
     have e0 : a.eval (.tmp 47) = .bool false := k0
     have hgd := e0
     exact ⟨_, rfl, .inl ⟨(wanted_of rfl rfl hgd).trans rfl, ld_Vec rfl ((hs 6 rfl).trans ev6) (ki.below hB) rfl rfl rfl rfl rfl rfl rfl rfl⟩⟩
    ·obtain ⟨k0, -⟩ := hp
     have e0 : a.eval (.tmp 47) = .bool false := k0
     have hgd := e0
     exact ⟨_, rfl, .inl ⟨(wanted_of rfl rfl hgd).trans rfl, ld_Vec rfl ((hs 7 rfl).trans ev7) (kj.below hB) rfl rfl rfl rfl rfl rfl rfl rfl⟩⟩
    ·obtain ⟨k0, -⟩ := hp
     have e0 : a.eval (.tmp 47) = .bool false := k0
     have hgd := e0
     exact ⟨_, rfl, .inl ⟨(wanted_of rfl rfl hgd).trans rfl, ld_Vec rfl ((hs 5 rfl).trans ev5) (kh.below hB) rfl rfl rfl rfl rfl rfl rfl rfl⟩⟩
    ·obtain ⟨k0, k1, k2, kn, -⟩ := hp
     have e0 : a.eval (.tmp 49) = .agg #[bd0, bd1, bd2, bd3, bd4, bd5, bd6, bd7] := k0
     have e1 : a.eval (.tmp 50) = .agg #[cd0, cd1, cd2, cd3, cd4, cd5, cd6, cd7] := k1
     have e2 : a.eval (.tmp 51) = .agg #[aac0, aac1, aac2, aac3, aac4, aac5, aac6, aac7] := k2
     have e3 : a.eval (.tmp 47) = .bool false := kn
     have hgd := e3
     exact ⟨_, rfl, .inl ⟨(wanted_of rfl rfl hgd).trans rfl, Does.rc (f := 16) (call3 rfl (fun _ => by simp [go_sem]) e0 e1 e2) ((side_cyc (a := aa) (b := b2) (c := c2)) ▸ vside_any 30 bd0 bd1 bd2 bd3 bd4 bd5 bd6 bd7 cd0 cd1 cd2 cd3 cd4 cd5 cd6 cd7 aac0 aac1 aac2 aac3 aac4 aac5 aac6 aac7 b2 c2 aa wx (kl.out.kp (.of hB)) (km.out.kp (.of hB)) (kk.out.kp (.of hB)) HBb.out HBc2.out HBa.out (by omega))⟩⟩
    ·obtain ⟨k0, k1, k2, -⟩ := hp
     have e0 : a.eval (.tmp 48) = .int .i64 (vside aa b2 c2) := k0
     have e1 : a.eval (.tmp 52) = .int .i64 (vside aa b2 c2) := k1
     have e2 : a.eval (.tmp 47) = .bool false := k2
     have hgd := e2
     simp [Act.eval] at e0
     simp [Act.eval] at e1
     exact ⟨_, rfl, .inl ⟨(wanted_of rfl rfl hgd).trans rfl, Does.val (by simp [execOp, Act.eval, e0, e1, go_sem]) rfl⟩⟩
    ·obtain ⟨k0, k1, -⟩ := hp
     have e0 : a.eval (.tmp 47) = .bool false := k0
     have e1 : a.eval (.tmp 53) = .bool false := k1
     simp [Act.eval] at e0
     simp [Act.eval] at e1
     exact ⟨_, rfl, .inl ⟨wanted_none rfl, Does.val (by simp [execOp, Act.eval, e0, e1, go_sem]) rfl⟩⟩
    ·obtain ⟨k0, -⟩ := hp
     have e0 : a.eval (.tmp 54) = .bool false := k0
     simp [Act.eval] at e0
     exact ⟨_, rfl, .inl ⟨wanted_none rfl, Does.val (by simp [execOp, Act.eval, e0, go_sem]) rfl⟩⟩
    ·obtain ⟨k0, -⟩ := hp
     have e0 : a.eval (.tmp 55) = .bool false := k0
     have b8 := (hs 8 rfl).trans ev8
     have hgd := e0
     simp [Act.eval] at b8
     exact ⟨_, rfl, .inl ⟨(wanted_of rfl rfl hgd).trans rfl, Does.val (by simp [execOp, Act.eval, b8, go_sem]) rfl⟩⟩
    ·obtain ⟨k0, -⟩ := hp
     have e0 : a.eval (.tmp 55) = .bool false := k0
     have hgd := e0
     exact ⟨_, rfl, .inl ⟨(wanted_of rfl rfl hgd).trans rfl, ld_Vec rfl ((hs 6 rfl).trans ev6) (ki.below hB) rfl rfl rfl rfl rfl rfl rfl rfl⟩⟩
    ·obtain ⟨k0, -⟩ := hp
     have e0 : a.eval (.tmp 55) = .bool false := k0
     have hgd := e0
     exact ⟨_, rfl, .inl ⟨(wanted_of rfl rfl hgd).trans rfl, ld_Vec rfl ((hs 5 rfl).trans ev5) (kh.below hB) rfl rfl rfl rfl rfl rfl rfl rfl⟩⟩
    ·obtain ⟨k0, -⟩ := hp
     have e0 : a.eval (.tmp 55) = .bool false := k0
     have hgd := e0
     exact ⟨_, rfl, .inl ⟨(wanted_of rfl rfl hgd).trans rfl, ld_Vec rfl ((hs 7 rfl).trans ev7) (kj.below hB) rfl rfl rfl rfl rfl rfl rfl rfl⟩⟩
    ·obtain ⟨k0, k1, k2, kn, -⟩ := hp
     have e0 : a.eval (.tmp 57) = .agg #[bd0, bd1, bd2, bd3, bd4, bd5, bd6, bd7] := k0
     have e1 : a.eval (.tmp 58) = .agg #[aac0, aac1, aac2, aac3, aac4, aac5, aac6, aac7] := k1
     have e2 : a.eval (.tmp 59) = .agg #[cd0, cd1, cd2, cd3, cd4, cd5, cd6, cd7] := k2
     have e3 : a.eval (.tmp 55) = .bool false := kn
     have hgd := e3
     exact ⟨_, rfl, .inl ⟨(wanted_of rfl rfl hgd).trans rfl, Does.rc (f := 16) (call3 rfl (fun _ => by simp [go_sem]) e0 e1 e2) (vside_any 30 bd0 bd1 bd2 bd3 bd4 bd5 bd6 bd7 aac0 aac1 aac2 aac3 aac4 aac5 aac6 aac7 cd0 cd1 cd2 cd3 cd4 cd5 cd6 cd7 b2 aa c2 wx (kl.out.kp (.of hB)) (kk.out.kp (.of hB)) (km.out.kp (.of hB)) HBb.out HBa.out HBc2.out (by omega))⟩⟩
    ·obtain ⟨k0, k1, -⟩ := hp
     have e0 : a.eval (.tmp 60) = .int .i64 (vside b2 aa c2) := k0
     have e1 : a.eval (.tmp 55) = .bool false := k1
     have hgd := e1
     simp [Act.eval] at e0
     exact ⟨_, rfl, .inl ⟨(wanted_of rfl rfl hgd).trans rfl, Does.val (by simp [execOp, Act.eval, e0, go_sem, wside1]) rfl⟩⟩
    ·obtain ⟨k0, k1, k2, -⟩ := hp
     have e0 : a.eval (.tmp 56) = .int .i64 (vside aa b2 c2) := k0
     have e1 : a.eval (.tmp 61) = .int .i64 (vside aa b2 c2) := k1
     have e2 : a.eval (.tmp 55) = .bool false := k2
     have hgd := e2
     simp [Act.eval] at e0
     simp [Act.eval] at e1
     exact ⟨_, rfl, .inl ⟨(wanted_of rfl rfl hgd).trans rfl, Does.val (by simp [execOp, Act.eval, e0, e1, go_sem]) rfl⟩⟩
    ·obtain ⟨k0, k1, -⟩ := hp
     have e0 : a.eval (.tmp 55) = .bool false := k0
     have e1 : a.eval (.tmp 62) = .bool false := k1
     simp [Act.eval] at e0
     simp [Act.eval] at e1
     exact ⟨_, rfl, .inl ⟨wanted_none rfl, Does.val (by simp [execOp, Act.eval, e0, e1, go_sem]) rfl⟩⟩
    ·obtain ⟨k0, -⟩ := hp
     have e0 : a.eval (.tmp 63) = .bool false := k0
     simp [Act.eval] at e0
     exact ⟨_, rfl, .inl ⟨wanted_none rfl, Does.val (by simp [execOp, Act.eval, e0, go_sem]) rfl⟩⟩
    ·obtain ⟨k0, -⟩ := hp
     have e0 : a.eval (.tmp 64) = .bool false := k0
     have b8 := (hs 8 rfl).trans ev8
     have hgd := e0
     simp [Act.eval] at b8
     exact ⟨_, rfl, .inl ⟨(wanted_of rfl rfl hgd).trans rfl, Does.val (by simp [execOp, Act.eval, b8, go_sem]) rfl⟩⟩
    ·obtain ⟨k0, -⟩ := hp
     have e0 : a.eval (.tmp 64) = .bool false := k0
     have hgd := e0
     exact ⟨_, rfl, .inl ⟨(wanted_of rfl rfl hgd).trans rfl, ld_Vec rfl ((hs 5 rfl).trans ev5) (kh.below hB) rfl rfl rfl rfl rfl rfl rfl rfl⟩⟩
    ·obtain ⟨k0, -⟩ := hp
     have e0 : a.eval (.tmp 64) = .bool false := k0
     have hgd := e0
     exact ⟨_, rfl, .inl ⟨(wanted_of rfl rfl hgd).trans rfl, ld_Vec rfl ((hs 7 rfl).trans ev7) (kj.below hB) rfl rfl rfl rfl rfl rfl rfl rfl⟩⟩
    ·obtain ⟨k0, -⟩ := hp
     have e0 : a.eval (.tmp 64) = .bool false := k0
     have hgd := e0
     exact ⟨_, rfl, .inl ⟨(wanted_of rfl rfl hgd).trans rfl, ld_Vec rfl ((hs 6 rfl).trans ev6) (ki.below hB) rfl rfl rfl rfl rfl rfl rfl rfl⟩⟩
    ·obtain ⟨k0, k1, k2, kn, -⟩ := hp
     have e0 : a.eval (.tmp 66) = .agg #[aac0, aac1, aac2, aac3, aac4, aac5, aac6, aac7] := k0
     have e1 : a.eval (.tmp 67) = .agg #[cd0, cd1, cd2, cd3, cd4, cd5, cd6, cd7] := k1
     have e2 : a.eval (.tmp 68) = .agg #[bd0, bd1, bd2, bd3, bd4, bd5, bd6, bd7] := k2
     have e3 : a.eval (.tmp 64) = .bool false := kn
     have hgd := e3
     exact ⟨_, rfl, .inl ⟨(wanted_of rfl rfl hgd).trans rfl, Does.rc (f := 16) (call3 rfl (fun _ => by simp [go_sem]) e0 e1 e2) (vside_any 30 aac0 aac1 aac2 aac3 aac4 aac5 aac6 aac7 cd0 cd1 cd2 cd3 cd4 cd5 cd6 cd7 bd0 bd1 bd2 bd3 bd4 bd5 bd6 bd7 aa c2 b2 wx (kk.out.kp (.of hB)) (km.out.kp (.of hB)) (kl.out.kp (.of hB)) HBa.out HBc2.out HBb.out (by omega))⟩⟩
    ·obtain ⟨k0, k1, -⟩ := hp
     have e0 : a.eval (.tmp 69) = .int .i64 (vside aa c2 b2) := k0
     have e1 : a.eval (.tmp 64) = .bool false := k1
     have hgd := e1
     simp [Act.eval] at e0
     exact ⟨_, rfl, .inl ⟨(wanted_of rfl rfl hgd).trans rfl, Does.val (by simp [execOp, Act.eval, e0, go_sem, wside2]) rfl⟩⟩
    ·obtain ⟨k0, k1, k2, -⟩ := hp
     have e0 : a.eval (.tmp 65) = .int .i64 (vside aa b2 c2) := k0
     have e1 : a.eval (.tmp 70) = .int .i64 (vside aa b2 c2) := k1
     have e2 : a.eval (.tmp 64) = .bool false := k2
     have hgd := e2
     simp [Act.eval] at e0
     simp [Act.eval] at e1
     exact ⟨_, rfl, .inl ⟨(wanted_of rfl rfl hgd).trans rfl, Does.val (by simp [execOp, Act.eval, e0, e1, go_sem]) rfl⟩⟩
    ·obtain ⟨k0, k1, -⟩ := hp
     have e0 : a.eval (.tmp 64) = .bool false := k0
     have e1 : a.eval (.tmp 71) = .bool false := k1
     simp [Act.eval] at e0
     simp [Act.eval] at e1
     exact ⟨_, rfl, .inl ⟨wanted_none rfl, Does.val (by simp [execOp, Act.eval, e0, e1, go_sem]) rfl⟩⟩
   ·intro val wx hB hsp hdis
    have e31 : val 31 = .bool false := hsp 31 (by omega)
    rw [← HF.out]
    change wpList _ _ _ [] _ _
    simp only [puts, vals, List.map_cons, List.map_nil, List.foldl_cons, List.foldl_nil, if_true, Nat.zero_add, Nat.reduceAdd, e31, List.setIfInBounds_toArray, List.set_cons_succ, List.set_cons_zero]
    clear hsp hdis HF e31
    clear ev5 ev6 ev7 ev8
    obtain ⟨w3015, rfl⟩ : ∃ W : World, W = wx := ⟨_, rfl⟩
    have HS3016 := Lib.hid hB
    have k0g := Lib.hid (Blw k0f.out hB)
    clear hB
    go_upto_region 14 with fail
    go_upto_region 14 with fail
    have kR := (kh.below HS3016.out)
    have kS := (ki.below HS3016.out)
    have kT := Lib.hid (kk.out.kp (.of HS3016.out))
    have kU := Lib.hid (kl.out.kp (.of HS3016.out))
    generalize hF : ({ tmps := _, defers := _ } : Act) = F
    have ev5 : F.eval (.tmp 5) = .pointer (some ⟨w1.heap.size, 0, none⟩) := by rw [← hF]; rfl
    have ev6 : F.eval (.tmp 6) = .pointer (some ⟨w20.heap.size, 0, none⟩) := by rw [← hF]; rfl
    have HF := Lib.hid hF; clear hF
    refine wp_flow_tab false rfl 4 [(73, []), (74, []), (75, [0, 1]), (9, [2])] [SC (.agg #[aac0, aac1, aac2, aac3, aac4, aac5, aac6, aac7]), SC (.agg #[bd0, bd1, bd2, bd3, bd4, bd5, bd6, bd7]), SC (.int .i64 (cmpV aa b2)), SC (.int .i64 (cmpV aa b2))] [false, false, false, false] (by kernel_rfl) (by kernel_rfl) (by kernel_rfl) (by kernel_rfl) (by kernel_rfl) (by rw [← HF.out]; simp) ⟨SC.mono _, SC.mono _, SC.mono _, SC.mono _, trivial⟩ ?_ ?_
    ·intro kq hkq a wx hB hp hs
     have hcase : kq = 0 ∨ kq = 1 ∨ kq = 2 ∨ kq = 3 := by omega
     rcases hcase with rfl | rfl | rfl | rfl
     ·exact ⟨_, rfl, ld_Vec rfl ((hs 5 rfl).trans ev5) (kR.below hB) rfl rfl rfl rfl rfl rfl rfl rfl⟩
     ·exact ⟨_, rfl, ld_Vec rfl ((hs 6 rfl).trans ev6) (kS.below hB) rfl rfl rfl rfl rfl rfl rfl rfl⟩
     ·obtain ⟨k0, k1, -⟩ := hp
      exact ⟨_, rfl, Does.rc (f := 25) (call2 rfl (fun _ => by simp [go_sem]) k0 k1) (vcp_any 30 30 aac0 aac1 aac2 aac3 aac4 aac5 aac6 aac7 bd0 bd1 bd2 bd3 bd4 bd5 bd6 bd7 aa b2 wx (kT.out.kp (.of hB)) (kU.out.kp (.of hB)) HBa.out HBb.out (by omega))⟩
     ·obtain ⟨k0, -⟩ := hp
      have e0 : a.eval (.tmp 75) = .int .i64 (cmpV aa b2) := k0
      simp [Act.eval] at e0
      exact ⟨_, rfl, Does.val (by simp [execOp, Act.eval, e0, go_sem]) rfl⟩
    ·intro val wx hB hsp hdis
     have e3 : val 3 = .int .i64 (cmpV aa b2) := hsp 3 (by omega)
     rw [← HF.out]
     change wpList _ _ _ [] _ _
     simp only [puts, vals, List.map_cons, List.map_nil, List.foldl_cons, List.foldl_nil, if_true, Nat.zero_add, Nat.reduceAdd, e3, List.setIfInBounds_toArray, List.set_cons_succ, List.set_cons_zero]
     clear hsp hdis HF e3
     clear ev5 ev6
     obtain ⟨w3025, rfl⟩ : ∃ W : World, W = wx := ⟨_, rfl⟩
     have HS3026 := Lib.hid hB
     have k0h := Lib.hid (Blw k0g.out hB)
     clear hB
     go_upto_region 15 with fail
     go_upto_region 15 with fail
     have kV := (kS.below HS3026.out)
     have kW := ((kj.below HS3016.out).below HS3026.out)
     have kX := Lib.hid (kU.out.kp (.of HS3026.out))
     have kY := Lib.hid ((km.out.kp (.of HS3016.out)).kp (.of HS3026.out))
     generalize hF : ({ tmps := _, defers := _ } : Act) = F
     have ev6 : F.eval (.tmp 6) = .pointer (some ⟨w20.heap.size, 0, none⟩) := by rw [← hF]; rfl
     have ev7 : F.eval (.tmp 7) = .pointer (some ⟨w54.heap.size, 0, none⟩) := by rw [← hF]; rfl
     have HF := Lib.hid hF; clear hF
     refine wp_flow_tab false rfl 4 [(76, []), (77, []), (78, [0, 1]), (10, [2])] [SC (.agg #[bd0, bd1, bd2, bd3, bd4, bd5, bd6, bd7]), SC (.agg #[cd0, cd1, cd2, cd3, cd4, cd5, cd6, cd7]), SC (.int .i64 (cmpV b2 c2)), SC (.int .i64 (cmpV b2 c2))] [false, false, false, false] (by kernel_rfl) (by kernel_rfl) (by kernel_rfl) (by kernel_rfl) (by kernel_rfl) (by rw [← HF.out]; simp) ⟨SC.mono _, SC.mono _, SC.mono _, SC.mono _, trivial⟩ ?_ ?_
     ·intro kq hkq a wx hB hp hs
      have hcase : kq = 0 ∨ kq = 1 ∨ kq = 2 ∨ kq = 3 := by omega
      rcases hcase with rfl | rfl | rfl | rfl
      ·exact ⟨_, rfl, ld_Vec rfl ((hs 6 rfl).trans ev6) (kV.below hB) rfl rfl rfl rfl rfl rfl rfl rfl⟩
      ·exact ⟨_, rfl, ld_Vec rfl ((hs 7 rfl).trans ev7) (kW.below hB) rfl rfl rfl rfl rfl rfl rfl rfl⟩
      ·obtain ⟨k0, k1, -⟩ := hp
       exact ⟨_, rfl, Does.rc (f := 25) (call2 rfl (fun _ => by simp [go_sem]) k0 k1) (vcp_any 30 30 bd0 bd1 bd2 bd3 bd4 bd5 bd6 bd7 cd0 cd1 cd2 cd3 cd4 cd5 cd6 cd7 b2 c2 wx (kX.out.kp (.of hB)) (kY.out.kp (.of hB)) HBb.out HBc2.out (by omega))⟩
      ·obtain ⟨k0, -⟩ := hp
       have e0 : a.eval (.tmp 78) = .int .i64 (cmpV b2 c2) := k0
       simp [Act.eval] at e0
       exact ⟨_, rfl, Does.val (by simp [execOp, Act.eval, e0, go_sem]) rfl⟩
     ·intro val wx hB hsp hdis
      have e3 : val 3 = .int .i64 (cmpV b2 c2) := hsp 3 (by omega)
      rw [← HF.out]
      change wpList _ _ _ [] _ _
      simp only [puts, vals, List.map_cons, List.map_nil, List.foldl_cons, List.foldl_nil, if_true, Nat.zero_add, Nat.reduceAdd, e3, List.setIfInBounds_toArray, List.set_cons_succ, List.set_cons_zero]
      clear hsp hdis HF e3
      clear ev6 ev7
      obtain ⟨w3035, rfl⟩ : ∃ W : World, W = wx := ⟨_, rfl⟩
      have HS3036 := Lib.hid hB
      have k0i := Lib.hid (Blw k0h.out hB)
      clear hB
      go_upto_region 16 with fail
      go_upto_region 16 with fail
      generalize hW : w3035.drew = W3038
      have hB : Below w3035.heap.size w3035 W3038 := by rw [← hW]; exact (Below.refl _ _).drew
      have HS3039 := Lib.hid hB
      have k0j := Lib.hid (Blw k0i.out hB)
      clear hB
      have k3 := (((kR.below HS3026.out).below HS3036.out).below HS3039.out)
      have kB := ((kV.below HS3036.out).below HS3039.out)
      have k4 := Lib.hid (((kT.out.kp (.of HS3026.out)).kp (.of HS3036.out)).kp (.of HS3039.out))
      have kC := Lib.hid ((kX.out.kp (.of HS3036.out)).kp (.of HS3039.out))
      have kb := ((kW.below HS3036.out).below HS3039.out)
      have kc := Lib.hid ((kY.out.kp (.of HS3036.out)).kp (.of HS3039.out))
      generalize hF : ({ tmps := _, defers := _ } : Act) = F
      have ev5 : F.eval (.tmp 5) = .pointer (some ⟨w1.heap.size, 0, none⟩) := by rw [← hF]; rfl
      have ev6 : F.eval (.tmp 6) = .pointer (some ⟨w20.heap.size, 0, none⟩) := by rw [← hF]; rfl
      have ev7 : F.eval (.tmp 7) = .pointer (some ⟨w54.heap.size, 0, none⟩) := by rw [← hF]; rfl
      have ev9 : F.eval (.tmp 9) = .int .i64 (cmpV aa b2) := by rw [← hF]; rfl
      have HF := Lib.hid hF; clear hF
      refine wp_flow_tabG true hW 30 [(79, []), (80, []), (81, []), (82, [1, 2]), (83, [0, 3]), (84, [4]), (85, [5]), (86, [5]), (87, [5]), (88, [7, 8, 5]), (89, [9, 5]), (90, [6, 10, 5]), (91, [5, 11]), (92, [12]), (93, [13]), (94, [14, 13]), (95, [13]), (96, [13]), (97, [16, 17, 13]), (98, [15, 18, 13]), (99, [13, 19]), (100, [20]), (101, [21]), (102, [21]), (103, [22, 23, 21]), (104, [21]), (105, [21]), (106, [25, 26, 21]), (107, [24, 27, 21]), (108, [21, 28])] [SC (.int .i64 (cmpV aa b2)), SC (.agg #[aac0, aac1, aac2, aac3, aac4, aac5, aac6, aac7]), SC (.agg #[bd0, bd1, bd2, bd3, bd4, bd5, bd6, bd7]), SC (.int .i64 (cmpV aa b2)), SC (.bool false), SC (.bool false), SC (.int .i64 (cmpV aa b2)), SC (.agg #[bd0, bd1, bd2, bd3, bd4, bd5, bd6, bd7]), SC (.agg #[aac0, aac1, aac2, aac3, aac4, aac5, aac6, aac7]), SC (.int .i64 (cmpV b2 aa)), SC (.int .i64 (cmpV aa b2)), SC (.bool false), SC (.bool false), SC (.bool false), SC (.int .i64 (cmpV aa b2)), SC (.bool (decide (aa = b2))), SC (.agg #[aac0, aac1, aac2, aac3, aac4, aac5, aac6, aac7]), SC (.agg #[bd0, bd1, bd2, bd3, bd4, bd5, bd6, bd7]), SC (.bool (decide (aa = b2))), SC (.bool false), SC (.bool false), SC (.bool false), SC (.agg #[aac0, aac1, aac2, aac3, aac4, aac5, aac6, aac7]), SC (.agg #[cd0, cd1, cd2, cd3, cd4, cd5, cd6, cd7]), SC (.bool (decide (aa = c2))), SC (.agg #[aac0, aac1, aac2, aac3, aac4, aac5, aac6, aac7]), SC (.agg #[cd0, cd1, cd2, cd3, cd4, cd5, cd6, cd7]), SC (.bool (decide (aa = c2))), SC (.bool false), SC (.bool false)] [false, false, false, false, false, false, false, false, false, false, false, false, false, false, false, false, false, false, false, false, false, false, false, false, false, false, false, false, false, false] (by kernel_rfl) (by kernel_rfl) (by kernel_rfl) (by kernel_rfl) (by kernel_rfl) (by rw [← HF.out]; simp) ⟨SC.mono _, SC.mono _, SC.mono _, SC.mono _, SC.mono _, SC.mono _, SC.mono _, SC.mono _, SC.mono _, SC.mono _, SC.mono _, SC.mono _, SC.mono _, SC.mono _, SC.mono _, SC.mono _, SC.mono _, SC.mono _, SC.mono _, SC.mono _, SC.mono _, SC.mono _, SC.mono _, SC.mono _, SC.mono _, SC.mono _, SC.mono _, SC.mono _, SC.mono _, SC.mono _, trivial⟩ ?_ ?_
      ·intro kq hkq a wx hB hp hs
       have hcase : kq = 0 ∨ kq = 1 ∨ kq = 2 ∨ kq = 3 ∨ kq = 4 ∨ kq = 5 ∨ kq = 6 ∨ kq = 7 ∨ kq = 8 ∨ kq = 9 ∨ kq = 10 ∨ kq = 11 ∨ kq = 12 ∨ kq = 13 ∨ kq = 14 ∨ kq = 15 ∨ kq = 16 ∨ kq = 17 ∨ kq = 18 ∨ kq = 19 ∨ kq = 20 ∨ kq = 21 ∨ kq = 22 ∨ kq = 23 ∨ kq = 24 ∨ kq = 25 ∨ kq = 26 ∨ kq = 27 ∨ kq = 28 ∨ kq = 29 := by omega
       rcases hcase with rfl | rfl | rfl | rfl | rfl | rfl | rfl | rfl | rfl | rfl | rfl | rfl | rfl | rfl | rfl | rfl | rfl | rfl | rfl | rfl | rfl | rfl | rfl | rfl | rfl | rfl | rfl | rfl | rfl | rfl
       ·clear hp
        have b9 := (hs 9 rfl).trans ev9
        simp [Act.eval] at b9
        exact ⟨_, rfl, .inl ⟨wanted_none rfl, Does.val (by simp [execOp, Act.eval, b9, go_sem]) rfl⟩⟩
       ·exact ⟨_, rfl, .inl ⟨wanted_none rfl, ld_Vec rfl ((hs 5 rfl).trans ev5) (k3.below hB) rfl rfl rfl rfl rfl rfl rfl rfl⟩⟩
       ·exact ⟨_, rfl, .inl ⟨wanted_none rfl, ld_Vec rfl ((hs 6 rfl).trans ev6) (kB.below hB) rfl rfl rfl rfl rfl rfl rfl rfl⟩⟩
       ·obtain ⟨k0, k1, -⟩ := hp
        exact ⟨_, rfl, .inl ⟨wanted_none rfl, Does.rc (f := 26) (call2 rfl (fun _ => by simp [go_sem]) k0 k1) (vcp5_any 30 30 aac0 aac1 aac2 aac3 aac4 aac5 aac6 aac7 bd0 bd1 bd2 bd3 bd4 bd5 bd6 bd7 aa b2 wx (k4.out.kp (.of hB)) (kC.out.kp (.of hB)) HBa.out HBb.out (by omega))⟩⟩
       ·obtain ⟨k0, k1, -⟩ := hp
        have e0 : a.eval (.tmp 79) = .int .i64 (cmpV aa b2) := k0
        have e1 : a.eval (.tmp 82) = .int .i64 (cmpV aa b2) := k1
        simp [Act.eval] at e0
        simp [Act.eval] at e1
        exact ⟨_, rfl, .inl ⟨wanted_none rfl, Does.val (by simp [execOp, Act.eval, e0, e1, go_sem]) rfl⟩⟩
       ·obtain ⟨k0, -⟩ := hp
        have e0 : a.eval (.tmp 83) = .bool false := k0
        simp [Act.eval] at e0
        exact ⟨_, rfl, .inl ⟨wanted_none rfl, Does.val (by simp [execOp, Act.eval, e0, go_sem]) rfl⟩⟩
       ·obtain ⟨k0, -⟩ := hp
        have e0 : a.eval (.tmp 84) = .bool false := k0
        have b9 := (hs 9 rfl).trans ev9
        have hgd := e0
        simp [Act.eval] at b9
        exact ⟨_, rfl, .inl ⟨(wanted_of rfl rfl hgd).trans rfl, Does.val (by simp [execOp, Act.eval, b9, go_sem]) rfl⟩⟩
       ·obtain ⟨k0, -⟩ := hp
        have e0 : a.eval (.tmp 84) = .bool false := k0
        have hgd := e0
        exact ⟨_, rfl, .inl ⟨(wanted_of rfl rfl hgd).trans rfl, ld_Vec rfl ((hs 6 rfl).trans ev6) (kB.below hB) rfl rfl rfl rfl rfl rfl rfl rfl⟩⟩
       ·obtain ⟨k0, -⟩ := hp
        have e0 : a.eval (.tmp 84) = .bool false := k0
        have hgd := e0
        exact ⟨_, rfl, .inl ⟨(wanted_of rfl rfl hgd).trans rfl, ld_Vec rfl ((hs 5 rfl).trans ev5) (k3.below hB) rfl rfl rfl rfl rfl rfl rfl rfl⟩⟩
       ·obtain ⟨k0, k1, k2, -⟩ := hp
        have e0 : a.eval (.tmp 86) = .agg #[bd0, bd1, bd2, bd3, bd4, bd5, bd6, bd7] := k0
        have e1 : a.eval (.tmp 87) = .agg #[aac0, aac1, aac2, aac3, aac4, aac5, aac6, aac7] := k1
        have e2 : a.eval (.tmp 84) = .bool false := k2
        have hgd := e2
        exact ⟨_, rfl, .inl ⟨(wanted_of rfl rfl hgd).trans rfl, Does.rc (f := 25) (call2 rfl (fun _ => by simp [go_sem]) e0 e1) (vcp_any 30 30 bd0 bd1 bd2 bd3 bd4 bd5 bd6 bd7 aac0 aac1 aac2 aac3 aac4 aac5 aac6 aac7 b2 aa wx (kC.out.kp (.of hB)) (k4.out.kp (.of hB)) HBb.out HBa.out (by omega))⟩⟩
       ·obtain ⟨k0, k1, -⟩ := hp
        have e0 : a.eval (.tmp 88) = .int .i64 (cmpV b2 aa) := k0
        have e1 : a.eval (.tmp 84) = .bool false := k1
        have hgd := e1
        simp [Act.eval] at e0
        exact ⟨_, rfl, .inl ⟨(wanted_of rfl rfl hgd).trans rfl, Does.val (by simp [execOp, Act.eval, e0, go_sem, wcmp]) rfl⟩⟩
       ·obtain ⟨k0, k1, k2, -⟩ := hp
        have e0 : a.eval (.tmp 85) = .int .i64 (cmpV aa b2) := k0
        have e1 : a.eval (.tmp 89) = .int .i64 (cmpV aa b2) := k1
        have e2 : a.eval (.tmp 84) = .bool false := k2
        have hgd := e2
        simp [Act.eval] at e0
        simp [Act.eval] at e1
        exact ⟨_, rfl, .inl ⟨(wanted_of rfl rfl hgd).trans rfl, Does.val (by simp [execOp, Act.eval, e0, e1, go_sem]) rfl⟩⟩
       ·obtain ⟨k0, k1, -⟩ := hp
        have e0 : a.eval (.tmp 84) = .bool false := k0
        have e1 : a.eval (.tmp 90) = .bool false := k1
        simp [Act.eval] at e0
        simp [Act.eval] at e1
        exact ⟨_, rfl, .inl ⟨wanted_none rfl, Does.val (by simp [execOp, Act.eval, e0, e1, go_sem]) rfl⟩⟩
       ·obtain ⟨k0, -⟩ := hp
        have e0 : a.eval (.tmp 91) = .bool false := k0
        simp [Act.eval] at e0
        exact ⟨_, rfl, .inl ⟨wanted_none rfl, Does.val (by simp [execOp, Act.eval, e0, go_sem]) rfl⟩⟩
       ·obtain ⟨k0, -⟩ := hp
        have e0 : a.eval (.tmp 92) = .bool false := k0
        have b9 := (hs 9 rfl).trans ev9
        have hgd := e0
        simp [Act.eval] at b9
        exact ⟨_, rfl, .inl ⟨(wanted_of rfl rfl hgd).trans rfl, Does.val (by simp [execOp, Act.eval, b9, go_sem]) rfl⟩⟩
       ·obtain ⟨k0, k1, -⟩ := hp
        have e0 : a.eval (.tmp 93) = .int .i64 (cmpV aa b2) := k0
        have e1 : a.eval (.tmp 92) = .bool false := k1
        have hgd := e1
        simp [Act.eval] at e0
        exact ⟨_, rfl, .inl ⟨(wanted_of rfl rfl hgd).trans rfl, Does.val (by simp [execOp, Act.eval, e0, go_sem, cmpV_beq, cmpV_zero]) rfl⟩⟩
       ·obtain ⟨k0, -⟩ := hp
        have e0 : a.eval (.tmp 92) = .bool false := k0
        have hgd := e0
        exact ⟨_, rfl, .inl ⟨(wanted_of rfl rfl hgd).trans rfl, ld_Vec rfl ((hs 5 rfl).trans ev5) (k3.below hB) rfl rfl rfl rfl rfl rfl rfl rfl⟩⟩
       ·obtain ⟨k0, -⟩ := hp
        have e0 : a.eval (.tmp 92) = .bool false := k0
        have hgd := e0
        exact ⟨_, rfl, .inl ⟨(wanted_of rfl rfl hgd).trans rfl, ld_Vec rfl ((hs 6 rfl).trans ev6) (kB.below hB) rfl rfl rfl rfl rfl rfl rfl rfl⟩⟩
       ·obtain ⟨k0, k1, k2, -⟩ := hp
        have e0 : a.eval (.tmp 95) = .agg #[aac0, aac1, aac2, aac3, aac4, aac5, aac6, aac7] := k0
        have e1 : a.eval (.tmp 96) = .agg #[bd0, bd1, bd2, bd3, bd4, bd5, bd6, bd7] := k1
        have e2 : a.eval (.tmp 92) = .bool false := k2
        have hgd := e2
        exact ⟨_, rfl, .inl ⟨(wanted_of rfl rfl hgd).trans rfl, Does.rc (f := 15) (call2 rfl (fun _ => by simp [go_sem]) e0 e1) (vsame_any aac0 aac1 aac2 aac3 aac4 aac5 aac6 aac7 bd0 bd1 bd2 bd3 bd4 bd5 bd6 bd7 aa b2 wx (k4.out.kp (.of hB)) (kC.out.kp (.of hB)) (decide (aa = b2)) rfl)⟩⟩
       ·obtain ⟨k0, k1, k2, -⟩ := hp
        have e0 : a.eval (.tmp 94) = .bool (decide (aa = b2)) := k0
        have e1 : a.eval (.tmp 97) = .bool (decide (aa = b2)) := k1
        have e2 : a.eval (.tmp 92) = .bool false := k2
        have hgd := e2
        simp [Act.eval] at e0
        simp [Act.eval] at e1
        exact ⟨_, rfl, .inl ⟨(wanted_of rfl rfl hgd).trans rfl, Does.val (by simp [execOp, Act.eval, e0, e1, go_sem]) rfl⟩⟩
       ·obtain ⟨k0, k1, -⟩ := hp
        have e0 : a.eval (.tmp 92) = .bool false := k0
        have e1 : a.eval (.tmp 98) = .bool false := k1
        simp [Act.eval] at e0
        simp [Act.eval] at e1
        exact ⟨_, rfl, .inl ⟨wanted_none rfl, Does.val (by simp [execOp, Act.eval, e0, e1, go_sem]) rfl⟩⟩
       ·obtain ⟨k0, -⟩ := hp
        have e0 : a.eval (.tmp 99) = .bool false := k0
        simp [Act.eval] at e0
        exact ⟨_, rfl, .inl ⟨wanted_none rfl, Does.val (by simp [execOp, Act.eval, e0, go_sem]) rfl⟩⟩
       ·obtain ⟨k0, -⟩ := hp
        have e0 : a.eval (.tmp 100) = .bool false := k0
        have hgd := e0
        exact ⟨_, rfl, .inl ⟨(wanted_of rfl rfl hgd).trans rfl, ld_Vec rfl ((hs 5 rfl).trans ev5) (k3.below hB) rfl rfl rfl rfl rfl rfl rfl rfl⟩⟩
       ·obtain ⟨k0, -⟩ := hp
        have e0 : a.eval (.tmp 100) = .bool false := k0
        have hgd := e0
        exact ⟨_, rfl, .inl ⟨(wanted_of rfl rfl hgd).trans rfl, ld_Vec rfl ((hs 7 rfl).trans ev7) (kb.below hB) rfl rfl rfl rfl rfl rfl rfl rfl⟩⟩
       ·obtain ⟨k0, k1, k2, -⟩ := hp
        have e0 : a.eval (.tmp 101) = .agg #[aac0, aac1, aac2, aac3, aac4, aac5, aac6, aac7] := k0
        have e1 : a.eval (.tmp 102) = .agg #[cd0, cd1, cd2, cd3, cd4, cd5, cd6, cd7] := k1
        have e2 : a.eval (.tmp 100) = .bool false := k2
        have hgd := e2
        exact ⟨_, rfl, .inl ⟨(wanted_of rfl rfl hgd).trans rfl, Does.rc (f := 15) (call2 rfl (fun _ => by simp [go_sem]) e0 e1) (vsame_any aac0 aac1 aac2 aac3 aac4 aac5 aac6 aac7 cd0 cd1 cd2 cd3 cd4 cd5 cd6 cd7 aa c2 wx (k4.out.kp (.of hB)) (kc.out.kp (.of hB)) (decide (aa = c2)) rfl)⟩⟩
       ·obtain ⟨k0, -⟩ := hp
        have e0 : a.eval (.tmp 100) = .bool false := k0
        have hgd := e0
        exact ⟨_, rfl, .inl ⟨(wanted_of rfl rfl hgd).trans rfl, ld_Vec rfl ((hs 5 rfl).trans ev5) (k3.below hB) rfl rfl rfl rfl rfl rfl rfl rfl⟩⟩
       ·obtain ⟨k0, -⟩ := hp
        have e0 : a.eval (.tmp 100) = .bool false := k0
        have hgd := e0
        exact ⟨_, rfl, .inl ⟨(wanted_of rfl rfl hgd).trans rfl, ld_Vec rfl ((hs 7 rfl).trans ev7) (kb.below hB) rfl rfl rfl rfl rfl rfl rfl rfl⟩⟩
       ·obtain ⟨k0, k1, k2, -⟩ := hp
        have e0 : a.eval (.tmp 104) = .agg #[aac0, aac1, aac2, aac3, aac4, aac5, aac6, aac7] := k0
        have e1 : a.eval (.tmp 105) = .agg #[cd0, cd1, cd2, cd3, cd4, cd5, cd6, cd7] := k1
        have e2 : a.eval (.tmp 100) = .bool false := k2
        have hgd := e2
        exact ⟨_, rfl, .inl ⟨(wanted_of rfl rfl hgd).trans rfl, Does.rc (f := 9) (call2 rfl (fun _ => by simp [go_sem]) e0 e1) (vsame5_any aac0 aac1 aac2 aac3 aac4 aac5 aac6 aac7 cd0 cd1 cd2 cd3 cd4 cd5 cd6 cd7 aa c2 wx (k4.out.kp (.of hB)) (kc.out.kp (.of hB)) (decide (aa = c2)) rfl)⟩⟩
       ·obtain ⟨k0, k1, k2, -⟩ := hp
        have e0 : a.eval (.tmp 103) = .bool (decide (aa = c2)) := k0
        have e1 : a.eval (.tmp 106) = .bool (decide (aa = c2)) := k1
        have e2 : a.eval (.tmp 100) = .bool false := k2
        have hgd := e2
        simp [Act.eval] at e0
        simp [Act.eval] at e1
        exact ⟨_, rfl, .inl ⟨(wanted_of rfl rfl hgd).trans rfl, Does.val (by simp [execOp, Act.eval, e0, e1, go_sem]) rfl⟩⟩
       ·obtain ⟨k0, k1, -⟩ := hp
        have e0 : a.eval (.tmp 100) = .bool false := k0
        have e1 : a.eval (.tmp 107) = .bool false := k1
        simp [Act.eval] at e0
        simp [Act.eval] at e1
        exact ⟨_, rfl, .inl ⟨wanted_none rfl, Does.val (by simp [execOp, Act.eval, e0, e1, go_sem]) rfl⟩⟩
      ·intro val wx hB hsp hdis
       have e29 : val 29 = .bool false := hsp 29 (by omega)
       rw [← HF.out]
       change wpList _ _ _ [] _ _
       simp only [puts, vals, List.map_cons, List.map_nil, List.foldl_cons, List.foldl_nil, if_true, Nat.zero_add, Nat.reduceAdd, e29, List.setIfInBounds_toArray, List.set_cons_succ, List.set_cons_zero]
       clear hsp hdis HF e29
       clear ev5 ev6 ev7 ev9
       obtain ⟨w3051, rfl⟩ : ∃ W : World, W = wx := ⟨_, rfl⟩
       have HS3052 := Lib.hid hB
       have kd := Lib.hid (Blw k0j.out hB)
       clear hB
       go_upto_region 18 with fail
       by_cases hx : 0 < cmpV aa b2
       ·by_cases hy : cmpV b2 c2 < 0
        ·skip
         skip
         have H1 : Hid (0 < cmpV aa b2) := Lib.hid (by omega)
         have H2 : Hid (¬ cmpV aa b2 < 0) := Lib.hid (by omega)
         have H3 : Hid (cmpV b2 c2 < 0) := Lib.hid (by omega)
         clear hx
         go_upto_region 18 with fail
         generalize hF : ({ tmps := _, defers := _ } : Act) = F
         have ev5 : F.eval (.tmp 5) = .pointer (some ⟨w1.heap.size, 0, none⟩) := by rw [← hF]; rfl
         have ev7 : F.eval (.tmp 7) = .pointer (some ⟨w54.heap.size, 0, none⟩) := by rw [← hF]; rfl
         have ev9 : F.eval (.tmp 9) = .int .i64 (cmpV aa b2) := by rw [← hF]; rfl
         have ev10 : F.eval (.tmp 10) = .int .i64 (cmpV b2 c2) := by rw [← hF]; rfl
         have HF := Lib.hid hF; clear hF
         refine wp_flow_tabG false rfl 30 [(109, []), (110, [0]), (111, [1]), (112, [2]), (113, [3, 2]), (114, [2, 4]), (115, [5]), (116, [6]), (117, [6]), (118, [7, 8, 6]), (119, [9, 6]), (120, [6, 10]), (121, [11]), (122, [12]), (123, [13, 12]), (124, [14, 12]), (125, [15]), (126, [16, 15]), (127, [15, 17, 12]), (128, [18, 12]), (129, [19]), (130, [19]), (131, [20, 21, 19]), (132, [22, 19]), (133, [19, 23, 12]), (134, [12, 24]), (135, [25]), (136, [26]), (137, [26, 27]), (4, [28])] [SC (.int .i64 (cmpV aa b2)), SC (.bool true), SC (.bool true), SC undef, SC undef, SC (.bool true), SC (.bool true), SC undef, SC undef, SC undef, SC undef, SC (.bool true), SC (.bool true), SC (.int .i64 (cmpV aa b2)), SC (.bool false), SC (.bool false), SC (.int .i64 (cmpV b2 c2)), SC (.bool true), SC (.bool true), SC (.bool true), SC undef, SC undef, SC undef, SC undef, SC (.bool true), SC (.bool true), SC (.bool true), SC (.bool true), SC (.bool true), SC (.bool true)] [false, false, false, false, false, false, false, false, false, false, false, false, false, false, false, false, false, false, false, false, false, false, false, false, false, false, false, false, false, false] (by kernel_rfl) (by kernel_rfl) (by kernel_rfl) (by kernel_rfl) (by kernel_rfl) (by rw [← HF.out]; simp) ⟨SC.mono _, SC.mono _, SC.mono _, SC.mono _, SC.mono _, SC.mono _, SC.mono _, SC.mono _, SC.mono _, SC.mono _, SC.mono _, SC.mono _, SC.mono _, SC.mono _, SC.mono _, SC.mono _, SC.mono _, SC.mono _, SC.mono _, SC.mono _, SC.mono _, SC.mono _, SC.mono _, SC.mono _, SC.mono _, SC.mono _, SC.mono _, SC.mono _, SC.mono _, SC.mono _, trivial⟩ ?_ ?_
         ·intro kq hkq a wx hB hp hs
          have hcase : kq = 0 ∨ kq = 1 ∨ kq = 2 ∨ kq = 3 ∨ kq = 4 ∨ kq = 5 ∨ kq = 6 ∨ kq = 7 ∨ kq = 8 ∨ kq = 9 ∨ kq = 10 ∨ kq = 11 ∨ kq = 12 ∨ kq = 13 ∨ kq = 14 ∨ kq = 15 ∨ kq = 16 ∨ kq = 17 ∨ kq = 18 ∨ kq = 19 ∨ kq = 20 ∨ kq = 21 ∨ kq = 22 ∨ kq = 23 ∨ kq = 24 ∨ kq = 25 ∨ kq = 26 ∨ kq = 27 ∨ kq = 28 ∨ kq = 29 := by omega
          rcases hcase with rfl | rfl | rfl | rfl | rfl | rfl | rfl | rfl | rfl | rfl | rfl | rfl | rfl | rfl | rfl | rfl | rfl | rfl | rfl | rfl | rfl | rfl | rfl | rfl | rfl | rfl | rfl | rfl | rfl | rfl
          ·clear hp
           have b9 := (hs 9 rfl).trans ev9
           simp [Act.eval] at b9
           exact ⟨_, rfl, .inl ⟨wanted_none rfl, Does.val (by simp [execOp, Act.eval, b9, go_sem]) rfl⟩⟩
          ·obtain ⟨k0, -⟩ := hp
           have e0 : a.eval (.tmp 109) = .int .i64 (cmpV aa b2) := k0
           simp [Act.eval] at e0
           exact ⟨_, rfl, .inl ⟨wanted_none rfl, Does.val (by simp [execOp, Act.eval, e0, go_sem, H1.out]) rfl⟩⟩
          ·obtain ⟨k0, -⟩ := hp
           have e0 : a.eval (.tmp 110) = .bool true := k0
           simp [Act.eval] at e0
           exact ⟨_, rfl, .inl ⟨wanted_none rfl, Does.val (by simp [execOp, Act.eval, e0, go_sem]) rfl⟩⟩
          ·obtain ⟨k0, -⟩ := hp
           have e0 : a.eval (.tmp 111) = .bool true := k0
           have b10 := (hs 10 rfl).trans ev10
           have hgd := e0
           exact ⟨_, rfl, .inr ⟨(wanted_of rfl rfl hgd).trans rfl, rfl, rfl⟩⟩
          ·obtain ⟨k0, k1, -⟩ := hp
           have e0 : a.eval (.tmp 112) = undef := k0
           have e1 : a.eval (.tmp 111) = .bool true := k1
           have hgd := e1
           exact ⟨_, rfl, .inr ⟨(wanted_of rfl rfl hgd).trans rfl, rfl, rfl⟩⟩
          ·obtain ⟨k0, k1, -⟩ := hp
           have e0 : a.eval (.tmp 111) = .bool true := k0
           have e1 : a.eval (.tmp 113) = undef := k1
           simp [Act.eval] at e0
           simp [Act.eval] at e1
           exact ⟨_, rfl, .inl ⟨wanted_none rfl, Does.val (by simp [execOp, Act.eval, e0, e1, go_sem]) rfl⟩⟩
          ·obtain ⟨k0, -⟩ := hp
           have e0 : a.eval (.tmp 114) = .bool true := k0
           simp [Act.eval] at e0
           exact ⟨_, rfl, .inl ⟨wanted_none rfl, Does.val (by simp [execOp, Act.eval, e0, go_sem]) rfl⟩⟩
          ·obtain ⟨k0, -⟩ := hp
           have e0 : a.eval (.tmp 115) = .bool true := k0
           have b5 := (hs 5 rfl).trans ev5
           have hgd := e0
           exact ⟨_, rfl, .inr ⟨(wanted_of rfl rfl hgd).trans rfl, rfl, rfl⟩⟩
          ·obtain ⟨k0, -⟩ := hp
           have e0 : a.eval (.tmp 115) = .bool true := k0
           have b7 := (hs 7 rfl).trans ev7
           have hgd := e0
           exact ⟨_, rfl, .inr ⟨(wanted_of rfl rfl hgd).trans rfl, rfl, rfl⟩⟩
          ·obtain ⟨k0, k1, k2, -⟩ := hp
           have e0 : a.eval (.tmp 116) = undef := k0
           have e1 : a.eval (.tmp 117) = undef := k1
           have e2 : a.eval (.tmp 115) = .bool true := k2
           have hgd := e2
           exact ⟨_, rfl, .inr ⟨(wanted_of rfl rfl hgd).trans rfl, rfl, rfl⟩⟩
          ·obtain ⟨k0, k1, -⟩ := hp
           have e0 : a.eval (.tmp 118) = undef := k0
           have e1 : a.eval (.tmp 115) = .bool true := k1
           have hgd := e1
           exact ⟨_, rfl, .inr ⟨(wanted_of rfl rfl hgd).trans rfl, rfl, rfl⟩⟩
          ·obtain ⟨k0, k1, -⟩ := hp
           have e0 : a.eval (.tmp 115) = .bool true := k0
           have e1 : a.eval (.tmp 119) = undef := k1
           simp [Act.eval] at e0
           simp [Act.eval] at e1
           exact ⟨_, rfl, .inl ⟨wanted_none rfl, Does.val (by simp [execOp, Act.eval, e0, e1, go_sem]) rfl⟩⟩
          ·obtain ⟨k0, -⟩ := hp
           have e0 : a.eval (.tmp 120) = .bool true := k0
           simp [Act.eval] at e0
           exact ⟨_, rfl, .inl ⟨wanted_none rfl, Does.val (by simp [execOp, Act.eval, e0, go_sem]) rfl⟩⟩
          ·obtain ⟨k0, -⟩ := hp
           have e0 : a.eval (.tmp 121) = .bool true := k0
           have b9 := (hs 9 rfl).trans ev9
           have hgd := e0
           simp [Act.eval] at b9
           exact ⟨_, rfl, .inl ⟨(wanted_of rfl rfl hgd).trans rfl, Does.val (by simp [execOp, Act.eval, b9, go_sem]) rfl⟩⟩
          ·obtain ⟨k0, k1, -⟩ := hp
           have e0 : a.eval (.tmp 122) = .int .i64 (cmpV aa b2) := k0
           have e1 : a.eval (.tmp 121) = .bool true := k1
           have hgd := e1
           simp [Act.eval] at e0
           exact ⟨_, rfl, .inl ⟨(wanted_of rfl rfl hgd).trans rfl, Does.val (by simp [execOp, Act.eval, e0, go_sem, H2.out]) rfl⟩⟩
          ·obtain ⟨k0, k1, -⟩ := hp
           have e0 : a.eval (.tmp 123) = .bool false := k0
           have e1 : a.eval (.tmp 121) = .bool true := k1
           have hgd := e1
           simp [Act.eval] at e0
           exact ⟨_, rfl, .inl ⟨(wanted_of rfl rfl hgd).trans rfl, Does.val (by simp [execOp, Act.eval, e0, go_sem]) rfl⟩⟩
          ·obtain ⟨k0, -⟩ := hp
           have e0 : a.eval (.tmp 124) = .bool false := k0
           have b10 := (hs 10 rfl).trans ev10
           have hgd := e0
           simp [Act.eval] at b10
           exact ⟨_, rfl, .inl ⟨(wanted_of rfl rfl hgd).trans rfl, Does.val (by simp [execOp, Act.eval, b10, go_sem]) rfl⟩⟩
          ·obtain ⟨k0, k1, -⟩ := hp
           have e0 : a.eval (.tmp 125) = .int .i64 (cmpV b2 c2) := k0
           have e1 : a.eval (.tmp 124) = .bool false := k1
           have hgd := e1
           simp [Act.eval] at e0
           exact ⟨_, rfl, .inl ⟨(wanted_of rfl rfl hgd).trans rfl, Does.val (by simp [execOp, Act.eval, e0, go_sem, H3.out]) rfl⟩⟩
          ·obtain ⟨k0, k1, k2, -⟩ := hp
           have e0 : a.eval (.tmp 124) = .bool false := k0
           have e1 : a.eval (.tmp 126) = .bool true := k1
           have e2 : a.eval (.tmp 121) = .bool true := k2
           have hgd := e2
           simp [Act.eval] at e0
           simp [Act.eval] at e1
           exact ⟨_, rfl, .inl ⟨(wanted_of rfl rfl hgd).trans rfl, Does.val (by simp [execOp, Act.eval, e0, e1, go_sem]) rfl⟩⟩
          ·obtain ⟨k0, k1, -⟩ := hp
           have e0 : a.eval (.tmp 127) = .bool true := k0
           have e1 : a.eval (.tmp 121) = .bool true := k1
           have hgd := e1
           simp [Act.eval] at e0
           exact ⟨_, rfl, .inl ⟨(wanted_of rfl rfl hgd).trans rfl, Does.val (by simp [execOp, Act.eval, e0, go_sem]) rfl⟩⟩
          ·obtain ⟨k0, -⟩ := hp
           have e0 : a.eval (.tmp 128) = .bool true := k0
           have b5 := (hs 5 rfl).trans ev5
           have hgd := e0
           exact ⟨_, rfl, .inr ⟨(wanted_of rfl rfl hgd).trans rfl, rfl, rfl⟩⟩
          ·obtain ⟨k0, -⟩ := hp
           have e0 : a.eval (.tmp 128) = .bool true := k0
           have b7 := (hs 7 rfl).trans ev7
           have hgd := e0
           exact ⟨_, rfl, .inr ⟨(wanted_of rfl rfl hgd).trans rfl, rfl, rfl⟩⟩
          ·obtain ⟨k0, k1, k2, -⟩ := hp
           have e0 : a.eval (.tmp 129) = undef := k0
           have e1 : a.eval (.tmp 130) = undef := k1
           have e2 : a.eval (.tmp 128) = .bool true := k2
           have hgd := e2
           exact ⟨_, rfl, .inr ⟨(wanted_of rfl rfl hgd).trans rfl, rfl, rfl⟩⟩
          ·obtain ⟨k0, k1, -⟩ := hp
           have e0 : a.eval (.tmp 131) = undef := k0
           have e1 : a.eval (.tmp 128) = .bool true := k1
           have hgd := e1
           exact ⟨_, rfl, .inr ⟨(wanted_of rfl rfl hgd).trans rfl, rfl, rfl⟩⟩
          ·obtain ⟨k0, k1, k2, -⟩ := hp
           have e0 : a.eval (.tmp 128) = .bool true := k0
           have e1 : a.eval (.tmp 132) = undef := k1
           have e2 : a.eval (.tmp 121) = .bool true := k2
           have hgd := e2
           simp [Act.eval] at e0
           simp [Act.eval] at e1
           exact ⟨_, rfl, .inl ⟨(wanted_of rfl rfl hgd).trans rfl, Does.val (by simp [execOp, Act.eval, e0, e1, go_sem]) rfl⟩⟩
          ·obtain ⟨k0, k1, -⟩ := hp
           have e0 : a.eval (.tmp 121) = .bool true := k0
           have e1 : a.eval (.tmp 133) = .bool true := k1
           simp [Act.eval] at e0
           simp [Act.eval] at e1
           exact ⟨_, rfl, .inl ⟨wanted_none rfl, Does.val (by simp [execOp, Act.eval, e0, e1, go_sem]) rfl⟩⟩
          ·obtain ⟨k0, -⟩ := hp
           have e0 : a.eval (.tmp 134) = .bool true := k0
           simp [Act.eval] at e0
           exact ⟨_, rfl, .inl ⟨wanted_none rfl, Does.val (by simp [execOp, Act.eval, e0, go_sem]) rfl⟩⟩
          ·obtain ⟨k0, -⟩ := hp
           have e0 : a.eval (.tmp 135) = .bool true := k0
           have hgd := e0
           exact ⟨_, rfl, .inl ⟨(wanted_of rfl rfl hgd).trans rfl, Does.rc (f := 18) (call0 rfl (fun _ => by simp [go_sem])) (lives_any wx)⟩⟩
          ·obtain ⟨k0, k1, -⟩ := hp
           have e0 : a.eval (.tmp 135) = .bool true := k0
           have e1 : a.eval (.tmp 136) = .bool true := k1
           simp [Act.eval] at e0
           simp [Act.eval] at e1
           exact ⟨_, rfl, .inl ⟨wanted_none rfl, Does.val (by simp [execOp, Act.eval, e0, e1, go_sem]) rfl⟩⟩
          ·obtain ⟨k0, -⟩ := hp
           have e0 : a.eval (.tmp 137) = .bool true := k0
           simp [Act.eval] at e0
           exact ⟨_, rfl, .inl ⟨wanted_none rfl, Does.val (by simp [execOp, Act.eval, e0, go_sem]) rfl⟩⟩
         ·intro val wx hB hsp hdis
          have e29 : val 29 = .bool true := hsp 29 (by omega)
          rw [← HF.out]
          change wpList _ _ _ [] _ _
          simp only [puts, vals, List.map_cons, List.map_nil, List.foldl_cons, List.foldl_nil, if_true, Nat.zero_add, Nat.reduceAdd, e29, List.setIfInBounds_toArray, List.set_cons_succ, List.set_cons_zero]
          clear hsp hdis HF e29
          clear ev5 ev7 ev9 ev10
          obtain ⟨w3055, rfl⟩ : ∃ W : World, W = wx := ⟨_, rfl⟩
          have HS3056 := Lib.hid hB
          have kD := Lib.hid (Blw kd.out hB)
          clear hB
          go_wp2
          go_ret
          exact ⟨rfl, kD.out⟩
        ·skip
         skip
         have HGE := Lib.hid (cmpV_rev (a := aa) (b := b2) (c := c2) (by omega) (by omega))
         have H1 : Hid (0 < cmpV aa b2) := Lib.hid (by omega)
         have H2 : Hid (¬ cmpV aa b2 < 0) := Lib.hid (by omega)
         have H3 : Hid (¬ cmpV b2 c2 < 0) := Lib.hid (by omega)
         clear hx
         go_upto_region 18 with fail
         have k5 := (k3.below HS3052.out)
         have k7 := (kb.below HS3052.out)
         have k8 := Lib.hid (k4.out.kp (.of HS3052.out))
         have k9 := Lib.hid (kc.out.kp (.of HS3052.out))
         generalize hF : ({ tmps := _, defers := _ } : Act) = F
         have ev5 : F.eval (.tmp 5) = .pointer (some ⟨w1.heap.size, 0, none⟩) := by rw [← hF]; rfl
         have ev7 : F.eval (.tmp 7) = .pointer (some ⟨w54.heap.size, 0, none⟩) := by rw [← hF]; rfl
         have ev9 : F.eval (.tmp 9) = .int .i64 (cmpV aa b2) := by rw [← hF]; rfl
         have ev10 : F.eval (.tmp 10) = .int .i64 (cmpV b2 c2) := by rw [← hF]; rfl
         have HF := Lib.hid hF; clear hF
         refine wp_flow_tabG false rfl 30 [(109, []), (110, [0]), (111, [1]), (112, [2]), (113, [3, 2]), (114, [2, 4]), (115, [5]), (116, [6]), (117, [6]), (118, [7, 8, 6]), (119, [9, 6]), (120, [6, 10]), (121, [11]), (122, [12]), (123, [13, 12]), (124, [14, 12]), (125, [15]), (126, [16, 15]), (127, [15, 17, 12]), (128, [18, 12]), (129, [19]), (130, [19]), (131, [20, 21, 19]), (132, [22, 19]), (133, [19, 23, 12]), (134, [12, 24]), (135, [25]), (136, [26]), (137, [26, 27]), (4, [28])] [SC (.int .i64 (cmpV aa b2)), SC (.bool true), SC (.bool true), SC undef, SC undef, SC (.bool true), SC (.bool true), SC undef, SC undef, SC undef, SC undef, SC (.bool true), SC (.bool true), SC (.int .i64 (cmpV aa b2)), SC (.bool false), SC (.bool false), SC (.int .i64 (cmpV b2 c2)), SC (.bool false), SC (.bool false), SC (.bool false), SC (.agg #[aac0, aac1, aac2, aac3, aac4, aac5, aac6, aac7]), SC (.agg #[cd0, cd1, cd2, cd3, cd4, cd5, cd6, cd7]), SC (.int .i64 (cmpV aa c2)), SC (.bool true), SC (.bool true), SC (.bool true), SC (.bool true), SC (.bool true), SC (.bool true), SC (.bool true)] [false, false, false, false, false, false, false, false, false, false, false, false, false, false, false, false, false, false, false, false, false, false, false, false, false, false, false, false, false, false] (by kernel_rfl) (by kernel_rfl) (by kernel_rfl) (by kernel_rfl) (by kernel_rfl) (by rw [← HF.out]; simp) ⟨SC.mono _, SC.mono _, SC.mono _, SC.mono _, SC.mono _, SC.mono _, SC.mono _, SC.mono _, SC.mono _, SC.mono _, SC.mono _, SC.mono _, SC.mono _, SC.mono _, SC.mono _, SC.mono _, SC.mono _, SC.mono _, SC.mono _, SC.mono _, SC.mono _, SC.mono _, SC.mono _, SC.mono _, SC.mono _, SC.mono _, SC.mono _, SC.mono _, SC.mono _, SC.mono _, trivial⟩ ?_ ?_
         ·intro kq hkq a wx hB hp hs
          have hcase : kq = 0 ∨ kq = 1 ∨ kq = 2 ∨ kq = 3 ∨ kq = 4 ∨ kq = 5 ∨ kq = 6 ∨ kq = 7 ∨ kq = 8 ∨ kq = 9 ∨ kq = 10 ∨ kq = 11 ∨ kq = 12 ∨ kq = 13 ∨ kq = 14 ∨ kq = 15 ∨ kq = 16 ∨ kq = 17 ∨ kq = 18 ∨ kq = 19 ∨ kq = 20 ∨ kq = 21 ∨ kq = 22 ∨ kq = 23 ∨ kq = 24 ∨ kq = 25 ∨ kq = 26 ∨ kq = 27 ∨ kq = 28 ∨ kq = 29 := by omega
          rcases hcase with rfl | rfl | rfl | rfl | rfl | rfl | rfl | rfl | rfl | rfl | rfl | rfl | rfl | rfl | rfl | rfl | rfl | rfl | rfl | rfl | rfl | rfl | rfl | rfl | rfl | rfl | rfl | rfl | rfl | rfl
          ·clear hp
           have b9 := (hs 9 rfl).trans ev9
           simp [Act.eval] at b9
           exact ⟨_, rfl, .inl ⟨wanted_none rfl, Does.val (by simp [execOp, Act.eval, b9, go_sem]) rfl⟩⟩
          ·obtain ⟨k0, -⟩ := hp
           have e0 : a.eval (.tmp 109) = .int .i64 (cmpV aa b2) := k0
           simp [Act.eval] at e0
           exact ⟨_, rfl, .inl ⟨wanted_none rfl, Does.val (by simp [execOp, Act.eval, e0, go_sem, H1.out]) rfl⟩⟩
          ·obtain ⟨k0, -⟩ := hp
           have e0 : a.eval (.tmp 110) = .bool true := k0
           simp [Act.eval] at e0
           exact ⟨_, rfl, .inl ⟨wanted_none rfl, Does.val (by simp [execOp, Act.eval, e0, go_sem]) rfl⟩⟩
          ·obtain ⟨k0, -⟩ := hp
           have e0 : a.eval (.tmp 111) = .bool true := k0
           have b10 := (hs 10 rfl).trans ev10
           have hgd := e0
           exact ⟨_, rfl, .inr ⟨(wanted_of rfl rfl hgd).trans rfl, rfl, rfl⟩⟩
          ·obtain ⟨k0, k1, -⟩ := hp
           have e0 : a.eval (.tmp 112) = undef := k0
           have e1 : a.eval (.tmp 111) = .bool true := k1
           have hgd := e1
           exact ⟨_, rfl, .inr ⟨(wanted_of rfl rfl hgd).trans rfl, rfl, rfl⟩⟩
          ·obtain ⟨k0, k1, -⟩ := hp
           have e0 : a.eval (.tmp 111) = .bool true := k0
           have e1 : a.eval (.tmp 113) = undef := k1
           simp [Act.eval] at e0
           simp [Act.eval] at e1
           exact ⟨_, rfl, .inl ⟨wanted_none rfl, Does.val (by simp [execOp, Act.eval, e0, e1, go_sem]) rfl⟩⟩
          ·obtain ⟨k0, -⟩ := hp
           have e0 : a.eval (.tmp 114) = .bool true := k0
           simp [Act.eval] at e0
           exact ⟨_, rfl, .inl ⟨wanted_none rfl, Does.val (by simp [execOp, Act.eval, e0, go_sem]) rfl⟩⟩
          ·obtain ⟨k0, -⟩ := hp
           have e0 : a.eval (.tmp 115) = .bool true := k0
           have b5 := (hs 5 rfl).trans ev5
           have hgd := e0
           exact ⟨_, rfl, .inr ⟨(wanted_of rfl rfl hgd).trans rfl, rfl, rfl⟩⟩
          ·obtain ⟨k0, -⟩ := hp
           have e0 : a.eval (.tmp 115) = .bool true := k0
           have b7 := (hs 7 rfl).trans ev7
           have hgd := e0
           exact ⟨_, rfl, .inr ⟨(wanted_of rfl rfl hgd).trans rfl, rfl, rfl⟩⟩
          ·obtain ⟨k0, k1, k2, -⟩ := hp
           have e0 : a.eval (.tmp 116) = undef := k0
           have e1 : a.eval (.tmp 117) = undef := k1
           have e2 : a.eval (.tmp 115) = .bool true := k2
           have hgd := e2
           exact ⟨_, rfl, .inr ⟨(wanted_of rfl rfl hgd).trans rfl, rfl, rfl⟩⟩
          ·obtain ⟨k0, k1, -⟩ := hp
           have e0 : a.eval (.tmp 118) = undef := k0
           have e1 : a.eval (.tmp 115) = .bool true := k1
           have hgd := e1
           exact ⟨_, rfl, .inr ⟨(wanted_of rfl rfl hgd).trans rfl, rfl, rfl⟩⟩
          ·obtain ⟨k0, k1, -⟩ := hp
           have e0 : a.eval (.tmp 115) = .bool true := k0
           have e1 : a.eval (.tmp 119) = undef := k1
           simp [Act.eval] at e0
           simp [Act.eval] at e1
           exact ⟨_, rfl, .inl ⟨wanted_none rfl, Does.val (by simp [execOp, Act.eval, e0, e1, go_sem]) rfl⟩⟩
          ·obtain ⟨k0, -⟩ := hp
           have e0 : a.eval (.tmp 120) = .bool true := k0
           simp [Act.eval] at e0
           exact ⟨_, rfl, .inl ⟨wanted_none rfl, Does.val (by simp [execOp, Act.eval, e0, go_sem]) rfl⟩⟩
          ·obtain ⟨k0, -⟩ := hp
           have e0 : a.eval (.tmp 121) = .bool true := k0
           have b9 := (hs 9 rfl).trans ev9
           have hgd := e0
           simp [Act.eval] at b9
           exact ⟨_, rfl, .inl ⟨(wanted_of rfl rfl hgd).trans rfl, Does.val (by simp [execOp, Act.eval, b9, go_sem]) rfl⟩⟩
          ·obtain ⟨k0, k1, -⟩ := hp
           have e0 : a.eval (.tmp 122) = .int .i64 (cmpV aa b2) := k0
           have e1 : a.eval (.tmp 121) = .bool true := k1
           have hgd := e1
           simp [Act.eval] at e0
           exact ⟨_, rfl, .inl ⟨(wanted_of rfl rfl hgd).trans rfl, Does.val (by simp [execOp, Act.eval, e0, go_sem, H2.out]) rfl⟩⟩
          ·obtain ⟨k0, k1, -⟩ := hp
           have e0 : a.eval (.tmp 123) = .bool false := k0
           have e1 : a.eval (.tmp 121) = .bool true := k1
           have hgd := e1
           simp [Act.eval] at e0
           exact ⟨_, rfl, .inl ⟨(wanted_of rfl rfl hgd).trans rfl, Does.val (by simp [execOp, Act.eval, e0, go_sem]) rfl⟩⟩
          ·obtain ⟨k0, -⟩ := hp
           have e0 : a.eval (.tmp 124) = .bool false := k0
           have b10 := (hs 10 rfl).trans ev10
           have hgd := e0
           simp [Act.eval] at b10
           exact ⟨_, rfl, .inl ⟨(wanted_of rfl rfl hgd).trans rfl, Does.val (by simp [execOp, Act.eval, b10, go_sem]) rfl⟩⟩
          ·obtain ⟨k0, k1, -⟩ := hp
           have e0 : a.eval (.tmp 125) = .int .i64 (cmpV b2 c2) := k0
           have e1 : a.eval (.tmp 124) = .bool false := k1
           have hgd := e1
           simp [Act.eval] at e0
           exact ⟨_, rfl, .inl ⟨(wanted_of rfl rfl hgd).trans rfl, Does.val (by simp [execOp, Act.eval, e0, go_sem, H3.out]) rfl⟩⟩
          ·obtain ⟨k0, k1, k2, -⟩ := hp
           have e0 : a.eval (.tmp 124) = .bool false := k0
           have e1 : a.eval (.tmp 126) = .bool false := k1
           have e2 : a.eval (.tmp 121) = .bool true := k2
           have hgd := e2
           simp [Act.eval] at e0
           simp [Act.eval] at e1
           exact ⟨_, rfl, .inl ⟨(wanted_of rfl rfl hgd).trans rfl, Does.val (by simp [execOp, Act.eval, e0, e1, go_sem]) rfl⟩⟩
          ·obtain ⟨k0, k1, -⟩ := hp
           have e0 : a.eval (.tmp 127) = .bool false := k0
           have e1 : a.eval (.tmp 121) = .bool true := k1
           have hgd := e1
           simp [Act.eval] at e0
           exact ⟨_, rfl, .inl ⟨(wanted_of rfl rfl hgd).trans rfl, Does.val (by simp [execOp, Act.eval, e0, go_sem]) rfl⟩⟩
          ·obtain ⟨k0, -⟩ := hp
           have e0 : a.eval (.tmp 128) = .bool false := k0
           have hgd := e0
           exact ⟨_, rfl, .inl ⟨(wanted_of rfl rfl hgd).trans rfl, ld_Vec rfl ((hs 5 rfl).trans ev5) (k5.below hB) rfl rfl rfl rfl rfl rfl rfl rfl⟩⟩
          ·obtain ⟨k0, -⟩ := hp
           have e0 : a.eval (.tmp 128) = .bool false := k0
           have hgd := e0
           exact ⟨_, rfl, .inl ⟨(wanted_of rfl rfl hgd).trans rfl, ld_Vec rfl ((hs 7 rfl).trans ev7) (k7.below hB) rfl rfl rfl rfl rfl rfl rfl rfl⟩⟩
          ·obtain ⟨k0, k1, k2, -⟩ := hp
           have e0 : a.eval (.tmp 129) = .agg #[aac0, aac1, aac2, aac3, aac4, aac5, aac6, aac7] := k0
           have e1 : a.eval (.tmp 130) = .agg #[cd0, cd1, cd2, cd3, cd4, cd5, cd6, cd7] := k1
           have e2 : a.eval (.tmp 128) = .bool false := k2
           have hgd := e2
           exact ⟨_, rfl, .inl ⟨(wanted_of rfl rfl hgd).trans rfl, Does.rc (f := 25) (call2 rfl (fun _ => by simp [go_sem]) e0 e1) (vcp_any 30 30 aac0 aac1 aac2 aac3 aac4 aac5 aac6 aac7 cd0 cd1 cd2 cd3 cd4 cd5 cd6 cd7 aa c2 wx (k8.out.kp (.of hB)) (k9.out.kp (.of hB)) HBa.out HBc2.out (by omega))⟩⟩
          ·obtain ⟨k0, k1, -⟩ := hp
           have e0 : a.eval (.tmp 131) = .int .i64 (cmpV aa c2) := k0
           have e1 : a.eval (.tmp 128) = .bool false := k1
           have hgd := e1
           simp [Act.eval] at e0
           exact ⟨_, rfl, .inl ⟨(wanted_of rfl rfl hgd).trans rfl, Does.val (by simp [execOp, Act.eval, e0, go_sem, HGE.out]) rfl⟩⟩
          ·obtain ⟨k0, k1, k2, -⟩ := hp
           have e0 : a.eval (.tmp 128) = .bool false := k0
           have e1 : a.eval (.tmp 132) = .bool true := k1
           have e2 : a.eval (.tmp 121) = .bool true := k2
           have hgd := e2
           simp [Act.eval] at e0
           simp [Act.eval] at e1
           exact ⟨_, rfl, .inl ⟨(wanted_of rfl rfl hgd).trans rfl, Does.val (by simp [execOp, Act.eval, e0, e1, go_sem]) rfl⟩⟩
          ·obtain ⟨k0, k1, -⟩ := hp
           have e0 : a.eval (.tmp 121) = .bool true := k0
           have e1 : a.eval (.tmp 133) = .bool true := k1
           simp [Act.eval] at e0
           simp [Act.eval] at e1
           exact ⟨_, rfl, .inl ⟨wanted_none rfl, Does.val (by simp [execOp, Act.eval, e0, e1, go_sem]) rfl⟩⟩
          ·obtain ⟨k0, -⟩ := hp
           have e0 : a.eval (.tmp 134) = .bool true := k0
           simp [Act.eval] at e0
           exact ⟨_, rfl, .inl ⟨wanted_none rfl, Does.val (by simp [execOp, Act.eval, e0, go_sem]) rfl⟩⟩
          ·obtain ⟨k0, -⟩ := hp
           have e0 : a.eval (.tmp 135) = .bool true := k0
           have hgd := e0
           exact ⟨_, rfl, .inl ⟨(wanted_of rfl rfl hgd).trans rfl, Does.rc (f := 18) (call0 rfl (fun _ => by simp [go_sem])) (lives_any wx)⟩⟩
          ·obtain ⟨k0, k1, -⟩ := hp
           have e0 : a.eval (.tmp 135) = .bool true := k0
           have e1 : a.eval (.tmp 136) = .bool true := k1
           simp [Act.eval] at e0
           simp [Act.eval] at e1
           exact ⟨_, rfl, .inl ⟨wanted_none rfl, Does.val (by simp [execOp, Act.eval, e0, e1, go_sem]) rfl⟩⟩
          ·obtain ⟨k0, -⟩ := hp
           have e0 : a.eval (.tmp 137) = .bool true := k0
           simp [Act.eval] at e0
           exact ⟨_, rfl, .inl ⟨wanted_none rfl, Does.val (by simp [execOp, Act.eval, e0, go_sem]) rfl⟩⟩
         ·intro val wx hB hsp hdis
          have e29 : val 29 = .bool true := hsp 29 (by omega)
          rw [← HF.out]
          change wpList _ _ _ [] _ _
          simp only [puts, vals, List.map_cons, List.map_nil, List.foldl_cons, List.foldl_nil, if_true, Nat.zero_add, Nat.reduceAdd, e29, List.setIfInBounds_toArray, List.set_cons_succ, List.set_cons_zero]
          clear hsp hdis HF e29
          clear ev5 ev7 ev9 ev10
          obtain ⟨w3061, rfl⟩ : ∃ W : World, W = wx := ⟨_, rfl⟩
          have HS3062 := Lib.hid hB
          have ka := Lib.hid (Blw kd.out hB)
          clear hB
          go_wp2
          go_ret
          exact ⟨rfl, ka.out⟩
       ·by_cases hx2 : cmpV aa b2 < 0
        ·by_cases hy : 0 < cmpV b2 c2
         ·skip
          skip
          have H1 : Hid (¬ 0 < cmpV aa b2) := Lib.hid (by omega)
          have H2 : Hid (cmpV aa b2 < 0) := Lib.hid (by omega)
          have H3 : Hid (0 < cmpV b2 c2) := Lib.hid (by omega)
          clear hx
          go_upto_region 18 with fail
          generalize hF : ({ tmps := _, defers := _ } : Act) = F
          have ev5 : F.eval (.tmp 5) = .pointer (some ⟨w1.heap.size, 0, none⟩) := by rw [← hF]; rfl
          have ev7 : F.eval (.tmp 7) = .pointer (some ⟨w54.heap.size, 0, none⟩) := by rw [← hF]; rfl
          have ev9 : F.eval (.tmp 9) = .int .i64 (cmpV aa b2) := by rw [← hF]; rfl
          have ev10 : F.eval (.tmp 10) = .int .i64 (cmpV b2 c2) := by rw [← hF]; rfl
          have HF := Lib.hid hF; clear hF
          refine wp_flow_tabG false rfl 30 [(109, []), (110, [0]), (111, [1]), (112, [2]), (113, [3, 2]), (114, [2, 4]), (115, [5]), (116, [6]), (117, [6]), (118, [7, 8, 6]), (119, [9, 6]), (120, [6, 10]), (121, [11]), (122, [12]), (123, [13, 12]), (124, [14, 12]), (125, [15]), (126, [16, 15]), (127, [15, 17, 12]), (128, [18, 12]), (129, [19]), (130, [19]), (131, [20, 21, 19]), (132, [22, 19]), (133, [19, 23, 12]), (134, [12, 24]), (135, [25]), (136, [26]), (137, [26, 27]), (4, [28])] [SC (.int .i64 (cmpV aa b2)), SC (.bool false), SC (.bool false), SC (.int .i64 (cmpV b2 c2)), SC (.bool true), SC (.bool true), SC (.bool true), SC undef, SC undef, SC undef, SC undef, SC (.bool true), SC (.bool true), SC (.int .i64 (cmpV aa b2)), SC (.bool true), SC (.bool true), SC undef, SC undef, SC (.bool true), SC (.bool true), SC undef, SC undef, SC undef, SC undef, SC (.bool true), SC (.bool true), SC (.bool true), SC (.bool true), SC (.bool true), SC (.bool true)] [false, false, false, false, false, false, false, false, false, false, false, false, false, false, false, false, false, false, false, false, false, false, false, false, false, false, false, false, false, false] (by kernel_rfl) (by kernel_rfl) (by kernel_rfl) (by kernel_rfl) (by kernel_rfl) (by rw [← HF.out]; simp) ⟨SC.mono _, SC.mono _, SC.mono _, SC.mono _, SC.mono _, SC.mono _, SC.mono _, SC.mono _, SC.mono _, SC.mono _, SC.mono _, SC.mono _, SC.mono _, SC.mono _, SC.mono _, SC.mono _, SC.mono _, SC.mono _, SC.mono _, SC.mono _, SC.mono _, SC.mono _, SC.mono _, SC.mono _, SC.mono _, SC.mono _, SC.mono _, SC.mono _, SC.mono _, SC.mono _, trivial⟩ ?_ ?_
          ·intro kq hkq a wx hB hp hs
           have hcase : kq = 0 ∨ kq = 1 ∨ kq = 2 ∨ kq = 3 ∨ kq = 4 ∨ kq = 5 ∨ kq = 6 ∨ kq = 7 ∨ kq = 8 ∨ kq = 9 ∨ kq = 10 ∨ kq = 11 ∨ kq = 12 ∨ kq = 13 ∨ kq = 14 ∨ kq = 15 ∨ kq = 16 ∨ kq = 17 ∨ kq = 18 ∨ kq = 19 ∨ kq = 20 ∨ kq = 21 ∨ kq = 22 ∨ kq = 23 ∨ kq = 24 ∨ kq = 25 ∨ kq = 26 ∨ kq = 27 ∨ kq = 28 ∨ kq = 29 := by omega
           rcases hcase with rfl | rfl | rfl | rfl | rfl | rfl | rfl | rfl | rfl | rfl | rfl | rfl | rfl | rfl | rfl | rfl | rfl | rfl | rfl | rfl | rfl | rfl | rfl | rfl | rfl | rfl | rfl | rfl | rfl | rfl
           ·clear hp
            have b9 := (hs 9 rfl).trans ev9
            simp [Act.eval] at b9
            exact ⟨_, rfl, .inl ⟨wanted_none rfl, Does.val (by simp [execOp, Act.eval, b9, go_sem]) rfl⟩⟩
           ·obtain ⟨k0, -⟩ := hp
            have e0 : a.eval (.tmp 109) = .int .i64 (cmpV aa b2) := k0
            simp [Act.eval] at e0
            exact ⟨_, rfl, .inl ⟨wanted_none rfl, Does.val (by simp [execOp, Act.eval, e0, go_sem, H1.out]) rfl⟩⟩
           ·obtain ⟨k0, -⟩ := hp
            have e0 : a.eval (.tmp 110) = .bool false := k0
            simp [Act.eval] at e0
            exact ⟨_, rfl, .inl ⟨wanted_none rfl, Does.val (by simp [execOp, Act.eval, e0, go_sem]) rfl⟩⟩
           ·obtain ⟨k0, -⟩ := hp
            have e0 : a.eval (.tmp 111) = .bool false := k0
            have b10 := (hs 10 rfl).trans ev10
            have hgd := e0
            simp [Act.eval] at b10
            exact ⟨_, rfl, .inl ⟨(wanted_of rfl rfl hgd).trans rfl, Does.val (by simp [execOp, Act.eval, b10, go_sem]) rfl⟩⟩
           ·obtain ⟨k0, k1, -⟩ := hp
            have e0 : a.eval (.tmp 112) = .int .i64 (cmpV b2 c2) := k0
            have e1 : a.eval (.tmp 111) = .bool false := k1
            have hgd := e1
            simp [Act.eval] at e0
            exact ⟨_, rfl, .inl ⟨(wanted_of rfl rfl hgd).trans rfl, Does.val (by simp [execOp, Act.eval, e0, go_sem, H3.out]) rfl⟩⟩
           ·obtain ⟨k0, k1, -⟩ := hp
            have e0 : a.eval (.tmp 111) = .bool false := k0
            have e1 : a.eval (.tmp 113) = .bool true := k1
            simp [Act.eval] at e0
            simp [Act.eval] at e1
            exact ⟨_, rfl, .inl ⟨wanted_none rfl, Does.val (by simp [execOp, Act.eval, e0, e1, go_sem]) rfl⟩⟩
           ·obtain ⟨k0, -⟩ := hp
            have e0 : a.eval (.tmp 114) = .bool true := k0
            simp [Act.eval] at e0
            exact ⟨_, rfl, .inl ⟨wanted_none rfl, Does.val (by simp [execOp, Act.eval, e0, go_sem]) rfl⟩⟩
           ·obtain ⟨k0, -⟩ := hp
            have e0 : a.eval (.tmp 115) = .bool true := k0
            have b5 := (hs 5 rfl).trans ev5
            have hgd := e0
            exact ⟨_, rfl, .inr ⟨(wanted_of rfl rfl hgd).trans rfl, rfl, rfl⟩⟩
           ·obtain ⟨k0, -⟩ := hp
            have e0 : a.eval (.tmp 115) = .bool true := k0
            have b7 := (hs 7 rfl).trans ev7
            have hgd := e0
            exact ⟨_, rfl, .inr ⟨(wanted_of rfl rfl hgd).trans rfl, rfl, rfl⟩⟩
           ·obtain ⟨k0, k1, k2, -⟩ := hp
            have e0 : a.eval (.tmp 116) = undef := k0
            have e1 : a.eval (.tmp 117) = undef := k1
            have e2 : a.eval (.tmp 115) = .bool true := k2
            have hgd := e2
            exact ⟨_, rfl, .inr ⟨(wanted_of rfl rfl hgd).trans rfl, rfl, rfl⟩⟩
           ·obtain ⟨k0, k1, -⟩ := hp
            have e0 : a.eval (.tmp 118) = undef := k0
            have e1 : a.eval (.tmp 115) = .bool true := k1
            have hgd := e1
            exact ⟨_, rfl, .inr ⟨(wanted_of rfl rfl hgd).trans rfl, rfl, rfl⟩⟩
           ·obtain ⟨k0, k1, -⟩ := hp
            have e0 : a.eval (.tmp 115) = .bool true := k0
            have e1 : a.eval (.tmp 119) = undef := k1
            simp [Act.eval] at e0
            simp [Act.eval] at e1
            exact ⟨_, rfl, .inl ⟨wanted_none rfl, Does.val (by simp [execOp, Act.eval, e0, e1, go_sem]) rfl⟩⟩
           ·obtain ⟨k0, -⟩ := hp
            have e0 : a.eval (.tmp 120) = .bool true := k0
            simp [Act.eval] at e0
            exact ⟨_, rfl, .inl ⟨wanted_none rfl, Does.val (by simp [execOp, Act.eval, e0, go_sem]) rfl⟩⟩
           ·obtain ⟨k0, -⟩ := hp
            have e0 : a.eval (.tmp 121) = .bool true := k0
            have b9 := (hs 9 rfl).trans ev9
            have hgd := e0
            simp [Act.eval] at b9
            exact ⟨_, rfl, .inl ⟨(wanted_of rfl rfl hgd).trans rfl, Does.val (by simp [execOp, Act.eval, b9, go_sem]) rfl⟩⟩
           ·obtain ⟨k0, k1, -⟩ := hp
            have e0 : a.eval (.tmp 122) = .int .i64 (cmpV aa b2) := k0
            have e1 : a.eval (.tmp 121) = .bool true := k1
            have hgd := e1
            simp [Act.eval] at e0
            exact ⟨_, rfl, .inl ⟨(wanted_of rfl rfl hgd).trans rfl, Does.val (by simp [execOp, Act.eval, e0, go_sem, H2.out]) rfl⟩⟩
           ·obtain ⟨k0, k1, -⟩ := hp
            have e0 : a.eval (.tmp 123) = .bool true := k0
            have e1 : a.eval (.tmp 121) = .bool true := k1
            have hgd := e1
            simp [Act.eval] at e0
            exact ⟨_, rfl, .inl ⟨(wanted_of rfl rfl hgd).trans rfl, Does.val (by simp [execOp, Act.eval, e0, go_sem]) rfl⟩⟩
           ·obtain ⟨k0, -⟩ := hp
            have e0 : a.eval (.tmp 124) = .bool true := k0
            have b10 := (hs 10 rfl).trans ev10
            have hgd := e0
            exact ⟨_, rfl, .inr ⟨(wanted_of rfl rfl hgd).trans rfl, rfl, rfl⟩⟩
           ·obtain ⟨k0, k1, -⟩ := hp
            have e0 : a.eval (.tmp 125) = undef := k0
            have e1 : a.eval (.tmp 124) = .bool true := k1
            have hgd := e1
            exact ⟨_, rfl, .inr ⟨(wanted_of rfl rfl hgd).trans rfl, rfl, rfl⟩⟩
           ·obtain ⟨k0, k1, k2, -⟩ := hp
            have e0 : a.eval (.tmp 124) = .bool true := k0
            have e1 : a.eval (.tmp 126) = undef := k1
            have e2 : a.eval (.tmp 121) = .bool true := k2
            have hgd := e2
            simp [Act.eval] at e0
            simp [Act.eval] at e1
            exact ⟨_, rfl, .inl ⟨(wanted_of rfl rfl hgd).trans rfl, Does.val (by simp [execOp, Act.eval, e0, e1, go_sem]) rfl⟩⟩
           ·obtain ⟨k0, k1, -⟩ := hp
            have e0 : a.eval (.tmp 127) = .bool true := k0
            have e1 : a.eval (.tmp 121) = .bool true := k1
            have hgd := e1
            simp [Act.eval] at e0
            exact ⟨_, rfl, .inl ⟨(wanted_of rfl rfl hgd).trans rfl, Does.val (by simp [execOp, Act.eval, e0, go_sem]) rfl⟩⟩
           ·obtain ⟨k0, -⟩ := hp
            have e0 : a.eval (.tmp 128) = .bool true := k0
            have b5 := (hs 5 rfl).trans ev5
            have hgd := e0
            exact ⟨_, rfl, .inr ⟨(wanted_of rfl rfl hgd).trans rfl, rfl, rfl⟩⟩
           ·obtain ⟨k0, -⟩ := hp
            have e0 : a.eval (.tmp 128) = .bool true := k0
            have b7 := (hs 7 rfl).trans ev7
            have hgd := e0
            exact ⟨_, rfl, .inr ⟨(wanted_of rfl rfl hgd).trans rfl, rfl, rfl⟩⟩
           ·obtain ⟨k0, k1, k2, -⟩ := hp
            have e0 : a.eval (.tmp 129) = undef := k0
            have e1 : a.eval (.tmp 130) = undef := k1
            have e2 : a.eval (.tmp 128) = .bool true := k2
            have hgd := e2
            exact ⟨_, rfl, .inr ⟨(wanted_of rfl rfl hgd).trans rfl, rfl, rfl⟩⟩
           ·obtain ⟨k0, k1, -⟩ := hp
            have e0 : a.eval (.tmp 131) = undef := k0
            have e1 : a.eval (.tmp 128) = .bool true := k1
            have hgd := e1
            exact ⟨_, rfl, .inr ⟨(wanted_of rfl rfl hgd).trans rfl, rfl, rfl⟩⟩
           ·obtain ⟨k0, k1, k2, -⟩ := hp
            have e0 : a.eval (.tmp 128) = .bool true := k0
            have e1 : a.eval (.tmp 132) = undef := k1
            have e2 : a.eval (.tmp 121) = .bool true := k2
            have hgd := e2
            simp [Act.eval] at e0
            simp [Act.eval] at e1
            exact ⟨_, rfl, .inl ⟨(wanted_of rfl rfl hgd).trans rfl, Does.val (by simp [execOp, Act.eval, e0, e1, go_sem]) rfl⟩⟩
           ·obtain ⟨k0, k1, -⟩ := hp
            have e0 : a.eval (.tmp 121) = .bool true := k0
            have e1 : a.eval (.tmp 133) = .bool true := k1
            simp [Act.eval] at e0
            simp [Act.eval] at e1
            exact ⟨_, rfl, .inl ⟨wanted_none rfl, Does.val (by simp [execOp, Act.eval, e0, e1, go_sem]) rfl⟩⟩
           ·obtain ⟨k0, -⟩ := hp
            have e0 : a.eval (.tmp 134) = .bool true := k0
            simp [Act.eval] at e0
            exact ⟨_, rfl, .inl ⟨wanted_none rfl, Does.val (by simp [execOp, Act.eval, e0, go_sem]) rfl⟩⟩
           ·obtain ⟨k0, -⟩ := hp
            have e0 : a.eval (.tmp 135) = .bool true := k0
            have hgd := e0
            exact ⟨_, rfl, .inl ⟨(wanted_of rfl rfl hgd).trans rfl, Does.rc (f := 18) (call0 rfl (fun _ => by simp [go_sem])) (lives_any wx)⟩⟩
           ·obtain ⟨k0, k1, -⟩ := hp
            have e0 : a.eval (.tmp 135) = .bool true := k0
            have e1 : a.eval (.tmp 136) = .bool true := k1
            simp [Act.eval] at e0
            simp [Act.eval] at e1
            exact ⟨_, rfl, .inl ⟨wanted_none rfl, Does.val (by simp [execOp, Act.eval, e0, e1, go_sem]) rfl⟩⟩
           ·obtain ⟨k0, -⟩ := hp
            have e0 : a.eval (.tmp 137) = .bool true := k0
            simp [Act.eval] at e0
            exact ⟨_, rfl, .inl ⟨wanted_none rfl, Does.val (by simp [execOp, Act.eval, e0, go_sem]) rfl⟩⟩
          ·intro val wx hB hsp hdis
           have e29 : val 29 = .bool true := hsp 29 (by omega)
           rw [← HF.out]
           change wpList _ _ _ [] _ _
           simp only [puts, vals, List.map_cons, List.map_nil, List.foldl_cons, List.foldl_nil, if_true, Nat.zero_add, Nat.reduceAdd, e29, List.setIfInBounds_toArray, List.set_cons_succ, List.set_cons_zero]
           clear hsp hdis HF e29
           clear ev5 ev7 ev9 ev10
           obtain ⟨w3055, rfl⟩ : ∃ W : World, W = wx := ⟨_, rfl⟩
           have HS3056 := Lib.hid hB
           have kD := Lib.hid (Blw kd.out hB)
           clear hB
           go_wp2
           go_ret
           exact ⟨rfl, kD.out⟩
         ·skip
          skip
          have HLE := Lib.hid (cmpV_trans (a := aa) (b := b2) (c := c2) (by omega) (by omega))
          have H1 : Hid (¬ 0 < cmpV aa b2) := Lib.hid (by omega)
          have H2 : Hid (cmpV aa b2 < 0) := Lib.hid (by omega)
          have H3 : Hid (¬ 0 < cmpV b2 c2) := Lib.hid (by omega)
          clear hx
          go_upto_region 18 with fail
          have k5 := (k3.below HS3052.out)
          have k7 := (kb.below HS3052.out)
          have k8 := Lib.hid (k4.out.kp (.of HS3052.out))
          have k9 := Lib.hid (kc.out.kp (.of HS3052.out))
          generalize hF : ({ tmps := _, defers := _ } : Act) = F
          have ev5 : F.eval (.tmp 5) = .pointer (some ⟨w1.heap.size, 0, none⟩) := by rw [← hF]; rfl
          have ev7 : F.eval (.tmp 7) = .pointer (some ⟨w54.heap.size, 0, none⟩) := by rw [← hF]; rfl
          have ev9 : F.eval (.tmp 9) = .int .i64 (cmpV aa b2) := by rw [← hF]; rfl
          have ev10 : F.eval (.tmp 10) = .int .i64 (cmpV b2 c2) := by rw [← hF]; rfl
          have HF := Lib.hid hF; clear hF
          refine wp_flow_tabG false rfl 30 [(109, []), (110, [0]), (111, [1]), (112, [2]), (113, [3, 2]), (114, [2, 4]), (115, [5]), (116, [6]), (117, [6]), (118, [7, 8, 6]), (119, [9, 6]), (120, [6, 10]), (121, [11]), (122, [12]), (123, [13, 12]), (124, [14, 12]), (125, [15]), (126, [16, 15]), (127, [15, 17, 12]), (128, [18, 12]), (129, [19]), (130, [19]), (131, [20, 21, 19]), (132, [22, 19]), (133, [19, 23, 12]), (134, [12, 24]), (135, [25]), (136, [26]), (137, [26, 27]), (4, [28])] [SC (.int .i64 (cmpV aa b2)), SC (.bool false), SC (.bool false), SC (.int .i64 (cmpV b2 c2)), SC (.bool false), SC (.bool false), SC (.bool false), SC (.agg #[aac0, aac1, aac2, aac3, aac4, aac5, aac6, aac7]), SC (.agg #[cd0, cd1, cd2, cd3, cd4, cd5, cd6, cd7]), SC (.int .i64 (cmpV aa c2)), SC (.bool true), SC (.bool true), SC (.bool true), SC (.int .i64 (cmpV aa b2)), SC (.bool true), SC (.bool true), SC undef, SC undef, SC (.bool true), SC (.bool true), SC undef, SC undef, SC undef, SC undef, SC (.bool true), SC (.bool true), SC (.bool true), SC (.bool true), SC (.bool true), SC (.bool true)] [false, false, false, false, false, false, false, false, false, false, false, false, false, false, false, false, false, false, false, false, false, false, false, false, false, false, false, false, false, false] (by kernel_rfl) (by kernel_rfl) (by kernel_rfl) (by kernel_rfl) (by kernel_rfl) (by rw [← HF.out]; simp) ⟨SC.mono _, SC.mono _, SC.mono _, SC.mono _, SC.mono _, SC.mono _, SC.mono _, SC.mono _, SC.mono _, SC.mono _, SC.mono _, SC.mono _, SC.mono _, SC.mono _, SC.mono _, SC.mono _, SC.mono _, SC.mono _, SC.mono _, SC.mono _, SC.mono _, SC.mono _, SC.mono _, SC.mono _, SC.mono _, SC.mono _, SC.mono _, SC.mono _, SC.mono _, SC.mono _, trivial⟩ ?_ ?_
          ·intro kq hkq a wx hB hp hs
           have hcase : kq = 0 ∨ kq = 1 ∨ kq = 2 ∨ kq = 3 ∨ kq = 4 ∨ kq = 5 ∨ kq = 6 ∨ kq = 7 ∨ kq = 8 ∨ kq = 9 ∨ kq = 10 ∨ kq = 11 ∨ kq = 12 ∨ kq = 13 ∨ kq = 14 ∨ kq = 15 ∨ kq = 16 ∨ kq = 17 ∨ kq = 18 ∨ kq = 19 ∨ kq = 20 ∨ kq = 21 ∨ kq = 22 ∨ kq = 23 ∨ kq = 24 ∨ kq = 25 ∨ kq = 26 ∨ kq = 27 ∨ kq = 28 ∨ kq = 29 := by omega
           rcases hcase with rfl | rfl | rfl | rfl | rfl | rfl | rfl | rfl | rfl | rfl | rfl | rfl | rfl | rfl | rfl | rfl | rfl | rfl | rfl | rfl | rfl | rfl | rfl | rfl | rfl | rfl | rfl | rfl | rfl | rfl
           ·clear hp
            have b9 := (hs 9 rfl).trans ev9
            simp [Act.eval] at b9
            exact ⟨_, rfl, .inl ⟨wanted_none rfl, Does.val (by simp [execOp, Act.eval, b9, go_sem]) rfl⟩⟩
           ·obtain ⟨k0, -⟩ := hp
            have e0 : a.eval (.tmp 109) = .int .i64 (cmpV aa b2) := k0
            simp [Act.eval] at e0
            exact ⟨_, rfl, .inl ⟨wanted_none rfl, Does.val (by simp [execOp, Act.eval, e0, go_sem, H1.out]) rfl⟩⟩
           ·obtain ⟨k0, -⟩ := hp
            have e0 : a.eval (.tmp 110) = .bool false := k0
            simp [Act.eval] at e0
            exact ⟨_, rfl, .inl ⟨wanted_none rfl, Does.val (by simp [execOp, Act.eval, e0, go_sem]) rfl⟩⟩
           ·obtain ⟨k0, -⟩ := hp
            have e0 : a.eval (.tmp 111) = .bool false := k0
            have b10 := (hs 10 rfl).trans ev10
            have hgd := e0
            simp [Act.eval] at b10
            exact ⟨_, rfl, .inl ⟨(wanted_of rfl rfl hgd).trans rfl, Does.val (by simp [execOp, Act.eval, b10, go_sem]) rfl⟩⟩
           ·obtain ⟨k0, k1, -⟩ := hp
            have e0 : a.eval (.tmp 112) = .int .i64 (cmpV b2 c2) := k0
            have e1 : a.eval (.tmp 111) = .bool false := k1
            have hgd := e1
            simp [Act.eval] at e0
            exact ⟨_, rfl, .inl ⟨(wanted_of rfl rfl hgd).trans rfl, Does.val (by simp [execOp, Act.eval, e0, go_sem, H3.out]) rfl⟩⟩
           ·obtain ⟨k0, k1, -⟩ := hp
            have e0 : a.eval (.tmp 111) = .bool false := k0
            have e1 : a.eval (.tmp 113) = .bool false := k1
            simp [Act.eval] at e0
            simp [Act.eval] at e1
            exact ⟨_, rfl, .inl ⟨wanted_none rfl, Does.val (by simp [execOp, Act.eval, e0, e1, go_sem]) rfl⟩⟩
           ·obtain ⟨k0, -⟩ := hp
            have e0 : a.eval (.tmp 114) = .bool false := k0
            simp [Act.eval] at e0
            exact ⟨_, rfl, .inl ⟨wanted_none rfl, Does.val (by simp [execOp, Act.eval, e0, go_sem]) rfl⟩⟩
           ·obtain ⟨k0, -⟩ := hp
            have e0 : a.eval (.tmp 115) = .bool false := k0
            have hgd := e0
            exact ⟨_, rfl, .inl ⟨(wanted_of rfl rfl hgd).trans rfl, ld_Vec rfl ((hs 5 rfl).trans ev5) (k5.below hB) rfl rfl rfl rfl rfl rfl rfl rfl⟩⟩
           ·obtain ⟨k0, -⟩ := hp
            have e0 : a.eval (.tmp 115) = .bool false := k0
            have hgd := e0
            exact ⟨_, rfl, .inl ⟨(wanted_of rfl rfl hgd).trans rfl, ld_Vec rfl ((hs 7 rfl).trans ev7) (k7.below hB) rfl rfl rfl rfl rfl rfl rfl rfl⟩⟩
           ·obtain ⟨k0, k1, k2, -⟩ := hp
            have e0 : a.eval (.tmp 116) = .agg #[aac0, aac1, aac2, aac3, aac4, aac5, aac6, aac7] := k0
            have e1 : a.eval (.tmp 117) = .agg #[cd0, cd1, cd2, cd3, cd4, cd5, cd6, cd7] := k1
            have e2 : a.eval (.tmp 115) = .bool false := k2
            have hgd := e2
            exact ⟨_, rfl, .inl ⟨(wanted_of rfl rfl hgd).trans rfl, Does.rc (f := 25) (call2 rfl (fun _ => by simp [go_sem]) e0 e1) (vcp_any 30 30 aac0 aac1 aac2 aac3 aac4 aac5 aac6 aac7 cd0 cd1 cd2 cd3 cd4 cd5 cd6 cd7 aa c2 wx (k8.out.kp (.of hB)) (k9.out.kp (.of hB)) HBa.out HBc2.out (by omega))⟩⟩
           ·obtain ⟨k0, k1, -⟩ := hp
            have e0 : a.eval (.tmp 118) = .int .i64 (cmpV aa c2) := k0
            have e1 : a.eval (.tmp 115) = .bool false := k1
            have hgd := e1
            simp [Act.eval] at e0
            exact ⟨_, rfl, .inl ⟨(wanted_of rfl rfl hgd).trans rfl, Does.val (by simp [execOp, Act.eval, e0, go_sem, HLE.out]) rfl⟩⟩
           ·obtain ⟨k0, k1, -⟩ := hp
            have e0 : a.eval (.tmp 115) = .bool false := k0
            have e1 : a.eval (.tmp 119) = .bool true := k1
            simp [Act.eval] at e0
            simp [Act.eval] at e1
            exact ⟨_, rfl, .inl ⟨wanted_none rfl, Does.val (by simp [execOp, Act.eval, e0, e1, go_sem]) rfl⟩⟩
           ·obtain ⟨k0, -⟩ := hp
            have e0 : a.eval (.tmp 120) = .bool true := k0
            simp [Act.eval] at e0
            exact ⟨_, rfl, .inl ⟨wanted_none rfl, Does.val (by simp [execOp, Act.eval, e0, go_sem]) rfl⟩⟩
           ·obtain ⟨k0, -⟩ := hp
            have e0 : a.eval (.tmp 121) = .bool true := k0
            have b9 := (hs 9 rfl).trans ev9
            have hgd := e0
            simp [Act.eval] at b9
            exact ⟨_, rfl, .inl ⟨(wanted_of rfl rfl hgd).trans rfl, Does.val (by simp [execOp, Act.eval, b9, go_sem]) rfl⟩⟩
           ·obtain ⟨k0, k1, -⟩ := hp
            have e0 : a.eval (.tmp 122) = .int .i64 (cmpV aa b2) := k0
            have e1 : a.eval (.tmp 121) = .bool true := k1
            have hgd := e1
            simp [Act.eval] at e0
            exact ⟨_, rfl, .inl ⟨(wanted_of rfl rfl hgd).trans rfl, Does.val (by simp [execOp, Act.eval, e0, go_sem, H2.out]) rfl⟩⟩
           ·obtain ⟨k0, k1, -⟩ := hp
            have e0 : a.eval (.tmp 123) = .bool true := k0
            have e1 : a.eval (.tmp 121) = .bool true := k1
            have hgd := e1
            simp [Act.eval] at e0
            exact ⟨_, rfl, .inl ⟨(wanted_of rfl rfl hgd).trans rfl, Does.val (by simp [execOp, Act.eval, e0, go_sem]) rfl⟩⟩
           ·obtain ⟨k0, -⟩ := hp
            have e0 : a.eval (.tmp 124) = .bool true := k0
            have b10 := (hs 10 rfl).trans ev10
            have hgd := e0
            exact ⟨_, rfl, .inr ⟨(wanted_of rfl rfl hgd).trans rfl, rfl, rfl⟩⟩
           ·obtain ⟨k0, k1, -⟩ := hp
            have e0 : a.eval (.tmp 125) = undef := k0
            have e1 : a.eval (.tmp 124) = .bool true := k1
            have hgd := e1
            exact ⟨_, rfl, .inr ⟨(wanted_of rfl rfl hgd).trans rfl, rfl, rfl⟩⟩
           ·obtain ⟨k0, k1, k2, -⟩ := hp
            have e0 : a.eval (.tmp 124) = .bool true := k0
            have e1 : a.eval (.tmp 126) = undef := k1
            have e2 : a.eval (.tmp 121) = .bool true := k2
            have hgd := e2
            simp [Act.eval] at e0
            simp [Act.eval] at e1
            exact ⟨_, rfl, .inl ⟨(wanted_of rfl rfl hgd).trans rfl, Does.val (by simp [execOp, Act.eval, e0, e1, go_sem]) rfl⟩⟩
           ·obtain ⟨k0, k1, -⟩ := hp
            have e0 : a.eval (.tmp 127) = .bool true := k0
            have e1 : a.eval (.tmp 121) = .bool true := k1
            have hgd := e1
            simp [Act.eval] at e0
            exact ⟨_, rfl, .inl ⟨(wanted_of rfl rfl hgd).trans rfl, Does.val (by simp [execOp, Act.eval, e0, go_sem]) rfl⟩⟩
           ·obtain ⟨k0, -⟩ := hp
            have e0 : a.eval (.tmp 128) = .bool true := k0
            have b5 := (hs 5 rfl).trans ev5
            have hgd := e0
            exact ⟨_, rfl, .inr ⟨(wanted_of rfl rfl hgd).trans rfl, rfl, rfl⟩⟩
           ·obtain ⟨k0, -⟩ := hp
            have e0 : a.eval (.tmp 128) = .bool true := k0
            have b7 := (hs 7 rfl).trans ev7
            have hgd := e0
            exact ⟨_, rfl, .inr ⟨(wanted_of rfl rfl hgd).trans rfl, rfl, rfl⟩⟩
           ·obtain ⟨k0, k1, k2, -⟩ := hp
            have e0 : a.eval (.tmp 129) = undef := k0
            have e1 : a.eval (.tmp 130) = undef := k1
            have e2 : a.eval (.tmp 128) = .bool true := k2
            have hgd := e2
            exact ⟨_, rfl, .inr ⟨(wanted_of rfl rfl hgd).trans rfl, rfl, rfl⟩⟩
           ·obtain ⟨k0, k1, -⟩ := hp
            have e0 : a.eval (.tmp 131) = undef := k0
            have e1 : a.eval (.tmp 128) = .bool true := k1
            have hgd := e1
            exact ⟨_, rfl, .inr ⟨(wanted_of rfl rfl hgd).trans rfl, rfl, rfl⟩⟩
           ·obtain ⟨k0, k1, k2, -⟩ := hp
            have e0 : a.eval (.tmp 128) = .bool true := k0
            have e1 : a.eval (.tmp 132) = undef := k1
            have e2 : a.eval (.tmp 121) = .bool true := k2
            have hgd := e2
            simp [Act.eval] at e0
            simp [Act.eval] at e1
            exact ⟨_, rfl, .inl ⟨(wanted_of rfl rfl hgd).trans rfl, Does.val (by simp [execOp, Act.eval, e0, e1, go_sem]) rfl⟩⟩
           ·obtain ⟨k0, k1, -⟩ := hp
            have e0 : a.eval (.tmp 121) = .bool true := k0
            have e1 : a.eval (.tmp 133) = .bool true := k1
            simp [Act.eval] at e0
            simp [Act.eval] at e1
            exact ⟨_, rfl, .inl ⟨wanted_none rfl, Does.val (by simp [execOp, Act.eval, e0, e1, go_sem]) rfl⟩⟩
           ·obtain ⟨k0, -⟩ := hp
            have e0 : a.eval (.tmp 134) = .bool true := k0
            simp [Act.eval] at e0
            exact ⟨_, rfl, .inl ⟨wanted_none rfl, Does.val (by simp [execOp, Act.eval, e0, go_sem]) rfl⟩⟩
           ·obtain ⟨k0, -⟩ := hp
            have e0 : a.eval (.tmp 135) = .bool true := k0
            have hgd := e0
            exact ⟨_, rfl, .inl ⟨(wanted_of rfl rfl hgd).trans rfl, Does.rc (f := 18) (call0 rfl (fun _ => by simp [go_sem])) (lives_any wx)⟩⟩
           ·obtain ⟨k0, k1, -⟩ := hp
            have e0 : a.eval (.tmp 135) = .bool true := k0
            have e1 : a.eval (.tmp 136) = .bool true := k1
            simp [Act.eval] at e0
            simp [Act.eval] at e1
            exact ⟨_, rfl, .inl ⟨wanted_none rfl, Does.val (by simp [execOp, Act.eval, e0, e1, go_sem]) rfl⟩⟩
           ·obtain ⟨k0, -⟩ := hp
            have e0 : a.eval (.tmp 137) = .bool true := k0
            simp [Act.eval] at e0
            exact ⟨_, rfl, .inl ⟨wanted_none rfl, Does.val (by simp [execOp, Act.eval, e0, go_sem]) rfl⟩⟩
          ·intro val wx hB hsp hdis
           have e29 : val 29 = .bool true := hsp 29 (by omega)
           rw [← HF.out]
           change wpList _ _ _ [] _ _
           simp only [puts, vals, List.map_cons, List.map_nil, List.foldl_cons, List.foldl_nil, if_true, Nat.zero_add, Nat.reduceAdd, e29, List.setIfInBounds_toArray, List.set_cons_succ, List.set_cons_zero]
           clear hsp hdis HF e29
           clear ev5 ev7 ev9 ev10
           obtain ⟨w3061, rfl⟩ : ∃ W : World, W = wx := ⟨_, rfl⟩
           have HS3062 := Lib.hid hB
           have ka := Lib.hid (Blw kd.out hB)
           clear hB
           go_wp2
           go_ret
           exact ⟨rfl, ka.out⟩
        ·by_cases hy : 0 < cmpV b2 c2
         ·skip
          skip
          have HGE := Lib.hid (cmpV_rev (a := aa) (b := b2) (c := c2) (by omega) (by omega))
          have H1 : Hid (¬ 0 < cmpV aa b2) := Lib.hid (by omega)
          have H2 : Hid (¬ cmpV aa b2 < 0) := Lib.hid (by omega)
          have H3 : Hid (0 < cmpV b2 c2) := Lib.hid (by omega)
          have H4 : Hid (¬ cmpV b2 c2 < 0) := Lib.hid (by omega)
          clear hx
          go_upto_region 18 with fail
          have k5 := (k3.below HS3052.out)
          have k7 := (kb.below HS3052.out)
          have k8 := Lib.hid (k4.out.kp (.of HS3052.out))
          have k9 := Lib.hid (kc.out.kp (.of HS3052.out))
          generalize hF : ({ tmps := _, defers := _ } : Act) = F
          have ev5 : F.eval (.tmp 5) = .pointer (some ⟨w1.heap.size, 0, none⟩) := by rw [← hF]; rfl
          have ev7 : F.eval (.tmp 7) = .pointer (some ⟨w54.heap.size, 0, none⟩) := by rw [← hF]; rfl
          have ev9 : F.eval (.tmp 9) = .int .i64 (cmpV aa b2) := by rw [← hF]; rfl
          have ev10 : F.eval (.tmp 10) = .int .i64 (cmpV b2 c2) := by rw [← hF]; rfl
          have HF := Lib.hid hF; clear hF
          refine wp_flow_tabG false rfl 30 [(109, []), (110, [0]), (111, [1]), (112, [2]), (113, [3, 2]), (114, [2, 4]), (115, [5]), (116, [6]), (117, [6]), (118, [7, 8, 6]), (119, [9, 6]), (120, [6, 10]), (121, [11]), (122, [12]), (123, [13, 12]), (124, [14, 12]), (125, [15]), (126, [16, 15]), (127, [15, 17, 12]), (128, [18, 12]), (129, [19]), (130, [19]), (131, [20, 21, 19]), (132, [22, 19]), (133, [19, 23, 12]), (134, [12, 24]), (135, [25]), (136, [26]), (137, [26, 27]), (4, [28])] [SC (.int .i64 (cmpV aa b2)), SC (.bool false), SC (.bool false), SC (.int .i64 (cmpV b2 c2)), SC (.bool true), SC (.bool true), SC (.bool true), SC undef, SC undef, SC undef, SC undef, SC (.bool true), SC (.bool true), SC (.int .i64 (cmpV aa b2)), SC (.bool false), SC (.bool false), SC (.int .i64 (cmpV b2 c2)), SC (.bool false), SC (.bool false), SC (.bool false), SC (.agg #[aac0, aac1, aac2, aac3, aac4, aac5, aac6, aac7]), SC (.agg #[cd0, cd1, cd2, cd3, cd4, cd5, cd6, cd7]), SC (.int .i64 (cmpV aa c2)), SC (.bool true), SC (.bool true), SC (.bool true), SC (.bool true), SC (.bool true), SC (.bool true), SC (.bool true)] [false, false, false, false, false, false, false, false, false, false, false, false, false, false, false, false, false, false, false, false, false, false, false, false, false, false, false, false, false, false] (by kernel_rfl) (by kernel_rfl) (by kernel_rfl) (by kernel_rfl) (by kernel_rfl) (by rw [← HF.out]; simp) ⟨SC.mono _, SC.mono _, SC.mono _, SC.mono _, SC.mono _, SC.mono _, SC.mono _, SC.mono _, SC.mono _, SC.mono _, SC.mono _, SC.mono _, SC.mono _, SC.mono _, SC.mono _, SC.mono _, SC.mono _, SC.mono _, SC.mono _, SC.mono _, SC.mono _, SC.mono _, SC.mono _, SC.mono _, SC.mono _, SC.mono _, SC.mono _, SC.mono _, SC.mono _, SC.mono _, trivial⟩ ?_ ?_
          ·intro kq hkq a wx hB hp hs
           have hcase : kq = 0 ∨ kq = 1 ∨ kq = 2 ∨ kq = 3 ∨ kq = 4 ∨ kq = 5 ∨ kq = 6 ∨ kq = 7 ∨ kq = 8 ∨ kq = 9 ∨ kq = 10 ∨ kq = 11 ∨ kq = 12 ∨ kq = 13 ∨ kq = 14 ∨ kq = 15 ∨ kq = 16 ∨ kq = 17 ∨ kq = 18 ∨ kq = 19 ∨ kq = 20 ∨ kq = 21 ∨ kq = 22 ∨ kq = 23 ∨ kq = 24 ∨ kq = 25 ∨ kq = 26 ∨ kq = 27 ∨ kq = 28 ∨ kq = 29 := by omega
           rcases hcase with rfl | rfl | rfl | rfl | rfl | rfl | rfl | rfl | rfl | rfl | rfl | rfl | rfl | rfl | rfl | rfl | rfl | rfl | rfl | rfl | rfl | rfl | rfl | rfl | rfl | rfl | rfl | rfl | rfl | rfl
           ·clear hp
            have b9 := (hs 9 rfl).trans ev9
            simp [Act.eval] at b9
            exact ⟨_, rfl, .inl ⟨wanted_none rfl, Does.val (by simp [execOp, Act.eval, b9, go_sem]) rfl⟩⟩
           ·obtain ⟨k0, -⟩ := hp
            have e0 : a.eval (.tmp 109) = .int .i64 (cmpV aa b2) := k0
            simp [Act.eval] at e0
            exact ⟨_, rfl, .inl ⟨wanted_none rfl, Does.val (by simp [execOp, Act.eval, e0, go_sem, H1.out]) rfl⟩⟩
           ·obtain ⟨k0, -⟩ := hp
            have e0 : a.eval (.tmp 110) = .bool false := k0
            simp [Act.eval] at e0
            exact ⟨_, rfl, .inl ⟨wanted_none rfl, Does.val (by simp [execOp, Act.eval, e0, go_sem]) rfl⟩⟩
           ·obtain ⟨k0, -⟩ := hp
            have e0 : a.eval (.tmp 111) = .bool false := k0
            have b10 := (hs 10 rfl).trans ev10
            have hgd := e0
            simp [Act.eval] at b10
            exact ⟨_, rfl, .inl ⟨(wanted_of rfl rfl hgd).trans rfl, Does.val (by simp [execOp, Act.eval, b10, go_sem]) rfl⟩⟩
           ·obtain ⟨k0, k1, -⟩ := hp
            have e0 : a.eval (.tmp 112) = .int .i64 (cmpV b2 c2) := k0
            have e1 : a.eval (.tmp 111) = .bool false := k1
            have hgd := e1
            simp [Act.eval] at e0
            exact ⟨_, rfl, .inl ⟨(wanted_of rfl rfl hgd).trans rfl, Does.val (by simp [execOp, Act.eval, e0, go_sem, H3.out]) rfl⟩⟩
           ·obtain ⟨k0, k1, -⟩ := hp
            have e0 : a.eval (.tmp 111) = .bool false := k0
            have e1 : a.eval (.tmp 113) = .bool true := k1
            simp [Act.eval] at e0
            simp [Act.eval] at e1
            exact ⟨_, rfl, .inl ⟨wanted_none rfl, Does.val (by simp [execOp, Act.eval, e0, e1, go_sem]) rfl⟩⟩
           ·obtain ⟨k0, -⟩ := hp
            have e0 : a.eval (.tmp 114) = .bool true := k0
            simp [Act.eval] at e0
            exact ⟨_, rfl, .inl ⟨wanted_none rfl, Does.val (by simp [execOp, Act.eval, e0, go_sem]) rfl⟩⟩
           ·obtain ⟨k0, -⟩ := hp
            have e0 : a.eval (.tmp 115) = .bool true := k0
            have b5 := (hs 5 rfl).trans ev5
            have hgd := e0
            exact ⟨_, rfl, .inr ⟨(wanted_of rfl rfl hgd).trans rfl, rfl, rfl⟩⟩
           ·obtain ⟨k0, -⟩ := hp
            have e0 : a.eval (.tmp 115) = .bool true := k0
            have b7 := (hs 7 rfl).trans ev7
            have hgd := e0
            exact ⟨_, rfl, .inr ⟨(wanted_of rfl rfl hgd).trans rfl, rfl, rfl⟩⟩
           ·obtain ⟨k0, k1, k2, -⟩ := hp
            have e0 : a.eval (.tmp 116) = undef := k0
            have e1 : a.eval (.tmp 117) = undef := k1
            have e2 : a.eval (.tmp 115) = .bool true := k2
            have hgd := e2
            exact ⟨_, rfl, .inr ⟨(wanted_of rfl rfl hgd).trans rfl, rfl, rfl⟩⟩
           ·obtain ⟨k0, k1, -⟩ := hp
            have e0 : a.eval (.tmp 118) = undef := k0
            have e1 : a.eval (.tmp 115) = .bool true := k1
            have hgd := e1
            exact ⟨_, rfl, .inr ⟨(wanted_of rfl rfl hgd).trans rfl, rfl, rfl⟩⟩
           ·obtain ⟨k0, k1, -⟩ := hp
            have e0 : a.eval (.tmp 115) = .bool true := k0
            have e1 : a.eval (.tmp 119) = undef := k1
            simp [Act.eval] at e0
            simp [Act.eval] at e1
            exact ⟨_, rfl, .inl ⟨wanted_none rfl, Does.val (by simp [execOp, Act.eval, e0, e1, go_sem]) rfl⟩⟩
           ·obtain ⟨k0, -⟩ := hp
            have e0 : a.eval (.tmp 120) = .bool true := k0
            simp [Act.eval] at e0
            exact ⟨_, rfl, .inl ⟨wanted_none rfl, Does.val (by simp [execOp, Act.eval, e0, go_sem]) rfl⟩⟩
           ·obtain ⟨k0, -⟩ := hp
            have e0 : a.eval (.tmp 121) = .bool true := k0
            have b9 := (hs 9 rfl).trans ev9
            have hgd := e0
            simp [Act.eval] at b9
            exact ⟨_, rfl, .inl ⟨(wanted_of rfl rfl hgd).trans rfl, Does.val (by simp [execOp, Act.eval, b9, go_sem]) rfl⟩⟩
           ·obtain ⟨k0, k1, -⟩ := hp
            have e0 : a.eval (.tmp 122) = .int .i64 (cmpV aa b2) := k0
            have e1 : a.eval (.tmp 121) = .bool true := k1
            have hgd := e1
            simp [Act.eval] at e0
            exact ⟨_, rfl, .inl ⟨(wanted_of rfl rfl hgd).trans rfl, Does.val (by simp [execOp, Act.eval, e0, go_sem, H2.out]) rfl⟩⟩
           ·obtain ⟨k0, k1, -⟩ := hp
            have e0 : a.eval (.tmp 123) = .bool false := k0
            have e1 : a.eval (.tmp 121) = .bool true := k1
            have hgd := e1
            simp [Act.eval] at e0
            exact ⟨_, rfl, .inl ⟨(wanted_of rfl rfl hgd).trans rfl, Does.val (by simp [execOp, Act.eval, e0, go_sem]) rfl⟩⟩
           ·obtain ⟨k0, -⟩ := hp
            have e0 : a.eval (.tmp 124) = .bool false := k0
            have b10 := (hs 10 rfl).trans ev10
            have hgd := e0
            simp [Act.eval] at b10
            exact ⟨_, rfl, .inl ⟨(wanted_of rfl rfl hgd).trans rfl, Does.val (by simp [execOp, Act.eval, b10, go_sem]) rfl⟩⟩
           ·obtain ⟨k0, k1, -⟩ := hp
            have e0 : a.eval (.tmp 125) = .int .i64 (cmpV b2 c2) := k0
            have e1 : a.eval (.tmp 124) = .bool false := k1
            have hgd := e1
            simp [Act.eval] at e0
            exact ⟨_, rfl, .inl ⟨(wanted_of rfl rfl hgd).trans rfl, Does.val (by simp [execOp, Act.eval, e0, go_sem, H4.out]) rfl⟩⟩
           ·obtain ⟨k0, k1, k2, -⟩ := hp
            have e0 : a.eval (.tmp 124) = .bool false := k0
            have e1 : a.eval (.tmp 126) = .bool false := k1
            have e2 : a.eval (.tmp 121) = .bool true := k2
            have hgd := e2
            simp [Act.eval] at e0
            simp [Act.eval] at e1
            exact ⟨_, rfl, .inl ⟨(wanted_of rfl rfl hgd).trans rfl, Does.val (by simp [execOp, Act.eval, e0, e1, go_sem]) rfl⟩⟩
           ·obtain ⟨k0, k1, -⟩ := hp
            have e0 : a.eval (.tmp 127) = .bool false := k0
            have e1 : a.eval (.tmp 121) = .bool true := k1
            have hgd := e1
            simp [Act.eval] at e0
            exact ⟨_, rfl, .inl ⟨(wanted_of rfl rfl hgd).trans rfl, Does.val (by simp [execOp, Act.eval, e0, go_sem]) rfl⟩⟩
           ·obtain ⟨k0, -⟩ := hp
            have e0 : a.eval (.tmp 128) = .bool false := k0
            have hgd := e0
            exact ⟨_, rfl, .inl ⟨(wanted_of rfl rfl hgd).trans rfl, ld_Vec rfl ((hs 5 rfl).trans ev5) (k5.below hB) rfl rfl rfl rfl rfl rfl rfl rfl⟩⟩
           ·obtain ⟨k0, -⟩ := hp
            have e0 : a.eval (.tmp 128) = .bool false := k0
            have hgd := e0
            exact ⟨_, rfl, .inl ⟨(wanted_of rfl rfl hgd).trans rfl, ld_Vec rfl ((hs 7 rfl).trans ev7) (k7.below hB) rfl rfl rfl rfl rfl rfl rfl rfl⟩⟩
           ·obtain ⟨k0, k1, k2, -⟩ := hp
            have e0 : a.eval (.tmp 129) = .agg #[aac0, aac1, aac2, aac3, aac4, aac5, aac6, aac7] := k0
            have e1 : a.eval (.tmp 130) = .agg #[cd0, cd1, cd2, cd3, cd4, cd5, cd6, cd7] := k1
            have e2 : a.eval (.tmp 128) = .bool false := k2
            have hgd := e2
            exact ⟨_, rfl, .inl ⟨(wanted_of rfl rfl hgd).trans rfl, Does.rc (f := 25) (call2 rfl (fun _ => by simp [go_sem]) e0 e1) (vcp_any 30 30 aac0 aac1 aac2 aac3 aac4 aac5 aac6 aac7 cd0 cd1 cd2 cd3 cd4 cd5 cd6 cd7 aa c2 wx (k8.out.kp (.of hB)) (k9.out.kp (.of hB)) HBa.out HBc2.out (by omega))⟩⟩
           ·obtain ⟨k0, k1, -⟩ := hp
            have e0 : a.eval (.tmp 131) = .int .i64 (cmpV aa c2) := k0
            have e1 : a.eval (.tmp 128) = .bool false := k1
            have hgd := e1
            simp [Act.eval] at e0
            exact ⟨_, rfl, .inl ⟨(wanted_of rfl rfl hgd).trans rfl, Does.val (by simp [execOp, Act.eval, e0, go_sem, HGE.out]) rfl⟩⟩
           ·obtain ⟨k0, k1, k2, -⟩ := hp
            have e0 : a.eval (.tmp 128) = .bool false := k0
            have e1 : a.eval (.tmp 132) = .bool true := k1
            have e2 : a.eval (.tmp 121) = .bool true := k2
            have hgd := e2
            simp [Act.eval] at e0
            simp [Act.eval] at e1
            exact ⟨_, rfl, .inl ⟨(wanted_of rfl rfl hgd).trans rfl, Does.val (by simp [execOp, Act.eval, e0, e1, go_sem]) rfl⟩⟩
           ·obtain ⟨k0, k1, -⟩ := hp
            have e0 : a.eval (.tmp 121) = .bool true := k0
            have e1 : a.eval (.tmp 133) = .bool true := k1
            simp [Act.eval] at e0
            simp [Act.eval] at e1
            exact ⟨_, rfl, .inl ⟨wanted_none rfl, Does.val (by simp [execOp, Act.eval, e0, e1, go_sem]) rfl⟩⟩
           ·obtain ⟨k0, -⟩ := hp
            have e0 : a.eval (.tmp 134) = .bool true := k0
            simp [Act.eval] at e0
            exact ⟨_, rfl, .inl ⟨wanted_none rfl, Does.val (by simp [execOp, Act.eval, e0, go_sem]) rfl⟩⟩
           ·obtain ⟨k0, -⟩ := hp
            have e0 : a.eval (.tmp 135) = .bool true := k0
            have hgd := e0
            exact ⟨_, rfl, .inl ⟨(wanted_of rfl rfl hgd).trans rfl, Does.rc (f := 18) (call0 rfl (fun _ => by simp [go_sem])) (lives_any wx)⟩⟩
           ·obtain ⟨k0, k1, -⟩ := hp
            have e0 : a.eval (.tmp 135) = .bool true := k0
            have e1 : a.eval (.tmp 136) = .bool true := k1
            simp [Act.eval] at e0
            simp [Act.eval] at e1
            exact ⟨_, rfl, .inl ⟨wanted_none rfl, Does.val (by simp [execOp, Act.eval, e0, e1, go_sem]) rfl⟩⟩
           ·obtain ⟨k0, -⟩ := hp
            have e0 : a.eval (.tmp 137) = .bool true := k0
            simp [Act.eval] at e0
            exact ⟨_, rfl, .inl ⟨wanted_none rfl, Does.val (by simp [execOp, Act.eval, e0, go_sem]) rfl⟩⟩
          ·intro val wx hB hsp hdis
           have e29 : val 29 = .bool true := hsp 29 (by omega)
           rw [← HF.out]
           change wpList _ _ _ [] _ _
           simp only [puts, vals, List.map_cons, List.map_nil, List.foldl_cons, List.foldl_nil, if_true, Nat.zero_add, Nat.reduceAdd, e29, List.setIfInBounds_toArray, List.set_cons_succ, List.set_cons_zero]
           clear hsp hdis HF e29
           clear ev5 ev7 ev9 ev10
           obtain ⟨w3061, rfl⟩ : ∃ W : World, W = wx := ⟨_, rfl⟩
           have HS3062 := Lib.hid hB
           have ka := Lib.hid (Blw kd.out hB)
           clear hB
           go_wp2
           go_ret
           exact ⟨rfl, ka.out⟩
         ·by_cases hy2 : cmpV b2 c2 < 0
          ·skip
           skip
           have HLE := Lib.hid (cmpV_trans (a := aa) (b := b2) (c := c2) (by omega) (by omega))
           have H1 : Hid (¬ 0 < cmpV aa b2) := Lib.hid (by omega)
           have H2 : Hid (¬ cmpV aa b2 < 0) := Lib.hid (by omega)
           have H3 : Hid (¬ 0 < cmpV b2 c2) := Lib.hid (by omega)
           have H4 : Hid (cmpV b2 c2 < 0) := Lib.hid (by omega)
           clear hx
           go_upto_region 18 with fail
           have k5 := (k3.below HS3052.out)
           have k7 := (kb.below HS3052.out)
           have k8 := Lib.hid (k4.out.kp (.of HS3052.out))
           have k9 := Lib.hid (kc.out.kp (.of HS3052.out))
           generalize hF : ({ tmps := _, defers := _ } : Act) = F
           have ev5 : F.eval (.tmp 5) = .pointer (some ⟨w1.heap.size, 0, none⟩) := by rw [← hF]; rfl
           have ev7 : F.eval (.tmp 7) = .pointer (some ⟨w54.heap.size, 0, none⟩) := by rw [← hF]; rfl
           have ev9 : F.eval (.tmp 9) = .int .i64 (cmpV aa b2) := by rw [← hF]; rfl
           have ev10 : F.eval (.tmp 10) = .int .i64 (cmpV b2 c2) := by rw [← hF]; rfl
           have HF := Lib.hid hF; clear hF
           refine wp_flow_tabG false rfl 30 [(109, []), (110, [0]), (111, [1]), (112, [2]), (113, [3, 2]), (114, [2, 4]), (115, [5]), (116, [6]), (117, [6]), (118, [7, 8, 6]), (119, [9, 6]), (120, [6, 10]), (121, [11]), (122, [12]), (123, [13, 12]), (124, [14, 12]), (125, [15]), (126, [16, 15]), (127, [15, 17, 12]), (128, [18, 12]), (129, [19]), (130, [19]), (131, [20, 21, 19]), (132, [22, 19]), (133, [19, 23, 12]), (134, [12, 24]), (135, [25]), (136, [26]), (137, [26, 27]), (4, [28])] [SC (.int .i64 (cmpV aa b2)), SC (.bool false), SC (.bool false), SC (.int .i64 (cmpV b2 c2)), SC (.bool false), SC (.bool false), SC (.bool false), SC (.agg #[aac0, aac1, aac2, aac3, aac4, aac5, aac6, aac7]), SC (.agg #[cd0, cd1, cd2, cd3, cd4, cd5, cd6, cd7]), SC (.int .i64 (cmpV aa c2)), SC (.bool true), SC (.bool true), SC (.bool true), SC (.int .i64 (cmpV aa b2)), SC (.bool false), SC (.bool false), SC (.int .i64 (cmpV b2 c2)), SC (.bool true), SC (.bool true), SC (.bool true), SC undef, SC undef, SC undef, SC undef, SC (.bool true), SC (.bool true), SC (.bool true), SC (.bool true), SC (.bool true), SC (.bool true)] [false, false, false, false, false, false, false, false, false, false, false, false, false, false, false, false, false, false, false, false, false, false, false, false, false, false, false, false, false, false] (by kernel_rfl) (by kernel_rfl) (by kernel_rfl) (by kernel_rfl) (by kernel_rfl) (by rw [← HF.out]; simp) ⟨SC.mono _, SC.mono _, SC.mono _, SC.mono _, SC.mono _, SC.mono _, SC.mono _, SC.mono _, SC.mono _, SC.mono _, SC.mono _, SC.mono _, SC.mono _, SC.mono _, SC.mono _, SC.mono _, SC.mono _, SC.mono _, SC.mono _, SC.mono _, SC.mono _, SC.mono _, SC.mono _, SC.mono _, SC.mono _, SC.mono _, SC.mono _, SC.mono _, SC.mono _, SC.mono _, trivial⟩ ?_ ?_
           ·intro kq hkq a wx hB hp hs
            have hcase : kq = 0 ∨ kq = 1 ∨ kq = 2 ∨ kq = 3 ∨ kq = 4 ∨ kq = 5 ∨ kq = 6 ∨ kq = 7 ∨ kq = 8 ∨ kq = 9 ∨ kq = 10 ∨ kq = 11 ∨ kq = 12 ∨ kq = 13 ∨ kq = 14 ∨ kq = 15 ∨ kq = 16 ∨ kq = 17 ∨ kq = 18 ∨ kq = 19 ∨ kq = 20 ∨ kq = 21 ∨ kq = 22 ∨ kq = 23 ∨ kq = 24 ∨ kq = 25 ∨ kq = 26 ∨ kq = 27 ∨ kq = 28 ∨ kq = 29 := by omega
            rcases hcase with rfl | rfl | rfl | rfl | rfl | rfl | rfl | rfl | rfl | rfl | rfl | rfl | rfl | rfl | rfl | rfl | rfl | rfl | rfl | rfl | rfl | rfl | rfl | rfl | rfl | rfl | rfl | rfl | rfl | rfl
            ·clear hp
             have b9 := (hs 9 rfl).trans ev9
             simp [Act.eval] at b9
             exact ⟨_, rfl, .inl ⟨wanted_none rfl, Does.val (by simp [execOp, Act.eval, b9, go_sem]) rfl⟩⟩
            ·obtain ⟨k0, -⟩ := hp
             have e0 : a.eval (.tmp 109) = .int .i64 (cmpV aa b2) := k0
             simp [Act.eval] at e0
             exact ⟨_, rfl, .inl ⟨wanted_none rfl, Does.val (by simp [execOp, Act.eval, e0, go_sem, H1.out]) rfl⟩⟩
            ·obtain ⟨k0, -⟩ := hp
             have e0 : a.eval (.tmp 110) = .bool false := k0
             simp [Act.eval] at e0
             exact ⟨_, rfl, .inl ⟨wanted_none rfl, Does.val (by simp [execOp, Act.eval, e0, go_sem]) rfl⟩⟩
            ·obtain ⟨k0, -⟩ := hp
             have e0 : a.eval (.tmp 111) = .bool false := k0
             have b10 := (hs 10 rfl).trans ev10
             have hgd := e0
             simp [Act.eval] at b10
             exact ⟨_, rfl, .inl ⟨(wanted_of rfl rfl hgd).trans rfl, Does.val (by simp [execOp, Act.eval, b10, go_sem]) rfl⟩⟩
            ·obtain ⟨k0, k1, -⟩ := hp
             have e0 : a.eval (.tmp 112) = .int .i64 (cmpV b2 c2) := k0
             have e1 : a.eval (.tmp 111) = .bool false := k1
             have hgd := e1
             simp [Act.eval] at e0
             exact ⟨_, rfl, .inl ⟨(wanted_of rfl rfl hgd).trans rfl, Does.val (by simp [execOp, Act.eval, e0, go_sem, H3.out]) rfl⟩⟩
            ·obtain ⟨k0, k1, -⟩ := hp
             have e0 : a.eval (.tmp 111) = .bool false := k0
             have e1 : a.eval (.tmp 113) = .bool false := k1
             simp [Act.eval] at e0
             simp [Act.eval] at e1
             exact ⟨_, rfl, .inl ⟨wanted_none rfl, Does.val (by simp [execOp, Act.eval, e0, e1, go_sem]) rfl⟩⟩
            ·obtain ⟨k0, -⟩ := hp
             have e0 : a.eval (.tmp 114) = .bool false := k0
             simp [Act.eval] at e0
             exact ⟨_, rfl, .inl ⟨wanted_none rfl, Does.val (by simp [execOp, Act.eval, e0, go_sem]) rfl⟩⟩
            ·obtain ⟨k0, -⟩ := hp
             have e0 : a.eval (.tmp 115) = .bool false := k0
             have hgd := e0
             exact ⟨_, rfl, .inl ⟨(wanted_of rfl rfl hgd).trans rfl, ld_Vec rfl ((hs 5 rfl).trans ev5) (k5.below hB) rfl rfl rfl rfl rfl rfl rfl rfl⟩⟩
            ·obtain ⟨k0, -⟩ := hp
             have e0 : a.eval (.tmp 115) = .bool false := k0
             have hgd := e0
             exact ⟨_, rfl, .inl ⟨(wanted_of rfl rfl hgd).trans rfl, ld_Vec rfl ((hs 7 rfl).trans ev7) (k7.below hB) rfl rfl rfl rfl rfl rfl rfl rfl⟩⟩
            ·obtain ⟨k0, k1, k2, -⟩ := hp
             have e0 : a.eval (.tmp 116) = .agg #[aac0, aac1, aac2, aac3, aac4, aac5, aac6, aac7] := k0
             have e1 : a.eval (.tmp 117) = .agg #[cd0, cd1, cd2, cd3, cd4, cd5, cd6, cd7] := k1
             have e2 : a.eval (.tmp 115) = .bool false := k2
             have hgd := e2
             exact ⟨_, rfl, .inl ⟨(wanted_of rfl rfl hgd).trans rfl, Does.rc (f := 25) (call2 rfl (fun _ => by simp [go_sem]) e0 e1) (vcp_any 30 30 aac0 aac1 aac2 aac3 aac4 aac5 aac6 aac7 cd0 cd1 cd2 cd3 cd4 cd5 cd6 cd7 aa c2 wx (k8.out.kp (.of hB)) (k9.out.kp (.of hB)) HBa.out HBc2.out (by omega))⟩⟩
            ·obtain ⟨k0, k1, -⟩ := hp
             have e0 : a.eval (.tmp 118) = .int .i64 (cmpV aa c2) := k0
             have e1 : a.eval (.tmp 115) = .bool false := k1
             have hgd := e1
             simp [Act.eval] at e0
             exact ⟨_, rfl, .inl ⟨(wanted_of rfl rfl hgd).trans rfl, Does.val (by simp [execOp, Act.eval, e0, go_sem, HLE.out]) rfl⟩⟩
            ·obtain ⟨k0, k1, -⟩ := hp
             have e0 : a.eval (.tmp 115) = .bool false := k0
             have e1 : a.eval (.tmp 119) = .bool true := k1
             simp [Act.eval] at e0
             simp [Act.eval] at e1
             exact ⟨_, rfl, .inl ⟨wanted_none rfl, Does.val (by simp [execOp, Act.eval, e0, e1, go_sem]) rfl⟩⟩
            ·obtain ⟨k0, -⟩ := hp
             have e0 : a.eval (.tmp 120) = .bool true := k0
             simp [Act.eval] at e0
             exact ⟨_, rfl, .inl ⟨wanted_none rfl, Does.val (by simp [execOp, Act.eval, e0, go_sem]) rfl⟩⟩
            ·obtain ⟨k0, -⟩ := hp
             have e0 : a.eval (.tmp 121) = .bool true := k0
             have b9 := (hs 9 rfl).trans ev9
             have hgd := e0
             simp [Act.eval] at b9
             exact ⟨_, rfl, .inl ⟨(wanted_of rfl rfl hgd).trans rfl, Does.val (by simp [execOp, Act.eval, b9, go_sem]) rfl⟩⟩
            ·obtain ⟨k0, k1, -⟩ := hp
             have e0 : a.eval (.tmp 122) = .int .i64 (cmpV aa b2) := k0
             have e1 : a.eval (.tmp 121) = .bool true := k1
             have hgd := e1
             simp [Act.eval] at e0
             exact ⟨_, rfl, .inl ⟨(wanted_of rfl rfl hgd).trans rfl, Does.val (by simp [execOp, Act.eval, e0, go_sem, H2.out]) rfl⟩⟩
            ·obtain ⟨k0, k1, -⟩ := hp
             have e0 : a.eval (.tmp 123) = .bool false := k0
             have e1 : a.eval (.tmp 121) = .bool true := k1
             have hgd := e1
             simp [Act.eval] at e0
             exact ⟨_, rfl, .inl ⟨(wanted_of rfl rfl hgd).trans rfl, Does.val (by simp [execOp, Act.eval, e0, go_sem]) rfl⟩⟩
            ·obtain ⟨k0, -⟩ := hp
             have e0 : a.eval (.tmp 124) = .bool false := k0
             have b10 := (hs 10 rfl).trans ev10
             have hgd := e0
             simp [Act.eval] at b10
             exact ⟨_, rfl, .inl ⟨(wanted_of rfl rfl hgd).trans rfl, Does.val (by simp [execOp, Act.eval, b10, go_sem]) rfl⟩⟩
            ·obtain ⟨k0, k1, -⟩ := hp
             have e0 : a.eval (.tmp 125) = .int .i64 (cmpV b2 c2) := k0
             have e1 : a.eval (.tmp 124) = .bool false := k1
             have hgd := e1
             simp [Act.eval] at e0
             exact ⟨_, rfl, .inl ⟨(wanted_of rfl rfl hgd).trans rfl, Does.val (by simp [execOp, Act.eval, e0, go_sem, H4.out]) rfl⟩⟩
            ·obtain ⟨k0, k1, k2, -⟩ := hp
             have e0 : a.eval (.tmp 124) = .bool false := k0
             have e1 : a.eval (.tmp 126) = .bool true := k1
             have e2 : a.eval (.tmp 121) = .bool true := k2
             have hgd := e2
             simp [Act.eval] at e0
             simp [Act.eval] at e1
             exact ⟨_, rfl, .inl ⟨(wanted_of rfl rfl hgd).trans rfl, Does.val (by simp [execOp, Act.eval, e0, e1, go_sem]) rfl⟩⟩
            ·obtain ⟨k0, k1, -⟩ := hp
             have e0 : a.eval (.tmp 127) = .bool true := k0
             have e1 : a.eval (.tmp 121) = .bool true := k1
             have hgd := e1
             simp [Act.eval] at e0
             exact ⟨_, rfl, .inl ⟨(wanted_of rfl rfl hgd).trans rfl, Does.val (by simp [execOp, Act.eval, e0, go_sem]) rfl⟩⟩
            ·obtain ⟨k0, -⟩ := hp
             have e0 : a.eval (.tmp 128) = .bool true := k0
             have b5 := (hs 5 rfl).trans ev5
             have hgd := e0
             exact ⟨_, rfl, .inr ⟨(wanted_of rfl rfl hgd).trans rfl, rfl, rfl⟩⟩
            ·obtain ⟨k0, -⟩ := hp
             have e0 : a.eval (.tmp 128) = .bool true := k0
             have b7 := (hs 7 rfl).trans ev7
             have hgd := e0
             exact ⟨_, rfl, .inr ⟨(wanted_of rfl rfl hgd).trans rfl, rfl, rfl⟩⟩
            ·obtain ⟨k0, k1, k2, -⟩ := hp
             have e0 : a.eval (.tmp 129) = undef := k0
             have e1 : a.eval (.tmp 130) = undef := k1
             have e2 : a.eval (.tmp 128) = .bool true := k2
             have hgd := e2
             exact ⟨_, rfl, .inr ⟨(wanted_of rfl rfl hgd).trans rfl, rfl, rfl⟩⟩
            ·obtain ⟨k0, k1, -⟩ := hp
             have e0 : a.eval (.tmp 131) = undef := k0
             have e1 : a.eval (.tmp 128) = .bool true := k1
             have hgd := e1
             exact ⟨_, rfl, .inr ⟨(wanted_of rfl rfl hgd).trans rfl, rfl, rfl⟩⟩
            ·obtain ⟨k0, k1, k2, -⟩ := hp
             have e0 : a.eval (.tmp 128) = .bool true := k0
             have e1 : a.eval (.tmp 132) = undef := k1
             have e2 : a.eval (.tmp 121) = .bool true := k2
             have hgd := e2
             simp [Act.eval] at e0
             simp [Act.eval] at e1
             exact ⟨_, rfl, .inl ⟨(wanted_of rfl rfl hgd).trans rfl, Does.val (by simp [execOp, Act.eval, e0, e1, go_sem]) rfl⟩⟩
            ·obtain ⟨k0, k1, -⟩ := hp
             have e0 : a.eval (.tmp 121) = .bool true := k0
             have e1 : a.eval (.tmp 133) = .bool true := k1
             simp [Act.eval] at e0
             simp [Act.eval] at e1
             exact ⟨_, rfl, .inl ⟨wanted_none rfl, Does.val (by simp [execOp, Act.eval, e0, e1, go_sem]) rfl⟩⟩
            ·obtain ⟨k0, -⟩ := hp
             have e0 : a.eval (.tmp 134) = .bool true := k0
             simp [Act.eval] at e0
             exact ⟨_, rfl, .inl ⟨wanted_none rfl, Does.val (by simp [execOp, Act.eval, e0, go_sem]) rfl⟩⟩
            ·obtain ⟨k0, -⟩ := hp
             have e0 : a.eval (.tmp 135) = .bool true := k0
             have hgd := e0
             exact ⟨_, rfl, .inl ⟨(wanted_of rfl rfl hgd).trans rfl, Does.rc (f := 18) (call0 rfl (fun _ => by simp [go_sem])) (lives_any wx)⟩⟩
            ·obtain ⟨k0, k1, -⟩ := hp
             have e0 : a.eval (.tmp 135) = .bool true := k0
             have e1 : a.eval (.tmp 136) = .bool true := k1
             simp [Act.eval] at e0
             simp [Act.eval] at e1
             exact ⟨_, rfl, .inl ⟨wanted_none rfl, Does.val (by simp [execOp, Act.eval, e0, e1, go_sem]) rfl⟩⟩
            ·obtain ⟨k0, -⟩ := hp
             have e0 : a.eval (.tmp 137) = .bool true := k0
             simp [Act.eval] at e0
             exact ⟨_, rfl, .inl ⟨wanted_none rfl, Does.val (by simp [execOp, Act.eval, e0, go_sem]) rfl⟩⟩
           ·intro val wx hB hsp hdis
            have e29 : val 29 = .bool true := hsp 29 (by omega)
            rw [← HF.out]
            change wpList _ _ _ [] _ _
            simp only [puts, vals, List.map_cons, List.map_nil, List.foldl_cons, List.foldl_nil, if_true, Nat.zero_add, Nat.reduceAdd, e29, List.setIfInBounds_toArray, List.set_cons_succ, List.set_cons_zero]
            clear hsp hdis HF e29
            clear ev5 ev7 ev9 ev10
            obtain ⟨w3061, rfl⟩ : ∃ W : World, W = wx := ⟨_, rfl⟩
            have HS3062 := Lib.hid hB
            have ka := Lib.hid (Blw kd.out hB)
            clear hB
            go_wp2
            go_ret
            exact ⟨rfl, ka.out⟩
          ·skip
           skip
           have HLE := Lib.hid (cmpV_trans (a := aa) (b := b2) (c := c2) (by omega) (by omega))
           have HGE := Lib.hid (cmpV_rev (a := aa) (b := b2) (c := c2) (by omega) (by omega))
           have H1 : Hid (¬ 0 < cmpV aa b2) := Lib.hid (by omega)
           have H2 : Hid (¬ cmpV aa b2 < 0) := Lib.hid (by omega)
           have H3 : Hid (¬ 0 < cmpV b2 c2) := Lib.hid (by omega)
           have H4 : Hid (¬ cmpV b2 c2 < 0) := Lib.hid (by omega)
           clear hx
           go_upto_region 18 with fail
           have k5 := (k3.below HS3052.out)
           have k7 := (kb.below HS3052.out)
           have k8 := Lib.hid (k4.out.kp (.of HS3052.out))
           have k9 := Lib.hid (kc.out.kp (.of HS3052.out))
           generalize hF : ({ tmps := _, defers := _ } : Act) = F
           have ev5 : F.eval (.tmp 5) = .pointer (some ⟨w1.heap.size, 0, none⟩) := by rw [← hF]; rfl
           have ev7 : F.eval (.tmp 7) = .pointer (some ⟨w54.heap.size, 0, none⟩) := by rw [← hF]; rfl
           have ev9 : F.eval (.tmp 9) = .int .i64 (cmpV aa b2) := by rw [← hF]; rfl
           have ev10 : F.eval (.tmp 10) = .int .i64 (cmpV b2 c2) := by rw [← hF]; rfl
           have HF := Lib.hid hF; clear hF
           refine wp_flow_tabG false rfl 30 [(109, []), (110, [0]), (111, [1]), (112, [2]), (113, [3, 2]), (114, [2, 4]), (115, [5]), (116, [6]), (117, [6]), (118, [7, 8, 6]), (119, [9, 6]), (120, [6, 10]), (121, [11]), (122, [12]), (123, [13, 12]), (124, [14, 12]), (125, [15]), (126, [16, 15]), (127, [15, 17, 12]), (128, [18, 12]), (129, [19]), (130, [19]), (131, [20, 21, 19]), (132, [22, 19]), (133, [19, 23, 12]), (134, [12, 24]), (135, [25]), (136, [26]), (137, [26, 27]), (4, [28])] [SC (.int .i64 (cmpV aa b2)), SC (.bool false), SC (.bool false), SC (.int .i64 (cmpV b2 c2)), SC (.bool false), SC (.bool false), SC (.bool false), SC (.agg #[aac0, aac1, aac2, aac3, aac4, aac5, aac6, aac7]), SC (.agg #[cd0, cd1, cd2, cd3, cd4, cd5, cd6, cd7]), SC (.int .i64 (cmpV aa c2)), SC (.bool true), SC (.bool true), SC (.bool true), SC (.int .i64 (cmpV aa b2)), SC (.bool false), SC (.bool false), SC (.int .i64 (cmpV b2 c2)), SC (.bool false), SC (.bool false), SC (.bool false), SC (.agg #[aac0, aac1, aac2, aac3, aac4, aac5, aac6, aac7]), SC (.agg #[cd0, cd1, cd2, cd3, cd4, cd5, cd6, cd7]), SC (.int .i64 (cmpV aa c2)), SC (.bool true), SC (.bool true), SC (.bool true), SC (.bool true), SC (.bool true), SC (.bool true), SC (.bool true)] [false, false, false, false, false, false, false, false, false, false, false, false, false, false, false, false, false, false, false, false, false, false, false, false, false, false, false, false, false, false] (by kernel_rfl) (by kernel_rfl) (by kernel_rfl) (by kernel_rfl) (by kernel_rfl) (by rw [← HF.out]; simp) ⟨SC.mono _, SC.mono _, SC.mono _, SC.mono _, SC.mono _, SC.mono _, SC.mono _, SC.mono _, SC.mono _, SC.mono _, SC.mono _, SC.mono _, SC.mono _, SC.mono _, SC.mono _, SC.mono _, SC.mono _, SC.mono _, SC.mono _, SC.mono _, SC.mono _, SC.mono _, SC.mono _, SC.mono _, SC.mono _, SC.mono _, SC.mono _, SC.mono _, SC.mono _, SC.mono _, trivial⟩ ?_ ?_
           ·intro kq hkq a wx hB hp hs
            have hcase : kq = 0 ∨ kq = 1 ∨ kq = 2 ∨ kq = 3 ∨ kq = 4 ∨ kq = 5 ∨ kq = 6 ∨ kq = 7 ∨ kq = 8 ∨ kq = 9 ∨ kq = 10 ∨ kq = 11 ∨ kq = 12 ∨ kq = 13 ∨ kq = 14 ∨ kq = 15 ∨ kq = 16 ∨ kq = 17 ∨ kq = 18 ∨ kq = 19 ∨ kq = 20 ∨ kq = 21 ∨ kq = 22 ∨ kq = 23 ∨ kq = 24 ∨ kq = 25 ∨ kq = 26 ∨ kq = 27 ∨ kq = 28 ∨ kq = 29 := by omega
            rcases hcase with rfl | rfl | rfl | rfl | rfl | rfl | rfl | rfl | rfl | rfl | rfl | rfl | rfl | rfl | rfl | rfl | rfl | rfl | rfl | rfl | rfl | rfl | rfl | rfl | rfl | rfl | rfl | rfl | rfl | rfl
            ·clear hp
             have b9 := (hs 9 rfl).trans ev9
             simp [Act.eval] at b9
             exact ⟨_, rfl, .inl ⟨wanted_none rfl, Does.val (by simp [execOp, Act.eval, b9, go_sem]) rfl⟩⟩
            ·obtain ⟨k0, -⟩ := hp
             have e0 : a.eval (.tmp 109) = .int .i64 (cmpV aa b2) := k0
             simp [Act.eval] at e0
             exact ⟨_, rfl, .inl ⟨wanted_none rfl, Does.val (by simp [execOp, Act.eval, e0, go_sem, H1.out]) rfl⟩⟩
            ·obtain ⟨k0, -⟩ := hp
             have e0 : a.eval (.tmp 110) = .bool false := k0
             simp [Act.eval] at e0
             exact ⟨_, rfl, .inl ⟨wanted_none rfl, Does.val (by simp [execOp, Act.eval, e0, go_sem]) rfl⟩⟩
            ·obtain ⟨k0, -⟩ := hp
             have e0 : a.eval (.tmp 111) = .bool false := k0
             have b10 := (hs 10 rfl).trans ev10
             have hgd := e0
             simp [Act.eval] at b10
             exact ⟨_, rfl, .inl ⟨(wanted_of rfl rfl hgd).trans rfl, Does.val (by simp [execOp, Act.eval, b10, go_sem]) rfl⟩⟩
            ·obtain ⟨k0, k1, -⟩ := hp
             have e0 : a.eval (.tmp 112) = .int .i64 (cmpV b2 c2) := k0
             have e1 : a.eval (.tmp 111) = .bool false := k1
             have hgd := e1
             simp [Act.eval] at e0
             exact ⟨_, rfl, .inl ⟨(wanted_of rfl rfl hgd).trans rfl, Does.val (by simp [execOp, Act.eval, e0, go_sem, H3.out]) rfl⟩⟩
            ·obtain ⟨k0, k1, -⟩ := hp
             have e0 : a.eval (.tmp 111) = .bool false := k0
             have e1 : a.eval (.tmp 113) = .bool false := k1
             simp [Act.eval] at e0
             simp [Act.eval] at e1
             exact ⟨_, rfl, .inl ⟨wanted_none rfl, Does.val (by simp [execOp, Act.eval, e0, e1, go_sem]) rfl⟩⟩
            ·obtain ⟨k0, -⟩ := hp
             have e0 : a.eval (.tmp 114) = .bool false := k0
             simp [Act.eval] at e0
             exact ⟨_, rfl, .inl ⟨wanted_none rfl, Does.val (by simp [execOp, Act.eval, e0, go_sem]) rfl⟩⟩
            ·obtain ⟨k0, -⟩ := hp
             have e0 : a.eval (.tmp 115) = .bool false := k0
             have hgd := e0
             exact ⟨_, rfl, .inl ⟨(wanted_of rfl rfl hgd).trans rfl, ld_Vec rfl ((hs 5 rfl).trans ev5) (k5.below hB) rfl rfl rfl rfl rfl rfl rfl rfl⟩⟩
            ·obtain ⟨k0, -⟩ := hp
             have e0 : a.eval (.tmp 115) = .bool false := k0
             have hgd := e0
             exact ⟨_, rfl, .inl ⟨(wanted_of rfl rfl hgd).trans rfl, ld_Vec rfl ((hs 7 rfl).trans ev7) (k7.below hB) rfl rfl rfl rfl rfl rfl rfl rfl⟩⟩
            ·obtain ⟨k0, k1, k2, -⟩ := hp
             have e0 : a.eval (.tmp 116) = .agg #[aac0, aac1, aac2, aac3, aac4, aac5, aac6, aac7] := k0
             have e1 : a.eval (.tmp 117) = .agg #[cd0, cd1, cd2, cd3, cd4, cd5, cd6, cd7] := k1
             have e2 : a.eval (.tmp 115) = .bool false := k2
             have hgd := e2
             exact ⟨_, rfl, .inl ⟨(wanted_of rfl rfl hgd).trans rfl, Does.rc (f := 25) (call2 rfl (fun _ => by simp [go_sem]) e0 e1) (vcp_any 30 30 aac0 aac1 aac2 aac3 aac4 aac5 aac6 aac7 cd0 cd1 cd2 cd3 cd4 cd5 cd6 cd7 aa c2 wx (k8.out.kp (.of hB)) (k9.out.kp (.of hB)) HBa.out HBc2.out (by omega))⟩⟩
            ·obtain ⟨k0, k1, -⟩ := hp
             have e0 : a.eval (.tmp 118) = .int .i64 (cmpV aa c2) := k0
             have e1 : a.eval (.tmp 115) = .bool false := k1
             have hgd := e1
             simp [Act.eval] at e0
             exact ⟨_, rfl, .inl ⟨(wanted_of rfl rfl hgd).trans rfl, Does.val (by simp [execOp, Act.eval, e0, go_sem, HLE.out]) rfl⟩⟩
            ·obtain ⟨k0, k1, -⟩ := hp
             have e0 : a.eval (.tmp 115) = .bool false := k0
             have e1 : a.eval (.tmp 119) = .bool true := k1
             simp [Act.eval] at e0
             simp [Act.eval] at e1
             exact ⟨_, rfl, .inl ⟨wanted_none rfl, Does.val (by simp [execOp, Act.eval, e0, e1, go_sem]) rfl⟩⟩
            ·obtain ⟨k0, -⟩ := hp
             have e0 : a.eval (.tmp 120) = .bool true := k0
             simp [Act.eval] at e0
             exact ⟨_, rfl, .inl ⟨wanted_none rfl, Does.val (by simp [execOp, Act.eval, e0, go_sem]) rfl⟩⟩
            ·obtain ⟨k0, -⟩ := hp
             have e0 : a.eval (.tmp 121) = .bool true := k0
             have b9 := (hs 9 rfl).trans ev9
             have hgd := e0
             simp [Act.eval] at b9
             exact ⟨_, rfl, .inl ⟨(wanted_of rfl rfl hgd).trans rfl, Does.val (by simp [execOp, Act.eval, b9, go_sem]) rfl⟩⟩
            ·obtain ⟨k0, k1, -⟩ := hp
             have e0 : a.eval (.tmp 122) = .int .i64 (cmpV aa b2) := k0
             have e1 : a.eval (.tmp 121) = .bool true := k1
             have hgd := e1
             simp [Act.eval] at e0
             exact ⟨_, rfl, .inl ⟨(wanted_of rfl rfl hgd).trans rfl, Does.val (by simp [execOp, Act.eval, e0, go_sem, H2.out]) rfl⟩⟩
            ·obtain ⟨k0, k1, -⟩ := hp
             have e0 : a.eval (.tmp 123) = .bool false := k0
             have e1 : a.eval (.tmp 121) = .bool true := k1
             have hgd := e1
             simp [Act.eval] at e0
             exact ⟨_, rfl, .inl ⟨(wanted_of rfl rfl hgd).trans rfl, Does.val (by simp [execOp, Act.eval, e0, go_sem]) rfl⟩⟩
            ·obtain ⟨k0, -⟩ := hp
             have e0 : a.eval (.tmp 124) = .bool false := k0
             have b10 := (hs 10 rfl).trans ev10
             have hgd := e0
             simp [Act.eval] at b10
             exact ⟨_, rfl, .inl ⟨(wanted_of rfl rfl hgd).trans rfl, Does.val (by simp [execOp, Act.eval, b10, go_sem]) rfl⟩⟩
            ·obtain ⟨k0, k1, -⟩ := hp
             have e0 : a.eval (.tmp 125) = .int .i64 (cmpV b2 c2) := k0
             have e1 : a.eval (.tmp 124) = .bool false := k1
             have hgd := e1
             simp [Act.eval] at e0
             exact ⟨_, rfl, .inl ⟨(wanted_of rfl rfl hgd).trans rfl, Does.val (by simp [execOp, Act.eval, e0, go_sem, H4.out]) rfl⟩⟩
            ·obtain ⟨k0, k1, k2, -⟩ := hp
             have e0 : a.eval (.tmp 124) = .bool false := k0
             have e1 : a.eval (.tmp 126) = .bool false := k1
             have e2 : a.eval (.tmp 121) = .bool true := k2
             have hgd := e2
             simp [Act.eval] at e0
             simp [Act.eval] at e1
             exact ⟨_, rfl, .inl ⟨(wanted_of rfl rfl hgd).trans rfl, Does.val (by simp [execOp, Act.eval, e0, e1, go_sem]) rfl⟩⟩
            ·obtain ⟨k0, k1, -⟩ := hp
             have e0 : a.eval (.tmp 127) = .bool false := k0
             have e1 : a.eval (.tmp 121) = .bool true := k1
             have hgd := e1
             simp [Act.eval] at e0
             exact ⟨_, rfl, .inl ⟨(wanted_of rfl rfl hgd).trans rfl, Does.val (by simp [execOp, Act.eval, e0, go_sem]) rfl⟩⟩
            ·obtain ⟨k0, -⟩ := hp
             have e0 : a.eval (.tmp 128) = .bool false := k0
             have hgd := e0
             exact ⟨_, rfl, .inl ⟨(wanted_of rfl rfl hgd).trans rfl, ld_Vec rfl ((hs 5 rfl).trans ev5) (k5.below hB) rfl rfl rfl rfl rfl rfl rfl rfl⟩⟩
            ·obtain ⟨k0, -⟩ := hp
             have e0 : a.eval (.tmp 128) = .bool false := k0
             have hgd := e0
             exact ⟨_, rfl, .inl ⟨(wanted_of rfl rfl hgd).trans rfl, ld_Vec rfl ((hs 7 rfl).trans ev7) (k7.below hB) rfl rfl rfl rfl rfl rfl rfl rfl⟩⟩
            ·obtain ⟨k0, k1, k2, -⟩ := hp
             have e0 : a.eval (.tmp 129) = .agg #[aac0, aac1, aac2, aac3, aac4, aac5, aac6, aac7] := k0
             have e1 : a.eval (.tmp 130) = .agg #[cd0, cd1, cd2, cd3, cd4, cd5, cd6, cd7] := k1
             have e2 : a.eval (.tmp 128) = .bool false := k2
             have hgd := e2
             exact ⟨_, rfl, .inl ⟨(wanted_of rfl rfl hgd).trans rfl, Does.rc (f := 25) (call2 rfl (fun _ => by simp [go_sem]) e0 e1) (vcp_any 30 30 aac0 aac1 aac2 aac3 aac4 aac5 aac6 aac7 cd0 cd1 cd2 cd3 cd4 cd5 cd6 cd7 aa c2 wx (k8.out.kp (.of hB)) (k9.out.kp (.of hB)) HBa.out HBc2.out (by omega))⟩⟩
            ·obtain ⟨k0, k1, -⟩ := hp
             have e0 : a.eval (.tmp 131) = .int .i64 (cmpV aa c2) := k0
             have e1 : a.eval (.tmp 128) = .bool false := k1
             have hgd := e1
             simp [Act.eval] at e0
             exact ⟨_, rfl, .inl ⟨(wanted_of rfl rfl hgd).trans rfl, Does.val (by simp [execOp, Act.eval, e0, go_sem, HGE.out]) rfl⟩⟩
            ·obtain ⟨k0, k1, k2, -⟩ := hp
             have e0 : a.eval (.tmp 128) = .bool false := k0
             have e1 : a.eval (.tmp 132) = .bool true := k1
             have e2 : a.eval (.tmp 121) = .bool true := k2
             have hgd := e2
             simp [Act.eval] at e0
             simp [Act.eval] at e1
             exact ⟨_, rfl, .inl ⟨(wanted_of rfl rfl hgd).trans rfl, Does.val (by simp [execOp, Act.eval, e0, e1, go_sem]) rfl⟩⟩
            ·obtain ⟨k0, k1, -⟩ := hp
             have e0 : a.eval (.tmp 121) = .bool true := k0
             have e1 : a.eval (.tmp 133) = .bool true := k1
             simp [Act.eval] at e0
             simp [Act.eval] at e1
             exact ⟨_, rfl, .inl ⟨wanted_none rfl, Does.val (by simp [execOp, Act.eval, e0, e1, go_sem]) rfl⟩⟩
            ·obtain ⟨k0, -⟩ := hp
             have e0 : a.eval (.tmp 134) = .bool true := k0
             simp [Act.eval] at e0
             exact ⟨_, rfl, .inl ⟨wanted_none rfl, Does.val (by simp [execOp, Act.eval, e0, go_sem]) rfl⟩⟩
            ·obtain ⟨k0, -⟩ := hp
             have e0 : a.eval (.tmp 135) = .bool true := k0
             have hgd := e0
             exact ⟨_, rfl, .inl ⟨(wanted_of rfl rfl hgd).trans rfl, Does.rc (f := 18) (call0 rfl (fun _ => by simp [go_sem])) (lives_any wx)⟩⟩
            ·obtain ⟨k0, k1, -⟩ := hp
             have e0 : a.eval (.tmp 135) = .bool true := k0
             have e1 : a.eval (.tmp 136) = .bool true := k1
             simp [Act.eval] at e0
             simp [Act.eval] at e1
             exact ⟨_, rfl, .inl ⟨wanted_none rfl, Does.val (by simp [execOp, Act.eval, e0, e1, go_sem]) rfl⟩⟩
            ·obtain ⟨k0, -⟩ := hp
             have e0 : a.eval (.tmp 137) = .bool true := k0
             simp [Act.eval] at e0
             exact ⟨_, rfl, .inl ⟨wanted_none rfl, Does.val (by simp [execOp, Act.eval, e0, go_sem]) rfl⟩⟩
           ·intro val wx hB hsp hdis
            have e29 : val 29 = .bool true := hsp 29 (by omega)
            rw [← HF.out]
            change wpList _ _ _ [] _ _
            simp only [puts, vals, List.map_cons, List.map_nil, List.foldl_cons, List.foldl_nil, if_true, Nat.zero_add, Nat.reduceAdd, e29, List.setIfInBounds_toArray, List.set_cons_succ, List.set_cons_zero]
            clear hsp hdis HF e29
            clear ev5 ev7 ev9 ev10
            obtain ⟨w3061, rfl⟩ : ∃ W : World, W = wx := ⟨_, rfl⟩
            have HS3062 := Lib.hid hB
            have ka := Lib.hid (Blw kd.out hB)
            clear hB
            go_wp2
            go_ret
            exact ⟨rfl, ka.out⟩
end Go.Proofs.YtonkbckgbfcnkaaGreat
namespace Go.Proofs.YtonkbckgbfcnkaaGreat
open Go.RowKit
theorem law_sides (A : Option Addr) (len cap : Nat) (l : List Int) (n : Int) (w : World) (hs : IsI w A len cap l) (hn : W.Is64 n) :
  Calls Tryz.prog 4 #[.slice A len cap, .int .i64 n] w fun e w' => e = .returned (.bool true) ∧ Below w.heap.size w w' :=
 sides_walk _ l n w ⟨A, len, cap, rfl, hs.2.1, hs.2.2.1, hs.2.2.2.1, hs.1⟩ hs.2.2.2.2 hn
end Go.Proofs.YtonkbckgbfcnkaaGreat
namespace Go.Proofs.YtonkbckgbfcnkaaGreat.planeSides
open Go.ChangeShapes Go.WideShapes Go.ChangeAt Go.RowKit
open Go.ChangeMaps (open_string shut_string)
set_option linter.unusedVariables false
theorem own : ownKnob Tryz.prog.godebug = none := by kernel_rfl
theorem laidOut : laidOutB Tryz.prog = true := by kernel_rfl
set_option maxRecDepth 100000 in
theorem lifted (os : Os) (started : os.Started) (H : Type) (enc : TypeId × Value → H) :
  ReturnsInHanded {} Tryz.checked os 4 .any (Rows.planeSidesSpec.pre6 enc Tryz.prog Tryz.f4 Rows.planeSidesRow.domain false) (Rows.planeSidesSpec.post enc Tryz.prog Tryz.f4 false true false false) := by
 refine returnsInHanded_of_change (C := Tryz.checked) own started (by kernel_rfl) Tryz.func4
  (ChangeSpec.witness6 (enc := enc) (C := Tryz.checked) false ⟨#[], #[.slice none 0 0, .int .i64 0], []⟩ 8 (by kernel_rfl) (by kernel_rfl) (by kernel_rfl) (by kernel_rfl)) ?_
 intro W base args ds gs before hval0 hW hcnd _
 have hval : ∀ (j : Nat) t v, Tryz.f4.params[j]? = some t → args[j]? = some v → Value.okWide Tryz.prog W .any base t v := hval0
 have hW' := hW
 obtain ⟨p, q, hA0, hV, rfl, hfz, hnd⟩ := hW
 have hA : DataW.TrodAll enc Tryz.prog W 0 (fun _ => true) true Tryz.f4.params.toList args.toList ds p := hA0
 rw [Tryz.params4] at hA hval
 obtain ⟨v0, vs0, d0, ds0, p0, q0, hargs, rfl, rfl, h0, r0⟩ := trodAll_cons hA
 obtain ⟨v1, vs1, d1, ds1, p1, q1, rfl, rfl, rfl, h1, r1⟩ := trodAll_cons r0
 obtain ⟨rfl, rfl, rfl⟩ := trodAll_nil r1
 obtain rfl : args = #[v0, v1] := by cases args; simp_all
 obtain ⟨rfl, rfl⟩ := trodVars_none hV
 obtain ⟨a0, len0, cap0, rfl⟩ := okWide_slice Tryz.underlying22 (hval 0 22 v0 rfl rfl)
 have k0 := h0
 have lt0 : ∀ x ∈ p0, x.block < W.heap.size := by obtain ⟨m, hm⟩ := k0; exact DataW.trod_lt m _ _ _ hm
 obtain ⟨z0, w0⟩ : ∃ zs, IsI W a0 len0 cap0 zs := by
  obtain ⟨fuel, hf⟩ := h0
  rcases open_ints Tryz.underlying22 Tryz.underlying3 (by kernel_rfl) hf with ⟨hcs, _⟩ | ⟨x, l, c, zs, hcs, _, hl, hm, hz, _, hcell, hwz⟩
  ·simp [Value.cells] at hcs
   obtain ⟨rfl, rfl, rfl⟩ := hcs
   exact ⟨[], isI_nil _⟩
  ·simp [Value.cells] at hcs
   obtain ⟨rfl, rfl, rfl⟩ := hcs
   exact isI_of hl hm (by simpa using hz) hcell hwz
 obtain ⟨a1, rfl, rfl, rfl, w1⟩ := open_int Tryz.underlying3 (hval 1 3 v1 rfl rfl) h1
 clear hA0 hval0
 refine (law_sides a0 len0 cap0 z0 a1 W w0 (is64_of w1)).mono fun e W' ⟨he, bel⟩ => ?_
 subst he
 exact ⟨_, rfl, _, _, _, [], _, [], hW', trodAll_mk1 (shut_bool Tryz.underlying4 _), (trodAll_cons_mk (Below.trod laidOut (by kernel_rfl) (of_decide_eq_true (by kernel_rfl)) k0 bel lt0) (trodAll_cons_mk (shut_int Tryz.underlying3 w1) trodAll_mk0)), rfl, bel.frame _, fun h => by cases h⟩
theorem over : Rows.planeSidesRow.holds Tryz.pinned (OpenSpec.ofChange Rows.planeSidesSpec) :=
 OpenClaim.holds_of_wide 4 Tryz.f4 rfl rfl rfl rfl rfl rfl rfl ⟨rfl, rfl, rfl, rfl, rfl⟩ rfl rfl rfl rfl rfl (by kernel_rfl) Tryz.func4 (by kernel_rfl)
  (of_decide_eq_true (by kernel_rfl)) (by unfold Func.isWrapper; first | (rw [if_pos (by decide +kernel)]; kernel_rfl) | (rw [if_neg (by decide +kernel)]; exact ⟨rfl, rfl⟩))
  (fun os started H enc _ => lifted os started H enc)
theorem proved : Rows.PlaneSidesSaid := over
#print axioms proved
end Go.Proofs.YtonkbckgbfcnkaaGreat.planeSides
