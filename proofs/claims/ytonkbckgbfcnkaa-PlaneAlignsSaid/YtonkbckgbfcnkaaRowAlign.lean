/-
 THE LAW PlaneAligns: for every input it returns true, and each argument reads afterwards as it read before. Its walk: LawAlignI; here the row's step.
-/
import Derived.Test.YtonkbckgbfcnkaaMemI
import Derived.OpenShut
import Derived.Test.YtonkbckgbfcnkaaWalkLives
import Derived.Test.YtonkbckgbfcnkaaRef5C
import Derived.Test.YtonkbckgbfcnkaaRef5E
import Derived.WalkKit
import Derived.ProofKit
import Derived.ShutString
import Derived.ChangeOld
import Derived.Below
import Derived.SizedLaws
namespace Go.Proofs.Ytonkbckgbfcnkaa
open Go.RowKit
/-- What is told of a slice of ints that came in. -/
def IsI (w : World) (a : Option Addr) (len cap : Nat) (l : List Int) : Prop := Rd w w.heap.size a (il l) ∧ len = l.length ∧ len ≤ cap ∧ cap ≤ maxLen ∧ ∀ x ∈ l, W.Is64 x
theorem isI_of {w : World} {x : Addr} {len cap : Nat} {zs : List Int} (hl : len ≤ cap) (hm : cap ≤ maxLen) (hz : zs.length = cap) (hcell : ∀ i, i < zs.length → w.cell? (x.add i) = some (.int .i64 (zs.getD i 0))) (hwf : ∀ n ∈ zs, (Lit.int .i64 n).wf = true) :
  ∃ l, IsI w (some x) len cap l := by
 refine ⟨zs.take len, ?_, by simp; omega, hl, hm, ?_⟩
 ·intro hn
  simp at hn
  obtain ⟨b, o, rfl, hc⟩ := ints_at hcell (by omega)
  refine ⟨b, o, rfl, ?_, fun j u hu => ?_⟩
  ·exact World.block_lt_of_cell? w ⟨b, o + 0, none⟩ (hc 0 (by omega))
  ·have hj : j < (il (zs.take len)).length := (List.getElem?_eq_some_iff.1 hu).1
   simp at hj
   rw [hc j (by omega), ← hu]
   have hjz : j < zs.length := by omega
   simp only [il]
   rw [List.getElem?_map, List.getElem?_take, if_pos (by omega), List.getElem?_eq_getElem hjz]
   simp only [Option.map_some, List.getD, List.getElem?_eq_getElem hjz, Option.getD_some]
 ·intro n hn
  have hwj := hwf n (List.mem_of_mem_take hn)
  have := bounds_i64 hwj
  unfold W.Is64
  omega
theorem isI_nil (w : World) : IsI w none 0 0 [] := ⟨Rd.nil _ _ _, rfl, Nat.le_refl _, by decide, by simp⟩
theorem is64_of {n : Int} (h : (Lit.int .i64 n).wf = true) : W.Is64 n := by
 have := bounds_i64 h
 unfold W.Is64
 omega
end Go.Proofs.Ytonkbckgbfcnkaa
namespace Go.Proofs.Ytonkbckgbfcnkaa
set_option maxHeartbeats 16000000
open Go.RowKit
attribute [local go_sem] run_store_one
set_option linter.unusedVariables false
theorem sq_zero {x y : Rat} (h : x * x + y * y = 0) : x = 0 ∧ y = 0 := by
 have sq : ∀ z : Rat, 0 ≤ z * z ∧ (z * z = 0 → z = 0) := by
  intro z
  rcases Rat.le_total (a := 0) (b := z) with h | h
  ·refine ⟨Rat.mul_nonneg h h, fun e => ?_⟩
   by_cases hz : z = 0
   ·exact hz
   ·have := Rat.mul_pos (Rat.lt_of_le_of_ne h (Ne.symm hz)) (Rat.lt_of_le_of_ne h (Ne.symm hz)); grind
  ·have h1 : 0 ≤ -z := by grind
   have e1 : z * z = -z * -z := by grind
   refine ⟨by rw [e1]; exact Rat.mul_nonneg h1 h1, fun e => ?_⟩
   by_cases hz : z = 0
   ·exact hz
   ·have h2 : 0 < -z := Rat.lt_of_le_of_ne h1 (by grind)
    have := Rat.mul_pos h2 h2; grind
 have h1 := sq x; have h2 := sq y
 exact ⟨h1.2 (by grind), h2.2 (by grind)⟩
theorem dot_zero {v : Rat × Rat} : vdot v v = 0 ↔ v = (0, 0) := by
 constructor
 ·intro h
  obtain ⟨h1, h2⟩ := sq_zero h
  exact Prod.ext h1 h2
 ·intro h; rw [h]; decide +kernel
theorem valn_za {u : Rat × Rat} : valn (0, 0) u = ((0, 0), 1) := by
 unfold valn; rw [if_pos (.inl (dot_zero.2 rfl))]
theorem valn_zb {v : Rat × Rat} : valn v (0, 0) = ((0, 0), 1) := by
 unfold valn; rw [if_pos (.inr (dot_zero.2 rfl))]
theorem valn_df {v u : Rat × Rat} (hv : v ≠ (0, 0)) (hu : u ≠ (0, 0)) (h : vdot v v ≠ vdot u u) : valn v u = ((0, 0), 21) := by
 unfold valn; rw [if_neg (by rw [dot_zero, dot_zero]; exact fun e => e.elim hv hu), if_pos h]
theorem valn_ok {v u : Rat × Rat} (hv : v ≠ (0, 0)) (hu : u ≠ (0, 0)) (h : vdot v v = vdot u u) : valn v u = ((vdot v u / vdot v v, vcrs v u / vdot v v), 0) := by
 unfold valn; rw [if_neg (by rw [dot_zero, dot_zero]; exact fun e => e.elim hv hu), if_neg (fun e => e h)]
theorem rot_dot {t v : Rat × Rat} (h : Unit1 t) : vdot (vrot t v) (vrot t v) = vdot v v := by
 unfold Unit1 at h; simp only [vdot, vrot]; grind
theorem rot_ne {t v : Rat × Rat} (h : Unit1 t) (hv : v ≠ (0, 0)) : vrot t v ≠ (0, 0) := by
 intro e; apply hv; rw [← dot_zero, ← rot_dot h, e]; decide +kernel
theorem ali_rot {v u : Rat × Rat} (hv : v ≠ (0, 0)) : vrot (vdot v u / vdot v v, vcrs v u / vdot v v) v = u := by
 have h : vdot v v ≠ 0 := fun e => hv (dot_zero.1 e)
 simp only [vdot, vcrs, vrot] at h ⊢
 apply Prod.ext <;> simp only <;> grind
theorem ali_fwd {t v : Rat × Rat} (h : Unit1 t) (hv : v ≠ (0, 0)) : valn v (vrot t v) = (t, 0) := by
 have h0 : vdot v v ≠ 0 := fun e => hv (dot_zero.1 e)
 rw [valn_ok hv (rot_ne h hv) (rot_dot h).symm]
 simp only [vdot, vcrs, vrot] at h0 ⊢
 refine Prod.ext (Prod.ext ?_ ?_) rfl <;> simp only <;> grind
theorem ali_bck {t v : Rat × Rat} (h : Unit1 t) (hv : v ≠ (0, 0)) : valn (vrot t v) v = (vbak t, 0) := by
 have h0 : vdot v v ≠ 0 := fun e => hv (dot_zero.1 e)
 rw [valn_ok (rot_ne h hv) hv (rot_dot h), rot_dot h]
 simp only [vdot, vcrs, vrot, vbak] at h0 ⊢
 refine Prod.ext (Prod.ext ?_ ?_) rfl <;> simp only <;> grind
theorem trv {a b : Rat × Rat} (h : a = b) : true = decide (a = b) := (decide_eq_true h).symm
theorem flv {a b : Rat × Rat} (h : a ≠ b) : false = decide (a = b) := (decide_eq_false h).symm
theorem bv_z {k : Nat} (h : 0 < k) : Bv k ((0, 0) : Rat × Rat) := ⟨Bq.zero h, Bq.zero h⟩
theorem bv_ali {v u : Rat × Rat} (h : Bv 7 v) (g : Bv 7 u) : Bv 58 (vdot v u / vdot v v, vcrs v u / vdot v v) := ⟨(h.dot g).div (h.dot h) (by omega), (h.crs g).div (h.dot h) (by omega)⟩
set_option maxRecDepth 100000 in
theorem align_walk (sl : Value) (l : List Int) (n how : Int) (w : World) (hs : Sr w sl l) (hl : ∀ x ∈ l, W.Is64 x) (hn : W.Is64 n) (hh : W.Is64 how) :
  Calls Try.prog 3 #[sl, .int .i64 n, .int .i64 how] w fun e w' => e = .returned (.bool true) ∧ Below w.heap.size w w' := by
 have HS := Lib.hid hs; have HL := Lib.hid hl; have HN := Lib.hid hn
 clear hs hl hn
 go_enter Try.func3, Try.ntmps3
 go_wp2_with fail
 have HBREFL := Lib.hid (Below.refl w.heap.size w)
 have hc2 := vec_any sl l 0 w (HS.out.below HBREFL.out) HL.out (by omega) (by omega)
 (with_reducible refine hc2.mono ?_)
 clear hc2
 rintro e w1 ⟨aa, hb7aa, aac0, aac1, aac2, aac3, aac4, aac5, aac6, aac7, rfl, hI2, hb2⟩
 have HBaa := Lib.hid hb7aa; clear hb7aa
 have HS3 := Lib.hid hb2
 have HB4 := Lib.hid (Blw HBREFL.out hb2)
 have hgaa := HB4.out.size
 have F5 := Lib.hid hI2
 obtain ⟨o_aac0, o_aac1, o_aac2, o_aac3, o_aac4, o_aac5, o_aac6, o_aac7⟩ := hI2.ones
 clear hI2 hb2
 go_wp2_with fail
 generalize hW : w1.alloc _ = W6
 obtain ⟨k9f, hB⟩ := box1 hW
 clear hW
 have HS8 := Lib.hid hB
 have HB9 := Lib.hid (Blw HB4.out hB)
 clear hB
 have k4m := vec_any sl l 2 W6 (HS.out.below HB9.out) HL.out (by omega) (by omega)
 (with_reducible refine k4m.mono ?_)
 clear k4m
 rintro e w10 ⟨bb, hb7bb, bbc0, bbc1, bbc2, bbc3, bbc4, bbc5, bbc6, bbc7, rfl, k2f, k2g⟩
 have HBbb := Lib.hid hb7bb; clear hb7bb
 have HS12 := Lib.hid k2g
 have k9g := Lib.hid (Blw HB9.out k2g)
 have F14 := Lib.hid k2f
 obtain ⟨o_bbc0, o_bbc1, o_bbc2, o_bbc3, o_bbc4, o_bbc5, o_bbc6, o_bbc7⟩ := k2f.ones
 clear k2f k2g
 go_wp2_with fail
 have k4n := (k9f.below HS12.out)
 have kc8 := k4n.lt
 generalize hW : w10.alloc _ = W18
 obtain ⟨k9h, hB⟩ := box1 hW
 clear hW
 have HS20 := Lib.hid hB
 have k9i := Lib.hid (Blw k9g.out hB)
 clear hB
 have k4o := turn_any n W18 HN.out
 (with_reducible refine k4o.mono ?_)
 clear k4o
 rintro e w22 ⟨t, hb7t, hut, tc0, tc1, tc2, tc3, tc4, tc5, tc6, tc7, rfl, k2h, k2i⟩
 have HBt := Lib.hid hb7t; clear hb7t
 have HUt := Lib.hid hut; clear hut
 have HS24 := Lib.hid k2i
 have k9j := Lib.hid (Blw k9i.out k2i)
 have F26 := Lib.hid k2h
 obtain ⟨o_tc0, o_tc1, o_tc2, o_tc3, o_tc4, o_tc5, o_tc6, o_tc7⟩ := k2h.ones
 clear k2h k2i
 have k2j := ((k4n.below HS20.out).below HS24.out)
 obtain ⟨kc9, kca, kcb, kcc, kcd, kce, kcf, kcg, kch, l38⟩ := k2j.f8
 go_wp2_with fail
 have kci := k2j.lt
 generalize hW : w22.alloc _ = W40
 obtain ⟨k9m, hB⟩ := box1 hW
 clear hW
 clear l38
 have HS42 := Lib.hid hB
 have k9n := Lib.hid (Blw k9j.out hB)
 clear hB
 have F44 := Lib.hid (F26.out.kp (.of HS42.out))
 have F45 := Lib.hid (((((F5.out.kp (.of HS8.out)).kp (.of HS12.out)).kp (.of HS20.out)).kp (.of HS24.out)).kp (.of HS42.out))
 have k4p := vrot_any (7) (7) tc0 tc1 tc2 tc3 tc4 tc5 tc6 tc7 aac0 aac1 aac2 aac3 aac4 aac5 aac6 aac7 (t) (aa) W40 F44.out F45.out HBt.out HBaa.out (by omega)
 (with_reducible refine k4p.mono ?_)
 clear k4p
 rintro e w46 ⟨c0, c1, c2, c3, c4, c5, c6, c7, rfl, k2k, k2l⟩
 have HS48 := Lib.hid k2l
 have k9o := Lib.hid (Blw k9n.out k2l)
 have F50 := Lib.hid k2k
 obtain ⟨o_c0, o_c1, o_c2, o_c3, o_c4, o_c5, o_c6, o_c7⟩ := k2k.ones
 clear k2k k2l
 have k0k := ((k2j.below HS42.out).below HS48.out)
 obtain ⟨kcj, kck, kcl, kcm, kcn, kco, kcp, kcq, kcr, l62⟩ := k0k.f8
 have k0I := (((k9h.below HS24.out).below HS42.out).below HS48.out)
 obtain ⟨kcs, kct, kcu, kcv, kcw, kcx, kcy, kcz, kcA, l74⟩ := k0I.f8
 have k0J := (k9m.below HS48.out)
 obtain ⟨kcB, kcC, kcD, kcE, kcF, kcG, kcH, kcI, kcJ, l86⟩ := k0J.f8
 go_upto_region 5 with fail
 have kcK := k0k.lt
 generalize hW : w46.alloc _ = W88
 obtain ⟨kJ, hB⟩ := box1 hW
 clear hW
 clear l62 l74 l86
 have HS90 := Lib.hid hB
 have k0P := Lib.hid (Blw k9o.out hB)
 clear hB
 by_cases h4 : how.tmod 4 = 0
 ·skip
  have hq : (how.tmod 4 == 0) = true := beq_iff_eq.2 h4
  clear h4
  have kb := (k0k.below HS90.out)
  obtain ⟨k1D, k1E, k1F, k1G, k1H, k1I, k1J, k1K, k1L, kK⟩ := kb.f8
  have kk := (k0I.below HS90.out)
  obtain ⟨k1M, k1N, k1O, k1P, k1Q, k1R, k1S, k1T, k1U, kL⟩ := kk.f8
  have kl := (k0J.below HS90.out)
  obtain ⟨k1V, k1W, k1X, k1Y, k1Z, k20, k21, k22, k23, kM⟩ := kl.f8
  obtain ⟨k24, k25, k26, k27, k28, k29, k2a, k2b, k2c, kN⟩ := kJ.f8
  go_wp2_with fail
  have k2m := (kb).set_ 0 (.bool false)
  have k2n := (k2m).set_ 1 (.slice none 0 0)
  have k2o := (k2n).set_ 2 (.bool false)
  have k2p := (k2o).set_ 3 (.slice none 0 0)
  have k2q := (k2p).set_ 4 (.bool false)
  have k2r := (k2q).set_ 5 (.slice none 0 0)
  have k2s := (k2r).set_ 6 (.bool false)
  have k4q := (k2s).set_ 7 (.slice none 0 0)
  have hkp : Kp W88 ((((((((W88.setCell ⟨w1.heap.size, 0, none⟩ (.bool false)).setCell ⟨w1.heap.size, 1, none⟩ (.slice none 0 0)).setCell ⟨w1.heap.size, 2, none⟩ (.bool false)).setCell ⟨w1.heap.size, 3, none⟩ (.slice none 0 0)).setCell ⟨w1.heap.size, 4, none⟩ (.bool false)).setCell ⟨w1.heap.size, 5, none⟩ (.slice none 0 0)).setCell ⟨w1.heap.size, 6, none⟩ (.bool false)).setCell ⟨w1.heap.size, 7, none⟩ (.slice none 0 0)) := ((((((((Kp.refl _).set_ (kb) (by decide) _).set_ (k2m) (by decide) _).set_ (k2n) (by decide) _).set_ (k2o) (by decide) _).set_ (k2p) (by decide) _).set_ (k2q) (by decide) _).set_ (k2r) (by decide) _).set_ (k2s) (by decide) _
  obtain ⟨W146, hW⟩ : ∃ W, W = (((((((W88.setCell ⟨w1.heap.size, 0, none⟩ (.bool false)).setCell ⟨w1.heap.size, 1, none⟩ (.slice none 0 0)).setCell ⟨w1.heap.size, 2, none⟩ (.bool false)).setCell ⟨w1.heap.size, 3, none⟩ (.slice none 0 0)).setCell ⟨w1.heap.size, 4, none⟩ (.bool false)).setCell ⟨w1.heap.size, 5, none⟩ (.slice none 0 0)).setCell ⟨w1.heap.size, 6, none⟩ (.bool false)).setCell ⟨w1.heap.size, 7, none⟩ (.slice none 0 0) := ⟨_, rfl⟩
  rw [← hW]
  rw [← hW] at hkp
  have hB : Below w.heap.size w W146 := by rw [hW]; exact bel8 (k0P.out) (by first | simp | omega)
  have k9s := Lib.hid hB; clear hB
  have k9t := Lib.hid (((((F14.out.kp (.of HS20.out)).kp (.of HS24.out)).kp (.of HS42.out)).kp (.of HS48.out)).kp (.of HS90.out))
  have k4r := Lib.hid (k9t.out.kp hkp)
  have k9u := Lib.hid (F50.out.kp (.of HS90.out))
  have k9v := Lib.hid (k9u.out.kp hkp)
  have k9w : Bx W146 (w1.heap.size) 28 [.bool false, .slice none 0 0, .bool false, .slice none 0 0, .bool false, .slice none 0 0, .bool false, .slice none 0 0] := by rw [hW]; exact k4q
  have k9x : Bx W146 (w10.heap.size) 28 [bbc0, bbc1, bbc2, bbc3, bbc4, bbc5, bbc6, bbc7] := by rw [hW]; exact ((((((((kk).far_ (g' := w1.heap.size) (j := 0) (by omega) (.bool false)).far_ (g' := w1.heap.size) (j := 1) (by omega) (.slice none 0 0)).far_ (g' := w1.heap.size) (j := 2) (by omega) (.bool false)).far_ (g' := w1.heap.size) (j := 3) (by omega) (.slice none 0 0)).far_ (g' := w1.heap.size) (j := 4) (by omega) (.bool false)).far_ (g' := w1.heap.size) (j := 5) (by omega) (.slice none 0 0)).far_ (g' := w1.heap.size) (j := 6) (by omega) (.bool false)).far_ (g' := w1.heap.size) (j := 7) (by omega) (.slice none 0 0)
  have k9y : Bx W146 (w22.heap.size) 31 [tc0, tc1, tc2, tc3, tc4, tc5, tc6, tc7] := by rw [hW]; exact ((((((((kl).far_ (g' := w1.heap.size) (j := 0) (by omega) (.bool false)).far_ (g' := w1.heap.size) (j := 1) (by omega) (.slice none 0 0)).far_ (g' := w1.heap.size) (j := 2) (by omega) (.bool false)).far_ (g' := w1.heap.size) (j := 3) (by omega) (.slice none 0 0)).far_ (g' := w1.heap.size) (j := 4) (by omega) (.bool false)).far_ (g' := w1.heap.size) (j := 5) (by omega) (.slice none 0 0)).far_ (g' := w1.heap.size) (j := 6) (by omega) (.bool false)).far_ (g' := w1.heap.size) (j := 7) (by omega) (.slice none 0 0)
  have k9z : Bx W146 (w46.heap.size) 28 [c0, c1, c2, c3, c4, c5, c6, c7] := by rw [hW]; exact ((((((((kJ).far_ (g' := w1.heap.size) (j := 0) (by omega) (.bool false)).far_ (g' := w1.heap.size) (j := 1) (by omega) (.slice none 0 0)).far_ (g' := w1.heap.size) (j := 2) (by omega) (.bool false)).far_ (g' := w1.heap.size) (j := 3) (by omega) (.slice none 0 0)).far_ (g' := w1.heap.size) (j := 4) (by omega) (.bool false)).far_ (g' := w1.heap.size) (j := 5) (by omega) (.slice none 0 0)).far_ (g' := w1.heap.size) (j := 6) (by omega) (.bool false)).far_ (g' := w1.heap.size) (j := 7) (by omega) (.slice none 0 0)
  clear hW hkp k2m k2n k2o k2p k2q k2r k2s k4q
  have k2t := valn_any 7 7 (.bool false) (.slice none 0 0) (.bool false) (.slice none 0 0) (.bool false) (.slice none 0 0) (.bool false) (.slice none 0 0) bbc0 bbc1 bbc2 bbc3 bbc4 bbc5 bbc6 bbc7 ((0, 0)) (bb) W146 (VecV.zero _) k4r.out (bv_z (by omega)) HBbb.out (by omega)
  rw [valn_za] at k2t
  (with_reducible refine k2t.mono ?_)
  clear k2t
  rintro e w160 ⟨x0, x1, x2, x3, x4, x5, x6, x7, rfl, k2u, k2v⟩
  clear kK kL kM kN
  have HS162 := Lib.hid k2v
  have k9A := Lib.hid (Blw k9s.out k2v)
  have k9B := Lib.hid k2u
  obtain ⟨o_x0, o_x1, o_x2, o_x3, o_x4, o_x5, o_x6, o_x7⟩ := k2u.ones
  clear k2u k2v
  have k2w := (k9w.below HS162.out)
  obtain ⟨kcL, kcM, kcN, kcO, kcP, kcQ, kcR, kcS, kcT, k9C⟩ := k2w.f8
  have k4s := (k9x.below HS162.out)
  obtain ⟨kcU, kcV, kcW, kcX, kcY, kcZ, kd0, kd1, kd2, k9D⟩ := k4s.f8
  have k4t := (k9y.below HS162.out)
  obtain ⟨kd3, kd4, kd5, kd6, kd7, kd8, kd9, kda, kdb, k9E⟩ := k4t.f8
  have k4u := (k9z.below HS162.out)
  obtain ⟨kdc, kdd, kde, kdf, kdg, kdh, kdi, kdj, kdk, k9F⟩ := k4u.f8
  go_wp2_with fail
  have kdl := k2w.lt
  generalize hW : w160.alloc _ = W214
  obtain ⟨k9G, hB⟩ := box1 hW
  clear hW
  clear k9C k9D k9E k9F
  have HS216 := Lib.hid hB
  have k9H := Lib.hid (Blw k9A.out hB)
  clear hB
  have k9I := Lib.hid ((k4r.out.kp (.of HS162.out)).kp (.of HS216.out))
  have k2x := valn5_any 7 7 (.bool false) (.slice none 0 0) (.bool false) (.slice none 0 0) (.bool false) (.slice none 0 0) (.bool false) (.slice none 0 0) bbc0 bbc1 bbc2 bbc3 bbc4 bbc5 bbc6 bbc7 ((0, 0)) (bb) W214 (VecV.zero _) k9I.out (bv_z (by omega)) HBbb.out (by omega)
  rw [valn_za] at k2x
  (with_reducible refine k2x.mono ?_)
  clear k2x
  rintro e w219 ⟨y0, y1, y2, y3, y4, y5, y6, y7, rfl, k2y, k2z⟩
  have HS221 := Lib.hid k2z
  have k9J := Lib.hid (Blw k9H.out k2z)
  have k9K := Lib.hid k2y
  obtain ⟨o_y0, o_y1, o_y2, o_y3, o_y4, o_y5, o_y6, o_y7⟩ := k2y.ones
  clear k2y k2z
  have k2A := ((k2w.below HS216.out).below HS221.out)
  obtain ⟨kdm, kdn, kdo, kdp, kdq, kdr, kds, kdt, kdu, k9L⟩ := k2A.f8
  have k4v := ((k4s.below HS216.out).below HS221.out)
  obtain ⟨kdv, kdw, kdx, kdy, kdz, kdA, kdB, kdC, kdD, k9M⟩ := k4v.f8
  have k4w := ((k4t.below HS216.out).below HS221.out)
  obtain ⟨kdE, kdF, kdG, kdH, kdI, kdJ, kdK, kdL, kdM, k9N⟩ := k4w.f8
  have k4x := ((k4u.below HS216.out).below HS221.out)
  obtain ⟨kdN, kdO, kdP, kdQ, kdR, kdS, kdT, kdU, kdV, k9O⟩ := k4x.f8
  have k4y := (k9G.below HS221.out)
  obtain ⟨kdW, kdX, kdY, kdZ, ke0, ke1, ke2, ke3, ke4, k9P⟩ := k4y.f8
  go_upto_region 9 with fail
  have ke5 := k2A.lt
  generalize hW : w219.alloc _ = W285
  obtain ⟨k9Q, hB⟩ := box1 hW
  clear hW
  clear k9L k9M k9N k9O k9P
  have HS287 := Lib.hid hB
  have k2B := Lib.hid (Blw k9J.out hB)
  clear hB
  go_upto_region 9 with fail
  generalize hW : W285.drew = W289
  have hB : Below W285.heap.size W285 W289 := by rw [← hW]; exact (Below.refl _ _).drew
  have HS290 := Lib.hid hB
  have k9R := Lib.hid (Blw k2B.out hB)
  clear hB
  have k4z := ((k4y.below HS287.out).below HS290.out)
  have k4A := (k9Q.below HS290.out)
  have k9S := Lib.hid ((((k9B.out.kp (.of HS216.out)).kp (.of HS221.out)).kp (.of HS287.out)).kp (.of HS290.out))
  have k9T := Lib.hid ((k9K.out.kp (.of HS287.out)).kp (.of HS290.out))
  generalize hF : ({ tmps := _, defers := _ } : Act) = F
  have ev7 : F.eval (.tmp 7) = .pointer (some ⟨w1.heap.size, 0, none⟩) := by rw [← hF]; rfl
  have ev8 : F.eval (.tmp 8) = .pointer (some ⟨w10.heap.size, 0, none⟩) := by rw [← hF]; rfl
  have ev11 : F.eval (.tmp 11) = .pointer (some ⟨w160.heap.size, 0, none⟩) := by rw [← hF]; rfl
  have ev12 : F.eval (.tmp 12) = .int .i64 1 := by rw [← hF]; rfl
  have ev13 : F.eval (.tmp 13) = .pointer (some ⟨w219.heap.size, 0, none⟩) := by rw [← hF]; rfl
  have ev14 : F.eval (.tmp 14) = .int .i64 1 := by rw [← hF]; rfl
  have HF := Lib.hid hF; clear hF
  refine wp_flow_tabG true hW 21 [(46, []), (47, []), (48, [0, 1]), (49, [2]), (50, [3]), (51, [3]), (52, [4, 5, 3]), (53, [6, 3]), (54, [3, 7]), (55, [8]), (56, [9]), (57, [10, 9]), (58, [11, 9]), (59, [12]), (60, [12]), (61, [13, 14, 12]), (62, [12]), (63, [15, 16, 12]), (64, [17, 12]), (65, [12, 18, 9]), (66, [9, 19])] [SC (.int .i64 1), SC (.int .i64 1), SC (.bool false), SC (.bool false), SC (.agg #[x0, x1, x2, x3, x4, x5, x6, x7]), SC (.agg #[y0, y1, y2, y3, y4, y5, y6, y7]), SC (.bool true), SC (.bool false), SC (.bool false), SC (.bool false), SC (.int .i64 1), SC (.bool false), SC (.bool false), SC undef, SC undef, SC undef, SC undef, SC undef, SC undef, SC (.bool false), SC (.bool false)] [false, false, false, false, false, false, false, false, false, false, false, false, false, false, false, false, false, false, false, false, false] (by kernel_rfl) (by kernel_rfl) (by kernel_rfl) (by kernel_rfl) (by kernel_rfl) (by rw [← HF.out]; simp) ⟨SC.mono _, SC.mono _, SC.mono _, SC.mono _, SC.mono _, SC.mono _, SC.mono _, SC.mono _, SC.mono _, SC.mono _, SC.mono _, SC.mono _, SC.mono _, SC.mono _, SC.mono _, SC.mono _, SC.mono _, SC.mono _, SC.mono _, SC.mono _, SC.mono _, trivial⟩ ?_ ?_
  ·intro kq hkq a wx hB hp hs
   have hcase : kq = 0 ∨ kq = 1 ∨ kq = 2 ∨ kq = 3 ∨ kq = 4 ∨ kq = 5 ∨ kq = 6 ∨ kq = 7 ∨ kq = 8 ∨ kq = 9 ∨ kq = 10 ∨ kq = 11 ∨ kq = 12 ∨ kq = 13 ∨ kq = 14 ∨ kq = 15 ∨ kq = 16 ∨ kq = 17 ∨ kq = 18 ∨ kq = 19 ∨ kq = 20 := by omega
   rcases hcase with rfl | rfl | rfl | rfl | rfl | rfl | rfl | rfl | rfl | rfl | rfl | rfl | rfl | rfl | rfl | rfl | rfl | rfl | rfl | rfl | rfl
   ·clear hp
    have b12 := (hs 12 rfl).trans ev12
    simp [Act.eval] at b12
    exact ⟨_, rfl, .inl ⟨wanted_none rfl, Does.val (by simp [execOp, Act.eval, b12, go_sem]) rfl⟩⟩
   ·clear hp
    have b14 := (hs 14 rfl).trans ev14
    simp [Act.eval] at b14
    exact ⟨_, rfl, .inl ⟨wanted_none rfl, Does.val (by simp [execOp, Act.eval, b14, go_sem]) rfl⟩⟩
   ·obtain ⟨k0, k1, -⟩ := hp
    have e0 : a.eval (.tmp 46) = .int .i64 1 := k0
    have e1 : a.eval (.tmp 47) = .int .i64 1 := k1
    simp [Act.eval] at e0
    simp [Act.eval] at e1
    exact ⟨_, rfl, .inl ⟨wanted_none rfl, Does.val (by simp [execOp, Act.eval, e0, e1, go_sem]) rfl⟩⟩
   ·obtain ⟨k0, -⟩ := hp
    have e0 : a.eval (.tmp 48) = .bool false := k0
    simp [Act.eval] at e0
    exact ⟨_, rfl, .inl ⟨wanted_none rfl, Does.val (by simp [execOp, Act.eval, e0, go_sem]) rfl⟩⟩
   ·obtain ⟨k0, -⟩ := hp
    have e0 : a.eval (.tmp 49) = .bool false := k0
    have hgd := e0
    exact ⟨_, rfl, .inl ⟨(wanted_of rfl rfl hgd).trans rfl, ld_Turn rfl ((hs 11 rfl).trans ev11) (k4z.below hB) rfl rfl rfl rfl rfl rfl rfl rfl⟩⟩
   ·obtain ⟨k0, -⟩ := hp
    have e0 : a.eval (.tmp 49) = .bool false := k0
    have hgd := e0
    exact ⟨_, rfl, .inl ⟨(wanted_of rfl rfl hgd).trans rfl, ld_Turn rfl ((hs 13 rfl).trans ev13) (k4A.below hB) rfl rfl rfl rfl rfl rfl rfl rfl⟩⟩
   ·obtain ⟨k0, k1, k2, -⟩ := hp
    have e0 : a.eval (.tmp 50) = .agg #[x0, x1, x2, x3, x4, x5, x6, x7] := k0
    have e1 : a.eval (.tmp 51) = .agg #[y0, y1, y2, y3, y4, y5, y6, y7] := k1
    have e2 : a.eval (.tmp 49) = .bool false := k2
    have hgd := e2
    exact ⟨_, rfl, .inl ⟨(wanted_of rfl rfl hgd).trans rfl, Does.rc (f := 12) (call2 rfl (fun _ => by simp [go_sem]) e0 e1) (tsame5_any x0 x1 x2 x3 x4 x5 x6 x7 y0 y1 y2 y3 y4 y5 y6 y7 _ _ wx (k9S.out.kp (.of hB)) (k9T.out.kp (.of hB)) true (by simp))⟩⟩
   ·obtain ⟨k0, k1, -⟩ := hp
    have e0 : a.eval (.tmp 52) = .bool true := k0
    have e1 : a.eval (.tmp 49) = .bool false := k1
    have hgd := e1
    simp [Act.eval] at e0
    exact ⟨_, rfl, .inl ⟨(wanted_of rfl rfl hgd).trans rfl, Does.val (by simp [execOp, Act.eval, e0, go_sem]) rfl⟩⟩
   ·obtain ⟨k0, k1, -⟩ := hp
    have e0 : a.eval (.tmp 49) = .bool false := k0
    have e1 : a.eval (.tmp 53) = .bool false := k1
    simp [Act.eval] at e0
    simp [Act.eval] at e1
    exact ⟨_, rfl, .inl ⟨wanted_none rfl, Does.val (by simp [execOp, Act.eval, e0, e1, go_sem]) rfl⟩⟩
   ·obtain ⟨k0, -⟩ := hp
    have e0 : a.eval (.tmp 54) = .bool false := k0
    simp [Act.eval] at e0
    exact ⟨_, rfl, .inl ⟨wanted_none rfl, Does.val (by simp [execOp, Act.eval, e0, go_sem]) rfl⟩⟩
   ·obtain ⟨k0, -⟩ := hp
    have e0 : a.eval (.tmp 55) = .bool false := k0
    have b12 := (hs 12 rfl).trans ev12
    have hgd := e0
    simp [Act.eval] at b12
    exact ⟨_, rfl, .inl ⟨(wanted_of rfl rfl hgd).trans rfl, Does.val (by simp [execOp, Act.eval, b12, go_sem]) rfl⟩⟩
   ·obtain ⟨k0, k1, -⟩ := hp
    have e0 : a.eval (.tmp 56) = .int .i64 1 := k0
    have e1 : a.eval (.tmp 55) = .bool false := k1
    have hgd := e1
    simp [Act.eval] at e0
    exact ⟨_, rfl, .inl ⟨(wanted_of rfl rfl hgd).trans rfl, Does.val (by simp [execOp, Act.eval, e0, go_sem]) rfl⟩⟩
   ·obtain ⟨k0, k1, -⟩ := hp
    have e0 : a.eval (.tmp 57) = .bool false := k0
    have e1 : a.eval (.tmp 55) = .bool false := k1
    have hgd := e1
    simp [Act.eval] at e0
    exact ⟨_, rfl, .inl ⟨(wanted_of rfl rfl hgd).trans rfl, Does.val (by simp [execOp, Act.eval, e0, go_sem]) rfl⟩⟩
   ·obtain ⟨k0, -⟩ := hp
    have e0 : a.eval (.tmp 58) = .bool false := k0
    have b11 := (hs 11 rfl).trans ev11
    have hgd := e0
    exact ⟨_, rfl, .inr ⟨(wanted_of rfl rfl hgd).trans rfl, rfl, rfl⟩⟩
   ·obtain ⟨k0, -⟩ := hp
    have e0 : a.eval (.tmp 58) = .bool false := k0
    have b7 := (hs 7 rfl).trans ev7
    have hgd := e0
    exact ⟨_, rfl, .inr ⟨(wanted_of rfl rfl hgd).trans rfl, rfl, rfl⟩⟩
   ·obtain ⟨k0, k1, k2, -⟩ := hp
    have e0 : a.eval (.tmp 59) = undef := k0
    have e1 : a.eval (.tmp 60) = undef := k1
    have e2 : a.eval (.tmp 58) = .bool false := k2
    have hgd := e2
    exact ⟨_, rfl, .inr ⟨(wanted_of rfl rfl hgd).trans rfl, rfl, rfl⟩⟩
   ·obtain ⟨k0, -⟩ := hp
    have e0 : a.eval (.tmp 58) = .bool false := k0
    have b8 := (hs 8 rfl).trans ev8
    have hgd := e0
    exact ⟨_, rfl, .inr ⟨(wanted_of rfl rfl hgd).trans rfl, rfl, rfl⟩⟩
   ·obtain ⟨k0, k1, k2, -⟩ := hp
    have e0 : a.eval (.tmp 61) = undef := k0
    have e1 : a.eval (.tmp 62) = undef := k1
    have e2 : a.eval (.tmp 58) = .bool false := k2
    have hgd := e2
    exact ⟨_, rfl, .inr ⟨(wanted_of rfl rfl hgd).trans rfl, rfl, rfl⟩⟩
   ·obtain ⟨k0, k1, -⟩ := hp
    have e0 : a.eval (.tmp 63) = undef := k0
    have e1 : a.eval (.tmp 58) = .bool false := k1
    have hgd := e1
    exact ⟨_, rfl, .inr ⟨(wanted_of rfl rfl hgd).trans rfl, rfl, rfl⟩⟩
   ·obtain ⟨k0, k1, k2, -⟩ := hp
    have e0 : a.eval (.tmp 58) = .bool false := k0
    have e1 : a.eval (.tmp 64) = undef := k1
    have e2 : a.eval (.tmp 55) = .bool false := k2
    have hgd := e2
    simp [Act.eval] at e0
    simp [Act.eval] at e1
    exact ⟨_, rfl, .inl ⟨(wanted_of rfl rfl hgd).trans rfl, Does.val (by simp [execOp, Act.eval, e0, e1, go_sem]) rfl⟩⟩
   ·obtain ⟨k0, k1, -⟩ := hp
    have e0 : a.eval (.tmp 55) = .bool false := k0
    have e1 : a.eval (.tmp 65) = .bool false := k1
    simp [Act.eval] at e0
    simp [Act.eval] at e1
    exact ⟨_, rfl, .inl ⟨wanted_none rfl, Does.val (by simp [execOp, Act.eval, e0, e1, go_sem]) rfl⟩⟩
  ·intro val wx hB hsp hdis
   have e20 : val 20 = .bool false := hsp 20 (by omega)
   rw [← HF.out]
   change wpList _ _ _ [] _ _
   simp only [puts, vals, List.map_cons, List.map_nil, List.foldl_cons, List.foldl_nil, if_true, Nat.zero_add, Nat.reduceAdd, e20, List.setIfInBounds_toArray, List.set_cons_succ, List.set_cons_zero]
   clear hsp hdis HF e20
   clear ev7 ev8 ev11 ev12 ev13 ev14
   obtain ⟨w299, rfl⟩ : ∃ W : World, W = wx := ⟨_, rfl⟩
   have HS300 := Lib.hid hB
   have k9U := Lib.hid (Blw k9R.out hB)
   clear hB
   have k4B := (((k2A.below HS287.out).below HS290.out).below HS300.out)
   obtain ⟨ke6, ke7, ke8, ke9, kea, keb, kec, ked, kee, k9V⟩ := k4B.f8
   have k4C := (((k4v.below HS287.out).below HS290.out).below HS300.out)
   obtain ⟨kef, keg, keh, kei, kej, kek, kel, kem, ken, k9W⟩ := k4C.f8
   have k4D := (((k4w.below HS287.out).below HS290.out).below HS300.out)
   obtain ⟨keo, kep, keq, ker, kes, ket, keu, kev, kew, k9X⟩ := k4D.f8
   have k4E := (((k4x.below HS287.out).below HS290.out).below HS300.out)
   obtain ⟨kex, key, kez, keA, keB, keC, keD, keE, keF, k9Y⟩ := k4E.f8
   have k4F := (k4z.below HS300.out)
   obtain ⟨keG, keH, keI, keJ, keK, keL, keM, keN, keO, k9Z⟩ := k4F.f8
   have km := (k4A.below HS300.out)
   obtain ⟨keP, keQ, keR, keS, keT, keU, keV, keW, keX, k0l⟩ := km.f8
   go_wp2_with fail
   have ka0 := Lib.hid ((((((k9v.out.kp (.of HS162.out)).kp (.of HS216.out)).kp (.of HS221.out)).kp (.of HS287.out)).kp (.of HS290.out)).kp (.of HS300.out))
   have k2C := valn_any 29 7 c0 c1 c2 c3 c4 c5 c6 c7 (.bool false) (.slice none 0 0) (.bool false) (.slice none 0 0) (.bool false) (.slice none 0 0) (.bool false) (.slice none 0 0) (vrot t aa) ((0, 0)) w299 ka0.out (VecV.zero _) (HBt.out.rot HBaa.out) (bv_z (by omega)) (by omega)
   rw [valn_zb] at k2C
   (with_reducible refine k2C.mono ?_)
   clear k2C
   rintro e w375 ⟨g_0, g_1, g_2, g_3, g_4, g_5, g_6, g_7, rfl, k4G, k2D⟩
   clear k9V k9W k9X k9Y k9Z k0l
   have HS377 := Lib.hid k2D
   have ka1 := Lib.hid (Blw k9U.out k2D)
   obtain ⟨o_g_0, o_g_1, o_g_2, o_g_3, o_g_4, o_g_5, o_g_6, o_g_7⟩ := k4G.ones
   clear k4G k2D
   have k0K := (k4B.below HS377.out)
   obtain ⟨keY, keZ, kf0, kf1, kf2, kf3, kf4, kf5, kf6, k2E⟩ := k0K.f8
   have k0Q := (k4C.below HS377.out)
   obtain ⟨kf7, kf8, kf9, kfa, kfb, kfc, kfd, kfe, kff, k2F⟩ := k0Q.f8
   have k0R := (k4D.below HS377.out)
   obtain ⟨kfg, kfh, kfi, kfj, kfk, kfl, kfm, kfn, kfo, k2G⟩ := k0R.f8
   have k0S := (k4E.below HS377.out)
   obtain ⟨kfp, kfq, kfr, kfs, kft, kfu, kfv, kfw, kfx, k2H⟩ := k0S.f8
   have k0T := (k4F.below HS377.out)
   obtain ⟨kfy, kfz, kfA, kfB, kfC, kfD, kfE, kfF, kfG, k2I⟩ := k0T.f8
   have k4H := (km.below HS377.out)
   obtain ⟨kfH, kfI, kfJ, kfK, kfL, kfM, kfN, kfO, kfP, ka2⟩ := k4H.f8
   go_upto_region 13 with fail
   have kfQ := k0K.lt
   generalize hW : w375.alloc _ = W453
   obtain ⟨ka3, hB⟩ := box1 hW
   clear hW
   clear k2E k2F k2G k2H k2I ka2
   have HS455 := Lib.hid hB
   have ka4 := Lib.hid (Blw ka1.out hB)
   clear hB
   go_upto_region 13 with fail
   generalize hF : ({ tmps := _, defers := _ } : Act) = F
   have ev16 : F.eval (.tmp 16) = .int .i64 1 := by rw [← hF]; rfl
   have HF := Lib.hid hF; clear hF
   refine wp_flow_tabG false rfl 6 [(76, []), (77, [0]), (78, [1]), (79, [2]), (80, [2, 3]), (6, [4])] [SC (.int .i64 1), SC (.bool true), SC (.bool true), SC (.bool true), SC (.bool true), SC (.bool true)] [false, false, false, false, false, false] (by kernel_rfl) (by kernel_rfl) (by kernel_rfl) (by kernel_rfl) (by kernel_rfl) (by rw [← HF.out]; simp) ⟨SC.mono _, SC.mono _, SC.mono _, SC.mono _, SC.mono _, SC.mono _, trivial⟩ ?_ ?_
   ·intro kq hkq a wx hB hp hs
    have hcase : kq = 0 ∨ kq = 1 ∨ kq = 2 ∨ kq = 3 ∨ kq = 4 ∨ kq = 5 := by omega
    rcases hcase with rfl | rfl | rfl | rfl | rfl | rfl
    ·clear hp
     have b16 := (hs 16 rfl).trans ev16
     simp [Act.eval] at b16
     exact ⟨_, rfl, .inl ⟨wanted_none rfl, Does.val (by simp [execOp, Act.eval, b16, go_sem]) rfl⟩⟩
    ·obtain ⟨k0, -⟩ := hp
     have e0 : a.eval (.tmp 76) = .int .i64 1 := k0
     simp [Act.eval] at e0
     exact ⟨_, rfl, .inl ⟨wanted_none rfl, Does.val (by simp [execOp, Act.eval, e0, go_sem]) rfl⟩⟩
    ·obtain ⟨k0, -⟩ := hp
     have e0 : a.eval (.tmp 77) = .bool true := k0
     simp [Act.eval] at e0
     exact ⟨_, rfl, .inl ⟨wanted_none rfl, Does.val (by simp [execOp, Act.eval, e0, go_sem]) rfl⟩⟩
    ·obtain ⟨k0, -⟩ := hp
     have e0 : a.eval (.tmp 78) = .bool true := k0
     have hgd := e0
     exact ⟨_, rfl, .inl ⟨(wanted_of rfl rfl hgd).trans rfl, Does.rc (f := 14) (call0 rfl (fun _ => by simp [go_sem])) (lives_any wx)⟩⟩
    ·obtain ⟨k0, k1, -⟩ := hp
     have e0 : a.eval (.tmp 78) = .bool true := k0
     have e1 : a.eval (.tmp 79) = .bool true := k1
     simp [Act.eval] at e0
     simp [Act.eval] at e1
     exact ⟨_, rfl, .inl ⟨wanted_none rfl, Does.val (by simp [execOp, Act.eval, e0, e1, go_sem]) rfl⟩⟩
    ·obtain ⟨k0, -⟩ := hp
     have e0 : a.eval (.tmp 80) = .bool true := k0
     simp [Act.eval] at e0
     exact ⟨_, rfl, .inl ⟨wanted_none rfl, Does.val (by simp [execOp, Act.eval, e0, go_sem]) rfl⟩⟩
   ·intro val wx hB hsp hdis
    have e5 : val 5 = .bool true := hsp 5 (by omega)
    rw [← HF.out]
    change wpList _ _ _ [] _ _
    simp only [puts, vals, List.map_cons, List.map_nil, List.foldl_cons, List.foldl_nil, if_true, Nat.zero_add, Nat.reduceAdd, e5, List.setIfInBounds_toArray, List.set_cons_succ, List.set_cons_zero]
    clear hsp hdis HF e5
    clear ev16
    obtain ⟨w458, rfl⟩ : ∃ W : World, W = wx := ⟨_, rfl⟩
    have HS459 := Lib.hid hB
    have ka5 := Lib.hid (Blw ka4.out hB)
    clear hB
    have ka6 := ((k0K.below HS455.out).below HS459.out)
    obtain ⟨kfR, kfS, kfT, kfU, kfV, kfW, kfX, kfY, kfZ, kg0⟩ := ka6.f8
    have ka7 := ((k0Q.below HS455.out).below HS459.out)
    obtain ⟨kg1, kg2, kg3, kg4, kg5, kg6, kg7, kg8, kg9, kga⟩ := ka7.f8
    have ka8 := ((k0R.below HS455.out).below HS459.out)
    obtain ⟨kgb, kgc, kgd, kge, kgf, kgg, kgh, kgi, kgj, kgk⟩ := ka8.f8
    have ka9 := ((k0S.below HS455.out).below HS459.out)
    obtain ⟨kgl, kgm, kgn, kgo, kgp, kgq, kgr, kgs, kgt, kgu⟩ := ka9.f8
    have kaa := ((k0T.below HS455.out).below HS459.out)
    obtain ⟨kgv, kgw, kgx, kgy, kgz, kgA, kgB, kgC, kgD, kgE⟩ := kaa.f8
    have kab := ((k4H.below HS455.out).below HS459.out)
    obtain ⟨kgF, kgG, kgH, kgI, kgJ, kgK, kgL, kgM, kgN, kgO⟩ := kab.f8
    have kac := (ka3.below HS459.out)
    obtain ⟨kgP, kgQ, kgR, kgS, kgT, kgU, kgV, kgW, kgX, kgY⟩ := kac.f8
    go_wp2
    go_ret
    exact ⟨rfl, ka5.out⟩
 have hq : (how.tmod 4 == 0) = false := beq_eq_false_iff_ne.2 h4
 clear h4
 by_cases hv : aa = (0, 0)
 ·have HV0 := Lib.hid hv
  have HZ1 := Lib.hid (show valn aa (vrot t aa) = ((0, 0), 1) by rw [hv]; exact valn_za)
  have HZ2 := Lib.hid (show valn (vrot t aa) aa = ((0, 0), 1) by rw [hv]; exact valn_zb)
  have HZ3 := Lib.hid (show valn aa bb = ((0, 0), 1) by rw [hv]; exact valn_za)
  clear hv
  skip
  have kb := (k0k.below HS90.out)
  obtain ⟨k1D, k1E, k1F, k1G, k1H, k1I, k1J, k1K, k1L, kK⟩ := kb.f8
  have kk := (k0I.below HS90.out)
  obtain ⟨k1M, k1N, k1O, k1P, k1Q, k1R, k1S, k1T, k1U, kL⟩ := kk.f8
  have kl := (k0J.below HS90.out)
  obtain ⟨k1V, k1W, k1X, k1Y, k1Z, k20, k21, k22, k23, kM⟩ := kl.f8
  obtain ⟨k24, k25, k26, k27, k28, k29, k2a, k2b, k2c, kN⟩ := kJ.f8
  go_wp2_with fail
  have ko := Lib.hid ((F45.out.kp (.of HS48.out)).kp (.of HS90.out))
  have kr := Lib.hid (((((F14.out.kp (.of HS20.out)).kp (.of HS24.out)).kp (.of HS42.out)).kp (.of HS48.out)).kp (.of HS90.out))
  have kc := valn_any 7 7 aac0 aac1 aac2 aac3 aac4 aac5 aac6 aac7 bbc0 bbc1 bbc2 bbc3 bbc4 bbc5 bbc6 bbc7 (aa) (bb) W88 ko.out kr.out HBaa.out HBbb.out (by omega)
  rw [HZ3.out] at kc
  (with_reducible refine kc.mono ?_)
  clear kc
  rintro e w140 ⟨x0, x1, x2, x3, x4, x5, x6, x7, rfl, kd, ke⟩
  clear kK kL kM kN
  have HS142 := Lib.hid ke
  have k0m := Lib.hid (Blw k0P.out ke)
  have k0n := Lib.hid kd
  obtain ⟨o_x0, o_x1, o_x2, o_x3, o_x4, o_x5, o_x6, o_x7⟩ := kd.ones
  clear kd ke
  have kf := (kb.below HS142.out)
  obtain ⟨k2J, k2K, k2L, k2M, k2N, k2O, k2P, k2Q, k2R, k0o⟩ := kf.f8
  have ks := (kk.below HS142.out)
  obtain ⟨k2S, k2T, k2U, k2V, k2W, k2X, k2Y, k2Z, k30, k0p⟩ := ks.f8
  have kt := (kl.below HS142.out)
  obtain ⟨k31, k32, k33, k34, k35, k36, k37, k38, k39, k0q⟩ := kt.f8
  have ku := (kJ.below HS142.out)
  obtain ⟨k3a, k3b, k3c, k3d, k3e, k3f, k3g, k3h, k3i, k0r⟩ := ku.f8
  go_wp2_with fail
  have k3j := kf.lt
  generalize hW : w140.alloc _ = W194
  obtain ⟨k0s, hB⟩ := box1 hW
  clear hW
  clear k0o k0p k0q k0r
  have HS196 := Lib.hid hB
  have k0t := Lib.hid (Blw k0m.out hB)
  clear hB
  have kv := Lib.hid ((ko.out.kp (.of HS142.out)).kp (.of HS196.out))
  have kO := Lib.hid ((kr.out.kp (.of HS142.out)).kp (.of HS196.out))
  have kg := valn5_any 7 7 aac0 aac1 aac2 aac3 aac4 aac5 aac6 aac7 bbc0 bbc1 bbc2 bbc3 bbc4 bbc5 bbc6 bbc7 (aa) (bb) W194 kv.out kO.out HBaa.out HBbb.out (by omega)
  rw [HZ3.out] at kg
  (with_reducible refine kg.mono ?_)
  clear kg
  rintro e w200 ⟨y0, y1, y2, y3, y4, y5, y6, y7, rfl, kh, ki⟩
  have HS202 := Lib.hid ki
  have k0u := Lib.hid (Blw k0t.out ki)
  have k0v := Lib.hid kh
  obtain ⟨o_y0, o_y1, o_y2, o_y3, o_y4, o_y5, o_y6, o_y7⟩ := kh.ones
  clear kh ki
  have kj := ((kf.below HS196.out).below HS202.out)
  obtain ⟨k3k, k3l, k3m, k3n, k3o, k3p, k3q, k3r, k3s, k0w⟩ := kj.f8
  have kw := ((ks.below HS196.out).below HS202.out)
  obtain ⟨k3t, k3u, k3v, k3w, k3x, k3y, k3z, k3A, k3B, k0x⟩ := kw.f8
  have kx := ((kt.below HS196.out).below HS202.out)
  obtain ⟨k3C, k3D, k3E, k3F, k3G, k3H, k3I, k3J, k3K, k0y⟩ := kx.f8
  have ky := ((ku.below HS196.out).below HS202.out)
  obtain ⟨k3L, k3M, k3N, k3O, k3P, k3Q, k3R, k3S, k3T, k0z⟩ := ky.f8
  have kz := (k0s.below HS202.out)
  obtain ⟨k3U, k3V, k3W, k3X, k3Y, k3Z, k40, k41, k42, k0A⟩ := kz.f8
  go_upto_region 9 with fail
  have k43 := kj.lt
  generalize hW : w200.alloc _ = W266
  obtain ⟨k0B, hB⟩ := box1 hW
  clear hW
  clear k0w k0x k0y k0z k0A
  have HS268 := Lib.hid hB
  have k0C := Lib.hid (Blw k0u.out hB)
  clear hB
  go_upto_region 9 with fail
  generalize hW : W266.drew = W270
  have hB : Below W266.heap.size W266 W270 := by rw [← hW]; exact (Below.refl _ _).drew
  have HS271 := Lib.hid hB
  have k0D := Lib.hid (Blw k0C.out hB)
  clear hB
  have kn := ((kz.below HS268.out).below HS271.out)
  have kA := (k0B.below HS271.out)
  have kP := Lib.hid ((((k0n.out.kp (.of HS196.out)).kp (.of HS202.out)).kp (.of HS268.out)).kp (.of HS271.out))
  have k0E := Lib.hid ((k0v.out.kp (.of HS268.out)).kp (.of HS271.out))
  generalize hF : ({ tmps := _, defers := _ } : Act) = F
  have ev7 : F.eval (.tmp 7) = .pointer (some ⟨w1.heap.size, 0, none⟩) := by rw [← hF]; rfl
  have ev8 : F.eval (.tmp 8) = .pointer (some ⟨w10.heap.size, 0, none⟩) := by rw [← hF]; rfl
  have ev11 : F.eval (.tmp 11) = .pointer (some ⟨w140.heap.size, 0, none⟩) := by rw [← hF]; rfl
  have ev12 : F.eval (.tmp 12) = .int .i64 1 := by rw [← hF]; rfl
  have ev13 : F.eval (.tmp 13) = .pointer (some ⟨w200.heap.size, 0, none⟩) := by rw [← hF]; rfl
  have ev14 : F.eval (.tmp 14) = .int .i64 1 := by rw [← hF]; rfl
  have HF := Lib.hid hF; clear hF
  refine wp_flow_tabG true hW 21 [(46, []), (47, []), (48, [0, 1]), (49, [2]), (50, [3]), (51, [3]), (52, [4, 5, 3]), (53, [6, 3]), (54, [3, 7]), (55, [8]), (56, [9]), (57, [10, 9]), (58, [11, 9]), (59, [12]), (60, [12]), (61, [13, 14, 12]), (62, [12]), (63, [15, 16, 12]), (64, [17, 12]), (65, [12, 18, 9]), (66, [9, 19])] [SC (.int .i64 1), SC (.int .i64 1), SC (.bool false), SC (.bool false), SC (.agg #[x0, x1, x2, x3, x4, x5, x6, x7]), SC (.agg #[y0, y1, y2, y3, y4, y5, y6, y7]), SC (.bool true), SC (.bool false), SC (.bool false), SC (.bool false), SC (.int .i64 1), SC (.bool false), SC (.bool false), SC undef, SC undef, SC undef, SC undef, SC undef, SC undef, SC (.bool false), SC (.bool false)] [false, false, false, false, false, false, false, false, false, false, false, false, false, false, false, false, false, false, false, false, false] (by kernel_rfl) (by kernel_rfl) (by kernel_rfl) (by kernel_rfl) (by kernel_rfl) (by rw [← HF.out]; simp) ⟨SC.mono _, SC.mono _, SC.mono _, SC.mono _, SC.mono _, SC.mono _, SC.mono _, SC.mono _, SC.mono _, SC.mono _, SC.mono _, SC.mono _, SC.mono _, SC.mono _, SC.mono _, SC.mono _, SC.mono _, SC.mono _, SC.mono _, SC.mono _, SC.mono _, trivial⟩ ?_ ?_
  ·intro kq hkq a wx hB hp hs
   have hcase : kq = 0 ∨ kq = 1 ∨ kq = 2 ∨ kq = 3 ∨ kq = 4 ∨ kq = 5 ∨ kq = 6 ∨ kq = 7 ∨ kq = 8 ∨ kq = 9 ∨ kq = 10 ∨ kq = 11 ∨ kq = 12 ∨ kq = 13 ∨ kq = 14 ∨ kq = 15 ∨ kq = 16 ∨ kq = 17 ∨ kq = 18 ∨ kq = 19 ∨ kq = 20 := by omega
   rcases hcase with rfl | rfl | rfl | rfl | rfl | rfl | rfl | rfl | rfl | rfl | rfl | rfl | rfl | rfl | rfl | rfl | rfl | rfl | rfl | rfl | rfl
   ·clear hp
    have b12 := (hs 12 rfl).trans ev12
    simp [Act.eval] at b12
    exact ⟨_, rfl, .inl ⟨wanted_none rfl, Does.val (by simp [execOp, Act.eval, b12, go_sem]) rfl⟩⟩
   ·clear hp
    have b14 := (hs 14 rfl).trans ev14
    simp [Act.eval] at b14
    exact ⟨_, rfl, .inl ⟨wanted_none rfl, Does.val (by simp [execOp, Act.eval, b14, go_sem]) rfl⟩⟩
   ·obtain ⟨k0, k1, -⟩ := hp
    have e0 : a.eval (.tmp 46) = .int .i64 1 := k0
    have e1 : a.eval (.tmp 47) = .int .i64 1 := k1
    simp [Act.eval] at e0
    simp [Act.eval] at e1
    exact ⟨_, rfl, .inl ⟨wanted_none rfl, Does.val (by simp [execOp, Act.eval, e0, e1, go_sem]) rfl⟩⟩
   ·obtain ⟨k0, -⟩ := hp
    have e0 : a.eval (.tmp 48) = .bool false := k0
    simp [Act.eval] at e0
    exact ⟨_, rfl, .inl ⟨wanted_none rfl, Does.val (by simp [execOp, Act.eval, e0, go_sem]) rfl⟩⟩
   ·obtain ⟨k0, -⟩ := hp
    have e0 : a.eval (.tmp 49) = .bool false := k0
    have hgd := e0
    exact ⟨_, rfl, .inl ⟨(wanted_of rfl rfl hgd).trans rfl, ld_Turn rfl ((hs 11 rfl).trans ev11) (kn.below hB) rfl rfl rfl rfl rfl rfl rfl rfl⟩⟩
   ·obtain ⟨k0, -⟩ := hp
    have e0 : a.eval (.tmp 49) = .bool false := k0
    have hgd := e0
    exact ⟨_, rfl, .inl ⟨(wanted_of rfl rfl hgd).trans rfl, ld_Turn rfl ((hs 13 rfl).trans ev13) (kA.below hB) rfl rfl rfl rfl rfl rfl rfl rfl⟩⟩
   ·obtain ⟨k0, k1, k2, -⟩ := hp
    have e0 : a.eval (.tmp 50) = .agg #[x0, x1, x2, x3, x4, x5, x6, x7] := k0
    have e1 : a.eval (.tmp 51) = .agg #[y0, y1, y2, y3, y4, y5, y6, y7] := k1
    have e2 : a.eval (.tmp 49) = .bool false := k2
    have hgd := e2
    exact ⟨_, rfl, .inl ⟨(wanted_of rfl rfl hgd).trans rfl, Does.rc (f := 12) (call2 rfl (fun _ => by simp [go_sem]) e0 e1) (tsame5_any x0 x1 x2 x3 x4 x5 x6 x7 y0 y1 y2 y3 y4 y5 y6 y7 _ _ wx (kP.out.kp (.of hB)) (k0E.out.kp (.of hB)) true (by simp))⟩⟩
   ·obtain ⟨k0, k1, -⟩ := hp
    have e0 : a.eval (.tmp 52) = .bool true := k0
    have e1 : a.eval (.tmp 49) = .bool false := k1
    have hgd := e1
    simp [Act.eval] at e0
    exact ⟨_, rfl, .inl ⟨(wanted_of rfl rfl hgd).trans rfl, Does.val (by simp [execOp, Act.eval, e0, go_sem]) rfl⟩⟩
   ·obtain ⟨k0, k1, -⟩ := hp
    have e0 : a.eval (.tmp 49) = .bool false := k0
    have e1 : a.eval (.tmp 53) = .bool false := k1
    simp [Act.eval] at e0
    simp [Act.eval] at e1
    exact ⟨_, rfl, .inl ⟨wanted_none rfl, Does.val (by simp [execOp, Act.eval, e0, e1, go_sem]) rfl⟩⟩
   ·obtain ⟨k0, -⟩ := hp
    have e0 : a.eval (.tmp 54) = .bool false := k0
    simp [Act.eval] at e0
    exact ⟨_, rfl, .inl ⟨wanted_none rfl, Does.val (by simp [execOp, Act.eval, e0, go_sem]) rfl⟩⟩
   ·obtain ⟨k0, -⟩ := hp
    have e0 : a.eval (.tmp 55) = .bool false := k0
    have b12 := (hs 12 rfl).trans ev12
    have hgd := e0
    simp [Act.eval] at b12
    exact ⟨_, rfl, .inl ⟨(wanted_of rfl rfl hgd).trans rfl, Does.val (by simp [execOp, Act.eval, b12, go_sem]) rfl⟩⟩
   ·obtain ⟨k0, k1, -⟩ := hp
    have e0 : a.eval (.tmp 56) = .int .i64 1 := k0
    have e1 : a.eval (.tmp 55) = .bool false := k1
    have hgd := e1
    simp [Act.eval] at e0
    exact ⟨_, rfl, .inl ⟨(wanted_of rfl rfl hgd).trans rfl, Does.val (by simp [execOp, Act.eval, e0, go_sem]) rfl⟩⟩
   ·obtain ⟨k0, k1, -⟩ := hp
    have e0 : a.eval (.tmp 57) = .bool false := k0
    have e1 : a.eval (.tmp 55) = .bool false := k1
    have hgd := e1
    simp [Act.eval] at e0
    exact ⟨_, rfl, .inl ⟨(wanted_of rfl rfl hgd).trans rfl, Does.val (by simp [execOp, Act.eval, e0, go_sem]) rfl⟩⟩
   ·obtain ⟨k0, -⟩ := hp
    have e0 : a.eval (.tmp 58) = .bool false := k0
    have b11 := (hs 11 rfl).trans ev11
    have hgd := e0
    exact ⟨_, rfl, .inr ⟨(wanted_of rfl rfl hgd).trans rfl, rfl, rfl⟩⟩
   ·obtain ⟨k0, -⟩ := hp
    have e0 : a.eval (.tmp 58) = .bool false := k0
    have b7 := (hs 7 rfl).trans ev7
    have hgd := e0
    exact ⟨_, rfl, .inr ⟨(wanted_of rfl rfl hgd).trans rfl, rfl, rfl⟩⟩
   ·obtain ⟨k0, k1, k2, -⟩ := hp
    have e0 : a.eval (.tmp 59) = undef := k0
    have e1 : a.eval (.tmp 60) = undef := k1
    have e2 : a.eval (.tmp 58) = .bool false := k2
    have hgd := e2
    exact ⟨_, rfl, .inr ⟨(wanted_of rfl rfl hgd).trans rfl, rfl, rfl⟩⟩
   ·obtain ⟨k0, -⟩ := hp
    have e0 : a.eval (.tmp 58) = .bool false := k0
    have b8 := (hs 8 rfl).trans ev8
    have hgd := e0
    exact ⟨_, rfl, .inr ⟨(wanted_of rfl rfl hgd).trans rfl, rfl, rfl⟩⟩
   ·obtain ⟨k0, k1, k2, -⟩ := hp
    have e0 : a.eval (.tmp 61) = undef := k0
    have e1 : a.eval (.tmp 62) = undef := k1
    have e2 : a.eval (.tmp 58) = .bool false := k2
    have hgd := e2
    exact ⟨_, rfl, .inr ⟨(wanted_of rfl rfl hgd).trans rfl, rfl, rfl⟩⟩
   ·obtain ⟨k0, k1, -⟩ := hp
    have e0 : a.eval (.tmp 63) = undef := k0
    have e1 : a.eval (.tmp 58) = .bool false := k1
    have hgd := e1
    exact ⟨_, rfl, .inr ⟨(wanted_of rfl rfl hgd).trans rfl, rfl, rfl⟩⟩
   ·obtain ⟨k0, k1, k2, -⟩ := hp
    have e0 : a.eval (.tmp 58) = .bool false := k0
    have e1 : a.eval (.tmp 64) = undef := k1
    have e2 : a.eval (.tmp 55) = .bool false := k2
    have hgd := e2
    simp [Act.eval] at e0
    simp [Act.eval] at e1
    exact ⟨_, rfl, .inl ⟨(wanted_of rfl rfl hgd).trans rfl, Does.val (by simp [execOp, Act.eval, e0, e1, go_sem]) rfl⟩⟩
   ·obtain ⟨k0, k1, -⟩ := hp
    have e0 : a.eval (.tmp 55) = .bool false := k0
    have e1 : a.eval (.tmp 65) = .bool false := k1
    simp [Act.eval] at e0
    simp [Act.eval] at e1
    exact ⟨_, rfl, .inl ⟨wanted_none rfl, Does.val (by simp [execOp, Act.eval, e0, e1, go_sem]) rfl⟩⟩
  ·intro val wx hB hsp hdis
   have e20 : val 20 = .bool false := hsp 20 (by omega)
   rw [← HF.out]
   change wpList _ _ _ [] _ _
   simp only [puts, vals, List.map_cons, List.map_nil, List.foldl_cons, List.foldl_nil, if_true, Nat.zero_add, Nat.reduceAdd, e20, List.setIfInBounds_toArray, List.set_cons_succ, List.set_cons_zero]
   clear hsp hdis HF e20
   clear ev7 ev8 ev11 ev12 ev13 ev14
   obtain ⟨w280, rfl⟩ : ∃ W : World, W = wx := ⟨_, rfl⟩
   have HS281 := Lib.hid hB
   have k0U := Lib.hid (Blw k0D.out hB)
   clear hB
   have kQ := (((kj.below HS268.out).below HS271.out).below HS281.out)
   obtain ⟨k4I, k4J, k4K, k4L, k4M, k4N, k4O, k4P, k4Q, k0V⟩ := kQ.f8
   have kR := (((kw.below HS268.out).below HS271.out).below HS281.out)
   obtain ⟨k4R, k4S, k4T, k4U, k4V, k4W, k4X, k4Y, k4Z, k0W⟩ := kR.f8
   have kS := (((kx.below HS268.out).below HS271.out).below HS281.out)
   obtain ⟨k50, k51, k52, k53, k54, k55, k56, k57, k58, k0X⟩ := kS.f8
   have kT := (((ky.below HS268.out).below HS271.out).below HS281.out)
   obtain ⟨k59, k5a, k5b, k5c, k5d, k5e, k5f, k5g, k5h, k0Y⟩ := kT.f8
   have kU := (kn.below HS281.out)
   obtain ⟨k5i, k5j, k5k, k5l, k5m, k5n, k5o, k5p, k5q, k0Z⟩ := kU.f8
   have kV := (kA.below HS281.out)
   obtain ⟨k5r, k5s, k5t, k5u, k5v, k5w, k5x, k5y, k5z, k10⟩ := kV.f8
   go_wp2_with fail
   have kW := Lib.hid ((((kv.out.kp (.of HS202.out)).kp (.of HS268.out)).kp (.of HS271.out)).kp (.of HS281.out))
   have kX := Lib.hid (((((((F50.out.kp (.of HS90.out)).kp (.of HS142.out)).kp (.of HS196.out)).kp (.of HS202.out)).kp (.of HS268.out)).kp (.of HS271.out)).kp (.of HS281.out))
   have kB := valn_any 7 29 aac0 aac1 aac2 aac3 aac4 aac5 aac6 aac7 c0 c1 c2 c3 c4 c5 c6 c7 (aa) (vrot t aa) w280 kW.out kX.out HBaa.out (HBt.out.rot HBaa.out) (by omega)
   rw [HZ1.out] at kB
   (with_reducible refine kB.mono ?_)
   clear kB
   rintro e w357 ⟨z0, z1, z2, z3, z4, z5, z6, z7, rfl, kC, kD⟩
   clear k0V k0W k0X k0Y k0Z k10
   have HS359 := Lib.hid kD
   have k11 := Lib.hid (Blw k0U.out kD)
   have k0F := Lib.hid kC
   obtain ⟨o_z0, o_z1, o_z2, o_z3, o_z4, o_z5, o_z6, o_z7⟩ := kC.ones
   clear kC kD
   have km := (kQ.below HS359.out)
   obtain ⟨k5A, k5B, k5C, k5D, k5E, k5F, k5G, k5H, k5I, k0l⟩ := km.f8
   have kY := (kR.below HS359.out)
   obtain ⟨k5J, k5K, k5L, k5M, k5N, k5O, k5P, k5Q, k5R, k12⟩ := kY.f8
   have kZ := (kS.below HS359.out)
   obtain ⟨k5S, k5T, k5U, k5V, k5W, k5X, k5Y, k5Z, k60, k13⟩ := kZ.f8
   have k00 := (kT.below HS359.out)
   obtain ⟨k61, k62, k63, k64, k65, k66, k67, k68, k69, k14⟩ := k00.f8
   have k01 := (kU.below HS359.out)
   obtain ⟨k6a, k6b, k6c, k6d, k6e, k6f, k6g, k6h, k6i, k15⟩ := k01.f8
   have k02 := (kV.below HS359.out)
   obtain ⟨k6j, k6k, k6l, k6m, k6n, k6o, k6p, k6q, k6r, k16⟩ := k02.f8
   go_wp2_with fail
   have k6s := km.lt
   generalize hW : w357.alloc _ = W435
   obtain ⟨k17, hB⟩ := box1 hW
   clear hW
   clear k0l k12 k13 k14 k15 k16
   have HS437 := Lib.hid hB
   have k18 := Lib.hid (Blw k11.out hB)
   clear hB
   have k19 := Lib.hid ((kX.out.kp (.of HS359.out)).kp (.of HS437.out))
   have k03 := Lib.hid ((kW.out.kp (.of HS359.out)).kp (.of HS437.out))
   have kE := valn_any 29 7 c0 c1 c2 c3 c4 c5 c6 c7 aac0 aac1 aac2 aac3 aac4 aac5 aac6 aac7 (vrot t aa) (aa) W435 k19.out k03.out (HBt.out.rot HBaa.out) HBaa.out (by omega)
   rw [HZ2.out] at kE
   (with_reducible refine kE.mono ?_)
   clear kE
   rintro e w441 ⟨v0, v1, v2, v3, v4, v5, v6, v7, rfl, kF, kG⟩
   have HS443 := Lib.hid kG
   have k0G := Lib.hid (Blw k18.out kG)
   have k0L := Lib.hid kF
   obtain ⟨o_v0, o_v1, o_v2, o_v3, o_v4, o_v5, o_v6, o_v7⟩ := kF.ones
   clear kF kG
   have kH := ((km.below HS437.out).below HS443.out)
   obtain ⟨k6t, k6u, k6v, k6w, k6x, k6y, k6z, k6A, k6B, k1a⟩ := kH.f8
   have k04 := ((kY.below HS437.out).below HS443.out)
   obtain ⟨k6C, k6D, k6E, k6F, k6G, k6H, k6I, k6J, k6K, k1b⟩ := k04.f8
   have k05 := ((kZ.below HS437.out).below HS443.out)
   obtain ⟨k6L, k6M, k6N, k6O, k6P, k6Q, k6R, k6S, k6T, k1c⟩ := k05.f8
   have k06 := ((k00.below HS437.out).below HS443.out)
   obtain ⟨k6U, k6V, k6W, k6X, k6Y, k6Z, k70, k71, k72, k1d⟩ := k06.f8
   have k07 := ((k01.below HS437.out).below HS443.out)
   obtain ⟨k73, k74, k75, k76, k77, k78, k79, k7a, k7b, k1e⟩ := k07.f8
   have k08 := ((k02.below HS437.out).below HS443.out)
   obtain ⟨k7c, k7d, k7e, k7f, k7g, k7h, k7i, k7j, k7k, k1f⟩ := k08.f8
   have k09 := (k17.below HS443.out)
   obtain ⟨k7l, k7m, k7n, k7o, k7p, k7q, k7r, k7s, k7t, k1g⟩ := k09.f8
   go_wp2_with fail
   have k7u := kH.lt
   generalize hW : w441.alloc _ = W531
   obtain ⟨k1h, hB⟩ := box1 hW
   clear hW
   clear k1a k1b k1c k1d k1e k1f k1g
   have HS533 := Lib.hid hB
   have k1i := Lib.hid (Blw k0G.out hB)
   clear hB
   have k1j := Lib.hid ((k03.out.kp (.of HS443.out)).kp (.of HS533.out))
   have k0a := vsame5_any aac0 aac1 aac2 aac3 aac4 aac5 aac6 aac7 (.bool false) (.slice none 0 0) (.bool false) (.slice none 0 0) (.bool false) (.slice none 0 0) (.bool false) (.slice none 0 0) aa (0, 0) W531 k1j.out (VecV.zero _) true (trv HV0.out)
   (with_reducible refine k0a.mono ?_)
   clear k0a
   rintro e w536 ⟨rfl, kI⟩
   have HS538 := Lib.hid kI
   have k1k := Lib.hid (Blw k1i.out kI)
   clear kI
   have k0b := ((kH.below HS533.out).below HS538.out)
   obtain ⟨k7v, k7w, k7x, k7y, k7z, k7A, k7B, k7C, k7D, k1l⟩ := k0b.f8
   have k0c := ((k04.below HS533.out).below HS538.out)
   obtain ⟨k7E, k7F, k7G, k7H, k7I, k7J, k7K, k7L, k7M, k1m⟩ := k0c.f8
   have k0d := ((k05.below HS533.out).below HS538.out)
   obtain ⟨k7N, k7O, k7P, k7Q, k7R, k7S, k7T, k7U, k7V, k1n⟩ := k0d.f8
   have k0e := ((k06.below HS533.out).below HS538.out)
   obtain ⟨k7W, k7X, k7Y, k7Z, k80, k81, k82, k83, k84, k1o⟩ := k0e.f8
   have k0f := ((k07.below HS533.out).below HS538.out)
   obtain ⟨k85, k86, k87, k88, k89, k8a, k8b, k8c, k8d, k1p⟩ := k0f.f8
   have k0g := ((k08.below HS533.out).below HS538.out)
   obtain ⟨k8e, k8f, k8g, k8h, k8i, k8j, k8k, k8l, k8m, k1q⟩ := k0g.f8
   have k0h := ((k09.below HS533.out).below HS538.out)
   obtain ⟨k8n, k8o, k8p, k8q, k8r, k8s, k8t, k8u, k8v, k1r⟩ := k0h.f8
   have k0i := (k1h.below HS538.out)
   obtain ⟨k8w, k8x, k8y, k8z, k8A, k8B, k8C, k8D, k8E, k1s⟩ := k0i.f8
   go_upto_region 17 with fail
   go_upto_region 17 with fail
   generalize hF : ({ tmps := _, defers := _ } : Act) = F
   have ev18 : F.eval (.tmp 18) = .int .i64 1 := by rw [← hF]; rfl
   have ev20 : F.eval (.tmp 20) = .int .i64 1 := by rw [← hF]; rfl
   have HF := Lib.hid hF; clear hF
   refine wp_flow_tabG false rfl 10 [(96, []), (97, [0]), (98, [1]), (99, [2]), (100, [3, 2]), (101, [2, 4]), (102, [5]), (103, [6]), (104, [6, 7]), (6, [8])] [SC (.int .i64 1), SC (.bool true), SC (.bool true), SC (.int .i64 1), SC (.bool true), SC (.bool true), SC (.bool true), SC (.bool true), SC (.bool true), SC (.bool true)] [false, false, false, false, false, false, false, false, false, false] (by kernel_rfl) (by kernel_rfl) (by kernel_rfl) (by kernel_rfl) (by kernel_rfl) (by rw [← HF.out]; simp) ⟨SC.mono _, SC.mono _, SC.mono _, SC.mono _, SC.mono _, SC.mono _, SC.mono _, SC.mono _, SC.mono _, SC.mono _, trivial⟩ ?_ ?_
   ·intro kq hkq a wx hB hp hs
    have hcase : kq = 0 ∨ kq = 1 ∨ kq = 2 ∨ kq = 3 ∨ kq = 4 ∨ kq = 5 ∨ kq = 6 ∨ kq = 7 ∨ kq = 8 ∨ kq = 9 := by omega
    rcases hcase with rfl | rfl | rfl | rfl | rfl | rfl | rfl | rfl | rfl | rfl
    ·clear hp
     have b18 := (hs 18 rfl).trans ev18
     simp [Act.eval] at b18
     exact ⟨_, rfl, .inl ⟨wanted_none rfl, Does.val (by simp [execOp, Act.eval, b18, go_sem]) rfl⟩⟩
    ·obtain ⟨k0, -⟩ := hp
     have e0 : a.eval (.tmp 96) = .int .i64 1 := k0
     simp [Act.eval] at e0
     exact ⟨_, rfl, .inl ⟨wanted_none rfl, Does.val (by simp [execOp, Act.eval, e0, go_sem]) rfl⟩⟩
    ·obtain ⟨k0, -⟩ := hp
     have e0 : a.eval (.tmp 97) = .bool true := k0
     simp [Act.eval] at e0
     exact ⟨_, rfl, .inl ⟨wanted_none rfl, Does.val (by simp [execOp, Act.eval, e0, go_sem]) rfl⟩⟩
    ·obtain ⟨k0, -⟩ := hp
     have e0 : a.eval (.tmp 98) = .bool true := k0
     have b20 := (hs 20 rfl).trans ev20
     have hgd := e0
     simp [Act.eval] at b20
     exact ⟨_, rfl, .inl ⟨(wanted_of rfl rfl hgd).trans rfl, Does.val (by simp [execOp, Act.eval, b20, go_sem]) rfl⟩⟩
    ·obtain ⟨k0, k1, -⟩ := hp
     have e0 : a.eval (.tmp 99) = .int .i64 1 := k0
     have e1 : a.eval (.tmp 98) = .bool true := k1
     have hgd := e1
     simp [Act.eval] at e0
     exact ⟨_, rfl, .inl ⟨(wanted_of rfl rfl hgd).trans rfl, Does.val (by simp [execOp, Act.eval, e0, go_sem]) rfl⟩⟩
    ·obtain ⟨k0, k1, -⟩ := hp
     have e0 : a.eval (.tmp 98) = .bool true := k0
     have e1 : a.eval (.tmp 100) = .bool true := k1
     simp [Act.eval] at e0
     simp [Act.eval] at e1
     exact ⟨_, rfl, .inl ⟨wanted_none rfl, Does.val (by simp [execOp, Act.eval, e0, e1, go_sem]) rfl⟩⟩
    ·obtain ⟨k0, -⟩ := hp
     have e0 : a.eval (.tmp 101) = .bool true := k0
     simp [Act.eval] at e0
     exact ⟨_, rfl, .inl ⟨wanted_none rfl, Does.val (by simp [execOp, Act.eval, e0, go_sem]) rfl⟩⟩
    ·obtain ⟨k0, -⟩ := hp
     have e0 : a.eval (.tmp 102) = .bool true := k0
     have hgd := e0
     exact ⟨_, rfl, .inl ⟨(wanted_of rfl rfl hgd).trans rfl, Does.rc (f := 14) (call0 rfl (fun _ => by simp [go_sem])) (lives_any wx)⟩⟩
    ·obtain ⟨k0, k1, -⟩ := hp
     have e0 : a.eval (.tmp 102) = .bool true := k0
     have e1 : a.eval (.tmp 103) = .bool true := k1
     simp [Act.eval] at e0
     simp [Act.eval] at e1
     exact ⟨_, rfl, .inl ⟨wanted_none rfl, Does.val (by simp [execOp, Act.eval, e0, e1, go_sem]) rfl⟩⟩
    ·obtain ⟨k0, -⟩ := hp
     have e0 : a.eval (.tmp 104) = .bool true := k0
     simp [Act.eval] at e0
     exact ⟨_, rfl, .inl ⟨wanted_none rfl, Does.val (by simp [execOp, Act.eval, e0, go_sem]) rfl⟩⟩
   ·intro val wx hB hsp hdis
    have e9 : val 9 = .bool true := hsp 9 (by omega)
    rw [← HF.out]
    change wpList _ _ _ [] _ _
    simp only [puts, vals, List.map_cons, List.map_nil, List.foldl_cons, List.foldl_nil, if_true, Nat.zero_add, Nat.reduceAdd, e9, List.setIfInBounds_toArray, List.set_cons_succ, List.set_cons_zero]
    clear hsp hdis HF e9
    clear ev18 ev20
    obtain ⟨w637, rfl⟩ : ∃ W : World, W = wx := ⟨_, rfl⟩
    clear k1l k1m k1n k1o k1p k1q k1r k1s
    have HS638 := Lib.hid hB
    have kad := Lib.hid (Blw k1k.out hB)
    clear hB
    have kae := (k0b.below HS638.out)
    obtain ⟨kgZ, kh0, kh1, kh2, kh3, kh4, kh5, kh6, kh7, kh8⟩ := kae.f8
    have k1t := (k0c.below HS638.out)
    obtain ⟨kh9, kha, khb, khc, khd, khe, khf, khg, khh, k8F⟩ := k1t.f8
    have k1u := (k0d.below HS638.out)
    obtain ⟨khi, khj, khk, khl, khm, khn, kho, khp, khq, k8G⟩ := k1u.f8
    have k1v := (k0e.below HS638.out)
    obtain ⟨khr, khs, kht, khu, khv, khw, khx, khy, khz, k8H⟩ := k1v.f8
    have k1w := (k0f.below HS638.out)
    obtain ⟨khA, khB, khC, khD, khE, khF, khG, khH, khI, k8I⟩ := k1w.f8
    have k1x := (k0g.below HS638.out)
    obtain ⟨khJ, khK, khL, khM, khN, khO, khP, khQ, khR, k8J⟩ := k1x.f8
    have k1y := (k0h.below HS638.out)
    obtain ⟨khS, khT, khU, khV, khW, khX, khY, khZ, ki0, k8K⟩ := k1y.f8
    have k1z := (k0i.below HS638.out)
    obtain ⟨ki1, ki2, ki3, ki4, ki5, ki6, ki7, ki8, ki9, k8L⟩ := k1z.f8
    go_wp2
    go_ret
    exact ⟨rfl, kad.out⟩
 have HVN := Lib.hid hv
 have HZ1 := Lib.hid (ali_fwd HUt.out hv)
 have HZ2 := Lib.hid (ali_bck HUt.out hv)
 by_cases hu : bb = (0, 0)
 ·have HZ3 := Lib.hid (show valn aa bb = ((0, 0), 1) by rw [hu]; exact valn_zb)
  clear hv hu
  skip
  have kb := (k0k.below HS90.out)
  obtain ⟨k1D, k1E, k1F, k1G, k1H, k1I, k1J, k1K, k1L, kK⟩ := kb.f8
  have kk := (k0I.below HS90.out)
  obtain ⟨k1M, k1N, k1O, k1P, k1Q, k1R, k1S, k1T, k1U, kL⟩ := kk.f8
  have kl := (k0J.below HS90.out)
  obtain ⟨k1V, k1W, k1X, k1Y, k1Z, k20, k21, k22, k23, kM⟩ := kl.f8
  obtain ⟨k24, k25, k26, k27, k28, k29, k2a, k2b, k2c, kN⟩ := kJ.f8
  go_wp2_with fail
  have ko := Lib.hid ((F45.out.kp (.of HS48.out)).kp (.of HS90.out))
  have kr := Lib.hid (((((F14.out.kp (.of HS20.out)).kp (.of HS24.out)).kp (.of HS42.out)).kp (.of HS48.out)).kp (.of HS90.out))
  have kc := valn_any 7 7 aac0 aac1 aac2 aac3 aac4 aac5 aac6 aac7 bbc0 bbc1 bbc2 bbc3 bbc4 bbc5 bbc6 bbc7 (aa) (bb) W88 ko.out kr.out HBaa.out HBbb.out (by omega)
  rw [HZ3.out] at kc
  (with_reducible refine kc.mono ?_)
  clear kc
  rintro e w140 ⟨x0, x1, x2, x3, x4, x5, x6, x7, rfl, kd, ke⟩
  clear kK kL kM kN
  have HS142 := Lib.hid ke
  have k0m := Lib.hid (Blw k0P.out ke)
  have k0n := Lib.hid kd
  obtain ⟨o_x0, o_x1, o_x2, o_x3, o_x4, o_x5, o_x6, o_x7⟩ := kd.ones
  clear kd ke
  have kf := (kb.below HS142.out)
  obtain ⟨k2J, k2K, k2L, k2M, k2N, k2O, k2P, k2Q, k2R, k0o⟩ := kf.f8
  have ks := (kk.below HS142.out)
  obtain ⟨k2S, k2T, k2U, k2V, k2W, k2X, k2Y, k2Z, k30, k0p⟩ := ks.f8
  have kt := (kl.below HS142.out)
  obtain ⟨k31, k32, k33, k34, k35, k36, k37, k38, k39, k0q⟩ := kt.f8
  have ku := (kJ.below HS142.out)
  obtain ⟨k3a, k3b, k3c, k3d, k3e, k3f, k3g, k3h, k3i, k0r⟩ := ku.f8
  go_wp2_with fail
  have k3j := kf.lt
  generalize hW : w140.alloc _ = W194
  obtain ⟨k0s, hB⟩ := box1 hW
  clear hW
  clear k0o k0p k0q k0r
  have HS196 := Lib.hid hB
  have k0t := Lib.hid (Blw k0m.out hB)
  clear hB
  have kv := Lib.hid ((ko.out.kp (.of HS142.out)).kp (.of HS196.out))
  have kO := Lib.hid ((kr.out.kp (.of HS142.out)).kp (.of HS196.out))
  have kg := valn5_any 7 7 aac0 aac1 aac2 aac3 aac4 aac5 aac6 aac7 bbc0 bbc1 bbc2 bbc3 bbc4 bbc5 bbc6 bbc7 (aa) (bb) W194 kv.out kO.out HBaa.out HBbb.out (by omega)
  rw [HZ3.out] at kg
  (with_reducible refine kg.mono ?_)
  clear kg
  rintro e w200 ⟨y0, y1, y2, y3, y4, y5, y6, y7, rfl, kh, ki⟩
  have HS202 := Lib.hid ki
  have k0u := Lib.hid (Blw k0t.out ki)
  have k0v := Lib.hid kh
  obtain ⟨o_y0, o_y1, o_y2, o_y3, o_y4, o_y5, o_y6, o_y7⟩ := kh.ones
  clear kh ki
  have kj := ((kf.below HS196.out).below HS202.out)
  obtain ⟨k3k, k3l, k3m, k3n, k3o, k3p, k3q, k3r, k3s, k0w⟩ := kj.f8
  have kw := ((ks.below HS196.out).below HS202.out)
  obtain ⟨k3t, k3u, k3v, k3w, k3x, k3y, k3z, k3A, k3B, k0x⟩ := kw.f8
  have kx := ((kt.below HS196.out).below HS202.out)
  obtain ⟨k3C, k3D, k3E, k3F, k3G, k3H, k3I, k3J, k3K, k0y⟩ := kx.f8
  have ky := ((ku.below HS196.out).below HS202.out)
  obtain ⟨k3L, k3M, k3N, k3O, k3P, k3Q, k3R, k3S, k3T, k0z⟩ := ky.f8
  have kz := (k0s.below HS202.out)
  obtain ⟨k3U, k3V, k3W, k3X, k3Y, k3Z, k40, k41, k42, k0A⟩ := kz.f8
  go_upto_region 9 with fail
  have k43 := kj.lt
  generalize hW : w200.alloc _ = W266
  obtain ⟨k0B, hB⟩ := box1 hW
  clear hW
  clear k0w k0x k0y k0z k0A
  have HS268 := Lib.hid hB
  have k0C := Lib.hid (Blw k0u.out hB)
  clear hB
  go_upto_region 9 with fail
  generalize hW : W266.drew = W270
  have hB : Below W266.heap.size W266 W270 := by rw [← hW]; exact (Below.refl _ _).drew
  have HS271 := Lib.hid hB
  have k0D := Lib.hid (Blw k0C.out hB)
  clear hB
  have kn := ((kz.below HS268.out).below HS271.out)
  have kA := (k0B.below HS271.out)
  have kP := Lib.hid ((((k0n.out.kp (.of HS196.out)).kp (.of HS202.out)).kp (.of HS268.out)).kp (.of HS271.out))
  have k0E := Lib.hid ((k0v.out.kp (.of HS268.out)).kp (.of HS271.out))
  generalize hF : ({ tmps := _, defers := _ } : Act) = F
  have ev7 : F.eval (.tmp 7) = .pointer (some ⟨w1.heap.size, 0, none⟩) := by rw [← hF]; rfl
  have ev8 : F.eval (.tmp 8) = .pointer (some ⟨w10.heap.size, 0, none⟩) := by rw [← hF]; rfl
  have ev11 : F.eval (.tmp 11) = .pointer (some ⟨w140.heap.size, 0, none⟩) := by rw [← hF]; rfl
  have ev12 : F.eval (.tmp 12) = .int .i64 1 := by rw [← hF]; rfl
  have ev13 : F.eval (.tmp 13) = .pointer (some ⟨w200.heap.size, 0, none⟩) := by rw [← hF]; rfl
  have ev14 : F.eval (.tmp 14) = .int .i64 1 := by rw [← hF]; rfl
  have HF := Lib.hid hF; clear hF
  refine wp_flow_tabG true hW 21 [(46, []), (47, []), (48, [0, 1]), (49, [2]), (50, [3]), (51, [3]), (52, [4, 5, 3]), (53, [6, 3]), (54, [3, 7]), (55, [8]), (56, [9]), (57, [10, 9]), (58, [11, 9]), (59, [12]), (60, [12]), (61, [13, 14, 12]), (62, [12]), (63, [15, 16, 12]), (64, [17, 12]), (65, [12, 18, 9]), (66, [9, 19])] [SC (.int .i64 1), SC (.int .i64 1), SC (.bool false), SC (.bool false), SC (.agg #[x0, x1, x2, x3, x4, x5, x6, x7]), SC (.agg #[y0, y1, y2, y3, y4, y5, y6, y7]), SC (.bool true), SC (.bool false), SC (.bool false), SC (.bool false), SC (.int .i64 1), SC (.bool false), SC (.bool false), SC undef, SC undef, SC undef, SC undef, SC undef, SC undef, SC (.bool false), SC (.bool false)] [false, false, false, false, false, false, false, false, false, false, false, false, false, false, false, false, false, false, false, false, false] (by kernel_rfl) (by kernel_rfl) (by kernel_rfl) (by kernel_rfl) (by kernel_rfl) (by rw [← HF.out]; simp) ⟨SC.mono _, SC.mono _, SC.mono _, SC.mono _, SC.mono _, SC.mono _, SC.mono _, SC.mono _, SC.mono _, SC.mono _, SC.mono _, SC.mono _, SC.mono _, SC.mono _, SC.mono _, SC.mono _, SC.mono _, SC.mono _, SC.mono _, SC.mono _, SC.mono _, trivial⟩ ?_ ?_
  ·intro kq hkq a wx hB hp hs
   have hcase : kq = 0 ∨ kq = 1 ∨ kq = 2 ∨ kq = 3 ∨ kq = 4 ∨ kq = 5 ∨ kq = 6 ∨ kq = 7 ∨ kq = 8 ∨ kq = 9 ∨ kq = 10 ∨ kq = 11 ∨ kq = 12 ∨ kq = 13 ∨ kq = 14 ∨ kq = 15 ∨ kq = 16 ∨ kq = 17 ∨ kq = 18 ∨ kq = 19 ∨ kq = 20 := by omega
   rcases hcase with rfl | rfl | rfl | rfl | rfl | rfl | rfl | rfl | rfl | rfl | rfl | rfl | rfl | rfl | rfl | rfl | rfl | rfl | rfl | rfl | rfl
   ·clear hp
    have b12 := (hs 12 rfl).trans ev12
    simp [Act.eval] at b12
    exact ⟨_, rfl, .inl ⟨wanted_none rfl, Does.val (by simp [execOp, Act.eval, b12, go_sem]) rfl⟩⟩
   ·clear hp
    have b14 := (hs 14 rfl).trans ev14
    simp [Act.eval] at b14
    exact ⟨_, rfl, .inl ⟨wanted_none rfl, Does.val (by simp [execOp, Act.eval, b14, go_sem]) rfl⟩⟩
   ·obtain ⟨k0, k1, -⟩ := hp
    have e0 : a.eval (.tmp 46) = .int .i64 1 := k0
    have e1 : a.eval (.tmp 47) = .int .i64 1 := k1
    simp [Act.eval] at e0
    simp [Act.eval] at e1
    exact ⟨_, rfl, .inl ⟨wanted_none rfl, Does.val (by simp [execOp, Act.eval, e0, e1, go_sem]) rfl⟩⟩
   ·obtain ⟨k0, -⟩ := hp
    have e0 : a.eval (.tmp 48) = .bool false := k0
    simp [Act.eval] at e0
    exact ⟨_, rfl, .inl ⟨wanted_none rfl, Does.val (by simp [execOp, Act.eval, e0, go_sem]) rfl⟩⟩
   ·obtain ⟨k0, -⟩ := hp
    have e0 : a.eval (.tmp 49) = .bool false := k0
    have hgd := e0
    exact ⟨_, rfl, .inl ⟨(wanted_of rfl rfl hgd).trans rfl, ld_Turn rfl ((hs 11 rfl).trans ev11) (kn.below hB) rfl rfl rfl rfl rfl rfl rfl rfl⟩⟩
   ·obtain ⟨k0, -⟩ := hp
    have e0 : a.eval (.tmp 49) = .bool false := k0
    have hgd := e0
    exact ⟨_, rfl, .inl ⟨(wanted_of rfl rfl hgd).trans rfl, ld_Turn rfl ((hs 13 rfl).trans ev13) (kA.below hB) rfl rfl rfl rfl rfl rfl rfl rfl⟩⟩
   ·obtain ⟨k0, k1, k2, -⟩ := hp
    have e0 : a.eval (.tmp 50) = .agg #[x0, x1, x2, x3, x4, x5, x6, x7] := k0
    have e1 : a.eval (.tmp 51) = .agg #[y0, y1, y2, y3, y4, y5, y6, y7] := k1
    have e2 : a.eval (.tmp 49) = .bool false := k2
    have hgd := e2
    exact ⟨_, rfl, .inl ⟨(wanted_of rfl rfl hgd).trans rfl, Does.rc (f := 12) (call2 rfl (fun _ => by simp [go_sem]) e0 e1) (tsame5_any x0 x1 x2 x3 x4 x5 x6 x7 y0 y1 y2 y3 y4 y5 y6 y7 _ _ wx (kP.out.kp (.of hB)) (k0E.out.kp (.of hB)) true (by simp))⟩⟩
   ·obtain ⟨k0, k1, -⟩ := hp
    have e0 : a.eval (.tmp 52) = .bool true := k0
    have e1 : a.eval (.tmp 49) = .bool false := k1
    have hgd := e1
    simp [Act.eval] at e0
    exact ⟨_, rfl, .inl ⟨(wanted_of rfl rfl hgd).trans rfl, Does.val (by simp [execOp, Act.eval, e0, go_sem]) rfl⟩⟩
   ·obtain ⟨k0, k1, -⟩ := hp
    have e0 : a.eval (.tmp 49) = .bool false := k0
    have e1 : a.eval (.tmp 53) = .bool false := k1
    simp [Act.eval] at e0
    simp [Act.eval] at e1
    exact ⟨_, rfl, .inl ⟨wanted_none rfl, Does.val (by simp [execOp, Act.eval, e0, e1, go_sem]) rfl⟩⟩
   ·obtain ⟨k0, -⟩ := hp
    have e0 : a.eval (.tmp 54) = .bool false := k0
    simp [Act.eval] at e0
    exact ⟨_, rfl, .inl ⟨wanted_none rfl, Does.val (by simp [execOp, Act.eval, e0, go_sem]) rfl⟩⟩
   ·obtain ⟨k0, -⟩ := hp
    have e0 : a.eval (.tmp 55) = .bool false := k0
    have b12 := (hs 12 rfl).trans ev12
    have hgd := e0
    simp [Act.eval] at b12
    exact ⟨_, rfl, .inl ⟨(wanted_of rfl rfl hgd).trans rfl, Does.val (by simp [execOp, Act.eval, b12, go_sem]) rfl⟩⟩
   ·obtain ⟨k0, k1, -⟩ := hp
    have e0 : a.eval (.tmp 56) = .int .i64 1 := k0
    have e1 : a.eval (.tmp 55) = .bool false := k1
    have hgd := e1
    simp [Act.eval] at e0
    exact ⟨_, rfl, .inl ⟨(wanted_of rfl rfl hgd).trans rfl, Does.val (by simp [execOp, Act.eval, e0, go_sem]) rfl⟩⟩
   ·obtain ⟨k0, k1, -⟩ := hp
    have e0 : a.eval (.tmp 57) = .bool false := k0
    have e1 : a.eval (.tmp 55) = .bool false := k1
    have hgd := e1
    simp [Act.eval] at e0
    exact ⟨_, rfl, .inl ⟨(wanted_of rfl rfl hgd).trans rfl, Does.val (by simp [execOp, Act.eval, e0, go_sem]) rfl⟩⟩
   ·obtain ⟨k0, -⟩ := hp
    have e0 : a.eval (.tmp 58) = .bool false := k0
    have b11 := (hs 11 rfl).trans ev11
    have hgd := e0
    exact ⟨_, rfl, .inr ⟨(wanted_of rfl rfl hgd).trans rfl, rfl, rfl⟩⟩
   ·obtain ⟨k0, -⟩ := hp
    have e0 : a.eval (.tmp 58) = .bool false := k0
    have b7 := (hs 7 rfl).trans ev7
    have hgd := e0
    exact ⟨_, rfl, .inr ⟨(wanted_of rfl rfl hgd).trans rfl, rfl, rfl⟩⟩
   ·obtain ⟨k0, k1, k2, -⟩ := hp
    have e0 : a.eval (.tmp 59) = undef := k0
    have e1 : a.eval (.tmp 60) = undef := k1
    have e2 : a.eval (.tmp 58) = .bool false := k2
    have hgd := e2
    exact ⟨_, rfl, .inr ⟨(wanted_of rfl rfl hgd).trans rfl, rfl, rfl⟩⟩
   ·obtain ⟨k0, -⟩ := hp
    have e0 : a.eval (.tmp 58) = .bool false := k0
    have b8 := (hs 8 rfl).trans ev8
    have hgd := e0
    exact ⟨_, rfl, .inr ⟨(wanted_of rfl rfl hgd).trans rfl, rfl, rfl⟩⟩
   ·obtain ⟨k0, k1, k2, -⟩ := hp
    have e0 : a.eval (.tmp 61) = undef := k0
    have e1 : a.eval (.tmp 62) = undef := k1
    have e2 : a.eval (.tmp 58) = .bool false := k2
    have hgd := e2
    exact ⟨_, rfl, .inr ⟨(wanted_of rfl rfl hgd).trans rfl, rfl, rfl⟩⟩
   ·obtain ⟨k0, k1, -⟩ := hp
    have e0 : a.eval (.tmp 63) = undef := k0
    have e1 : a.eval (.tmp 58) = .bool false := k1
    have hgd := e1
    exact ⟨_, rfl, .inr ⟨(wanted_of rfl rfl hgd).trans rfl, rfl, rfl⟩⟩
   ·obtain ⟨k0, k1, k2, -⟩ := hp
    have e0 : a.eval (.tmp 58) = .bool false := k0
    have e1 : a.eval (.tmp 64) = undef := k1
    have e2 : a.eval (.tmp 55) = .bool false := k2
    have hgd := e2
    simp [Act.eval] at e0
    simp [Act.eval] at e1
    exact ⟨_, rfl, .inl ⟨(wanted_of rfl rfl hgd).trans rfl, Does.val (by simp [execOp, Act.eval, e0, e1, go_sem]) rfl⟩⟩
   ·obtain ⟨k0, k1, -⟩ := hp
    have e0 : a.eval (.tmp 55) = .bool false := k0
    have e1 : a.eval (.tmp 65) = .bool false := k1
    simp [Act.eval] at e0
    simp [Act.eval] at e1
    exact ⟨_, rfl, .inl ⟨wanted_none rfl, Does.val (by simp [execOp, Act.eval, e0, e1, go_sem]) rfl⟩⟩
  ·intro val wx hB hsp hdis
   have e20 : val 20 = .bool false := hsp 20 (by omega)
   rw [← HF.out]
   change wpList _ _ _ [] _ _
   simp only [puts, vals, List.map_cons, List.map_nil, List.foldl_cons, List.foldl_nil, if_true, Nat.zero_add, Nat.reduceAdd, e20, List.setIfInBounds_toArray, List.set_cons_succ, List.set_cons_zero]
   clear hsp hdis HF e20
   clear ev7 ev8 ev11 ev12 ev13 ev14
   obtain ⟨w280, rfl⟩ : ∃ W : World, W = wx := ⟨_, rfl⟩
   have HS281 := Lib.hid hB
   have k0U := Lib.hid (Blw k0D.out hB)
   clear hB
   have kQ := (((kj.below HS268.out).below HS271.out).below HS281.out)
   obtain ⟨k4I, k4J, k4K, k4L, k4M, k4N, k4O, k4P, k4Q, k0V⟩ := kQ.f8
   have kR := (((kw.below HS268.out).below HS271.out).below HS281.out)
   obtain ⟨k4R, k4S, k4T, k4U, k4V, k4W, k4X, k4Y, k4Z, k0W⟩ := kR.f8
   have kS := (((kx.below HS268.out).below HS271.out).below HS281.out)
   obtain ⟨k50, k51, k52, k53, k54, k55, k56, k57, k58, k0X⟩ := kS.f8
   have kT := (((ky.below HS268.out).below HS271.out).below HS281.out)
   obtain ⟨k59, k5a, k5b, k5c, k5d, k5e, k5f, k5g, k5h, k0Y⟩ := kT.f8
   have kU := (kn.below HS281.out)
   obtain ⟨k5i, k5j, k5k, k5l, k5m, k5n, k5o, k5p, k5q, k0Z⟩ := kU.f8
   have kV := (kA.below HS281.out)
   obtain ⟨k5r, k5s, k5t, k5u, k5v, k5w, k5x, k5y, k5z, k10⟩ := kV.f8
   go_wp2_with fail
   have kW := Lib.hid ((((kv.out.kp (.of HS202.out)).kp (.of HS268.out)).kp (.of HS271.out)).kp (.of HS281.out))
   have kX := Lib.hid (((((((F50.out.kp (.of HS90.out)).kp (.of HS142.out)).kp (.of HS196.out)).kp (.of HS202.out)).kp (.of HS268.out)).kp (.of HS271.out)).kp (.of HS281.out))
   have kB := valn_any 7 29 aac0 aac1 aac2 aac3 aac4 aac5 aac6 aac7 c0 c1 c2 c3 c4 c5 c6 c7 (aa) (vrot t aa) w280 kW.out kX.out HBaa.out (HBt.out.rot HBaa.out) (by omega)
   rw [HZ1.out] at kB
   (with_reducible refine kB.mono ?_)
   clear kB
   rintro e w357 ⟨z0, z1, z2, z3, z4, z5, z6, z7, rfl, kC, kD⟩
   clear k0V k0W k0X k0Y k0Z k10
   have HS359 := Lib.hid kD
   have k11 := Lib.hid (Blw k0U.out kD)
   have k0F := Lib.hid kC
   obtain ⟨o_z0, o_z1, o_z2, o_z3, o_z4, o_z5, o_z6, o_z7⟩ := kC.ones
   clear kC kD
   have km := (kQ.below HS359.out)
   obtain ⟨k5A, k5B, k5C, k5D, k5E, k5F, k5G, k5H, k5I, k0l⟩ := km.f8
   have kY := (kR.below HS359.out)
   obtain ⟨k5J, k5K, k5L, k5M, k5N, k5O, k5P, k5Q, k5R, k12⟩ := kY.f8
   have kZ := (kS.below HS359.out)
   obtain ⟨k5S, k5T, k5U, k5V, k5W, k5X, k5Y, k5Z, k60, k13⟩ := kZ.f8
   have k00 := (kT.below HS359.out)
   obtain ⟨k61, k62, k63, k64, k65, k66, k67, k68, k69, k14⟩ := k00.f8
   have k01 := (kU.below HS359.out)
   obtain ⟨k6a, k6b, k6c, k6d, k6e, k6f, k6g, k6h, k6i, k15⟩ := k01.f8
   have k02 := (kV.below HS359.out)
   obtain ⟨k6j, k6k, k6l, k6m, k6n, k6o, k6p, k6q, k6r, k16⟩ := k02.f8
   go_wp2_with fail
   have k6s := km.lt
   generalize hW : w357.alloc _ = W435
   obtain ⟨k17, hB⟩ := box1 hW
   clear hW
   clear k0l k12 k13 k14 k15 k16
   have HS437 := Lib.hid hB
   have k18 := Lib.hid (Blw k11.out hB)
   clear hB
   have k19 := Lib.hid ((kX.out.kp (.of HS359.out)).kp (.of HS437.out))
   have k03 := Lib.hid ((kW.out.kp (.of HS359.out)).kp (.of HS437.out))
   have kE := valn_any 29 7 c0 c1 c2 c3 c4 c5 c6 c7 aac0 aac1 aac2 aac3 aac4 aac5 aac6 aac7 (vrot t aa) (aa) W435 k19.out k03.out (HBt.out.rot HBaa.out) HBaa.out (by omega)
   rw [HZ2.out] at kE
   (with_reducible refine kE.mono ?_)
   clear kE
   rintro e w441 ⟨v0, v1, v2, v3, v4, v5, v6, v7, rfl, kF, kG⟩
   have HS443 := Lib.hid kG
   have k0G := Lib.hid (Blw k18.out kG)
   have k0L := Lib.hid kF
   obtain ⟨o_v0, o_v1, o_v2, o_v3, o_v4, o_v5, o_v6, o_v7⟩ := kF.ones
   clear kF kG
   have kH := ((km.below HS437.out).below HS443.out)
   obtain ⟨k6t, k6u, k6v, k6w, k6x, k6y, k6z, k6A, k6B, k1a⟩ := kH.f8
   have k04 := ((kY.below HS437.out).below HS443.out)
   obtain ⟨k6C, k6D, k6E, k6F, k6G, k6H, k6I, k6J, k6K, k1b⟩ := k04.f8
   have k05 := ((kZ.below HS437.out).below HS443.out)
   obtain ⟨k6L, k6M, k6N, k6O, k6P, k6Q, k6R, k6S, k6T, k1c⟩ := k05.f8
   have k06 := ((k00.below HS437.out).below HS443.out)
   obtain ⟨k6U, k6V, k6W, k6X, k6Y, k6Z, k70, k71, k72, k1d⟩ := k06.f8
   have k07 := ((k01.below HS437.out).below HS443.out)
   obtain ⟨k73, k74, k75, k76, k77, k78, k79, k7a, k7b, k1e⟩ := k07.f8
   have k08 := ((k02.below HS437.out).below HS443.out)
   obtain ⟨k7c, k7d, k7e, k7f, k7g, k7h, k7i, k7j, k7k, k1f⟩ := k08.f8
   have k09 := (k17.below HS443.out)
   obtain ⟨k7l, k7m, k7n, k7o, k7p, k7q, k7r, k7s, k7t, k1g⟩ := k09.f8
   go_wp2_with fail
   have k7u := kH.lt
   generalize hW : w441.alloc _ = W531
   obtain ⟨k1h, hB⟩ := box1 hW
   clear hW
   clear k1a k1b k1c k1d k1e k1f k1g
   have HS533 := Lib.hid hB
   have k1i := Lib.hid (Blw k0G.out hB)
   clear hB
   have k1j := Lib.hid ((k03.out.kp (.of HS443.out)).kp (.of HS533.out))
   have k0a := vsame5_any aac0 aac1 aac2 aac3 aac4 aac5 aac6 aac7 (.bool false) (.slice none 0 0) (.bool false) (.slice none 0 0) (.bool false) (.slice none 0 0) (.bool false) (.slice none 0 0) aa (0, 0) W531 k1j.out (VecV.zero _) false (flv HVN.out)
   (with_reducible refine k0a.mono ?_)
   clear k0a
   rintro e w536 ⟨rfl, kI⟩
   have HS538 := Lib.hid kI
   have k1k := Lib.hid (Blw k1i.out kI)
   clear kI
   have k0b := ((kH.below HS533.out).below HS538.out)
   obtain ⟨k7v, k7w, k7x, k7y, k7z, k7A, k7B, k7C, k7D, k1l⟩ := k0b.f8
   have k0c := ((k04.below HS533.out).below HS538.out)
   obtain ⟨k7E, k7F, k7G, k7H, k7I, k7J, k7K, k7L, k7M, k1m⟩ := k0c.f8
   have k0d := ((k05.below HS533.out).below HS538.out)
   obtain ⟨k7N, k7O, k7P, k7Q, k7R, k7S, k7T, k7U, k7V, k1n⟩ := k0d.f8
   have k0e := ((k06.below HS533.out).below HS538.out)
   obtain ⟨k7W, k7X, k7Y, k7Z, k80, k81, k82, k83, k84, k1o⟩ := k0e.f8
   have k0f := ((k07.below HS533.out).below HS538.out)
   obtain ⟨k85, k86, k87, k88, k89, k8a, k8b, k8c, k8d, k1p⟩ := k0f.f8
   have k0g := ((k08.below HS533.out).below HS538.out)
   obtain ⟨k8e, k8f, k8g, k8h, k8i, k8j, k8k, k8l, k8m, k1q⟩ := k0g.f8
   have k0h := ((k09.below HS533.out).below HS538.out)
   obtain ⟨k8n, k8o, k8p, k8q, k8r, k8s, k8t, k8u, k8v, k1r⟩ := k0h.f8
   have k0i := (k1h.below HS538.out)
   obtain ⟨k8w, k8x, k8y, k8z, k8A, k8B, k8C, k8D, k8E, k1s⟩ := k0i.f8
   go_upto_region 18 with fail
   go_upto_region 18 with fail
   generalize hW : w536.drew = W636
   have hB : Below w536.heap.size w536 W636 := by rw [← hW]; exact (Below.refl _ _).drew
   clear k1l k1m k1n k1o k1p k1q k1r k1s
   have HS637 := Lib.hid hB
   have k44 := Lib.hid (Blw k1k.out hB)
   clear hB
   have k1A := (k0h.below HS637.out)
   have k0H := (k0d.below HS637.out)
   have k45 := Lib.hid (((((k0F.out.kp (.of HS437.out)).kp (.of HS443.out)).kp (.of HS533.out)).kp (.of HS538.out)).kp (.of HS637.out))
   have k1B := Lib.hid ((((((((((((((F44.out.kp (.of HS48.out)).kp (.of HS90.out)).kp (.of HS142.out)).kp (.of HS196.out)).kp (.of HS202.out)).kp (.of HS268.out)).kp (.of HS271.out)).kp (.of HS281.out)).kp (.of HS359.out)).kp (.of HS437.out)).kp (.of HS443.out)).kp (.of HS533.out)).kp (.of HS538.out)).kp (.of HS637.out))
   have k0j := (k0i.below HS637.out)
   have k46 := Lib.hid (((k0L.out.kp (.of HS533.out)).kp (.of HS538.out)).kp (.of HS637.out))
   generalize hF : ({ tmps := _, defers := _ } : Act) = F
   have ev9 : F.eval (.tmp 9) = .pointer (some ⟨w22.heap.size, 0, none⟩) := by rw [← hF]; rfl
   have ev17 : F.eval (.tmp 17) = .pointer (some ⟨w357.heap.size, 0, none⟩) := by rw [← hF]; rfl
   have ev18 : F.eval (.tmp 18) = .int .i64 0 := by rw [← hF]; rfl
   have ev19 : F.eval (.tmp 19) = .pointer (some ⟨w441.heap.size, 0, none⟩) := by rw [← hF]; rfl
   have ev20 : F.eval (.tmp 20) = .int .i64 0 := by rw [← hF]; rfl
   have HF := Lib.hid hF; clear hF
   refine wp_flow_tabG true hW 21 [(105, []), (106, [0]), (107, [1]), (108, [2]), (109, [3, 2]), (110, [2, 4]), (111, [5]), (112, [6]), (113, [6]), (114, [7, 8, 6]), (115, [6, 9]), (116, [10]), (117, [11]), (118, [11]), (119, [13, 11]), (120, [12, 14, 11]), (121, [11, 15]), (122, [16]), (123, [17]), (124, [17, 18]), (6, [19])] [SC (.int .i64 0), SC (.bool true), SC (.bool true), SC (.int .i64 0), SC (.bool true), SC (.bool true), SC (.bool true), SC (.agg #[z0, z1, z2, z3, z4, z5, z6, z7]), SC (.agg #[tc0, tc1, tc2, tc3, tc4, tc5, tc6, tc7]), SC (.bool true), SC (.bool true), SC (.bool true), SC (.agg #[v0, v1, v2, v3, v4, v5, v6, v7]), SC (.agg #[tc0, tc1, tc2, tc3, tc4, tc5, tc6, tc7]), SV (vbak t), SC (.bool true), SC (.bool true), SC (.bool true), SC (.bool true), SC (.bool true), SC (.bool true)] [false, false, false, false, false, false, false, false, false, false, false, false, false, false, false, false, false, false, false, false, false] (by kernel_rfl) (by kernel_rfl) (by kernel_rfl) (by kernel_rfl) (by kernel_rfl) (by rw [← HF.out]; simp) ⟨SC.mono _, SC.mono _, SC.mono _, SC.mono _, SC.mono _, SC.mono _, SC.mono _, SC.mono _, SC.mono _, SC.mono _, SC.mono _, SC.mono _, SC.mono _, SC.mono _, SV.mono _, SC.mono _, SC.mono _, SC.mono _, SC.mono _, SC.mono _, SC.mono _, trivial⟩ ?_ ?_
   ·intro kq hkq a wx hB hp hs
    have hcase : kq = 0 ∨ kq = 1 ∨ kq = 2 ∨ kq = 3 ∨ kq = 4 ∨ kq = 5 ∨ kq = 6 ∨ kq = 7 ∨ kq = 8 ∨ kq = 9 ∨ kq = 10 ∨ kq = 11 ∨ kq = 12 ∨ kq = 13 ∨ kq = 14 ∨ kq = 15 ∨ kq = 16 ∨ kq = 17 ∨ kq = 18 ∨ kq = 19 ∨ kq = 20 := by omega
    rcases hcase with rfl | rfl | rfl | rfl | rfl | rfl | rfl | rfl | rfl | rfl | rfl | rfl | rfl | rfl | rfl | rfl | rfl | rfl | rfl | rfl | rfl
    ·clear hp
     have b18 := (hs 18 rfl).trans ev18
     simp [Act.eval] at b18
     exact ⟨_, rfl, .inl ⟨wanted_none rfl, Does.val (by simp [execOp, Act.eval, b18, go_sem]) rfl⟩⟩
    ·obtain ⟨k0, -⟩ := hp
     have e0 : a.eval (.tmp 105) = .int .i64 0 := k0
     simp [Act.eval] at e0
     exact ⟨_, rfl, .inl ⟨wanted_none rfl, Does.val (by simp [execOp, Act.eval, e0, go_sem]) rfl⟩⟩
    ·obtain ⟨k0, -⟩ := hp
     have e0 : a.eval (.tmp 106) = .bool true := k0
     simp [Act.eval] at e0
     exact ⟨_, rfl, .inl ⟨wanted_none rfl, Does.val (by simp [execOp, Act.eval, e0, go_sem]) rfl⟩⟩
    ·obtain ⟨k0, -⟩ := hp
     have e0 : a.eval (.tmp 107) = .bool true := k0
     have b20 := (hs 20 rfl).trans ev20
     have hgd := e0
     simp [Act.eval] at b20
     exact ⟨_, rfl, .inl ⟨(wanted_of rfl rfl hgd).trans rfl, Does.val (by simp [execOp, Act.eval, b20, go_sem]) rfl⟩⟩
    ·obtain ⟨k0, k1, -⟩ := hp
     have e0 : a.eval (.tmp 108) = .int .i64 0 := k0
     have e1 : a.eval (.tmp 107) = .bool true := k1
     have hgd := e1
     simp [Act.eval] at e0
     exact ⟨_, rfl, .inl ⟨(wanted_of rfl rfl hgd).trans rfl, Does.val (by simp [execOp, Act.eval, e0, go_sem]) rfl⟩⟩
    ·obtain ⟨k0, k1, -⟩ := hp
     have e0 : a.eval (.tmp 107) = .bool true := k0
     have e1 : a.eval (.tmp 109) = .bool true := k1
     simp [Act.eval] at e0
     simp [Act.eval] at e1
     exact ⟨_, rfl, .inl ⟨wanted_none rfl, Does.val (by simp [execOp, Act.eval, e0, e1, go_sem]) rfl⟩⟩
    ·obtain ⟨k0, -⟩ := hp
     have e0 : a.eval (.tmp 110) = .bool true := k0
     simp [Act.eval] at e0
     exact ⟨_, rfl, .inl ⟨wanted_none rfl, Does.val (by simp [execOp, Act.eval, e0, go_sem]) rfl⟩⟩
    ·obtain ⟨k0, -⟩ := hp
     have e0 : a.eval (.tmp 111) = .bool true := k0
     have hgd := e0
     exact ⟨_, rfl, .inl ⟨(wanted_of rfl rfl hgd).trans rfl, ld_Turn rfl ((hs 17 rfl).trans ev17) (k1A.below hB) rfl rfl rfl rfl rfl rfl rfl rfl⟩⟩
    ·obtain ⟨k0, -⟩ := hp
     have e0 : a.eval (.tmp 111) = .bool true := k0
     have hgd := e0
     exact ⟨_, rfl, .inl ⟨(wanted_of rfl rfl hgd).trans rfl, ld_Turn rfl ((hs 9 rfl).trans ev9) (k0H.below hB) rfl rfl rfl rfl rfl rfl rfl rfl⟩⟩
    ·obtain ⟨k0, k1, k2, -⟩ := hp
     have e0 : a.eval (.tmp 112) = .agg #[z0, z1, z2, z3, z4, z5, z6, z7] := k0
     have e1 : a.eval (.tmp 113) = .agg #[tc0, tc1, tc2, tc3, tc4, tc5, tc6, tc7] := k1
     have e2 : a.eval (.tmp 111) = .bool true := k2
     have hgd := e2
     exact ⟨_, rfl, .inl ⟨(wanted_of rfl rfl hgd).trans rfl, Does.rc (f := 16) (call2 rfl (fun _ => by simp [go_sem]) e0 e1) (tsame_any z0 z1 z2 z3 z4 z5 z6 z7 tc0 tc1 tc2 tc3 tc4 tc5 tc6 tc7 _ _ wx (k45.out.kp (.of hB)) (k1B.out.kp (.of hB)) true (by simp))⟩⟩
    ·obtain ⟨k0, k1, -⟩ := hp
     have e0 : a.eval (.tmp 111) = .bool true := k0
     have e1 : a.eval (.tmp 114) = .bool true := k1
     simp [Act.eval] at e0
     simp [Act.eval] at e1
     exact ⟨_, rfl, .inl ⟨wanted_none rfl, Does.val (by simp [execOp, Act.eval, e0, e1, go_sem]) rfl⟩⟩
    ·obtain ⟨k0, -⟩ := hp
     have e0 : a.eval (.tmp 115) = .bool true := k0
     simp [Act.eval] at e0
     exact ⟨_, rfl, .inl ⟨wanted_none rfl, Does.val (by simp [execOp, Act.eval, e0, go_sem]) rfl⟩⟩
    ·obtain ⟨k0, -⟩ := hp
     have e0 : a.eval (.tmp 116) = .bool true := k0
     have hgd := e0
     exact ⟨_, rfl, .inl ⟨(wanted_of rfl rfl hgd).trans rfl, ld_Turn rfl ((hs 19 rfl).trans ev19) (k0j.below hB) rfl rfl rfl rfl rfl rfl rfl rfl⟩⟩
    ·obtain ⟨k0, -⟩ := hp
     have e0 : a.eval (.tmp 116) = .bool true := k0
     have hgd := e0
     exact ⟨_, rfl, .inl ⟨(wanted_of rfl rfl hgd).trans rfl, ld_Turn rfl ((hs 9 rfl).trans ev9) (k0H.below hB) rfl rfl rfl rfl rfl rfl rfl rfl⟩⟩
    ·obtain ⟨k0, k1, -⟩ := hp
     have e0 : a.eval (.tmp 118) = .agg #[tc0, tc1, tc2, tc3, tc4, tc5, tc6, tc7] := k0
     have e1 : a.eval (.tmp 116) = .bool true := k1
     have hgd := e1
     exact ⟨_, rfl, .inl ⟨(wanted_of rfl rfl hgd).trans rfl, Does.rv (f := 17) (call1 rfl (fun _ => by simp [go_sem]) e0) (vbak_any tc0 tc1 tc2 tc3 tc4 tc5 tc6 tc7 (t) wx (k1B.out.kp (.of hB)))⟩⟩
    ·obtain ⟨k0, k1, k2, -⟩ := hp
     have e0 : a.eval (.tmp 117) = .agg #[v0, v1, v2, v3, v4, v5, v6, v7] := k0
     obtain ⟨bk0, bk1, bk2, bk3, bk4, bk5, bk6, bk7, e1, h_bk⟩ := k1
     replace e1 : a.eval (.tmp 119) = .agg #[bk0, bk1, bk2, bk3, bk4, bk5, bk6, bk7] := e1
     have e2 : a.eval (.tmp 116) = .bool true := k2
     have hgd := e2
     exact ⟨_, rfl, .inl ⟨(wanted_of rfl rfl hgd).trans rfl, Does.rc (f := 16) (call2 rfl (fun _ => by simp [go_sem]) e0 e1) (tsame_any v0 v1 v2 v3 v4 v5 v6 v7 bk0 bk1 bk2 bk3 bk4 bk5 bk6 bk7 _ _ wx (k46.out.kp (.of hB)) h_bk true (by simp))⟩⟩
    ·obtain ⟨k0, k1, -⟩ := hp
     have e0 : a.eval (.tmp 116) = .bool true := k0
     have e1 : a.eval (.tmp 120) = .bool true := k1
     simp [Act.eval] at e0
     simp [Act.eval] at e1
     exact ⟨_, rfl, .inl ⟨wanted_none rfl, Does.val (by simp [execOp, Act.eval, e0, e1, go_sem]) rfl⟩⟩
    ·obtain ⟨k0, -⟩ := hp
     have e0 : a.eval (.tmp 121) = .bool true := k0
     simp [Act.eval] at e0
     exact ⟨_, rfl, .inl ⟨wanted_none rfl, Does.val (by simp [execOp, Act.eval, e0, go_sem]) rfl⟩⟩
    ·obtain ⟨k0, -⟩ := hp
     have e0 : a.eval (.tmp 122) = .bool true := k0
     have hgd := e0
     exact ⟨_, rfl, .inl ⟨(wanted_of rfl rfl hgd).trans rfl, Does.rc (f := 14) (call0 rfl (fun _ => by simp [go_sem])) (lives_any wx)⟩⟩
    ·obtain ⟨k0, k1, -⟩ := hp
     have e0 : a.eval (.tmp 122) = .bool true := k0
     have e1 : a.eval (.tmp 123) = .bool true := k1
     simp [Act.eval] at e0
     simp [Act.eval] at e1
     exact ⟨_, rfl, .inl ⟨wanted_none rfl, Does.val (by simp [execOp, Act.eval, e0, e1, go_sem]) rfl⟩⟩
    ·obtain ⟨k0, -⟩ := hp
     have e0 : a.eval (.tmp 124) = .bool true := k0
     simp [Act.eval] at e0
     exact ⟨_, rfl, .inl ⟨wanted_none rfl, Does.val (by simp [execOp, Act.eval, e0, go_sem]) rfl⟩⟩
   ·intro val wx hB hsp hdis
    have e20 : val 20 = .bool true := hsp 20 (by omega)
    rw [← HF.out]
    change wpList _ _ _ [] _ _
    simp only [puts, vals, List.map_cons, List.map_nil, List.foldl_cons, List.foldl_nil, if_true, Nat.zero_add, Nat.reduceAdd, e20, List.setIfInBounds_toArray, List.set_cons_succ, List.set_cons_zero]
    clear hsp hdis HF e20
    clear ev9 ev17 ev18 ev19 ev20
    obtain ⟨w649, rfl⟩ : ∃ W : World, W = wx := ⟨_, rfl⟩
    have HS650 := Lib.hid hB
    have k47 := Lib.hid (Blw k44.out hB)
    clear hB
    have k1t := ((k0b.below HS637.out).below HS650.out)
    obtain ⟨kaf, kag, kah, kai, kaj, kak, kal, kam, kan, k8F⟩ := k1t.f8
    have k1u := ((k0c.below HS637.out).below HS650.out)
    obtain ⟨kao, kap, kaq, kar, kas, kat, kau, kav, kaw, k8G⟩ := k1u.f8
    have k1v := (k0H.below HS650.out)
    obtain ⟨kax, kay, kaz, kaA, kaB, kaC, kaD, kaE, kaF, k8H⟩ := k1v.f8
    have k1w := ((k0e.below HS637.out).below HS650.out)
    obtain ⟨kaG, kaH, kaI, kaJ, kaK, kaL, kaM, kaN, kaO, k8I⟩ := k1w.f8
    have k1x := ((k0f.below HS637.out).below HS650.out)
    obtain ⟨kaP, kaQ, kaR, kaS, kaT, kaU, kaV, kaW, kaX, k8J⟩ := k1x.f8
    have k1y := ((k0g.below HS637.out).below HS650.out)
    obtain ⟨kaY, kaZ, kb0, kb1, kb2, kb3, kb4, kb5, kb6, k8K⟩ := k1y.f8
    have k1z := (k1A.below HS650.out)
    obtain ⟨kb7, kb8, kb9, kba, kbb, kbc, kbd, kbe, kbf, k8L⟩ := k1z.f8
    have k48 := (k0j.below HS650.out)
    obtain ⟨kbg, kbh, kbi, kbj, kbk, kbl, kbm, kbn, kbo, kbp⟩ := k48.f8
    go_wp2
    go_ret
    exact ⟨rfl, k47.out⟩
 by_cases hd : vdot aa aa = vdot bb bb
 ·have HZ3 := Lib.hid (valn_ok hv hu hd)
  clear hv hu hd
  skip
  have kb := (k0k.below HS90.out)
  obtain ⟨k1D, k1E, k1F, k1G, k1H, k1I, k1J, k1K, k1L, kK⟩ := kb.f8
  have kk := (k0I.below HS90.out)
  obtain ⟨k1M, k1N, k1O, k1P, k1Q, k1R, k1S, k1T, k1U, kL⟩ := kk.f8
  have kl := (k0J.below HS90.out)
  obtain ⟨k1V, k1W, k1X, k1Y, k1Z, k20, k21, k22, k23, kM⟩ := kl.f8
  obtain ⟨k24, k25, k26, k27, k28, k29, k2a, k2b, k2c, kN⟩ := kJ.f8
  go_wp2_with fail
  have ko := Lib.hid ((F45.out.kp (.of HS48.out)).kp (.of HS90.out))
  have kr := Lib.hid (((((F14.out.kp (.of HS20.out)).kp (.of HS24.out)).kp (.of HS42.out)).kp (.of HS48.out)).kp (.of HS90.out))
  have kc := valn_any 7 7 aac0 aac1 aac2 aac3 aac4 aac5 aac6 aac7 bbc0 bbc1 bbc2 bbc3 bbc4 bbc5 bbc6 bbc7 (aa) (bb) W88 ko.out kr.out HBaa.out HBbb.out (by omega)
  rw [HZ3.out] at kc
  (with_reducible refine kc.mono ?_)
  clear kc
  rintro e w140 ⟨x0, x1, x2, x3, x4, x5, x6, x7, rfl, kd, ke⟩
  clear kK kL kM kN
  have HS142 := Lib.hid ke
  have k0m := Lib.hid (Blw k0P.out ke)
  have k0n := Lib.hid kd
  obtain ⟨o_x0, o_x1, o_x2, o_x3, o_x4, o_x5, o_x6, o_x7⟩ := kd.ones
  clear kd ke
  have kf := (kb.below HS142.out)
  obtain ⟨k2J, k2K, k2L, k2M, k2N, k2O, k2P, k2Q, k2R, k0o⟩ := kf.f8
  have ks := (kk.below HS142.out)
  obtain ⟨k2S, k2T, k2U, k2V, k2W, k2X, k2Y, k2Z, k30, k0p⟩ := ks.f8
  have kt := (kl.below HS142.out)
  obtain ⟨k31, k32, k33, k34, k35, k36, k37, k38, k39, k0q⟩ := kt.f8
  have ku := (kJ.below HS142.out)
  obtain ⟨k3a, k3b, k3c, k3d, k3e, k3f, k3g, k3h, k3i, k0r⟩ := ku.f8
  go_wp2_with fail
  have k3j := kf.lt
  generalize hW : w140.alloc _ = W194
  obtain ⟨k0s, hB⟩ := box1 hW
  clear hW
  clear k0o k0p k0q k0r
  have HS196 := Lib.hid hB
  have k0t := Lib.hid (Blw k0m.out hB)
  clear hB
  have kv := Lib.hid ((ko.out.kp (.of HS142.out)).kp (.of HS196.out))
  have kO := Lib.hid ((kr.out.kp (.of HS142.out)).kp (.of HS196.out))
  have kg := valn5_any 7 7 aac0 aac1 aac2 aac3 aac4 aac5 aac6 aac7 bbc0 bbc1 bbc2 bbc3 bbc4 bbc5 bbc6 bbc7 (aa) (bb) W194 kv.out kO.out HBaa.out HBbb.out (by omega)
  rw [HZ3.out] at kg
  (with_reducible refine kg.mono ?_)
  clear kg
  rintro e w200 ⟨y0, y1, y2, y3, y4, y5, y6, y7, rfl, kh, ki⟩
  have HS202 := Lib.hid ki
  have k0u := Lib.hid (Blw k0t.out ki)
  have k0v := Lib.hid kh
  obtain ⟨o_y0, o_y1, o_y2, o_y3, o_y4, o_y5, o_y6, o_y7⟩ := kh.ones
  clear kh ki
  have kj := ((kf.below HS196.out).below HS202.out)
  obtain ⟨k3k, k3l, k3m, k3n, k3o, k3p, k3q, k3r, k3s, k0w⟩ := kj.f8
  have kw := ((ks.below HS196.out).below HS202.out)
  obtain ⟨k3t, k3u, k3v, k3w, k3x, k3y, k3z, k3A, k3B, k0x⟩ := kw.f8
  have kx := ((kt.below HS196.out).below HS202.out)
  obtain ⟨k3C, k3D, k3E, k3F, k3G, k3H, k3I, k3J, k3K, k0y⟩ := kx.f8
  have ky := ((ku.below HS196.out).below HS202.out)
  obtain ⟨k3L, k3M, k3N, k3O, k3P, k3Q, k3R, k3S, k3T, k0z⟩ := ky.f8
  have kz := (k0s.below HS202.out)
  obtain ⟨k3U, k3V, k3W, k3X, k3Y, k3Z, k40, k41, k42, k0A⟩ := kz.f8
  go_upto_region 9 with fail
  have k43 := kj.lt
  generalize hW : w200.alloc _ = W266
  obtain ⟨k0B, hB⟩ := box1 hW
  clear hW
  clear k0w k0x k0y k0z k0A
  have HS268 := Lib.hid hB
  have k0C := Lib.hid (Blw k0u.out hB)
  clear hB
  go_upto_region 9 with fail
  generalize hW : W266.drew = W270
  have hB : Below W266.heap.size W266 W270 := by rw [← hW]; exact (Below.refl _ _).drew
  have HS271 := Lib.hid hB
  have k0D := Lib.hid (Blw k0C.out hB)
  clear hB
  have kn := ((kz.below HS268.out).below HS271.out)
  have kA := (k0B.below HS271.out)
  have kP := Lib.hid ((((k0n.out.kp (.of HS196.out)).kp (.of HS202.out)).kp (.of HS268.out)).kp (.of HS271.out))
  have k0E := Lib.hid ((k0v.out.kp (.of HS268.out)).kp (.of HS271.out))
  have k8M := ((kj.below HS268.out).below HS271.out)
  have k8N := Lib.hid (((kv.out.kp (.of HS202.out)).kp (.of HS268.out)).kp (.of HS271.out))
  have k8O := ((kw.below HS268.out).below HS271.out)
  have kbq := Lib.hid (((kO.out.kp (.of HS202.out)).kp (.of HS268.out)).kp (.of HS271.out))
  generalize hF : ({ tmps := _, defers := _ } : Act) = F
  have ev7 : F.eval (.tmp 7) = .pointer (some ⟨w1.heap.size, 0, none⟩) := by rw [← hF]; rfl
  have ev8 : F.eval (.tmp 8) = .pointer (some ⟨w10.heap.size, 0, none⟩) := by rw [← hF]; rfl
  have ev11 : F.eval (.tmp 11) = .pointer (some ⟨w140.heap.size, 0, none⟩) := by rw [← hF]; rfl
  have ev12 : F.eval (.tmp 12) = .int .i64 0 := by rw [← hF]; rfl
  have ev13 : F.eval (.tmp 13) = .pointer (some ⟨w200.heap.size, 0, none⟩) := by rw [← hF]; rfl
  have ev14 : F.eval (.tmp 14) = .int .i64 0 := by rw [← hF]; rfl
  have HF := Lib.hid hF; clear hF
  refine wp_flow_tabG true hW 21 [(46, []), (47, []), (48, [0, 1]), (49, [2]), (50, [3]), (51, [3]), (52, [4, 5, 3]), (53, [6, 3]), (54, [3, 7]), (55, [8]), (56, [9]), (57, [10, 9]), (58, [11, 9]), (59, [12]), (60, [12]), (61, [13, 14, 12]), (62, [12]), (63, [15, 16, 12]), (64, [17, 12]), (65, [12, 18, 9]), (66, [9, 19])] [SC (.int .i64 0), SC (.int .i64 0), SC (.bool false), SC (.bool false), SC (.agg #[x0, x1, x2, x3, x4, x5, x6, x7]), SC (.agg #[y0, y1, y2, y3, y4, y5, y6, y7]), SC (.bool true), SC (.bool false), SC (.bool false), SC (.bool false), SC (.int .i64 0), SC (.bool true), SC (.bool true), SC (.agg #[x0, x1, x2, x3, x4, x5, x6, x7]), SC (.agg #[aac0, aac1, aac2, aac3, aac4, aac5, aac6, aac7]), SV (vrot (vdot aa bb / vdot aa aa, vcrs aa bb / vdot aa aa) aa), SC (.agg #[bbc0, bbc1, bbc2, bbc3, bbc4, bbc5, bbc6, bbc7]), SC (.bool true), SC (.bool false), SC (.bool false), SC (.bool false)] [false, false, false, false, false, false, false, false, false, false, false, false, false, false, false, false, false, false, false, false, false] (by kernel_rfl) (by kernel_rfl) (by kernel_rfl) (by kernel_rfl) (by kernel_rfl) (by rw [← HF.out]; simp) ⟨SC.mono _, SC.mono _, SC.mono _, SC.mono _, SC.mono _, SC.mono _, SC.mono _, SC.mono _, SC.mono _, SC.mono _, SC.mono _, SC.mono _, SC.mono _, SC.mono _, SC.mono _, SV.mono _, SC.mono _, SC.mono _, SC.mono _, SC.mono _, SC.mono _, trivial⟩ ?_ ?_
  ·intro kq hkq a wx hB hp hs
   have hcase : kq = 0 ∨ kq = 1 ∨ kq = 2 ∨ kq = 3 ∨ kq = 4 ∨ kq = 5 ∨ kq = 6 ∨ kq = 7 ∨ kq = 8 ∨ kq = 9 ∨ kq = 10 ∨ kq = 11 ∨ kq = 12 ∨ kq = 13 ∨ kq = 14 ∨ kq = 15 ∨ kq = 16 ∨ kq = 17 ∨ kq = 18 ∨ kq = 19 ∨ kq = 20 := by omega
   rcases hcase with rfl | rfl | rfl | rfl | rfl | rfl | rfl | rfl | rfl | rfl | rfl | rfl | rfl | rfl | rfl | rfl | rfl | rfl | rfl | rfl | rfl
   ·clear hp
    have b12 := (hs 12 rfl).trans ev12
    simp [Act.eval] at b12
    exact ⟨_, rfl, .inl ⟨wanted_none rfl, Does.val (by simp [execOp, Act.eval, b12, go_sem]) rfl⟩⟩
   ·clear hp
    have b14 := (hs 14 rfl).trans ev14
    simp [Act.eval] at b14
    exact ⟨_, rfl, .inl ⟨wanted_none rfl, Does.val (by simp [execOp, Act.eval, b14, go_sem]) rfl⟩⟩
   ·obtain ⟨k0, k1, -⟩ := hp
    have e0 : a.eval (.tmp 46) = .int .i64 0 := k0
    have e1 : a.eval (.tmp 47) = .int .i64 0 := k1
    simp [Act.eval] at e0
    simp [Act.eval] at e1
    exact ⟨_, rfl, .inl ⟨wanted_none rfl, Does.val (by simp [execOp, Act.eval, e0, e1, go_sem]) rfl⟩⟩
   ·obtain ⟨k0, -⟩ := hp
    have e0 : a.eval (.tmp 48) = .bool false := k0
    simp [Act.eval] at e0
    exact ⟨_, rfl, .inl ⟨wanted_none rfl, Does.val (by simp [execOp, Act.eval, e0, go_sem]) rfl⟩⟩
   ·obtain ⟨k0, -⟩ := hp
    have e0 : a.eval (.tmp 49) = .bool false := k0
    have hgd := e0
    exact ⟨_, rfl, .inl ⟨(wanted_of rfl rfl hgd).trans rfl, ld_Turn rfl ((hs 11 rfl).trans ev11) (kn.below hB) rfl rfl rfl rfl rfl rfl rfl rfl⟩⟩
   ·obtain ⟨k0, -⟩ := hp
    have e0 : a.eval (.tmp 49) = .bool false := k0
    have hgd := e0
    exact ⟨_, rfl, .inl ⟨(wanted_of rfl rfl hgd).trans rfl, ld_Turn rfl ((hs 13 rfl).trans ev13) (kA.below hB) rfl rfl rfl rfl rfl rfl rfl rfl⟩⟩
   ·obtain ⟨k0, k1, k2, -⟩ := hp
    have e0 : a.eval (.tmp 50) = .agg #[x0, x1, x2, x3, x4, x5, x6, x7] := k0
    have e1 : a.eval (.tmp 51) = .agg #[y0, y1, y2, y3, y4, y5, y6, y7] := k1
    have e2 : a.eval (.tmp 49) = .bool false := k2
    have hgd := e2
    exact ⟨_, rfl, .inl ⟨(wanted_of rfl rfl hgd).trans rfl, Does.rc (f := 12) (call2 rfl (fun _ => by simp [go_sem]) e0 e1) (tsame5_any x0 x1 x2 x3 x4 x5 x6 x7 y0 y1 y2 y3 y4 y5 y6 y7 _ _ wx (kP.out.kp (.of hB)) (k0E.out.kp (.of hB)) true (by simp))⟩⟩
   ·obtain ⟨k0, k1, -⟩ := hp
    have e0 : a.eval (.tmp 52) = .bool true := k0
    have e1 : a.eval (.tmp 49) = .bool false := k1
    have hgd := e1
    simp [Act.eval] at e0
    exact ⟨_, rfl, .inl ⟨(wanted_of rfl rfl hgd).trans rfl, Does.val (by simp [execOp, Act.eval, e0, go_sem]) rfl⟩⟩
   ·obtain ⟨k0, k1, -⟩ := hp
    have e0 : a.eval (.tmp 49) = .bool false := k0
    have e1 : a.eval (.tmp 53) = .bool false := k1
    simp [Act.eval] at e0
    simp [Act.eval] at e1
    exact ⟨_, rfl, .inl ⟨wanted_none rfl, Does.val (by simp [execOp, Act.eval, e0, e1, go_sem]) rfl⟩⟩
   ·obtain ⟨k0, -⟩ := hp
    have e0 : a.eval (.tmp 54) = .bool false := k0
    simp [Act.eval] at e0
    exact ⟨_, rfl, .inl ⟨wanted_none rfl, Does.val (by simp [execOp, Act.eval, e0, go_sem]) rfl⟩⟩
   ·obtain ⟨k0, -⟩ := hp
    have e0 : a.eval (.tmp 55) = .bool false := k0
    have b12 := (hs 12 rfl).trans ev12
    have hgd := e0
    simp [Act.eval] at b12
    exact ⟨_, rfl, .inl ⟨(wanted_of rfl rfl hgd).trans rfl, Does.val (by simp [execOp, Act.eval, b12, go_sem]) rfl⟩⟩
   ·obtain ⟨k0, k1, -⟩ := hp
    have e0 : a.eval (.tmp 56) = .int .i64 0 := k0
    have e1 : a.eval (.tmp 55) = .bool false := k1
    have hgd := e1
    simp [Act.eval] at e0
    exact ⟨_, rfl, .inl ⟨(wanted_of rfl rfl hgd).trans rfl, Does.val (by simp [execOp, Act.eval, e0, go_sem]) rfl⟩⟩
   ·obtain ⟨k0, k1, -⟩ := hp
    have e0 : a.eval (.tmp 57) = .bool true := k0
    have e1 : a.eval (.tmp 55) = .bool false := k1
    have hgd := e1
    simp [Act.eval] at e0
    exact ⟨_, rfl, .inl ⟨(wanted_of rfl rfl hgd).trans rfl, Does.val (by simp [execOp, Act.eval, e0, go_sem]) rfl⟩⟩
   ·obtain ⟨k0, -⟩ := hp
    have e0 : a.eval (.tmp 58) = .bool true := k0
    have hgd := e0
    exact ⟨_, rfl, .inl ⟨(wanted_of rfl rfl hgd).trans rfl, ld_Turn rfl ((hs 11 rfl).trans ev11) (kn.below hB) rfl rfl rfl rfl rfl rfl rfl rfl⟩⟩
   ·obtain ⟨k0, -⟩ := hp
    have e0 : a.eval (.tmp 58) = .bool true := k0
    have hgd := e0
    exact ⟨_, rfl, .inl ⟨(wanted_of rfl rfl hgd).trans rfl, ld_Vec rfl ((hs 7 rfl).trans ev7) (k8M.below hB) rfl rfl rfl rfl rfl rfl rfl rfl⟩⟩
   ·obtain ⟨k0, k1, k2, -⟩ := hp
    have e0 : a.eval (.tmp 59) = .agg #[x0, x1, x2, x3, x4, x5, x6, x7] := k0
    have e1 : a.eval (.tmp 60) = .agg #[aac0, aac1, aac2, aac3, aac4, aac5, aac6, aac7] := k1
    have e2 : a.eval (.tmp 58) = .bool true := k2
    have hgd := e2
    exact ⟨_, rfl, .inl ⟨(wanted_of rfl rfl hgd).trans rfl, Does.rv (f := 9) (call2 rfl (fun _ => by simp [go_sem]) e0 e1) (vrot_any (58) (7) x0 x1 x2 x3 x4 x5 x6 x7 aac0 aac1 aac2 aac3 aac4 aac5 aac6 aac7 (vdot aa bb / vdot aa aa, vcrs aa bb / vdot aa aa) (aa) wx (kP.out.kp (.of hB)) (k8N.out.kp (.of hB)) (bv_ali HBaa.out HBbb.out) HBaa.out (by omega))⟩⟩
   ·obtain ⟨k0, -⟩ := hp
    have e0 : a.eval (.tmp 58) = .bool true := k0
    have hgd := e0
    exact ⟨_, rfl, .inl ⟨(wanted_of rfl rfl hgd).trans rfl, ld_Vec rfl ((hs 8 rfl).trans ev8) (k8O.below hB) rfl rfl rfl rfl rfl rfl rfl rfl⟩⟩
   ·obtain ⟨k0, k1, k2, -⟩ := hp
    obtain ⟨r0, r1, r2, r3, r4, r5, r6, r7, e0, h_r⟩ := k0
    replace e0 : a.eval (.tmp 61) = .agg #[r0, r1, r2, r3, r4, r5, r6, r7] := e0
    have e1 : a.eval (.tmp 62) = .agg #[bbc0, bbc1, bbc2, bbc3, bbc4, bbc5, bbc6, bbc7] := k1
    have e2 : a.eval (.tmp 58) = .bool true := k2
    have hgd := e2
    exact ⟨_, rfl, .inl ⟨(wanted_of rfl rfl hgd).trans rfl, Does.rc (f := 13) (call2 rfl (fun _ => by simp [go_sem]) e0 e1) (vsame_any r0 r1 r2 r3 r4 r5 r6 r7 bbc0 bbc1 bbc2 bbc3 bbc4 bbc5 bbc6 bbc7 _ _ wx h_r (kbq.out.kp (.of hB)) true (trv (ali_rot HVN.out)))⟩⟩
   ·obtain ⟨k0, k1, -⟩ := hp
    have e0 : a.eval (.tmp 63) = .bool true := k0
    have e1 : a.eval (.tmp 58) = .bool true := k1
    have hgd := e1
    simp [Act.eval] at e0
    exact ⟨_, rfl, .inl ⟨(wanted_of rfl rfl hgd).trans rfl, Does.val (by simp [execOp, Act.eval, e0, go_sem]) rfl⟩⟩
   ·obtain ⟨k0, k1, k2, -⟩ := hp
    have e0 : a.eval (.tmp 58) = .bool true := k0
    have e1 : a.eval (.tmp 64) = .bool false := k1
    have e2 : a.eval (.tmp 55) = .bool false := k2
    have hgd := e2
    simp [Act.eval] at e0
    simp [Act.eval] at e1
    exact ⟨_, rfl, .inl ⟨(wanted_of rfl rfl hgd).trans rfl, Does.val (by simp [execOp, Act.eval, e0, e1, go_sem]) rfl⟩⟩
   ·obtain ⟨k0, k1, -⟩ := hp
    have e0 : a.eval (.tmp 55) = .bool false := k0
    have e1 : a.eval (.tmp 65) = .bool false := k1
    simp [Act.eval] at e0
    simp [Act.eval] at e1
    exact ⟨_, rfl, .inl ⟨wanted_none rfl, Does.val (by simp [execOp, Act.eval, e0, e1, go_sem]) rfl⟩⟩
  ·intro val wx hB hsp hdis
   have e20 : val 20 = .bool false := hsp 20 (by omega)
   rw [← HF.out]
   change wpList _ _ _ [] _ _
   simp only [puts, vals, List.map_cons, List.map_nil, List.foldl_cons, List.foldl_nil, if_true, Nat.zero_add, Nat.reduceAdd, e20, List.setIfInBounds_toArray, List.set_cons_succ, List.set_cons_zero]
   clear hsp hdis HF e20
   clear ev7 ev8 ev11 ev12 ev13 ev14
   obtain ⟨w286, rfl⟩ : ∃ W : World, W = wx := ⟨_, rfl⟩
   have HS287 := Lib.hid hB
   have k2B := Lib.hid (Blw k0D.out hB)
   clear hB
   have k8P := (k8M.below HS287.out)
   obtain ⟨kia, kib, kic, kid, kie, kif, kig, kih, kii, kbr⟩ := k8P.f8
   have k8Q := (k8O.below HS287.out)
   obtain ⟨kij, kik, kil, kim, kin, kio, kip, kiq, kir, kbs⟩ := k8Q.f8
   have k8R := (((kx.below HS268.out).below HS271.out).below HS287.out)
   obtain ⟨kis, kit, kiu, kiv, kiw, kix, kiy, kiz, kiA, kbt⟩ := k8R.f8
   have k8S := (((ky.below HS268.out).below HS271.out).below HS287.out)
   obtain ⟨kiB, kiC, kiD, kiE, kiF, kiG, kiH, kiI, kiJ, kbu⟩ := k8S.f8
   have k8T := (kn.below HS287.out)
   obtain ⟨kiK, kiL, kiM, kiN, kiO, kiP, kiQ, kiR, kiS, kbv⟩ := k8T.f8
   have k8U := (kA.below HS287.out)
   obtain ⟨kiT, kiU, kiV, kiW, kiX, kiY, kiZ, kj0, kj1, kbw⟩ := k8U.f8
   go_wp2_with fail
   have k0F := Lib.hid (k8N.out.kp (.of HS287.out))
   have k8V := Lib.hid (((((((F50.out.kp (.of HS90.out)).kp (.of HS142.out)).kp (.of HS196.out)).kp (.of HS202.out)).kp (.of HS268.out)).kp (.of HS271.out)).kp (.of HS287.out))
   have k49 := valn_any 7 29 aac0 aac1 aac2 aac3 aac4 aac5 aac6 aac7 c0 c1 c2 c3 c4 c5 c6 c7 (aa) (vrot t aa) w286 k0F.out k8V.out HBaa.out (HBt.out.rot HBaa.out) (by omega)
   rw [HZ1.out] at k49
   (with_reducible refine k49.mono ?_)
   clear k49
   rintro e w363 ⟨z0, z1, z2, z3, z4, z5, z6, z7, rfl, k4a, k4b⟩
   clear kbr kbs kbt kbu kbv kbw
   have HS365 := Lib.hid k4b
   have kbx := Lib.hid (Blw k2B.out k4b)
   have kby := Lib.hid k4a
   obtain ⟨o_z0, o_z1, o_z2, o_z3, o_z4, o_z5, o_z6, o_z7⟩ := k4a.ones
   clear k4a k4b
   have k4c := (k8P.below HS365.out)
   obtain ⟨kj2, kj3, kj4, kj5, kj6, kj7, kj8, kj9, kja, kbz⟩ := k4c.f8
   have k0K := (k8Q.below HS365.out)
   obtain ⟨kjb, kjc, kjd, kje, kjf, kjg, kjh, kji, kjj, k2E⟩ := k0K.f8
   have k0Q := (k8R.below HS365.out)
   obtain ⟨kjk, kjl, kjm, kjn, kjo, kjp, kjq, kjr, kjs, k2F⟩ := k0Q.f8
   have k0R := (k8S.below HS365.out)
   obtain ⟨kjt, kju, kjv, kjw, kjx, kjy, kjz, kjA, kjB, k2G⟩ := k0R.f8
   have k0S := (k8T.below HS365.out)
   obtain ⟨kjC, kjD, kjE, kjF, kjG, kjH, kjI, kjJ, kjK, k2H⟩ := k0S.f8
   have k0T := (k8U.below HS365.out)
   obtain ⟨kjL, kjM, kjN, kjO, kjP, kjQ, kjR, kjS, kjT, k2I⟩ := k0T.f8
   go_wp2_with fail
   have kjU := k4c.lt
   generalize hW : w363.alloc _ = W441
   obtain ⟨kbA, hB⟩ := box1 hW
   clear hW
   clear kbz k2E k2F k2G k2H k2I
   have HS443 := Lib.hid hB
   have k0G := Lib.hid (Blw kbx.out hB)
   clear hB
   have k0L := Lib.hid ((k8V.out.kp (.of HS365.out)).kp (.of HS443.out))
   have k8W := Lib.hid ((k0F.out.kp (.of HS365.out)).kp (.of HS443.out))
   have k4d := valn_any 29 7 c0 c1 c2 c3 c4 c5 c6 c7 aac0 aac1 aac2 aac3 aac4 aac5 aac6 aac7 (vrot t aa) (aa) W441 k0L.out k8W.out (HBt.out.rot HBaa.out) HBaa.out (by omega)
   rw [HZ2.out] at k4d
   (with_reducible refine k4d.mono ?_)
   clear k4d
   rintro e w447 ⟨v0, v1, v2, v3, v4, v5, v6, v7, rfl, k4e, k4f⟩
   have HS449 := Lib.hid k4f
   have kbB := Lib.hid (Blw k0G.out k4f)
   have kbC := Lib.hid k4e
   obtain ⟨o_v0, o_v1, o_v2, o_v3, o_v4, o_v5, o_v6, o_v7⟩ := k4e.ones
   clear k4e k4f
   have k4g := ((k4c.below HS443.out).below HS449.out)
   obtain ⟨kjV, kjW, kjX, kjY, kjZ, kk0, kk1, kk2, kk3, kbD⟩ := k4g.f8
   have k8X := ((k0K.below HS443.out).below HS449.out)
   obtain ⟨kk4, kk5, kk6, kk7, kk8, kk9, kka, kkb, kkc, kbE⟩ := k8X.f8
   have k8Y := ((k0Q.below HS443.out).below HS449.out)
   obtain ⟨kkd, kke, kkf, kkg, kkh, kki, kkj, kkk, kkl, kbF⟩ := k8Y.f8
   have k8Z := ((k0R.below HS443.out).below HS449.out)
   obtain ⟨kkm, kkn, kko, kkp, kkq, kkr, kks, kkt, kku, kbG⟩ := k8Z.f8
   have k90 := ((k0S.below HS443.out).below HS449.out)
   obtain ⟨kkv, kkw, kkx, kky, kkz, kkA, kkB, kkC, kkD, kbH⟩ := k90.f8
   have k91 := ((k0T.below HS443.out).below HS449.out)
   obtain ⟨kkE, kkF, kkG, kkH, kkI, kkJ, kkK, kkL, kkM, kbI⟩ := k91.f8
   have k92 := (kbA.below HS449.out)
   obtain ⟨kkN, kkO, kkP, kkQ, kkR, kkS, kkT, kkU, kkV, kbJ⟩ := k92.f8
   go_wp2_with fail
   have kkW := k4g.lt
   generalize hW : w447.alloc _ = W537
   obtain ⟨kbK, hB⟩ := box1 hW
   clear hW
   clear kbD kbE kbF kbG kbH kbI kbJ
   have HS539 := Lib.hid hB
   have kbL := Lib.hid (Blw kbB.out hB)
   clear hB
   have kbM := Lib.hid ((k8W.out.kp (.of HS449.out)).kp (.of HS539.out))
   have k93 := vsame5_any aac0 aac1 aac2 aac3 aac4 aac5 aac6 aac7 (.bool false) (.slice none 0 0) (.bool false) (.slice none 0 0) (.bool false) (.slice none 0 0) (.bool false) (.slice none 0 0) aa (0, 0) W537 kbM.out (VecV.zero _) false (flv HVN.out)
   (with_reducible refine k93.mono ?_)
   clear k93
   rintro e w542 ⟨rfl, k4h⟩
   have HS544 := Lib.hid k4h
   have kbN := Lib.hid (Blw kbL.out k4h)
   clear k4h
   have k94 := ((k4g.below HS539.out).below HS544.out)
   obtain ⟨kkX, kkY, kkZ, kl0, kl1, kl2, kl3, kl4, kl5, kbO⟩ := k94.f8
   have k95 := ((k8X.below HS539.out).below HS544.out)
   obtain ⟨kl6, kl7, kl8, kl9, kla, klb, klc, kld, kle, kbP⟩ := k95.f8
   have k96 := ((k8Y.below HS539.out).below HS544.out)
   obtain ⟨klf, klg, klh, kli, klj, klk, kll, klm, kln, kbQ⟩ := k96.f8
   have k97 := ((k8Z.below HS539.out).below HS544.out)
   obtain ⟨klo, klp, klq, klr, kls, klt, klu, klv, klw, kbR⟩ := k97.f8
   have k98 := ((k90.below HS539.out).below HS544.out)
   obtain ⟨klx, kly, klz, klA, klB, klC, klD, klE, klF, kbS⟩ := k98.f8
   have k99 := ((k91.below HS539.out).below HS544.out)
   obtain ⟨klG, klH, klI, klJ, klK, klL, klM, klN, klO, kbT⟩ := k99.f8
   have k9a := ((k92.below HS539.out).below HS544.out)
   obtain ⟨klP, klQ, klR, klS, klT, klU, klV, klW, klX, kbU⟩ := k9a.f8
   have k9b := (kbK.below HS544.out)
   obtain ⟨klY, klZ, km0, km1, km2, km3, km4, km5, km6, kbV⟩ := k9b.f8
   go_upto_region 18 with fail
   go_upto_region 18 with fail
   generalize hW : w542.drew = W642
   have hB : Below w542.heap.size w542 W642 := by rw [← hW]; exact (Below.refl _ _).drew
   clear kbO kbP kbQ kbR kbS kbT kbU kbV
   have HS643 := Lib.hid hB
   have kbW := Lib.hid (Blw kbN.out hB)
   clear hB
   have k0j := (k9a.below HS643.out)
   have k4i := (k96.below HS643.out)
   have kbX := Lib.hid (((((kby.out.kp (.of HS443.out)).kp (.of HS449.out)).kp (.of HS539.out)).kp (.of HS544.out)).kp (.of HS643.out))
   have k9c := Lib.hid ((((((((((((((F44.out.kp (.of HS48.out)).kp (.of HS90.out)).kp (.of HS142.out)).kp (.of HS196.out)).kp (.of HS202.out)).kp (.of HS268.out)).kp (.of HS271.out)).kp (.of HS287.out)).kp (.of HS365.out)).kp (.of HS443.out)).kp (.of HS449.out)).kp (.of HS539.out)).kp (.of HS544.out)).kp (.of HS643.out))
   have k9d := (k9b.below HS643.out)
   have kbY := Lib.hid (((kbC.out.kp (.of HS539.out)).kp (.of HS544.out)).kp (.of HS643.out))
   generalize hF : ({ tmps := _, defers := _ } : Act) = F
   have ev9 : F.eval (.tmp 9) = .pointer (some ⟨w22.heap.size, 0, none⟩) := by rw [← hF]; rfl
   have ev17 : F.eval (.tmp 17) = .pointer (some ⟨w363.heap.size, 0, none⟩) := by rw [← hF]; rfl
   have ev18 : F.eval (.tmp 18) = .int .i64 0 := by rw [← hF]; rfl
   have ev19 : F.eval (.tmp 19) = .pointer (some ⟨w447.heap.size, 0, none⟩) := by rw [← hF]; rfl
   have ev20 : F.eval (.tmp 20) = .int .i64 0 := by rw [← hF]; rfl
   have HF := Lib.hid hF; clear hF
   refine wp_flow_tabG true hW 21 [(105, []), (106, [0]), (107, [1]), (108, [2]), (109, [3, 2]), (110, [2, 4]), (111, [5]), (112, [6]), (113, [6]), (114, [7, 8, 6]), (115, [6, 9]), (116, [10]), (117, [11]), (118, [11]), (119, [13, 11]), (120, [12, 14, 11]), (121, [11, 15]), (122, [16]), (123, [17]), (124, [17, 18]), (6, [19])] [SC (.int .i64 0), SC (.bool true), SC (.bool true), SC (.int .i64 0), SC (.bool true), SC (.bool true), SC (.bool true), SC (.agg #[z0, z1, z2, z3, z4, z5, z6, z7]), SC (.agg #[tc0, tc1, tc2, tc3, tc4, tc5, tc6, tc7]), SC (.bool true), SC (.bool true), SC (.bool true), SC (.agg #[v0, v1, v2, v3, v4, v5, v6, v7]), SC (.agg #[tc0, tc1, tc2, tc3, tc4, tc5, tc6, tc7]), SV (vbak t), SC (.bool true), SC (.bool true), SC (.bool true), SC (.bool true), SC (.bool true), SC (.bool true)] [false, false, false, false, false, false, false, false, false, false, false, false, false, false, false, false, false, false, false, false, false] (by kernel_rfl) (by kernel_rfl) (by kernel_rfl) (by kernel_rfl) (by kernel_rfl) (by rw [← HF.out]; simp) ⟨SC.mono _, SC.mono _, SC.mono _, SC.mono _, SC.mono _, SC.mono _, SC.mono _, SC.mono _, SC.mono _, SC.mono _, SC.mono _, SC.mono _, SC.mono _, SC.mono _, SV.mono _, SC.mono _, SC.mono _, SC.mono _, SC.mono _, SC.mono _, SC.mono _, trivial⟩ ?_ ?_
   ·intro kq hkq a wx hB hp hs
    have hcase : kq = 0 ∨ kq = 1 ∨ kq = 2 ∨ kq = 3 ∨ kq = 4 ∨ kq = 5 ∨ kq = 6 ∨ kq = 7 ∨ kq = 8 ∨ kq = 9 ∨ kq = 10 ∨ kq = 11 ∨ kq = 12 ∨ kq = 13 ∨ kq = 14 ∨ kq = 15 ∨ kq = 16 ∨ kq = 17 ∨ kq = 18 ∨ kq = 19 ∨ kq = 20 := by omega
    rcases hcase with rfl | rfl | rfl | rfl | rfl | rfl | rfl | rfl | rfl | rfl | rfl | rfl | rfl | rfl | rfl | rfl | rfl | rfl | rfl | rfl | rfl
    ·clear hp
     have b18 := (hs 18 rfl).trans ev18
     simp [Act.eval] at b18
     exact ⟨_, rfl, .inl ⟨wanted_none rfl, Does.val (by simp [execOp, Act.eval, b18, go_sem]) rfl⟩⟩
    ·obtain ⟨k0, -⟩ := hp
     have e0 : a.eval (.tmp 105) = .int .i64 0 := k0
     simp [Act.eval] at e0
     exact ⟨_, rfl, .inl ⟨wanted_none rfl, Does.val (by simp [execOp, Act.eval, e0, go_sem]) rfl⟩⟩
    ·obtain ⟨k0, -⟩ := hp
     have e0 : a.eval (.tmp 106) = .bool true := k0
     simp [Act.eval] at e0
     exact ⟨_, rfl, .inl ⟨wanted_none rfl, Does.val (by simp [execOp, Act.eval, e0, go_sem]) rfl⟩⟩
    ·obtain ⟨k0, -⟩ := hp
     have e0 : a.eval (.tmp 107) = .bool true := k0
     have b20 := (hs 20 rfl).trans ev20
     have hgd := e0
     simp [Act.eval] at b20
     exact ⟨_, rfl, .inl ⟨(wanted_of rfl rfl hgd).trans rfl, Does.val (by simp [execOp, Act.eval, b20, go_sem]) rfl⟩⟩
    ·obtain ⟨k0, k1, -⟩ := hp
     have e0 : a.eval (.tmp 108) = .int .i64 0 := k0
     have e1 : a.eval (.tmp 107) = .bool true := k1
     have hgd := e1
     simp [Act.eval] at e0
     exact ⟨_, rfl, .inl ⟨(wanted_of rfl rfl hgd).trans rfl, Does.val (by simp [execOp, Act.eval, e0, go_sem]) rfl⟩⟩
    ·obtain ⟨k0, k1, -⟩ := hp
     have e0 : a.eval (.tmp 107) = .bool true := k0
     have e1 : a.eval (.tmp 109) = .bool true := k1
     simp [Act.eval] at e0
     simp [Act.eval] at e1
     exact ⟨_, rfl, .inl ⟨wanted_none rfl, Does.val (by simp [execOp, Act.eval, e0, e1, go_sem]) rfl⟩⟩
    ·obtain ⟨k0, -⟩ := hp
     have e0 : a.eval (.tmp 110) = .bool true := k0
     simp [Act.eval] at e0
     exact ⟨_, rfl, .inl ⟨wanted_none rfl, Does.val (by simp [execOp, Act.eval, e0, go_sem]) rfl⟩⟩
    ·obtain ⟨k0, -⟩ := hp
     have e0 : a.eval (.tmp 111) = .bool true := k0
     have hgd := e0
     exact ⟨_, rfl, .inl ⟨(wanted_of rfl rfl hgd).trans rfl, ld_Turn rfl ((hs 17 rfl).trans ev17) (k0j.below hB) rfl rfl rfl rfl rfl rfl rfl rfl⟩⟩
    ·obtain ⟨k0, -⟩ := hp
     have e0 : a.eval (.tmp 111) = .bool true := k0
     have hgd := e0
     exact ⟨_, rfl, .inl ⟨(wanted_of rfl rfl hgd).trans rfl, ld_Turn rfl ((hs 9 rfl).trans ev9) (k4i.below hB) rfl rfl rfl rfl rfl rfl rfl rfl⟩⟩
    ·obtain ⟨k0, k1, k2, -⟩ := hp
     have e0 : a.eval (.tmp 112) = .agg #[z0, z1, z2, z3, z4, z5, z6, z7] := k0
     have e1 : a.eval (.tmp 113) = .agg #[tc0, tc1, tc2, tc3, tc4, tc5, tc6, tc7] := k1
     have e2 : a.eval (.tmp 111) = .bool true := k2
     have hgd := e2
     exact ⟨_, rfl, .inl ⟨(wanted_of rfl rfl hgd).trans rfl, Does.rc (f := 16) (call2 rfl (fun _ => by simp [go_sem]) e0 e1) (tsame_any z0 z1 z2 z3 z4 z5 z6 z7 tc0 tc1 tc2 tc3 tc4 tc5 tc6 tc7 _ _ wx (kbX.out.kp (.of hB)) (k9c.out.kp (.of hB)) true (by simp))⟩⟩
    ·obtain ⟨k0, k1, -⟩ := hp
     have e0 : a.eval (.tmp 111) = .bool true := k0
     have e1 : a.eval (.tmp 114) = .bool true := k1
     simp [Act.eval] at e0
     simp [Act.eval] at e1
     exact ⟨_, rfl, .inl ⟨wanted_none rfl, Does.val (by simp [execOp, Act.eval, e0, e1, go_sem]) rfl⟩⟩
    ·obtain ⟨k0, -⟩ := hp
     have e0 : a.eval (.tmp 115) = .bool true := k0
     simp [Act.eval] at e0
     exact ⟨_, rfl, .inl ⟨wanted_none rfl, Does.val (by simp [execOp, Act.eval, e0, go_sem]) rfl⟩⟩
    ·obtain ⟨k0, -⟩ := hp
     have e0 : a.eval (.tmp 116) = .bool true := k0
     have hgd := e0
     exact ⟨_, rfl, .inl ⟨(wanted_of rfl rfl hgd).trans rfl, ld_Turn rfl ((hs 19 rfl).trans ev19) (k9d.below hB) rfl rfl rfl rfl rfl rfl rfl rfl⟩⟩
    ·obtain ⟨k0, -⟩ := hp
     have e0 : a.eval (.tmp 116) = .bool true := k0
     have hgd := e0
     exact ⟨_, rfl, .inl ⟨(wanted_of rfl rfl hgd).trans rfl, ld_Turn rfl ((hs 9 rfl).trans ev9) (k4i.below hB) rfl rfl rfl rfl rfl rfl rfl rfl⟩⟩
    ·obtain ⟨k0, k1, -⟩ := hp
     have e0 : a.eval (.tmp 118) = .agg #[tc0, tc1, tc2, tc3, tc4, tc5, tc6, tc7] := k0
     have e1 : a.eval (.tmp 116) = .bool true := k1
     have hgd := e1
     exact ⟨_, rfl, .inl ⟨(wanted_of rfl rfl hgd).trans rfl, Does.rv (f := 17) (call1 rfl (fun _ => by simp [go_sem]) e0) (vbak_any tc0 tc1 tc2 tc3 tc4 tc5 tc6 tc7 (t) wx (k9c.out.kp (.of hB)))⟩⟩
    ·obtain ⟨k0, k1, k2, -⟩ := hp
     have e0 : a.eval (.tmp 117) = .agg #[v0, v1, v2, v3, v4, v5, v6, v7] := k0
     obtain ⟨bk0, bk1, bk2, bk3, bk4, bk5, bk6, bk7, e1, h_bk⟩ := k1
     replace e1 : a.eval (.tmp 119) = .agg #[bk0, bk1, bk2, bk3, bk4, bk5, bk6, bk7] := e1
     have e2 : a.eval (.tmp 116) = .bool true := k2
     have hgd := e2
     exact ⟨_, rfl, .inl ⟨(wanted_of rfl rfl hgd).trans rfl, Does.rc (f := 16) (call2 rfl (fun _ => by simp [go_sem]) e0 e1) (tsame_any v0 v1 v2 v3 v4 v5 v6 v7 bk0 bk1 bk2 bk3 bk4 bk5 bk6 bk7 _ _ wx (kbY.out.kp (.of hB)) h_bk true (by simp))⟩⟩
    ·obtain ⟨k0, k1, -⟩ := hp
     have e0 : a.eval (.tmp 116) = .bool true := k0
     have e1 : a.eval (.tmp 120) = .bool true := k1
     simp [Act.eval] at e0
     simp [Act.eval] at e1
     exact ⟨_, rfl, .inl ⟨wanted_none rfl, Does.val (by simp [execOp, Act.eval, e0, e1, go_sem]) rfl⟩⟩
    ·obtain ⟨k0, -⟩ := hp
     have e0 : a.eval (.tmp 121) = .bool true := k0
     simp [Act.eval] at e0
     exact ⟨_, rfl, .inl ⟨wanted_none rfl, Does.val (by simp [execOp, Act.eval, e0, go_sem]) rfl⟩⟩
    ·obtain ⟨k0, -⟩ := hp
     have e0 : a.eval (.tmp 122) = .bool true := k0
     have hgd := e0
     exact ⟨_, rfl, .inl ⟨(wanted_of rfl rfl hgd).trans rfl, Does.rc (f := 14) (call0 rfl (fun _ => by simp [go_sem])) (lives_any wx)⟩⟩
    ·obtain ⟨k0, k1, -⟩ := hp
     have e0 : a.eval (.tmp 122) = .bool true := k0
     have e1 : a.eval (.tmp 123) = .bool true := k1
     simp [Act.eval] at e0
     simp [Act.eval] at e1
     exact ⟨_, rfl, .inl ⟨wanted_none rfl, Does.val (by simp [execOp, Act.eval, e0, e1, go_sem]) rfl⟩⟩
    ·obtain ⟨k0, -⟩ := hp
     have e0 : a.eval (.tmp 124) = .bool true := k0
     simp [Act.eval] at e0
     exact ⟨_, rfl, .inl ⟨wanted_none rfl, Does.val (by simp [execOp, Act.eval, e0, go_sem]) rfl⟩⟩
   ·intro val wx hB hsp hdis
    have e20 : val 20 = .bool true := hsp 20 (by omega)
    rw [← HF.out]
    change wpList _ _ _ [] _ _
    simp only [puts, vals, List.map_cons, List.map_nil, List.foldl_cons, List.foldl_nil, if_true, Nat.zero_add, Nat.reduceAdd, e20, List.setIfInBounds_toArray, List.set_cons_succ, List.set_cons_zero]
    clear hsp hdis HF e20
    clear ev9 ev17 ev18 ev19 ev20
    obtain ⟨w655, rfl⟩ : ∃ W : World, W = wx := ⟨_, rfl⟩
    have HS656 := Lib.hid hB
    have kbZ := Lib.hid (Blw kbW.out hB)
    clear hB
    have kc0 := ((k94.below HS643.out).below HS656.out)
    obtain ⟨km7, km8, km9, kma, kmb, kmc, kmd, kme, kmf, kmg⟩ := kc0.f8
    have kc1 := ((k95.below HS643.out).below HS656.out)
    obtain ⟨kmh, kmi, kmj, kmk, kml, kmm, kmn, kmo, kmp, kmq⟩ := kc1.f8
    have kc2 := (k4i.below HS656.out)
    obtain ⟨kmr, kms, kmt, kmu, kmv, kmw, kmx, kmy, kmz, kmA⟩ := kc2.f8
    have kc3 := ((k97.below HS643.out).below HS656.out)
    obtain ⟨kmB, kmC, kmD, kmE, kmF, kmG, kmH, kmI, kmJ, kmK⟩ := kc3.f8
    have kc4 := ((k98.below HS643.out).below HS656.out)
    obtain ⟨kmL, kmM, kmN, kmO, kmP, kmQ, kmR, kmS, kmT, kmU⟩ := kc4.f8
    have kc5 := ((k99.below HS643.out).below HS656.out)
    obtain ⟨kmV, kmW, kmX, kmY, kmZ, kn0, kn1, kn2, kn3, kn4⟩ := kc5.f8
    have kc6 := (k0j.below HS656.out)
    obtain ⟨kn5, kn6, kn7, kn8, kn9, kna, knb, knc, knd, kne⟩ := kc6.f8
    have kc7 := (k9d.below HS656.out)
    obtain ⟨knf, kng, knh, kni, knj, knk, knl, knm, knn, kno⟩ := kc7.f8
    go_wp2
    go_ret
    exact ⟨rfl, kbZ.out⟩
 ·have HZ3 := Lib.hid (valn_df hv hu hd)
  clear hv hu hd
  skip
  have kb := (k0k.below HS90.out)
  obtain ⟨k1D, k1E, k1F, k1G, k1H, k1I, k1J, k1K, k1L, kK⟩ := kb.f8
  have kk := (k0I.below HS90.out)
  obtain ⟨k1M, k1N, k1O, k1P, k1Q, k1R, k1S, k1T, k1U, kL⟩ := kk.f8
  have kl := (k0J.below HS90.out)
  obtain ⟨k1V, k1W, k1X, k1Y, k1Z, k20, k21, k22, k23, kM⟩ := kl.f8
  obtain ⟨k24, k25, k26, k27, k28, k29, k2a, k2b, k2c, kN⟩ := kJ.f8
  go_wp2_with fail
  have ko := Lib.hid ((F45.out.kp (.of HS48.out)).kp (.of HS90.out))
  have kr := Lib.hid (((((F14.out.kp (.of HS20.out)).kp (.of HS24.out)).kp (.of HS42.out)).kp (.of HS48.out)).kp (.of HS90.out))
  have kc := valn_any 7 7 aac0 aac1 aac2 aac3 aac4 aac5 aac6 aac7 bbc0 bbc1 bbc2 bbc3 bbc4 bbc5 bbc6 bbc7 (aa) (bb) W88 ko.out kr.out HBaa.out HBbb.out (by omega)
  rw [HZ3.out] at kc
  (with_reducible refine kc.mono ?_)
  clear kc
  rintro e w140 ⟨x0, x1, x2, x3, x4, x5, x6, x7, rfl, kd, ke⟩
  clear kK kL kM kN
  have HS142 := Lib.hid ke
  have k0m := Lib.hid (Blw k0P.out ke)
  have k0n := Lib.hid kd
  obtain ⟨o_x0, o_x1, o_x2, o_x3, o_x4, o_x5, o_x6, o_x7⟩ := kd.ones
  clear kd ke
  have kf := (kb.below HS142.out)
  obtain ⟨k2J, k2K, k2L, k2M, k2N, k2O, k2P, k2Q, k2R, k0o⟩ := kf.f8
  have ks := (kk.below HS142.out)
  obtain ⟨k2S, k2T, k2U, k2V, k2W, k2X, k2Y, k2Z, k30, k0p⟩ := ks.f8
  have kt := (kl.below HS142.out)
  obtain ⟨k31, k32, k33, k34, k35, k36, k37, k38, k39, k0q⟩ := kt.f8
  have ku := (kJ.below HS142.out)
  obtain ⟨k3a, k3b, k3c, k3d, k3e, k3f, k3g, k3h, k3i, k0r⟩ := ku.f8
  go_wp2_with fail
  have k3j := kf.lt
  generalize hW : w140.alloc _ = W194
  obtain ⟨k0s, hB⟩ := box1 hW
  clear hW
  clear k0o k0p k0q k0r
  have HS196 := Lib.hid hB
  have k0t := Lib.hid (Blw k0m.out hB)
  clear hB
  have kv := Lib.hid ((ko.out.kp (.of HS142.out)).kp (.of HS196.out))
  have kO := Lib.hid ((kr.out.kp (.of HS142.out)).kp (.of HS196.out))
  have kg := valn5_any 7 7 aac0 aac1 aac2 aac3 aac4 aac5 aac6 aac7 bbc0 bbc1 bbc2 bbc3 bbc4 bbc5 bbc6 bbc7 (aa) (bb) W194 kv.out kO.out HBaa.out HBbb.out (by omega)
  rw [HZ3.out] at kg
  (with_reducible refine kg.mono ?_)
  clear kg
  rintro e w200 ⟨y0, y1, y2, y3, y4, y5, y6, y7, rfl, kh, ki⟩
  have HS202 := Lib.hid ki
  have k0u := Lib.hid (Blw k0t.out ki)
  have k0v := Lib.hid kh
  obtain ⟨o_y0, o_y1, o_y2, o_y3, o_y4, o_y5, o_y6, o_y7⟩ := kh.ones
  clear kh ki
  have kj := ((kf.below HS196.out).below HS202.out)
  obtain ⟨k3k, k3l, k3m, k3n, k3o, k3p, k3q, k3r, k3s, k0w⟩ := kj.f8
  have kw := ((ks.below HS196.out).below HS202.out)
  obtain ⟨k3t, k3u, k3v, k3w, k3x, k3y, k3z, k3A, k3B, k0x⟩ := kw.f8
  have kx := ((kt.below HS196.out).below HS202.out)
  obtain ⟨k3C, k3D, k3E, k3F, k3G, k3H, k3I, k3J, k3K, k0y⟩ := kx.f8
  have ky := ((ku.below HS196.out).below HS202.out)
  obtain ⟨k3L, k3M, k3N, k3O, k3P, k3Q, k3R, k3S, k3T, k0z⟩ := ky.f8
  have kz := (k0s.below HS202.out)
  obtain ⟨k3U, k3V, k3W, k3X, k3Y, k3Z, k40, k41, k42, k0A⟩ := kz.f8
  go_upto_region 9 with fail
  have k43 := kj.lt
  generalize hW : w200.alloc _ = W266
  obtain ⟨k0B, hB⟩ := box1 hW
  clear hW
  clear k0w k0x k0y k0z k0A
  have HS268 := Lib.hid hB
  have k0C := Lib.hid (Blw k0u.out hB)
  clear hB
  go_upto_region 9 with fail
  generalize hW : W266.drew = W270
  have hB : Below W266.heap.size W266 W270 := by rw [← hW]; exact (Below.refl _ _).drew
  have HS271 := Lib.hid hB
  have k0D := Lib.hid (Blw k0C.out hB)
  clear hB
  have kn := ((kz.below HS268.out).below HS271.out)
  have kA := (k0B.below HS271.out)
  have kP := Lib.hid ((((k0n.out.kp (.of HS196.out)).kp (.of HS202.out)).kp (.of HS268.out)).kp (.of HS271.out))
  have k0E := Lib.hid ((k0v.out.kp (.of HS268.out)).kp (.of HS271.out))
  generalize hF : ({ tmps := _, defers := _ } : Act) = F
  have ev7 : F.eval (.tmp 7) = .pointer (some ⟨w1.heap.size, 0, none⟩) := by rw [← hF]; rfl
  have ev8 : F.eval (.tmp 8) = .pointer (some ⟨w10.heap.size, 0, none⟩) := by rw [← hF]; rfl
  have ev11 : F.eval (.tmp 11) = .pointer (some ⟨w140.heap.size, 0, none⟩) := by rw [← hF]; rfl
  have ev12 : F.eval (.tmp 12) = .int .i64 21 := by rw [← hF]; rfl
  have ev13 : F.eval (.tmp 13) = .pointer (some ⟨w200.heap.size, 0, none⟩) := by rw [← hF]; rfl
  have ev14 : F.eval (.tmp 14) = .int .i64 21 := by rw [← hF]; rfl
  have HF := Lib.hid hF; clear hF
  refine wp_flow_tabG true hW 21 [(46, []), (47, []), (48, [0, 1]), (49, [2]), (50, [3]), (51, [3]), (52, [4, 5, 3]), (53, [6, 3]), (54, [3, 7]), (55, [8]), (56, [9]), (57, [10, 9]), (58, [11, 9]), (59, [12]), (60, [12]), (61, [13, 14, 12]), (62, [12]), (63, [15, 16, 12]), (64, [17, 12]), (65, [12, 18, 9]), (66, [9, 19])] [SC (.int .i64 21), SC (.int .i64 21), SC (.bool false), SC (.bool false), SC (.agg #[x0, x1, x2, x3, x4, x5, x6, x7]), SC (.agg #[y0, y1, y2, y3, y4, y5, y6, y7]), SC (.bool true), SC (.bool false), SC (.bool false), SC (.bool false), SC (.int .i64 21), SC (.bool false), SC (.bool false), SC undef, SC undef, SC undef, SC undef, SC undef, SC undef, SC (.bool false), SC (.bool false)] [false, false, false, false, false, false, false, false, false, false, false, false, false, false, false, false, false, false, false, false, false] (by kernel_rfl) (by kernel_rfl) (by kernel_rfl) (by kernel_rfl) (by kernel_rfl) (by rw [← HF.out]; simp) ⟨SC.mono _, SC.mono _, SC.mono _, SC.mono _, SC.mono _, SC.mono _, SC.mono _, SC.mono _, SC.mono _, SC.mono _, SC.mono _, SC.mono _, SC.mono _, SC.mono _, SC.mono _, SC.mono _, SC.mono _, SC.mono _, SC.mono _, SC.mono _, SC.mono _, trivial⟩ ?_ ?_
  ·intro kq hkq a wx hB hp hs
   have hcase : kq = 0 ∨ kq = 1 ∨ kq = 2 ∨ kq = 3 ∨ kq = 4 ∨ kq = 5 ∨ kq = 6 ∨ kq = 7 ∨ kq = 8 ∨ kq = 9 ∨ kq = 10 ∨ kq = 11 ∨ kq = 12 ∨ kq = 13 ∨ kq = 14 ∨ kq = 15 ∨ kq = 16 ∨ kq = 17 ∨ kq = 18 ∨ kq = 19 ∨ kq = 20 := by omega
   rcases hcase with rfl | rfl | rfl | rfl | rfl | rfl | rfl | rfl | rfl | rfl | rfl | rfl | rfl | rfl | rfl | rfl | rfl | rfl | rfl | rfl | rfl
   ·clear hp
    have b12 := (hs 12 rfl).trans ev12
    simp [Act.eval] at b12
    exact ⟨_, rfl, .inl ⟨wanted_none rfl, Does.val (by simp [execOp, Act.eval, b12, go_sem]) rfl⟩⟩
   ·clear hp
    have b14 := (hs 14 rfl).trans ev14
    simp [Act.eval] at b14
    exact ⟨_, rfl, .inl ⟨wanted_none rfl, Does.val (by simp [execOp, Act.eval, b14, go_sem]) rfl⟩⟩
   ·obtain ⟨k0, k1, -⟩ := hp
    have e0 : a.eval (.tmp 46) = .int .i64 21 := k0
    have e1 : a.eval (.tmp 47) = .int .i64 21 := k1
    simp [Act.eval] at e0
    simp [Act.eval] at e1
    exact ⟨_, rfl, .inl ⟨wanted_none rfl, Does.val (by simp [execOp, Act.eval, e0, e1, go_sem]) rfl⟩⟩
   ·obtain ⟨k0, -⟩ := hp
    have e0 : a.eval (.tmp 48) = .bool false := k0
    simp [Act.eval] at e0
    exact ⟨_, rfl, .inl ⟨wanted_none rfl, Does.val (by simp [execOp, Act.eval, e0, go_sem]) rfl⟩⟩
   ·obtain ⟨k0, -⟩ := hp
    have e0 : a.eval (.tmp 49) = .bool false := k0
    have hgd := e0
    exact ⟨_, rfl, .inl ⟨(wanted_of rfl rfl hgd).trans rfl, ld_Turn rfl ((hs 11 rfl).trans ev11) (kn.below hB) rfl rfl rfl rfl rfl rfl rfl rfl⟩⟩
   ·obtain ⟨k0, -⟩ := hp
    have e0 : a.eval (.tmp 49) = .bool false := k0
    have hgd := e0
    exact ⟨_, rfl, .inl ⟨(wanted_of rfl rfl hgd).trans rfl, ld_Turn rfl ((hs 13 rfl).trans ev13) (kA.below hB) rfl rfl rfl rfl rfl rfl rfl rfl⟩⟩
   ·obtain ⟨k0, k1, k2, -⟩ := hp
    have e0 : a.eval (.tmp 50) = .agg #[x0, x1, x2, x3, x4, x5, x6, x7] := k0
    have e1 : a.eval (.tmp 51) = .agg #[y0, y1, y2, y3, y4, y5, y6, y7] := k1
    have e2 : a.eval (.tmp 49) = .bool false := k2
    have hgd := e2
    exact ⟨_, rfl, .inl ⟨(wanted_of rfl rfl hgd).trans rfl, Does.rc (f := 12) (call2 rfl (fun _ => by simp [go_sem]) e0 e1) (tsame5_any x0 x1 x2 x3 x4 x5 x6 x7 y0 y1 y2 y3 y4 y5 y6 y7 _ _ wx (kP.out.kp (.of hB)) (k0E.out.kp (.of hB)) true (by simp))⟩⟩
   ·obtain ⟨k0, k1, -⟩ := hp
    have e0 : a.eval (.tmp 52) = .bool true := k0
    have e1 : a.eval (.tmp 49) = .bool false := k1
    have hgd := e1
    simp [Act.eval] at e0
    exact ⟨_, rfl, .inl ⟨(wanted_of rfl rfl hgd).trans rfl, Does.val (by simp [execOp, Act.eval, e0, go_sem]) rfl⟩⟩
   ·obtain ⟨k0, k1, -⟩ := hp
    have e0 : a.eval (.tmp 49) = .bool false := k0
    have e1 : a.eval (.tmp 53) = .bool false := k1
    simp [Act.eval] at e0
    simp [Act.eval] at e1
    exact ⟨_, rfl, .inl ⟨wanted_none rfl, Does.val (by simp [execOp, Act.eval, e0, e1, go_sem]) rfl⟩⟩
   ·obtain ⟨k0, -⟩ := hp
    have e0 : a.eval (.tmp 54) = .bool false := k0
    simp [Act.eval] at e0
    exact ⟨_, rfl, .inl ⟨wanted_none rfl, Does.val (by simp [execOp, Act.eval, e0, go_sem]) rfl⟩⟩
   ·obtain ⟨k0, -⟩ := hp
    have e0 : a.eval (.tmp 55) = .bool false := k0
    have b12 := (hs 12 rfl).trans ev12
    have hgd := e0
    simp [Act.eval] at b12
    exact ⟨_, rfl, .inl ⟨(wanted_of rfl rfl hgd).trans rfl, Does.val (by simp [execOp, Act.eval, b12, go_sem]) rfl⟩⟩
   ·obtain ⟨k0, k1, -⟩ := hp
    have e0 : a.eval (.tmp 56) = .int .i64 21 := k0
    have e1 : a.eval (.tmp 55) = .bool false := k1
    have hgd := e1
    simp [Act.eval] at e0
    exact ⟨_, rfl, .inl ⟨(wanted_of rfl rfl hgd).trans rfl, Does.val (by simp [execOp, Act.eval, e0, go_sem]) rfl⟩⟩
   ·obtain ⟨k0, k1, -⟩ := hp
    have e0 : a.eval (.tmp 57) = .bool false := k0
    have e1 : a.eval (.tmp 55) = .bool false := k1
    have hgd := e1
    simp [Act.eval] at e0
    exact ⟨_, rfl, .inl ⟨(wanted_of rfl rfl hgd).trans rfl, Does.val (by simp [execOp, Act.eval, e0, go_sem]) rfl⟩⟩
   ·obtain ⟨k0, -⟩ := hp
    have e0 : a.eval (.tmp 58) = .bool false := k0
    have b11 := (hs 11 rfl).trans ev11
    have hgd := e0
    exact ⟨_, rfl, .inr ⟨(wanted_of rfl rfl hgd).trans rfl, rfl, rfl⟩⟩
   ·obtain ⟨k0, -⟩ := hp
    have e0 : a.eval (.tmp 58) = .bool false := k0
    have b7 := (hs 7 rfl).trans ev7
    have hgd := e0
    exact ⟨_, rfl, .inr ⟨(wanted_of rfl rfl hgd).trans rfl, rfl, rfl⟩⟩
   ·obtain ⟨k0, k1, k2, -⟩ := hp
    have e0 : a.eval (.tmp 59) = undef := k0
    have e1 : a.eval (.tmp 60) = undef := k1
    have e2 : a.eval (.tmp 58) = .bool false := k2
    have hgd := e2
    exact ⟨_, rfl, .inr ⟨(wanted_of rfl rfl hgd).trans rfl, rfl, rfl⟩⟩
   ·obtain ⟨k0, -⟩ := hp
    have e0 : a.eval (.tmp 58) = .bool false := k0
    have b8 := (hs 8 rfl).trans ev8
    have hgd := e0
    exact ⟨_, rfl, .inr ⟨(wanted_of rfl rfl hgd).trans rfl, rfl, rfl⟩⟩
   ·obtain ⟨k0, k1, k2, -⟩ := hp
    have e0 : a.eval (.tmp 61) = undef := k0
    have e1 : a.eval (.tmp 62) = undef := k1
    have e2 : a.eval (.tmp 58) = .bool false := k2
    have hgd := e2
    exact ⟨_, rfl, .inr ⟨(wanted_of rfl rfl hgd).trans rfl, rfl, rfl⟩⟩
   ·obtain ⟨k0, k1, -⟩ := hp
    have e0 : a.eval (.tmp 63) = undef := k0
    have e1 : a.eval (.tmp 58) = .bool false := k1
    have hgd := e1
    exact ⟨_, rfl, .inr ⟨(wanted_of rfl rfl hgd).trans rfl, rfl, rfl⟩⟩
   ·obtain ⟨k0, k1, k2, -⟩ := hp
    have e0 : a.eval (.tmp 58) = .bool false := k0
    have e1 : a.eval (.tmp 64) = undef := k1
    have e2 : a.eval (.tmp 55) = .bool false := k2
    have hgd := e2
    simp [Act.eval] at e0
    simp [Act.eval] at e1
    exact ⟨_, rfl, .inl ⟨(wanted_of rfl rfl hgd).trans rfl, Does.val (by simp [execOp, Act.eval, e0, e1, go_sem]) rfl⟩⟩
   ·obtain ⟨k0, k1, -⟩ := hp
    have e0 : a.eval (.tmp 55) = .bool false := k0
    have e1 : a.eval (.tmp 65) = .bool false := k1
    simp [Act.eval] at e0
    simp [Act.eval] at e1
    exact ⟨_, rfl, .inl ⟨wanted_none rfl, Does.val (by simp [execOp, Act.eval, e0, e1, go_sem]) rfl⟩⟩
  ·intro val wx hB hsp hdis
   have e20 : val 20 = .bool false := hsp 20 (by omega)
   rw [← HF.out]
   change wpList _ _ _ [] _ _
   simp only [puts, vals, List.map_cons, List.map_nil, List.foldl_cons, List.foldl_nil, if_true, Nat.zero_add, Nat.reduceAdd, e20, List.setIfInBounds_toArray, List.set_cons_succ, List.set_cons_zero]
   clear hsp hdis HF e20
   clear ev7 ev8 ev11 ev12 ev13 ev14
   obtain ⟨w280, rfl⟩ : ∃ W : World, W = wx := ⟨_, rfl⟩
   have HS281 := Lib.hid hB
   have k0U := Lib.hid (Blw k0D.out hB)
   clear hB
   have kQ := (((kj.below HS268.out).below HS271.out).below HS281.out)
   obtain ⟨k4I, k4J, k4K, k4L, k4M, k4N, k4O, k4P, k4Q, k0V⟩ := kQ.f8
   have kR := (((kw.below HS268.out).below HS271.out).below HS281.out)
   obtain ⟨k4R, k4S, k4T, k4U, k4V, k4W, k4X, k4Y, k4Z, k0W⟩ := kR.f8
   have kS := (((kx.below HS268.out).below HS271.out).below HS281.out)
   obtain ⟨k50, k51, k52, k53, k54, k55, k56, k57, k58, k0X⟩ := kS.f8
   have kT := (((ky.below HS268.out).below HS271.out).below HS281.out)
   obtain ⟨k59, k5a, k5b, k5c, k5d, k5e, k5f, k5g, k5h, k0Y⟩ := kT.f8
   have kU := (kn.below HS281.out)
   obtain ⟨k5i, k5j, k5k, k5l, k5m, k5n, k5o, k5p, k5q, k0Z⟩ := kU.f8
   have kV := (kA.below HS281.out)
   obtain ⟨k5r, k5s, k5t, k5u, k5v, k5w, k5x, k5y, k5z, k10⟩ := kV.f8
   go_wp2_with fail
   have kW := Lib.hid ((((kv.out.kp (.of HS202.out)).kp (.of HS268.out)).kp (.of HS271.out)).kp (.of HS281.out))
   have kX := Lib.hid (((((((F50.out.kp (.of HS90.out)).kp (.of HS142.out)).kp (.of HS196.out)).kp (.of HS202.out)).kp (.of HS268.out)).kp (.of HS271.out)).kp (.of HS281.out))
   have kB := valn_any 7 29 aac0 aac1 aac2 aac3 aac4 aac5 aac6 aac7 c0 c1 c2 c3 c4 c5 c6 c7 (aa) (vrot t aa) w280 kW.out kX.out HBaa.out (HBt.out.rot HBaa.out) (by omega)
   rw [HZ1.out] at kB
   (with_reducible refine kB.mono ?_)
   clear kB
   rintro e w357 ⟨z0, z1, z2, z3, z4, z5, z6, z7, rfl, kC, kD⟩
   clear k0V k0W k0X k0Y k0Z k10
   have HS359 := Lib.hid kD
   have k11 := Lib.hid (Blw k0U.out kD)
   have k0F := Lib.hid kC
   obtain ⟨o_z0, o_z1, o_z2, o_z3, o_z4, o_z5, o_z6, o_z7⟩ := kC.ones
   clear kC kD
   have km := (kQ.below HS359.out)
   obtain ⟨k5A, k5B, k5C, k5D, k5E, k5F, k5G, k5H, k5I, k0l⟩ := km.f8
   have kY := (kR.below HS359.out)
   obtain ⟨k5J, k5K, k5L, k5M, k5N, k5O, k5P, k5Q, k5R, k12⟩ := kY.f8
   have kZ := (kS.below HS359.out)
   obtain ⟨k5S, k5T, k5U, k5V, k5W, k5X, k5Y, k5Z, k60, k13⟩ := kZ.f8
   have k00 := (kT.below HS359.out)
   obtain ⟨k61, k62, k63, k64, k65, k66, k67, k68, k69, k14⟩ := k00.f8
   have k01 := (kU.below HS359.out)
   obtain ⟨k6a, k6b, k6c, k6d, k6e, k6f, k6g, k6h, k6i, k15⟩ := k01.f8
   have k02 := (kV.below HS359.out)
   obtain ⟨k6j, k6k, k6l, k6m, k6n, k6o, k6p, k6q, k6r, k16⟩ := k02.f8
   go_wp2_with fail
   have k6s := km.lt
   generalize hW : w357.alloc _ = W435
   obtain ⟨k17, hB⟩ := box1 hW
   clear hW
   clear k0l k12 k13 k14 k15 k16
   have HS437 := Lib.hid hB
   have k18 := Lib.hid (Blw k11.out hB)
   clear hB
   have k19 := Lib.hid ((kX.out.kp (.of HS359.out)).kp (.of HS437.out))
   have k03 := Lib.hid ((kW.out.kp (.of HS359.out)).kp (.of HS437.out))
   have kE := valn_any 29 7 c0 c1 c2 c3 c4 c5 c6 c7 aac0 aac1 aac2 aac3 aac4 aac5 aac6 aac7 (vrot t aa) (aa) W435 k19.out k03.out (HBt.out.rot HBaa.out) HBaa.out (by omega)
   rw [HZ2.out] at kE
   (with_reducible refine kE.mono ?_)
   clear kE
   rintro e w441 ⟨v0, v1, v2, v3, v4, v5, v6, v7, rfl, kF, kG⟩
   have HS443 := Lib.hid kG
   have k0G := Lib.hid (Blw k18.out kG)
   have k0L := Lib.hid kF
   obtain ⟨o_v0, o_v1, o_v2, o_v3, o_v4, o_v5, o_v6, o_v7⟩ := kF.ones
   clear kF kG
   have kH := ((km.below HS437.out).below HS443.out)
   obtain ⟨k6t, k6u, k6v, k6w, k6x, k6y, k6z, k6A, k6B, k1a⟩ := kH.f8
   have k04 := ((kY.below HS437.out).below HS443.out)
   obtain ⟨k6C, k6D, k6E, k6F, k6G, k6H, k6I, k6J, k6K, k1b⟩ := k04.f8
   have k05 := ((kZ.below HS437.out).below HS443.out)
   obtain ⟨k6L, k6M, k6N, k6O, k6P, k6Q, k6R, k6S, k6T, k1c⟩ := k05.f8
   have k06 := ((k00.below HS437.out).below HS443.out)
   obtain ⟨k6U, k6V, k6W, k6X, k6Y, k6Z, k70, k71, k72, k1d⟩ := k06.f8
   have k07 := ((k01.below HS437.out).below HS443.out)
   obtain ⟨k73, k74, k75, k76, k77, k78, k79, k7a, k7b, k1e⟩ := k07.f8
   have k08 := ((k02.below HS437.out).below HS443.out)
   obtain ⟨k7c, k7d, k7e, k7f, k7g, k7h, k7i, k7j, k7k, k1f⟩ := k08.f8
   have k09 := (k17.below HS443.out)
   obtain ⟨k7l, k7m, k7n, k7o, k7p, k7q, k7r, k7s, k7t, k1g⟩ := k09.f8
   go_wp2_with fail
   have k7u := kH.lt
   generalize hW : w441.alloc _ = W531
   obtain ⟨k1h, hB⟩ := box1 hW
   clear hW
   clear k1a k1b k1c k1d k1e k1f k1g
   have HS533 := Lib.hid hB
   have k1i := Lib.hid (Blw k0G.out hB)
   clear hB
   have k1j := Lib.hid ((k03.out.kp (.of HS443.out)).kp (.of HS533.out))
   have k0a := vsame5_any aac0 aac1 aac2 aac3 aac4 aac5 aac6 aac7 (.bool false) (.slice none 0 0) (.bool false) (.slice none 0 0) (.bool false) (.slice none 0 0) (.bool false) (.slice none 0 0) aa (0, 0) W531 k1j.out (VecV.zero _) false (flv HVN.out)
   (with_reducible refine k0a.mono ?_)
   clear k0a
   rintro e w536 ⟨rfl, kI⟩
   have HS538 := Lib.hid kI
   have k1k := Lib.hid (Blw k1i.out kI)
   clear kI
   have k0b := ((kH.below HS533.out).below HS538.out)
   obtain ⟨k7v, k7w, k7x, k7y, k7z, k7A, k7B, k7C, k7D, k1l⟩ := k0b.f8
   have k0c := ((k04.below HS533.out).below HS538.out)
   obtain ⟨k7E, k7F, k7G, k7H, k7I, k7J, k7K, k7L, k7M, k1m⟩ := k0c.f8
   have k0d := ((k05.below HS533.out).below HS538.out)
   obtain ⟨k7N, k7O, k7P, k7Q, k7R, k7S, k7T, k7U, k7V, k1n⟩ := k0d.f8
   have k0e := ((k06.below HS533.out).below HS538.out)
   obtain ⟨k7W, k7X, k7Y, k7Z, k80, k81, k82, k83, k84, k1o⟩ := k0e.f8
   have k0f := ((k07.below HS533.out).below HS538.out)
   obtain ⟨k85, k86, k87, k88, k89, k8a, k8b, k8c, k8d, k1p⟩ := k0f.f8
   have k0g := ((k08.below HS533.out).below HS538.out)
   obtain ⟨k8e, k8f, k8g, k8h, k8i, k8j, k8k, k8l, k8m, k1q⟩ := k0g.f8
   have k0h := ((k09.below HS533.out).below HS538.out)
   obtain ⟨k8n, k8o, k8p, k8q, k8r, k8s, k8t, k8u, k8v, k1r⟩ := k0h.f8
   have k0i := (k1h.below HS538.out)
   obtain ⟨k8w, k8x, k8y, k8z, k8A, k8B, k8C, k8D, k8E, k1s⟩ := k0i.f8
   go_upto_region 18 with fail
   go_upto_region 18 with fail
   generalize hW : w536.drew = W636
   have hB : Below w536.heap.size w536 W636 := by rw [← hW]; exact (Below.refl _ _).drew
   clear k1l k1m k1n k1o k1p k1q k1r k1s
   have HS637 := Lib.hid hB
   have k44 := Lib.hid (Blw k1k.out hB)
   clear hB
   have k1A := (k0h.below HS637.out)
   have k0H := (k0d.below HS637.out)
   have k45 := Lib.hid (((((k0F.out.kp (.of HS437.out)).kp (.of HS443.out)).kp (.of HS533.out)).kp (.of HS538.out)).kp (.of HS637.out))
   have k1B := Lib.hid ((((((((((((((F44.out.kp (.of HS48.out)).kp (.of HS90.out)).kp (.of HS142.out)).kp (.of HS196.out)).kp (.of HS202.out)).kp (.of HS268.out)).kp (.of HS271.out)).kp (.of HS281.out)).kp (.of HS359.out)).kp (.of HS437.out)).kp (.of HS443.out)).kp (.of HS533.out)).kp (.of HS538.out)).kp (.of HS637.out))
   have k0j := (k0i.below HS637.out)
   have k46 := Lib.hid (((k0L.out.kp (.of HS533.out)).kp (.of HS538.out)).kp (.of HS637.out))
   generalize hF : ({ tmps := _, defers := _ } : Act) = F
   have ev9 : F.eval (.tmp 9) = .pointer (some ⟨w22.heap.size, 0, none⟩) := by rw [← hF]; rfl
   have ev17 : F.eval (.tmp 17) = .pointer (some ⟨w357.heap.size, 0, none⟩) := by rw [← hF]; rfl
   have ev18 : F.eval (.tmp 18) = .int .i64 0 := by rw [← hF]; rfl
   have ev19 : F.eval (.tmp 19) = .pointer (some ⟨w441.heap.size, 0, none⟩) := by rw [← hF]; rfl
   have ev20 : F.eval (.tmp 20) = .int .i64 0 := by rw [← hF]; rfl
   have HF := Lib.hid hF; clear hF
   refine wp_flow_tabG true hW 21 [(105, []), (106, [0]), (107, [1]), (108, [2]), (109, [3, 2]), (110, [2, 4]), (111, [5]), (112, [6]), (113, [6]), (114, [7, 8, 6]), (115, [6, 9]), (116, [10]), (117, [11]), (118, [11]), (119, [13, 11]), (120, [12, 14, 11]), (121, [11, 15]), (122, [16]), (123, [17]), (124, [17, 18]), (6, [19])] [SC (.int .i64 0), SC (.bool true), SC (.bool true), SC (.int .i64 0), SC (.bool true), SC (.bool true), SC (.bool true), SC (.agg #[z0, z1, z2, z3, z4, z5, z6, z7]), SC (.agg #[tc0, tc1, tc2, tc3, tc4, tc5, tc6, tc7]), SC (.bool true), SC (.bool true), SC (.bool true), SC (.agg #[v0, v1, v2, v3, v4, v5, v6, v7]), SC (.agg #[tc0, tc1, tc2, tc3, tc4, tc5, tc6, tc7]), SV (vbak t), SC (.bool true), SC (.bool true), SC (.bool true), SC (.bool true), SC (.bool true), SC (.bool true)] [false, false, false, false, false, false, false, false, false, false, false, false, false, false, false, false, false, false, false, false, false] (by kernel_rfl) (by kernel_rfl) (by kernel_rfl) (by kernel_rfl) (by kernel_rfl) (by rw [← HF.out]; simp) ⟨SC.mono _, SC.mono _, SC.mono _, SC.mono _, SC.mono _, SC.mono _, SC.mono _, SC.mono _, SC.mono _, SC.mono _, SC.mono _, SC.mono _, SC.mono _, SC.mono _, SV.mono _, SC.mono _, SC.mono _, SC.mono _, SC.mono _, SC.mono _, SC.mono _, trivial⟩ ?_ ?_
   ·intro kq hkq a wx hB hp hs
    have hcase : kq = 0 ∨ kq = 1 ∨ kq = 2 ∨ kq = 3 ∨ kq = 4 ∨ kq = 5 ∨ kq = 6 ∨ kq = 7 ∨ kq = 8 ∨ kq = 9 ∨ kq = 10 ∨ kq = 11 ∨ kq = 12 ∨ kq = 13 ∨ kq = 14 ∨ kq = 15 ∨ kq = 16 ∨ kq = 17 ∨ kq = 18 ∨ kq = 19 ∨ kq = 20 := by omega
    rcases hcase with rfl | rfl | rfl | rfl | rfl | rfl | rfl | rfl | rfl | rfl | rfl | rfl | rfl | rfl | rfl | rfl | rfl | rfl | rfl | rfl | rfl
    ·clear hp
     have b18 := (hs 18 rfl).trans ev18
     simp [Act.eval] at b18
     exact ⟨_, rfl, .inl ⟨wanted_none rfl, Does.val (by simp [execOp, Act.eval, b18, go_sem]) rfl⟩⟩
    ·obtain ⟨k0, -⟩ := hp
     have e0 : a.eval (.tmp 105) = .int .i64 0 := k0
     simp [Act.eval] at e0
     exact ⟨_, rfl, .inl ⟨wanted_none rfl, Does.val (by simp [execOp, Act.eval, e0, go_sem]) rfl⟩⟩
    ·obtain ⟨k0, -⟩ := hp
     have e0 : a.eval (.tmp 106) = .bool true := k0
     simp [Act.eval] at e0
     exact ⟨_, rfl, .inl ⟨wanted_none rfl, Does.val (by simp [execOp, Act.eval, e0, go_sem]) rfl⟩⟩
    ·obtain ⟨k0, -⟩ := hp
     have e0 : a.eval (.tmp 107) = .bool true := k0
     have b20 := (hs 20 rfl).trans ev20
     have hgd := e0
     simp [Act.eval] at b20
     exact ⟨_, rfl, .inl ⟨(wanted_of rfl rfl hgd).trans rfl, Does.val (by simp [execOp, Act.eval, b20, go_sem]) rfl⟩⟩
    ·obtain ⟨k0, k1, -⟩ := hp
     have e0 : a.eval (.tmp 108) = .int .i64 0 := k0
     have e1 : a.eval (.tmp 107) = .bool true := k1
     have hgd := e1
     simp [Act.eval] at e0
     exact ⟨_, rfl, .inl ⟨(wanted_of rfl rfl hgd).trans rfl, Does.val (by simp [execOp, Act.eval, e0, go_sem]) rfl⟩⟩
    ·obtain ⟨k0, k1, -⟩ := hp
     have e0 : a.eval (.tmp 107) = .bool true := k0
     have e1 : a.eval (.tmp 109) = .bool true := k1
     simp [Act.eval] at e0
     simp [Act.eval] at e1
     exact ⟨_, rfl, .inl ⟨wanted_none rfl, Does.val (by simp [execOp, Act.eval, e0, e1, go_sem]) rfl⟩⟩
    ·obtain ⟨k0, -⟩ := hp
     have e0 : a.eval (.tmp 110) = .bool true := k0
     simp [Act.eval] at e0
     exact ⟨_, rfl, .inl ⟨wanted_none rfl, Does.val (by simp [execOp, Act.eval, e0, go_sem]) rfl⟩⟩
    ·obtain ⟨k0, -⟩ := hp
     have e0 : a.eval (.tmp 111) = .bool true := k0
     have hgd := e0
     exact ⟨_, rfl, .inl ⟨(wanted_of rfl rfl hgd).trans rfl, ld_Turn rfl ((hs 17 rfl).trans ev17) (k1A.below hB) rfl rfl rfl rfl rfl rfl rfl rfl⟩⟩
    ·obtain ⟨k0, -⟩ := hp
     have e0 : a.eval (.tmp 111) = .bool true := k0
     have hgd := e0
     exact ⟨_, rfl, .inl ⟨(wanted_of rfl rfl hgd).trans rfl, ld_Turn rfl ((hs 9 rfl).trans ev9) (k0H.below hB) rfl rfl rfl rfl rfl rfl rfl rfl⟩⟩
    ·obtain ⟨k0, k1, k2, -⟩ := hp
     have e0 : a.eval (.tmp 112) = .agg #[z0, z1, z2, z3, z4, z5, z6, z7] := k0
     have e1 : a.eval (.tmp 113) = .agg #[tc0, tc1, tc2, tc3, tc4, tc5, tc6, tc7] := k1
     have e2 : a.eval (.tmp 111) = .bool true := k2
     have hgd := e2
     exact ⟨_, rfl, .inl ⟨(wanted_of rfl rfl hgd).trans rfl, Does.rc (f := 16) (call2 rfl (fun _ => by simp [go_sem]) e0 e1) (tsame_any z0 z1 z2 z3 z4 z5 z6 z7 tc0 tc1 tc2 tc3 tc4 tc5 tc6 tc7 _ _ wx (k45.out.kp (.of hB)) (k1B.out.kp (.of hB)) true (by simp))⟩⟩
    ·obtain ⟨k0, k1, -⟩ := hp
     have e0 : a.eval (.tmp 111) = .bool true := k0
     have e1 : a.eval (.tmp 114) = .bool true := k1
     simp [Act.eval] at e0
     simp [Act.eval] at e1
     exact ⟨_, rfl, .inl ⟨wanted_none rfl, Does.val (by simp [execOp, Act.eval, e0, e1, go_sem]) rfl⟩⟩
    ·obtain ⟨k0, -⟩ := hp
     have e0 : a.eval (.tmp 115) = .bool true := k0
     simp [Act.eval] at e0
     exact ⟨_, rfl, .inl ⟨wanted_none rfl, Does.val (by simp [execOp, Act.eval, e0, go_sem]) rfl⟩⟩
    ·obtain ⟨k0, -⟩ := hp
     have e0 : a.eval (.tmp 116) = .bool true := k0
     have hgd := e0
     exact ⟨_, rfl, .inl ⟨(wanted_of rfl rfl hgd).trans rfl, ld_Turn rfl ((hs 19 rfl).trans ev19) (k0j.below hB) rfl rfl rfl rfl rfl rfl rfl rfl⟩⟩
    ·obtain ⟨k0, -⟩ := hp
     have e0 : a.eval (.tmp 116) = .bool true := k0
     have hgd := e0
     exact ⟨_, rfl, .inl ⟨(wanted_of rfl rfl hgd).trans rfl, ld_Turn rfl ((hs 9 rfl).trans ev9) (k0H.below hB) rfl rfl rfl rfl rfl rfl rfl rfl⟩⟩
    ·obtain ⟨k0, k1, -⟩ := hp
     have e0 : a.eval (.tmp 118) = .agg #[tc0, tc1, tc2, tc3, tc4, tc5, tc6, tc7] := k0
     have e1 : a.eval (.tmp 116) = .bool true := k1
     have hgd := e1
     exact ⟨_, rfl, .inl ⟨(wanted_of rfl rfl hgd).trans rfl, Does.rv (f := 17) (call1 rfl (fun _ => by simp [go_sem]) e0) (vbak_any tc0 tc1 tc2 tc3 tc4 tc5 tc6 tc7 (t) wx (k1B.out.kp (.of hB)))⟩⟩
    ·obtain ⟨k0, k1, k2, -⟩ := hp
     have e0 : a.eval (.tmp 117) = .agg #[v0, v1, v2, v3, v4, v5, v6, v7] := k0
     obtain ⟨bk0, bk1, bk2, bk3, bk4, bk5, bk6, bk7, e1, h_bk⟩ := k1
     replace e1 : a.eval (.tmp 119) = .agg #[bk0, bk1, bk2, bk3, bk4, bk5, bk6, bk7] := e1
     have e2 : a.eval (.tmp 116) = .bool true := k2
     have hgd := e2
     exact ⟨_, rfl, .inl ⟨(wanted_of rfl rfl hgd).trans rfl, Does.rc (f := 16) (call2 rfl (fun _ => by simp [go_sem]) e0 e1) (tsame_any v0 v1 v2 v3 v4 v5 v6 v7 bk0 bk1 bk2 bk3 bk4 bk5 bk6 bk7 _ _ wx (k46.out.kp (.of hB)) h_bk true (by simp))⟩⟩
    ·obtain ⟨k0, k1, -⟩ := hp
     have e0 : a.eval (.tmp 116) = .bool true := k0
     have e1 : a.eval (.tmp 120) = .bool true := k1
     simp [Act.eval] at e0
     simp [Act.eval] at e1
     exact ⟨_, rfl, .inl ⟨wanted_none rfl, Does.val (by simp [execOp, Act.eval, e0, e1, go_sem]) rfl⟩⟩
    ·obtain ⟨k0, -⟩ := hp
     have e0 : a.eval (.tmp 121) = .bool true := k0
     simp [Act.eval] at e0
     exact ⟨_, rfl, .inl ⟨wanted_none rfl, Does.val (by simp [execOp, Act.eval, e0, go_sem]) rfl⟩⟩
    ·obtain ⟨k0, -⟩ := hp
     have e0 : a.eval (.tmp 122) = .bool true := k0
     have hgd := e0
     exact ⟨_, rfl, .inl ⟨(wanted_of rfl rfl hgd).trans rfl, Does.rc (f := 14) (call0 rfl (fun _ => by simp [go_sem])) (lives_any wx)⟩⟩
    ·obtain ⟨k0, k1, -⟩ := hp
     have e0 : a.eval (.tmp 122) = .bool true := k0
     have e1 : a.eval (.tmp 123) = .bool true := k1
     simp [Act.eval] at e0
     simp [Act.eval] at e1
     exact ⟨_, rfl, .inl ⟨wanted_none rfl, Does.val (by simp [execOp, Act.eval, e0, e1, go_sem]) rfl⟩⟩
    ·obtain ⟨k0, -⟩ := hp
     have e0 : a.eval (.tmp 124) = .bool true := k0
     simp [Act.eval] at e0
     exact ⟨_, rfl, .inl ⟨wanted_none rfl, Does.val (by simp [execOp, Act.eval, e0, go_sem]) rfl⟩⟩
   ·intro val wx hB hsp hdis
    have e20 : val 20 = .bool true := hsp 20 (by omega)
    rw [← HF.out]
    change wpList _ _ _ [] _ _
    simp only [puts, vals, List.map_cons, List.map_nil, List.foldl_cons, List.foldl_nil, if_true, Nat.zero_add, Nat.reduceAdd, e20, List.setIfInBounds_toArray, List.set_cons_succ, List.set_cons_zero]
    clear hsp hdis HF e20
    clear ev9 ev17 ev18 ev19 ev20
    obtain ⟨w649, rfl⟩ : ∃ W : World, W = wx := ⟨_, rfl⟩
    have HS650 := Lib.hid hB
    have k47 := Lib.hid (Blw k44.out hB)
    clear hB
    have k1t := ((k0b.below HS637.out).below HS650.out)
    obtain ⟨kaf, kag, kah, kai, kaj, kak, kal, kam, kan, k8F⟩ := k1t.f8
    have k1u := ((k0c.below HS637.out).below HS650.out)
    obtain ⟨kao, kap, kaq, kar, kas, kat, kau, kav, kaw, k8G⟩ := k1u.f8
    have k1v := (k0H.below HS650.out)
    obtain ⟨kax, kay, kaz, kaA, kaB, kaC, kaD, kaE, kaF, k8H⟩ := k1v.f8
    have k1w := ((k0e.below HS637.out).below HS650.out)
    obtain ⟨kaG, kaH, kaI, kaJ, kaK, kaL, kaM, kaN, kaO, k8I⟩ := k1w.f8
    have k1x := ((k0f.below HS637.out).below HS650.out)
    obtain ⟨kaP, kaQ, kaR, kaS, kaT, kaU, kaV, kaW, kaX, k8J⟩ := k1x.f8
    have k1y := ((k0g.below HS637.out).below HS650.out)
    obtain ⟨kaY, kaZ, kb0, kb1, kb2, kb3, kb4, kb5, kb6, k8K⟩ := k1y.f8
    have k1z := (k1A.below HS650.out)
    obtain ⟨kb7, kb8, kb9, kba, kbb, kbc, kbd, kbe, kbf, k8L⟩ := k1z.f8
    have k48 := (k0j.below HS650.out)
    obtain ⟨kbg, kbh, kbi, kbj, kbk, kbl, kbm, kbn, kbo, kbp⟩ := k48.f8
    go_wp2
    go_ret
    exact ⟨rfl, k47.out⟩
end Go.Proofs.Ytonkbckgbfcnkaa
namespace Go.Proofs.Ytonkbckgbfcnkaa
open Go.RowKit
theorem law_align (A : Option Addr) (len cap : Nat) (l : List Int) (n m : Int) (w : World) (hs : IsI w A len cap l) (hn : W.Is64 n) (hm : W.Is64 m) :
  Calls Try.prog 3 #[.slice A len cap, .int .i64 n, .int .i64 m] w fun e w' => e = .returned (.bool true) ∧ Below w.heap.size w w' :=
 align_walk _ l n m w ⟨A, len, cap, rfl, hs.2.1, hs.2.2.1, hs.2.2.2.1, hs.1⟩ hs.2.2.2.2 hn hm
end Go.Proofs.Ytonkbckgbfcnkaa
namespace Go.Proofs.Ytonkbckgbfcnkaa.planeAligns
open Go.ChangeShapes Go.WideShapes Go.ChangeAt Go.RowKit
open Go.ChangeMaps (open_string shut_string)
set_option linter.unusedVariables false
theorem own : ownKnob Try.prog.godebug = none := by kernel_rfl
theorem laidOut : laidOutB Try.prog = true := by kernel_rfl
set_option maxRecDepth 100000 in
theorem lifted (os : Os) (started : os.Started) (H : Type) (enc : TypeId × Value → H) :
  ReturnsInHanded {} Try.checked os 3 .any (Rows.planeAlignsSpec.pre6 enc Try.prog Try.f3 Rows.planeAlignsRow.domain false) (Rows.planeAlignsSpec.post enc Try.prog Try.f3 false true false false) := by
 refine returnsInHanded_of_change (C := Try.checked) own started (by kernel_rfl) Try.func3
  (ChangeSpec.witness6 (enc := enc) (C := Try.checked) false ⟨#[], #[.slice none 0 0, .int .i64 0, .int .i64 0], []⟩ 8 (by kernel_rfl) (by kernel_rfl) (by kernel_rfl) (by kernel_rfl)) ?_
 intro W base args ds gs before hval0 hW hcnd _
 have hval : ∀ (j : Nat) t v, Try.f3.params[j]? = some t → args[j]? = some v → Value.okWide Try.prog W .any base t v := hval0
 have hW' := hW
 obtain ⟨p, q, hA0, hV, rfl, hfz, hnd⟩ := hW
 have hA : DataW.TrodAll enc Try.prog W 0 (fun _ => true) true Try.f3.params.toList args.toList ds p := hA0
 rw [Try.params3] at hA hval
 obtain ⟨v0, vs0, d0, ds0, p0, q0, hargs, rfl, rfl, h0, r0⟩ := trodAll_cons hA
 obtain ⟨v1, vs1, d1, ds1, p1, q1, rfl, rfl, rfl, h1, r1⟩ := trodAll_cons r0
 obtain ⟨v2, vs2, d2, ds2, p2, q2, rfl, rfl, rfl, h2, r2⟩ := trodAll_cons r1
 obtain ⟨rfl, rfl, rfl⟩ := trodAll_nil r2
 obtain rfl : args = #[v0, v1, v2] := by cases args; simp_all
 obtain ⟨rfl, rfl⟩ := trodVars_none hV
 obtain ⟨a0, len0, cap0, rfl⟩ := okWide_slice Try.underlying22 (hval 0 22 v0 rfl rfl)
 have k0 := h0
 have lt0 : ∀ x ∈ p0, x.block < W.heap.size := by obtain ⟨m, hm⟩ := k0; exact DataW.trod_lt m _ _ _ hm
 obtain ⟨z0, w0⟩ : ∃ zs, IsI W a0 len0 cap0 zs := by
  obtain ⟨fuel, hf⟩ := h0
  rcases open_ints Try.underlying22 Try.underlying3 (by kernel_rfl) hf with ⟨hcs, _⟩ | ⟨x, l, c, zs, hcs, _, hl, hm, hz, _, hcell, hwz⟩
  ·simp [Value.cells] at hcs
   obtain ⟨rfl, rfl, rfl⟩ := hcs
   exact ⟨[], isI_nil _⟩
  ·simp [Value.cells] at hcs
   obtain ⟨rfl, rfl, rfl⟩ := hcs
   exact isI_of hl hm (by simpa using hz) hcell hwz
 obtain ⟨a1, rfl, rfl, rfl, w1⟩ := open_int Try.underlying3 (hval 1 3 v1 rfl rfl) h1
 obtain ⟨a2, rfl, rfl, rfl, w2⟩ := open_int Try.underlying3 (hval 2 3 v2 rfl rfl) h2
 clear hA0 hval0
 refine (law_align a0 len0 cap0 z0 a1 a2 W w0 (is64_of w1) (is64_of w2)).mono fun e W' ⟨he, bel⟩ => ?_
 subst he
 exact ⟨_, rfl, _, _, _, [], _, [], hW', trodAll_mk1 (shut_bool Try.underlying4 _), (trodAll_cons_mk (Below.trod laidOut (by kernel_rfl) (of_decide_eq_true (by kernel_rfl)) k0 bel lt0) (trodAll_cons_mk (shut_int Try.underlying3 w1) (trodAll_cons_mk (shut_int Try.underlying3 w2) trodAll_mk0))), rfl, bel.frame _, fun h => by cases h⟩
theorem over : Rows.planeAlignsRow.holds Try.pinned (OpenSpec.ofChange Rows.planeAlignsSpec) :=
 OpenClaim.holds_of_wide 3 Try.f3 rfl rfl rfl rfl rfl rfl rfl ⟨rfl, rfl, rfl, rfl, rfl⟩ rfl rfl rfl rfl rfl (by kernel_rfl) Try.func3 (by kernel_rfl)
  (of_decide_eq_true (by kernel_rfl)) (by unfold Func.isWrapper; first | (rw [if_pos (by decide +kernel)]; kernel_rfl) | (rw [if_neg (by decide +kernel)]; exact ⟨rfl, rfl⟩))
  (fun os started H enc _ => lifted os started H enc)
theorem proved : Rows.PlaneAlignsSaid := over
#print axioms proved
end Go.Proofs.Ytonkbckgbfcnkaa.planeAligns
