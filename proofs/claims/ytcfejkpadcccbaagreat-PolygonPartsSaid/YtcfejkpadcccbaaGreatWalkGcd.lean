/-
 THE WALKS of package integer: Gcd.
-/
import Derived.Test.YtcfejkpadcccbaaGreatWalkDvd
import Derived.Deep.DeepCutAuto
import Derived.Test.YtcfejkpadcccbaaGreatPlainW
import Derived.RegionTactic
import Derived.BigRegion
import Derived.ChangeAlike
namespace Go.Proofs.YtcfejkpadcccbaaGreat
set_option maxHeartbeats 4000000
open Go.RowKit
attribute [local go_sem] run_store_one
set_option linter.unusedVariables false
theorem gcd_step {X Y : Int} (hX : 0 ≤ X) (h : 0 < Y) : Int.gcd Y (X % Y) = Int.gcd X Y := by
 obtain ⟨n, rfl⟩ := Int.eq_ofNat_of_zero_le hX
 obtain ⟨m, rfl⟩ := Int.eq_ofNat_of_zero_le (Int.le_of_lt h)
 rw [← Int.natCast_emod]
 simp only [Int.gcd, Int.natAbs_natCast]
 rw [Nat.gcd_comm n m, Nat.gcd_rec m n, Nat.gcd_comm]
theorem gcd_zero {X : Int} (h : 0 ≤ X) : (Int.gcd X 0 : Int) = X := by
 rw [Int.gcd_zero_right]; omega
theorem two_yes (v : Value) (l : List Int) (w : World) (hs : Sl w v l) (hd : I.Dig l) (h : l.length ≤ 2) {M : Int} (hM : I.val l = M) :
  Calls Tryz.prog 127 #[v] w fun e w' => e = .returned (.tuple #[.int .i64 M, .bool true]) ∧ Below w.heap.size w w' := by
 have h1 := two_any v l w hs hd
 rw [if_pos h, decide_eq_true h, hM] at h1
 exact h1
theorem two_no (v : Value) (l : List Int) (w : World) (hs : Sl w v l) (hd : I.Dig l) (h : ¬ l.length ≤ 2) :
  Calls Tryz.prog 127 #[v] w fun e w' => e = .returned (.tuple #[.int .i64 0, .bool false]) ∧ Below w.heap.size w w' := by
 have h1 := two_any v l w hs hd
 rw [if_neg h, decide_eq_false h] at h1
 exact h1
theorem two_lt {l : List Int} (hd : I.Dig l) (h : l.length ≤ 2) : I.val l < 1000000000000000000 := Int.lt_of_lt_of_le (I.val_lt hd) (I.pw_mono h)
/-- What is known of the two numbers of Gcd. -/
def GcdAt (k n : Nat) (x y : Int) (w wr : World) (g4 g5 g6 : Nat) : Prop := ∃ (a0 a1 b0 b1 : Value) (X Y : Int), Bx wr g4 31 [.bool false, .slice none 0 0] ∧ Bx wr g5 31 [a0, a1] ∧ Bx wr g6 31 [b0, b1] ∧ IntV wr a0 a1 X ∧ IntV wr b0 b1 Y ∧ 0 ≤ X ∧ 0 ≤ Y ∧ Y.toNat = n ∧ Int.gcd X Y = Int.gcd x y ∧ I.Bd k X ∧ I.Bd k Y ∧ Below w.heap.size w wr
set_option maxRecDepth 100000 in
theorem igcd_any (k : Nat) (a0 a1 b0 b1 : Value) (x y : Int) (w : World) (hx : IntV w a0 a1 x) (hy : IntV w b0 b1 y) (bx : I.Bd k x) (by_ : I.Bd k y) (hk : k ≤ 1000000000000) :
  Calls Tryz.prog 98 #[.agg #[a0, a1], .agg #[b0, b1]] w (RI (Int.gcd x y : Int) w) := by
 obtain ⟨oa0, oa1⟩ := hx.ones
 obtain ⟨ob0, ob1⟩ := hy.ones
 obtain ⟨la, sa, ca, va⟩ := hx.sl
 obtain ⟨lb, sb, cb, vb⟩ := hy.sl
 have HSA := Lib.hid sa; have HSB := Lib.hid sb; have HCA := Lib.hid ca; have HCB := Lib.hid cb; have HVA := Lib.hid va; have HVB := Lib.hid vb
 have HBX := Lib.hid bx; have HBY := Lib.hid by_
 clear sa sb ca cb va vb bx by_
 obtain ⟨GG, hGG⟩ : ∃ GG : Int, GG = (Int.gcd x y : Int) := ⟨_, rfl⟩
 rw [← hGG]
 have HGG := Lib.hid hGG; clear hGG
 go_enter Tryz.func98, Tryz.ntmps98
 go_wp2_with fail
 generalize hW : ((w.alloc _).alloc _).alloc _ = W1
 obtain ⟨k1g, k1h, k0v, hB⟩ := box3 hW
 have HB5 := Lib.hid hB; clear hW hB
 have F6 := Lib.hid (HSA.out.kp (.of HB5.out))
 have F7 := Lib.hid (HSB.out.kp (.of HB5.out))
 obtain ⟨k1k, k0w, k1l, l11⟩ := k1g.f2
 obtain ⟨k1m, k0x, k1n, l15⟩ := k1h.f2
 obtain ⟨k1o, k1p, k1q, l19⟩ := k0v.f2
 go_upto_region 1 with fail
 go_cut [5, 6] (fun s5 s6 wx => PairAt (fun wv l => ∃ v0 v1, l = [v0, v1] ∧ IntV wv v0 v1 (sg false (I.val la))) (fun wv l => ∃ v0 v1, l = [v0, v1] ∧ IntV wv v0 v1 (sg false (I.val lb))) 31 W1 s5 s6 wx)
 case first =>
  rename_i J_ K_ hJ_ hK_
  generalize hF : ({ tmps := _, defers := _ } : Act) = F
  have ev2 : F.eval (.tmp 2) = .pointer (some ⟨w.heap.size, 0, none⟩) := by rw [← hF]; rfl
  have ev3 : F.eval (.tmp 3) = .pointer (some ⟨w.heap.size + 1, 0, none⟩) := by rw [← hF]; rfl
  have hsz : 19 ≤ F.tmps.size := by rw [← hF]; simp
  have HF := Lib.hid hF; clear hF
  refine wp_region_inv (fun (L : Array Bool) (a : Act) (wx : World) => ∃ (r0 r1 t0 t1 : Value) (ga gb : Nat), a = puts F [(L.getD 0 false, 13, .pointer (some ⟨w.heap.size, 1, none⟩)), (L.getD 1 false, 14, a1), (L.getD 2 false, 15, .agg #[r0, r1]), (L.getD 3 false, 16, .pointer (some ⟨w.heap.size + 1, 1, none⟩)), (L.getD 4 false, 17, b1), (L.getD 5 false, 18, .agg #[t0, t1]), (L.getD 6 false, 5, .pointer (some ⟨ga, 0, none⟩)), (L.getD 7 false, 6, .pointer (some ⟨gb, 0, none⟩))] ∧ Below W1.heap.size W1 wx ∧ (L.getD 2 false = true → IntV wx r0 r1 (sg false (I.val la))) ∧ (L.getD 5 false = true → IntV wx t0 t1 (sg false (I.val lb))) ∧ (L.getD 6 false = true → W1.heap.size ≤ ga ∧ Bx wx ga 31 (if L.getD 8 false = true then [r0, r1] else [.bool false, .slice none 0 0])) ∧ (L.getD 7 false = true → W1.heap.size ≤ gb ∧ Bx wx gb 31 (if L.getD 9 false = true then [t0, t1] else [.bool false, .slice none 0 0])) ∧ (L.getD 6 false = true → L.getD 7 false = true → ga ≠ gb) ∧ (L.getD 8 false = true → L.getD 2 false = true ∧ L.getD 6 false = true) ∧ (L.getD 9 false = true → L.getD 5 false = true ∧ L.getD 7 false = true)) (by kernel_rfl) (back_of (by kernel_rfl)) ?_ ?_ ?_
  ·refine ⟨undef, undef, undef, undef, 0, 0, ?_, (Below.refl _ _).drew, ?_⟩
   ·simp [puts]
   ·simp
  ·intro L a wx hs hJ i hi hL hpre
   obtain ⟨r0, r1, t0, t1, ga, gb, rfl, hB, hV1, hV2, hG1, hG2, hne, hS1, hS2⟩ := hJ
   have hnod : ([(L.getD 0 false, 13, .pointer (some ⟨w.heap.size, 1, none⟩)), (L.getD 1 false, 14, a1), (L.getD 2 false, 15, .agg #[r0, r1]), (L.getD 3 false, 16, .pointer (some ⟨w.heap.size + 1, 1, none⟩)), (L.getD 4 false, 17, b1), (L.getD 5 false, 18, .agg #[t0, t1]), (L.getD 6 false, 5, .pointer (some ⟨ga, 0, none⟩)), (L.getD 7 false, 6, .pointer (some ⟨gb, 0, none⟩))].map (·.2.1)).Nodup := by simp
   have hcase : i = 0 ∨ i = 1 ∨ i = 2 ∨ i = 3 ∨ i = 4 ∨ i = 5 ∨ i = 6 ∨ i = 7 ∨ i = 8 ∨ i = 9 := by simp at hi; omega
   have hs10 : L.size = 10 := by simpa using hs
   rcases hcase with rfl | rfl | rfl | rfl | rfl | rfl | rfl | rfl | rfl | rfl
   ·have hf := getD_no hL
    have e1 : (puts F [(L.getD 0 false, 13, .pointer (some ⟨w.heap.size, 1, none⟩)), (L.getD 1 false, 14, a1), (L.getD 2 false, 15, .agg #[r0, r1]), (L.getD 3 false, 16, .pointer (some ⟨w.heap.size + 1, 1, none⟩)), (L.getD 4 false, 17, b1), (L.getD 5 false, 18, .agg #[t0, t1]), (L.getD 6 false, 5, .pointer (some ⟨ga, 0, none⟩)), (L.getD 7 false, 6, .pointer (some ⟨gb, 0, none⟩))]).eval (.tmp 2) = F.eval (.tmp 2) := puts_other (by simp)
    rw [ev2] at e1
    refine wpOp_val (v := .pointer (some ⟨w.heap.size, 1, none⟩)) (w' := wx) rfl rfl ?_ ?_
    ·revert e1; generalize (puts F _ : Act) = A; intro e1; simp [Act.eval] at e1; simp [execOp, Act.eval, e1, go_sem]
    refine ⟨r0, r1, t0, t1, ga, gb, ?_, hB, ?_, ?_, ?_, ?_, ?_, ?_, ?_⟩
    ·show (puts F _).put (some 13) _ = _
     rw [puts_put (i := 0) hnod (by rw [hf]; rfl)]
     rw [getD_eq (show 0 < L.size by omega), getD_ne (i := 0) (j := 1) (by omega), getD_ne (i := 0) (j := 2) (by omega), getD_ne (i := 0) (j := 3) (by omega), getD_ne (i := 0) (j := 4) (by omega), getD_ne (i := 0) (j := 5) (by omega), getD_ne (i := 0) (j := 6) (by omega), getD_ne (i := 0) (j := 7) (by omega)]
     rfl
    ·simpa [getD_ne] using hV1
    ·simpa [getD_ne] using hV2
    ·simpa [getD_ne] using hG1
    ·simpa [getD_ne] using hG2
    ·simpa [getD_ne] using hne
    ·simpa [getD_ne] using hS1
    ·simpa [getD_ne] using hS2
   ·have hf := getD_no hL
    have p0 : L.getD 0 false = true := hpre _ rfl ⟨0, .data⟩ (by simp) rfl
    have e1 : (puts F [(L.getD 0 false, 13, .pointer (some ⟨w.heap.size, 1, none⟩)), (L.getD 1 false, 14, a1), (L.getD 2 false, 15, .agg #[r0, r1]), (L.getD 3 false, 16, .pointer (some ⟨w.heap.size + 1, 1, none⟩)), (L.getD 4 false, 17, b1), (L.getD 5 false, 18, .agg #[t0, t1]), (L.getD 6 false, 5, .pointer (some ⟨ga, 0, none⟩)), (L.getD 7 false, 6, .pointer (some ⟨gb, 0, none⟩))]).eval (.tmp 13) = .pointer (some ⟨w.heap.size, 1, none⟩) := puts_eval hnod (by rw [p0]; simp) (by omega)
    have c0 := kc k0w hB (by omega)
    refine wpOp_val (v := a1) (w' := wx) rfl rfl ?_ ?_
    ·revert e1; generalize (puts F _ : Act) = A; intro e1; simp [Act.eval] at e1; simp [execOp, Act.eval, e1, go_sem, c0]
    refine ⟨r0, r1, t0, t1, ga, gb, ?_, hB, ?_, ?_, ?_, ?_, ?_, ?_, ?_⟩
    ·show (puts F _).put (some 14) _ = _
     rw [puts_put (i := 1) hnod (by rw [hf]; rfl)]
     rw [getD_eq (show 1 < L.size by omega), getD_ne (i := 1) (j := 0) (by omega), getD_ne (i := 1) (j := 2) (by omega), getD_ne (i := 1) (j := 3) (by omega), getD_ne (i := 1) (j := 4) (by omega), getD_ne (i := 1) (j := 5) (by omega), getD_ne (i := 1) (j := 6) (by omega), getD_ne (i := 1) (j := 7) (by omega)]
     rfl
    ·simpa [getD_ne] using hV1
    ·simpa [getD_ne] using hV2
    ·simpa [getD_ne] using hG1
    ·simpa [getD_ne] using hG2
    ·simpa [getD_ne] using hne
    ·simpa [getD_ne] using hS1
    ·simpa [getD_ne] using hS2
   ·have hf := getD_no hL
    have p1 : L.getD 1 false = true := hpre _ rfl ⟨1, .data⟩ (by simp) rfl
    have e1 : (puts F [(L.getD 0 false, 13, .pointer (some ⟨w.heap.size, 1, none⟩)), (L.getD 1 false, 14, a1), (L.getD 2 false, 15, .agg #[r0, r1]), (L.getD 3 false, 16, .pointer (some ⟨w.heap.size + 1, 1, none⟩)), (L.getD 4 false, 17, b1), (L.getD 5 false, 18, .agg #[t0, t1]), (L.getD 6 false, 5, .pointer (some ⟨ga, 0, none⟩)), (L.getD 7 false, 6, .pointer (some ⟨gb, 0, none⟩))]).eval (.tmp 14) = a1 := puts_eval hnod (by rw [p1]; simp) (by omega)
    refine wpOp_call (f := 114) (args := #[.bool false, a1]) rfl rfl ?_ ?_
    ·revert e1; generalize (puts F _ : Act) = A; intro e1; simp [Act.eval] at e1; simp [execOp, Act.eval, e1, go_sem]
    refine (of_any false a1 la wx (F6.out.kp (.of hB)) HCA.out.1).mono fun e w2 h => ?_
    obtain ⟨r0', r1', rfl, hI, hb⟩ := h
    refine ⟨_, rfl, ?_⟩
    refine ⟨r0', r1', t0, t1, ga, gb, ?_, hB.trans (hb.mono hB.size), ?_, ?_, ?_, ?_, ?_, ?_, ?_⟩
    ·show (puts F _).put (some 15) _ = _
     rw [puts_put (i := 2) hnod (by rw [hf]; rfl)]
     rw [getD_eq (show 2 < L.size by omega), getD_ne (i := 2) (j := 0) (by omega), getD_ne (i := 2) (j := 1) (by omega), getD_ne (i := 2) (j := 3) (by omega), getD_ne (i := 2) (j := 4) (by omega), getD_ne (i := 2) (j := 5) (by omega), getD_ne (i := 2) (j := 6) (by omega), getD_ne (i := 2) (j := 7) (by omega)]
     rfl
    ·intro _; exact hI
    ·intro h; exact (hV2 (by simpa [getD_ne] using h)).kp (.of hb)
    ·intro h; have h1 := hG1 (by simpa [getD_ne] using h); have hst := no_store hS1 hf; rw [hst] at h1; refine ⟨h1.1, ?_⟩; rw [getD_ne (i := 2) (j := 8) (by omega), hst]; exact h1.2.below hb
    ·intro h; have h1 := hG2 (by simpa [getD_ne] using h); refine ⟨h1.1, ?_⟩; simpa [getD_ne] using h1.2.below hb
    ·simpa [getD_ne] using hne
    ·intro h; have h1 := hS1 (by simpa [getD_ne] using h); refine ⟨?_, by simpa [getD_ne] using h1.2⟩; exact getD_eq (by omega)
    ·intro h; have h1 := hS2 (by simpa [getD_ne] using h); refine ⟨?_, by simpa [getD_ne] using h1.2⟩; simpa [getD_ne] using h1.1
   ·have hf := getD_no hL
    have e1 : (puts F [(L.getD 0 false, 13, .pointer (some ⟨w.heap.size, 1, none⟩)), (L.getD 1 false, 14, a1), (L.getD 2 false, 15, .agg #[r0, r1]), (L.getD 3 false, 16, .pointer (some ⟨w.heap.size + 1, 1, none⟩)), (L.getD 4 false, 17, b1), (L.getD 5 false, 18, .agg #[t0, t1]), (L.getD 6 false, 5, .pointer (some ⟨ga, 0, none⟩)), (L.getD 7 false, 6, .pointer (some ⟨gb, 0, none⟩))]).eval (.tmp 3) = F.eval (.tmp 3) := puts_other (by simp)
    rw [ev3] at e1
    refine wpOp_val (v := .pointer (some ⟨w.heap.size + 1, 1, none⟩)) (w' := wx) rfl rfl ?_ ?_
    ·revert e1; generalize (puts F _ : Act) = A; intro e1; simp [Act.eval] at e1; simp [execOp, Act.eval, e1, go_sem]
    refine ⟨r0, r1, t0, t1, ga, gb, ?_, hB, ?_, ?_, ?_, ?_, ?_, ?_, ?_⟩
    ·show (puts F _).put (some 16) _ = _
     rw [puts_put (i := 3) hnod (by rw [hf]; rfl)]
     rw [getD_eq (show 3 < L.size by omega), getD_ne (i := 3) (j := 0) (by omega), getD_ne (i := 3) (j := 1) (by omega), getD_ne (i := 3) (j := 2) (by omega), getD_ne (i := 3) (j := 4) (by omega), getD_ne (i := 3) (j := 5) (by omega), getD_ne (i := 3) (j := 6) (by omega), getD_ne (i := 3) (j := 7) (by omega)]
     rfl
    ·simpa [getD_ne] using hV1
    ·simpa [getD_ne] using hV2
    ·simpa [getD_ne] using hG1
    ·simpa [getD_ne] using hG2
    ·simpa [getD_ne] using hne
    ·simpa [getD_ne] using hS1
    ·simpa [getD_ne] using hS2
   ·have hf := getD_no hL
    have p3 : L.getD 3 false = true := hpre _ rfl ⟨3, .data⟩ (by simp) rfl
    have e1 : (puts F [(L.getD 0 false, 13, .pointer (some ⟨w.heap.size, 1, none⟩)), (L.getD 1 false, 14, a1), (L.getD 2 false, 15, .agg #[r0, r1]), (L.getD 3 false, 16, .pointer (some ⟨w.heap.size + 1, 1, none⟩)), (L.getD 4 false, 17, b1), (L.getD 5 false, 18, .agg #[t0, t1]), (L.getD 6 false, 5, .pointer (some ⟨ga, 0, none⟩)), (L.getD 7 false, 6, .pointer (some ⟨gb, 0, none⟩))]).eval (.tmp 16) = .pointer (some ⟨w.heap.size + 1, 1, none⟩) := puts_eval hnod (by rw [p3]; simp) (by omega)
    have c0 := kc k0x hB (by omega)
    refine wpOp_val (v := b1) (w' := wx) rfl rfl ?_ ?_
    ·revert e1; generalize (puts F _ : Act) = A; intro e1; simp [Act.eval] at e1; simp [execOp, Act.eval, e1, go_sem, c0]
    refine ⟨r0, r1, t0, t1, ga, gb, ?_, hB, ?_, ?_, ?_, ?_, ?_, ?_, ?_⟩
    ·show (puts F _).put (some 17) _ = _
     rw [puts_put (i := 4) hnod (by rw [hf]; rfl)]
     rw [getD_eq (show 4 < L.size by omega), getD_ne (i := 4) (j := 0) (by omega), getD_ne (i := 4) (j := 1) (by omega), getD_ne (i := 4) (j := 2) (by omega), getD_ne (i := 4) (j := 3) (by omega), getD_ne (i := 4) (j := 5) (by omega), getD_ne (i := 4) (j := 6) (by omega), getD_ne (i := 4) (j := 7) (by omega)]
     rfl
    ·simpa [getD_ne] using hV1
    ·simpa [getD_ne] using hV2
    ·simpa [getD_ne] using hG1
    ·simpa [getD_ne] using hG2
    ·simpa [getD_ne] using hne
    ·simpa [getD_ne] using hS1
    ·simpa [getD_ne] using hS2
   ·have hf := getD_no hL
    have p4 : L.getD 4 false = true := hpre _ rfl ⟨4, .data⟩ (by simp) rfl
    have e1 : (puts F [(L.getD 0 false, 13, .pointer (some ⟨w.heap.size, 1, none⟩)), (L.getD 1 false, 14, a1), (L.getD 2 false, 15, .agg #[r0, r1]), (L.getD 3 false, 16, .pointer (some ⟨w.heap.size + 1, 1, none⟩)), (L.getD 4 false, 17, b1), (L.getD 5 false, 18, .agg #[t0, t1]), (L.getD 6 false, 5, .pointer (some ⟨ga, 0, none⟩)), (L.getD 7 false, 6, .pointer (some ⟨gb, 0, none⟩))]).eval (.tmp 17) = b1 := puts_eval hnod (by rw [p4]; simp) (by omega)
    refine wpOp_call (f := 114) (args := #[.bool false, b1]) rfl rfl ?_ ?_
    ·revert e1; generalize (puts F _ : Act) = A; intro e1; simp [Act.eval] at e1; simp [execOp, Act.eval, e1, go_sem]
    refine (of_any false b1 lb wx (F7.out.kp (.of hB)) HCB.out.1).mono fun e w2 h => ?_
    obtain ⟨t0', t1', rfl, hI, hb⟩ := h
    refine ⟨_, rfl, ?_⟩
    refine ⟨r0, r1, t0', t1', ga, gb, ?_, hB.trans (hb.mono hB.size), ?_, ?_, ?_, ?_, ?_, ?_, ?_⟩
    ·show (puts F _).put (some 18) _ = _
     rw [puts_put (i := 5) hnod (by rw [hf]; rfl)]
     rw [getD_eq (show 5 < L.size by omega), getD_ne (i := 5) (j := 0) (by omega), getD_ne (i := 5) (j := 1) (by omega), getD_ne (i := 5) (j := 2) (by omega), getD_ne (i := 5) (j := 3) (by omega), getD_ne (i := 5) (j := 4) (by omega), getD_ne (i := 5) (j := 6) (by omega), getD_ne (i := 5) (j := 7) (by omega)]
     rfl
    ·intro h; exact (hV1 (by simpa [getD_ne] using h)).kp (.of hb)
    ·intro _; exact hI
    ·intro h; have h1 := hG1 (by simpa [getD_ne] using h); refine ⟨h1.1, ?_⟩; simpa [getD_ne] using h1.2.below hb
    ·intro h; have h1 := hG2 (by simpa [getD_ne] using h); have hst := no_store hS2 hf; rw [hst] at h1; refine ⟨h1.1, ?_⟩; rw [getD_ne (i := 5) (j := 9) (by omega), hst]; exact h1.2.below hb
    ·simpa [getD_ne] using hne
    ·intro h; have h1 := hS1 (by simpa [getD_ne] using h); refine ⟨?_, by simpa [getD_ne] using h1.2⟩; simpa [getD_ne] using h1.1
    ·intro h; have h1 := hS2 (by simpa [getD_ne] using h); refine ⟨?_, by simpa [getD_ne] using h1.2⟩; exact getD_eq (by omega)
   ·have hf := getD_no hL
    have hb : Below wx.heap.size wx (wx.alloc (.cells #[.bool false, .slice none 0 0] 31)) := (Below.refl _ _).alloc (Nat.le_refl _) _
    have hst := no_store2 hS1 hf
    refine wpOp_val (v := .pointer (some ⟨wx.heap.size, 0, none⟩)) (w' := wx.alloc (.cells #[.bool false, .slice none 0 0] 31)) rfl rfl ?_ ?_
    ·generalize (puts F _ : Act) = A; simp [execOp, go_sem]
    refine ⟨r0, r1, t0, t1, wx.heap.size, gb, ?_, hB.trans (hb.mono hB.size), ?_, ?_, ?_, ?_, ?_, ?_, ?_⟩
    ·show (puts F _).put (some 5) _ = _
     rw [puts_put (i := 6) hnod (by rw [hf]; rfl)]
     rw [getD_eq (show 6 < L.size by omega), getD_ne (i := 6) (j := 0) (by omega), getD_ne (i := 6) (j := 1) (by omega), getD_ne (i := 6) (j := 2) (by omega), getD_ne (i := 6) (j := 3) (by omega), getD_ne (i := 6) (j := 4) (by omega), getD_ne (i := 6) (j := 5) (by omega), getD_ne (i := 6) (j := 7) (by omega)]
     rfl
    ·intro h; exact (hV1 (by simpa [getD_ne] using h)).kp (.of hb)
    ·intro h; exact (hV2 (by simpa [getD_ne] using h)).kp (.of hb)
    ·intro _; refine ⟨hB.size, ?_⟩; rw [getD_ne (by omega), hst]; exact Bx.at_ rfl
    ·intro h; have h1 := hG2 (by simpa [getD_ne] using h); refine ⟨h1.1, ?_⟩; simpa [getD_ne] using h1.2.below hb
    ·intro h h2; have h1 := (hG2 (by simpa [getD_ne] using h2)).2.lt; omega
    ·intro h; have h1 := hS1 (by simpa [getD_ne] using h); refine ⟨by simpa [getD_ne] using h1.1, ?_⟩; exact getD_eq (by omega)
    ·intro h; have h1 := hS2 (by simpa [getD_ne] using h); refine ⟨by simpa [getD_ne] using h1.1, ?_⟩; simpa [getD_ne] using h1.2
   ·have hf := getD_no hL
    have hb : Below wx.heap.size wx (wx.alloc (.cells #[.bool false, .slice none 0 0] 31)) := (Below.refl _ _).alloc (Nat.le_refl _) _
    have hst := no_store2 hS2 hf
    refine wpOp_val (v := .pointer (some ⟨wx.heap.size, 0, none⟩)) (w' := wx.alloc (.cells #[.bool false, .slice none 0 0] 31)) rfl rfl ?_ ?_
    ·generalize (puts F _ : Act) = A; simp [execOp, go_sem]
    refine ⟨r0, r1, t0, t1, ga, wx.heap.size, ?_, hB.trans (hb.mono hB.size), ?_, ?_, ?_, ?_, ?_, ?_, ?_⟩
    ·show (puts F _).put (some 6) _ = _
     rw [puts_put (i := 7) hnod (by rw [hf]; rfl)]
     rw [getD_eq (show 7 < L.size by omega), getD_ne (i := 7) (j := 0) (by omega), getD_ne (i := 7) (j := 1) (by omega), getD_ne (i := 7) (j := 2) (by omega), getD_ne (i := 7) (j := 3) (by omega), getD_ne (i := 7) (j := 4) (by omega), getD_ne (i := 7) (j := 5) (by omega), getD_ne (i := 7) (j := 6) (by omega)]
     rfl
    ·intro h; exact (hV1 (by simpa [getD_ne] using h)).kp (.of hb)
    ·intro h; exact (hV2 (by simpa [getD_ne] using h)).kp (.of hb)
    ·intro h; have h1 := hG1 (by simpa [getD_ne] using h); refine ⟨h1.1, ?_⟩; simpa [getD_ne] using h1.2.below hb
    ·intro _; refine ⟨hB.size, ?_⟩; rw [getD_ne (by omega), hst]; exact Bx.at_ rfl
    ·intro h h2; have h1 := (hG1 (by simpa [getD_ne] using h)).2.lt; omega
    ·intro h; have h1 := hS1 (by simpa [getD_ne] using h); refine ⟨by simpa [getD_ne] using h1.1, ?_⟩; simpa [getD_ne] using h1.2
    ·intro h; have h1 := hS2 (by simpa [getD_ne] using h); refine ⟨by simpa [getD_ne] using h1.1, ?_⟩; exact getD_eq (by omega)
   ·have hf := getD_no hL
    have p6 : L.getD 6 false = true := hpre _ rfl ⟨6, .data⟩ (by simp) rfl
    have p2 : L.getD 2 false = true := hpre _ rfl ⟨2, .data⟩ (by simp) rfl
    have e1 : (puts F [(L.getD 0 false, 13, .pointer (some ⟨w.heap.size, 1, none⟩)), (L.getD 1 false, 14, a1), (L.getD 2 false, 15, .agg #[r0, r1]), (L.getD 3 false, 16, .pointer (some ⟨w.heap.size + 1, 1, none⟩)), (L.getD 4 false, 17, b1), (L.getD 5 false, 18, .agg #[t0, t1]), (L.getD 6 false, 5, .pointer (some ⟨ga, 0, none⟩)), (L.getD 7 false, 6, .pointer (some ⟨gb, 0, none⟩))]).eval (.tmp 5) = .pointer (some ⟨ga, 0, none⟩) := puts_eval hnod (by rw [p6]; simp) (by omega)
    have e2 : (puts F [(L.getD 0 false, 13, .pointer (some ⟨w.heap.size, 1, none⟩)), (L.getD 1 false, 14, a1), (L.getD 2 false, 15, .agg #[r0, r1]), (L.getD 3 false, 16, .pointer (some ⟨w.heap.size + 1, 1, none⟩)), (L.getD 4 false, 17, b1), (L.getD 5 false, 18, .agg #[t0, t1]), (L.getD 6 false, 5, .pointer (some ⟨ga, 0, none⟩)), (L.getD 7 false, 6, .pointer (some ⟨gb, 0, none⟩))]).eval (.tmp 15) = .agg #[r0, r1] := puts_eval hnod (by rw [p2]; simp) (by omega)
    have hbx := hG1 p6
    rw [hf] at hbx
    obtain ⟨hge, hbx⟩ := hbx
    replace hbx : Bx wx ga 31 [.bool false, .slice none 0 0] := hbx
    have hv := hV1 p2
    have o0 := hv.one0
    have c0 := hbx.cell (i := 0) rfl
    have o1 := hv.one1
    have c1 := hbx.cell (i := 1) rfl
    have hfr := hbx.frozen
    have y0 := hbx.set_ 0 r0
    have y1 := y0.set_ 1 r1
    have hkp := (Kp.refl wx).t2 hbx r0 r1
    refine wpOp_skip (w' := ((wx.setCell ⟨ga, 0, none⟩ r0).setCell ⟨ga, 1, none⟩ r1)) rfl rfl rfl ?_ ?_
    ·revert e1 e2; generalize (puts F _ : Act) = A; intro e1 e2; simp [Act.eval] at e1 e2; simp [execOp, Act.eval, e1, e2, go_sem, hfr, c0, o0, c1, o1]
    refine ⟨r0, r1, t0, t1, ga, gb, ?_, ((hB).setCell hge _).setCell hge _, ?_, ?_, ?_, ?_, ?_, ?_, ?_⟩
    ·simp
    ·intro h; exact (hV1 (by simpa [getD_ne] using h)).kp hkp
    ·intro h; exact (hV2 (by simpa [getD_ne] using h)).kp hkp
    ·intro _; exact ⟨hge, by rw [getD_eq (by omega)]; exact y1⟩
    ·intro h; have h1 := hG2 (by simpa [getD_ne] using h); have hn : gb ≠ ga := fun e => hne p6 (by simpa [getD_ne] using h) e.symm; refine ⟨h1.1, ?_⟩; rw [getD_ne (by omega)]; exact ((h1.2).far_ (g' := ga) (j := 0) (hn) _).far_ (g' := ga) (j := 1) (hn) _
    ·simpa [getD_ne] using hne
    ·intro _; exact ⟨by rw [getD_ne (by omega)]; exact p2, by rw [getD_ne (by omega)]; exact p6⟩
    ·simpa [getD_ne] using hS2
   ·have hf := getD_no hL
    have p7 : L.getD 7 false = true := hpre _ rfl ⟨7, .data⟩ (by simp) rfl
    have p5 : L.getD 5 false = true := hpre _ rfl ⟨5, .data⟩ (by simp) rfl
    have e1 : (puts F [(L.getD 0 false, 13, .pointer (some ⟨w.heap.size, 1, none⟩)), (L.getD 1 false, 14, a1), (L.getD 2 false, 15, .agg #[r0, r1]), (L.getD 3 false, 16, .pointer (some ⟨w.heap.size + 1, 1, none⟩)), (L.getD 4 false, 17, b1), (L.getD 5 false, 18, .agg #[t0, t1]), (L.getD 6 false, 5, .pointer (some ⟨ga, 0, none⟩)), (L.getD 7 false, 6, .pointer (some ⟨gb, 0, none⟩))]).eval (.tmp 6) = .pointer (some ⟨gb, 0, none⟩) := puts_eval hnod (by rw [p7]; simp) (by omega)
    have e2 : (puts F [(L.getD 0 false, 13, .pointer (some ⟨w.heap.size, 1, none⟩)), (L.getD 1 false, 14, a1), (L.getD 2 false, 15, .agg #[r0, r1]), (L.getD 3 false, 16, .pointer (some ⟨w.heap.size + 1, 1, none⟩)), (L.getD 4 false, 17, b1), (L.getD 5 false, 18, .agg #[t0, t1]), (L.getD 6 false, 5, .pointer (some ⟨ga, 0, none⟩)), (L.getD 7 false, 6, .pointer (some ⟨gb, 0, none⟩))]).eval (.tmp 18) = .agg #[t0, t1] := puts_eval hnod (by rw [p5]; simp) (by omega)
    have hbx := hG2 p7
    rw [hf] at hbx
    obtain ⟨hge, hbx⟩ := hbx
    replace hbx : Bx wx gb 31 [.bool false, .slice none 0 0] := hbx
    have hv := hV2 p5
    have o0 := hv.one0
    have c0 := hbx.cell (i := 0) rfl
    have o1 := hv.one1
    have c1 := hbx.cell (i := 1) rfl
    have hfr := hbx.frozen
    have y0 := hbx.set_ 0 t0
    have y1 := y0.set_ 1 t1
    have hkp := (Kp.refl wx).t2 hbx t0 t1
    refine wpOp_skip (w' := ((wx.setCell ⟨gb, 0, none⟩ t0).setCell ⟨gb, 1, none⟩ t1)) rfl rfl rfl ?_ ?_
    ·revert e1 e2; generalize (puts F _ : Act) = A; intro e1 e2; simp [Act.eval] at e1 e2; simp [execOp, Act.eval, e1, e2, go_sem, hfr, c0, o0, c1, o1]
    refine ⟨r0, r1, t0, t1, ga, gb, ?_, ((hB).setCell hge _).setCell hge _, ?_, ?_, ?_, ?_, ?_, ?_, ?_⟩
    ·simp
    ·intro h; exact (hV1 (by simpa [getD_ne] using h)).kp hkp
    ·intro h; exact (hV2 (by simpa [getD_ne] using h)).kp hkp
    ·intro h; have h1 := hG1 (by simpa [getD_ne] using h); have hn : ga ≠ gb := fun e => hne (by simpa [getD_ne] using h) p7 e; refine ⟨h1.1, ?_⟩; rw [getD_ne (by omega)]; exact ((h1.2).far_ (g' := gb) (j := 0) (hn) _).far_ (g' := gb) (j := 1) (hn) _
    ·intro _; exact ⟨hge, by rw [getD_eq (by omega)]; exact y1⟩
    ·simpa [getD_ne] using hne
    ·simpa [getD_ne] using hS1
    ·intro _; exact ⟨by rw [getD_ne (by omega)]; exact p5, by rw [getD_ne (by omega)]; exact p7⟩
  ·intro L a wx hs hall hJ
   obtain ⟨r0, r1, t0, t1, ga, gb, rfl, hB, hV1, hV2, hG1, hG2, hne, hS1, hS2⟩ := hJ
   have hs10 : L.size = 10 := by simpa using hs
   have q0 : L.getD 0 false = true := getD_yes (by omega) (hall 0 (by simp))
   have q1 : L.getD 1 false = true := getD_yes (by omega) (hall 1 (by simp))
   have q2 : L.getD 2 false = true := getD_yes (by omega) (hall 2 (by simp))
   have q3 : L.getD 3 false = true := getD_yes (by omega) (hall 3 (by simp))
   have q4 : L.getD 4 false = true := getD_yes (by omega) (hall 4 (by simp))
   have q5 : L.getD 5 false = true := getD_yes (by omega) (hall 5 (by simp))
   have q6 : L.getD 6 false = true := getD_yes (by omega) (hall 6 (by simp))
   have q7 : L.getD 7 false = true := getD_yes (by omega) (hall 7 (by simp))
   have q8 : L.getD 8 false = true := getD_yes (by omega) (hall 8 (by simp))
   have q9 : L.getD 9 false = true := getD_yes (by omega) (hall 9 (by simp))
   have g1 := hG1 q6
   have g2 := hG2 q7
   rw [q8] at g1
   rw [q9] at g2
   have hfin : PairAt (fun wv l => ∃ v0 v1, l = [v0, v1] ∧ IntV wv v0 v1 (sg false (I.val la))) (fun wv l => ∃ v0 v1, l = [v0, v1] ∧ IntV wv v0 v1 (sg false (I.val lb))) 31 W1 (.pointer (some ⟨ga, 0, none⟩)) (.pointer (some ⟨gb, 0, none⟩)) wx := ⟨ga, gb, _, _, rfl, rfl, g1.2, g2.2, hne q6 q7, g1.1, g2.1, ⟨_, _, rfl, hV1 q2⟩, ⟨_, _, rfl, hV2 q5⟩, hB⟩
   rw [q0, q1, q2, q3, q4, q5, q6, q7, ← HF.out]
   have HFIN := Lib.hid hfin
   clear hfin hV1 hV2 hG1 hG2 hne hS1 hS2 g1 g2 hall hs hB q0 q1 q2 q3 q4 q5 q6 q7 q8 q9
   simp only [puts, List.foldl_cons, List.foldl_nil, if_true]
   simp only [List.setIfInBounds_toArray, List.set_cons_succ, List.set_cons_zero]
   refine hK_ _ _ (Met.intro (hJ_ _ _ ?_))
   (repeat apply Exists.intro)
   exact ⟨HFIN.out, rfl⟩
 case rest =>
  obtain ⟨g5, g6, _, _, rfl, rfl, hx5, hx6, hn56, hg5, hg6, ⟨r0, r1, rfl, hr⟩, ⟨t0, t1, rfl, ht⟩, hb1⟩ := hcut
  have hx4 := k0v.below hb1
  rw [sg_false, HVA.out] at hr
  rw [sg_false, HVB.out] at ht
  have HST := Lib.hid (show GcdAt k y.natAbs x y w wc (w.heap.size + 1 + 1) g5 g6 from ⟨r0, r1, t0, t1, x.natAbs, y.natAbs, hx4, hx5, hx6, hr, ht, by omega, by omega, by omega, by simp [Int.gcd], by have := HBX.out; unfold I.Bd at *; simpa using this, by have := HBY.out; unfold I.Bd at *; simpa using this, Blw HB5.out hb1⟩)
  clear hx4 hx5 hx6 hr ht hb1 hx hy oa0 oa1 ob0 ob1 HSA HSB HCA HCB HVA HVB HBX HBY k1k k0w k1l k1m k0x k1n k1o k1p k1q
  go_wp2_with fail
  go_loopg [] y.natAbs (fun n wr => GcdAt k n x y w wr (w.heap.size + 1 + 1) g5 g6)
  case atStart => exact HST.out
  case round =>
   clear HST
   obtain ⟨wo, rfl⟩ : ∃ wo : World, wo = wr := ⟨_, rfl⟩
   obtain ⟨p0, p1, q0, q1, X, Y, hx4, hx5, hx6, hrp, hrq, hX0, hY0, hYn, hgcd, hbX, hbY, hbw⟩ := hrel
   subst hYn
   have HRP := Lib.hid hrp; have HRQ := Lib.hid hrq; have HGC := Lib.hid hgcd; have HBX := Lib.hid hbX; have HBY := Lib.hid hbY; have HBW := Lib.hid hbw
   obtain ⟨o_p0, o_p1⟩ := hrp.ones
   clear hrp hrq hgcd hbX hbY hbw
   obtain ⟨gq, Aq, nq, cq, rfl, rfl⟩ := HRQ.out.form
   obtain ⟨k1r, k1s, k1C, k1D⟩ := hx4.f2
   obtain ⟨k1E, k1F, k1G, k1H⟩ := hx5.f2
   obtain ⟨k1I, k1J, k1K, k1L⟩ := hx6.f2
   have hlq := HRQ.out.len
   by_cases hz : Y = 0
   ·obtain rfl : nq = 0 := hlq.2.2 hz
    subst hz
    clear hlq
    have e : X = GG := by rw [HGG.out, ← HGC.out]; exact (gcd_zero hX0).symm
    subst e
    go_wp2_with fail
    have hkp := (Kp.refl wo).t2 hx4 p0 p1
    refine bodyPost_ret (v := .agg #[p0, p1]) (by simp [results, Tryz.results98, go_sem, k1r, k1s]) rfl ⟨_, _, rfl, ?_, bel2 (HBW.out) (by first | simp | omega)⟩
    exact HRP.out.kp hkp
   ·have hnq2 : 0 < nq := by
     have h2 := hlq.2
     rcases Nat.eq_zero_or_pos nq with h3 | h3
     ·exact absurd (h2.1 h3) hz
     ·exact h3
    have hnq : 0 < (nq : Int) := by omega
    have hY1 : 0 < Y := by omega
    obtain ⟨LP, sp, cp, vp⟩ := HRP.out.sl
    obtain ⟨LQ, sq, cq2, vq⟩ := HRQ.out.sl
    have hlp := Nat.le_trans (HBX.out.len cp vp) hk
    rw [show (X.natAbs : Int) = X by omega] at vp
    rw [show (Y.natAbs : Int) = Y by omega] at vq
    have HSP := Lib.hid sp; have HSQ := Lib.hid sq; have HCP := Lib.hid cp; have HCQ := Lib.hid cq2; have HVP := Lib.hid vp; have HVQ := Lib.hid vq
    clear hlq hz sp sq cp cq2 vp vq
    by_cases hLP : LP.length ≤ 2
    ·by_cases hLQ : LQ.length ≤ 2
     ·skip
      go_wp2_with fail
      have k3 := two_yes p1 LP wo HSP.out HCP.out.1 hLP HVP.out
      (with_reducible refine k3.mono ?_)
      clear k3
      rintro e w513 ⟨rfl, k0⟩
      obtain ⟨kl, k05, k06, k07, k08⟩ := hx4.b2 k0
      obtain ⟨km, k09, k0a, k0b, k0c⟩ := hx5.b2 k0
      obtain ⟨kn, k0d, k0e, k0f, k0g⟩ := hx6.b2 k0
      have ko := Lib.hid (HRP.out.kp (.of k0))
      have kq := Lib.hid (HRQ.out.kp (.of k0))
      have kr := Lib.hid (HSP.out.kp (.of k0))
      have k4 := Lib.hid (HSQ.out.kp (.of k0))
      have ks := Lib.hid (Blw HBW.out k0)
      clear k0
      go_wp2_with fail
      have k5 := two_yes (.slice Aq nq cq) LQ w513 k4.out HCQ.out.1 hLQ HVQ.out
      (with_reducible refine k5.mono ?_)
      clear k5
      rintro e w535 ⟨rfl, k1⟩
      obtain ⟨kt, k0h, k0i, k0j, k0k⟩ := kl.b2 k1
      obtain ⟨ku, k0l, k0m, k0n, k0o⟩ := km.b2 k1
      obtain ⟨kv, k0p, k0q, k0r, k0s⟩ := kn.b2 k1
      have kx := Lib.hid (ko.out.kp (.of k1))
      have ky := Lib.hid (kq.out.kp (.of k1))
      have k9 := Lib.hid (kr.out.kp (.of k1))
      have ka := Lib.hid (k4.out.kp (.of k1))
      have kw := Lib.hid (Blw ks.out k1)
      clear k1
      go_wp2_with fail
      have hX1 := two_lt HCP.out.1 hLP
      have hY2 := two_lt HCQ.out.1 hLQ
      rw [HVP.out] at hX1
      rw [HVQ.out] at hY2
      go_loopw [7, 9] (fun m n wi => ∃ M N : Int, m = .int .i64 M ∧ n = .int .i64 N ∧ 0 ≤ M ∧ M < 1000000000000000000 ∧ 0 ≤ N ∧ N < 1000000000000000000 ∧ Hid (Int.gcd M N = Int.gcd x y) ∧ Hid (Below w535.heap.size w535 wi)) (fun _ n _ => (intOf n).toNat)
      case atStart => exact ⟨X, Y, rfl, rfl, hX0, hX1, hY0, hY2, HGC, Below.refl _ _⟩
      case round =>
       obtain ⟨M, N, rfl, rfl, hM0, hM1, hN0, hN1, HG2, HN⟩ := hrel
       by_cases hz : N = 0
       ·subst hz
        have e : M = GG := by rw [HGG.out, ← HG2.out]; exact (gcd_zero hM0).symm
        subst e
        have hwr : IntKind.u64.wrap M = M := by rw [IntKind.wrap_u64]; omega
        have k0y := kt.below HN.out
        obtain ⟨k1M, k1N, k1O, k1P⟩ := k0y.f2
        have k0z := ku.below HN.out
        obtain ⟨k1Q, k1R, k1S, k1T⟩ := k0z.f2
        have k0A := kv.below HN.out
        obtain ⟨k1U, k1V, k1W, k1X⟩ := k0A.f2
        have kz := Lib.hid (k9.out.kp (.of HN.out))
        have kA := Lib.hid (ka.out.kp (.of HN.out))
        have k1t := Lib.hid (Blw kw.out HN.out)
        go_wp2_with fail
        have k0t := unsigned_any false M wr hM0 (by omega)
        rw [sg_false] at k0t
        (with_reducible refine k0t.mono ?_)
        clear k0t
        rintro e w577 ⟨u0, u1, rfl, k0u, kB⟩
        obtain ⟨k1u, k1v, k1w, k1Y, k1Z⟩ := k0y.b2 kB
        obtain ⟨k20, k21, k22, k23, k24⟩ := k0z.b2 kB
        obtain ⟨k25, k26, k27, k28, k29⟩ := k0A.b2 kB
        have k1x := Lib.hid (Blw k1t.out kB)
        have k1y := Lib.hid k0u
        obtain ⟨o_u0, o_u1⟩ := k0u.ones
        clear k0u kB
        go_wp2_with fail
        have hkp := (Kp.refl w577).t2 k1u u0 u1
        refine bodyPost_ret (v := .agg #[u0, u1]) (by simp [results, Tryz.results98, go_sem, k1v, k1w]) rfl ⟨_, _, rfl, ?_, bel2 (k1x.out) (by first | simp | omega)⟩
        exact k1y.out.kp hkp
       ·have hN2 : 0 < N := by omega
        have hs0 : 0 ≤ M % N := Int.emod_nonneg _ (by omega)
        have hs1 : M % N < N := Int.emod_lt_of_pos _ hN2
        have hst := gcd_step hM0 hN2
        rw [HG2.out] at hst
        have HST := Lib.hid hst; clear hst
        go_wp2_with fail
        go_region
        go_wp2
        go_roundw
        case rel => exact ⟨N, M % N, rfl, rfl, hN0, hN1, hs0, by omega, HST, Lib.hid (bdN HN.out _)⟩
        case measure => simp [intOf]; omega
     ·skip
      go_wp2_with fail
      have k3 := two_yes p1 LP wo HSP.out HCP.out.1 hLP HVP.out
      (with_reducible refine k3.mono ?_)
      clear k3
      rintro e w513 ⟨rfl, k0⟩
      obtain ⟨kl, k05, k06, k07, k08⟩ := hx4.b2 k0
      obtain ⟨km, k09, k0a, k0b, k0c⟩ := hx5.b2 k0
      obtain ⟨kn, k0d, k0e, k0f, k0g⟩ := hx6.b2 k0
      have ko := Lib.hid (HRP.out.kp (.of k0))
      have kq := Lib.hid (HRQ.out.kp (.of k0))
      have kr := Lib.hid (HSP.out.kp (.of k0))
      have k4 := Lib.hid (HSQ.out.kp (.of k0))
      have ks := Lib.hid (Blw HBW.out k0)
      clear k0
      go_wp2_with fail
      have k5 := two_no (.slice Aq nq cq) LQ w513 k4.out HCQ.out.1 hLQ
      (with_reducible refine k5.mono ?_)
      clear k5
      rintro e w535 ⟨rfl, k1⟩
      obtain ⟨kt, k0h, k0i, k0j, k0k⟩ := kl.b2 k1
      obtain ⟨ku, k0l, k0m, k0n, k0o⟩ := km.b2 k1
      obtain ⟨kv, k0p, k0q, k0r, k0s⟩ := kn.b2 k1
      have kx := Lib.hid (ko.out.kp (.of k1))
      have ky := Lib.hid (kq.out.kp (.of k1))
      have k9 := Lib.hid (kr.out.kp (.of k1))
      have ka := Lib.hid (k4.out.kp (.of k1))
      have kw := Lib.hid (Blw ks.out k1)
      clear k1
      go_wp2_with fail
      have k6 := divide_any p1 (.slice Aq nq cq) LP LQ w535 k9.out ka.out HCP.out HCQ.out hlp (by rw [HVQ.out]; exact hY1)
      rw [HVP.out, HVQ.out] at k6
      (with_reducible refine k6.mono ?_)
      clear k6
      rintro e w557 ⟨u0, u1, v0, v1, rfl, k7, k8, k2⟩
      obtain ⟨kb, k0B, k0C, k0D, k0E⟩ := kt.b2 k2
      obtain ⟨kd, k0F, k0G, k0H, k0I⟩ := ku.b2 k2
      obtain ⟨ke, k0J, k0K, k0L, k0M⟩ := kv.b2 k2
      have kz := Lib.hid (kx.out.kp (.of k2))
      have kA := Lib.hid (ky.out.kp (.of k2))
      have kC := Lib.hid (k9.out.kp (.of k2))
      have kD := Lib.hid (ka.out.kp (.of k2))
      have kE := Lib.hid (Blw kw.out k2)
      have kf := Lib.hid k7
      obtain ⟨o_u0, o_u1⟩ := k7.ones
      have kg := Lib.hid k8
      obtain ⟨o_v0, o_v1⟩ := k8.ones
      clear k7 k8 k2
      obtain ⟨gu, Au, nu, cu, rfl, rfl⟩ := kf.out.form
      obtain ⟨gv, Av, nv, cv, rfl, rfl⟩ := kg.out.form
      go_wp2_with fail
      generalize hW : (w557.alloc _).alloc _ = W581
      obtain ⟨kh, ki, hB⟩ := box2 hW
      have k0N := kb.lt
      have k0O := kd.lt
      have k0P := ke.lt
      clear hW
      obtain ⟨kF, k0Q, k0R, k0S, k0T⟩ := kb.b2 hB
      obtain ⟨kj, k0U, k0V, k0W, k0X⟩ := kd.b2 hB
      obtain ⟨kG, k0Y, k0Z, k10, k11⟩ := ke.b2 hB
      have k12 := Lib.hid (kz.out.kp (.of hB))
      have kH := Lib.hid (kA.out.kp (.of hB))
      have k13 := Lib.hid (kC.out.kp (.of hB))
      have k14 := Lib.hid (kD.out.kp (.of hB))
      have k15 := Lib.hid (kf.out.kp (.of hB))
      have kI := Lib.hid (kg.out.kp (.of hB))
      have kJ := Lib.hid (Blw kE.out hB)
      clear hB
      obtain ⟨k16, k17, k18, k19⟩ := kh.f2
      obtain ⟨k1a, k1b, k1c, k1d⟩ := ki.f2
      go_region
      have kK := kj.set_ 0 (.bool gq)
      have kL := kF.far_ (g' := g5) (j := 0) (by omega) (.bool gq)
      have kM := kG.far_ (g' := g5) (j := 0) (by omega) (.bool gq)
      have kN := kh.far_ (g' := g5) (j := 0) (by omega) (.bool gq)
      have kO := ki.far_ (g' := g5) (j := 0) (by omega) (.bool gq)
      have kP := kK.set_ 1 (.slice Aq nq cq)
      have kQ := kL.far_ (g' := g5) (j := 1) (by omega) (.slice Aq nq cq)
      have kk := kM.far_ (g' := g5) (j := 1) (by omega) (.slice Aq nq cq)
      have kR := kN.far_ (g' := g5) (j := 1) (by omega) (.slice Aq nq cq)
      have kS := kO.far_ (g' := g5) (j := 1) (by omega) (.slice Aq nq cq)
      have kT := kk.set_ 0 (.bool gv)
      have kU := kQ.far_ (g' := g6) (j := 0) (by omega) (.bool gv)
      have kV := kP.far_ (g' := g6) (j := 0) (by omega) (.bool gv)
      have kW := kR.far_ (g' := g6) (j := 0) (by omega) (.bool gv)
      have kX := kS.far_ (g' := g6) (j := 0) (by omega) (.bool gv)
      have kY := kT.set_ 1 (.slice Av nv cv)
      have kZ := kU.far_ (g' := g6) (j := 1) (by omega) (.slice Av nv cv)
      have k00 := kV.far_ (g' := g6) (j := 1) (by omega) (.slice Av nv cv)
      have k1e := kW.far_ (g' := g6) (j := 1) (by omega) (.slice Av nv cv)
      have k1f := kX.far_ (g' := g6) (j := 1) (by omega) (.slice Av nv cv)
      have hkp := (((Kp.refl W581).t2 kj (.bool gq) (.slice Aq nq cq)).t2 kk (.bool gv) (.slice Av nv cv)).drew
      have hs0 : 0 ≤ X % Y := Int.emod_nonneg _ (by omega)
      have hs1 : X % Y < Y := Int.emod_lt_of_pos _ hY1
      go_wp2
      go_roundg (X % Y).toNat
      case measure => omega
      case rel => exact ⟨_, _, _, _, Y, X % Y, kZ, k00, kY, kH.out.kp hkp, kI.out.kp hkp, hY0, hs0, rfl, by rw [gcd_step hX0 hY1]; exact HGC.out, HBY.out, HBY.out.of_le (by omega), (((((kJ.out).setCell (by simp <;> omega) _).setCell (by simp <;> omega) _).setCell (by simp <;> omega) _).setCell (by simp <;> omega) _).drew⟩
    ·by_cases hLQ : LQ.length ≤ 2
     ·skip
      go_wp2_with fail
      have k3 := two_no p1 LP wo HSP.out HCP.out.1 hLP
      (with_reducible refine k3.mono ?_)
      clear k3
      rintro e w513 ⟨rfl, k0⟩
      obtain ⟨kl, k05, k06, k07, k08⟩ := hx4.b2 k0
      obtain ⟨km, k09, k0a, k0b, k0c⟩ := hx5.b2 k0
      obtain ⟨kn, k0d, k0e, k0f, k0g⟩ := hx6.b2 k0
      have ko := Lib.hid (HRP.out.kp (.of k0))
      have kq := Lib.hid (HRQ.out.kp (.of k0))
      have kr := Lib.hid (HSP.out.kp (.of k0))
      have k4 := Lib.hid (HSQ.out.kp (.of k0))
      have ks := Lib.hid (Blw HBW.out k0)
      clear k0
      go_wp2_with fail
      have k5 := two_yes (.slice Aq nq cq) LQ w513 k4.out HCQ.out.1 hLQ HVQ.out
      (with_reducible refine k5.mono ?_)
      clear k5
      rintro e w535 ⟨rfl, k1⟩
      obtain ⟨kt, k0h, k0i, k0j, k0k⟩ := kl.b2 k1
      obtain ⟨ku, k0l, k0m, k0n, k0o⟩ := km.b2 k1
      obtain ⟨kv, k0p, k0q, k0r, k0s⟩ := kn.b2 k1
      have kx := Lib.hid (ko.out.kp (.of k1))
      have ky := Lib.hid (kq.out.kp (.of k1))
      have k9 := Lib.hid (kr.out.kp (.of k1))
      have ka := Lib.hid (k4.out.kp (.of k1))
      have kw := Lib.hid (Blw ks.out k1)
      clear k1
      go_wp2_with fail
      have k6 := divide_any p1 (.slice Aq nq cq) LP LQ w535 k9.out ka.out HCP.out HCQ.out hlp (by rw [HVQ.out]; exact hY1)
      rw [HVP.out, HVQ.out] at k6
      (with_reducible refine k6.mono ?_)
      clear k6
      rintro e w557 ⟨u0, u1, v0, v1, rfl, k7, k8, k2⟩
      obtain ⟨kb, k0B, k0C, k0D, k0E⟩ := kt.b2 k2
      obtain ⟨kd, k0F, k0G, k0H, k0I⟩ := ku.b2 k2
      obtain ⟨ke, k0J, k0K, k0L, k0M⟩ := kv.b2 k2
      have kz := Lib.hid (kx.out.kp (.of k2))
      have kA := Lib.hid (ky.out.kp (.of k2))
      have kC := Lib.hid (k9.out.kp (.of k2))
      have kD := Lib.hid (ka.out.kp (.of k2))
      have kE := Lib.hid (Blw kw.out k2)
      have kf := Lib.hid k7
      obtain ⟨o_u0, o_u1⟩ := k7.ones
      have kg := Lib.hid k8
      obtain ⟨o_v0, o_v1⟩ := k8.ones
      clear k7 k8 k2
      obtain ⟨gu, Au, nu, cu, rfl, rfl⟩ := kf.out.form
      obtain ⟨gv, Av, nv, cv, rfl, rfl⟩ := kg.out.form
      go_wp2_with fail
      generalize hW : (w557.alloc _).alloc _ = W581
      obtain ⟨kh, ki, hB⟩ := box2 hW
      have k0N := kb.lt
      have k0O := kd.lt
      have k0P := ke.lt
      clear hW
      obtain ⟨kF, k0Q, k0R, k0S, k0T⟩ := kb.b2 hB
      obtain ⟨kj, k0U, k0V, k0W, k0X⟩ := kd.b2 hB
      obtain ⟨kG, k0Y, k0Z, k10, k11⟩ := ke.b2 hB
      have k12 := Lib.hid (kz.out.kp (.of hB))
      have kH := Lib.hid (kA.out.kp (.of hB))
      have k13 := Lib.hid (kC.out.kp (.of hB))
      have k14 := Lib.hid (kD.out.kp (.of hB))
      have k15 := Lib.hid (kf.out.kp (.of hB))
      have kI := Lib.hid (kg.out.kp (.of hB))
      have kJ := Lib.hid (Blw kE.out hB)
      clear hB
      obtain ⟨k16, k17, k18, k19⟩ := kh.f2
      obtain ⟨k1a, k1b, k1c, k1d⟩ := ki.f2
      go_region
      have kK := kj.set_ 0 (.bool gq)
      have kL := kF.far_ (g' := g5) (j := 0) (by omega) (.bool gq)
      have kM := kG.far_ (g' := g5) (j := 0) (by omega) (.bool gq)
      have kN := kh.far_ (g' := g5) (j := 0) (by omega) (.bool gq)
      have kO := ki.far_ (g' := g5) (j := 0) (by omega) (.bool gq)
      have kP := kK.set_ 1 (.slice Aq nq cq)
      have kQ := kL.far_ (g' := g5) (j := 1) (by omega) (.slice Aq nq cq)
      have kk := kM.far_ (g' := g5) (j := 1) (by omega) (.slice Aq nq cq)
      have kR := kN.far_ (g' := g5) (j := 1) (by omega) (.slice Aq nq cq)
      have kS := kO.far_ (g' := g5) (j := 1) (by omega) (.slice Aq nq cq)
      have kT := kk.set_ 0 (.bool gv)
      have kU := kQ.far_ (g' := g6) (j := 0) (by omega) (.bool gv)
      have kV := kP.far_ (g' := g6) (j := 0) (by omega) (.bool gv)
      have kW := kR.far_ (g' := g6) (j := 0) (by omega) (.bool gv)
      have kX := kS.far_ (g' := g6) (j := 0) (by omega) (.bool gv)
      have kY := kT.set_ 1 (.slice Av nv cv)
      have kZ := kU.far_ (g' := g6) (j := 1) (by omega) (.slice Av nv cv)
      have k00 := kV.far_ (g' := g6) (j := 1) (by omega) (.slice Av nv cv)
      have k1e := kW.far_ (g' := g6) (j := 1) (by omega) (.slice Av nv cv)
      have k1f := kX.far_ (g' := g6) (j := 1) (by omega) (.slice Av nv cv)
      have hkp := (((Kp.refl W581).t2 kj (.bool gq) (.slice Aq nq cq)).t2 kk (.bool gv) (.slice Av nv cv)).drew
      have hs0 : 0 ≤ X % Y := Int.emod_nonneg _ (by omega)
      have hs1 : X % Y < Y := Int.emod_lt_of_pos _ hY1
      go_wp2
      go_roundg (X % Y).toNat
      case measure => omega
      case rel => exact ⟨_, _, _, _, Y, X % Y, kZ, k00, kY, kH.out.kp hkp, kI.out.kp hkp, hY0, hs0, rfl, by rw [gcd_step hX0 hY1]; exact HGC.out, HBY.out, HBY.out.of_le (by omega), (((((kJ.out).setCell (by simp <;> omega) _).setCell (by simp <;> omega) _).setCell (by simp <;> omega) _).setCell (by simp <;> omega) _).drew⟩
     ·skip
      go_wp2_with fail
      have k3 := two_no p1 LP wo HSP.out HCP.out.1 hLP
      (with_reducible refine k3.mono ?_)
      clear k3
      rintro e w513 ⟨rfl, k0⟩
      obtain ⟨kl, k05, k06, k07, k08⟩ := hx4.b2 k0
      obtain ⟨km, k09, k0a, k0b, k0c⟩ := hx5.b2 k0
      obtain ⟨kn, k0d, k0e, k0f, k0g⟩ := hx6.b2 k0
      have ko := Lib.hid (HRP.out.kp (.of k0))
      have kq := Lib.hid (HRQ.out.kp (.of k0))
      have kr := Lib.hid (HSP.out.kp (.of k0))
      have k4 := Lib.hid (HSQ.out.kp (.of k0))
      have ks := Lib.hid (Blw HBW.out k0)
      clear k0
      go_wp2_with fail
      have k5 := two_no (.slice Aq nq cq) LQ w513 k4.out HCQ.out.1 hLQ
      (with_reducible refine k5.mono ?_)
      clear k5
      rintro e w535 ⟨rfl, k1⟩
      obtain ⟨kt, k0h, k0i, k0j, k0k⟩ := kl.b2 k1
      obtain ⟨ku, k0l, k0m, k0n, k0o⟩ := km.b2 k1
      obtain ⟨kv, k0p, k0q, k0r, k0s⟩ := kn.b2 k1
      have kx := Lib.hid (ko.out.kp (.of k1))
      have ky := Lib.hid (kq.out.kp (.of k1))
      have k9 := Lib.hid (kr.out.kp (.of k1))
      have ka := Lib.hid (k4.out.kp (.of k1))
      have kw := Lib.hid (Blw ks.out k1)
      clear k1
      go_wp2_with fail
      have k6 := divide_any p1 (.slice Aq nq cq) LP LQ w535 k9.out ka.out HCP.out HCQ.out hlp (by rw [HVQ.out]; exact hY1)
      rw [HVP.out, HVQ.out] at k6
      (with_reducible refine k6.mono ?_)
      clear k6
      rintro e w557 ⟨u0, u1, v0, v1, rfl, k7, k8, k2⟩
      obtain ⟨kb, k0B, k0C, k0D, k0E⟩ := kt.b2 k2
      obtain ⟨kd, k0F, k0G, k0H, k0I⟩ := ku.b2 k2
      obtain ⟨ke, k0J, k0K, k0L, k0M⟩ := kv.b2 k2
      have kz := Lib.hid (kx.out.kp (.of k2))
      have kA := Lib.hid (ky.out.kp (.of k2))
      have kC := Lib.hid (k9.out.kp (.of k2))
      have kD := Lib.hid (ka.out.kp (.of k2))
      have kE := Lib.hid (Blw kw.out k2)
      have kf := Lib.hid k7
      obtain ⟨o_u0, o_u1⟩ := k7.ones
      have kg := Lib.hid k8
      obtain ⟨o_v0, o_v1⟩ := k8.ones
      clear k7 k8 k2
      obtain ⟨gu, Au, nu, cu, rfl, rfl⟩ := kf.out.form
      obtain ⟨gv, Av, nv, cv, rfl, rfl⟩ := kg.out.form
      go_wp2_with fail
      generalize hW : (w557.alloc _).alloc _ = W581
      obtain ⟨kh, ki, hB⟩ := box2 hW
      have k0N := kb.lt
      have k0O := kd.lt
      have k0P := ke.lt
      clear hW
      obtain ⟨kF, k0Q, k0R, k0S, k0T⟩ := kb.b2 hB
      obtain ⟨kj, k0U, k0V, k0W, k0X⟩ := kd.b2 hB
      obtain ⟨kG, k0Y, k0Z, k10, k11⟩ := ke.b2 hB
      have k12 := Lib.hid (kz.out.kp (.of hB))
      have kH := Lib.hid (kA.out.kp (.of hB))
      have k13 := Lib.hid (kC.out.kp (.of hB))
      have k14 := Lib.hid (kD.out.kp (.of hB))
      have k15 := Lib.hid (kf.out.kp (.of hB))
      have kI := Lib.hid (kg.out.kp (.of hB))
      have kJ := Lib.hid (Blw kE.out hB)
      clear hB
      obtain ⟨k16, k17, k18, k19⟩ := kh.f2
      obtain ⟨k1a, k1b, k1c, k1d⟩ := ki.f2
      go_region
      have kK := kj.set_ 0 (.bool gq)
      have kL := kF.far_ (g' := g5) (j := 0) (by omega) (.bool gq)
      have kM := kG.far_ (g' := g5) (j := 0) (by omega) (.bool gq)
      have kN := kh.far_ (g' := g5) (j := 0) (by omega) (.bool gq)
      have kO := ki.far_ (g' := g5) (j := 0) (by omega) (.bool gq)
      have kP := kK.set_ 1 (.slice Aq nq cq)
      have kQ := kL.far_ (g' := g5) (j := 1) (by omega) (.slice Aq nq cq)
      have kk := kM.far_ (g' := g5) (j := 1) (by omega) (.slice Aq nq cq)
      have kR := kN.far_ (g' := g5) (j := 1) (by omega) (.slice Aq nq cq)
      have kS := kO.far_ (g' := g5) (j := 1) (by omega) (.slice Aq nq cq)
      have kT := kk.set_ 0 (.bool gv)
      have kU := kQ.far_ (g' := g6) (j := 0) (by omega) (.bool gv)
      have kV := kP.far_ (g' := g6) (j := 0) (by omega) (.bool gv)
      have kW := kR.far_ (g' := g6) (j := 0) (by omega) (.bool gv)
      have kX := kS.far_ (g' := g6) (j := 0) (by omega) (.bool gv)
      have kY := kT.set_ 1 (.slice Av nv cv)
      have kZ := kU.far_ (g' := g6) (j := 1) (by omega) (.slice Av nv cv)
      have k00 := kV.far_ (g' := g6) (j := 1) (by omega) (.slice Av nv cv)
      have k1e := kW.far_ (g' := g6) (j := 1) (by omega) (.slice Av nv cv)
      have k1f := kX.far_ (g' := g6) (j := 1) (by omega) (.slice Av nv cv)
      have hkp := (((Kp.refl W581).t2 kj (.bool gq) (.slice Aq nq cq)).t2 kk (.bool gv) (.slice Av nv cv)).drew
      have hs0 : 0 ≤ X % Y := Int.emod_nonneg _ (by omega)
      have hs1 : X % Y < Y := Int.emod_lt_of_pos _ hY1
      go_wp2
      go_roundg (X % Y).toNat
      case measure => omega
      case rel => exact ⟨_, _, _, _, Y, X % Y, kZ, k00, kY, kH.out.kp hkp, kI.out.kp hkp, hY0, hs0, rfl, by rw [gcd_step hX0 hY1]; exact HGC.out, HBY.out, HBY.out.of_le (by omega), (((((kJ.out).setCell (by simp <;> omega) _).setCell (by simp <;> omega) _).setCell (by simp <;> omega) _).setCell (by simp <;> omega) _).drew⟩
end Go.Proofs.YtcfejkpadcccbaaGreat
