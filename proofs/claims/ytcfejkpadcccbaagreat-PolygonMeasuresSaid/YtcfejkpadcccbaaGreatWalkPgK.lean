/-
 THE WALK of the reference's Center.
-/
import Derived.Test.YtcfejkpadcccbaaGreatWalkPgG
namespace Go.Proofs.YtcfejkpadcccbaaGreat
set_option maxHeartbeats 4000000
open Go.RowKit
attribute [local go_sem] run_store_one
set_option linter.unusedVariables false
set_option linter.unusedSimpArgs false
def Pg.q (L : List (Rat × Rat)) (i k : Nat) : Bool := ((((k + 1) % L.length : Nat) : Int) != (i : Int)) && Pg.meets (Pg.cor L i) (Pg.cor L (i + 1)) (Pg.cor L k) (Pg.cor L (k + 1))
def Pg.flatp (L : List (Rat × Rat)) (i : Nat) : Bool := vside (Pg.cor L i) (Pg.cor L (i + 1)) (Pg.cor L (i + 2)) == 0
def Pg.bad (L : List (Rat × Rat)) (i : Nat) : Bool := Pg.flatp L i || (List.range L.length).any (fun k => decide (i + 2 ≤ k) && Pg.q L i k)
/-- A polygon is right, as the program finds it. -/
def Pg.valid (L : List (Rat × Rat)) : Bool := decide (3 ≤ L.length) && decide (L.length ≤ 12) && !(List.range L.length).any (Pg.bad L) && decide (0 < sgnZ (Pg.area L).num)
theorem PV.blt {w : World} {n₀ b o n c : Nat} {cs : Nat → Nat → Value} {L : List (Rat × Rat)} (h : PV w n₀ (some ⟨b, o, none⟩) n c cs L) (hn : 0 < n) : b < n₀ := by
 obtain ⟨b', o', h1, h2, -⟩ := h.at_ hn
 injection h1 with h1
 injection h1 with e1 e2
 rw [e1]; exact h2
set_option maxRecDepth 100000 in
theorem atc_any (b o n c gl gn i : Nat) (cs : Nat → Nat → Value) (L : List (Rat × Rat)) (w : World) (h : PV w w.heap.size (some ⟨b, o, none⟩) n c cs L) (hgl : Bx w gl 23 [.slice (some ⟨b, o, none⟩) n c]) (hgn : Bx w gn 3 [.int .i64 (n : Int)]) (hn : 0 < n) (hi : i ≤ 1000000) :
  Calls Tryz.prog 54 #[.int .i64 (i : Int), .pointer (some ⟨gl, 0, none⟩), .pointer (some ⟨gn, 0, none⟩)] w (RCor cs (i % n) w) := by
 have HP := Lib.hid h; have HGL := Lib.hid hgl; have HGN := Lib.hid hgn; have HLEN := Lib.hid h.len
 have hns := h.small
 have ltl := hgl.lt; have ltn := hgn.lt; have hbl := h.blt hn
 clear h hgl hgn
 go_enter Tryz.func54, Tryz.ntmps54
 go_upto_region 1 with fail
 generalize hW : w.alloc _ = W1
 obtain ⟨hx0, hB⟩ := box1 hW
 have HS2 := hq hB
 have X3 := hq hx0; have lt4 := hx0.lt; clear hx0
 clear hW hB
 obtain ⟨m, hm⟩ : ∃ m : Nat, m = i % n := ⟨_, rfl⟩
 have hlm : m < n := by rw [hm]; exact Nat.mod_lt _ hn
 have HM := Lib.hid hm
 clear hm
 have HP6 := hq (HP.out.bel HS2.out (Nat.le_refl _))
 obtain ⟨k2, hv5⟩ := PV.el (i := m) HP6.out HS2.out.size hlm
 have HC5 := hq k2; have HV5 := hq hv5; clear k2 hv5
 go_upto_region 1 with fail
 generalize hW : W1.drew = W7
 have HS8 : Hid (Below W1.heap.size W1 W7) := hq (by rw [← hW]; exact (Below.refl _ _).drew)
 have X9 := hq ((HGL.out.below HS2.out).below HS8.out)
 have X10 := hq ((HGN.out.below HS2.out).below HS8.out)
 have X11 := hq (HC5.out.below HS8.out)
 have X12 := hq (X3.out.below HS8.out)
 refine gen_act fun F_ hF_ => ?_
 have ev0 := ev_ hF_ 0 (ni i) rfl
 have ev1 := ev_ hF_ 1 (pt gl 0) rfl
 have ev2 := ev_ hF_ 2 (pt gn 0) rfl
 have ev4 := ev_ hF_ 4 (pt w.heap.size 0) rfl
 have hN_ := sz_ hF_ 11 rfl
 have HF_ := hq hF_; clear hF_
 refine wp_flO (W := W7) true hW 6 true [] [(5, []), (6, []), (7, []), (8, [1, 2]), (9, [0, 3]), (10, [4])] [.c (sl_ b o n c), .c (ni i), .c (ni n), .c (ni m), .c (pt b (o + m * 8)), .c (ag_ cs m)] (w.heap.size) 5 rfl rfl hN_ (by kernel_rfl) trivial rfl rfl rfl rfl rfl rfl ev4 X12.out rfl (by kernel_rfl) (kn8 (HP6.out.one m 0) (HP6.out.one m 1) (HP6.out.one m 2) (HP6.out.one m 3) (HP6.out.one m 4) (HP6.out.one m 5) (HP6.out.one m 6) (HP6.out.one m 7)) ?_ ?_
 ·refine s2_ rfl rfl (fun _ hT hs  => ld_slV rfl ((hs 1 rfl).trans ev1) (X9.out.tn hT (nin1 (by omega))) rfl) <|
   sm_ rfl rfl ev0 <|
   s2_ rfl rfl (fun _ hT hs  => by
     have q0 := (X10.out.tn hT (nin1 (by omega))).cell (i := 0) rfl
     have b2 := (hs 2 rfl).trans ev2
     simp [Act.eval] at b2
     exact Does.val (by simp [execOp, Act.eval, b2, go_sem, q0]) rfl) <|
   s0_ rfl rfl (fun k0 k1 => (HM.out ▸ rm_t rfl k0 k1 hn)) <|
   s0_ rfl rfl (fun k0 k1 => ix_Vec rfl k0 k1 hlm) <|
   ?_
  refine s1_ rfl rfl (fun _ hT k0 => lc_Vec rfl k0 (X11.out.tn hT (nin1 (by omega)))) <|
   trivial
 intro val w13 cs14 hT hsp hx14 hpo14
 subst hpo14
 change Bx w13 _ _ [(cs m 0), (cs m 1), (cs m 2), (cs m 3), (cs m 4), (cs m 5), (cs m 6), (cs m 7)] at hx14
 have e5 : val 5 = .agg #[(cs m 0), (cs m 1), (cs m 2), (cs m 3), (cs m 4), (cs m 5), (cs m 6), (cs m 7)] := hsp 5 (by omega)
 rw [← HF_.out]
 simp only [Pu1, Pu2, Zs1, Zs2, Zs3, Nat.zero_add, Nat.reduceAdd, e5]
 have HS15 := hq hT
 have X16 := hq hx14; clear hx14
 clear hsp HF_ hN_ hT e5
 clear ev0 ev1 ev2 ev4
 clear hW
 go_wp2
 have cr0 := X16.out.cell (i := 0) rfl
 have cr1 := X16.out.cell (i := 1) rfl
 have cr2 := X16.out.cell (i := 2) rfl
 have cr3 := X16.out.cell (i := 3) rfl
 have cr4 := X16.out.cell (i := 4) rfl
 have cr5 := X16.out.cell (i := 5) rfl
 have cr6 := X16.out.cell (i := 6) rfl
 have cr7 := X16.out.cell (i := 7) rfl
 have k3 := hq (Tn.below (Blw HS2.out HS8.out) HS15.out (all1 (by omega)) (Nat.le_refl _))
 refine bodyPost_ret (v := .agg #[(cs m 0), (cs m 1), (cs m 2), (cs m 3), (cs m 4), (cs m 5), (cs m 6), (cs m 7)]) (by simp [results, Tryz.results54, go_sem, cr0, cr1, cr2, cr3, cr4, cr5, cr6, cr7]) rfl ⟨by rw [← HM.out], k3.out⟩
set_option maxRecDepth 100000 in
theorem valid_s0 (A : Option Addr) (n c : Nat) (cs : Nat → Nat → Value) (L : List (Rat × Rat)) (k : Nat) (w : World) (h : PV w w.heap.size A n c cs L) (hb : ∀ a ∈ L, Bv k a) (hn : n ≤ 100) (hk : k ≤ 10000) (hz : n < 3) :
  Calls Tryz.prog 14 #[.slice A n c] w (fun e w' => e = .returned (.bool false) ∧ Below w.heap.size w w') := by
 have HP := Lib.hid h; have HBV := Lib.hid hb; have HLEN := Lib.hid h.len
 clear h hb
 go_enter Tryz.func14, Tryz.ntmps14
 go_upto_region 2 with fail
 generalize hW : (w.alloc _).alloc _ = W18
 obtain ⟨hx0, hx1, hB⟩ := box2 hW
 have HS19 := hq hB
 have X20 := hq hx0; have lt21 := hx0.lt; clear hx0
 have X22 := hq hx1; have lt23 := hx1.lt; clear hx1
 clear hW hB
 go_upto_region 2 with fail
 refine gen_act fun F_ hF_ => ?_
 have ev3 := ev_ hF_ 3 (pt (w.heap.size + 1) 0) rfl
 have hN_ := sz_ hF_ 87 rfl
 have HF_ := hq hF_; clear hF_
 refine wp_fl0 (W := W18) false rfl 6 true [] [(11, []), (12, [0]), (13, [1]), (14, [2]), (15, [3, 2]), (16, [2, 4])] [.c (ni n), .c (.bool true), .c (.bool true), .c undef, .c undef, .c (.bool true)] rfl rfl hN_ (by kernel_rfl) trivial ?_ ?_
 ·refine s2_ rfl rfl (fun _ hT hs  => by
     have q0 := (X22.out.tn hT nin0).cell (i := 0) rfl
     have b3 := (hs 3 rfl).trans ev3
     simp [Act.eval] at b3
     exact Does.val (by simp [execOp, Act.eval, b3, go_sem, q0]) rfl) <|
   s0_ rfl rfl (fun k0 => Does.castB (decide_eq_true (by omega)) (bc_lss rfl k0)) <|
   s0_ rfl rfl (fun k0 => op_mv rfl k0) <|
   st_ (fun _ _ _ _ _ k0 => gF rfl rfl rfl k0 rfl) <|
   st_ (fun _ _ _ _ _ _ k1 => gF rfl rfl rfl k1 rfl) <|
   ?_
  refine s0_ rfl rfl (fun {a _} k0 k1 => by
     have e0 : a.eval (.tmp 13) = .bool true := k0
     simp [Act.eval] at e0
     have e1 : a.eval (.tmp 15) = undef := k1
     simp [Act.eval] at e1
     exact Does.val (by simp [execOp, Act.eval, e0, e1, go_sem]) rfl) <|
   trivial
 intro val w24 hT hsp
 have e5 : val 5 = .bool true := hsp 5 (by omega)
 rw [← HF_.out]
 simp only [Pu1, Pu2, Zs1, Zs2, Zs3, Nat.zero_add, Nat.reduceAdd, e5]
 have HS25 := hq hT.b0
 clear hsp HF_ hN_ hT e5
 clear ev3
 have k2 := hq (Blw HS19.out HS25.out)
 go_wp2_with fail
 go_ret
 exact ⟨rfl, k2.out⟩
set_option maxRecDepth 100000 in
theorem valid_s1 (A : Option Addr) (n c : Nat) (cs : Nat → Nat → Value) (L : List (Rat × Rat)) (k : Nat) (w : World) (h : PV w w.heap.size A n c cs L) (hb : ∀ a ∈ L, Bv k a) (hn : n ≤ 100) (hk : k ≤ 10000) (hz : 12 < n) :
  Calls Tryz.prog 14 #[.slice A n c] w (fun e w' => e = .returned (.bool false) ∧ Below w.heap.size w w') := by
 have HP := Lib.hid h; have HBV := Lib.hid hb; have HLEN := Lib.hid h.len
 clear h hb
 go_enter Tryz.func14, Tryz.ntmps14
 go_upto_region 2 with fail
 generalize hW : (w.alloc _).alloc _ = W27
 obtain ⟨hx0, hx1, hB⟩ := box2 hW
 have HS28 := hq hB
 have X29 := hq hx0; have lt30 := hx0.lt; clear hx0
 have X31 := hq hx1; have lt32 := hx1.lt; clear hx1
 clear hW hB
 go_upto_region 2 with fail
 refine gen_act fun F_ hF_ => ?_
 have ev3 := ev_ hF_ 3 (pt (w.heap.size + 1) 0) rfl
 have hN_ := sz_ hF_ 87 rfl
 have HF_ := hq hF_; clear hF_
 refine wp_fl0 (W := W27) false rfl 6 true [] [(11, []), (12, [0]), (13, [1]), (14, [2]), (15, [3, 2]), (16, [2, 4])] [.c (ni n), .c (.bool false), .c (.bool false), .c (ni n), .c (.bool true), .c (.bool true)] rfl rfl hN_ (by kernel_rfl) trivial ?_ ?_
 ·refine s2_ rfl rfl (fun _ hT hs  => by
     have q0 := (X31.out.tn hT nin0).cell (i := 0) rfl
     have b3 := (hs 3 rfl).trans ev3
     simp [Act.eval] at b3
     exact Does.val (by simp [execOp, Act.eval, b3, go_sem, q0]) rfl) <|
   s0_ rfl rfl (fun k0 => Does.castB (decide_eq_false (by omega)) (bc_lss rfl k0)) <|
   s0_ rfl rfl (fun k0 => op_mv rfl k0) <|
   st_ (fun _ _ hT _ hs k0 => by
     have q0 := (X31.out.tn hT nin0).cell (i := 0) rfl
     have b3 := (hs 3 rfl).trans ev3
     simp [Act.eval] at b3
     exact gT rfl rfl rfl k0 rfl (Does.val (by simp [execOp, Act.eval, b3, go_sem, q0]) rfl)) <|
   st_ (fun _ _ _ _ _ k0 k1 => gT rfl rfl rfl k1 rfl (Does.castB (decide_eq_true (by omega)) (bc_gtr rfl k0))) <|
   ?_
  refine s0_ rfl rfl (fun {a _} k0 k1 => by
     have e0 : a.eval (.tmp 13) = .bool false := k0
     simp [Act.eval] at e0
     have e1 : a.eval (.tmp 15) = .bool true := k1
     simp [Act.eval] at e1
     exact Does.val (by simp [execOp, Act.eval, e0, e1, go_sem]) rfl) <|
   trivial
 intro val w33 hT hsp
 have e5 : val 5 = .bool true := hsp 5 (by omega)
 rw [← HF_.out]
 simp only [Pu1, Pu2, Zs1, Zs2, Zs3, Nat.zero_add, Nat.reduceAdd, e5]
 have HS34 := hq hT.b0
 clear hsp HF_ hN_ hT e5
 clear ev3
 have k2 := hq (Blw HS28.out HS34.out)
 go_wp2_with fail
 go_ret
 exact ⟨rfl, k2.out⟩
end Go.Proofs.YtcfejkpadcccbaaGreat
namespace Go.Proofs.YtcfejkpadcccbaaGreat
set_option maxHeartbeats 4000000
open Go.RowKit
attribute [local go_sem] run_store_one
set_option linter.unusedVariables false
set_option linter.unusedSimpArgs false
def Pg.dent (L : List (Rat × Rat)) (i : Nat) : Bool := decide (vside (L.getD i (0, 0)) (Pg.cor L (i + 1)) (Pg.cor L (i + 2)) < 0)
def Pg.convex (L : List (Rat × Rat)) : Bool := Pg.valid L && !(List.range L.length).any (Pg.dent L)
theorem valid_three {L : List (Rat × Rat)} (h : Pg.valid L = true) : 3 ≤ L.length := by
 unfold Pg.valid at h
 simp only [Bool.and_eq_true, decide_eq_true_eq] at h
 exact h.1.1.1
end Go.Proofs.YtcfejkpadcccbaaGreat
namespace Go.Proofs.YtcfejkpadcccbaaGreat
set_option maxHeartbeats 4000000
open Go.RowKit
attribute [local go_sem] run_store_one
set_option linter.unusedVariables false
set_option linter.unusedSimpArgs false
def Pg.lo2 (u v : Rat × Rat) : Rat × Rat := (Pg.less u.1 v.1, Pg.less u.2 v.2)
def Pg.hi2 (u v : Rat × Rat) : Rat × Rat := (Pg.more u.1 v.1, Pg.more u.2 v.2)
/-- The least coordinates of the first corners. -/
def Pg.lo (L : List (Rat × Rat)) : Nat → Rat × Rat
 | 0 => L.getD 0 (0, 0)
 | i + 1 => Pg.lo2 (Pg.lo L i) (L.getD i (0, 0))
def Pg.hi (L : List (Rat × Rat)) : Nat → Rat × Rat
 | 0 => L.getD 0 (0, 0)
 | i + 1 => Pg.hi2 (Pg.hi L i) (L.getD i (0, 0))
theorem less_same (r : Rat) : Pg.less r r = r := by unfold Pg.less; split <;> rfl
theorem more_same (r : Rat) : Pg.more r r = r := by unfold Pg.more; split <;> rfl
theorem lo_one (L : List (Rat × Rat)) : Pg.lo L 1 = L.getD 0 (0, 0) := by show Pg.lo2 (L.getD 0 (0, 0)) (L.getD 0 (0, 0)) = _; unfold Pg.lo2; rw [less_same, less_same]
theorem hi_one (L : List (Rat × Rat)) : Pg.hi L 1 = L.getD 0 (0, 0) := by show Pg.hi2 (L.getD 0 (0, 0)) (L.getD 0 (0, 0)) = _; unfold Pg.hi2; rw [more_same, more_same]
theorem less_bits {k : Nat} {r t : Rat} (h : Bq k r) (g : Bq k t) : Bq k (Pg.less r t) := by unfold Pg.less; split <;> assumption
theorem more_bits {k : Nat} {r t : Rat} (h : Bq k r) (g : Bq k t) : Bq k (Pg.more r t) := by unfold Pg.more; split <;> assumption
theorem lo_bits {k : Nat} {L : List (Rat × Rat)} (h : ∀ i, i < L.length → Bv k (L.getD i (0, 0))) (h0 : 0 < L.length) : ∀ i, i ≤ L.length → Bv k (Pg.lo L i)
 | 0, _ => h 0 h0
 | i + 1, hi => ⟨less_bits (lo_bits h h0 i (by omega)).1 (h i (by omega)).1, less_bits (lo_bits h h0 i (by omega)).2 (h i (by omega)).2⟩
theorem hi_bits {k : Nat} {L : List (Rat × Rat)} (h : ∀ i, i < L.length → Bv k (L.getD i (0, 0))) (h0 : 0 < L.length) : ∀ i, i ≤ L.length → Bv k (Pg.hi L i)
 | 0, _ => h 0 h0
 | i + 1, hi => ⟨more_bits (hi_bits h h0 i (by omega)).1 (h i (by omega)).1, more_bits (hi_bits h h0 i (by omega)).2 (h i (by omega)).2⟩
theorem getD_bv {k : Nat} {L : List (Rat × Rat)} (h : ∀ a ∈ L, Bv k a) (i : Nat) (hi : i < L.length) : Bv k (L.getD i (0, 0)) := by
 refine h _ ?_
 rw [List.getD_eq_getElem?_getD, List.getElem?_eq_getElem hi]
 exact List.getElem_mem _
/-- The box: of an empty list two zeros. -/
def Pg.box (L : List (Rat × Rat)) : (Rat × Rat) × (Rat × Rat) := if L.length = 0 then ((0, 0), (0, 0)) else (Pg.lo L L.length, Pg.hi L L.length)
end Go.Proofs.YtcfejkpadcccbaaGreat
namespace Go.Proofs.YtcfejkpadcccbaaGreat
set_option maxHeartbeats 4000000
open Go.RowKit
attribute [local go_sem] run_store_one
set_option linter.unusedVariables false
set_option linter.unusedSimpArgs false
theorem area_nil : Pg.area [] = 0 := by decide +kernel
theorem sixth_bits : Bq 4 (Rat.divInt 1 6) := Bq.divInt (by unfold I.Bd; decide) (by unfold I.Bd; decide) (by omega)
theorem unit_bits : Bq 4 (Rat.divInt 1 1) := Bq.divInt (by unfold I.Bd; decide) (by unfold I.Bd; decide) (by omega)
theorem fan_len (L : List (Rat × Rat)) : (Pg.fan L).length = L.length - 2 := by
 cases L with
 | nil => rfl
 | cons a t => simp only [Pg.fan, List.length_zip, List.length_tail, List.length_cons]; omega
theorem fan_at {L : List (Rat × Rat)} {i : Nat} (h1 : 1 ≤ i) (h2 : i + 1 < L.length) : (Pg.fan L)[i - 1]? = some (L.getD i (0, 0), L.getD (i + 1) (0, 0)) := by
 cases L with
 | nil => simp at h2
 | cons a t =>
  simp only [List.length_cons] at h2
  obtain ⟨m, rfl⟩ : ∃ m, i = m + 1 := ⟨i - 1, by omega⟩
  simp only [Pg.fan, Nat.add_sub_cancel]
  rw [List.getElem?_zip_eq_some]
  refine ⟨?_, ?_⟩
  ·rw [List.getD_cons_succ, List.getD_eq_getElem?_getD, List.getElem?_eq_getElem (by omega)]; rfl
  ·rw [List.getElem?_tail]; show _ = some ((a :: t).getD (m + 1 + 1) (0, 0)); rw [List.getD_cons_succ, List.getD_eq_getElem?_getD, List.getElem?_eq_getElem (by omega)]; rfl
/-- The sums of the triangles up to a corner. -/
def Pg.fs (L : List (Rat × Rat)) (i : Nat) : Rat × Rat := (Pg.sum (fun a b => ((L.headD (0, 0)).1 + a.1 + b.1) * Pg.tri (L.headD (0, 0)) a b) ((Pg.fan L).take (i - 1)), Pg.sum (fun a b => ((L.headD (0, 0)).2 + a.2 + b.2) * Pg.tri (L.headD (0, 0)) a b) ((Pg.fan L).take (i - 1)))
theorem head_getD (L : List (Rat × Rat)) : L.headD (0, 0) = L.getD 0 (0, 0) := by cases L <;> rfl
theorem fs_one (L : List (Rat × Rat)) : Pg.fs L 1 = (0, 0) := rfl
theorem fs_step {L : List (Rat × Rat)} {i : Nat} (h1 : 1 ≤ i) (h2 : i + 1 < L.length) : Pg.fs L (i + 1) = vadd (Pg.fs L i) (vsca (vadd (vadd (L.getD 0 (0, 0)) (L.getD i (0, 0))) (L.getD (i + 1) (0, 0))) (vcrs (vsub (L.getD i (0, 0)) (L.getD 0 (0, 0))) (vsub (L.getD (i + 1) (0, 0)) (L.getD 0 (0, 0))) * Rat.divInt 1 6)) := by
 have h3 := fan_at h1 h2
 have h4 := List.getElem?_eq_some_iff.1 h3
 unfold Pg.fs
 rw [show i + 1 - 1 = i - 1 + 1 by omega, List.take_succ_eq_append_getElem h4.1, Pg.sum_snoc, Pg.sum_snoc, h4.2, head_getD]
 rfl
theorem fs_bits {L : List (Rat × Rat)} {k : Nat} (hb : ∀ a ∈ L, Bv k a) (h0 : 0 < L.length) (hn : L.length ≤ 100) (i : Nat) : Bv ((11 * k + 13) * 100 + 1) (Pg.fs L i) := by
 have hm : ∀ p ∈ (Pg.fan L).take (i - 1), p.1 ∈ L ∧ p.2 ∈ L := by
  intro p hp
  have h1 := List.mem_of_mem_take hp
  cases L with
  | nil => simp at h0
  | cons a t =>
   simp only [Pg.fan] at h1
   have h2 := List.of_mem_zip h1
   exact ⟨List.mem_cons_of_mem _ h2.1, List.mem_cons_of_mem _ (List.mem_of_mem_tail h2.2)⟩
 have h0' : Bv k (L.headD (0, 0)) := by rw [head_getD]; exact getD_bv hb 0 h0
 have hl : ((Pg.fan L).take (i - 1)).length ≤ 100 := by rw [List.length_take, fan_len]; omega
 have ht : ∀ p ∈ (Pg.fan L).take (i - 1), Bq (8 * k + 9) (Pg.tri (L.headD (0, 0)) p.1 p.2) := fun p hp =>
  ((((hb _ (hm p hp).1).sub h0').crs ((hb _ (hm p hp).2).sub h0')).mul sixth_bits).mono (by omega)
 refine ⟨(Pg.sum_bits (k := 11 * k + 12) _ (fun p hp => ?_)).mono (Nat.add_le_add_right (Nat.mul_le_mul_left _ hl) 1), (Pg.sum_bits (k := 11 * k + 12) _ (fun p hp => ?_)).mono (Nat.add_le_add_right (Nat.mul_le_mul_left _ hl) 1)⟩
 ·exact (((h0'.1.add (hb _ (hm p hp).1).1).add (hb _ (hm p hp).2).1).mul (ht p hp)).mono (by omega)
 ·exact (((h0'.2.add (hb _ (hm p hp).1).2).add (hb _ (hm p hp).2).2).mul (ht p hp)).mono (by omega)
theorem area_bits {L : List (Rat × Rat)} {k : Nat} (hb : ∀ a ∈ L, Bv k a) (hn : L.length ≤ 100) : Bq ((4 * k + 3) * 100 + 3) (Pg.area L) := by
 have h := (tr_bits hb hn L.length).mul half_bits
 rw [List.take_of_length_le (by rw [Pg.sides_len]; exact Nat.le_refl _)] at h
 rw [← Pg.area_eq]
 exact h.mono (by omega)
end Go.Proofs.YtcfejkpadcccbaaGreat
