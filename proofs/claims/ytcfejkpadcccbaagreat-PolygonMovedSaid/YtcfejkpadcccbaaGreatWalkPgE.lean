/-
 THE WALK of the reference's Meets.
-/
import Derived.Test.YtcfejkpadcccbaaGreatWalkPgD
import Derived.Test.YtcfejkpadcccbaaGreatFlowR
import Derived.RangeFuncNested
import Derived.RangeFuncBound
import Derived.RangeFuncCalls
import Derived.RangeFuncLeaves
import Derived.Shelf.Abstract
import Derived.Shelf.RegionOpen
import Derived.TacticsInMore
import Derived.LoopNIn
import Derived.LoopIn
import Derived.Deep.LoopGhost
namespace Go.Proofs.YtcfejkpadcccbaaGreat
set_option maxHeartbeats 2000000
open Go.RowKit Go.Shelf
attribute [local go_sem] Oper.semAt_some
attribute [local go_sem] run_store_one
set_option linter.unusedVariables false
/-- What a round keeps: what lies below n₀, and the box of the slice. -/
def K2 (n₀ Bs : Nat) (W W' : World) : Prop := Below n₀ W W' ∧ ∀ (cs : Array Value) (T : Nat) (fr : Nat × Nat), W.heap[Bs]? = some (.cells cs T fr) → W'.heap[Bs]? = some (.cells cs T fr)
theorem K2.trans {n₀ Bs : Nat} {A B C : World} (h : K2 n₀ Bs A B) (g : K2 n₀ Bs B C) : K2 n₀ Bs A C := ⟨h.1.trans g.1, fun cs T fr e => g.2 cs T fr (h.2 cs T fr e)⟩
theorem K2.put {n₀ Bs : Nat} {w : World} (hm : n₀ ≤ w.heap.size) (W : World) (l : Nat) (o o' : Obj) (hl : w.heap.size ≤ l) (ho : W.heap[l]? = some o) (hc : o.isCells = false) (hw : o.isWalk = false) : K2 n₀ Bs W (W.putObj l o') := by
 refine ⟨belowK_b (w := w) hm W l o o' hl ho hc hw, fun cs T fr e => ?_⟩
 by_cases hb : Bs = l
 ·subst hb
  rw [ho] at e
  injection e with e
  subst e
  cases hc
 ·rw [World.putObj_heap_other hb]; exact e
def Pg.ag (cs : Nat → Nat → Value) (i : Nat) : Value := .agg #[cs i 0, cs i 1, cs i 2, cs i 3, cs i 4, cs i 5, cs i 6, cs i 7]
set_option maxRecDepth 100000 in
theorem sides1_in (nf : Nat) (hn : 1 ≤ nf) (l Bs n₀ b o n c : Nat) (cs : Nat → Nat → Value) (hlen : n ≤ 1000) (hb : b < n₀) (J Jx : List (Fin n) → World → Prop) (hone : ∀ i j, (cs i j).oneCell' = true)
  (hY : ∀ pre (x : Fin n) W, J pre W → pre.length < n → YieldAt Fence.wide (nf - 1) Tryz.prog l #[Pg.ag cs x.1, Pg.ag cs ((x.1 + 1) % n)] W fun e W' => (e = .returned (.bool true) ∧ J (pre ++ [x]) W' ∧ K2 n₀ Bs W W') ∨ (e = .returned (.bool false) ∧ Jx (pre ++ [x]) W'))
  (W : World) (hW : n₀ ≤ W.heap.size) (hBc : Bx W Bs 23 [.slice (some ⟨b, o, none⟩) n c]) (hc : ∀ i, i < n → ∀ j, j < 8 → W.cell? ⟨b, o + i * 8 + j, none⟩ = some (cs i j)) (hJ : AbidesFrom W.heap.size J) (h0 : J [] W) :
  CallsIn Fence.wide nf Tryz.prog 104 #[.func (.yield l) #[] #[], .pointer (some ⟨Bs, 0, none⟩)] W fun e W' => (∃ v, e = .returned v) ∧ (J (List.finRange n) W' ∨ ∃ k, k ≤ n ∧ Jx ((List.finRange n).take k) W') := by
 refine callsIn_of_wp Tryz.func104 rfl trivial ?_ rfl
 simp only [Tryz.ntmps104, List.size_toArray, List.length_cons, List.length_nil, Nat.reduceAdd, Nat.reduceSub, Array.replicate_succ, Array.replicate_zero, List.push_toArray, List.append_toArray, List.nil_append, List.cons_append]
 have HY := Lib.hid hY; have HC := Lib.hid hc; have HJ := Lib.hid hJ; have HBC := Lib.hid hBc
 have cB := hBc.cell (i := 0) rfl
 clear hY hc hJ hBc
 gi_wp2
 gi_loopw [7] (fun i wr => ∃ k : Nat, k ≤ n ∧ i = .int .i64 k ∧ J ((List.finRange n).take k) wr ∧ Below n₀ W wr ∧ Hid (Bx wr Bs 23 [.slice (some ⟨b, o, none⟩) n c])) (fun i _ => n - (intOf i).toNat)
 case atStart => exact ⟨0, Nat.zero_le _, rfl, by simpa using h0, Below.refl _ _, HBC⟩
 case round =>
  obtain ⟨k, hk, rfl, hJs, hnx, HBX⟩ := hrel
  clear cB
  by_cases hlt : k < n
  ·have hcx : ∀ j, j < 8 → wr.cell? ⟨b, o + k * 8 + j, none⟩ = some (cs k j) := fun j hj => (hnx.cell (p := ⟨b, o + k * 8 + j, none⟩) hb).trans (HC.out k hlt j hj)
   have c0 : wr.cell? ⟨b, o + k * 8, none⟩ = some (cs k 0) := hcx 0 (by omega); have c1 := hcx 1 (by omega); have c2 := hcx 2 (by omega); have c3 := hcx 3 (by omega); have c4 := hcx 4 (by omega); have c5 := hcx 5 (by omega); have c6 := hcx 6 (by omega); have c7 := hcx 7 (by omega)
   have q0 := hone k 0; have q1 := hone k 1; have q2 := hone k 2; have q3 := hone k 3; have q4 := hone k 4; have q5 := hone k 5; have q6 := hone k 6; have q7 := hone k 7
   clear hcx
   gi_wp2
   -- REGION 3
   have hm := HC.out
   obtain ⟨g, hg⟩ : ∃ g, g = wr.heap.size := ⟨_, rfl⟩
   obtain ⟨k1, hk1e⟩ : ∃ k1 : Nat, k1 = k + 1 := ⟨_, rfl⟩
   have hk1 : IntKind.i64.wrap ((k : Int) + 1) = (k1 : Int) := by rw [IntKind.wrap_i64]; omega
   obtain ⟨m, hme⟩ : ∃ m : Nat, m = k1 % n := ⟨_, rfl⟩
   have hmn : m < n := by rw [hme]; exact Nat.mod_lt _ (by omega)
   have hm1 : Int.tmod (k1 : Int) (n : Int) = (m : Int) := by rw [Int.tmod_eq_emod_of_nonneg (by omega), hme]; simp
   have hm3 : (m : Int) < (n : Int) := by omega
   have hm4 : (0 : Int) ≤ (m : Int) := by omega
   have hnz : ¬ n = 0 := by omega
   generalize hW3 : wr.alloc (.cells _ 35) = w3
   obtain ⟨hx3, k2⟩ := box1 hW3
   rw [← hg] at hx3 ⊢
   have hnx3 : Below n₀ W w3 := hnx.trans (k2.mono (Nat.le_trans hW hnx.size))
   have HX3 := Lib.hid (HBX.out.below k2)
   have HS := Lib.hid (show ∀ wx, Below w3.heap.size w3 wx → wx.cell? ⟨Bs, 0, none⟩ = some (.slice (some ⟨b, o, none⟩) n c) from fun wx h => (HX3.out.below h).cell rfl)
   have HG := Lib.hid (show ∀ wx, Below w3.heap.size w3 wx → wx.cell? ⟨g, 0, none⟩ = some (cs k 0) ∧ wx.cell? ⟨g, 1, none⟩ = some (cs k 1) ∧ wx.cell? ⟨g, 2, none⟩ = some (cs k 2) ∧ wx.cell? ⟨g, 3, none⟩ = some (cs k 3) ∧ wx.cell? ⟨g, 4, none⟩ = some (cs k 4) ∧ wx.cell? ⟨g, 5, none⟩ = some (cs k 5) ∧ wx.cell? ⟨g, 6, none⟩ = some (cs k 6) ∧ wx.cell? ⟨g, 7, none⟩ = some (cs k 7) from fun wx h => by
    have hx := hx3.below h
    exact ⟨hx.cell rfl, hx.cell rfl, hx.cell rfl, hx.cell rfl, hx.cell rfl, hx.cell rfl, hx.cell rfl, hx.cell rfl⟩)
   have HM := Lib.hid (show ∀ wx, Below w3.heap.size w3 wx → wx.cell? ⟨b, o + m * 8, none⟩ = some (cs m 0) ∧ wx.cell? ⟨b, o + m * 8 + 1, none⟩ = some (cs m 1) ∧ wx.cell? ⟨b, o + m * 8 + 2, none⟩ = some (cs m 2) ∧ wx.cell? ⟨b, o + m * 8 + 3, none⟩ = some (cs m 3) ∧ wx.cell? ⟨b, o + m * 8 + 4, none⟩ = some (cs m 4) ∧ wx.cell? ⟨b, o + m * 8 + 5, none⟩ = some (cs m 5) ∧ wx.cell? ⟨b, o + m * 8 + 6, none⟩ = some (cs m 6) ∧ wx.cell? ⟨b, o + m * 8 + 7, none⟩ = some (cs m 7) from fun wx h => by
    have hcx : ∀ j, j < 8 → wx.cell? ⟨b, o + m * 8 + j, none⟩ = some (cs m j) := fun j hj => ((hnx3.trans (h.mono (Nat.le_trans hW hnx3.size))).cell (p := ⟨b, o + m * 8 + j, none⟩) hb).trans (HC.out m hmn j hj)
    exact ⟨hcx 0 (by omega), hcx 1 (by omega), hcx 2 (by omega), hcx 3 (by omega), hcx 4 (by omega), hcx 5 (by omega), hcx 6 (by omega), hcx 7 (by omega)⟩)
   have HJ3 := Lib.hid hJs; have HN3 := Lib.hid hnx3; have k3 := Lib.hid k2; have HNX := Lib.hid hnx
   have HME := Lib.hid (show m = (k + 1) % n by rw [hme, hk1e])
   clear hm c0 c1 c2 c3 c4 c5 c6 c7 hx3 hJs hnx3 k2 hW3 hme hk1e hnx
   generalize hW_3 : w3.drew = W_3
   refine gen_actI ?_
   intro F_ hF_
   have ev0 : F_.eval (.tmp 0) = .func (.yield l) #[] #[] := by rw [← hF_]; rfl
   have ev1 : F_.eval (.tmp 1) = .pointer (some ⟨Bs, 0, none⟩) := by rw [← hF_]; rfl
   have ev3 : F_.eval (.tmp 3) = .int .i64 (k : Int) := by rw [← hF_]; rfl
   have ev4 : F_.eval (.tmp 4) = .pointer (some ⟨g, 0, none⟩) := by rw [← hF_]; rfl
   have hsz_ : ∀ d ∈ ([(12, []), (13, []), (14, []), (15, []), (16, [3]), (17, []), (18, [5]), (19, [4, 6]), (20, [2, 7]), (21, [8])] : List (Nat × List Nat)).map (·.1), d < F_.tmps.size := by rw [← hF_]; simp
   have HF_ := Lib.hid hF_; clear hF_
   refine wp_flow_tabGI (Fx := Fence.wide) (nf := nf) true hW_3 10 [(12, []), (13, []), (14, []), (15, []), (16, [3]), (17, []), (18, [5]), (19, [4, 6]), (20, [2, 7]), (21, [8])] [SC (.func (.yield l) #[] #[]), SC (.agg #[cs k 0, cs k 1, cs k 2, cs k 3, cs k 4, cs k 5, cs k 6, cs k 7]), SC (.slice (some ⟨b, o, none⟩) n c), SC (.int .i64 (k : Int)), SC (.int .i64 (k1 : Int)), SC (.slice (some ⟨b, o, none⟩) n c), SC (.int .i64 ((n : Nat) : Int)), SC (.int .i64 (m : Int)), SC (.pointer (some ⟨b, o + m * 8, none⟩)), SC (.agg #[cs m 0, cs m 1, cs m 2, cs m 3, cs m 4, cs m 5, cs m 6, cs m 7])] [false, false, false, false, false, false, false, false, false, false] (by kernel_rfl) WideF.wide (by kernel_rfl) (by kernel_rfl) (by kernel_rfl) (by kernel_rfl) (by kernel_rfl) hsz_ ⟨SC.mono _, SC.mono _, SC.mono _, SC.mono _, SC.mono _, SC.mono _, SC.mono _, SC.mono _, SC.mono _, SC.mono _, trivial⟩ ?_ ?_
   ·intro kq hkq a wx hB hp hs
    have hBo : Below w3.heap.size w3 wx := dB hW_3 hB
    have hcase : kq = 0 ∨ kq = 1 ∨ kq = 2 ∨ kq = 3 ∨ kq = 4 ∨ kq = 5 ∨ kq = 6 ∨ kq = 7 ∨ kq = 8 ∨ kq = 9 := by omega
    rcases hcase with rfl | rfl | rfl | rfl | rfl | rfl | rfl | rfl | rfl | rfl
    ·clear hp
     exact ⟨_, rfl, .inl ⟨wanted_none rfl, op_mv (s := SC _) rfl ((hs 0 rfl).trans ev0)⟩⟩
    ·clear hp
     obtain ⟨g0, g1, g2, g3, g4, g5, g6, g7⟩ := HG.out wx hBo
     have b4 := (hs 4 rfl).trans ev4
     simp [Act.eval] at b4
     exact ⟨_, rfl, .inl ⟨wanted_none rfl, Does.val (by simp [execOp, Act.eval, b4, go_sem, g0, g1, g2, g3, g4, g5, g6, g7]) rfl⟩⟩
    ·clear hp
     have b1 := (hs 1 rfl).trans ev1
     simp [Act.eval] at b1
     exact ⟨_, rfl, .inl ⟨wanted_none rfl, Does.val (by simp [execOp, Act.eval, b1, go_sem, HS.out wx hBo]) rfl⟩⟩
    ·clear hp
     exact ⟨_, rfl, .inl ⟨wanted_none rfl, op_mv (s := SC _) rfl ((hs 3 rfl).trans ev3)⟩⟩
    ·obtain ⟨k0, -⟩ := hp
     have e0 : a.eval (.tmp 15) = .int .i64 (k : Int) := k0
     simp [Act.eval] at e0
     exact ⟨_, rfl, .inl ⟨wanted_none rfl, Does.val (by simp [execOp, Act.eval, e0, go_sem, hk1]) rfl⟩⟩
    ·clear hp
     have b1 := (hs 1 rfl).trans ev1
     simp [Act.eval] at b1
     exact ⟨_, rfl, .inl ⟨wanted_none rfl, Does.val (by simp [execOp, Act.eval, b1, go_sem, HS.out wx hBo]) rfl⟩⟩
    ·obtain ⟨k0, -⟩ := hp
     have e0 : a.eval (.tmp 17) = .slice (some ⟨b, o, none⟩) n c := k0
     simp [Act.eval] at e0
     exact ⟨_, rfl, .inl ⟨wanted_none rfl, Does.val (by simp [execOp, Act.eval, e0, go_sem]) rfl⟩⟩
    ·obtain ⟨k0, k4, -⟩ := hp
     have e0 : a.eval (.tmp 16) = .int .i64 (k1 : Int) := k0
     simp [Act.eval] at e0
     have e1 : a.eval (.tmp 18) = .int .i64 ((n : Nat) : Int) := k4
     simp [Act.eval] at e1
     exact ⟨_, rfl, .inl ⟨wanted_none rfl, Does.val (by simp [execOp, Act.eval, e0, e1, go_sem, hm1, hnz]) rfl⟩⟩
    ·obtain ⟨k0, k4, -⟩ := hp
     have e0 : a.eval (.tmp 14) = .slice (some ⟨b, o, none⟩) n c := k0
     simp [Act.eval] at e0
     have e1 : a.eval (.tmp 19) = .int .i64 (m : Int) := k4
     simp [Act.eval] at e1
     exact ⟨_, rfl, .inl ⟨wanted_none rfl, Does.val (by simp [execOp, Act.eval, e0, e1, go_sem, hm3, hm4]) rfl⟩⟩
    ·obtain ⟨k0, -⟩ := hp
     obtain ⟨g0, g1, g2, g3, g4, g5, g6, g7⟩ := HM.out wx hBo
     have e0 : a.eval (.tmp 20) = .pointer (some ⟨b, o + m * 8, none⟩) := k0
     simp [Act.eval] at e0
     exact ⟨_, rfl, .inl ⟨wanted_none rfl, Does.val (by simp [execOp, Act.eval, e0, go_sem, g0, g1, g2, g3, g4, g5, g6, g7]) rfl⟩⟩
   ·intro val wx hB hsp hdis
    have hBo : Below w3.heap.size w3 wx := dB hW_3 hB
    have e0 : val 0 = .func (.yield l) #[] #[] := hsp 0 (by omega)
    have e1 : val 1 = .agg #[cs k 0, cs k 1, cs k 2, cs k 3, cs k 4, cs k 5, cs k 6, cs k 7] := hsp 1 (by omega)
    have e9 : val 9 = .agg #[cs m 0, cs m 1, cs m 2, cs m 3, cs m 4, cs m 5, cs m 6, cs m 7] := hsp 9 (by omega)
    rw [← HF_.out]
    change wpListIn _ _ _ _ _ [_, _] _ _
    simp only [puts_consT, puts_nilm, vals, List.map_cons, List.map_nil, Nat.zero_add, Nat.reduceAdd, e0, e1, e9, List.setIfInBounds_toArray, List.set_cons_succ, List.set_cons_zero]
    clear hsp hdis HF_ hsz_ hB hW_3 e0 e1 e9 ev0 ev1 ev3 ev4
    have HBO := Lib.hid hBo
    obtain ⟨fn, tmps, assign, body, hy, hR⟩ := HY.out _ ⟨k, hlt⟩ wx (HJ.out _ wr wx none HJ3.out (below_grown0 (k3.out.trans (hBo.mono k3.out.size))) (fun r e => by cases e)) (by rw [List.length_take, List.length_finRange]; omega)
    simp only [← HME.out, Pg.ag] at hy
    have HNW := Lib.hid (show Below n₀ W wx from HN3.out.trans (hBo.mono (Nat.le_trans hW HN3.out.size)))
    have HTK := Lib.hid (show (List.finRange n).take (k + 1) = (List.finRange n).take k ++ [⟨k, hlt⟩] from by
     rw [List.take_succ_eq_append_getElem (by simp; exact hlt)]
     simp)
    have HX4 := Lib.hid (HX3.out.below hBo)
    clear hBo HX3 HBX k3 HG HM HS HJ3 HN3 HNX hk1 hm1 hm3 hm4 hmn hnz
    gi_wp2
    refine hR.mono ?_
    rintro e W4 (⟨rfl, k5, hk4⟩ | ⟨rfl, hJx4⟩)
    ·have HJ4 := Lib.hid k5; have HK4 := Lib.hid hk4
     clear k5 hk4
     gi_wp2
     go_roundw
     case rel => exact ⟨k + 1, by omega, by simp, by rw [HTK.out]; exact HJ4.out, HNW.out.trans HK4.out.1, Lib.hid (HK4.out.2 _ _ _ HX4.out)⟩
     case measure => simp [intOf]; omega
    ·gi_wp2
     refine bodyPost_ret (results_none rfl _ _ _) rfl ?_
     exact ⟨⟨_, rfl⟩, .inr ⟨k + 1, by omega, by rw [HTK.out]; exact hJx4⟩⟩
  ·obtain rfl : k = n := by omega
   gi_wp2
   go_end0
   rw [List.take_of_length_le (by simp)] at hJs
   exact ⟨⟨_, rfl⟩, .inl hJs⟩
-- BEHIND
set_option maxRecDepth 100000 in
theorem sides1_nil (nf : Nat) (l Bs : Nat) (A : Option Addr) (c : Nat) (J : List (Fin 0) → World → Prop) (W : World) (hBc : W.cell? ⟨Bs, 0, none⟩ = some (.slice A 0 c)) (h0 : J [] W) :
  CallsIn Fence.wide nf Tryz.prog 104 #[.func (.yield l) #[] #[], .pointer (some ⟨Bs, 0, none⟩)] W fun e W' => (∃ v, e = .returned v) ∧ J [] W' := by
 refine callsIn_of_wp Tryz.func104 rfl trivial ?_ rfl
 simp only [Tryz.ntmps104, List.size_toArray, List.length_cons, List.length_nil, Nat.reduceAdd, Nat.reduceSub, Array.replicate_succ, Array.replicate_zero, List.push_toArray, List.append_toArray, List.nil_append, List.cons_append]
 gi_wp2
 gi_loopw [7] (fun i wr => i = .int .i64 0 ∧ J [] wr) (fun _ _ => 0)
 case atStart => exact ⟨rfl, h0⟩
 case round =>
  obtain ⟨rfl, hJs⟩ := hrel
  gi_wp2
  go_end0
  exact ⟨⟨_, rfl⟩, hJs⟩
theorem sides_in (F : Fence) (hF : WideF F) (hro : F.round = none) (nf : Nat) (A : Option Addr) (n c : Nat) (w : World) :
  CallsIn F nf Tryz.prog 65 #[.slice A n c] w fun e w' => e = .returned (.func (.func 104) #[] #[.pointer (some ⟨w.heap.size, 0, none⟩)]) ∧ w' = w.alloc (.cells #[.slice A n c] 23) := by
 refine callsIn_of_wp Tryz.func65 rfl (hF.fn _) ?_ hro
 simp only [Tryz.ntmps65, List.size_toArray, List.length_cons, List.length_nil, Nat.reduceAdd, Nat.reduceSub, Array.replicate_succ, Array.replicate_zero, List.push_toArray, List.append_toArray, List.nil_append, List.cons_append]
 gi_wp2
 go_ret
 exact ⟨rfl, rfl⟩
/-- A row of vectors: its cells, and what they stand for. -/
structure PV (w : World) (n₀ : Nat) (A : Option Addr) (n c : Nat) (cs : Nat → Nat → Value) (L : List (Rat × Rat)) : Prop where
 len : n = L.length
 small : n ≤ 1000
 cap : n ≤ c
 mx : c ≤ maxLen
 one : ∀ i j, (cs i j).oneCell' = true
 at_ : 0 < n → ∃ b o, A = some ⟨b, o, none⟩ ∧ b < n₀ ∧ ∀ i, i < n → ∀ j, j < 8 → w.cell? ⟨b, o + i * 8 + j, none⟩ = some (cs i j)
 v : ∀ i a, L[i]? = some a → VecV w (cs i 0) (cs i 1) (cs i 2) (cs i 3) (cs i 4) (cs i 5) (cs i 6) (cs i 7) a
/-- The iterator's contract. -/
theorem sides_stops (nf : Nat) (hn : 1 ≤ nf) (Bs n₀ : Nat) (A : Option Addr) (n c : Nat) (cs : Nat → Nat → Value) (L : List (Rat × Rat)) (w : World) (hW : n₀ ≤ w.heap.size) (hBc : Bx w Bs 23 [.slice A n c]) (h : PV w n₀ A n c cs L) :
  SeqStopsK (α := Fin n) Fence.wide nf Tryz.prog 104 #[.pointer (some ⟨Bs, 0, none⟩)] (fun x => #[Pg.ag cs x.1, Pg.ag cs ((x.1 + 1) % n)]) (K2 n₀ Bs) (fun xs => xs = List.finRange n) (fun pre => ∃ k, k ≤ n ∧ pre = (List.finRange n).take k) n w := by
 intro l J Jx W hw hJ hJx hY h0
 have hbc := hBc.below hw
 rcases Nat.eq_zero_or_pos n with rfl | hpos
 ·refine (sides1_nil nf l Bs A c J W (hbc.cell rfl) h0).mono ?_
  rintro e W' ⟨h1, h2⟩
  exact ⟨h1, .inl ⟨[], rfl, h2⟩⟩
 ·obtain ⟨b, o, rfl, hb, hc⟩ := h.at_ hpos
  refine (sides1_in nf hn l Bs n₀ b o n c cs h.small hb J Jx h.one hY W (Nat.le_trans hW hw.size) hbc (fun i hi j hj => (hw.cell (p := ⟨b, o + i * 8 + j, none⟩) (Nat.lt_of_lt_of_le hb hW)).trans (hc i hi j hj)) hJ h0).mono ?_
  rintro e W' ⟨h1, h2 | ⟨k, hk, h2⟩⟩
  ·exact ⟨h1, .inl ⟨_, rfl, h2⟩⟩
  ·exact ⟨h1, .inr ⟨_, ⟨k, hk, rfl⟩, h2⟩⟩
end Go.Proofs.YtcfejkpadcccbaaGreat
namespace Go.Proofs.YtcfejkpadcccbaaGreat
set_option maxHeartbeats 4000000
open Go.RowKit Go.Shelf
attribute [local go_sem] Oper.semAt_some
attribute [local go_sem] run_store_one
set_option linter.unusedVariables false
theorem kp_turn {W W' : World} {B : Nat} {row : Option Nat} (hg : W.grownBy W' row) (hr : ∀ r, row = some r → B ≤ r ∧ ∃ o : Obj, W.heap[r]? = some o ∧ o.isCells = false) : Kp W W' := by
 refine ⟨hg.size, fun b cs fr h => ?_⟩
 refine (hg.block b (Array.getElem?_eq_some_iff.1 h).1 (fun e => ?_)).trans h
 obtain ⟨-, o, h1, h2⟩ := hr b e.symm
 rw [h] at h1
 injection h1 with h1
 subst h1
 cases h2
theorem bx_turn {W W' : World} {B g T : Nat} {l : List Value} {row : Option Nat} (h : Bx W g T l) (hg : W.grownBy W' row) (hr : ∀ r, row = some r → B ≤ r ∧ ∃ o : Obj, W.heap[r]? = some o ∧ o.isCells = false) : Bx W' g T l := by
 refine (hg.block g h.lt (fun e => ?_)).trans h
 obtain ⟨-, o, h1, h2⟩ := hr g e.symm
 unfold Bx at h
 rw [h] at h1
 injection h1 with h1
 subst h1
 cases h2
theorem PV.below {w w' : World} {A : Option Addr} {n c : Nat} {cs : Nat → Nat → Value} {L : List (Rat × Rat)} (h : PV w w.heap.size A n c cs L) (hb : Below w.heap.size w w') : PV w' w.heap.size A n c cs L := by
 refine ⟨h.len, h.small, h.cap, h.mx, h.one, fun hn => ?_, fun i a ha => (h.v i a ha).below hb⟩
 obtain ⟨b, o, h1, h2, h3⟩ := h.at_ hn
 exact ⟨b, o, h1, h2, fun i hi j hj => (hb.cell (p := ⟨b, o + i * 8 + j, none⟩) h2).trans (h3 i hi j hj)⟩
/-- The side that begins at a corner. -/
def Pg.at_ (L : List (Rat × Rat)) (n i : Nat) : (Rat × Rat) × (Rat × Rat) := (L.getD i (0, 0), L.getD ((i + 1) % n) (0, 0))
theorem Pg.at_all (L : List (Rat × Rat)) (n : Nat) (hn : n = L.length) : (List.finRange n).map (fun x => Pg.at_ L n x.1) = Pg.sides L := by
 subst hn
 apply List.ext_getElem?
 intro i
 by_cases hi : i < L.length
 ·have h1 : L[i]? = some (L.getD i (0, 0)) := by simp [List.getElem?_eq_getElem hi, List.getD_eq_getElem?_getD]
  have h3 : (i + 1) % L.length < L.length := Nat.mod_lt _ (by omega)
  have h2 : L[(i + 1) % L.length]? = some (L.getD ((i + 1) % L.length) (0, 0)) := by simp [List.getElem?_eq_getElem h3, List.getD_eq_getElem?_getD]
  rw [Pg.sides_get L i _ _ h1 h2]
  simp [hi, Pg.at_]
 ·rw [List.getElem?_eq_none (by simp; omega), List.getElem?_eq_none (by rw [Pg.sides_len]; omega)]
theorem Pg.sum_bits {f : Rat × Rat → Rat × Rat → Rat} {k : Nat} : ∀ (ps : List ((Rat × Rat) × (Rat × Rat))), (∀ p ∈ ps, Bq k (f p.1 p.2)) → Bq ((k + 1) * ps.length + 1) (Pg.sum f ps)
 | [], _ => by
  rw [Pg.sum_nil]
  exact (show Bq 1 0 from ⟨by unfold I.Bd; decide, by unfold I.Bd; decide⟩).mono (by omega)
 | p :: t, h => by
  rw [Pg.sum_cons]
  exact ((h p (by simp)).add (Pg.sum_bits t (fun q hq => h q (by simp [hq])))).mono (by rw [List.length_cons, Nat.mul_add]; omega)
end Go.Proofs.YtcfejkpadcccbaaGreat
namespace Go.Proofs.YtcfejkpadcccbaaGreat
set_option maxHeartbeats 1000000
open Go.RowKit
attribute [local go_sem] run_store_one
set_option linter.unusedVariables false
/-- What returns the cells of a corner. -/
def RCor (cs : Nat → Nat → Value) (i : Nat) (w : World) (e : Ending) (w' : World) : Prop := e = .returned (.agg #[cs i 0, cs i 1, cs i 2, cs i 3, cs i 4, cs i 5, cs i 6, cs i 7]) ∧ Below w.heap.size w w'
end Go.Proofs.YtcfejkpadcccbaaGreat
namespace Go.Proofs.YtcfejkpadcccbaaGreat
set_option maxHeartbeats 1000000
open Go.RowKit
attribute [local go_sem] run_store_one
set_option linter.unusedVariables false
set_option linter.unusedSimpArgs false
theorem PV.bel {w w' : World} {n₀ : Nat} {A : Option Addr} {n c : Nat} {cs : Nat → Nat → Value} {L : List (Rat × Rat)} (h : PV w n₀ A n c cs L) (hb : Below w.heap.size w w') (hn : n₀ ≤ w.heap.size) : PV w' n₀ A n c cs L := by
 refine ⟨h.len, h.small, h.cap, h.mx, h.one, fun hp => ?_, fun i a ha => (h.v i a ha).below hb⟩
 obtain ⟨b, o, h1, h2, h3⟩ := h.at_ hp
 exact ⟨b, o, h1, h2, fun i hi j hj => (hb.cell (p := ⟨b, o + i * 8 + j, none⟩) (Nat.lt_of_lt_of_le h2 hn)).trans (h3 i hi j hj)⟩
theorem PV.up {w : World} {n₀ n₁ : Nat} {A : Option Addr} {n c : Nat} {cs : Nat → Nat → Value} {L : List (Rat × Rat)} (h : PV w n₀ A n c cs L) (hn : n₀ ≤ n₁) : PV w n₁ A n c cs L := by
 refine ⟨h.len, h.small, h.cap, h.mx, h.one, fun hp => ?_, h.v⟩
 obtain ⟨b, o, h1, h2, h3⟩ := h.at_ hp
 exact ⟨b, o, h1, Nat.lt_of_lt_of_le h2 hn, h3⟩
/-- A row at a later world, below that world's size. -/
theorem PV.now {w w' : World} {A : Option Addr} {n c : Nat} {cs : Nat → Nat → Value} {L : List (Rat × Rat)} (h : PV w w.heap.size A n c cs L) (hb : Below w.heap.size w w') : PV w' w'.heap.size A n c cs L :=
 (h.bel hb (Nat.le_refl _)).up hb.size
theorem PV.el {w : World} {n₀ b o n c i : Nat} {cs : Nat → Nat → Value} {L : List (Rat × Rat)} (h : PV w n₀ (some ⟨b, o, none⟩) n c cs L) (hn : n₀ ≤ w.heap.size) (hi : i < n) :
  Cr w b (o + i * 8) [cs i 0, cs i 1, cs i 2, cs i 3, cs i 4, cs i 5, cs i 6, cs i 7] ∧ VecV w (cs i 0) (cs i 1) (cs i 2) (cs i 3) (cs i 4) (cs i 5) (cs i 6) (cs i 7) (L.getD i (0, 0)) := by
 obtain ⟨b', o', h1, h2, h3⟩ := h.at_ (by omega)
 injection h1 with h1
 injection h1 with e1 e2
 subst e1; subst e2
 have hl := h.len
 refine ⟨⟨Nat.lt_of_lt_of_le h2 hn, fun j x hx => ?_⟩, h.v i _ (by rw [List.getD_eq_getElem?_getD, List.getElem?_eq_getElem (by omega)]; rfl)⟩
 match j, hx with
 | 0, hx => injection hx with hx; subst hx; exact h3 i hi 0 (by omega)
 | 1, hx => injection hx with hx; subst hx; exact h3 i hi 1 (by omega)
 | 2, hx => injection hx with hx; subst hx; exact h3 i hi 2 (by omega)
 | 3, hx => injection hx with hx; subst hx; exact h3 i hi 3 (by omega)
 | 4, hx => injection hx with hx; subst hx; exact h3 i hi 4 (by omega)
 | 5, hx => injection hx with hx; subst hx; exact h3 i hi 5 (by omega)
 | 6, hx => injection hx with hx; subst hx; exact h3 i hi 6 (by omega)
 | 7, hx => injection hx with hx; subst hx; exact h3 i hi 7 (by omega)
 | j + 8, hx => simp at hx
/-- A row of vectors that the region made. -/
def SPV (W : World) (L : List (Rat × Rat)) : Sp := fun w v => ∃ b cs, v = .slice (some ⟨b, 0, none⟩) L.length L.length ∧ W.heap.size ≤ b ∧ PV w w.heap.size (some ⟨b, 0, none⟩) L.length L.length cs L
theorem SPV.mono (W : World) (L : List (Rat × Rat)) : Mono (SPV W L) := fun _ _ _ ⟨b, cs, h1, h2, h3⟩ hb => ⟨b, cs, h1, h2, h3.now hb⟩
theorem five_pv {w w' : World} {a0 a1 a2 a3 a4 a5 a6 a7 b0 b1 b2 b3 b4 b5 b6 b7 c0 c1 c2 c3 c4 c5 c6 c7 d0 d1 d2 d3 d4 d5 d6 d7 e0 e1 e2 e3 e4 e5 e6 e7 : Value} {va vb vc vd ve : Rat × Rat} (hva : VecV w a0 a1 a2 a3 a4 a5 a6 a7 va) (hvb : VecV w b0 b1 b2 b3 b4 b5 b6 b7 vb) (hvc : VecV w c0 c1 c2 c3 c4 c5 c6 c7 vc) (hvd : VecV w d0 d1 d2 d3 d4 d5 d6 d7 vd) (hve : VecV w e0 e1 e2 e3 e4 e5 e6 e7 ve) (hb : Below w.heap.size w w') (hx : Bx w' w.heap.size 35 [a0, a1, a2, a3, a4, a5, a6, a7, b0, b1, b2, b3, b4, b5, b6, b7, c0, c1, c2, c3, c4, c5, c6, c7, d0, d1, d2, d3, d4, d5, d6, d7, e0, e1, e2, e3, e4, e5, e6, e7]) :
  PV w' w'.heap.size (some ⟨w.heap.size, 0, none⟩) 5 5 (fun i j => [a0, a1, a2, a3, a4, a5, a6, a7, b0, b1, b2, b3, b4, b5, b6, b7, c0, c1, c2, c3, c4, c5, c6, c7, d0, d1, d2, d3, d4, d5, d6, d7, e0, e1, e2, e3, e4, e5, e6, e7].getD (i * 8 + j) (.bool false)) [va, vb, vc, vd, ve] := by
 refine ⟨rfl, by omega, Nat.le_refl _, by decide, fun i j => ?_, fun _ => ⟨_, _, rfl, hx.lt, fun i hi j hj => ?_⟩, fun i a ha => ?_⟩
 ·have hall : ∀ u ∈ [a0, a1, a2, a3, a4, a5, a6, a7, b0, b1, b2, b3, b4, b5, b6, b7, c0, c1, c2, c3, c4, c5, c6, c7, d0, d1, d2, d3, d4, d5, d6, d7, e0, e1, e2, e3, e4, e5, e6, e7], u.oneCell' = true := by
   simp only [List.mem_cons, List.not_mem_nil, or_false]
   rintro u (rfl | rfl | rfl | rfl | rfl | rfl | rfl | rfl | rfl | rfl | rfl | rfl | rfl | rfl | rfl | rfl | rfl | rfl | rfl | rfl | rfl | rfl | rfl | rfl | rfl | rfl | rfl | rfl | rfl | rfl | rfl | rfl | rfl | rfl | rfl | rfl | rfl | rfl | rfl | rfl)
   ·exact hva.one0
   ·exact hva.one1
   ·exact hva.one2
   ·exact hva.one3
   ·exact hva.one4
   ·exact hva.one5
   ·exact hva.one6
   ·exact hva.one7
   ·exact hvb.one0
   ·exact hvb.one1
   ·exact hvb.one2
   ·exact hvb.one3
   ·exact hvb.one4
   ·exact hvb.one5
   ·exact hvb.one6
   ·exact hvb.one7
   ·exact hvc.one0
   ·exact hvc.one1
   ·exact hvc.one2
   ·exact hvc.one3
   ·exact hvc.one4
   ·exact hvc.one5
   ·exact hvc.one6
   ·exact hvc.one7
   ·exact hvd.one0
   ·exact hvd.one1
   ·exact hvd.one2
   ·exact hvd.one3
   ·exact hvd.one4
   ·exact hvd.one5
   ·exact hvd.one6
   ·exact hvd.one7
   ·exact hve.one0
   ·exact hve.one1
   ·exact hve.one2
   ·exact hve.one3
   ·exact hve.one4
   ·exact hve.one5
   ·exact hve.one6
   ·exact hve.one7
  rw [List.getD_eq_getElem?_getD]
  cases h : [a0, a1, a2, a3, a4, a5, a6, a7, b0, b1, b2, b3, b4, b5, b6, b7, c0, c1, c2, c3, c4, c5, c6, c7, d0, d1, d2, d3, d4, d5, d6, d7, e0, e1, e2, e3, e4, e5, e6, e7][i * 8 + j]? with
  | none => rfl
  | some x => exact hall x (List.mem_of_getElem? h)
 ·have hlt : i * 8 + j < 40 := by omega
  refine hx.cell ?_
  rw [List.getD_eq_getElem?_getD, Nat.zero_add, List.getElem?_eq_getElem (by simpa using hlt)]
  rfl
 ·match i, ha with
  | 0, ha => injection ha with ha; subst ha; exact hva.below hb
  | 1, ha => injection ha with ha; subst ha; exact hvb.below hb
  | 2, ha => injection ha with ha; subst ha; exact hvc.below hb
  | 3, ha => injection ha with ha; subst ha; exact hvd.below hb
  | 4, ha => injection ha with ha; subst ha; exact hve.below hb
  | i + 5, ha => simp at ha
theorem Does.five {o : Oper} {a : Act} {wx W : World} {a0 a1 a2 a3 a4 a5 a6 a7 b0 b1 b2 b3 b4 b5 b6 b7 c0 c1 c2 c3 c4 c5 c6 c7 d0 d1 d2 d3 d4 d5 d6 d7 e0 e1 e2 e3 e4 e5 e6 e7 : Value} {va vb vc vd ve : Rat × Rat} (hr : (execOp a.eval o).run Tryz.prog wx = .ok (.value (.slice (some ⟨wx.heap.size, 0, none⟩) 5 5)) (wx.alloc (.cells #[a0, a1, a2, a3, a4, a5, a6, a7, b0, b1, b2, b3, b4, b5, b6, b7, c0, c1, c2, c3, c4, c5, c6, c7, d0, d1, d2, d3, d4, d5, d6, d7, e0, e1, e2, e3, e4, e5, e6, e7] 35))) (hva : VecV wx a0 a1 a2 a3 a4 a5 a6 a7 va) (hvb : VecV wx b0 b1 b2 b3 b4 b5 b6 b7 vb) (hvc : VecV wx c0 c1 c2 c3 c4 c5 c6 c7 vc) (hvd : VecV wx d0 d1 d2 d3 d4 d5 d6 d7 vd) (hve : VecV wx e0 e1 e2 e3 e4 e5 e6 e7 ve) (hW : W.heap.size ≤ wx.heap.size) : Does Tryz.prog o (SPV W [va, vb, vc, vd, ve]) false a wx := by
 have hb : Below wx.heap.size wx (wx.alloc (.cells #[a0, a1, a2, a3, a4, a5, a6, a7, b0, b1, b2, b3, b4, b5, b6, b7, c0, c1, c2, c3, c4, c5, c6, c7, d0, d1, d2, d3, d4, d5, d6, d7, e0, e1, e2, e3, e4, e5, e6, e7] 35)) := (Below.refl _ _).alloc (Nat.le_refl _) _
 exact .inl ⟨_, _, hr, hb, ⟨_, _, rfl, hW, five_pv hva hvb hvc hvd hve hb (Bx.new _ _ _)⟩, fun h => by cases h⟩
end Go.Proofs.YtcfejkpadcccbaaGreat
namespace Go.Proofs.YtcfejkpadcccbaaGreat
set_option maxHeartbeats 4000000
open Go.RowKit
attribute [local go_sem] run_store_one
set_option linter.unusedVariables false
set_option linter.unusedSimpArgs false
/-- The five directions. -/
def Pg.dirs (a b c d : Rat × Rat) : List (Rat × Rat) := [Pg.turn (vsub b a), Pg.turn (vsub d c), vsub b a, vsub d c, vsub c a]
/-- No direction separates the segments. -/
def Pg.meets6 (a b c d : Rat × Rat) : Bool := (Pg.dirs a b c d).all fun n => !Pg.btw n a b c d
theorem Bv.turn {k : Nat} {v : Rat × Rat} (h : Bv k v) : Bv k (Pg.turn v) := ⟨h.2.neg, h.1⟩
end Go.Proofs.YtcfejkpadcccbaaGreat
