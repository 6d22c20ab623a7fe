/-
 none
-/
import Derived.Test.YtlgnagnmoleeiaaGreatEwB
import Derived.Test.YtlgnagnmoleeiaaGreatEoV
import Derived.Test.YtlgnagnmoleeiaaGreatWalkPgE
namespace Go.Proofs.YtlgnagnmoleeiaaGreat
set_option maxHeartbeats 2000000
open Go.RowKit Go.Shelf
open E (KpG)
attribute [local go_sem] Oper.semAt_some
attribute [local go_sem] run_store_one
set_option linter.unusedVariables false
theorem cell_lt {w : World} {b o : Nat} {v : Value} (h : w.cell? ⟨b, o, none⟩ = some v) : b < w.heap.size := by
  unfold World.cell? at h
  split at h
  · rename_i hb
    exact (Array.getElem?_eq_some_iff.1 hb).1
  · cases h
set_option maxRecDepth 100000 in
theorem sides1K (nf : Nat) (hn : 1 ≤ nf) (l Bs q b o n c : Nat) (cs : Nat → Nat → Value) (hlen : n ≤ 1000) {G : Nat → Prop} (hGs : G Bs) (hGb : G b) (J Jx : List (Fin n) → World → Prop) (hone : ∀ i j, (cs i j).oneCell' = true)
    (hY : ∀ pre (x : Fin n) W, J pre W → pre.length < n → YieldAt Fence.wide (nf - 1) Tryz.prog l #[Pg.ag cs x.1, Pg.ag cs ((x.1 + 1) % n)] W fun e W' => (e = .returned (.bool true) ∧ J (pre ++ [x]) W' ∧ KpG G W W') ∨ (e = .returned (.bool false) ∧ Jx (pre ++ [x]) W'))
    (W : World) (hBc : W.cell? ⟨Bs, q, none⟩ = some (.slice (some ⟨b, o, none⟩) n c)) (hc : ∀ i, i < n → ∀ j, j < 8 → W.cell? ⟨b, o + i * 8 + j, none⟩ = some (cs i j)) (hJ : AbidesFrom W.heap.size J) (h0 : J [] W) :
    CallsIn Fence.wide nf Tryz.prog 177 #[.func (.yield l) #[] #[], .pointer (some ⟨Bs, q, none⟩)] W fun e W' => (∃ v, e = .returned v) ∧ (J (List.finRange n) W' ∨ ∃ k, k ≤ n ∧ Jx ((List.finRange n).take k) W') := by
  refine callsIn_of_wp Tryz.func177 rfl trivial ?_ rfl
  simp only [Tryz.ntmps177, List.size_toArray, List.length_cons, List.length_nil, Nat.reduceAdd, Nat.reduceSub, Array.replicate_succ, Array.replicate_zero, List.push_toArray, List.append_toArray, List.nil_append, List.cons_append]
  have HY := Lib.hid hY; have HC := Lib.hid hc; have HJ := Lib.hid hJ; have HBC := Lib.hid hBc
  have cB := hBc
  clear hY hc hJ hBc
  gi_wp2
  gi_loopw [7] (fun i wr => ∃ k : Nat, k ≤ n ∧ i = .int .i64 k ∧ J ((List.finRange n).take k) wr ∧ Hid (wr.cell? ⟨Bs, q, none⟩ = some (.slice (some ⟨b, o, none⟩) n c)) ∧ Hid (∀ i, i < n → ∀ j, j < 8 → wr.cell? ⟨b, o + i * 8 + j, none⟩ = some (cs i j))) (fun i _ => n - (intOf i).toNat)
  case atStart => exact ⟨0, Nat.zero_le _, rfl, by simpa using h0, HBC, HC⟩
  case round =>
    obtain ⟨k, hk, rfl, hJs, HBX, HCX⟩ := hrel
    clear cB
    by_cases hlt : k < n
    · have hcx : ∀ j, j < 8 → wr.cell? ⟨b, o + k * 8 + j, none⟩ = some (cs k j) := fun j hj => HCX.out k hlt j hj
      have c0 : wr.cell? ⟨b, o + k * 8, none⟩ = some (cs k 0) := hcx 0 (by omega); have c1 := hcx 1 (by omega); have c2 := hcx 2 (by omega); have c3 := hcx 3 (by omega); have c4 := hcx 4 (by omega); have c5 := hcx 5 (by omega); have c6 := hcx 6 (by omega); have c7 := hcx 7 (by omega)
      have q0 := hone k 0; have q1 := hone k 1; have q2 := hone k 2; have q3 := hone k 3; have q4 := hone k 4; have q5 := hone k 5; have q6 := hone k 6; have q7 := hone k 7
      clear hcx
      gi_wp2
      -- REGION 3
      have hm := HC.out
      obtain ⟨g, hg⟩ : ∃ g, g = wr.heap.size := ⟨_, rfl⟩
      obtain ⟨k1, hk1e⟩ : ∃ k1 : Nat, k1 = k + 1 := ⟨_, rfl⟩
      have hk1 : IntKind.i64.wrap ((k : Int) + 1) = (k1 : Int) := by rw [IntKind.wrap_i64]; omega
      obtain ⟨m, hme⟩ : ∃ m : Nat, m = k1 % n := ⟨_, rfl⟩
      have hmn : m < n := by rw [hme]; exact Nat.mod_lt _ (by omega)
      have hm1 : Int.tmod (k1 : Int) (n : Int) = (m : Int) := by rw [Int.tmod_eq_emod_of_nonneg (by omega), hme]; simp
      have hm3 : (m : Int) < (n : Int) := by omega
      have hm4 : (0 : Int) ≤ (m : Int) := by omega
      have hnz : ¬ n = 0 := by omega
      generalize hW3 : wr.alloc (.cells _ 58) = w3
      obtain ⟨hx3, k2⟩ := box1 hW3
      rw [← hg] at hx3 ⊢
      have hbs : Bs < wr.heap.size := cell_lt HBX.out
      have hbb : 0 < n → b < wr.heap.size := fun h => cell_lt (HCX.out 0 h 0 (by omega))
      have HX3 := Lib.hid (show w3.cell? ⟨Bs, q, none⟩ = some (.slice (some ⟨b, o, none⟩) n c) from (k2.cell (p := ⟨Bs, q, none⟩) hbs).trans HBX.out)
      have HCX3 := Lib.hid (show ∀ i, i < n → ∀ j, j < 8 → w3.cell? ⟨b, o + i * 8 + j, none⟩ = some (cs i j) from fun i hi j hj => (k2.cell (p := ⟨b, o + i * 8 + j, none⟩) (hbb (by omega))).trans (HCX.out i hi j hj))
      have hb3s := k2.size
      have hbs3 : Bs < w3.heap.size := by omega
      have hbb3 : 0 < n → b < w3.heap.size := fun h => by have := hbb h; omega
      have HS := Lib.hid (show ∀ wx, Below w3.heap.size w3 wx → wx.cell? ⟨Bs, q, none⟩ = some (.slice (some ⟨b, o, none⟩) n c) from fun wx h => (h.cell (p := ⟨Bs, q, none⟩) hbs3).trans HX3.out)
      have HG := Lib.hid (show ∀ wx, Below w3.heap.size w3 wx → wx.cell? ⟨g, 0, none⟩ = some (cs k 0) ∧ wx.cell? ⟨g, 1, none⟩ = some (cs k 1) ∧ wx.cell? ⟨g, 2, none⟩ = some (cs k 2) ∧ wx.cell? ⟨g, 3, none⟩ = some (cs k 3) ∧ wx.cell? ⟨g, 4, none⟩ = some (cs k 4) ∧ wx.cell? ⟨g, 5, none⟩ = some (cs k 5) ∧ wx.cell? ⟨g, 6, none⟩ = some (cs k 6) ∧ wx.cell? ⟨g, 7, none⟩ = some (cs k 7) from fun wx h => by
        have hx := hx3.below h
        exact ⟨hx.cell rfl, hx.cell rfl, hx.cell rfl, hx.cell rfl, hx.cell rfl, hx.cell rfl, hx.cell rfl, hx.cell rfl⟩)
      have HM := Lib.hid (show ∀ wx, Below w3.heap.size w3 wx → wx.cell? ⟨b, o + m * 8, none⟩ = some (cs m 0) ∧ wx.cell? ⟨b, o + m * 8 + 1, none⟩ = some (cs m 1) ∧ wx.cell? ⟨b, o + m * 8 + 2, none⟩ = some (cs m 2) ∧ wx.cell? ⟨b, o + m * 8 + 3, none⟩ = some (cs m 3) ∧ wx.cell? ⟨b, o + m * 8 + 4, none⟩ = some (cs m 4) ∧ wx.cell? ⟨b, o + m * 8 + 5, none⟩ = some (cs m 5) ∧ wx.cell? ⟨b, o + m * 8 + 6, none⟩ = some (cs m 6) ∧ wx.cell? ⟨b, o + m * 8 + 7, none⟩ = some (cs m 7) from fun wx h => by
        have hcx : ∀ j, j < 8 → wx.cell? ⟨b, o + m * 8 + j, none⟩ = some (cs m j) := fun j hj => (h.cell (p := ⟨b, o + m * 8 + j, none⟩) (hbb3 (by omega))).trans (HCX3.out m hmn j hj)
        exact ⟨hcx 0 (by omega), hcx 1 (by omega), hcx 2 (by omega), hcx 3 (by omega), hcx 4 (by omega), hcx 5 (by omega), hcx 6 (by omega), hcx 7 (by omega)⟩)
      have HJ3 := Lib.hid hJs; have k3 := Lib.hid k2
      have HCW := Lib.hid (show ∀ wx, Below w3.heap.size w3 wx → ∀ i, i < n → ∀ j, j < 8 → wx.cell? ⟨b, o + i * 8 + j, none⟩ = some (cs i j) from fun wx h i hi j hj => (h.cell (p := ⟨b, o + i * 8 + j, none⟩) (hbb3 (by omega))).trans (HCX3.out i hi j hj))
      have HME := Lib.hid (show m = (k + 1) % n by rw [hme, hk1e])
      clear hm c0 c1 c2 c3 c4 c5 c6 c7 hx3 hJs k2 hW3 hme hk1e hb3s
      generalize hW_3 : w3.drew = W_3
      refine gen_actI ?_
      intro F_ hF_
      have ev0 : F_.eval (.tmp 0) = .func (.yield l) #[] #[] := by rw [← hF_]; rfl
      have ev1 : F_.eval (.tmp 1) = .pointer (some ⟨Bs, q, none⟩) := by rw [← hF_]; rfl
      have ev3 : F_.eval (.tmp 3) = .int .i64 (k : Int) := by rw [← hF_]; rfl
      have ev4 : F_.eval (.tmp 4) = .pointer (some ⟨g, 0, none⟩) := by rw [← hF_]; rfl
      have hsz_ : ∀ d ∈ ([(12, []), (13, []), (14, []), (15, []), (16, [3]), (17, []), (18, [5]), (19, [4, 6]), (20, [2, 7]), (21, [8])] : List (Nat × List Nat)).map (·.1), d < F_.tmps.size := by rw [← hF_]; simp
      have HF_ := Lib.hid hF_; clear hF_
      refine wp_flow_tabGI (Fx := Fence.wide) (nf := nf) true hW_3 10 [(12, []), (13, []), (14, []), (15, []), (16, [3]), (17, []), (18, [5]), (19, [4, 6]), (20, [2, 7]), (21, [8])] [SC (.func (.yield l) #[] #[]), SC (.agg #[cs k 0, cs k 1, cs k 2, cs k 3, cs k 4, cs k 5, cs k 6, cs k 7]), SC (.slice (some ⟨b, o, none⟩) n c), SC (.int .i64 (k : Int)), SC (.int .i64 (k1 : Int)), SC (.slice (some ⟨b, o, none⟩) n c), SC (.int .i64 ((n : Nat) : Int)), SC (.int .i64 (m : Int)), SC (.pointer (some ⟨b, o + m * 8, none⟩)), SC (.agg #[cs m 0, cs m 1, cs m 2, cs m 3, cs m 4, cs m 5, cs m 6, cs m 7])] [false, false, false, false, false, false, false, false, false, false] (by kernel_rfl) WideF.wide (by kernel_rfl) (by kernel_rfl) (by kernel_rfl) (by kernel_rfl) (by kernel_rfl) hsz_ ⟨SC.mono _, SC.mono _, SC.mono _, SC.mono _, SC.mono _, SC.mono _, SC.mono _, SC.mono _, SC.mono _, SC.mono _, trivial⟩ ?_ ?_
      · intro kq hkq a wx hB hp hs
        have hBo : Below w3.heap.size w3 wx := dB hW_3 hB
        have hcase : kq = 0 ∨ kq = 1 ∨ kq = 2 ∨ kq = 3 ∨ kq = 4 ∨ kq = 5 ∨ kq = 6 ∨ kq = 7 ∨ kq = 8 ∨ kq = 9 := by omega
        rcases hcase with rfl | rfl | rfl | rfl | rfl | rfl | rfl | rfl | rfl | rfl
        · clear hp
          exact ⟨_, rfl, .inl ⟨wanted_none rfl, op_mv (s := SC _) rfl ((hs 0 rfl).trans ev0)⟩⟩
        · clear hp
          obtain ⟨g0, g1, g2, g3, g4, g5, g6, g7⟩ := HG.out wx hBo
          have b4 := (hs 4 rfl).trans ev4
          simp [Act.eval] at b4
          exact ⟨_, rfl, .inl ⟨wanted_none rfl, Does.val (by simp [execOp, Act.eval, b4, go_sem, g0, g1, g2, g3, g4, g5, g6, g7]) rfl⟩⟩
        · clear hp
          have b1 := (hs 1 rfl).trans ev1
          simp [Act.eval] at b1
          exact ⟨_, rfl, .inl ⟨wanted_none rfl, Does.val (by simp [execOp, Act.eval, b1, go_sem, HS.out wx hBo]) rfl⟩⟩
        · clear hp
          exact ⟨_, rfl, .inl ⟨wanted_none rfl, op_mv (s := SC _) rfl ((hs 3 rfl).trans ev3)⟩⟩
        · obtain ⟨k0, -⟩ := hp
          have e0 : a.eval (.tmp 15) = .int .i64 (k : Int) := k0
          simp [Act.eval] at e0
          exact ⟨_, rfl, .inl ⟨wanted_none rfl, Does.val (by simp [execOp, Act.eval, e0, go_sem, hk1]) rfl⟩⟩
        · clear hp
          have b1 := (hs 1 rfl).trans ev1
          simp [Act.eval] at b1
          exact ⟨_, rfl, .inl ⟨wanted_none rfl, Does.val (by simp [execOp, Act.eval, b1, go_sem, HS.out wx hBo]) rfl⟩⟩
        · obtain ⟨k0, -⟩ := hp
          have e0 : a.eval (.tmp 17) = .slice (some ⟨b, o, none⟩) n c := k0
          simp [Act.eval] at e0
          exact ⟨_, rfl, .inl ⟨wanted_none rfl, Does.val (by simp [execOp, Act.eval, e0, go_sem]) rfl⟩⟩
        · obtain ⟨k0, k4, -⟩ := hp
          have e0 : a.eval (.tmp 16) = .int .i64 (k1 : Int) := k0
          simp [Act.eval] at e0
          have e1 : a.eval (.tmp 18) = .int .i64 ((n : Nat) : Int) := k4
          simp [Act.eval] at e1
          exact ⟨_, rfl, .inl ⟨wanted_none rfl, Does.val (by simp [execOp, Act.eval, e0, e1, go_sem, hm1, hnz]) rfl⟩⟩
        · obtain ⟨k0, k4, -⟩ := hp
          have e0 : a.eval (.tmp 14) = .slice (some ⟨b, o, none⟩) n c := k0
          simp [Act.eval] at e0
          have e1 : a.eval (.tmp 19) = .int .i64 (m : Int) := k4
          simp [Act.eval] at e1
          exact ⟨_, rfl, .inl ⟨wanted_none rfl, Does.val (by simp [execOp, Act.eval, e0, e1, go_sem, hm3, hm4]) rfl⟩⟩
        · obtain ⟨k0, -⟩ := hp
          obtain ⟨g0, g1, g2, g3, g4, g5, g6, g7⟩ := HM.out wx hBo
          have e0 : a.eval (.tmp 20) = .pointer (some ⟨b, o + m * 8, none⟩) := k0
          simp [Act.eval] at e0
          exact ⟨_, rfl, .inl ⟨wanted_none rfl, Does.val (by simp [execOp, Act.eval, e0, go_sem, g0, g1, g2, g3, g4, g5, g6, g7]) rfl⟩⟩
      · intro val wx hB hsp hdis
        have hBo : Below w3.heap.size w3 wx := dB hW_3 hB
        have e0 : val 0 = .func (.yield l) #[] #[] := hsp 0 (by omega)
        have e1 : val 1 = .agg #[cs k 0, cs k 1, cs k 2, cs k 3, cs k 4, cs k 5, cs k 6, cs k 7] := hsp 1 (by omega)
        have e9 : val 9 = .agg #[cs m 0, cs m 1, cs m 2, cs m 3, cs m 4, cs m 5, cs m 6, cs m 7] := hsp 9 (by omega)
        rw [← HF_.out]
        change wpListIn _ _ _ _ _ [_, _] _ _
        simp only [puts_consT, puts_nilm, vals, List.map_cons, List.map_nil, Nat.zero_add, Nat.reduceAdd, e0, e1, e9, List.setIfInBounds_toArray, List.set_cons_succ, List.set_cons_zero]
        clear hsp hdis HF_ hsz_ hB hW_3 e0 e1 e9 ev0 ev1 ev3 ev4
        have HBO := Lib.hid hBo
        obtain ⟨fn, tmps, assign, body, hy, hR⟩ := HY.out _ ⟨k, hlt⟩ wx (HJ.out _ wr wx none HJ3.out (below_grown0 (k3.out.trans (hBo.mono k3.out.size))) (fun r e => by cases e)) (by rw [List.length_take, List.length_finRange]; omega)
        simp only [← HME.out, Pg.ag] at hy
        have HTK := Lib.hid (show (List.finRange n).take (k + 1) = (List.finRange n).take k ++ [⟨k, hlt⟩] from by
          rw [List.take_succ_eq_append_getElem (by simp; exact hlt)]
          simp)
        have HX4 := Lib.hid (HS.out wx hBo)
        have HC4 := Lib.hid (HCW.out wx hBo)
        have HGS := Lib.hid hGs; have HGB := Lib.hid hGb
        clear hBo HX3 HBX k3 HG HM HS HJ3 hk1 hm1 hm3 hm4 hmn hnz HCX HCX3 HCW hbs hbb hbs3 hbb3
        gi_wp2
        refine hR.mono ?_
        rintro e W4 (⟨rfl, k5, hk4⟩ | ⟨rfl, hJx4⟩)
        · have HJ4 := Lib.hid k5; have HK4 := Lib.hid hk4
          clear k5 hk4
          gi_wp2
          go_roundw
          case rel => exact ⟨k + 1, by omega, by simp, by rw [HTK.out]; exact HJ4.out, Lib.hid ((World.cell?_of_block (a := ⟨Bs, q, none⟩) (HK4.out Bs HGS.out)).trans HX4.out), Lib.hid fun i hi j hj => (World.cell?_of_block (a := ⟨b, o + i * 8 + j, none⟩) (HK4.out b HGB.out)).trans (HC4.out i hi j hj)⟩
          case measure => simp [intOf]; omega
        · gi_wp2
          refine bodyPost_ret (results_none rfl _ _ _) rfl ?_
          exact ⟨⟨_, rfl⟩, .inr ⟨k + 1, by omega, by rw [HTK.out]; exact hJx4⟩⟩
    · obtain rfl : k = n := by omega
      gi_wp2
      go_end0
      rw [List.take_of_length_le (by simp)] at hJs
      exact ⟨⟨_, rfl⟩, .inl hJs⟩
set_option maxRecDepth 100000 in
theorem sides1Kn (nf : Nat) (l Bs q : Nat) (A : Option Addr) (c : Nat) (J : List (Fin 0) → World → Prop) (W : World) (hBc : W.cell? ⟨Bs, q, none⟩ = some (.slice A 0 c)) (h0 : J [] W) :
    CallsIn Fence.wide nf Tryz.prog 177 #[.func (.yield l) #[] #[], .pointer (some ⟨Bs, q, none⟩)] W fun e W' => (∃ v, e = .returned v) ∧ J [] W' := by
  refine callsIn_of_wp Tryz.func177 rfl trivial ?_ rfl
  simp only [Tryz.ntmps177, List.size_toArray, List.length_cons, List.length_nil, Nat.reduceAdd, Nat.reduceSub, Array.replicate_succ, Array.replicate_zero, List.push_toArray, List.append_toArray, List.nil_append, List.cons_append]
  gi_wp2
  gi_loopw [7] (fun i wr => i = .int .i64 0 ∧ J [] wr) (fun _ _ => 0)
  case atStart => exact ⟨rfl, h0⟩
  case round =>
    obtain ⟨rfl, hJs⟩ := hrel
    gi_wp2
    go_end0
    exact ⟨⟨_, rfl⟩, hJs⟩
end Go.Proofs.YtlgnagnmoleeiaaGreat
namespace Go.Proofs.YtlgnagnmoleeiaaGreat.E
open Go.RowKit
set_option linter.unusedVariables false
section
variable {L : List (Rat × Rat)} {k : Nat}
theorem rep_one_cell {w : World} {A : Nat → Prop} {u : Value} {x : V} (h : Rep w A no u x) (hx : one x = true) : u.oneCell' = true := by
 cases h with
 | k v => exact hx
 | un v => cases hx
 | nm => cases hx
 | ag => cases hx
 | tu => cases hx
 | _ => rfl
abbrev sdV (L : List (Rat × Rat)) (i : Nat) : List V := [.ag (dV (L.getD i (0, 0))), .ag (dV (L.getD ((i + 1) % L.length) (0, 0)))]
theorem it_sides (hn : L.length ≤ 1000) : Iter PP 177 [.ip [dL L]] (fun x : Fin L.length => sdV L x.1) (fun xs => xs = List.finRange L.length) (fun _ => True) L.length := by
 refine ⟨okF_of (by kernel_rfl), fun w A lb hreps => ?_⟩
 have hl : (L.map dV).length = L.length := List.length_map ..
 have h8 : ∀ v : Rat × Rat, (dV v).length = 8 := fun v => rfl
 obtain ⟨lbl⟩ := lb
 obtain ⟨r1, r2, r3⟩ := hreps
 match lbl, r1 with
 | [u], _ =>
  have hu := r2 0 _ rfl
  have hu : Rep w A no u (.ip [dL L]) := hu
  cases hu with
  | ip _ b0 q _ us0 g1 g2 g3 g4 =>
   have k0 := g3 0 _ rfl
   have hr0 := g4 0 _ rfl
   generalize us0 0 = u0 at k0 hr0
   cases hr0 with
   | sl _ a b o c z _ us h1 h2 h3 h4 h5 h6 =>
    have hz : 0 < L.length → z = 8 := fun hp => by
     have := h4 (dV L[0]) (List.mem_map.2 ⟨_, List.getElem_mem hp, rfl⟩)
     rw [h8] at this
     exact this.symm
    have hel : ∀ i, i < L.length → (L.map dV)[i]? = some (dV (L.getD i (0, 0))) := fun i hi => by
     rw [List.getElem?_map, List.getD_eq_getElem?_getD, List.getElem?_eq_getElem hi]; rfl
    have hone : ∀ (v : Rat × Rat) (x : V), x ∈ dV v → one x = true := fun v x hx => by
     have hl : (dV v).all one = true := rfl
     exact List.all_eq_true.1 hl x hx
    let cs : Nat → Nat → Value := fun i j => if i < L.length ∧ j < 8 then us i j else .bool false
    have hcs : ∀ i j, i < L.length → j < 8 → cs i j = us i j := fun i j hi hj => if_pos ⟨hi, hj⟩
    have hrep : ∀ i j, i < L.length → ∀ x, (dV (L.getD i (0, 0)))[j]? = some x → Rep w A no (cs i j) x := fun i j hi x hx => by
     have hj := (List.getElem?_eq_some_iff.1 hx).1
     rw [h8] at hj
     rw [hcs i j hi hj]
     exact h6 i j _ x (hel i hi) hx
    have hone' : ∀ i j, (cs i j).oneCell' = true := fun i j => by
     by_cases hij : i < L.length ∧ j < 8
     · have hj : j < (dV (L.getD i (0, 0))).length := by rw [h8]; exact hij.2
       exact rep_one_cell (hrep i j hij.1 _ (List.getElem?_eq_getElem hj)) (hone _ _ (List.getElem_mem hj))
     · show (if _ then _ else _ : Value).oneCell' = true
       rw [if_neg hij]; rfl
    have hag : ∀ i, i < L.length → Rep w A no (Pg.ag cs i) (.ag (dV (L.getD i (0, 0)))) := fun i hi => by
     refine .ag _ _ _ rfl fun j x hx => ?_
     have hj := (List.getElem?_eq_some_iff.1 hx).1
     rw [h8] at hj
     have := hrep i j hi x hx
     match j, hj with
     | 0, _ => exact this
     | 1, _ => exact this
     | 2, _ => exact this
     | 3, _ => exact this
     | 4, _ => exact this
     | 5, _ => exact this
     | 6, _ => exact this
     | 7, _ => exact this
    refine ⟨fun x => #[Pg.ag cs x.1, Pg.ag cs ((x.1 + 1) % L.length)], fun g => g = b0 ∨ (0 < L.length ∧ g = b), ?_, fun x => ⟨rfl, fun j y hy => ?_, r3⟩, fun nf hnf => ?_⟩
    · rintro g (rfl | ⟨hp, rfl⟩)
      · exact ⟨cell_lt k0, g1⟩
      · obtain ⟨_, q1, q2⟩ := h3 (by rw [hl]; exact hp)
        exact ⟨q2.lt, q1⟩
    · have hx := x.2
      match j, hy with
      | 0, hy =>
        have hy : some (V.ag (dV (L.getD x.1 (0, 0)))) = some y := hy
        injection hy with hy
        subst hy
        exact hag _ hx
      | 1, hy =>
        have hy : some (V.ag (dV (L.getD ((x.1 + 1) % L.length) (0, 0)))) = some y := hy
        injection hy with hy
        subst hy
        exact hag _ (Nat.mod_lt _ (by omega))
      | j + 2, hy => cases hy
    · intro l J Jx W hw hJ hJx hY h0
      have hc0' : W.cell? ⟨b0, q, none⟩ = some (.slice a (L.map dV).length c) := (hw.cell (p := ⟨b0, q, none⟩) (cell_lt k0)).trans k0
      rw [hl] at hc0'
      rcases Nat.eq_zero_or_pos L.length with hz0 | hpos
      · obtain rfl : L = [] := List.length_eq_zero_iff.1 hz0
        refine (sides1Kn nf l b0 q a c J W hc0' h0).mono ?_
        rintro e W' ⟨k1, k2⟩
        exact ⟨k1, .inl ⟨[], rfl, k2⟩⟩
      · obtain ⟨rfl, hA, hCB⟩ := h3 (by rw [hl]; exact hpos)
        refine (sides1K nf hnf l b0 q b o L.length c cs hn (G := fun g => g = b0 ∨ (0 < L.length ∧ g = b)) (.inl rfl) (.inr ⟨hpos, rfl⟩) J Jx hone' hY W hc0' (fun i hi j hj => ?_) hJ h0).mono ?_
        · refine (hw.cell (p := ⟨b, o + i * 8 + j, none⟩) hCB.lt).trans ?_
          rw [hcs i j hi hj, ← hz hpos]
          have hj' : j < (dV (L.getD i (0, 0))).length := by rw [h8]; exact hj
          exact h5 i j _ _ (hel i hi) (List.getElem?_eq_getElem hj')
        · rintro e W' ⟨k1, k2 | ⟨kk, _, k2⟩⟩
          · exact ⟨k1, .inl ⟨_, rfl, k2⟩⟩
          · exact ⟨k1, .inr ⟨_, trivial, k2⟩⟩
theorem e_sides (L : List (Rat × Rat)) : Pure PP 108 [dL L] (.v (.cl 177 [.ip [dL L]])) := tr [] (by kernel_rfl)
noncomputable abbrev far : Func := fnOf PP 44
noncomputable def arH (s : Rat) : List HO := [.bx 28 z4, .bx 28 (dR s)]
noncomputable def arS (L : List (Rat × Rat)) : List V := (at_ (fnOf PP 44) [(2, .lp 0 0), (3, .lp 1 0), (7, .cl 177 [.ip [dL L]])] []).t
noncomputable def arA (L : List (Rat × Rat)) (i : Nat) : List V := (at_ (fnOf PP 44) [(2, .lp 0 0), (3, .lp 1 0), (4, .ip (dV (L.getD i (0, 0)))), (5, .ip (dV (L.getD ((i + 1) % L.length) (0, 0)))), (7, .cl 177 [.ip [dL L]]), (8, .ag (dV (L.getD i (0, 0)))), (9, .ag (dV (L.getD ((i + 1) % L.length) (0, 0))))] []).t
theorem sel_bits (hb : ∀ a ∈ L, Bv k a) {i : Nat} (hi : i < L.length) : Bv k (L.getD i (0, 0)) := hb _ (by rw [List.getD_eq_getElem?_getD, List.getElem?_eq_getElem hi]; exact List.getElem_mem _)
theorem area_end {j : Nat} (s : Rat) (hs : s = Pg.sum vcrs (Pg.sides L)) (hb : Bq j (Pg.sum vcrs (Pg.sides L))) (hj : j + 10 ≤ 800000000000) : Gd PP 44 (.ag (dR (Pg.area L))) (rf far).2.2.2.2 ⟨arS L, arH s⟩ := by
 subst hs
 unfold Pg.area
 exact fi [cl (e_rof (x := 1) (y := 2) ⟨by decide, by decide⟩ ⟨by decide, by decide⟩), cl (e_rmul hb half_bits (by omega))] (by kernel_rfl) (by kernel_rfl)
set_option maxRecDepth 10000 in
theorem e_area (hb : ∀ a ∈ L, Bv k a) (hn : L.length ≤ 100) (hk : (20 * k + 100) * (L.length + 2) ≤ 800000000000) : Pure PP 44 [dL L] (.ag (dR (Pg.area L))) := by
 let sm : List (Fin L.length) → Rat := fun pre => Pg.sum vcrs (pre.map fun x => Pg.at_ L L.length x.1)
 have hbd : (4 * k + 2) * L.length + 1 + (4 * k + 1) + 20 ≤ 800000000000 ∧ 10 * (k + k) + 100 ≤ 800000000000 := by
  have h9 : (20 * k + 100) * (L.length + 2) = 20 * (k * L.length) + 40 * k + 100 * L.length + 200 := by grind
  have h8 : (4 * k + 2) * L.length = 4 * (k * L.length) + 2 * L.length := by grind
  omega
 have sbits : ∀ pre : List (Fin L.length), pre.length ≤ L.length → Bq ((4 * k + 2) * L.length + 1) (sm pre) := fun pre hp => by
  refine (Pg.sum_bits (k := 4 * k + 1) _ (fun p hp => ?_)).mono ?_
  · obtain ⟨y, hy, rfl⟩ := List.mem_map.1 hp
    exact ((sel_bits hb y.2).crs (sel_bits hb (Nat.mod_lt _ (by have := y.2; omega)))).mono (by omega)
  · rw [List.length_map]
    exact Nat.add_le_add_right (Nat.mul_le_mul_left _ (by omega)) 1
 refine pf (by kernel_rfl) (.to mo_ [.wk 1] [2, 3, 7] [0, 1] 2 [cl (e_sides L)] (td' := rfI far) (σ' := ⟨arS L, [.bx 28 z4, .bx 28 [bo false, .sl [], bo false, .sl []]]⟩) ?_ (by kernel_rfl))
 refine Gd.range mo_ (fn_of (f := 44) (by kernel_rfl)).1 (k := (rf far).2.2.2.2) (σ := ⟨arS L, _⟩) (gf := 177) (caps := [.ip [dL L]]) (by kernel_rfl) (it_sides (L := L) (by omega)) (fun x => by kernel_rfl)
  (fun pre => arH (sm pre)) (by show arH 0 = _; unfold arH; rw [dR_0]; rfl) (fun pre => ⟨rfl, fun b => ?_⟩) (fun x => arA L x.1) (fun x => by kernel_rfl) (fun pre x => .of [.fz 4, .fz 5] [] (by kernel_rfl)) (fun _ => True) trivial (fun _ _ => False) (fun _ _ h => h.elim) (fun pre x hlt _ => .inl ⟨trivial, ?_⟩) (fun xs hS _ => ?_) (fun _ h => h.elim) (fun _ _ h => h.elim)
 · match b with
   | 0 => rfl
   | 1 => rfl
   | b + 2 => rfl
 · have hx := x.2
   have b1 := sel_bits hb hx
   have b2 := sel_bits hb (Nat.mod_lt (x.1 + 1) (show 0 < L.length by omega))
   have hs : sm (pre ++ [x]) = sm pre + vcrs (L.getD x.1 (0, 0)) (L.getD ((x.1 + 1) % L.length) (0, 0)) := by
    simp only [sm, List.map_append, List.map_cons, List.map_nil, Pg.sum_snoc, Pg.at_]
   show ∃ t', Rn PP 2 _ ⟨arA L x.1, arH (sm pre)⟩ .normal ⟨t', arH (sm (pre ++ [x]))⟩
   rw [hs]
   exact Rn.ofH [] [cl (e_vcrs b1 b2 (by omega)), cl (e_radd (sbits pre (by omega)) (b1.crs b2) (by omega))] (by kernel_rfl)
 · subst hS
   have hA : sm (List.finRange L.length) = Pg.sum vcrs (Pg.sides L) := by simp only [sm]; rw [Pg.at_all L _ rfl]
   have hbt := sbits (List.finRange L.length) (by simp)
   rw [hA] at hbt
   revert hA
   simp only
   generalize sm (List.finRange L.length) = s
   intro hA
   exact area_end s hA hbt (by omega)
end
end Go.Proofs.YtlgnagnmoleeiaaGreat.E
namespace Go.Proofs.YtlgnagnmoleeiaaGreat.E
open Go.RowKit
set_option linter.unusedVariables false
section
variable {L : List (Rat × Rat)} {j k : Nat} {r t : Rat}
theorem e_rdiv (br : Bq j r) (bt : Bq k t) (hk : j + k ≤ 1000000000000) : Pure PP 111 [.ag (dR r), .ag (dR t)] (.ag (dR (r / t))) := by
 by_cases h0 : t.num = 0
 · rw [num_zero.1 h0, Rat.div_def, Rat.inv_zero, Rat.mul_zero, dR_0]
   exact tr [ye (lz_z rfl)] (by kernel_rfl)
 · have hl := e_low (x := (t.den : Int)) (y := t.num) h0 (by rw [Int.gcd_comm]; exact t.reduced)
   have bi := bt.inv h0
   rw [← Rat.inv_def] at hl
   rw [Rat.div_def]
   exact tr [na (lz_nz h0), cl (e_den t), cl hl, cl (e_rmul br bi hk)] (by kernel_rfl)
noncomputable abbrev fce : Func := fnOf PP 47
noncomputable def ceH (v : Rat × Rat) (s : Rat) : List HO := [.bx 58 z8, .bx 58 (dV v), .bx 28 (dR s)]
noncomputable def ceS (L : List (Rat × Rat)) : List V := (at_ fce [(2, .lp 0 0), (3, .lp 1 0), (4, .lp 2 0), (9, .cl 177 [.ip [dL L]])] []).t
noncomputable def ceA (L : List (Rat × Rat)) (i : Nat) : List V := (at_ fce [(2, .lp 0 0), (3, .lp 1 0), (4, .lp 2 0), (5, .ip (dV (L.getD i (0, 0)))), (6, .ip (dV (L.getD ((i + 1) % L.length) (0, 0)))), (9, .cl 177 [.ip [dL L]]), (10, .ag (dV (L.getD i (0, 0)))), (11, .ag (dV (L.getD ((i + 1) % L.length) (0, 0))))] []).t
theorem center_end {j i : Nat} (v : Rat × Rat) (s : Rat) (hv : v = (Pg.sum Pg.fx (Pg.sides L), Pg.sum Pg.fy (Pg.sides L))) (hs : s = Pg.sum vcrs (Pg.sides L)) (bv : Bv j v) (bs : Bq i s) (hj : 10 * (j + i) + 200 ≤ 800000000000) : Gd PP 47 (.ag (dV (Pg.center L))) (rf fce).2.2.2.2 ⟨ceS L, ceH v s⟩ := by
 have hc : Pg.center L = vsca v (Rat.divInt 1 3 / s) := by rw [hv, hs]; rfl
 rw [hc]
 exact fi [cl (e_rof (x := 1) (y := 3) ⟨by decide, by decide⟩ ⟨by decide, by decide⟩), cl (e_rdiv third_bits bs (by omega)), cl (e_vsca bv (third_bits.div bs (by omega)) (by omega))] (by kernel_rfl) (by kernel_rfl)
set_option maxRecDepth 10000 in
theorem e_center (hb : ∀ a ∈ L, Bv k a) (hn : L.length ≤ 100) (hk : k ≤ 10000) : Pure PP 47 [dL L] (.ag (dV (Pg.center L))) := by
 let sf : (Rat × Rat → Rat × Rat → Rat) → List (Fin L.length) → Rat := fun f pre => Pg.sum f (pre.map fun x => Pg.at_ L L.length x.1)
 have b1 : ∀ pre : List (Fin L.length), pre.length ≤ 100 → Bq ((6 * k + 3) * 100 + 1) (sf Pg.fx pre) := fun pre hp => pre_bits (fun a b ha hb => (fx_bits (k := k) ha hb).1) rfl hb pre hp
 have b2 : ∀ pre : List (Fin L.length), pre.length ≤ 100 → Bq ((6 * k + 3) * 100 + 1) (sf Pg.fy pre) := fun pre hp => pre_bits (fun a b ha hb => (fx_bits (k := k) ha hb).2) rfl hb pre hp
 have b3 : ∀ pre : List (Fin L.length), pre.length ≤ 100 → Bq ((4 * k + 2) * 100 + 1) (sf vcrs pre) := fun pre hp => pre_bits (fun a b ha hb => crs_bits (k := k) ha hb) rfl hb pre hp
 have h8 : z8.length = 8 := rfl
 refine pf (by kernel_rfl) (.to mo_ [.wk 1, .wk 2] [2, 3, 4, 9] [0, 1, 2] 3 [cl (e_sides L)] (td' := rfI fce) (σ' := ⟨ceS L, [.bx 58 z8, .bx 58 [bo false, .sl [], bo false, .sl [], bo false, .sl [], bo false, .sl []], .bx 28 [bo false, .sl [], bo false, .sl []]]⟩) ?_ (by kernel_rfl))
 refine Gd.range mo_ (fn_of (f := 47) (by kernel_rfl)).1 (k := (rf fce).2.2.2.2) (σ := ⟨ceS L, _⟩) (gf := 177) (caps := [.ip [dL L]]) (by kernel_rfl) (it_sides (L := L) (by omega)) (fun x => by kernel_rfl)
  (fun pre => ceH (sf Pg.fx pre, sf Pg.fy pre) (sf vcrs pre)) (by show ceH (0, 0) 0 = _; unfold ceH dV; rw [dR_0]; rfl) (fun pre => ⟨rfl, fun b => ?_⟩) (fun x => ceA L x.1) (fun x => by kernel_rfl) (fun pre x => .of [.fz 5, .fz 6] [] (by kernel_rfl)) (fun _ => True) trivial (fun _ _ => False) (fun _ _ h => h.elim) (fun pre x hlt _ => .inl ⟨trivial, ?_⟩) (fun xs hS _ => ?_) (fun _ h => h.elim) (fun _ _ h => h.elim)
 · match b with
   | 0 => rfl
   | 1 => rfl
   | 2 => rfl
   | b + 3 => rfl
 · have hx := x.2
   have c1 := sel_bits hb hx
   have c2 := sel_bits hb (Nat.mod_lt (x.1 + 1) (show 0 < L.length by omega))
   have p1 := b1 pre (by omega)
   have p2 := b2 pre (by omega)
   have p3 := b3 pre (by omega)
   have hs : ∀ f, sf f (pre ++ [x]) = sf f pre + f (L.getD x.1 (0, 0)) (L.getD ((x.1 + 1) % L.length) (0, 0)) := fun f => by
    simp only [sf, List.map_append, List.map_cons, List.map_nil, Pg.sum_snoc, Pg.at_]
   show ∃ t', Rn PP 3 _ ⟨ceA L x.1, ceH (sf Pg.fx pre, sf Pg.fy pre) (sf vcrs pre)⟩ .normal ⟨t', ceH (sf Pg.fx (pre ++ [x]), sf Pg.fy (pre ++ [x])) (sf vcrs (pre ++ [x]))⟩
   rw [hs, hs, hs]
   generalize sf Pg.fx pre = s1 at p1
   generalize sf Pg.fy pre = s2 at p2
   generalize sf vcrs pre = s3 at p3
   generalize L.getD x.1 (0, 0) = A at c1
   generalize L.getD ((x.1 + 1) % L.length) (0, 0) = B at c2
   have c4 := crs_bits c1 c2
   have bs : Bv ((6 * k + 3) * 100 + 1) (s1, s2) := ⟨p1, p2⟩
   rw [show (s1 + Pg.fx A B, s2 + Pg.fy A B) = vadd (s1, s2) (vsca (vadd A B) (vcrs A B)) from rfl]
   exact Rn.ofH [.fz 7] [cl (e_vcrs c1 c2 (by omega)), cl (e_radd p3 c4 (by omega)), cl (e_vadd c1 c2 (by omega)), cl (e_vsca (c1.add c2) c4 (by omega)), cl (e_vadd bs ((c1.add c2).sca c4) (by omega))] (by kernel_rfl)
 · subst hS
   have e1 : ∀ f, sf f (List.finRange L.length) = Pg.sum f (Pg.sides L) := fun f => by simp only [sf]; rw [Pg.at_all L _ rfl]
   have p1 := b1 (List.finRange L.length) (by simpa using hn)
   have p2 := b2 (List.finRange L.length) (by simpa using hn)
   have p3 := b3 (List.finRange L.length) (by simpa using hn)
   have q1 := e1 Pg.fx
   have q2 := e1 Pg.fy
   have q3 := e1 vcrs
   revert q1 q2 q3 p1 p2 p3
   simp only
   generalize sf Pg.fx (List.finRange L.length) = s1
   generalize sf Pg.fy (List.finRange L.length) = s2
   generalize sf vcrs (List.finRange L.length) = s3
   intro p1 p2 p3 q1 q2 q3
   exact center_end (s1, s2) s3 (by rw [q1, q2]) q3 ⟨p1, p2⟩ p3 (by omega)
end
end Go.Proofs.YtlgnagnmoleeiaaGreat.E

