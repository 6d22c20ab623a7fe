/-
 THE WALK of rat.Dot.
-/
import Derived.Test.YtonkbckgbfcnkaaWalkSum
import Derived.Test.YtonkbckgbfcnkaaWalkRMul
import Derived.Deep.LoopGhost
import Derived.Deep.DeepCutAuto
namespace Go.Proofs.Ytonkbckgbfcnkaa
set_option maxHeartbeats 8000000
open Go.RowKit
attribute [local go_sem] run_store_one
set_option linter.unusedVariables false
set_option linter.unusedSimpArgs false
theorem info_rat : (Try.prog.info? 26).map (fun i => (i.zero, i.size, i.bytes)) = some (some (.agg #[.bool false, .slice none 0 0, .bool false, .slice none 0 0]), 4, 64) := by kernel_rfl
/-- The products of two lists of rationals. -/
def mulL (l m : List Rat) : List Rat := List.zipWith (· * ·) l m
/-- These cells are these rationals, four cells each. -/
def RCs (w : World) (xs : List Value) (l : List Rat) : Prop := xs.length = l.length * 4 ∧ ∀ i r, l[i]? = some r → ∃ a0 a1 a2 a3, xs[i * 4]? = some a0 ∧ xs[i * 4 + 1]? = some a1 ∧ xs[i * 4 + 2]? = some a2 ∧ xs[i * 4 + 3]? = some a3 ∧ RatV w a0 a1 a2 a3 r
theorem RCs.nil (w : World) : RCs w [] [] := ⟨rfl, fun i r h => by simp at h⟩
theorem RCs.kp {w w' : World} {xs : List Value} {l : List Rat} (h : RCs w xs l) (k : Kp w w') : RCs w' xs l :=
 ⟨h.1, fun i r hr => by obtain ⟨a0, a1, a2, a3, h0, h1, h2, h3, hR⟩ := h.2 i r hr; exact ⟨a0, a1, a2, a3, h0, h1, h2, h3, hR.kp k⟩⟩
theorem RCs.snoc {w : World} {xs : List Value} {l : List Rat} {a0 a1 a2 a3 : Value} {r : Rat} (h : RCs w xs l) (hr : RatV w a0 a1 a2 a3 r) : RCs w (xs ++ [a0, a1, a2, a3]) (l ++ [r]) := by
 refine ⟨by simp [h.1]; omega, fun i q hq => ?_⟩
 by_cases hi : i < l.length
 ·rw [List.getElem?_append_left hi] at hq
  obtain ⟨b0, b1, b2, b3, h0, h1, h2, h3, hR⟩ := h.2 i q hq
  have hx := h.1
  refine ⟨b0, b1, b2, b3, ?_, ?_, ?_, ?_, hR⟩ <;> (rw [List.getElem?_append_left (by omega)]; assumption)
 ·have hx := h.1
  have hi2 : i = l.length := by
   have := (List.getElem?_eq_some_iff.1 hq).1
   simp at this; omega
  subst hi2
  simp at hq
  subst hq
  refine ⟨a0, a1, a2, a3, ?_, ?_, ?_, ?_, hr⟩ <;> (rw [List.getElem?_append_right (by omega)]; rw [hx])
  ·simp
  ·rw [show l.length * 4 + 1 - l.length * 4 = 1 by omega]; rfl
  ·rw [show l.length * 4 + 2 - l.length * 4 = 2 by omega]; rfl
  ·rw [show l.length * 4 + 3 - l.length * 4 = 3 by omega]; rfl
theorem RCs.rl {w : World} {xs : List Value} {l : List Rat} {v : Value} {base : Nat} (h : RCs w xs l) (ho : w.ownsRow base 26 4 v l.length xs) : RL w v l := by
 obtain ⟨hx, ho⟩ := ho
 rcases ho with ⟨rfl, hn⟩ | ⟨g, cap, cur, rfl, hb, hg, hc, hm, hs, ht⟩
 ·have : l = [] := List.eq_nil_of_length_eq_zero hn
  subst this
  exact ⟨none, 0, 0, rfl, rfl, Nat.le_refl _, by decide, fun i r hr => by simp at hr⟩
 ·refine ⟨_, _, _, rfl, rfl, hc, hm, fun i r hr => ?_⟩
  obtain ⟨a0, a1, a2, a3, h0, h1, h2, h3, hR⟩ := h.2 i r hr
  have hlt := (Array.getElem?_eq_some_iff.1 hg).1
  have cell : ∀ j u, xs[j]? = some u → w.cell? ⟨g, 0 + j, none⟩ = some u := by
   intro j u hu
   rw [Nat.zero_add, cell_of_row w g j _ _ _ hg]
   rw [← ht] at hu
   have hj := (List.getElem?_eq_some_iff.1 hu).1
   simp at hj
   rw [List.getElem?_take_of_lt (by omega)] at hu
   simpa using hu
  refine ⟨g, 0, a0, a1, a2, a3, rfl, hlt, cell _ _ h0, ?_, ?_, ?_, hR⟩
  ·rw [Nat.add_assoc]; exact cell _ _ h1
  ·rw [Nat.add_assoc]; exact cell _ _ h2
  ·rw [Nat.add_assoc]; exact cell _ _ h3
theorem mulL_take {l m : List Rat} {i : Nat} {r t : Rat} (hr : l[i]? = some r) (ht : m[i]? = some t) : (mulL l m).take (i + 1) = (mulL l m).take i ++ [r * t] := by
 have h1 := List.getElem?_eq_some_iff.1 hr
 have h2 := List.getElem?_eq_some_iff.1 ht
 have h : (mulL l m)[i]? = some (r * t) := by simp [mulL, List.getElem?_zipWith, hr, ht]
 have h3 := List.getElem?_eq_some_iff.1 h
 rw [List.take_succ_eq_append_getElem h3.1, h3.2]
/-- A new row of one rational. -/
def SZ (r : Rat) : Sp := fun w v => ∃ g z0 z1 z2 z3, v = .slice (some ⟨g, 0, none⟩) 1 1 ∧ Bx w g 26 [z0, z1, z2, z3] ∧ RatV w z0 z1 z2 z3 r
theorem SZ.mono (r : Rat) : Mono (SZ r) := fun _ _ _ ⟨g, z0, z1, z2, z3, h1, h2, h3⟩ hb => ⟨g, z0, z1, z2, z3, h1, h2.below hb, h3.below hb⟩
theorem Does.oneR {P : Program} {o : Oper} {a : Act} {wx : World} {a0 a1 a2 a3 : Value} {r : Rat} (hr : (execOp a.eval o).run P wx = .ok (.value (.slice (some ⟨wx.heap.size, 0, none⟩) 1 1)) (wx.alloc (.cells #[a0, a1, a2, a3] 26)))
  (h1 : RatV wx a0 a1 a2 a3 r) : Does P o (SZ r) false a wx :=
 .inl ⟨_, _, hr, (Below.refl _ _).alloc (Nat.le_refl _) _, ⟨_, a0, a1, a2, a3, rfl, Bx.new wx _ _, h1.below ((Below.refl _ _).alloc (Nat.le_refl _) _)⟩, fun h => by cases h⟩
theorem kp_grown {w w' : World} {base n : Nat} {v : Value} {xs : List Value} (ho : w.ownsRow base 26 4 v n xs) (hg : w.grownBy w' v.ownBlock) : Kp w w' := by
 refine ⟨hg.size, fun b cs fr e => ?_⟩
 have hlt := (Array.getElem?_eq_some_iff.1 e).1
 rw [hg.block b hlt ?_]
 ·exact e
 ·intro hb
  rcases ho.2 with ⟨rfl, _⟩ | ⟨g, cap, cur, rfl, _, hg2, _⟩
  ·simp [Value.ownBlock] at hb
  ·simp [Value.ownBlock] at hb
   subst hb
   rw [hg2] at e
   injection e with e
   injection e with _ e2
   exact absurd e2 (by decide)
theorem bx_grown {w w' : World} {base n g T : Nat} {v : Value} {xs l : List Value} (hx : Bx w g T l) (ho : w.ownsRow base 26 4 v n xs) (hg : w.grownBy w' v.ownBlock) (hn : g < base) : Bx w' g T l := by
 refine (hg.block g hx.lt ?_).trans hx
 intro hb
 rcases ho.2 with ⟨rfl, _⟩ | ⟨g2, cap, cur, rfl, h2, _⟩
 ·simp [Value.ownBlock] at hb
 ·simp [Value.ownBlock] at hb
  omega
theorem own_from {w : World} {base n k : Nat} {v : Value} {xs : List Value} (ho : w.ownsRow base 26 4 v n xs) (hk : v.ownBlock = some k) : base ≤ k := by
 rcases ho.2 with ⟨rfl, _⟩ | ⟨g2, cap, cur, rfl, h2, _⟩
 ·simp [Value.ownBlock] at hk
 ·simp [Value.ownBlock] at hk
  omega
set_option maxRecDepth 100000 in
theorem rdot_any (j k : Nat) (va vb : Value) (l m : List Rat) (w : World) (ha : RL w va l) (hb : RL w vb m) (hlm : l.length = m.length) (hs : l.length ≤ 1000)
  (ba : ∀ (i : Nat) (r : Rat), l[i]? = some r → Bq j r) (bb : ∀ (i : Nat) (r : Rat), m[i]? = some r → Bq k r) (hk : 10 * (j + k) + 100 ≤ 100000000) :
  Calls Try.prog 40 #[va, vb] w (RR (rsum (mulL l m)) w) := by
 obtain ⟨A, n, c, rfl, rfl, hnc, hcm, hca⟩ := ha
 obtain ⟨B, n2, c2, rfl, rfl, hnc2, hcm2, hcb⟩ := hb
 have hl0 : RL w (.slice A l.length c) l := ⟨A, _, c, rfl, rfl, hnc, hcm, hca⟩
 have hm0 : RL w (.slice B m.length c2) m := ⟨B, _, c2, rfl, rfl, hnc2, hcm2, hcb⟩
 have HLA := Lib.hid hl0; have HLB := Lib.hid hm0; have HBA := Lib.hid ba; have HBB := Lib.hid bb
 clear hl0 hm0 hca hcb ba bb
 unfold maxLen at hcm hcm2
 obtain ⟨i0, hi, hz0, hz1, hz2⟩ := info_parts info_rat
 have hmin : min (l.length : Int) (m.length : Int) = l.length := by omega
 have hmul : (mulL l m).length = l.length := by simp [mulL]; omega
 have HLM := Lib.hid hlm; clear hlm
 go_enter Try.func40, Try.ntmps40
 go_wp2_with fail
 go_loopg [5, 12] (l.length + 1) (fun gk s5 s12 wr => ∃ (i : Nat) (xs : List Value) (sv : Value), i + gk = l.length + 1 ∧ s12 = .int .i64 i ∧ i ≤ l.length ∧ s5 = sv ∧ Hid (wr.ownsRow (w.heap.size + 1) 26 4 sv i xs) ∧ Hid (RCs wr xs ((mulL l m).take i)) ∧ Bx wr w.heap.size 26 [.bool false, .slice none 0 0, .bool false, .slice none 0 0] ∧ Hid (Below w.heap.size w wr))
 case atStart =>
  refine ⟨0, [], _, by omega, rfl, by omega, rfl, Lib.hid (World.ownsRow_nil _ _ _ _), Lib.hid (RCs.nil _), Bx.at_ rfl, Lib.hid ((Below.refl _ _).alloc (Nat.le_refl _) _)⟩
 case round =>
  obtain ⟨i, xs, sv, hig, rfl, hil, rfl, HOWN, HRC, hx4, HBW⟩ := hrel
  obtain ⟨wo, rfl⟩ : ∃ wo : World, wo = wr := ⟨_, rfl⟩
  have HIG := Lib.hid hig; clear hig
  by_cases hlt : i < l.length
  ·skip
   obtain ⟨r, hr⟩ : ∃ r, l[i]? = some r := ⟨_, List.getElem?_eq_getElem hlt⟩
   obtain ⟨t, ht⟩ : ∃ t, m[i]? = some t := ⟨_, List.getElem?_eq_getElem (HLM.out ▸ hlt)⟩
   obtain ⟨_, n_, c_, hv, _, _, _, hcell⟩ := HLA.out.below HBW.out
   injection hv with hv1 hv2 hv3
   subst hv1
   obtain ⟨ba, oa, x0, x1, x2, x3, rfl, hbla, qa0, qa1, qa2, qa3, hRA⟩ := hcell i r hr
   clear hcell hv2 hv3
   obtain ⟨_, n_, c_, hv, _, _, _, hcell⟩ := HLB.out.below HBW.out
   injection hv with hv1 hv2 hv3
   subst hv1
   obtain ⟨bb, ob, y0, y1, y2, y3, rfl, hblb, qb0, qb1, qb2, qb3, hRB⟩ := hcell i t ht
   clear hcell hv2 hv3
   have hid_ := decide_eq_true hlt
   have HRA := Lib.hid hRA; have HRB := Lib.hid hRB; have HR := Lib.hid hr; have HT := Lib.hid ht
   clear hRA hRB hr ht
   have himb : i < m.length := HLM.out ▸ hlt
   have hidb_ := decide_eq_true himb
   have hia : (i : Int) < (l.length : Int) := by omega
   have hib : (i : Int) < (m.length : Int) := by omega
   go_upto_region 5 with fail
   go_upto_region 5 with fail
   generalize hW : wo.drew = W501
   have hB : Below wo.heap.size wo W501 := by rw [← hW]; exact (Below.refl _ _).drew
   have HS502 := Lib.hid hB
   have k9 := Lib.hid (Blw HBW.out hB)
   clear hB
   have ka := Lib.hid (HRA.out.kp (.of HS502.out))
   have kb := Lib.hid (HRB.out.kp (.of HS502.out))
   generalize hF : ({ tmps := _, defers := _ } : Act) = F
   have ev0 : F.eval (.tmp 0) = .slice (some ⟨ba, oa, none⟩) l.length c := by rw [← hF]; rfl
   have ev1 : F.eval (.tmp 1) = .slice (some ⟨bb, ob, none⟩) m.length c2 := by rw [← hF]; rfl
   have ev5 : F.eval (.tmp 5) = u5 := by rw [← hF]; rfl
   have ev6 : F.eval (.tmp 6) = .int .i64 (i : Int) := by rw [← hF]; rfl
   have HF := Lib.hid hF; clear hF
   refine wp_flow_tab true hW 11 [(15, []), (16, []), (17, []), (18, [1, 2]), (19, [3]), (20, []), (21, []), (22, [5, 6]), (23, [7]), (24, [4, 8]), (25, [9])] [SC (u5), SC (.slice (some ⟨ba, oa, none⟩) l.length c), SC (.int .i64 (i : Int)), SC (.pointer (some ⟨ba, oa + i * 4, none⟩)), SC (.agg #[x0, x1, x2, x3]), SC (.slice (some ⟨bb, ob, none⟩) m.length c2), SC (.int .i64 (i : Int)), SC (.pointer (some ⟨bb, ob + i * 4, none⟩)), SC (.agg #[y0, y1, y2, y3]), SR (r * t), SZ (r * t)] [false, false, false, false, false, false, false, false, false, false, false] (by kernel_rfl) (by kernel_rfl) (by kernel_rfl) (by kernel_rfl) (by kernel_rfl) (by rw [← HF.out]; simp) ⟨SC.mono _, SC.mono _, SC.mono _, SC.mono _, SC.mono _, SC.mono _, SC.mono _, SC.mono _, SC.mono _, SR.mono _, SZ.mono _, trivial⟩ ?_ ?_
   ·intro kq hkq a wx hB hp hs
    have hcase : kq = 0 ∨ kq = 1 ∨ kq = 2 ∨ kq = 3 ∨ kq = 4 ∨ kq = 5 ∨ kq = 6 ∨ kq = 7 ∨ kq = 8 ∨ kq = 9 ∨ kq = 10 := by omega
    rcases hcase with rfl | rfl | rfl | rfl | rfl | rfl | rfl | rfl | rfl | rfl | rfl
    ·clear hp
     have b5 := (hs 5 rfl).trans ev5
     simp [Act.eval] at b5
     exact ⟨_, rfl, Does.val (by simp [execOp, Act.eval, b5, go_sem]) rfl⟩
    ·clear hp
     have b0 := (hs 0 rfl).trans ev0
     simp [Act.eval] at b0
     exact ⟨_, rfl, Does.val (by simp [execOp, Act.eval, b0, go_sem]) rfl⟩
    ·clear hp
     have b6 := (hs 6 rfl).trans ev6
     simp [Act.eval] at b6
     exact ⟨_, rfl, Does.val (by simp [execOp, Act.eval, b6, go_sem]) rfl⟩
    ·obtain ⟨k0, k1, -⟩ := hp
     have e0 : a.eval (.tmp 16) = .slice (some ⟨ba, oa, none⟩) l.length c := k0
     have e1 : a.eval (.tmp 17) = .int .i64 (i : Int) := k1
     simp [Act.eval] at e0
     simp [Act.eval] at e1
     exact ⟨_, rfl, Does.val (by simp [execOp, Act.eval, e0, e1, go_sem, hid_, hidb_, hia, hib]) rfl⟩
    ·obtain ⟨k0, -⟩ := hp
     have e0 : a.eval (.tmp 18) = .pointer (some ⟨ba, oa + i * 4, none⟩) := k0
     simp [Act.eval] at e0
     have c0 := kc qa0 (Blw HS502.out hB) hbla
     have c1 := kc qa1 (Blw HS502.out hB) hbla
     have c2 := kc qa2 (Blw HS502.out hB) hbla
     have c3 := kc qa3 (Blw HS502.out hB) hbla
     exact ⟨_, rfl, Does.val (by simp [execOp, Act.eval, e0, go_sem, c0, c1, c2, c3]) rfl⟩
    ·clear hp
     have b1 := (hs 1 rfl).trans ev1
     simp [Act.eval] at b1
     exact ⟨_, rfl, Does.val (by simp [execOp, Act.eval, b1, go_sem]) rfl⟩
    ·clear hp
     have b6 := (hs 6 rfl).trans ev6
     simp [Act.eval] at b6
     exact ⟨_, rfl, Does.val (by simp [execOp, Act.eval, b6, go_sem]) rfl⟩
    ·obtain ⟨k0, k1, -⟩ := hp
     have e0 : a.eval (.tmp 20) = .slice (some ⟨bb, ob, none⟩) m.length c2 := k0
     have e1 : a.eval (.tmp 21) = .int .i64 (i : Int) := k1
     simp [Act.eval] at e0
     simp [Act.eval] at e1
     exact ⟨_, rfl, Does.val (by simp [execOp, Act.eval, e0, e1, go_sem, hid_, hidb_, hia, hib]) rfl⟩
    ·obtain ⟨k0, -⟩ := hp
     have e0 : a.eval (.tmp 22) = .pointer (some ⟨bb, ob + i * 4, none⟩) := k0
     simp [Act.eval] at e0
     have c0 := kc qb0 (Blw HS502.out hB) hblb
     have c1 := kc qb1 (Blw HS502.out hB) hblb
     have c2 := kc qb2 (Blw HS502.out hB) hblb
     have c3 := kc qb3 (Blw HS502.out hB) hblb
     exact ⟨_, rfl, Does.val (by simp [execOp, Act.eval, e0, go_sem, c0, c1, c2, c3]) rfl⟩
    ·obtain ⟨k0, k1, -⟩ := hp
     exact ⟨_, rfl, Does.rr (f := 47) (call2 rfl (fun _ => by simp [go_sem]) k0 k1) (rmul_any (j) (k) x0 x1 x2 x3 y0 y1 y2 y3 (r) (t) wx (ka.out.kp (.of hB)) (kb.out.kp (.of hB)) (HBA.out _ _ HR.out) (HBB.out _ _ HT.out) (by omega))⟩
    ·obtain ⟨k0, -⟩ := hp
     obtain ⟨z0, z1, z2, z3, e0, h_z⟩ := k0
     replace e0 : a.eval (.tmp 24) = .agg #[z0, z1, z2, z3] := e0
     simp [Act.eval] at e0
     exact ⟨_, rfl, Does.oneR (by simp [execOp, Act.eval, e0, go_sem]) h_z⟩
   ·intro val wx hB hsp hdis
    have e0 : val 0 = u5 := hsp 0 (by omega)
    obtain ⟨gz, z0, z1, z2, z3, e10, hx_gz, h_gz⟩ := hsp 10 (by omega)
    replace e10 : val 10 = .slice (some ⟨gz, 0, none⟩) 1 1 := e10
    rw [← HF.out]
    change wpList _ _ _ [_, _] _ _
    simp only [puts, vals, List.map_cons, List.map_nil, List.foldl_cons, List.foldl_nil, if_true, Nat.zero_add, Nat.reduceAdd, e0, e10, List.setIfInBounds_toArray, List.set_cons_succ, List.set_cons_zero]
    clear hsp hdis HF e0 e10
    clear ev0 ev1 ev5 ev6
    obtain ⟨w507, rfl⟩ : ∃ W : World, W = wx := ⟨_, rfl⟩
    have HS508 := Lib.hid hB
    have kd := Lib.hid (Blw k9.out hB)
    clear hB
    have hBT := Blw HS502.out HS508.out
    have HRZ := Lib.hid h_gz; have HBT := Lib.hid hBT; have HXZ := Lib.hid hx_gz
    have hbase := hx4.lt
    have hsz2 := hBT.size
    have HX4 := Lib.hid (hx4.below hBT); have HOW2 := Lib.hid (own_below HOWN.out hBT)
    clear h_gz hBT hx_gz hx4 qa0 qa1 qa2 qa3 qb0 qb1 qb2 qb3
    refine wpList_append_own _ rfl (.tmp 15) (.tmp 25) _ rfl (w.heap.size + 1) 26 i0 _ 4 64 Try.underlying53 hi hz0 hz1 hz2 rfl (by decide) _ _ _ rfl HOW2.out ⟨gz, 0, none⟩ 1 1 [z0, z1, z2, z3] rfl rfl (fun j u hu => by rcases j with _ | j; exact HXZ.out.cell hu; simpa [Addr.add] using HXZ.out.cell hu) (fun u hu => by simp at hu; rcases hu with rfl | rfl | rfl | rfl; exact HRZ.out.one0; exact HRZ.out.one1; exact HRZ.out.one2; exact HRZ.out.one3) (by unfold maxLen; omega) (by omega) (by omega) ?_
    intro v' w3 hown3 hgrow _
    have HBL := Lib.hid ((kd.out).grown hgrow (by omega) (fun k hk => by have := own_from HOW2.out hk; omega))
    have HRC3 := Lib.hid (((HRC.out.kp (.of HBT.out)).snoc HRZ.out).kp (kp_grown HOW2.out hgrow))
    have hx4' := bx_grown HX4.out HOW2.out hgrow (by omega)
    have HOWN3 := Lib.hid hown3
    clear hgrow hown3
    go_wp2
    go_roundg (l.length + 1 - (i + 1))
    case measure => have := HIG.out; omega
    case rel =>
     refine ⟨i + 1, _, v', by have := HIG.out; omega, by go_num, by omega, rfl, HOWN3, Lib.hid ?_, hx4', HBL⟩
     rw [mulL_take HR.out HT.out]
     exact HRC3.out
  ·have hid_ := decide_eq_false hlt
   obtain rfl : i = l.length := by omega
   have hall : (mulL l m).take l.length = mulL l m := by rw [← hmul]; exact List.take_length
   have hrc := HRC.out
   rw [hall] at hrc
   have hown := HOWN.out
   rw [← hmul] at hown
   have HRLq := Lib.hid (hrc.rl hown)
   clear hrc hown
   go_wp2_with fail
   have hbits : ∀ (i : Nat) (r : Rat), (mulL l m)[i]? = some r → Bq (j + k) r := by
    intro i r h
    simp only [mulL, List.getElem?_zipWith] at h
    split at h
    ·rename_i x y e1 e2
     injection h with h
     subst h
     exact (HBA.out _ _ e1).mul (HBB.out _ _ e2)
    ·cases h
   have hnum : ((mulL l m).length + 1) * (j + k + 1) + 1 ≤ 1000000000000 := by
    rw [hmul]
    have := Nat.mul_le_mul (show l.length + 1 ≤ 1001 by omega) (show j + k + 1 ≤ 100000000 by omega)
    omega
   obtain ⟨kl, km, kn, ko, kr, ks⟩ := hx4.f4
   have k8 := rsum_any (j + k) u5 (mulL l m) wo HRLq.out hbits hnum
   (with_reducible refine k8.mono ?_)
   clear k8
   rintro e w907 ⟨e0, e1, e2, e3, rfl, k2, k3⟩
   obtain ⟨ke, kf, kg, kh, ki, kt, ku⟩ := hx4.b4 k3
   have kj := Lib.hid (Blw HBW.out k3)
   have kk := Lib.hid k2
   obtain ⟨o_e0, o_e1, o_e2, o_e3⟩ := k2.ones
   clear k2 k3
   go_wp2
   have hkp := (Kp.refl w907).t4 ke e0 e1 e2 e3
   refine bodyPost_ret (v := .agg #[e0, e1, e2, e3]) (by simp [results, Try.results40, go_sem, kf, kg, kh, ki]) rfl ⟨_, _, _, _, rfl, ?_, bel4 (kj.out) (by first | simp | omega)⟩
   exact kk.out.kp hkp
end Go.Proofs.Ytonkbckgbfcnkaa
