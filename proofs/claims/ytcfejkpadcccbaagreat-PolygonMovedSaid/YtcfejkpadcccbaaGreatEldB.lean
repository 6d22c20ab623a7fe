/-
 THE ELDER WALKS of the functions that range over sides, and of polygon.Valid, on contracts out of the engine (copied by a program from PgN, WalkPgM, WalkPgN, WalkPgH).
-/
import Derived.Test.YtcfejkpadcccbaaGreatEnO
import Derived.Test.YtcfejkpadcccbaaGreatPgZ
import Derived.Test.YtcfejkpadcccbaaGreatWalkPgK
namespace Go.Proofs.YtcfejkpadcccbaaGreat
set_option maxHeartbeats 4000000
open Go.RowKit
section
attribute [local go_sem] Oper.semAt_some
attribute [local go_sem] run_store_one
set_option linter.unusedVariables false
set_option maxRecDepth 100000 in
theorem area_anyB (k : Nat) (A : Option Addr) (n c : Nat) (cs : Nat → Nat → Value) (L : List (Rat × Rat)) (w : World) (h : PV w w.heap.size A n c cs L) (hb : ∀ a ∈ L, Bv k a) (hk : (20 * k + 100) * (n + 2) ≤ 800000000000) :
    Calls Tryz.prog 24 #[.slice A n c] w (RR (Pg.area L) w) := by
  refine (callsIn_wide (n := 6)).1 ?_
  refine callsIn_of_wp_marks Tryz.func24 rfl trivial ?_ rfl
  simp only [Tryz.ntmps24, List.size_toArray, List.length_cons, List.length_nil, Nat.reduceAdd, Nat.reduceSub, Array.replicate_succ, Array.replicate_zero, List.push_toArray, List.append_toArray, List.nil_append, List.cons_append]
  have HP := Lib.hid h; have HBV := Lib.hid hb
  clear h hb
  gi_wp2_with (refine ⟨trivial, ?_⟩; gi_at_call 65; refine (sides_in Fence.wide WideF.wide rfl _ A n c _).mono ?_; rintro e w' ⟨rfl, rfl⟩)
  generalize hW0 : ((w.alloc (.cells _ 33)).alloc (.cells _ 33)).alloc (.cells _ 23) = W0
  obtain ⟨hxr, hxs, hxb, k6⟩ := box3 hW0
  have hsz : W0.heap.size = w.heap.size + 3 := by rw [← hW0]; simp
  obtain ⟨gr, hgr⟩ : ∃ g, g = w.heap.size := ⟨_, rfl⟩
  obtain ⟨gs, hgs⟩ : ∃ g, g = w.heap.size + 1 := ⟨_, rfl⟩
  obtain ⟨Bs, hBs⟩ : ∃ g, g = w.heap.size + 1 + 1 := ⟨_, rfl⟩
  have HP0 : PV W0 w.heap.size A n c cs L := HP.out.below k6
  have HSZ := Lib.hid hsz; have HGR := Lib.hid hgr; have HGS := Lib.hid hgs; have HBS := Lib.hid hBs
  have hsn : n ≤ 1000 := HP.out.small
  rw [← hBs] at hxb ⊢
  rw [← hgs] at hxs ⊢
  rw [← hgr] at hxr ⊢
  have hz : RatV W0 (.bool false) (.slice none 0 0) (.bool false) (.slice none 0 0) 0 := RatV.zero _
  clear hW0 hgr hgs hBs
  refine wpIn_rangeFunc_ownH rfl (by omega) (gf := 104) (lb := #[.pointer (some ⟨Bs, 0, none⟩)]) rfl trivial (enters_of Tryz.func104 (by kernel_rfl) rfl)
    (sides_stops 5 (by omega) Bs w.heap.size A n c cs L W0 (by omega) hxb HP0) K2.trans (K2.put (w := W0) (by omega)) (Below.refl _ _) (fun _ => rfl)
    (fun pre W => ((∃ q0 q1 q2 q3, Bx W gs 33 [q0, q1, q2, q3] ∧ RatV W q0 q1 q2 q3 (Pg.sum vcrs (pre.map fun x => Pg.at_ L n x.1))) ∧ Bx W gr 33 [.bool false, .slice none 0 0, .bool false, .slice none 0 0]) ∧ Below w.heap.size w W)
    (fun _ _ _ => False)
    (OwnFrom.and (fun s X Y row hs hg hr => by obtain ⟨⟨q0, q1, q2, q3, h1, h2⟩, h3⟩ := hs; exact ⟨⟨q0, q1, q2, q3, bx_turn h1 hg hr, h2.kp (kp_turn hg hr)⟩, bx_turn h3 hg hr⟩) (ownFrom_below (Nat.le_refl _) (by omega)))
    (fun _ _ _ _ _ hs _ _ => hs)
    ⟨⟨⟨_, _, _, _, hxs, hz⟩, hxr⟩, k6⟩
    (fun x a' W => ∃ ga gb, Bx W ga 35 [cs x.1 0, cs x.1 1, cs x.1 2, cs x.1 3, cs x.1 4, cs x.1 5, cs x.1 6, cs x.1 7] ∧ Bx W gb 35 [cs ((x.1 + 1) % n) 0, cs ((x.1 + 1) % n) 1, cs ((x.1 + 1) % n) 2, cs ((x.1 + 1) % n) 3, cs ((x.1 + 1) % n) 4, cs ((x.1 + 1) % n) 5, cs ((x.1 + 1) % n) 6, cs ((x.1 + 1) % n) 7] ∧ a' = { tmps := #[.slice A n c, undef, .pointer (some ⟨gr, 0, none⟩), .pointer (some ⟨gs, 0, none⟩), .pointer (some ⟨ga, 0, none⟩), .pointer (some ⟨gb, 0, none⟩), .slice A n c, .func (.func 104) #[] #[.pointer (some ⟨Bs, 0, none⟩)], Pg.ag cs x.1, Pg.ag cs ((x.1 + 1) % n), undef, undef, undef, undef, undef, undef, undef, undef], defers := [] })
    (fun x a' _ X Y row hs hg hr => by obtain ⟨ga, gb, h2, h3, h4⟩ := hs; exact ⟨ga, gb, bx_turn h2 hg hr, bx_turn h3 hg hr, h4⟩)
    ?assign ?body ?done ?stop
  case assign =>
    rintro l pre x W K ⟨⟨⟨q0, q1, q2, q3, h1, h2⟩, h3⟩, hB⟩ hK
    have hone := HP.out.one
    have o0 := hone x.1 0; have o1 := hone x.1 1; have o2 := hone x.1 2; have o3 := hone x.1 3; have o4 := hone x.1 4; have o5 := hone x.1 5; have o6 := hone x.1 6; have o7 := hone x.1 7
    have p0 := hone ((x.1 + 1) % n) 0; have p1 := hone ((x.1 + 1) % n) 1; have p2 := hone ((x.1 + 1) % n) 2; have p3 := hone ((x.1 + 1) % n) 3; have p4 := hone ((x.1 + 1) % n) 4; have p5 := hone ((x.1 + 1) % n) 5; have p6 := hone ((x.1 + 1) % n) 6; have p7 := hone ((x.1 + 1) % n) 7
    obtain ⟨i, hi⟩ := x
    obtain ⟨m, hm⟩ : ∃ m, m = (i + 1) % n := ⟨_, rfl⟩
    simp only [← hm, Pg.ag] at *
    have HK := Lib.hid hK
    clear hK hone
    gi_wp2
    generalize hW2 : (W.alloc (.cells _ 35)).alloc (.cells _ 35) = W2
    have hko : KeepsOthers W W2 := by rw [← hW2]; exact (KeepsOthers.alloc _ _).trans (KeepsOthers.alloc _ _)
    obtain ⟨hxa, hxb2, k1⟩ := box2 hW2
    exact HK.out _ _ (hko.from _) ⟨k1.mono hB.size, fun cs T fr e => (k1.block Bs (Array.getElem?_eq_some_iff.1 e).1).trans e⟩ ⟨⟨⟨q0, q1, q2, q3, h1.below k1, h2.below k1⟩, h3.below k1⟩, Blw hB k1⟩ ⟨_, _, hxa, hxb2, rfl⟩
  case body =>
    rintro l pre x a' W hl ⟨r, hr⟩ ⟨⟨⟨q0, q1, q2, q3, h1, h2⟩, h3⟩, hB⟩ ⟨ga, gb, hxa, hxb2, rfl⟩ hlt
    have hone := HP.out.one
    obtain ⟨i, hi⟩ := x
    obtain ⟨m, hm⟩ : ∃ m, m = (i + 1) % n := ⟨_, rfl⟩
    have hmn : m < n := by rw [hm]; exact Nat.mod_lt _ (by omega)
    have hla : L[i]? = some (L.getD i (0, 0)) := by
      have := HP.out.len
      simp [List.getElem?_eq_getElem (show i < L.length by omega), List.getD_eq_getElem?_getD]
    have hlb : L[m]? = some (L.getD m (0, 0)) := by
      have := HP.out.len
      simp [List.getElem?_eq_getElem (show m < L.length by omega), List.getD_eq_getElem?_getD]
    obtain ⟨va, hva⟩ : ∃ v, v = L.getD i (0, 0) := ⟨_, rfl⟩
    obtain ⟨vb, hvb⟩ : ∃ v, v = L.getD m (0, 0) := ⟨_, rfl⟩
    rw [← hva] at hla
    rw [← hvb] at hlb
    obtain ⟨s, hs⟩ : ∃ s, s = Pg.sum vcrs (pre.map fun x => Pg.at_ L n x.1) := ⟨_, rfl⟩
    have hsum : Pg.sum vcrs ((pre ++ [(⟨i, hi⟩ : Fin n)]).map fun x => Pg.at_ L n x.1) = s + vcrs va vb := by
      rw [List.map_append, List.map_cons, List.map_nil, Pg.sum_snoc, ← hs]
      unfold Pg.at_
      rw [hva, hvb, hm]
    have hbits : Bq ((4 * k + 2) * n + 1) s := by
      rw [hs]
      refine (Pg.sum_bits (k := 4 * k + 1) _ (fun p hp => ?_)).mono ?_
      · obtain ⟨y, hy, rfl⟩ := List.mem_map.1 hp
        have hL := HP.out.len
        have h1 : ∀ j, j < n → L.getD j (0, 0) ∈ L := fun j hj => by
          rw [List.getD_eq_getElem?_getD, List.getElem?_eq_getElem (by omega)]
          exact List.getElem_mem _
        exact ((HBV.out _ (h1 y.1 y.2)).crs (HBV.out _ (h1 _ (Nat.mod_lt _ (by omega))))).mono (by omega)
      · rw [List.length_map]
        exact Nat.add_le_add_right (Nat.mul_le_mul_left _ (by omega)) 1
    rw [← hs] at h2
    have hba := HBV.out va (List.mem_of_getElem? hla)
    have hbb := HBV.out vb (List.mem_of_getElem? hlb)
    have HVA := Lib.hid ((HP.out.v i va hla).below hB); have HVB := Lib.hid ((HP.out.v m vb hlb).below hB)
    have HBA := Lib.hid hba; have HBB := Lib.hid hbb; have HSB := Lib.hid hbits; have HR2 := Lib.hid h2; have HX1 := Lib.hid h1; have HX3 := Lib.hid h3; have HXA := Lib.hid hxa; have k2 := Lib.hid hB
    have HSM := Lib.hid hsum
    have HQ := Lib.hid (show ∀ wx, Below W.heap.size W wx → wx.cell? ⟨gs, 0, none⟩ = some q0 ∧ wx.cell? ⟨gs, 1, none⟩ = some q1 ∧ wx.cell? ⟨gs, 2, none⟩ = some q2 ∧ wx.cell? ⟨gs, 3, none⟩ = some q3 from fun wx h => by
      have hx := h1.below h
      exact ⟨hx.cell rfl, hx.cell rfl, hx.cell rfl, hx.cell rfl⟩)
    rw [← hm] at hxb2
    have HA := Lib.hid (show ∀ wx, Below W.heap.size W wx → wx.cell? ⟨ga, 0, none⟩ = some (cs i 0) ∧ wx.cell? ⟨ga, 1, none⟩ = some (cs i 1) ∧ wx.cell? ⟨ga, 2, none⟩ = some (cs i 2) ∧ wx.cell? ⟨ga, 3, none⟩ = some (cs i 3) ∧ wx.cell? ⟨ga, 4, none⟩ = some (cs i 4) ∧ wx.cell? ⟨ga, 5, none⟩ = some (cs i 5) ∧ wx.cell? ⟨ga, 6, none⟩ = some (cs i 6) ∧ wx.cell? ⟨ga, 7, none⟩ = some (cs i 7) from fun wx h => by
      have hx := hxa.below h
      exact ⟨hx.cell rfl, hx.cell rfl, hx.cell rfl, hx.cell rfl, hx.cell rfl, hx.cell rfl, hx.cell rfl, hx.cell rfl⟩)
    have HB_ := Lib.hid (show ∀ wx, Below W.heap.size W wx → wx.cell? ⟨gb, 0, none⟩ = some (cs m 0) ∧ wx.cell? ⟨gb, 1, none⟩ = some (cs m 1) ∧ wx.cell? ⟨gb, 2, none⟩ = some (cs m 2) ∧ wx.cell? ⟨gb, 3, none⟩ = some (cs m 3) ∧ wx.cell? ⟨gb, 4, none⟩ = some (cs m 4) ∧ wx.cell? ⟨gb, 5, none⟩ = some (cs m 5) ∧ wx.cell? ⟨gb, 6, none⟩ = some (cs m 6) ∧ wx.cell? ⟨gb, 7, none⟩ = some (cs m 7) from fun wx h => by
      have hx := hxb2.below h
      exact ⟨hx.cell rfl, hx.cell rfl, hx.cell rfl, hx.cell rfl, hx.cell rfl, hx.cell rfl, hx.cell rfl, hx.cell rfl⟩)
    have HBD := Lib.hid (show (4 * k + 2) * n + 1 + (4 * k + 1) + 1 ≤ 1000000000000 ∧ 10 * (k + k) + 100 ≤ 800000000000 from by
      have h9 : (20 * k + 100) * (n + 2) = 20 * (k * n) + 40 * k + 100 * n + 200 := by grind
      have h8 : (4 * k + 2) * n = 4 * (k * n) + 2 * n := by grind
      omega)
    simp only [Pg.ag, ← hm]
    clear h1 h2 h3 hxa hxb2 hba hbb hbits hs hsum hva hvb hla hlb hone hm hB
    gi_wp2
    generalize hW_5 : W.drew = W_5
    refine gen_actI ?_
    intro F_ hF_
    have ev3 : F_.eval (.tmp 3) = .pointer (some ⟨gs, 0, none⟩) := by rw [← hF_]; rfl
    have ev4 : F_.eval (.tmp 4) = .pointer (some ⟨ga, 0, none⟩) := by rw [← hF_]; rfl
    have ev5 : F_.eval (.tmp 5) = .pointer (some ⟨gb, 0, none⟩) := by rw [← hF_]; rfl
    have hsz_ : ∀ d ∈ ([(10, []), (11, []), (12, []), (13, [1, 2]), (14, [0, 3])] : List (Nat × List Nat)).map (·.1), d < F_.tmps.size := by rw [← hF_]; simp
    have HF_ := Lib.hid hF_; clear hF_
    refine wp_flow_tabGI (Fx := (Fence.wide.inRound l)) (nf := _) true hW_5 5 [(10, []), (11, []), (12, []), (13, [1, 2]), (14, [0, 3])] [SC (.agg #[q0, q1, q2, q3]), SC (.agg #[cs i 0, cs i 1, cs i 2, cs i 3, cs i 4, cs i 5, cs i 6, cs i 7]), SC (.agg #[cs m 0, cs m 1, cs m 2, cs m 3, cs m 4, cs m 5, cs m 6, cs m 7]), SR (vcrs va vb), SR (s + vcrs va vb)] [false, false, false, false, false] (by kernel_rfl) (WideF.round l) (by kernel_rfl) (by kernel_rfl) (by kernel_rfl) (by kernel_rfl) (by kernel_rfl) hsz_ ⟨SC.mono _, SC.mono _, SC.mono _, SR.mono _, SR.mono _, trivial⟩ ?_ ?_
    · intro kq hkq a wx hB hp hs
      have hBo : Below W.heap.size W wx := dB hW_5 hB
      have hcase : kq = 0 ∨ kq = 1 ∨ kq = 2 ∨ kq = 3 ∨ kq = 4 := by omega
      rcases hcase with rfl | rfl | rfl | rfl | rfl
      · clear hp
        obtain ⟨g0, g1, g2, g3⟩ := HQ.out wx hBo
        have b3 := (hs 3 rfl).trans ev3
        simp [Act.eval] at b3
        exact ⟨_, rfl, .inl ⟨wanted_none rfl, Does.val (by simp [execOp, Act.eval, b3, go_sem, g0, g1, g2, g3]) rfl⟩⟩
      · clear hp
        obtain ⟨g0, g1, g2, g3, g4, g5, g6, g7⟩ := HA.out wx hBo
        have b4 := (hs 4 rfl).trans ev4
        simp [Act.eval] at b4
        exact ⟨_, rfl, .inl ⟨wanted_none rfl, Does.val (by simp [execOp, Act.eval, b4, go_sem, g0, g1, g2, g3, g4, g5, g6, g7]) rfl⟩⟩
      · clear hp
        obtain ⟨g0, g1, g2, g3, g4, g5, g6, g7⟩ := HB_.out wx hBo
        have b5 := (hs 5 rfl).trans ev5
        simp [Act.eval] at b5
        exact ⟨_, rfl, .inl ⟨wanted_none rfl, Does.val (by simp [execOp, Act.eval, b5, go_sem, g0, g1, g2, g3, g4, g5, g6, g7]) rfl⟩⟩
      · obtain ⟨k3, k4, -⟩ := hp
        exact ⟨_, rfl, .inl ⟨wanted_none rfl, Does.rr (f := 66) (call2 rfl (fun _ => by simp [go_sem]) k3 k4) (vcrs_anyB k k (cs i 0) (cs i 1) (cs i 2) (cs i 3) (cs i 4) (cs i 5) (cs i 6) (cs i 7) (cs m 0) (cs m 1) (cs m 2) (cs m 3) (cs m 4) (cs m 5) (cs m 6) (cs m 7) va vb wx (HVA.out.below hBo) (HVB.out.below hBo) HBA.out HBB.out HBD.out.2)⟩⟩
      · obtain ⟨k3, k4, -⟩ := hp
        obtain ⟨r0, r1, r2, r3, er, hr⟩ := k4
        exact ⟨_, rfl, .inl ⟨wanted_none rfl, Does.rr (f := 36) (call2 rfl (fun _ => by simp [go_sem]) k3 er) (radd_anyB ((4 * k + 2) * n + 1) (4 * k + 1) q0 q1 q2 q3 r0 r1 r2 r3 s (vcrs va vb) wx (HR2.out.below hBo) hr HSB.out ((HBA.out.crs HBB.out).mono (by omega)) HBD.out.1)⟩⟩
    · intro val wx hB hsp hdis
      have hBo : Below W.heap.size W wx := dB hW_5 hB
      have h4 : (SR (s + vcrs va vb)) wx (val 4) := hsp 4 (by omega)
      generalize e4 : val 4 = uq4 at h4
      rw [← HF_.out]
      change wpListIn _ _ _ _ _ [_] _ _
      simp only [puts_consT, puts_nilm, vals, List.map_cons, List.map_nil, Nat.zero_add, Nat.reduceAdd, e4, List.setIfInBounds_toArray, List.set_cons_succ, List.set_cons_zero]
      clear hsp hdis HF_ hsz_ hB hW_5 e4 ev3 ev4 ev5
      obtain ⟨z0, z1, z2, z3, rfl, hz4⟩ := h4
      have hx4 := HX1.out.below hBo
      have k7 := hBo
      have o0 := hz4.one0; have o1 := hz4.one1; have o2 := hz4.one2; have o3 := hz4.one3
      have HZ4 := Lib.hid hz4
      obtain ⟨d0, d1, d2, d3, -⟩ : wx.cell? ⟨gs, 0, none⟩ = some q0 ∧ wx.cell? ⟨gs, 1, none⟩ = some q1 ∧ wx.cell? ⟨gs, 2, none⟩ = some q2 ∧ wx.cell? ⟨gs, 3, none⟩ = some q3 ∧ True := ⟨hx4.cell rfl, hx4.cell rfl, hx4.cell rfl, hx4.cell rfl, trivial⟩
      have HX4 := Lib.hid hx4; have k0 := Lib.hid k7
      have hfz : ∀ j, wx.frozen? ⟨gs, j, none⟩ = false := fun j => hx4.frozen j
      clear hz4 hx4 k7 hBo
      gi_wp2
      generalize hW5 : (((wx.setCell _ _).setCell _ _).setCell _ _).setCell _ _ = W5
      have hx5 : Bx W5 gs 33 [z0, z1, z2, z3] := by
        rw [← hW5]
        exact (((HX4.out.setAs (i := 0) (x := z0) (l' := [z0, q1, q2, q3]) rfl).setAs (i := 1) (x := z1) (l' := [z0, z1, q2, q3]) rfl).setAs (i := 2) (x := z2) (l' := [z0, z1, z2, q3]) rfl).setAs (i := 3) (x := z3) (l' := [z0, z1, z2, z3]) rfl
      have hko : KeepsOthers wx W5 := by
        rw [← hW5]
        exact (((KeepsOthers.setCell _ _ _).trans (KeepsOthers.setCell _ _ _)).trans (KeepsOthers.setCell _ _ _)).trans (KeepsOthers.setCell _ _ _)
      have hne : ∀ k, k ≠ gs → W5.heap[k]? = wx.heap[k]? := fun k hk => by
        rw [← hW5]
        exact (((Below.heap_setCell _ ⟨gs, 3, none⟩ _ k hk).trans (Below.heap_setCell _ ⟨gs, 2, none⟩ _ k hk)).trans (Below.heap_setCell _ ⟨gs, 1, none⟩ _ k hk)).trans (Below.heap_setCell _ ⟨gs, 0, none⟩ _ k hk)
      have hsz5 : W5.heap.size = wx.heap.size := by rw [← hW5]; simp [World.setCell]
      have hws : w.heap.size ≤ W.heap.size := k2.out.size
      have hle : w.heap.size ≤ gs := by rw [HGS.out]; omega
      have k5 : Below w.heap.size wx W5 := by
        rw [← hW5]
        exact ((((Below.refl w.heap.size wx).setCell (p := ⟨gs, 0, none⟩) hle z0).setCell (p := ⟨gs, 1, none⟩) hle z1).setCell (p := ⟨gs, 2, none⟩) hle z2).setCell (p := ⟨gs, 3, none⟩) hle z3
      have hkp : Kp wx W5 := by
        refine ⟨by omega, fun b cs fr e => (hne b (fun eq => ?_)).trans e⟩
        subst eq
        have h6 := HX4.out
        unfold Bx at h6
        rw [h6] at e
        injection e with e
        injection e with _ e _
        exact absurd e (by decide)
      refine ⟨((KeepsOthers.of_grownBy (below_grown0 k0.out) (fun _ _ e _ => by cases e)).trans hko).from _, ⟨(k0.out.mono hws).trans k5, fun cs T fr e => (hne Bs (by rw [HBS.out, HGS.out]; omega)).trans ((k0.out.block Bs (Array.getElem?_eq_some_iff.1 e).1).trans e)⟩, ⟨⟨z0, z1, z2, z3, hx5, ?_⟩, (hne gr (by rw [HGR.out, HGS.out]; omega)).trans (HX3.out.below k0.out)⟩, k2.out.trans ((k0.out.mono hws).trans k5)⟩
      rw [HSM.out]
      exact HZ4.out.kp hkp
  case done =>
    rintro D xs W hD rfl ⟨⟨⟨q0, q1, q2, q3, h1, h2⟩, h3⟩, hB⟩ hK
    rw [Pg.at_all L n HP.out.len] at h2
    have hbits : Bq ((4 * k + 2) * n + 1) (Pg.sum vcrs (Pg.sides L)) := by
      rw [← Pg.at_all L n HP.out.len]
      refine (Pg.sum_bits (k := 4 * k + 1) _ (fun p hp => ?_)).mono (by rw [List.length_map, List.length_finRange]; exact Nat.add_le_add_right (Nat.mul_le_mul_right _ (by omega)) 1)
      obtain ⟨y, hy, rfl⟩ := List.mem_map.1 hp
      have hL := HP.out.len
      have h1 : ∀ j, j < n → L.getD j (0, 0) ∈ L := fun j hj => by
        rw [List.getD_eq_getElem?_getD, List.getElem?_eq_getElem (by omega)]
        exact List.getElem_mem _
      exact ((HBV.out _ (h1 y.1 y.2)).crs (HBV.out _ (h1 _ (Nat.mod_lt _ (by have := y.2; omega))))).mono (by omega)
    have hbd : (4 * k + 2) * n + 1 + 2 ≤ 1000000000000 := by
      have h9 : (20 * k + 100) * (n + 2) = 20 * (k * n) + 40 * k + 100 * n + 200 := by grind
      have h8 : (4 * k + 2) * n = 4 * (k * n) + 2 * n := by grind
      omega
    have HSB := Lib.hid hbits; have HBD := Lib.hid hbd; have HR2 := Lib.hid h2; have HX3 := Lib.hid h3; have k2 := Lib.hid hB; have HKD := Lib.hid hK
    have HQ := Lib.hid (show ∀ wx, Below W.heap.size W wx → wx.cell? ⟨gs, 0, none⟩ = some q0 ∧ wx.cell? ⟨gs, 1, none⟩ = some q1 ∧ wx.cell? ⟨gs, 2, none⟩ = some q2 ∧ wx.cell? ⟨gs, 3, none⟩ = some q3 from fun wx h => by
      have hx := h1.below h
      exact ⟨hx.cell rfl, hx.cell rfl, hx.cell rfl, hx.cell rfl⟩)
    clear hbits hbd h1 h2 h3 hB hK
    gi_wp2
    generalize hW_6 : W.drew = W_6
    refine gen_actI ?_
    intro F_ hF_
    have ev3 : F_.eval (.tmp 3) = .pointer (some ⟨gs, 0, none⟩) := by rw [← hF_]; rfl
    have hsz_ : ∀ d ∈ ([(15, []), (16, []), (17, [0, 1])] : List (Nat × List Nat)).map (·.1), d < F_.tmps.size := by rw [← hF_]; simp
    have HF_ := Lib.hid hF_; clear hF_
    refine wp_flow_tabGI (Fx := Fence.wide) (nf := _) true hW_6 3 [(15, []), (16, []), (17, [0, 1])] [SC (.agg #[q0, q1, q2, q3]), SR (Rat.divInt 1 2), SR (Pg.area L)] [false, false, false] (by kernel_rfl) WideF.wide (by kernel_rfl) (by kernel_rfl) (by kernel_rfl) (by kernel_rfl) (by kernel_rfl) hsz_ ⟨SC.mono _, SR.mono _, SR.mono _, trivial⟩ ?_ ?_
    · intro kq hkq a wx hB hp hs
      have hBo : Below W.heap.size W wx := dB hW_6 hB
      have hcase : kq = 0 ∨ kq = 1 ∨ kq = 2 := by omega
      rcases hcase with rfl | rfl | rfl
      · clear hp
        obtain ⟨g0, g1, g2, g3⟩ := HQ.out wx hBo
        have b3 := (hs 3 rfl).trans ev3
        simp [Act.eval] at b3
        exact ⟨_, rfl, .inl ⟨wanted_none rfl, Does.val (by simp [execOp, Act.eval, b3, go_sem, g0, g1, g2, g3]) rfl⟩⟩
      · clear hp
        exact ⟨_, rfl, .inl ⟨wanted_none rfl, Does.rr (f := 68) (call2 rfl (fun _ => by simp [go_sem]) rfl rfl) (rof_anyB 1 2 wx ⟨by omega, by omega⟩ ⟨by omega, by omega⟩)⟩⟩
      · obtain ⟨k3, k4, -⟩ := hp
        obtain ⟨r0, r1, r2, r3, er, hr⟩ := k4
        exact ⟨_, rfl, .inl ⟨wanted_none rfl, Does.rr (f := 67) (call2 rfl (fun _ => by simp [go_sem]) k3 er) (rmul_anyB ((4 * k + 2) * n + 1) 2 q0 q1 q2 q3 r0 r1 r2 r3 (Pg.sum vcrs (Pg.sides L)) (Rat.divInt 1 2) wx (HR2.out.below hBo) hr HSB.out half_bits HBD.out)⟩⟩
    · intro val wx hB hsp hdis
      have hBo : Below W.heap.size W wx := dB hW_6 hB
      have h2 : (SR (Pg.area L)) wx (val 2) := hsp 2 (by omega)
      generalize e2 : val 2 = uq2 at h2
      rw [← HF_.out]
      change wpListIn _ _ _ _ _ [_] _ _
      simp only [puts_consT, puts_nilm, vals, List.map_cons, List.map_nil, Nat.zero_add, Nat.reduceAdd, e2, List.setIfInBounds_toArray, List.set_cons_succ, List.set_cons_zero]
      clear hsp hdis HF_ hsz_ hB hW_6 e2 ev3
      obtain ⟨z0, z1, z2, z3, rfl, hz4⟩ := h2
      have hx4 := HX3.out.below hBo
      have o0 := hz4.one0; have o1 := hz4.one1; have o2 := hz4.one2; have o3 := hz4.one3
      obtain ⟨d0, d1, d2, d3, -⟩ : wx.cell? ⟨gr, 0, none⟩ = some (.bool false) ∧ wx.cell? ⟨gr, 1, none⟩ = some (.slice none 0 0) ∧ wx.cell? ⟨gr, 2, none⟩ = some (.bool false) ∧ wx.cell? ⟨gr, 3, none⟩ = some (.slice none 0 0) ∧ True := ⟨hx4.cell rfl, hx4.cell rfl, hx4.cell rfl, hx4.cell rfl, trivial⟩
      have HX4 := Lib.hid hx4; have k0 := Lib.hid hBo; have HZ4 := Lib.hid hz4
      have hfz : ∀ j, wx.frozen? ⟨gr, j, none⟩ = false := fun j => hx4.frozen j
      clear hz4 hx4 hBo
      gi_wp2
      generalize hW5 : (((wx.setCell _ _).setCell _ _).setCell _ _).setCell _ _ = W5
      have hx5 : Bx W5 gr 33 [z0, z1, z2, z3] := by
        rw [← hW5]
        exact (((HX4.out.setAs (i := 0) (x := z0) (l' := [z0, .slice none 0 0, .bool false, .slice none 0 0]) rfl).setAs (i := 1) (x := z1) (l' := [z0, z1, .bool false, .slice none 0 0]) rfl).setAs (i := 2) (x := z2) (l' := [z0, z1, z2, .slice none 0 0]) rfl).setAs (i := 3) (x := z3) (l' := [z0, z1, z2, z3]) rfl
      have hne : ∀ k, k ≠ gr → W5.heap[k]? = wx.heap[k]? := fun k hk => by
        rw [← hW5]
        exact (((Below.heap_setCell _ ⟨gr, 3, none⟩ _ k hk).trans (Below.heap_setCell _ ⟨gr, 2, none⟩ _ k hk)).trans (Below.heap_setCell _ ⟨gr, 1, none⟩ _ k hk)).trans (Below.heap_setCell _ ⟨gr, 0, none⟩ _ k hk)
      have hle : w.heap.size ≤ gr := by rw [HGR.out]; exact Nat.le_refl _
      have k5 : Below w.heap.size wx W5 := by
        rw [← hW5]
        exact ((((Below.refl w.heap.size wx).setCell (p := ⟨gr, 0, none⟩) hle z0).setCell (p := ⟨gr, 1, none⟩) hle z1).setCell (p := ⟨gr, 2, none⟩) hle z2).setCell (p := ⟨gr, 3, none⟩) hle z3
      have hsz5 : W5.heap.size = wx.heap.size := by rw [← hW5]; simp [World.setCell]
      have hkp : Kp wx W5 := by
        refine ⟨by omega, fun b cs fr e => (hne b (fun eq => ?_)).trans e⟩
        subst eq
        have h6 := HX4.out
        unfold Bx at h6
        rw [h6] at e
        injection e with e
        injection e with _ e _
        exact absurd e (by decide)
      have hD5 : W5.heap[D]? = some (.deferred (some [])) := (hne D (by rw [HGR.out]; omega)).trans ((k0.out.block D (Array.getElem?_eq_some_iff.1 HKD.out).1).trans HKD.out)
      have hw5 : Below w.heap.size w W5 := k2.out.trans ((k0.out.mono k2.out.size).trans k5)
      have hz5 := HZ4.out.kp hkp
      clear hW5 d0 d1 d2 d3 hfz
      refine ⟨by simp, .inl ⟨_, _, rfl, run_takeDeferred hD5, ?_⟩⟩
      have hx6 : Bx (W5.putObj D (.deferred none)) gr 33 [z0, z1, z2, z3] := (World.putObj_heap_other (by rw [HGR.out]; omega)).trans hx5
      have hw6 : Below w.heap.size w (W5.putObj D (.deferred none)) := hw5.trans (belowK_b (w := w) (Nat.le_refl _) W5 D _ _ (by omega) hD5 rfl rfl)
      have hz6 := hz5.kp (kp_turn (B := D) (grownBy_putObj' W5 D (.deferred none)) (fun r e => by cases e; exact ⟨Nat.le_refl _, _, hD5, rfl⟩))
      obtain ⟨d0, d1, d2, d3, -⟩ : (W5.putObj D (.deferred none)).cell? ⟨gr, 0, none⟩ = some z0 ∧ (W5.putObj D (.deferred none)).cell? ⟨gr, 1, none⟩ = some z1 ∧ (W5.putObj D (.deferred none)).cell? ⟨gr, 2, none⟩ = some z2 ∧ (W5.putObj D (.deferred none)).cell? ⟨gr, 3, none⟩ = some z3 ∧ True := ⟨hx6.cell rfl, hx6.cell rfl, hx6.cell rfl, hx6.cell rfl, trivial⟩
      refine ⟨.agg #[z0, z1, z2, z3], ?_, z0, z1, z2, z3, rfl, hz6, hw6⟩
      simp [results, Tryz.results24, go_sem, d0, d1, d2, d3]
  case stop =>
    rintro D c pre W _ _ h _
    exact h.elim
end
section
attribute [local go_sem] Oper.semAt_some
attribute [local go_sem] run_store_one
set_option linter.unusedVariables false
set_option linter.unusedSimpArgs false
set_option maxRecDepth 100000 in
set_option maxRecDepth 100000 in
theorem center_anyB (A : Option Addr) (n c : Nat) (cs : Nat → Nat → Value) (L : List (Rat × Rat)) (k : Nat) (w : World) (h : PV w w.heap.size A n c cs L) (hb : ∀ a ∈ L, Bv k a) (hn : n ≤ 100) (hk : k ≤ 10000) :
    Calls Tryz.prog 27 #[.slice A n c] w (RV (Pg.center L) w) := by
  refine (callsIn_wide (n := 6)).1 ?_
  refine callsIn_of_wp_marks Tryz.func27 rfl trivial ?_ rfl
  simp only [Tryz.ntmps27, List.size_toArray, List.length_cons, List.length_nil, Nat.reduceAdd, Nat.reduceSub, Array.replicate_succ, Array.replicate_zero, List.push_toArray, List.append_toArray, List.nil_append, List.cons_append]
  have HP := Lib.hid h; have HBV := Lib.hid hb; have HLEN := Lib.hid h.len
  clear h hb
  gi_wp2_with (refine ⟨trivial, ?_⟩; gi_at_call 65; refine (sides_in Fence.wide WideF.wide rfl _ A n c _).mono ?_; rintro e w' ⟨rfl, rfl⟩)
  generalize hW0 : (((w.alloc (.cells _ 35)).alloc (.cells _ 35)).alloc (.cells _ 33)).alloc (.cells _ 23) = W0
  have hxgr : Bx W0 (w.heap.size) 35 [.bool false, .slice none 0 0, .bool false, .slice none 0 0, .bool false, .slice none 0 0, .bool false, .slice none 0 0] := by rw [← hW0]; exact (((Bx.at_ rfl).alloc _).alloc _).alloc _
  have hxgs : Bx W0 (w.heap.size + 1) 35 [.bool false, .slice none 0 0, .bool false, .slice none 0 0, .bool false, .slice none 0 0, .bool false, .slice none 0 0] := by rw [← hW0]; exact ((Bx.at_ (by simp)).alloc _).alloc _
  have hxgt : Bx W0 (w.heap.size + 1 + 1) 33 [.bool false, .slice none 0 0, .bool false, .slice none 0 0] := by rw [← hW0]; exact (Bx.at_ (by simp)).alloc _
  have hxBs : Bx W0 (w.heap.size + 1 + 1 + 1) 23 [.slice A n c] := by rw [← hW0]; exact Bx.at_ (by simp)
  have k6 : Below w.heap.size w W0 := by rw [← hW0]; exact ((((Below.refl _ _).alloc (by simp) _).alloc (by simp) _).alloc (by simp; omega) _).alloc (by simp; omega) _
  have hsz : W0.heap.size = w.heap.size + 4 := by rw [← hW0]; simp
  have HP0 : PV W0 w.heap.size A n c cs L := HP.out.below k6
  have HSZ := Lib.hid hsz
  have hsn : n ≤ 1000 := HP.out.small
  obtain ⟨gr, hgr⟩ : ∃ g, g = w.heap.size := ⟨_, rfl⟩
  obtain ⟨gs, hgs⟩ : ∃ g, g = w.heap.size + 1 := ⟨_, rfl⟩
  obtain ⟨gt, hgt⟩ : ∃ g, g = w.heap.size + 1 + 1 := ⟨_, rfl⟩
  obtain ⟨Bs, hBs⟩ : ∃ g, g = w.heap.size + 1 + 1 + 1 := ⟨_, rfl⟩
  rw [← hBs] at hxBs ⊢
  rw [← hgt] at hxgt ⊢
  rw [← hgs] at hxgs ⊢
  rw [← hgr] at hxgr ⊢
  have HGgr := Lib.hid hgr
  have HGgs := Lib.hid hgs
  have HGgt := Lib.hid hgt
  have HGBs := Lib.hid hBs
  clear hW0 hgr hgs hgt hBs
  have hz8 : VecV W0 (.bool false) (.slice none 0 0) (.bool false) (.slice none 0 0) (.bool false) (.slice none 0 0) (.bool false) (.slice none 0 0) (0, 0) := ⟨RatV.zero _, RatV.zero _⟩
  have hz4 : RatV W0 (.bool false) (.slice none 0 0) (.bool false) (.slice none 0 0) 0 := RatV.zero _
  refine wpIn_rangeFunc_ownH rfl (by omega) (gf := 104) (lb := #[.pointer (some ⟨Bs, 0, none⟩)]) rfl trivial (enters_of Tryz.func104 (by kernel_rfl) rfl)
    (sides_stops 5 (by omega) Bs w.heap.size A n c cs L W0 (by omega) hxBs HP0) K2.trans (K2.put (w := W0) (by omega)) (Below.refl _ _) (fun _ => rfl)
    (fun pre W => ((∃ s0 s1 s2 s3 s4 s5 s6 s7, Bx W gs 35 [s0, s1, s2, s3, s4, s5, s6, s7] ∧ VecV W s0 s1 s2 s3 s4 s5 s6 s7 (Pg.sum Pg.fx (pre.map fun x => Pg.at_ L n x.1), Pg.sum Pg.fy (pre.map fun x => Pg.at_ L n x.1))) ∧ (∃ q0 q1 q2 q3, Bx W gt 33 [q0, q1, q2, q3] ∧ RatV W q0 q1 q2 q3 (Pg.sum vcrs (pre.map fun x => Pg.at_ L n x.1))) ∧ Bx W gr 35 [.bool false, .slice none 0 0, .bool false, .slice none 0 0, .bool false, .slice none 0 0, .bool false, .slice none 0 0]) ∧ Below w.heap.size w W)
    (fun _ _ _ => False)
    (OwnFrom.and (fun s X Y row hs hg hr => by obtain ⟨⟨s0, s1, s2, s3, s4, s5, s6, s7, h1, h2⟩, ⟨q0, q1, q2, q3, h3, h4⟩, h5⟩ := hs; exact ⟨⟨s0, s1, s2, s3, s4, s5, s6, s7, bx_turn h1 hg hr, h2.kp (kp_turn hg hr)⟩, ⟨q0, q1, q2, q3, bx_turn h3 hg hr, h4.kp (kp_turn hg hr)⟩, bx_turn h5 hg hr⟩) (ownFrom_below (Nat.le_refl _) (by omega)))
    (fun _ _ _ _ _ hs _ _ => hs)
    ⟨⟨⟨_, _, _, _, _, _, _, _, hxgs, hz8⟩, ⟨_, _, _, _, hxgt, hz4⟩, hxgr⟩, k6⟩
    (fun x a' W => ∃ ga gb, (gs < ga ∧ gt < ga ∧ gs < gb ∧ gt < gb) ∧ Bx W ga 35 [cs x.1 0, cs x.1 1, cs x.1 2, cs x.1 3, cs x.1 4, cs x.1 5, cs x.1 6, cs x.1 7] ∧ Bx W gb 35 [cs ((x.1 + 1) % n) 0, cs ((x.1 + 1) % n) 1, cs ((x.1 + 1) % n) 2, cs ((x.1 + 1) % n) 3, cs ((x.1 + 1) % n) 4, cs ((x.1 + 1) % n) 5, cs ((x.1 + 1) % n) 6, cs ((x.1 + 1) % n) 7] ∧ a' = { tmps := #[.slice A n c, undef, .pointer (some ⟨gr, 0, none⟩), .pointer (some ⟨gs, 0, none⟩), .pointer (some ⟨gt, 0, none⟩), .pointer (some ⟨ga, 0, none⟩), .pointer (some ⟨gb, 0, none⟩), undef, .slice A n c, .func (.func 104) #[] #[.pointer (some ⟨Bs, 0, none⟩)], Pg.ag cs x.1, Pg.ag cs ((x.1 + 1) % n), undef, undef, undef, undef, undef, undef, undef, undef, undef, undef, undef, undef, undef, undef, undef, undef, undef, undef], defers := [] })
    (fun x a' _ X Y row hs hg hr => by obtain ⟨ga, gb, hq, h2, h3, h4⟩ := hs; exact ⟨ga, gb, hq, bx_turn h2 hg hr, bx_turn h3 hg hr, h4⟩)
    ?assign ?body ?done ?stop
  case assign =>
    rintro l pre x W K ⟨⟨⟨s0, s1, s2, s3, s4, s5, s6, s7, h1, h2⟩, ⟨q0, q1, q2, q3, h3, h4⟩, h5⟩, hB⟩ hK
    have hone := HP.out.one
    have o0 := hone x.1 0; have o1 := hone x.1 1; have o2 := hone x.1 2; have o3 := hone x.1 3; have o4 := hone x.1 4; have o5 := hone x.1 5; have o6 := hone x.1 6; have o7 := hone x.1 7
    have p0 := hone ((x.1 + 1) % n) 0; have p1 := hone ((x.1 + 1) % n) 1; have p2 := hone ((x.1 + 1) % n) 2; have p3 := hone ((x.1 + 1) % n) 3; have p4 := hone ((x.1 + 1) % n) 4; have p5 := hone ((x.1 + 1) % n) 5; have p6 := hone ((x.1 + 1) % n) 6; have p7 := hone ((x.1 + 1) % n) 7
    obtain ⟨i, hi⟩ := x
    obtain ⟨m, hm⟩ : ∃ m, m = (i + 1) % n := ⟨_, rfl⟩
    simp only [← hm, Pg.ag] at *
    have HK := Lib.hid hK
    clear hK hone
    gi_wp2
    generalize hW2 : (W.alloc (.cells _ 35)).alloc (.cells _ 35) = W2
    have hko : KeepsOthers W W2 := by rw [← hW2]; exact (KeepsOthers.alloc _ _).trans (KeepsOthers.alloc _ _)
    obtain ⟨hxa, hxb2, k0⟩ := box2 hW2
    exact HK.out _ _ (hko.from _) ⟨k0.mono hB.size, fun cs T fr e => (k0.block Bs (Array.getElem?_eq_some_iff.1 e).1).trans e⟩ ⟨⟨⟨s0, s1, s2, s3, s4, s5, s6, s7, h1.below k0, h2.below k0⟩, ⟨q0, q1, q2, q3, h3.below k0, h4.below k0⟩, h5.below k0⟩, Blw hB k0⟩ ⟨_, _, (by have q1 := h1.lt; have q2 := h3.lt; omega), hxa, hxb2, rfl⟩
  case body =>
    rintro l pre x a' W hl ⟨r, hr⟩ ⟨⟨⟨s0, s1, s2, s3, s4, s5, s6, s7, h1, h2⟩, ⟨q0, q1, q2, q3, h3, h4⟩, h5⟩, hB⟩ ⟨ga, gb, hQ, hxa, hxb2, rfl⟩ hlt
    have HONE := HP.out.one
    obtain ⟨i, hi⟩ := x
    obtain ⟨m, hm⟩ : ∃ m, m = (i + 1) % n := ⟨_, rfl⟩
    have hmn : m < n := by rw [hm]; exact Nat.mod_lt _ (by omega)
    have hla : L[i]? = some (L.getD i (0, 0)) := by
      have := HP.out.len
      simp [List.getElem?_eq_getElem (show i < L.length by omega), List.getD_eq_getElem?_getD]
    have hlb : L[m]? = some (L.getD m (0, 0)) := by
      have := HP.out.len
      simp [List.getElem?_eq_getElem (show m < L.length by omega), List.getD_eq_getElem?_getD]
    obtain ⟨va, hva⟩ : ∃ v, v = L.getD i (0, 0) := ⟨_, rfl⟩
    obtain ⟨vb, hvb⟩ : ∃ v, v = L.getD m (0, 0) := ⟨_, rfl⟩
    rw [← hva] at hla
    rw [← hvb] at hlb
    have hat : Pg.at_ L n i = (va, vb) := by unfold Pg.at_; rw [hva, hvb, hm]
    have hba := HBV.out va (List.mem_of_getElem? hla)
    have hbb := HBV.out vb (List.mem_of_getElem? hlb)
    have HVA := Lib.hid ((HP.out.v i va hla).below hB); have HVB := Lib.hid ((HP.out.v m vb hlb).below hB)
    have HBA := Lib.hid hba; have HBB := Lib.hid hbb
    rw [← hm] at hxb2
    have HXA := Lib.hid hxa; have HXB := Lib.hid hxb2
    obtain ⟨sv, hsv⟩ : ∃ s : Rat × Rat, s = (Pg.sum Pg.fx (pre.map fun x => Pg.at_ L n x.1), Pg.sum Pg.fy (pre.map fun x => Pg.at_ L n x.1)) := ⟨_, rfl⟩
    obtain ⟨sq, hsq⟩ : ∃ s, s = Pg.sum vcrs (pre.map fun x => Pg.at_ L n x.1) := ⟨_, rfl⟩
    have hs1 : (Pg.sum Pg.fx ((pre ++ [(⟨i, hi⟩ : Fin n)]).map fun x => Pg.at_ L n x.1), Pg.sum Pg.fy ((pre ++ [(⟨i, hi⟩ : Fin n)]).map fun x => Pg.at_ L n x.1)) = vadd sv (vsca (vadd va vb) (vcrs va vb)) := by
      rw [List.map_append, List.map_cons, List.map_nil, Pg.sum_snoc, Pg.sum_snoc, hat, hsv]
      rfl
    have hs2 : Pg.sum vcrs ((pre ++ [(⟨i, hi⟩ : Fin n)]).map fun x => Pg.at_ L n x.1) = sq + vcrs va vb := by
      rw [List.map_append, List.map_cons, List.map_nil, Pg.sum_snoc, hat, hsq]
    have hpl : pre.length ≤ 100 := by omega
    have k4 : Bv ((6 * k + 2 + 1) * 100 + 1) sv := by rw [hsv]; exact ⟨pre_bits (fun a b ha hb => (fx_bits ha hb).1) HP.out.len HBV.out pre hpl, pre_bits (fun a b ha hb => (fx_bits ha hb).2) HP.out.len HBV.out pre hpl⟩
    have k0 : Bq ((4 * k + 1 + 1) * 100 + 1) sq := by rw [hsq]; exact pre_bits (fun a b ha hb => crs_bits ha hb) HP.out.len HBV.out pre hpl
    rw [← hsv] at h2
    rw [← hsq] at h4
    have HSa1 := Lib.hid hs1; have HSa2 := Lib.hid hs2; have HBS := Lib.hid k4; have HBQ := Lib.hid k0
    have HX1 := Lib.hid h1; have HX3 := Lib.hid h3; have HX5 := Lib.hid h5; have HV2 := Lib.hid h2; have HV4 := Lib.hid h4
    have hle1 : ga < W.heap.size := hxa.lt
    have hle2 : gb < W.heap.size := hxb2.lt
    have hle3 : gs < W.heap.size := h1.lt
    have hle4 : gt < W.heap.size := h3.lt
    have hle5 : gr < W.heap.size := h5.lt
    have hne1 : gs ≠ gt := by rw [HGgs.out, HGgt.out]; omega
    have hlg1 : w.heap.size ≤ gs := by rw [HGgs.out]; omega
    have hlg2 : w.heap.size ≤ gt := by rw [HGgt.out]; omega
    have hneB : Bs ≠ gs ∧ Bs ≠ gt := by rw [HGBs.out, HGgs.out, HGgt.out]; omega
    have hneR : gr ≠ gs ∧ gr ≠ gt := by rw [HGgr.out, HGgs.out, HGgt.out]; omega
    have hwsz : w.heap.size ≤ W.heap.size := hB.size
    clear h1 h2 h3 h4 h5 k4 k0 hsv hsq hs1 hs2 hpl
    have HAT := Lib.hid hat; have k5 := Lib.hid hB
    simp only [Pg.ag, ← hm]
    clear hxa hxb2 hba hbb hva hvb hla hlb hm hB hat
    have HBL0_ := Lib.hid (Below.refl W.heap.size W)
    have o_s0 := HV2.out.one0
    have o_s1 := HV2.out.one1
    have o_s2 := HV2.out.one2
    have o_s3 := HV2.out.one3
    have o_s4 := HV2.out.one4
    have o_s5 := HV2.out.one5
    have o_s6 := HV2.out.one6
    have o_s7 := HV2.out.one7
    have o_q0 := HV4.out.one0
    have o_q1 := HV4.out.one1
    have o_q2 := HV4.out.one2
    have o_q3 := HV4.out.one3
    gi_upto_region 6 with fail
    refine gen_actI fun F_ hF_ => ?_
    have ev5 := ev_ hF_ 5 (pt ga 0) rfl
    have ev6 := ev_ hF_ 6 (pt gb 0) rfl
    have hN_ := sz_ hF_ 30 rfl
    have HF_ := hq hF_; clear hF_
    refine wp_flAI (Fx := (Fence.wide.inRound l)) (nf := _) (W := W) false rfl 4 true [] [(12, []), (13, []), (14, [0, 1]), (7, [])] [.c (ag_ cs i), .c (ag_ cs m), .r (vcrs va vb), .n 33 [.bool false, .slice none 0 0, .bool false, .slice none 0 0]] 3 2 (WideF.round l) (by kernel_rfl) rfl rfl hN_ (by kernel_rfl) trivial rfl rfl rfl rfl rfl rfl rfl rfl (by kernel_rfl) kn_r ?_ ?_
    · refine sV_ rfl rfl ev5 HXA.out nin0 rfl <|
        sV_ rfl rfl ev6 HXB.out nin0 rfl <|
        s1_ rfl rfl (fun wx hT k1 k3 => Does.rr (f := 66) (call2 rfl (fun _ => by simp [go_sem]) k1 k3) (vcrs_anyB k k _ _ _ _ _ _ _ _ _ _ _ _ _ _ _ _ va vb wx (HVA.out.kp hT.kp) (HVB.out.kp hT.kp) HBA.out HBB.out (by omega))) <|
        s1_ rfl rfl (fun _ hT  => Does.box (by simp [execOp, go_sem]) (hT.b0)) <|
        trivial
    intro val w1 g3 cs2 hT hsp e3 hge3 hgl3 hx2 hpo2
    obtain ⟨v2_0, v2_1, v2_2, v2_3, rfl, hv2⟩ := hpo2
    obtain ⟨g_3, rfl⟩ : ∃ g : Nat, g = g3 := ⟨_, rfl⟩
    have hne5 : g_3 ≠ gs := by have h1 := HX1.out.lt; omega
    have hne6 : g_3 ≠ gt := by have h1 := HX3.out.lt; omega
    have hne7 : g_3 ≠ ga := by have h1 := HXA.out.lt; omega
    have hne8 : g_3 ≠ gb := by have h1 := HXB.out.lt; omega
    have hne9 : g_3 ≠ gr := by have h1 := HX5.out.lt; omega
    have hlo4 : W.heap.size ≤ g_3 := by have h1 := HBL0_.out.size; omega
    rw [← HF_.out]
    simp only [Pu1, Pu2, Zs1, Zs2, Zs3, Nat.zero_add, Nat.reduceAdd, e3]
    have HS10 := hq hT.b0
    have X11 := hq hx2; clear hx2
    have k7 := hq hv2
    obtain ⟨o_v2_0, o_v2_1, o_v2_2, o_v2_3⟩ := hv2.ones
    clear hv2
    clear hsp HF_ hN_ hT e3
    clear ev5 ev6
    gi_upto_region 7 with fail
    have k8 := hq (HV4.out.kp (.of HS10.out))
    have X15 := hq (HX3.out.below HS10.out)
    refine gen_actI fun F_ hF_ => ?_
    have ev4 := ev_ hF_ 4 (pt gt 0) rfl
    have ev7 := ev_ hF_ 7 (pt g_3 0) rfl
    have hN_ := sz_ hF_ 30 rfl
    have HF_ := hq hF_; clear hF_
    refine wp_flOI (Fx := (Fence.wide.inRound l)) (nf := _) (W := w1) false rfl 3 true [] [(15, []), (16, []), (17, [0, 1])] [.c (.agg #[q0, q1, q2, q3]), .c (.agg #[v2_0, v2_1, v2_2, v2_3]), .r (sq + vcrs va vb)] (gt) 2 (WideF.round l) (by kernel_rfl) rfl rfl hN_ (by kernel_rfl) trivial rfl rfl rfl rfl rfl rfl ev4 X15.out rfl (by kernel_rfl) kn_r ?_ ?_
    · refine st_ (fun _ _ _ hbx hs => nG rfl rfl (ld_Rat rfl ((hs 4 rfl).trans ev4) (hbx 0 _ rfl rfl (by kernel_rfl) (show 3 + 0 < 4 by omega)) rfl rfl rfl rfl)) <|
        s2_ rfl rfl (fun _ hT hs  => ld_Rat rfl ((hs 7 rfl).trans ev7) (X11.out.tn hT (nin1 (by omega))) rfl rfl rfl rfl) <|
        s1_ rfl rfl (fun wx hT k1 k3 => Does.rr (f := 36) (call2 rfl (fun _ => by simp [go_sem]) k1 k3) (radd_anyB ((4 * k + 1 + 1) * 100 + 1) (4 * k + 1) _ _ _ _ _ _ _ _ sq (vcrs va vb) wx (k8.out.kp hT.kp) (k7.out.kp hT.kp) HBQ.out (crs_bits HBA.out HBB.out) (by omega))) <|
        trivial
    intro val w16 cs17 hT hsp hx17 hpo17
    obtain ⟨v17_0, v17_1, v17_2, v17_3, rfl, hv17⟩ := hpo17
    obtain ⟨z0, z1, z2, z3, e2, h_z⟩ := hsp 2 (by omega)
    replace e2 : val 2 = .agg #[z0, z1, z2, z3] := e2
    rw [← HF_.out]
    simp only [Pu1, Pu2, Zs1, Zs2, Zs3, Nat.zero_add, Nat.reduceAdd, e2]
    have HS18 := hq hT
    obtain ⟨o_z0, o_z1, o_z2, o_z3⟩ := h_z.ones
    clear h_z
    have X20 := hq hx17; clear hx17
    have k9 := hq hv17
    obtain ⟨o_v17_0, o_v17_1, o_v17_2, o_v17_3⟩ := hv17.ones
    clear hv17
    clear hsp HF_ hN_ hT e2
    clear ev4 ev7
    gi_upto_region 8 with fail
    generalize hW : w16.drew = W22
    have HS23 : Hid (Below w16.heap.size w16 W22) := hq (by rw [← hW]; exact (Below.refl _ _).drew)
    have X24 := hq (((HXA.out.below HS10.out).tn HS18.out (nin1 (by omega))).below HS23.out)
    have X25 := hq (((HXB.out.below HS10.out).tn HS18.out (nin1 (by omega))).below HS23.out)
    have ka := hq (((HVA.out.kp (.of HS10.out)).kp HS18.out.kp).kp (.of HS23.out))
    have kb := hq (((HVB.out.kp (.of HS10.out)).kp HS18.out.kp).kp (.of HS23.out))
    have X28 := hq ((X11.out.tn HS18.out (nin1 (by omega))).below HS23.out)
    have kc := hq ((k7.out.kp HS18.out.kp).kp (.of HS23.out))
    have kd := hq (((HV2.out.kp (.of HS10.out)).kp HS18.out.kp).kp (.of HS23.out))
    have X31 := hq (((HX1.out.below HS10.out).tn HS18.out (nin1 (by omega))).below HS23.out)
    refine gen_actI fun F_ hF_ => ?_
    have ev3 := ev_ hF_ 3 (pt gs 0) rfl
    have ev5 := ev_ hF_ 5 (pt ga 0) rfl
    have ev6 := ev_ hF_ 6 (pt gb 0) rfl
    have ev7 := ev_ hF_ 7 (pt g_3 0) rfl
    have hN_ := sz_ hF_ 30 rfl
    have HF_ := hq hF_; clear hF_
    refine wp_flOI (Fx := (Fence.wide.inRound l)) (nf := _) (W := W22) true hW 7 true [] [(18, []), (19, []), (20, []), (21, [1, 2]), (22, []), (23, [3, 4]), (24, [0, 5])] [.c (.agg #[s0, s1, s2, s3, s4, s5, s6, s7]), .c (ag_ cs i), .c (ag_ cs m), .v (vadd va vb), .c (.agg #[v2_0, v2_1, v2_2, v2_3]), .v (vsca (vadd va vb) (vcrs va vb)), .v (vadd sv (vsca (vadd va vb) (vcrs va vb)))] (gs) 6 (WideF.round l) (by kernel_rfl) rfl rfl hN_ (by kernel_rfl) trivial rfl rfl rfl rfl rfl rfl ev3 X31.out rfl (by kernel_rfl) kn_v ?_ ?_
    · refine st_ (fun _ _ _ hbx hs => nG rfl rfl (ld_Vec rfl ((hs 3 rfl).trans ev3) (hbx 0 _ rfl rfl (by kernel_rfl) (show 7 + 0 < 8 by omega)) rfl rfl rfl rfl rfl rfl rfl rfl)) <|
        sV_ rfl rfl ev5 X24.out (nin1 (by omega)) rfl <|
        sV_ rfl rfl ev6 X25.out (nin1 (by omega)) rfl <|
        s1_ rfl rfl (fun wx hT k1 k3 => Does.rv (f := 38) (call2 rfl (fun _ => by simp [go_sem]) k1 k3) (vadd_anyB k k _ _ _ _ _ _ _ _ _ _ _ _ _ _ _ _ va vb wx (ka.out.kp hT.kp) (kb.out.kp hT.kp) HBA.out HBB.out (by omega))) <|
        s2_ rfl rfl (fun _ hT hs  => ld_Rat rfl ((hs 7 rfl).trans ev7) (X28.out.tn hT (nin1 (by omega))) rfl rfl rfl rfl) <|
        ?_
      refine s1_ rfl rfl (fun wx hT k1 k3 => by
            obtain ⟨x0, x1, x2, x3, x4, x5, x6, x7, e0, h_x⟩ := k1
            exact Does.rv (f := 39) (call2 rfl (fun _ => by simp [go_sem]) e0 k3) (vsca_anyB (2 * k + 1) (4 * k + 1) _ _ _ _ _ _ _ _ _ _ _ _ (vadd va vb) (vcrs va vb) wx h_x (kc.out.kp hT.kp) ((HBA.out.add HBB.out).mono (by omega)) (crs_bits HBA.out HBB.out) (by omega))) <|
        s1_ rfl rfl (fun wx hT k1 k3 => by
            obtain ⟨y0, y1, y2, y3, y4, y5, y6, y7, e1, h_y⟩ := k3
            exact Does.rv (f := 38) (call2 rfl (fun _ => by simp [go_sem]) k1 e1) (vadd_anyB ((6 * k + 2 + 1) * 100 + 1) (6 * k + 2) _ _ _ _ _ _ _ _ _ _ _ _ _ _ _ _ sv (vsca (vadd va vb) (vcrs va vb)) wx (kd.out.kp hT.kp) h_y HBS.out (fx_bits HBA.out HBB.out) (by omega))) <|
        trivial
    intro val w32 cs33 hT hsp hx33 hpo33
    obtain ⟨v33_0, v33_1, v33_2, v33_3, v33_4, v33_5, v33_6, v33_7, rfl, hv33⟩ := hpo33
    obtain ⟨z0, z1, z2, z3, z4, z5, z6, z7, e6, h_z⟩ := hsp 6 (by omega)
    replace e6 : val 6 = .agg #[z0, z1, z2, z3, z4, z5, z6, z7] := e6
    rw [← HF_.out]
    simp only [Pu1, Pu2, Zs1, Zs2, Zs3, Nat.zero_add, Nat.reduceAdd, e6]
    have HS34 := hq hT
    obtain ⟨o_z0, o_z1, o_z2, o_z3, o_z4, o_z5, o_z6, o_z7⟩ := h_z.ones
    clear h_z
    have X36 := hq hx33; clear hx33
    have ki := hq hv33
    obtain ⟨o_v33_0, o_v33_1, o_v33_2, o_v33_3, o_v33_4, o_v33_5, o_v33_6, o_v33_7⟩ := hv33.ones
    clear hv33
    clear hsp HF_ hN_ hT e6
    clear ev3 ev5 ev6 ev7
    clear hW
    have X38 := hq ((X20.out.below HS23.out).tn HS34.out (nin1 (by omega)))
    have X39 := hq ((((HX5.out.below HS10.out).tn HS18.out (nin1 (by omega))).below HS23.out).tn HS34.out (nin1 (by omega)))
    have kj := hq ((k9.out.kp (.of HS23.out)).kp HS34.out.kp)
    have HTN : Tn [gs, gt] W w32 := ((((Tn.of HS10.out).then HS18.out (all1 (.inl (by simp)))).trans (Tn.of HS23.out)).then HS34.out (all1 (.inl (by simp))))
    gi_wp2
    refine ⟨(HTN.keeps (all2 ⟨_, _, HX1.out⟩ ⟨_, _, HX3.out⟩)).from _, HTN.k2 (all2 hlg1 hlg2) hwsz (nin2 hneB.1 hneB.2), ⟨⟨_, _, _, _, _, _, _, _, X36.out, ?_⟩, ⟨_, _, _, _, X38.out, ?_⟩, X39.out⟩, Tn.below k5.out HTN (all2 hlg1 hlg2) (Nat.le_refl _)⟩
    · rw [HSa1.out]
      exact ki.out
    · rw [HSa2.out]
      exact kj.out
  case done =>
    rintro D xs W hD rfl ⟨⟨⟨s0, s1, s2, s3, s4, s5, s6, s7, h1, h2⟩, ⟨q0, q1, q2, q3, h3, h4⟩, h5⟩, hB⟩ hK
    have k4 : Bv ((6 * k + 2 + 1) * 100 + 1) (Pg.sum Pg.fx (Pg.sides L), Pg.sum Pg.fy (Pg.sides L)) := by
      rw [← Pg.at_all L n HP.out.len]
      exact ⟨pre_bits (fun a b ha hb => (fx_bits ha hb).1) HP.out.len HBV.out _ (by rw [List.length_finRange]; exact hn), pre_bits (fun a b ha hb => (fx_bits ha hb).2) HP.out.len HBV.out _ (by rw [List.length_finRange]; exact hn)⟩
    have k0 : Bq ((4 * k + 1 + 1) * 100 + 1) (Pg.sum vcrs (Pg.sides L)) := by
      rw [← Pg.at_all L n HP.out.len]
      exact pre_bits (fun a b ha hb => crs_bits ha hb) HP.out.len HBV.out _ (by rw [List.length_finRange]; exact hn)
    rw [Pg.at_all L n HP.out.len] at h2 h4
    have hle3 : gs < W.heap.size := h1.lt
    have hle4 : gt < W.heap.size := h3.lt
    have hle5 : gr < W.heap.size := h5.lt
    have hne1 : gr ≠ gs ∧ gr ≠ gt := by rw [HGgr.out, HGgs.out, HGgt.out]; omega
    have hlg1 : w.heap.size ≤ gr := by rw [HGgr.out]; exact Nat.le_refl _
    have hwsz : w.heap.size ≤ W.heap.size := hB.size
    have HX1 := Lib.hid h1; have HX3 := Lib.hid h3; have HX5 := Lib.hid h5; have HV2 := Lib.hid h2; have HV4 := Lib.hid h4; have HBS := Lib.hid k4; have HBQ := Lib.hid k0; have k5 := Lib.hid hB; have HKD := Lib.hid hK
    clear h1 h2 h3 h4 h5 k4 k0 hB hK
    have HBL0_ := Lib.hid (Below.refl W.heap.size W)
    have o_s0 := HV2.out.one0
    have o_s1 := HV2.out.one1
    have o_s2 := HV2.out.one2
    have o_s3 := HV2.out.one3
    have o_s4 := HV2.out.one4
    have o_s5 := HV2.out.one5
    have o_s6 := HV2.out.one6
    have o_s7 := HV2.out.one7
    have o_q0 := HV4.out.one0
    have o_q1 := HV4.out.one1
    have o_q2 := HV4.out.one2
    have o_q3 := HV4.out.one3
    gi_upto_region 9 with fail
    generalize hW : W.drew = W41
    have HS42 : Hid (Below W.heap.size W W41) := hq (by rw [← hW]; exact (Below.refl _ _).drew)
    have X43 := hq (HX1.out.below HS42.out)
    have X44 := hq (HX3.out.below HS42.out)
    have kk := hq (HV4.out.kp (.of HS42.out))
    have kl := hq (HV2.out.kp (.of HS42.out))
    have X47 := hq (HX5.out.below HS42.out)
    refine gen_actI fun F_ hF_ => ?_
    have ev2 := ev_ hF_ 2 (pt gr 0) rfl
    have ev3 := ev_ hF_ 3 (pt gs 0) rfl
    have ev4 := ev_ hF_ 4 (pt gt 0) rfl
    have hN_ := sz_ hF_ 30 rfl
    have HF_ := hq hF_; clear hF_
    refine wp_flOI (Fx := Fence.wide) (nf := _) (W := W41) true hW 5 true [] [(25, []), (26, []), (27, []), (28, [1, 2]), (29, [0, 3])] [.c (.agg #[s0, s1, s2, s3, s4, s5, s6, s7]), .r (Rat.divInt 1 3), .c (.agg #[q0, q1, q2, q3]), .r (Rat.divInt 1 3 / Pg.sum vcrs (Pg.sides L)), .v (Pg.center L)] (gr) 4 WideF.wide (by kernel_rfl) rfl rfl hN_ (by kernel_rfl) trivial rfl rfl rfl rfl rfl rfl ev2 X47.out rfl (by kernel_rfl) kn_v ?_ ?_
    · refine sV_ rfl rfl ev3 X43.out (nin1 (by omega)) rfl <|
        s1_ rfl rfl (fun wx _  => Does.rr (f := 68) (call2 rfl (fun _ => by simp [go_sem]) rfl rfl) (rof_anyB 1 3 wx ⟨by omega, by omega⟩ ⟨by omega, by omega⟩)) <|
        s2_ rfl rfl (fun _ hT hs  => ld_Rat rfl ((hs 4 rfl).trans ev4) (X44.out.tn hT (nin1 (by omega))) rfl rfl rfl rfl) <|
        s1_ rfl rfl (fun wx hT k1 k3 => by
            obtain ⟨t0, t1, t2, t3, e0, h_t⟩ := k1
            exact Does.rr (f := 72) (call2 rfl (fun _ => by simp [go_sem]) e0 k3) (rdiv_anyB 2 ((4 * k + 1 + 1) * 100 + 1) _ _ _ _ _ _ _ _ (Rat.divInt 1 3) (Pg.sum vcrs (Pg.sides L)) wx h_t (kk.out.kp hT.kp) third_bits HBQ.out (by omega))) <|
        s1_ rfl rfl (fun wx hT k1 k3 => by
            obtain ⟨y0, y1, y2, y3, e1, h_y⟩ := k3
            exact Does.rv (f := 39) (call2 rfl (fun _ => by simp [go_sem]) k1 e1) (vsca_anyB ((6 * k + 2 + 1) * 100 + 1) (2 + ((4 * k + 1 + 1) * 100 + 1)) _ _ _ _ _ _ _ _ _ _ _ _ (Pg.sum Pg.fx (Pg.sides L), Pg.sum Pg.fy (Pg.sides L)) (Rat.divInt 1 3 / Pg.sum vcrs (Pg.sides L)) wx (kl.out.kp hT.kp) h_y HBS.out (third_bits.div HBQ.out (by omega)) (by omega))) <|
        trivial
    intro val w48 cs49 hT hsp hx49 hpo49
    obtain ⟨v49_0, v49_1, v49_2, v49_3, v49_4, v49_5, v49_6, v49_7, rfl, hv49⟩ := hpo49
    obtain ⟨z0, z1, z2, z3, z4, z5, z6, z7, e4, h_z⟩ := hsp 4 (by omega)
    replace e4 : val 4 = .agg #[z0, z1, z2, z3, z4, z5, z6, z7] := e4
    rw [← HF_.out]
    simp only [Pu1, Pu2, Zs1, Zs2, Zs3, Nat.zero_add, Nat.reduceAdd, e4]
    have HS50 := hq hT
    obtain ⟨o_z0, o_z1, o_z2, o_z3, o_z4, o_z5, o_z6, o_z7⟩ := h_z.ones
    clear h_z
    have X52 := hq hx49; clear hx49
    have km := hq hv49
    obtain ⟨o_v49_0, o_v49_1, o_v49_2, o_v49_3, o_v49_4, o_v49_5, o_v49_6, o_v49_7⟩ := hv49.ones
    clear hv49
    clear hsp HF_ hN_ hT e4
    clear ev2 ev3 ev4
    clear hW
    have HTN : Tn [gr] W w48 := ((Tn.of HS42.out).trans HS50.out)
    gi_wp2
    have hD5 : w48.heap[D]? = some (.deferred (some [])) := HTN.obj HKD.out rfl (all1 ⟨_, _, HX5.out⟩)
    have hw5 : Below w.heap.size w w48 := Tn.below k5.out HTN (all1 hlg1) (Nat.le_refl _)
    have hx5 := X52.out
    have hz5 := km.out
    refine ⟨by simp, .inl ⟨_, _, rfl, run_takeDeferred hD5, ?_⟩⟩
    have hx6 : Bx (w48.putObj D (.deferred none)) gr 35 [v49_0, v49_1, v49_2, v49_3, v49_4, v49_5, v49_6, v49_7] := (World.putObj_heap_other (by rw [HGgr.out]; omega)).trans hx5
    have hw6 : Below w.heap.size w (w48.putObj D (.deferred none)) := hw5.trans (belowK_b (w := w) (Nat.le_refl _) w48 D _ _ (by omega) hD5 rfl rfl)
    have hz6 := hz5.kp (kp_turn (B := D) (grownBy_putObj' w48 D (.deferred none)) (fun r e => by cases e; exact ⟨Nat.le_refl _, _, hD5, rfl⟩))
    have d0 := hx6.cell (i := 0) rfl
    have d1 := hx6.cell (i := 1) rfl
    have d2 := hx6.cell (i := 2) rfl
    have d3 := hx6.cell (i := 3) rfl
    have d4 := hx6.cell (i := 4) rfl
    have d5 := hx6.cell (i := 5) rfl
    have d6 := hx6.cell (i := 6) rfl
    have d7 := hx6.cell (i := 7) rfl
    refine ⟨.agg #[v49_0, v49_1, v49_2, v49_3, v49_4, v49_5, v49_6, v49_7], ?_, v49_0, v49_1, v49_2, v49_3, v49_4, v49_5, v49_6, v49_7, rfl, hz6, hw6⟩
    simp [results, Tryz.results27, go_sem, d0, d1, d2, d3, d4, d5, d6, d7]
  case stop =>
    rintro D c pre W _ _ h _
    exact h.elim
end
section
attribute [local go_sem] Oper.semAt_some
attribute [local go_sem] run_store_one
set_option linter.unusedVariables false
set_option linter.unusedSimpArgs false
set_option maxRecDepth 100000 in
theorem has_anyB (A : Option Addr) (n c : Nat) (cs : Nat → Nat → Value) (L : List (Rat × Rat)) (k : Nat) (p0 p1 p2 p3 p4 p5 p6 p7 : Value) (pp : Rat × Rat) (w : World) (h : PV w w.heap.size A n c cs L) (hb : ∀ a ∈ L, Bv k a) (hn : n ≤ 100) (hk : k ≤ 100000000) (hp : VecV w p0 p1 p2 p3 p4 p5 p6 p7 pp) (hbp : Bv k pp) :
    Calls Tryz.prog 30 #[.slice A n c, .agg #[p0, p1, p2, p3, p4, p5, p6, p7]] w (fun e w' => e = .returned (.int .i64 (Pg.has L pp)) ∧ Below w.heap.size w w') := by
  refine (callsIn_wide (n := 6)).1 ?_
  refine callsIn_of_wp_marks Tryz.func30 rfl trivial ?_ rfl
  simp only [Tryz.ntmps30, List.size_toArray, List.length_cons, List.length_nil, Nat.reduceAdd, Nat.reduceSub, Array.replicate_succ, Array.replicate_zero, List.push_toArray, List.append_toArray, List.nil_append, List.cons_append]
  have HP := Lib.hid h; have HBV := Lib.hid hb; have HLEN := Lib.hid h.len
  have HPP := Lib.hid hp; have HBP := Lib.hid hbp
  obtain ⟨qp0, qp1, qp2, qp3, qp4, qp5, qp6, qp7⟩ := hp.ones
  clear hp hbp
  clear h hb
  gi_wp2_with (refine ⟨trivial, ?_⟩; gi_at_call 65; refine (sides_in Fence.wide WideF.wide rfl _ A n c _).mono ?_; rintro e w' ⟨rfl, rfl⟩)
  generalize hW0 : (((w.alloc (.cells _ 35)).alloc (.cells _ 3)).alloc (.cells _ 3)).alloc (.cells _ 23) = W0
  obtain ⟨hxgp, hxgr, hxgs, hxBs, k8, hsz⟩ := alloc4s w W0 [p0, p1, p2, p3, p4, p5, p6, p7] [.int .i64 0] [.int .i64 (-1)] [.slice A n c] _ _ _ _ hW0
  have HP0 : PV W0 w.heap.size A n c cs L := HP.out.below k8
  have HSZ := Lib.hid hsz
  have hsn : n ≤ 1000 := HP.out.small
  obtain ⟨gp, hgp⟩ : ∃ g, g = w.heap.size := ⟨_, rfl⟩
  obtain ⟨gr, hgr⟩ : ∃ g, g = w.heap.size + 1 := ⟨_, rfl⟩
  obtain ⟨gs, hgs⟩ : ∃ g, g = w.heap.size + 1 + 1 := ⟨_, rfl⟩
  obtain ⟨Bs, hBs⟩ : ∃ g, g = w.heap.size + 1 + 1 + 1 := ⟨_, rfl⟩
  rw [← hBs] at hxBs ⊢
  rw [← hgs] at hxgs ⊢
  rw [← hgr] at hxgr ⊢
  rw [← hgp] at hxgp ⊢
  have HGgp := Lib.hid hgp
  have HGgr := Lib.hid hgr
  have HGgs := Lib.hid hgs
  have HGBs := Lib.hid hBs
  clear hW0 hgp hgr hgs hBs
  refine wpIn_rangeFunc_ownH rfl (by omega) (gf := 104) (lb := #[.pointer (some ⟨Bs, 0, none⟩)]) rfl trivial (enters_of Tryz.func104 (by kernel_rfl) rfl)
    (sides_stops 5 (by omega) Bs w.heap.size A n c cs L W0 (by omega) hxBs HP0) K2.trans (K2.put (w := W0) (by omega)) (Below.refl _ _) (fun _ => rfl)
    (fun pre W => ((Bx W gs 3 [.int .i64 (Pg.ins pp (pre.map fun x => Pg.at_ L n x.1))] ∧ Bx W gr 3 [.int .i64 0] ∧ Bx W gp 35 [p0, p1, p2, p3, p4, p5, p6, p7]) ∧ Pg.Offs L n pp pre) ∧ Below w.heap.size w W)
    (fun c pre W => ((Bx W gr 3 [.int .i64 0]) ∧ c = .ret ∧ ∃ x : Fin n, Pg.on (Pg.at_ L n x.1).1 (Pg.at_ L n x.1).2 pp = true) ∧ Below w.heap.size w W)
    (OwnFrom.and (fun s X Y row hs hg hr => by obtain ⟨⟨h1, h2, h3⟩, h4⟩ := hs; exact ⟨⟨bx_turn h1 hg hr, bx_turn h2 hg hr, bx_turn h3 hg hr⟩, h4⟩) (ownFrom_below (Nat.le_refl _) (by omega)))
    (fun c => OwnFrom.and (fun s X Y row hs hg hr => by obtain ⟨h1, h4⟩ := hs; exact ⟨bx_turn h1 hg hr, h4⟩) (ownFrom_below (Nat.le_refl _) (by omega)))
    ⟨⟨⟨hxgs, hxgr, hxgp⟩, fun x hx => by simp at hx⟩, k8⟩
    (fun x a' W => ∃ ga gb, Bx W ga 35 [cs x.1 0, cs x.1 1, cs x.1 2, cs x.1 3, cs x.1 4, cs x.1 5, cs x.1 6, cs x.1 7] ∧ Bx W gb 35 [cs ((x.1 + 1) % n) 0, cs ((x.1 + 1) % n) 1, cs ((x.1 + 1) % n) 2, cs ((x.1 + 1) % n) 3, cs ((x.1 + 1) % n) 4, cs ((x.1 + 1) % n) 5, cs ((x.1 + 1) % n) 6, cs ((x.1 + 1) % n) 7] ∧ a' = { tmps := #[.slice A n c, .agg #[p0, p1, p2, p3, p4, p5, p6, p7], undef, .pointer (some ⟨gp, 0, none⟩), .pointer (some ⟨gr, 0, none⟩), .pointer (some ⟨gs, 0, none⟩), .pointer (some ⟨ga, 0, none⟩), .pointer (some ⟨gb, 0, none⟩), undef, .slice A n c, .func (.func 104) #[] #[.pointer (some ⟨Bs, 0, none⟩)], Pg.ag cs x.1, Pg.ag cs ((x.1 + 1) % n), undef, undef, undef, undef, undef, undef, undef, undef, undef, undef, undef, undef, undef, undef, undef, undef, undef, undef, undef, undef, undef, undef, undef, undef, undef, undef, undef, undef, undef, undef], defers := [] })
    (fun x a' _ X Y row hs hg hr => by obtain ⟨ga, gb, h2, h3, h4⟩ := hs; exact ⟨ga, gb, bx_turn h2 hg hr, bx_turn h3 hg hr, h4⟩)
    ?assign ?body ?done ?stop
  case assign =>
    rintro l pre x W K ⟨⟨⟨h1, h2, h3⟩, h4⟩, hB⟩ hK
    have hone := HP.out.one
    have o0 := hone x.1 0; have o1 := hone x.1 1; have o2 := hone x.1 2; have o3 := hone x.1 3; have o4 := hone x.1 4; have o5 := hone x.1 5; have o6 := hone x.1 6; have o7 := hone x.1 7
    have p0 := hone ((x.1 + 1) % n) 0; have p1 := hone ((x.1 + 1) % n) 1; have p2 := hone ((x.1 + 1) % n) 2; have p3 := hone ((x.1 + 1) % n) 3; have p4 := hone ((x.1 + 1) % n) 4; have p5 := hone ((x.1 + 1) % n) 5; have p6 := hone ((x.1 + 1) % n) 6; have p7 := hone ((x.1 + 1) % n) 7
    obtain ⟨i, hi⟩ := x
    obtain ⟨m, hm⟩ : ∃ m, m = (i + 1) % n := ⟨_, rfl⟩
    simp only [← hm, Pg.ag] at *
    have HK := Lib.hid hK
    clear hK hone
    gi_wp2
    generalize hW2 : (W.alloc (.cells _ 35)).alloc (.cells _ 35) = W2
    have hko : KeepsOthers W W2 := by rw [← hW2]; exact (KeepsOthers.alloc _ _).trans (KeepsOthers.alloc _ _)
    obtain ⟨hxa, hxb2, k4⟩ := box2 hW2
    exact HK.out _ _ (hko.from _) ⟨k4.mono hB.size, fun cs T fr e => (k4.block Bs (Array.getElem?_eq_some_iff.1 e).1).trans e⟩ ⟨⟨⟨h1.below k4, h2.below k4, h3.below k4⟩, h4⟩, Blw hB k4⟩ ⟨_, _, hxa, hxb2, rfl⟩
  case body =>
    rintro l pre x a' W hl ⟨r, hr⟩ ⟨⟨⟨h1, h2, h3⟩, h4⟩, hB⟩ ⟨ga, gb, hxa, hxb2, rfl⟩ hlt
    have HONE := HP.out.one
    obtain ⟨i, hi⟩ := x
    obtain ⟨m, hm⟩ : ∃ m, m = (i + 1) % n := ⟨_, rfl⟩
    have hmn : m < n := by rw [hm]; exact Nat.mod_lt _ (by omega)
    have hla : L[i]? = some (L.getD i (0, 0)) := by
      have := HP.out.len
      simp [List.getElem?_eq_getElem (show i < L.length by omega), List.getD_eq_getElem?_getD]
    have hlb : L[m]? = some (L.getD m (0, 0)) := by
      have := HP.out.len
      simp [List.getElem?_eq_getElem (show m < L.length by omega), List.getD_eq_getElem?_getD]
    obtain ⟨va, hva⟩ : ∃ v, v = L.getD i (0, 0) := ⟨_, rfl⟩
    obtain ⟨vb, hvb⟩ : ∃ v, v = L.getD m (0, 0) := ⟨_, rfl⟩
    rw [← hva] at hla
    rw [← hvb] at hlb
    have hat : Pg.at_ L n i = (va, vb) := by unfold Pg.at_; rw [hva, hvb, hm]
    have hba := HBV.out va (List.mem_of_getElem? hla)
    have hbb := HBV.out vb (List.mem_of_getElem? hlb)
    have HVA := Lib.hid ((HP.out.v i va hla).below hB); have HVB := Lib.hid ((HP.out.v m vb hlb).below hB)
    have HBA := Lib.hid hba; have HBB := Lib.hid hbb
    rw [← hm] at hxb2
    have HXA := Lib.hid hxa; have HXB := Lib.hid hxb2
    obtain ⟨z, hz⟩ : ∃ z : Int, z = Pg.ins pp (pre.map fun x => Pg.at_ L n x.1) := ⟨_, rfl⟩
    have hs1 : ∀ fl : Bool, Pg.up va vb pp = fl → Pg.ins pp ((pre ++ [(⟨i, hi⟩ : Fin n)]).map fun x => Pg.at_ L n x.1) = if fl then -z else z := by
      intro fl hfl
      rw [List.map_append, List.map_cons, List.map_nil, Pg.ins_snoc, hat, hz, hfl]
    have hs2 : Pg.on va vb pp = false → Pg.Offs L n pp (pre ++ [(⟨i, hi⟩ : Fin n)]) := by
      intro g x hx
      rw [List.mem_append, List.mem_singleton] at hx
      rcases hx with hx | hx
      · exact h4 x hx
      · rw [hx, hat]; exact g
    have hs3 : Pg.on va vb pp = true → ∃ x : Fin n, Pg.on (Pg.at_ L n x.1).1 (Pg.at_ L n x.1).2 pp = true := fun g => ⟨⟨i, hi⟩, by rw [hat]; exact g⟩
    have hzc : z = 1 ∨ z = -1 := by rw [hz]; exact Pg.ins_cases _ _
    rw [← hz] at h1
    have HSa1 := Lib.hid hs1; have HSa2 := Lib.hid hs2; have HSa3 := Lib.hid hs3; have HZC := Lib.hid hzc
    have HX1 := Lib.hid h1; have HX2 := Lib.hid h2; have HX3 := Lib.hid h3; have HVP := Lib.hid (HPP.out.below hB)
    have hlg1 : w.heap.size ≤ gs := by rw [HGgs.out]; omega
    have hlg2 : w.heap.size ≤ gr := by rw [HGgr.out]; omega
    have hneB : Bs ≠ gs := by rw [HGBs.out, HGgs.out]; omega
    have hneB2 : Bs ≠ gr := by rw [HGBs.out, HGgr.out]; omega
    have hneR : gr ≠ gs ∧ gp ≠ gs := by rw [HGgr.out, HGgs.out, HGgp.out]; omega
    have hwsz : w.heap.size ≤ W.heap.size := hB.size
    clear h1 h2 h3 h4 hz hzc hs1 hs2 hs3
    have HAT := Lib.hid hat; have k5 := Lib.hid hB
    simp only [Pg.ag, ← hm]
    clear hxa hxb2 hba hbb hva hvb hla hlb hm hB hat
    have HBL0_ := Lib.hid (Below.refl W.heap.size W)
    gi_upto_region 5 with fail
    refine gen_actI fun F_ hF_ => ?_
    have ev3 := ev_ hF_ 3 (pt gp 0) rfl
    have ev6 := ev_ hF_ 6 (pt ga 0) rfl
    have ev7 := ev_ hF_ 7 (pt gb 0) rfl
    have hN_ := sz_ hF_ 43 rfl
    have HF_ := hq hF_; clear hF_
    refine wp_fl0I (Fx := (Fence.wide.inRound l)) (nf := _) (W := W) false rfl 4 true [] [(13, []), (14, []), (15, []), (16, [0, 1, 2])] [.c (ag_ cs i), .c (ag_ cs m), .c (.agg #[p0, p1, p2, p3, p4, p5, p6, p7]), .c (.bool (Pg.on va vb pp))] (WideF.round l) (by kernel_rfl) rfl rfl hN_ (by kernel_rfl) trivial ?_ ?_
    · refine sV_ rfl rfl ev6 HXA.out nin0 rfl <|
        sV_ rfl rfl ev7 HXB.out nin0 rfl <|
        sV_ rfl rfl ev3 HX3.out nin0 rfl <|
        s1_ rfl rfl (fun wx hT k0 k1 k6 => Does.rc (f := 77) (call3 rfl (fun _ => by simp [go_sem]) k0 k1 k6) (on_anyB k _ _ _ _ _ _ _ _ _ _ _ _ _ _ _ _ _ _ _ _ _ _ _ _ va vb pp wx (HVA.out.kp hT.kp) (HVB.out.kp hT.kp) (HVP.out.kp hT.kp) HBA.out HBB.out HBP.out (by omega) _ rfl)) <|
        trivial
    intro val w1 hT hsp
    have e3 : val 3 = .bool (Pg.on va vb pp) := hsp 3 (by omega)
    obtain ⟨ob, hob⟩ : ∃ b : Bool, b = (Pg.on va vb pp) := ⟨_, rfl⟩
    rw [← hob] at e3
    have Hob := hq hob
    clear hob
    rw [← HF_.out]
    simp only [Pu1, Pu2, Zs1, Zs2, Zs3, Nat.zero_add, Nat.reduceAdd, e3]
    have HS2 := hq hT.b0
    clear hsp HF_ hN_ hT e3
    clear ev3 ev6 ev7
    rcases ob with _ | _
    · have hd0 : True := trivial
      gi_upto_region 7 with fail
      have X3 := hq (HXB.out.below HS2.out)
      have X4 := hq (HX3.out.below HS2.out)
      have F5 := hq (HVB.out.kp (.of HS2.out))
      have F6 := hq (HVP.out.kp (.of HS2.out))
      refine gen_actI fun F_ hF_ => ?_
      have ev3 := ev_ hF_ 3 (pt gp 0) rfl
      have ev7 := ev_ hF_ 7 (pt gb 0) rfl
      have hN_ := sz_ hF_ 43 rfl
      have HF_ := hq hF_; clear hF_
      refine wp_fl0I (Fx := (Fence.wide.inRound l)) (nf := _) (W := w1) false rfl 7 true [] [(17, []), (18, [0]), (19, []), (20, [2]), (21, [1, 3]), (22, [4]), (8, [5])] [.c (pt gb 4), .c (.agg #[(cs m 4), (cs m 5), (cs m 6), (cs m 7)]), .c (pt gp 4), .c (.agg #[p4, p5, p6, p7]), .c (.int .i64 (cmpQ vb.2 pp.2)), .c (.bool (decide (0 < (cmpQ vb.2 pp.2)))), .c (.bool (decide (0 < (cmpQ vb.2 pp.2))))] (WideF.round l) (by kernel_rfl) rfl rfl hN_ (by kernel_rfl) trivial ?_ ?_
      · refine s2_ rfl rfl (fun _ _ hs  => fa_Vec1 rfl ((hs 7 rfl).trans ev7)) <|
          s1_ rfl rfl (fun _ hT k0 => ld_Rat rfl k0 (X3.out.tn hT nin0) rfl rfl rfl rfl) <|
          s2_ rfl rfl (fun _ _ hs  => fa_Vec1 rfl ((hs 3 rfl).trans ev3)) <|
          s1_ rfl rfl (fun _ hT k0 => ld_Rat rfl k0 (X4.out.tn hT nin0) rfl rfl rfl rfl) <|
          s1_ rfl rfl (fun wx hT k0 k1 => Does.rc (f := 42) (call2 rfl (fun _ => by simp [go_sem]) k0 k1) (rcmp_anyB k k _ _ _ _ _ _ _ _ vb.2 pp.2 wx ((F5.out.kp hT.kp)).2 ((F6.out.kp hT.kp)).2 HBB.out.2 HBP.out.2 (by omega))) <|
          ?_
        refine s0_ rfl rfl (fun k0 => bc_gtr rfl k0) <|
          s0_ rfl rfl (fun k0 => op_as rfl k0) <|
          trivial
      intro val w7 hT hsp
      have e6 : val 6 = .bool (decide (0 < (cmpQ vb.2 pp.2))) := hsp 6 (by omega)
      obtain ⟨up, hup⟩ : ∃ b : Bool, b = (decide (0 < (cmpQ vb.2 pp.2))) := ⟨_, rfl⟩
      rw [← hup] at e6
      have Hup := hq hup
      clear hup
      rw [← HF_.out]
      simp only [Pu1, Pu2, Zs1, Zs2, Zs3, Nat.zero_add, Nat.reduceAdd, e6]
      have HS8 := hq hT.b0
      clear hsp HF_ hN_ hT e6
      clear ev3 ev7
      gi_upto_region 8 with fail
      have X9 := hq ((HXA.out.below HS2.out).below HS8.out)
      have X10 := hq (X4.out.below HS8.out)
      have kb := hq ((HVA.out.kp (.of HS2.out)).kp (.of HS8.out))
      have kc := hq (F6.out.kp (.of HS8.out))
      have X13 := hq (X3.out.below HS8.out)
      have kd := hq (F5.out.kp (.of HS8.out))
      refine gen_actI fun F_ hF_ => ?_
      have ev3 := ev_ hF_ 3 (pt gp 0) rfl
      have ev6 := ev_ hF_ 6 (pt ga 0) rfl
      have ev7 := ev_ hF_ 7 (pt gb 0) rfl
      have ev8 := ev_ hF_ 8 (.bool up) rfl
      have hN_ := sz_ hF_ 43 rfl
      have HF_ := hq hF_; clear hF_
      refine wp_fl0I (Fx := (Fence.wide.inRound l)) (nf := _) (W := w7) false rfl 17 true [] [(23, []), (24, []), (25, [1]), (26, []), (27, [3]), (28, [2, 4]), (29, [5]), (30, [0, 6]), (31, [7]), (32, [8]), (33, [8]), (34, [8]), (35, [9, 10, 11, 8]), (36, [12, 8]), (37, [8]), (38, [13, 14, 8]), (39, [8, 15])] [.c (.bool up), .c (pt ga 4), .c (.agg #[(cs i 4), (cs i 5), (cs i 6), (cs i 7)]), .c (pt gp 4), .c (.agg #[p4, p5, p6, p7]), .c (.int .i64 (cmpQ va.2 pp.2)), .c (.bool (decide (0 < (cmpQ va.2 pp.2)))), .c (.bool (up != (decide (0 < (cmpQ va.2 pp.2))))), .c (.bool (up != (decide (0 < (cmpQ va.2 pp.2))))), .g ((up != (decide (0 < (cmpQ va.2 pp.2)))) == true) (.c (ag_ cs i)), .g ((up != (decide (0 < (cmpQ va.2 pp.2)))) == true) (.c (ag_ cs m)), .g ((up != (decide (0 < (cmpQ va.2 pp.2)))) == true) (.c (.agg #[p0, p1, p2, p3, p4, p5, p6, p7])), .g ((up != (decide (0 < (cmpQ va.2 pp.2)))) == true) (.c (.int .i64 (vside va vb pp))), .g ((up != (decide (0 < (cmpQ va.2 pp.2)))) == true) (.c (.bool (decide (0 < (vside va vb pp))))), .g ((up != (decide (0 < (cmpQ va.2 pp.2)))) == true) (.c (.bool up)), .g ((up != (decide (0 < (cmpQ va.2 pp.2)))) == true) (.c (.bool ((decide (0 < (vside va vb pp))) == up))), .c (.bool ((up != (decide (0 < (cmpQ va.2 pp.2)))) && ((decide (0 < (vside va vb pp))) == up)))] (WideF.round l) (by kernel_rfl) rfl rfl hN_ (by kernel_rfl) trivial ?_ ?_
      · refine sm_ rfl rfl ev8 <|
          s2_ rfl rfl (fun _ _ hs  => fa_Vec1 rfl ((hs 6 rfl).trans ev6)) <|
          s1_ rfl rfl (fun _ hT k0 => ld_Rat rfl k0 (X9.out.tn hT nin0) rfl rfl rfl rfl) <|
          s2_ rfl rfl (fun _ _ hs  => fa_Vec1 rfl ((hs 3 rfl).trans ev3)) <|
          s1_ rfl rfl (fun _ hT k0 => ld_Rat rfl k0 (X10.out.tn hT nin0) rfl rfl rfl rfl) <|
          ?_
        refine s1_ rfl rfl (fun wx hT k0 k1 => Does.rc (f := 42) (call2 rfl (fun _ => by simp [go_sem]) k0 k1) (rcmp_anyB k k _ _ _ _ _ _ _ _ va.2 pp.2 wx ((kb.out.kp hT.kp)).2 ((kc.out.kp hT.kp)).2 HBA.out.2 HBP.out.2 (by omega))) <|
          s0_ rfl rfl (fun k0 => bc_gtr rfl k0) <|
          s0_ rfl rfl (fun k0 k1 => bb_neq rfl k0 k1) <|
          s0_ rfl rfl (fun k0 => op_mv rfl k0) <|
          st_ (fun _ _ hT _ hs k0 => gC rfl rfl rfl k0 (fun hC => ld_Vec rfl ((hs 6 rfl).trans ev6) (X9.out.tn hT nin0) rfl rfl rfl rfl rfl rfl rfl rfl)) <|
          ?_
        refine st_ (fun _ _ hT _ hs k0 => gC rfl rfl rfl k0 (fun hC => ld_Vec rfl ((hs 7 rfl).trans ev7) (X13.out.tn hT nin0) rfl rfl rfl rfl rfl rfl rfl rfl)) <|
          st_ (fun _ _ hT _ hs k0 => gC rfl rfl rfl k0 (fun hC => ld_Vec rfl ((hs 3 rfl).trans ev3) (X10.out.tn hT nin0) rfl rfl rfl rfl rfl rfl rfl rfl)) <|
          st_ (fun _ wx hT _ _ k0 k1 k6 ke => gC rfl rfl rfl ke (fun hC => Does.rc (f := 55) (call3 rfl (fun _ => by simp [go_sem]) (SG.on hC k0) (SG.on hC k1) (SG.on hC k6)) (vside_anyB k _ _ _ _ _ _ _ _ _ _ _ _ _ _ _ _ _ _ _ _ _ _ _ _ va vb pp wx (kb.out.kp hT.kp) (kd.out.kp hT.kp) (kc.out.kp hT.kp) HBA.out HBB.out HBP.out (by omega)))) <|
          st_ (fun _ _ _ _ _ k0 k1 => gC rfl rfl rfl k1 (fun hC => bc_gtr rfl (SG.on hC k0))) <|
          st_ (fun _ _ _ _ hs k0 => gC rfl rfl rfl k0 (fun hC => op_mv (s := SC _) rfl ((hs 8 rfl).trans ev8))) <|
          ?_
        refine st_ (fun _ _ _ _ _ k0 k1 k6 => gC rfl rfl rfl k6 (fun hC => bb_eql rfl (SG.on hC k0) (SG.on hC k1))) <|
          s0_ rfl rfl (fun k0 k1 => pick_and rfl k0 k1) <|
          trivial
      intro val w15 hT hsp
      have e16 : val 16 = .bool ((up != (decide (0 < (cmpQ va.2 pp.2)))) && ((decide (0 < (vside va vb pp))) == up)) := hsp 16 (by omega)
      obtain ⟨fl, hfl⟩ : ∃ b : Bool, b = ((up != (decide (0 < (cmpQ va.2 pp.2)))) && ((decide (0 < (vside va vb pp))) == up)) := ⟨_, rfl⟩
      rw [← hfl] at e16
      have Hfl := hq hfl
      clear hfl
      rw [← HF_.out]
      simp only [Pu1, Pu2, Zs1, Zs2, Zs3, Nat.zero_add, Nat.reduceAdd, e16]
      have HS16 := hq hT.b0
      clear hsp HF_ hN_ hT e16
      clear ev3 ev6 ev7 ev8
      have hup : Pg.up va vb pp = fl := by
        unfold Pg.up
        rw [← Hup.out, ← Hfl.out]
      have HUP := Lib.hid hup
      clear hup
      rcases fl with _ | _
      · have hd1_ : True := trivial
        have X17 := hq (((HX1.out.below HS2.out).below HS8.out).below HS16.out)
        have X18 := hq (((HX2.out.below HS2.out).below HS8.out).below HS16.out)
        have X19 := hq (X10.out.below HS16.out)
        have HTN : Tn [] W w15 := (((Tn.of HS2.out).trans (Tn.of HS8.out)).trans (Tn.of HS16.out))
        gi_wp2
        refine ⟨(HTN.keeps (fun g h => by cases h)).from _, HTN.k2 (fun g h => by cases h) hwsz nin0, ⟨⟨?_, X18.out, X19.out⟩, HSa2.out Hob.out.symm⟩, Tn.below k5.out HTN (fun g h => by cases h) (Nat.le_refl _)⟩
        rw [HSa1.out _ HUP.out]
        exact X17.out
      · have hd1_ : True := trivial
        have X20 := hq (((HX1.out.below HS2.out).below HS8.out).below HS16.out)
        have X21 := hq (((HX2.out.below HS2.out).below HS8.out).below HS16.out)
        have X22 := hq (X10.out.below HS16.out)
        have HTN : Tn [] W w15 := (((Tn.of HS2.out).trans (Tn.of HS8.out)).trans (Tn.of HS16.out))
        have hd1 := X20.out.cell (i := 0) rfl
        have hfz := X20.out.frozen 0
        have HW_ := Lib.hid HTN
        clear HTN
        obtain rfl | rfl := HZC.out
        · gi_wp2
          generalize hW5 : World.setCell _ _ _ = W5
          have hx5 : Bx W5 gs 3 [.int .i64 (-1)] := by rw [← hW5]; exact X20.out.setAs (i := 0) (x := .int .i64 (-1)) (l' := [.int .i64 (-1)]) rfl
          have hko : KeepsOthers w15 W5 := by rw [← hW5]; exact KeepsOthers.setCell _ _ _
          have hne : ∀ k, k ≠ gs → W5.heap[k]? = w15.heap[k]? := fun k hk => by rw [← hW5]; exact Below.heap_setCell _ ⟨gs, 0, none⟩ _ k hk
          have k3 : Below w.heap.size w15 W5 := by rw [← hW5]; exact (Below.refl w.heap.size w15).setCell (p := ⟨gs, 0, none⟩) hlg1 _
          have k7 := HW_.out.k2 (Bs := Bs) (fun g h => by cases h) hwsz nin0
          refine ⟨((HW_.out.keeps (fun g h => by cases h)).trans hko).from _, ⟨k7.1.trans k3, fun cs T fr e => (hne Bs hneB).trans (k7.2 cs T fr e)⟩, ⟨⟨?_, (hne gr hneR.1).trans X21.out, (hne gp hneR.2).trans X22.out⟩, HSa2.out Hob.out.symm⟩, (Tn.below k5.out HW_.out (fun g h => by cases h) (Nat.le_refl _)).trans k3⟩
          rw [HSa1.out _ HUP.out]
          exact hx5
        · gi_wp2
          generalize hW5 : World.setCell _ _ _ = W5
          have hx5 : Bx W5 gs 3 [.int .i64 (1)] := by rw [← hW5]; exact X20.out.setAs (i := 0) (x := .int .i64 (1)) (l' := [.int .i64 (1)]) rfl
          have hko : KeepsOthers w15 W5 := by rw [← hW5]; exact KeepsOthers.setCell _ _ _
          have hne : ∀ k, k ≠ gs → W5.heap[k]? = w15.heap[k]? := fun k hk => by rw [← hW5]; exact Below.heap_setCell _ ⟨gs, 0, none⟩ _ k hk
          have k3 : Below w.heap.size w15 W5 := by rw [← hW5]; exact (Below.refl w.heap.size w15).setCell (p := ⟨gs, 0, none⟩) hlg1 _
          have k7 := HW_.out.k2 (Bs := Bs) (fun g h => by cases h) hwsz nin0
          refine ⟨((HW_.out.keeps (fun g h => by cases h)).trans hko).from _, ⟨k7.1.trans k3, fun cs T fr e => (hne Bs hneB).trans (k7.2 cs T fr e)⟩, ⟨⟨?_, (hne gr hneR.1).trans X21.out, (hne gp hneR.2).trans X22.out⟩, HSa2.out Hob.out.symm⟩, (Tn.below k5.out HW_.out (fun g h => by cases h) (Nat.le_refl _)).trans k3⟩
          rw [HSa1.out _ HUP.out]
          exact hx5
    · have hd0 : True := trivial
      have X23 := hq (HX2.out.below HS2.out)
      have HW_ := Lib.hid (show Tn [] W w1 from (Tn.of HS2.out))
      have hd1 := X23.out.cell (i := 0) rfl
      have hfz := X23.out.frozen 0
      gi_wp2
      generalize hW5 : World.setCell _ _ _ = W5
      have hx5 : Bx W5 gr 3 [.int .i64 0] := by rw [← hW5]; exact X23.out.setAs (i := 0) (x := .int .i64 0) (l' := [.int .i64 0]) rfl
      have hko : KeepsOthers w1 W5 := by rw [← hW5]; exact KeepsOthers.setCell _ _ _
      have k3 : Below w.heap.size w1 W5 := by rw [← hW5]; exact (Below.refl w.heap.size w1).setCell (p := ⟨gr, 0, none⟩) hlg2 _
      exact ⟨((HW_.out.keeps (fun g h => by cases h)).trans hko).from _, ⟨hx5, rfl, HSa3.out Hob.out.symm⟩, (Tn.below k5.out HW_.out (fun g h => by cases h) (Nat.le_refl _)).trans k3⟩
  case done =>
    rintro D xs W hD rfl ⟨⟨⟨h1, h2, h3⟩, h4⟩, hB⟩ hK
    rw [Pg.at_all L n HP.out.len] at h1
    have hv : Pg.has L pp = Pg.ins pp (Pg.sides L) := by
      unfold Pg.has
      rw [if_neg]
      intro g
      obtain ⟨x, hx, hx2⟩ := List.any_eq_true.1 g
      rw [← Pg.at_all L n HP.out.len] at hx
      obtain ⟨y, hy, rfl⟩ := List.mem_map.1 hx
      rw [h4 y hy] at hx2
      cases hx2
    have hd1 := h1.cell (i := 0) rfl
    have hd2 := h2.cell (i := 0) rfl
    have hfz := h2.frozen 0
    have HX1 := Lib.hid h1; have HX2 := Lib.hid h2; have k5 := Lib.hid hB; have HKD := Lib.hid hK; have HV := Lib.hid hv
    have hlg2 : w.heap.size ≤ gr := by rw [HGgr.out]; omega
    have hneD : gr ≠ D := by rw [HGgr.out]; omega
    clear h1 h2 h3 h4 hB hK hv
    gi_wp2
    generalize hW5 : World.setCell _ _ _ = W5
    have hx5 : Bx W5 gr 3 [.int .i64 (Pg.ins pp (Pg.sides L))] := by rw [← hW5]; exact HX2.out.setAs (i := 0) (x := .int .i64 (Pg.ins pp (Pg.sides L))) (l' := [.int .i64 (Pg.ins pp (Pg.sides L))]) rfl
    have hD5 : W5.heap[D]? = some (.deferred (some [])) := by rw [← hW5]; exact (Below.heap_setCell _ ⟨gr, 0, none⟩ _ D (fun e => hneD e.symm)).trans HKD.out
    have hw5 : Below w.heap.size w W5 := k5.out.trans (by rw [← hW5]; exact (Below.refl w.heap.size W).setCell (p := ⟨gr, 0, none⟩) hlg2 _)
    refine ⟨by simp, .inl ⟨_, _, rfl, run_takeDeferred hD5, ?_⟩⟩
    have hx6 : Bx (W5.putObj D (.deferred none)) gr 3 [.int .i64 (Pg.ins pp (Pg.sides L))] := (World.putObj_heap_other (by rw [HGgr.out]; omega)).trans hx5
    have hw6 : Below w.heap.size w (W5.putObj D (.deferred none)) := hw5.trans (belowK_b (w := w) (Nat.le_refl _) W5 D _ _ (by omega) hD5 rfl rfl)
    have d0 := hx6.cell (i := 0) rfl
    refine ⟨.int .i64 (Pg.ins pp (Pg.sides L)), ?_, ?_, hw6⟩
    · simp [results, Tryz.results30, go_sem, d0]
    · rw [HV.out]
  case stop =>
    rintro D c pre W5 hD _ ⟨⟨hx5, rfl, x, hx⟩, hw5⟩ hD5
    have hv : Pg.has L pp = 0 := by
      unfold Pg.has
      rw [if_pos]
      rw [List.any_eq_true]
      refine ⟨Pg.at_ L n x.1, ?_, hx⟩
      rw [← Pg.at_all L n HP.out.len]
      exact List.mem_map.2 ⟨x, List.mem_finRange x, rfl⟩
    have HV := Lib.hid hv
    clear hv
    gi_wp2
    refine ⟨by simp, .inl ⟨_, _, rfl, run_takeDeferred hD5, ?_⟩⟩
    have hx6 : Bx (W5.putObj D (.deferred none)) gr 3 [.int .i64 0] := (World.putObj_heap_other (by rw [HGgr.out]; omega)).trans hx5
    have hw6 : Below w.heap.size w (W5.putObj D (.deferred none)) := hw5.trans (belowK_b (w := w) (Nat.le_refl _) W5 D _ _ (by omega) hD5 rfl rfl)
    have d0 := hx6.cell (i := 0) rfl
    refine ⟨.int .i64 0, ?_, ?_, hw6⟩
    · simp [results, Tryz.results30, go_sem, d0]
    · rw [HV.out]
end
section
attribute [local go_sem] run_store_one
set_option linter.unusedVariables false
set_option linter.unusedSimpArgs false
set_option maxRecDepth 100000 in
theorem valid_mB (A : Option Addr) (n c : Nat) (cs : Nat → Nat → Value) (L : List (Rat × Rat)) (k : Nat) (w : World) (h : PV w w.heap.size A n c cs L) (hb : ∀ a ∈ L, Bv k a) (hn : n ≤ 100) (hk : k ≤ 10000) (hz : 3 ≤ n) (hz2 : n ≤ 12) :
    Calls Tryz.prog 14 #[.slice A n c] w (fun e w' => e = .returned (.bool (Pg.valid L)) ∧ Below w.heap.size w w') := by
  have HP := Lib.hid h; have HBV := Lib.hid hb; have HLEN := Lib.hid h.len
  clear h hb
  go_enter Tryz.func14, Tryz.ntmps14
  have hn0 : 0 < n := by omega
  obtain ⟨b36_, o36_, rfl, ks, -⟩ := HP.out.at_ hn0
  go_upto_region 2 with fail
  generalize hW : (w.alloc _).alloc _ = W37
  obtain ⟨hx0, hx1, hB⟩ := box2 hW
  have HS38 := hq hB
  have X39 := hq hx0; have lt40 := hx0.lt; clear hx0
  have X41 := hq hx1; have lt42 := hx1.lt; clear hx1
  clear hW hB
  go_upto_region 2 with fail
  refine gen_act fun F_ hF_ => ?_
  have ev3 := ev_ hF_ 3 (pt (w.heap.size + 1) 0) rfl
  have hN_ := sz_ hF_ 87 rfl
  have HF_ := hq hF_; clear hF_
  refine wp_fl0 (W := W37) false rfl 6 true [] [(11, []), (12, [0]), (13, [1]), (14, [2]), (15, [3, 2]), (16, [2, 4])] [.c (ni n), .c (.bool false), .c (.bool false), .c (ni n), .c (.bool false), .c (.bool false)] rfl rfl hN_ (by kernel_rfl) trivial ?_ ?_
  · refine s2_ rfl rfl (fun _ hT hs  => by
          have q0 := (X41.out.tn hT nin0).cell (i := 0) rfl
          have b3 := (hs 3 rfl).trans ev3
          simp [Act.eval] at b3
          exact Does.val (by simp [execOp, Act.eval, b3, go_sem, q0]) rfl) <|
      s0_ rfl rfl (fun k0 => Does.castB (decide_eq_false (by omega)) (bc_lss rfl k0)) <|
      s0_ rfl rfl (fun k0 => op_mv rfl k0) <|
      st_ (fun _ _ hT _ hs k0 => by
          have q0 := (X41.out.tn hT nin0).cell (i := 0) rfl
          have b3 := (hs 3 rfl).trans ev3
          simp [Act.eval] at b3
          exact gT rfl rfl rfl k0 rfl (Does.val (by simp [execOp, Act.eval, b3, go_sem, q0]) rfl)) <|
      st_ (fun _ _ _ _ _ k0 k1 => gT rfl rfl rfl k1 rfl (Does.castB (decide_eq_false (by omega)) (bc_gtr rfl k0))) <|
      ?_
    refine s0_ rfl rfl (fun {a _} k0 k1 => by
          have e0 : a.eval (.tmp 13) = .bool false := k0
          simp [Act.eval] at e0
          have e1 : a.eval (.tmp 15) = .bool false := k1
          simp [Act.eval] at e1
          exact Does.val (by simp [execOp, Act.eval, e0, e1, go_sem]) rfl) <|
      trivial
  intro val w43 hT hsp
  have e5 : val 5 = .bool false := hsp 5 (by omega)
  rw [← HF_.out]
  simp only [Pu1, Pu2, Zs1, Zs2, Zs3, Nat.zero_add, Nat.reduceAdd, e5]
  have HS44 := hq hT.b0
  clear hsp HF_ hN_ hT e5
  clear ev3
  go_upto_region 4 with fail
  have X45 := hq (X39.out.below HS44.out)
  refine gen_act fun F_ hF_ => ?_
  have ev1 := ev_ hF_ 1 (pt w.heap.size 0) rfl
  have hN_ := sz_ hF_ 87 rfl
  have HF_ := hq hF_; clear hF_
  refine wp_fl0 (W := w43) false rfl 3 true [] [(17, []), (18, [0]), (19, [])] [.c (sl_ b36_ o36_ n c), .c (ni n), .c (.int .i64 0)] rfl rfl hN_ (by kernel_rfl) trivial ?_ ?_
  · refine s2_ rfl rfl (fun _ hT hs  => ld_slV rfl ((hs 1 rfl).trans ev1) (X45.out.tn hT nin0) rfl) <|
      s0_ rfl rfl (fun k0 => len_sl rfl k0) <|
      sj_ rfl <|
      trivial
  intro val w46 hT hsp
  have e0 : val 0 = .slice (some ⟨b36_, o36_, none⟩) n c := hsp 0 (by omega)
  have e1 : val 1 = .int .i64 (n : Int) := hsp 1 (by omega)
  have e2 : val 2 = .int .i64 0 := hsp 2 (by omega)
  rw [← HF_.out]
  simp only [Pu1, Pu2, Zs1, Zs2, Zs3, Nat.zero_add, Nat.reduceAdd, e0, e1, e2]
  have HS47 := hq hT.b0
  clear hsp HF_ hN_ hT e0 e1 e2
  clear ev1
  have k9 := hq (Blw (Blw HS38.out HS44.out) HS47.out)
  go_wp2_with fail
  go_loopw [19] (fun ix wr => ∃ (t : Nat), t ≤ n ∧ ix = .int .i64 (t : Int) ∧ Hid (True) ∧ Hid (Below w46.heap.size w46 wr)) (fun ix _ => n - (intOf ix).toNat)
  case atStart => exact ⟨0, by omega, rfl, hq (trivial), hq (Below.refl _ _)⟩
  case round =>
    obtain ⟨t, hi48, rfl, HI48, HW48⟩ := hrel
    obtain ⟨wo48, rfl⟩ : ∃ wo : World, wo = wr := ⟨_, rfl⟩
    by_cases k5 : t < n
    · have hid48 := decide_eq_true k5
      have k7 := hq (Blw k9.out HW48.out)
      have HP51 := hq (HP.out.bel k7.out (Nat.le_refl _))
      obtain ⟨ka, hv50⟩ := PV.el (i := t) HP51.out k7.out.size k5
      have HC50 := hq ka; have HV50 := hq hv50; clear ka hv50
      have HBt := Lib.hid (PV.bv HP.out HBV.out k5)
      go_upto_region 6 with fail
      refine gen_act fun F_ hF_ => ?_
      have ev17 := ev_ hF_ 17 (sl_ b36_ o36_ n c) rfl
      have ev19 := ev_ hF_ 19 (ni t) rfl
      have hN_ := sz_ hF_ 87 rfl
      have HF_ := hq hF_; clear hF_
      refine wp_flA (W := wo48) false rfl 3 true [] [(21, []), (22, [0]), (5, [])] [.c (pt b36_ (o36_ + t * 8)), .c (ag_ cs t), .n 35 [.bool false, .slice none 0 0, .bool false, .slice none 0 0, .bool false, .slice none 0 0, .bool false, .slice none 0 0]] 2 1 rfl rfl hN_ (by kernel_rfl) trivial rfl rfl rfl rfl rfl rfl rfl rfl (by kernel_rfl) (kn8 (HP51.out.one t 0) (HP51.out.one t 1) (HP51.out.one t 2) (HP51.out.one t 3) (HP51.out.one t 4) (HP51.out.one t 5) (HP51.out.one t 6) (HP51.out.one t 7)) ?_ ?_
      · refine s2_ rfl rfl (fun _ _ hs  => ix_Vec rfl ((hs 17 rfl).trans ev17) ((hs 19 rfl).trans ev19) k5) <|
          s1_ rfl rfl (fun _ hT k0 => lc_Vec rfl k0 (HC50.out.tn hT nin0)) <|
          s1_ rfl rfl (fun _ hT  => Does.box (by simp [execOp, go_sem]) (hT.b0)) <|
          trivial
      intro val w53 g2 cs54 hT hsp e2 hge2 hgl2 hx54 hpo54
      subst hpo54
      change Bx w53 _ _ [(cs t 0), (cs t 1), (cs t 2), (cs t 3), (cs t 4), (cs t 5), (cs t 6), (cs t 7)] at hx54
      obtain ⟨g_55, rfl⟩ : ∃ g : Nat, g = g2 := ⟨_, rfl⟩
      have X57 := hq ((X45.out.below HS47.out).below HW48.out)
      have hne58 : g_55 ≠ w.heap.size := by have h1 := X57.out.lt; omega
      have X59 := hq (((X41.out.below HS44.out).below HS47.out).below HW48.out)
      have hne60 : g_55 ≠ w.heap.size + 1 := by have h1 := X59.out.lt; omega
      have hlo56 : w.heap.size ≤ g_55 := by have h1 := k7.out.size; omega
      have hlo61 : w46.heap.size ≤ g_55 := by have hz0 := HW48.out.size; omega
      rw [← HF_.out]
      simp only [Pu1, Pu2, Zs1, Zs2, Zs3, Nat.zero_add, Nat.reduceAdd, e2]
      have HS62 := hq hT.b0
      have X63 := hq hx54; clear hx54
      clear hsp HF_ hN_ hT e2
      clear ev17 ev19
      go_upto_region 7 with fail
      have kb := hq (HV50.out.kp (.of HS62.out))
      refine gen_act fun F_ hF_ => ?_
      have ev5 := ev_ hF_ 5 (pt g_55 0) rfl
      have hN_ := sz_ hF_ 87 rfl
      have HF_ := hq hF_; clear hF_
      refine wp_fl0 (W := w53) false rfl 10 true [] [(23, []), (24, [0]), (25, [1]), (26, [2]), (27, [3]), (28, [4]), (29, [5, 4]), (30, [6, 4]), (31, [7, 4]), (32, [4, 8])] [.c (pt g_55 0), .c (.agg #[(cs t 0), (cs t 1), (cs t 2), (cs t 3)]), .c (.bool true), .c (.bool false), .c (.bool false), .c (pt g_55 4), .c (.agg #[(cs t 4), (cs t 5), (cs t 6), (cs t 7)]), .c (.bool true), .c (.bool false), .c (.bool false)] rfl rfl hN_ (by kernel_rfl) trivial ?_ ?_
      · refine s2_ rfl rfl (fun _ _ hs  => fa_Vec0 rfl ((hs 5 rfl).trans ev5)) <|
          s1_ rfl rfl (fun _ hT k0 => ld_Rat rfl k0 (X63.out.tn hT nin0) rfl rfl rfl rfl) <|
          s1_ rfl rfl (fun wx hT k0 => Does.rc (f := 53) (call1 rfl (fun _ => by simp [go_sem]) k0) (rvalid_anyB k _ _ _ _ (L.getD t (0, 0)).1 wx ((kb.out.kp hT.kp)).1 HBt.out.1 (by omega))) <|
          s0_ rfl rfl (fun {a _} k0 => by
              have e0 : a.eval (.tmp 25) = .bool true := k0
              simp [Act.eval] at e0
              exact Does.val (by simp [execOp, Act.eval, e0, go_sem]) rfl) <|
          s0_ rfl rfl (fun k0 => op_mv rfl k0) <|
          ?_
        refine st_ (fun _ _ _ _ hs k0 => gT rfl rfl rfl k0 rfl (fa_Vec1 rfl ((hs 5 rfl).trans ev5))) <|
          st_ (fun _ _ hT _ _ k0 k1 => gT rfl rfl rfl k1 rfl (ld_Rat rfl k0 (X63.out.tn hT nin0) rfl rfl rfl rfl)) <|
          st_ (fun _ wx hT _ _ k0 k1 => gT rfl rfl rfl k1 rfl (Does.rc (f := 53) (call1 rfl (fun _ => by simp [go_sem]) k0) (rvalid_anyB k _ _ _ _ (L.getD t (0, 0)).2 wx ((kb.out.kp hT.kp)).2 HBt.out.2 (by omega)))) <|
          st_ (fun a _ _ _ _ k0 k1 => by
              have e0 : a.eval (.tmp 30) = .bool true := k0
              simp [Act.eval] at e0
              exact gT rfl rfl rfl k1 rfl (Does.val (by simp [execOp, Act.eval, e0, go_sem]) rfl)) <|
          s0_ rfl rfl (fun {a _} k0 k1 => by
              have e0 : a.eval (.tmp 27) = .bool false := k0
              simp [Act.eval] at e0
              have e1 : a.eval (.tmp 31) = .bool false := k1
              simp [Act.eval] at e1
              exact Does.val (by simp [execOp, Act.eval, e0, e1, go_sem]) rfl) <|
          trivial
      intro val w66 hT hsp
      have e9 : val 9 = .bool false := hsp 9 (by omega)
      rw [← HF_.out]
      simp only [Pu1, Pu2, Zs1, Zs2, Zs3, Nat.zero_add, Nat.reduceAdd, e9]
      have HS67 := hq hT.b0
      clear hsp HF_ hN_ hT e9
      clear ev5
      go_wp2_with fail
      go_roundw
      case rel => exact ⟨t + 1, by omega, by go_num, hq (trivial), hq ((Blw (Blw HW48.out HS62.out) HS67.out))⟩
      case measure => simp [intOf]; omega
    · have hid48 := decide_eq_false k5
      go_upto_region 10 with fail
      refine gen_act fun F_ hF_ => ?_
      have ev1 := ev_ hF_ 1 (pt w.heap.size 0) rfl
      have ev3 := ev_ hF_ 3 (pt (w.heap.size + 1) 0) rfl
      have hN_ := sz_ hF_ 87 rfl
      have HF_ := hq hF_; clear hF_
      refine wp_fl0 (W := wo48) false rfl 2 true [] [(34, []), (6, [0])] [.c (.func (.func 54) #[] #[.pointer (some ⟨w.heap.size, 0, none⟩), .pointer (some ⟨w.heap.size + 1, 0, none⟩)]), .c (.func (.func 54) #[] #[.pointer (some ⟨w.heap.size, 0, none⟩), .pointer (some ⟨w.heap.size + 1, 0, none⟩)])] rfl rfl hN_ (by kernel_rfl) trivial ?_ ?_
      · refine s2_ rfl rfl (fun _ _ hs  => mkf2 rfl ((hs 1 rfl).trans ev1) ((hs 3 rfl).trans ev3)) <|
          s0_ rfl rfl (fun k0 => op_as rfl k0) <|
          trivial
      intro val w68 hT hsp
      have e1 : val 1 = .func (.func 54) #[] #[.pointer (some ⟨w.heap.size, 0, none⟩), .pointer (some ⟨w.heap.size + 1, 0, none⟩)] := hsp 1 (by omega)
      rw [← HF_.out]
      simp only [Pu1, Pu2, Zs1, Zs2, Zs3, Nat.zero_add, e1]
      have HS69 := hq hT.b0
      clear hsp HF_ hN_ hT e1
      clear ev1 ev3
      go_upto_region 11 with fail
      have X70 := hq ((((X41.out.below HS44.out).below HS47.out).below HW48.out).below HS69.out)
      refine gen_act fun F_ hF_ => ?_
      have ev3 := ev_ hF_ 3 (pt (w.heap.size + 1) 0) rfl
      have hN_ := sz_ hF_ 87 rfl
      have HF_ := hq hF_; clear hF_
      refine wp_fl0 (W := w68) false rfl 2 true [] [(35, []), (36, [])] [.c (ni n), .c (.int .i64 0)] rfl rfl hN_ (by kernel_rfl) trivial ?_ ?_
      · refine s2_ rfl rfl (fun _ hT hs  => by
              have q0 := (X70.out.tn hT nin0).cell (i := 0) rfl
              have b3 := (hs 3 rfl).trans ev3
              simp [Act.eval] at b3
              exact Does.val (by simp [execOp, Act.eval, b3, go_sem, q0]) rfl) <|
          sj_ rfl <|
          trivial
      intro val w71 hT hsp
      have e0 : val 0 = .int .i64 (n : Int) := hsp 0 (by omega)
      have e1 : val 1 = .int .i64 0 := hsp 1 (by omega)
      rw [← HF_.out]
      simp only [Pu1, Pu2, Zs1, Zs2, Zs3, Nat.zero_add, e0, e1]
      have HS72 := hq hT.b0
      clear hsp HF_ hN_ hT e0 e1
      clear ev3
      have kc := hq (Blw (Blw (Blw k9.out HW48.out) HS69.out) HS72.out)
      go_wp2_with fail
      go_loopw [36] (fun ix wr => ∃ (i : Nat), i ≤ n ∧ ix = .int .i64 (i : Int) ∧ Hid (∀ t, t < i → Pg.bad L t = false) ∧ Hid (Below w71.heap.size w71 wr)) (fun ix _ => n - (intOf ix).toNat)
      case atStart => exact ⟨0, by omega, rfl, hq (fun t ht => absurd ht (by omega)), hq (Below.refl _ _)⟩
      case round =>
        obtain ⟨i, hi73, rfl, HI73, HW73⟩ := hrel
        obtain ⟨wo73, rfl⟩ : ∃ wo : World, wo = wr := ⟨_, rfl⟩
        by_cases k6 : i < n
        · have hid73 := decide_eq_true k6
          go_upto_region 13 with fail
          refine gen_act fun F_ hF_ => ?_
          have ev36 := ev_ hF_ 36 (ni i) rfl
          have hN_ := sz_ hF_ 87 rfl
          have HF_ := hq hF_; clear hF_
          refine wp_fl0 (W := wo73) false rfl 2 true [] [(38, []), (7, [0])] [.c (ni i), .c (ni i)] rfl rfl hN_ (by kernel_rfl) trivial ?_ ?_
          · refine sm_ rfl rfl ev36 <|
              s0_ rfl rfl (fun k0 => op_as rfl k0) <|
              trivial
          intro val w75 hT hsp
          have e1 : val 1 = .int .i64 (i : Int) := hsp 1 (by omega)
          rw [← HF_.out]
          simp only [Pu1, Pu2, Zs1, Zs2, Zs3, Nat.zero_add, e1]
          have HS76 := hq hT.b0
          clear hsp HF_ hN_ hT e1
          clear ev36
          obtain ⟨m0, hm0⟩ : ∃ m : Nat, m = (i) % n := ⟨_, rfl⟩
          have hlm0 : m0 < n := by rw [hm0]; exact Nat.mod_lt _ hn0
          have Hm0 := Lib.hid hm0
          clear hm0
          have k2 := hq (Blw (Blw kc.out HW73.out) HS76.out)
          have HP78 := hq (HP.out.bel k2.out (Nat.le_refl _))
          obtain ⟨kd, hv77⟩ := PV.el (i := m0) HP78.out k2.out.size hlm0
          have HC77 := hq kd; have HV77 := hq hv77; clear kd hv77
          have HBm0 := Lib.hid (PV.bv HP.out HBV.out hlm0)
          obtain ⟨m1, hm1⟩ : ∃ m : Nat, m = (i + 1) % n := ⟨_, rfl⟩
          have hlm1 : m1 < n := by rw [hm1]; exact Nat.mod_lt _ hn0
          have Hm1 := Lib.hid hm1
          clear hm1
          have HP81 := hq (HP.out.bel k2.out (Nat.le_refl _))
          obtain ⟨ke, hv80⟩ := PV.el (i := m1) HP81.out k2.out.size hlm1
          have HC80 := hq ke; have HV80 := hq hv80; clear ke hv80
          have HBm1 := Lib.hid (PV.bv HP.out HBV.out hlm1)
          obtain ⟨m2, hm2⟩ : ∃ m : Nat, m = (i + 2) % n := ⟨_, rfl⟩
          have hlm2 : m2 < n := by rw [hm2]; exact Nat.mod_lt _ hn0
          have Hm2 := Lib.hid hm2
          clear hm2
          have HP83 := hq (HP.out.bel k2.out (Nat.le_refl _))
          obtain ⟨kf, hv82⟩ := PV.el (i := m2) HP83.out k2.out.size hlm2
          have HC82 := hq kf; have HV82 := hq hv82; clear kf hv82
          have HBm2 := Lib.hid (PV.bv HP.out HBV.out hlm2)
          go_upto_region 14 with fail
          have X84 := hq ((((((X45.out.below HS47.out).below HW48.out).below HS69.out).below HS72.out).below HW73.out).below HS76.out)
          have X85 := hq (((X70.out.below HS72.out).below HW73.out).below HS76.out)
          refine gen_act fun F_ hF_ => ?_
          have ev6 := ev_ hF_ 6 (.func (.func 54) #[] #[.pointer (some ⟨w.heap.size, 0, none⟩), .pointer (some ⟨w.heap.size + 1, 0, none⟩)]) rfl
          have ev7 := ev_ hF_ 7 (ni i) rfl
          have hN_ := sz_ hF_ 87 rfl
          have HF_ := hq hF_; clear hF_
          refine wp_fl0 (W := w75) false rfl 13 true [] [(39, []), (40, []), (41, [0, 1]), (42, []), (43, []), (44, [4]), (45, [3, 5]), (46, []), (47, []), (48, [8]), (49, [7, 9]), (50, [2, 6, 10]), (51, [11])] [.c (.func (.func 54) #[] #[.pointer (some ⟨w.heap.size, 0, none⟩), .pointer (some ⟨w.heap.size + 1, 0, none⟩)]), .c (ni i), .c (ag_ cs m0), .c (.func (.func 54) #[] #[.pointer (some ⟨w.heap.size, 0, none⟩), .pointer (some ⟨w.heap.size + 1, 0, none⟩)]), .c (ni i), .c (ni (i + 1)), .c (ag_ cs m1), .c (.func (.func 54) #[] #[.pointer (some ⟨w.heap.size, 0, none⟩), .pointer (some ⟨w.heap.size + 1, 0, none⟩)]), .c (ni i), .c (ni (i + 2)), .c (ag_ cs m2), .c (.int .i64 (vside (L.getD m0 (0, 0)) (L.getD m1 (0, 0)) (L.getD m2 (0, 0)))), .c (.bool ((vside (L.getD m0 (0, 0)) (L.getD m1 (0, 0)) (L.getD m2 (0, 0))) == 0))] rfl rfl hN_ (by kernel_rfl) trivial ?_ ?_
          · refine sm_ rfl rfl ev6 <|
              sm_ rfl rfl ev7 <|
              s1_ rfl rfl (fun wx hT k0 k1 => Does.rc (callc1 rfl (fun _ => by simp [go_sem]) k0 k1) (by rw [Hm0.out]; exact atc_any _ _ n c _ _ (i) cs L wx (HP.out.now (Tn.below k2.out hT (all0) (Nat.le_refl _))) (X84.out.tn hT nin0) (X85.out.tn hT nin0) hn0 (by omega))) <|
              sm_ rfl rfl ev6 <|
              sm_ rfl rfl ev7 <|
              ?_
            refine s0_ rfl rfl (fun k0 => ad_c rfl k0 rfl (by omega)) <|
              s1_ rfl rfl (fun wx hT k0 k1 => Does.rc (callc1 rfl (fun _ => by simp [go_sem]) k0 k1) (by rw [Hm1.out]; exact atc_any _ _ n c _ _ (i + 1) cs L wx (HP.out.now (Tn.below k2.out hT (all0) (Nat.le_refl _))) (X84.out.tn hT nin0) (X85.out.tn hT nin0) hn0 (by omega))) <|
              sm_ rfl rfl ev6 <|
              sm_ rfl rfl ev7 <|
              s0_ rfl rfl (fun k0 => ad_c rfl k0 rfl (by omega)) <|
              ?_
            refine s1_ rfl rfl (fun wx hT k0 k1 => Does.rc (callc1 rfl (fun _ => by simp [go_sem]) k0 k1) (by rw [Hm2.out]; exact atc_any _ _ n c _ _ (i + 2) cs L wx (HP.out.now (Tn.below k2.out hT (all0) (Nat.le_refl _))) (X84.out.tn hT nin0) (X85.out.tn hT nin0) hn0 (by omega))) <|
              s1_ rfl rfl (fun wx hT k0 k1 k3 => Does.rc (f := 55) (call3 rfl (fun _ => by simp [go_sem]) k0 k1 k3) (vside_anyB k _ _ _ _ _ _ _ _ _ _ _ _ _ _ _ _ _ _ _ _ _ _ _ _ (L.getD m0 (0, 0)) (L.getD m1 (0, 0)) (L.getD m2 (0, 0)) wx (HV77.out.kp hT.kp) (HV80.out.kp hT.kp) (HV82.out.kp hT.kp) HBm0.out HBm1.out HBm2.out (by omega))) <|
              s0_ rfl rfl (fun k0 => bc_eql rfl k0) <|
              trivial
          intro val w86 hT hsp
          have e12 : val 12 = .bool ((vside (L.getD m0 (0, 0)) (L.getD m1 (0, 0)) (L.getD m2 (0, 0))) == 0) := hsp 12 (by omega)
          obtain ⟨fl, hfl⟩ : ∃ b : Bool, b = ((vside (L.getD m0 (0, 0)) (L.getD m1 (0, 0)) (L.getD m2 (0, 0))) == 0) := ⟨_, rfl⟩
          rw [← hfl] at e12
          have Hfl := hq hfl
          clear hfl
          rw [← HF_.out]
          simp only [Pu1, Pu2, Zs1, Zs2, Zs3, Nat.zero_add, Nat.reduceAdd, e12]
          have HS87 := hq hT.b0
          clear hsp HF_ hN_ hT e12
          clear ev6 ev7
          have hfl : Pg.flatp L i = fl := by
            rw [Hfl.out]
            unfold Pg.flatp Pg.cor
            rw [← HLEN.out, Hm0.out, Hm1.out, Hm2.out]
            try rfl
          have HFL := Lib.hid hfl
          clear hfl
          rcases fl with _ | _
          · have hd0 : True := trivial
            go_upto_region 16 with fail
            refine gen_act fun F_ hF_ => ?_
            have ev7 := ev_ hF_ 7 (ni i) rfl
            have hN_ := sz_ hF_ 87 rfl
            have HF_ := hq hF_; clear hF_
            refine wp_fl0 (W := w86) false rfl 3 true [] [(52, []), (53, [0]), (8, [1])] [.c (ni i), .c (ni (i + 2)), .c (ni (i + 2))] rfl rfl hN_ (by kernel_rfl) trivial ?_ ?_
            · refine sm_ rfl rfl ev7 <|
                s0_ rfl rfl (fun k0 => ad_c rfl k0 rfl (by omega)) <|
                s0_ rfl rfl (fun k0 => op_as rfl k0) <|
                trivial
            intro val w88 hT hsp
            have e2 : val 2 = .int .i64 ((i + 2 : Nat) : Int) := hsp 2 (by omega)
            rw [← HF_.out]
            simp only [Pu1, Pu2, Zs1, Zs2, Zs3, Nat.zero_add, Nat.reduceAdd, e2]
            have HS89 := hq hT.b0
            clear hsp HF_ hN_ hT e2
            clear ev7
            have kj := hq (Blw (Blw k2.out HS87.out) HS89.out)
            go_wp2_with fail
            go_loopw [8] (fun ix wr => ∃ (j : Nat), j ≤ n + 2 ∧ i + 2 ≤ j ∧ ix = .int .i64 (j : Int) ∧ Hid (∀ t, i + 2 ≤ t → t < j → Pg.q L i t = false) ∧ Hid (Below w88.heap.size w88 wr)) (fun ix _ => n + 2 - (intOf ix).toNat)
            case atStart => exact ⟨i + 2, by omega, by omega, rfl, hq (fun t h1 h2 => absurd h2 (by omega)), hq (Below.refl _ _)⟩
            case round =>
              obtain ⟨j, hi90, hlo90, rfl, HI90, HW90⟩ := hrel
              obtain ⟨wo90, rfl⟩ : ∃ wo : World, wo = wr := ⟨_, rfl⟩
              by_cases k8 : j < n
              · have hid90 := decide_eq_true k8
                go_upto_region 17 with fail
                have X92 := hq (((X85.out.below HS87.out).below HS89.out).below HW90.out)
                refine gen_act fun F_ hF_ => ?_
                have ev3 := ev_ hF_ 3 (pt (w.heap.size + 1) 0) rfl
                have ev8 := ev_ hF_ 8 (ni j) rfl
                have hN_ := sz_ hF_ 87 rfl
                have HF_ := hq hF_; clear hF_
                refine wp_fl0 (W := wo90) false rfl 3 true [] [(54, []), (55, []), (56, [0, 1])] [.c (ni j), .c (ni n), .c (.bool true)] rfl rfl hN_ (by kernel_rfl) trivial ?_ ?_
                · refine sm_ rfl rfl ev8 <|
                    s2_ rfl rfl (fun _ hT hs  => by
                        have q0 := (X92.out.tn hT nin0).cell (i := 0) rfl
                        have b3 := (hs 3 rfl).trans ev3
                        simp [Act.eval] at b3
                        exact Does.val (by simp [execOp, Act.eval, b3, go_sem, q0]) rfl) <|
                    s0_ rfl rfl (fun k0 k1 => Does.castB (decide_eq_true (by omega)) (bt_lss rfl k0 k1)) <|
                    trivial
                intro val w93 hT hsp
                have e2 : val 2 = .bool true := hsp 2 (by omega)
                rw [← HF_.out]
                simp only [Pu1, Pu2, Zs1, Zs2, Zs3, Nat.zero_add, Nat.reduceAdd, e2]
                have HS94 := hq hT.b0
                clear hsp HF_ hN_ hT e2
                clear ev3 ev8
                obtain ⟨m5, hm5⟩ : ∃ m : Nat, m = (j) % n := ⟨_, rfl⟩
                have hlm5 : m5 < n := by rw [hm5]; exact Nat.mod_lt _ hn0
                have Hm5 := Lib.hid hm5
                clear hm5
                have k4 := hq (Blw (Blw kj.out HW90.out) HS94.out)
                have HP99 := hq (HP.out.bel k4.out (Nat.le_refl _))
                obtain ⟨kg, hv98⟩ := PV.el (i := m5) HP99.out k4.out.size hlm5
                have HC98 := hq kg; have HV98 := hq hv98; clear kg hv98
                have HBm5 := Lib.hid (PV.bv HP.out HBV.out hlm5)
                obtain ⟨m6, hm6⟩ : ∃ m : Nat, m = (j + 1) % n := ⟨_, rfl⟩
                have hlm6 : m6 < n := by rw [hm6]; exact Nat.mod_lt _ hn0
                have Hm6 := Lib.hid hm6
                clear hm6
                have HP102 := hq (HP.out.bel k4.out (Nat.le_refl _))
                obtain ⟨kh, hv101⟩ := PV.el (i := m6) HP102.out k4.out.size hlm6
                have HC101 := hq kh; have HV101 := hq hv101; clear kh hv101
                have HBm6 := Lib.hid (PV.bv HP.out HBV.out hlm6)
                go_upto_region 19 with fail
                have X103 := hq (X92.out.below HS94.out)
                have X104 := hq ((((X84.out.below HS87.out).below HS89.out).below HW90.out).below HS94.out)
                have kk := hq ((((HV77.out.kp (.of HS87.out)).kp (.of HS89.out)).kp (.of HW90.out)).kp (.of HS94.out))
                have kl := hq ((((HV80.out.kp (.of HS87.out)).kp (.of HS89.out)).kp (.of HW90.out)).kp (.of HS94.out))
                refine gen_act fun F_ hF_ => ?_
                have ev3 := ev_ hF_ 3 (pt (w.heap.size + 1) 0) rfl
                have ev6 := ev_ hF_ 6 (.func (.func 54) #[] #[.pointer (some ⟨w.heap.size, 0, none⟩), .pointer (some ⟨w.heap.size + 1, 0, none⟩)]) rfl
                have ev7 := ev_ hF_ 7 (ni i) rfl
                have ev8 := ev_ hF_ 8 (ni j) rfl
                have hN_ := sz_ hF_ 87 rfl
                have HF_ := hq hF_; clear hF_
                refine wp_fl0 (W := w93) false rfl 23 true [] [(59, []), (60, [0]), (61, []), (62, [1, 2]), (63, []), (64, [3, 4]), (65, [5]), (66, [6]), (67, [6]), (68, [7, 8, 6]), (69, [6]), (70, [6]), (71, [11, 6]), (72, [10, 12, 6]), (73, [6]), (74, [6]), (75, [14, 15, 6]), (76, [6]), (77, [6]), (78, [18, 6]), (79, [17, 19, 6]), (80, [9, 13, 16, 20, 6]), (81, [6, 21])] [.c (ni j), .c (ni (j + 1)), .c (ni n), .c (ni ((j + 1) % n)), .c (ni i), .c (.bool ((((j + 1) % n : Nat) : Int) != (i : Int))), .c (.bool ((((j + 1) % n : Nat) : Int) != (i : Int))), .g (((((j + 1) % n : Nat) : Int) != (i : Int)) == true) (.c (.func (.func 54) #[] #[.pointer (some ⟨w.heap.size, 0, none⟩), .pointer (some ⟨w.heap.size + 1, 0, none⟩)])), .g (((((j + 1) % n : Nat) : Int) != (i : Int)) == true) (.c (ni i)), .g (((((j + 1) % n : Nat) : Int) != (i : Int)) == true) (.c (ag_ cs m0)), .g (((((j + 1) % n : Nat) : Int) != (i : Int)) == true) (.c (.func (.func 54) #[] #[.pointer (some ⟨w.heap.size, 0, none⟩), .pointer (some ⟨w.heap.size + 1, 0, none⟩)])), .g (((((j + 1) % n : Nat) : Int) != (i : Int)) == true) (.c (ni i)), .g (((((j + 1) % n : Nat) : Int) != (i : Int)) == true) (.c (ni (i + 1))), .g (((((j + 1) % n : Nat) : Int) != (i : Int)) == true) (.c (ag_ cs m1)), .g (((((j + 1) % n : Nat) : Int) != (i : Int)) == true) (.c (.func (.func 54) #[] #[.pointer (some ⟨w.heap.size, 0, none⟩), .pointer (some ⟨w.heap.size + 1, 0, none⟩)])), .g (((((j + 1) % n : Nat) : Int) != (i : Int)) == true) (.c (ni j)), .g (((((j + 1) % n : Nat) : Int) != (i : Int)) == true) (.c (ag_ cs m5)), .g (((((j + 1) % n : Nat) : Int) != (i : Int)) == true) (.c (.func (.func 54) #[] #[.pointer (some ⟨w.heap.size, 0, none⟩), .pointer (some ⟨w.heap.size + 1, 0, none⟩)])), .g (((((j + 1) % n : Nat) : Int) != (i : Int)) == true) (.c (ni j)), .g (((((j + 1) % n : Nat) : Int) != (i : Int)) == true) (.c (ni (j + 1))), .g (((((j + 1) % n : Nat) : Int) != (i : Int)) == true) (.c (ag_ cs m6)), .g (((((j + 1) % n : Nat) : Int) != (i : Int)) == true) (.c (.bool (Pg.meets (L.getD m0 (0, 0)) (L.getD m1 (0, 0)) (L.getD m5 (0, 0)) (L.getD m6 (0, 0))))), .c (.bool (((((j + 1) % n : Nat) : Int) != (i : Int)) && (Pg.meets (L.getD m0 (0, 0)) (L.getD m1 (0, 0)) (L.getD m5 (0, 0)) (L.getD m6 (0, 0)))))] rfl rfl hN_ (by kernel_rfl) (by exact trivial) ?_ ?_
                · refine sm_ rfl rfl ev8 <|
                    s0_ rfl rfl (fun k0 => ad_c rfl k0 rfl (by omega)) <|
                    s2_ rfl rfl (fun _ hT hs  => by
                        have q0 := (X103.out.tn hT nin0).cell (i := 0) rfl
                        have b3 := (hs 3 rfl).trans ev3
                        simp [Act.eval] at b3
                        exact Does.val (by simp [execOp, Act.eval, b3, go_sem, q0]) rfl) <|
                    s0_ rfl rfl (fun k0 k1 => rm_t rfl k0 k1 (by omega)) <|
                    sm_ rfl rfl ev7 <|
                    ?_
                  refine s0_ rfl rfl (fun k0 k1 => bt_neq rfl k0 k1) <|
                    s0_ rfl rfl (fun k0 => op_mv rfl k0) <|
                    st_ (fun _ _ _ _ hs k0 => gC rfl rfl rfl k0 (fun hC => op_mv (s := SC _) rfl ((hs 6 rfl).trans ev6))) <|
                    st_ (fun _ _ _ _ hs k0 => gC rfl rfl rfl k0 (fun hC => op_mv (s := SC _) rfl ((hs 7 rfl).trans ev7))) <|
                    st_ (fun _ wx hT _ _ k0 k1 k3 => gC rfl rfl rfl k3 (fun hC => Does.rc (callc1 rfl (fun _ => by simp [go_sem]) (SG.on hC k0) (SG.on hC k1)) (by rw [Hm0.out]; exact atc_any _ _ n c _ _ (i) cs L wx (HP.out.now (Tn.below k4.out hT (all0) (Nat.le_refl _))) (X104.out.tn hT nin0) (X103.out.tn hT nin0) hn0 (by omega)))) <|
                    ?_
                  refine st_ (fun _ _ _ _ hs k0 => gC rfl rfl rfl k0 (fun hC => op_mv (s := SC _) rfl ((hs 6 rfl).trans ev6))) <|
                    st_ (fun _ _ _ _ hs k0 => gC rfl rfl rfl k0 (fun hC => op_mv (s := SC _) rfl ((hs 7 rfl).trans ev7))) <|
                    st_ (fun _ _ _ _ _ k0 k1 => gC rfl rfl rfl k1 (fun hC => ad_c rfl (SG.on hC k0) rfl (by omega))) <|
                    st_ (fun _ wx hT _ _ k0 k1 k3 => gC rfl rfl rfl k3 (fun hC => Does.rc (callc1 rfl (fun _ => by simp [go_sem]) (SG.on hC k0) (SG.on hC k1)) (by rw [Hm1.out]; exact atc_any _ _ n c _ _ (i + 1) cs L wx (HP.out.now (Tn.below k4.out hT (all0) (Nat.le_refl _))) (X104.out.tn hT nin0) (X103.out.tn hT nin0) hn0 (by omega)))) <|
                    st_ (fun _ _ _ _ hs k0 => gC rfl rfl rfl k0 (fun hC => op_mv (s := SC _) rfl ((hs 6 rfl).trans ev6))) <|
                    ?_
                  refine st_ (fun _ _ _ _ hs k0 => gC rfl rfl rfl k0 (fun hC => op_mv (s := SC _) rfl ((hs 8 rfl).trans ev8))) <|
                    st_ (fun _ wx hT _ _ k0 k1 k3 => gC rfl rfl rfl k3 (fun hC => Does.rc (callc1 rfl (fun _ => by simp [go_sem]) (SG.on hC k0) (SG.on hC k1)) (by rw [Hm5.out]; exact atc_any _ _ n c _ _ (j) cs L wx (HP.out.now (Tn.below k4.out hT (all0) (Nat.le_refl _))) (X104.out.tn hT nin0) (X103.out.tn hT nin0) hn0 (by omega)))) <|
                    st_ (fun _ _ _ _ hs k0 => gC rfl rfl rfl k0 (fun hC => op_mv (s := SC _) rfl ((hs 6 rfl).trans ev6))) <|
                    st_ (fun _ _ _ _ hs k0 => gC rfl rfl rfl k0 (fun hC => op_mv (s := SC _) rfl ((hs 8 rfl).trans ev8))) <|
                    st_ (fun _ _ _ _ _ k0 k1 => gC rfl rfl rfl k1 (fun hC => ad_c rfl (SG.on hC k0) rfl (by omega))) <|
                    ?_
                  refine st_ (fun _ wx hT _ _ k0 k1 k3 => gC rfl rfl rfl k3 (fun hC => Does.rc (callc1 rfl (fun _ => by simp [go_sem]) (SG.on hC k0) (SG.on hC k1)) (by rw [Hm6.out]; exact atc_any _ _ n c _ _ (j + 1) cs L wx (HP.out.now (Tn.below k4.out hT (all0) (Nat.le_refl _))) (X104.out.tn hT nin0) (X103.out.tn hT nin0) hn0 (by omega)))) <|
                    st_ (fun _ wx hT _ _ k0 k1 k3 km kn => gC rfl rfl rfl kn (fun hC => Does.rc (f := 34) (call4 rfl (fun _ => by simp [go_sem]) (SG.on hC k0) (SG.on hC k1) (SG.on hC k3) (SG.on hC km)) (meets_anyB k _ _ _ _ _ _ _ _ _ _ _ _ _ _ _ _ _ _ _ _ _ _ _ _ _ _ _ _ _ _ _ _ (L.getD m0 (0, 0)) (L.getD m1 (0, 0)) (L.getD m5 (0, 0)) (L.getD m6 (0, 0)) wx (kk.out.kp hT.kp) (kl.out.kp hT.kp) (HV98.out.kp hT.kp) (HV101.out.kp hT.kp) HBm0.out HBm1.out HBm5.out HBm6.out (by omega) _ rfl))) <|
                    s0_ rfl rfl (fun k0 k1 => pick_and rfl k0 k1) <|
                    trivial
                intro val w107 hT hsp
                have e22 : val 22 = .bool (((((j + 1) % n : Nat) : Int) != (i : Int)) && (Pg.meets (L.getD m0 (0, 0)) (L.getD m1 (0, 0)) (L.getD m5 (0, 0)) (L.getD m6 (0, 0)))) := hsp 22 (by omega)
                obtain ⟨me, hme⟩ : ∃ b : Bool, b = (((((j + 1) % n : Nat) : Int) != (i : Int)) && (Pg.meets (L.getD m0 (0, 0)) (L.getD m1 (0, 0)) (L.getD m5 (0, 0)) (L.getD m6 (0, 0)))) := ⟨_, rfl⟩
                rw [← hme] at e22
                have Hme := hq hme
                clear hme
                rw [← HF_.out]
                simp only [Pu1, Pu2, Zs1, Zs2, Zs3, Nat.zero_add, Nat.reduceAdd, e22]
                have HS108 := hq hT.b0
                clear hsp HF_ hN_ hT e22
                clear ev3 ev6 ev7 ev8
                have hme : Pg.q L i j = me := by
                  rw [Hme.out]
                  unfold Pg.q Pg.cor
                  rw [← HLEN.out, Hm0.out, Hm1.out, Hm5.out, Hm6.out]
                  try rfl
                have HME := Lib.hid hme
                clear hme
                rcases me with _ | _
                · have hd0 : True := trivial
                  go_wp2_with fail
                  go_roundw
                  case rel => exact ⟨j + 1, by omega, by omega, by go_num, hq (fun t h1 h2 => by
                        by_cases htj : t = j
                        · rw [htj]; exact HME.out
                        · exact HI90.out t h1 (by omega)), hq ((Blw (Blw HW90.out HS94.out) HS108.out))⟩
                  case measure => simp [intOf]; omega
                · have hd0 : True := trivial
                  have ko := hq (Blw k4.out HS108.out)
                  go_wp2_with fail
                  go_ret
                  refine ⟨?_, ko.out⟩
                  have : Pg.valid L = false := by
                    unfold Pg.valid
                    rw [← HLEN.out, any_true k6 (show Pg.bad L i = true by unfold Pg.bad; rw [← HLEN.out, any_true k8 (by rw [decide_eq_true (show i + 2 ≤ j by omega), HME.out]; rfl)]; simp)]
                    simp
                  rw [this]
                  try rfl
              · have hid90 := decide_eq_false k8
                go_upto_region 17 with fail
                have X95 := hq (((X85.out.below HS87.out).below HS89.out).below HW90.out)
                refine gen_act fun F_ hF_ => ?_
                have ev3 := ev_ hF_ 3 (pt (w.heap.size + 1) 0) rfl
                have ev8 := ev_ hF_ 8 (ni j) rfl
                have hN_ := sz_ hF_ 87 rfl
                have HF_ := hq hF_; clear hF_
                refine wp_fl0 (W := wo90) false rfl 3 true [] [(54, []), (55, []), (56, [0, 1])] [.c (ni j), .c (ni n), .c (.bool false)] rfl rfl hN_ (by kernel_rfl) trivial ?_ ?_
                · refine sm_ rfl rfl ev8 <|
                    s2_ rfl rfl (fun _ hT hs  => by
                        have q0 := (X95.out.tn hT nin0).cell (i := 0) rfl
                        have b3 := (hs 3 rfl).trans ev3
                        simp [Act.eval] at b3
                        exact Does.val (by simp [execOp, Act.eval, b3, go_sem, q0]) rfl) <|
                    s0_ rfl rfl (fun k0 k1 => Does.castB (decide_eq_false (by omega)) (bt_lss rfl k0 k1)) <|
                    trivial
                intro val w96 hT hsp
                have e2 : val 2 = .bool false := hsp 2 (by omega)
                rw [← HF_.out]
                simp only [Pu1, Pu2, Zs1, Zs2, Zs3, Nat.zero_add, Nat.reduceAdd, e2]
                have HS97 := hq hT.b0
                clear hsp HF_ hN_ hT e2
                clear ev3 ev8
                have hall : ∀ t, t < n → (decide (i + 2 ≤ t) && Pg.q L i t) = false := fun t ht => by
                  by_cases h2 : i + 2 ≤ t
                  · rw [HI90.out t h2 (by omega)]; simp
                  · rw [decide_eq_false h2]; rfl
                have HALL := Lib.hid hall
                clear hall
                go_wp2_with fail
                go_roundw
                case rel => exact ⟨i + 1, by omega, by go_num, hq (fun t ht => by
                      by_cases hti : t = i
                      · rw [hti]
                        unfold Pg.bad
                        rw [HFL.out, ← HLEN.out, any_false HALL.out]
                        rfl
                      · exact HI73.out t (by omega)), hq ((Blw (Blw (Blw (Blw (Blw HW73.out HS76.out) HS87.out) HS89.out) HW90.out) HS97.out))⟩
                case measure => simp [intOf]; omega
          · have hd0 : True := trivial
            have kq := hq (Blw k2.out HS87.out)
            go_wp2_with fail
            go_ret
            refine ⟨?_, kq.out⟩
            have : Pg.valid L = false := by
              unfold Pg.valid
              rw [← HLEN.out, any_true k6 (show Pg.bad L i = true by unfold Pg.bad; rw [HFL.out]; rfl)]
              simp
            rw [this]
            try rfl
        · have hid73 := decide_eq_false k6
          have hall : ∀ t, t < n → Pg.bad L t = false := fun t ht => HI73.out t (by omega)
          go_upto_region 22 with fail
          have X111 := hq (((((X45.out.below HS47.out).below HW48.out).below HS69.out).below HS72.out).below HW73.out)
          have ki := hq (Blw kc.out HW73.out)
          refine gen_act fun F_ hF_ => ?_
          have ev1 := ev_ hF_ 1 (pt w.heap.size 0) rfl
          have hN_ := sz_ hF_ 87 rfl
          have HF_ := hq hF_; clear hF_
          refine wp_fl0 (W := wo73) false rfl 5 true [] [(83, []), (84, [0]), (85, [1]), (86, [2]), (2, [3])] [.c (sl_ b36_ o36_ n c), .r (Pg.area L), .c (.int .i64 (sgnZ (Pg.area L).num)), .c (.bool (decide (0 < (sgnZ (Pg.area L).num)))), .c (.bool (decide (0 < (sgnZ (Pg.area L).num))))] rfl rfl hN_ (by kernel_rfl) trivial ?_ ?_
          · refine s2_ rfl rfl (fun _ hT hs  => ld_slV rfl ((hs 1 rfl).trans ev1) (X111.out.tn hT nin0) rfl) <|
              s1_ rfl rfl (fun wx hT k0 => Does.rr (f := 24) (call1 rfl (fun _ => by simp [go_sem]) k0) (area_anyB k _ n c cs L wx (HP.out.now (Tn.below ki.out hT (all0) (Nat.le_refl _))) HBV.out (by have h9 : (20 * k + 100) * (n + 2) ≤ (20 * 10000 + 100) * (100 + 2) := Nat.mul_le_mul (by omega) (by omega); omega))) <|
              s1_ rfl rfl (fun wx _ k0 => by
                  obtain ⟨ar0, ar1, ar2, ar3, e0, h_ar⟩ := k0
                  exact Does.rc (f := 37) (call1 rfl (fun _ => by simp [go_sem]) e0) (rsign_anyB _ _ _ _ _ wx h_ar)) <|
              s0_ rfl rfl (fun k0 => bc_gtr rfl k0) <|
              s0_ rfl rfl (fun k0 => op_as rfl k0) <|
              trivial
          intro val w113 hT hsp
          have e4 : val 4 = .bool (decide (0 < (sgnZ (Pg.area L).num))) := hsp 4 (by omega)
          obtain ⟨fin, hfin⟩ : ∃ b : Bool, b = (decide (0 < (sgnZ (Pg.area L).num))) := ⟨_, rfl⟩
          rw [← hfin] at e4
          have Hfin := hq hfin
          clear hfin
          rw [← HF_.out]
          simp only [Pu1, Pu2, Zs1, Zs2, Zs3, Nat.zero_add, Nat.reduceAdd, e4]
          have HS114 := hq hT.b0
          clear hsp HF_ hN_ hT e4
          clear ev1
          have hres : Pg.valid L = fin := by
            rw [Hfin.out]
            unfold Pg.valid
            rw [← HLEN.out, any_false hall, decide_eq_true hz, decide_eq_true hz2]
            simp
          have kr := hq (Blw ki.out HS114.out)
          go_wp2_with fail
          go_ret
          refine ⟨?_, kr.out⟩
          rw [hres]
          try rfl
theorem valid_anyB (A : Option Addr) (n c : Nat) (cs : Nat → Nat → Value) (L : List (Rat × Rat)) (k : Nat) (w : World) (h : PV w w.heap.size A n c cs L) (hb : ∀ a ∈ L, Bv k a) (hn : n ≤ 100) (hk : k ≤ 10000) :
    Calls Tryz.prog 14 #[.slice A n c] w (fun e w' => e = .returned (.bool (Pg.valid L)) ∧ Below w.heap.size w w') := by
  have hl := h.len
  by_cases h1 : n < 3
  · rw [show Pg.valid L = false by unfold Pg.valid; rw [decide_eq_false (by omega : ¬ 3 ≤ L.length)]; simp]
    exact valid_s0 A n c cs L k w h hb hn hk h1
  · by_cases h2 : 12 < n
    · rw [show Pg.valid L = false by unfold Pg.valid; rw [decide_eq_false (by omega : ¬ L.length ≤ 12)]; simp]
      exact valid_s1 A n c cs L k w h hb hn hk h2
    · exact valid_mB A n c cs L k w h hb hn hk (by omega) (by omega)
end
end Go.Proofs.YtcfejkpadcccbaaGreat
