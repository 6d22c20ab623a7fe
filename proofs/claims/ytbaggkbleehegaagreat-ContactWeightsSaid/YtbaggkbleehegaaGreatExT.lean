/-
 CONTACT: the law ContactWeights, by the engine: the whole.
-/
import Derived.Test.YtbaggkbleehegaaGreatExS
namespace Go.Proofs.YtbaggkbleehegaaGreat.E.Ct
open Go.RowKit
set_option linter.unusedVariables false
set_option linter.unusedSimpArgs false
section
variable {l : List Int} {x y z : Int} {i j k m n b : Nat} {st gl : Int} {s : Sc} {F : List Ft} {rt : Nat → Int}
theorem sgn_0 : (sgnZ (0 : Rat).num == 0) = true := by decide +kernel
theorem bod_len (s : Sc) (rt : Nat → Int) : (boR (bodF s rt)).length = (rts rt s.L.length).length := by rw [boR_len]; unfold bodF; rw [List.length_map]
/-- The bodies are gone through. -/
theorem w_2 {AL : List (List V)} (w : Wt s F st gl AL) {S1 S2 : Rat} (b1 : Bq 90000 S1) (b2 : Bq 90000 S2) (h1 : sumR (lgB s (rtB st gl F)) = S1) (h2 : sumR (hvB s (rtB st gl F)) = S2) : GW (lp flw 1) ⟨w2T s F st gl AL 0 [], [.bx 27 (scV s F), .bx 37 (dR (dif S1 (lgB s (rtB st gl F)) 0)), .bx 37 (dR (dif S2 (hvB s (rtB st gl F)) 0))]⟩ := by
 have hrt := rtB_ok (st := st) (gl := gl) w.ok.f
 have hn := w.ok.ok.n
 have hn3 := w.ok.n
 have hbl := bod_len s (rtB st gl F)
 have hrl := rts_len (rtB st gl F) s.L.length
 have hlg : (lgB s (rtB st gl F)).length = (rts (rtB st gl F) s.L.length).length := by unfold lgB bodF; rw [List.length_map, List.length_map]
 have hhv : (hvB s (rtB st gl F)).length = (rts (rtB st gl F) s.L.length).length := by unfold hvB bodF; rw [List.length_map, List.length_map]
 have bl : ∀ t ∈ lgB s (rtB st gl F), Bq 9000000000 t := fun t ht => by
  obtain ⟨u, hu, rfl⟩ := List.mem_map.1 ht
  obtain ⟨j, hj, rfl⟩ := List.mem_map.1 hu
  exact (bod_fin w.ok (mem_rts.1 hj).1).2.1
 have bh : ∀ t ∈ hvB s (rtB st gl F), Bq 9000000000 t := fun t ht => by
  obtain ⟨u, hu, rfl⟩ := List.mem_map.1 ht
  obtain ⟨j, hj, rfl⟩ := List.mem_map.1 hu
  exact (bod_fin w.ok (mem_rts.1 hj).1).2.2.1
 have hal := w.al
 refine Gd.loop (fun (i : Nat) => (⟨w2T s F st gl AL i [], [.bx 27 (scV s F), .bx 37 (dR (dif S1 (lgB s (rtB st gl F)) i)), .bx 37 (dR (dif S2 (hvB s (rtB st gl F)) i))]⟩ : St)) (fun i => i ≤ (rts (rtB st gl F) s.L.length).length) (fun i => (rts (rtB st gl F) s.L.length).length - i) ?_ 0 (Nat.zero_le _)
 intro i hi ih
 let E0 : F_ := .eqv 157 (ni ((boR (bodF s (rtB st gl F))).length : Int)) (ni ((rts (rtB st gl F) s.L.length).length : Int)) (by rw [hbl])
 by_cases h : i < (rts (rtB st gl F) s.L.length).length
 · have nx := ih (i + 1) h (by omega)
   obtain ⟨j, j1, j2, j3, j4, j5⟩ := bod_at h
   have e0 := bo_at j5
   obtain ⟨f1, f2, f3, f4⟩ := bod_fin (rt := rtB st gl F) w.ok j3
   have eL : (lgB s (rtB st gl F))[i]? = some (acc s (rtB st gl F) j s.L.length).light := by unfold lgB; rw [List.getElem?_map, j5]; rfl
   have eH : (hvB s (rtB st gl F))[i]? = some (acc s (rtB st gl F) j s.L.length).heavy := by unfold hvB; rw [List.getElem?_map, j5]; rfl
   have dL1 := dif_bits b1 bl i (by omega)
   have dH1 := dif_bits b2 bh i (by omega)
   have hib : (9000000000 + 1) * i ≤ 28000000000 := by
    have := Nat.mul_le_mul_left (9000000000 + 1) (show i ≤ 3 by omega)
    omega
   rw [dif_succ eL, dif_succ eH] at nx
   have c1 := e_rsub dL1 f2 (by omega)
   have c2 := e_rsub dH1 f3 (by omega)
   have hcb : ∀ v ∈ ceL s (rtB st gl F) j s.L.length, Bv 300000 v := fun v hv => cel_bits w.ok v hv (Nat.le_refl _)
   have hcl : (ceL s (rtB st gl F) j s.L.length).length ≤ 100 := by
    unfold ceL
    rw [List.length_map]
    have := List.length_filter_le (fun m => decide (rtB st gl F m = (j : Int))) (List.range s.L.length)
    rw [List.length_range] at this
    omega
   have cb := e_boxW hcb hcl (by omega)
   have k0 := ceL_ne (s := s) (k := s.L.length) j2 j3
   have fb := fin_box (s := s) (rt := rtB st gl F) w.pos j2 j3
   simp only at fb
   have bb : Bv 300000 (Pg.box (ceL s (rtB st gl F) j s.L.length)).1 ∧ Bv 300000 (Pg.box (ceL s (rtB st gl F) j s.L.length)).2 := by
    unfold Pg.box
    rw [if_neg (by omega)]
    exact ⟨lo_bits (fun i hi => getD_bv hcb i hi) k0 _ (Nat.le_refl _), hi_bits (fun i hi => getD_bv hcb i hi) k0 _ (Nat.le_refl _)⟩
   have hcz : ((ceL s (rtB st gl F) j s.L.length).map dV).length = (ceL s (rtB st gl F) j s.L.length).length := List.length_map ..
   have fc : (acc s (rtB st gl F) j s.L.length).fin = ⟨(acc s (rtB st gl F) j s.L.length).fin.c, (acc s (rtB st gl F) j s.L.length).light, (acc s (rtB st gl F) j s.L.length).heavy, (acc s (rtB st gl F) j s.L.length).str⟩ := rfl
   rw [fc] at e0
   generalize dif S1 (lgB s (rtB st gl F)) i = X at *
   generalize dif S2 (hvB s (rtB st gl F)) i = Y at *
   have w3 := fun nx => w_3 w (X := X - (acc s (rtB st gl F) j s.L.length).light) (Y := Y - (acc s (rtB st gl F) j s.L.length).heavy) (show i < 100 by omega) j2 j3 j4 nx
   generalize (acc s (rtB st gl F) j s.L.length).fin.c = C at *
   generalize acc s (rtB st gl F) j s.L.length = A at *
   refine .to mo_ [.ow 23 (.rw 43 8 [])] [9, 12, 13, 16, 18, 19, 20, 22, 23, 24] [0, 1, 2, 3] 4 [E0, ye (t := decide ((i : Int) < ((rts (rtB st gl F) s.L.length).length : Int))) (decide_eq_true (by omega)), .sel _ _ _ e0, cl c1, .sel _ _ _ e0, cl c2] (w3 ?_) (by kernel_rfl)
   generalize ceL s (rtB st gl F) j s.L.length = CL at *
   generalize Pg.box CL = BX at *
   obtain ⟨lo, hh⟩ := BX
   simp only at fb bb
   have k1 := e_rcmp f1.1 bb.1.1 (by omega)
   have k2 := e_rcmp f1.2 bb.1.2 (by omega)
   have k3 := e_rcmp f1.1 bb.2.1 (by omega)
   have k4 := e_rcmp f1.2 bb.2.2 (by omega)
   have g1 := cmp_ge fb.1
   have g2 := cmp_ge fb.2.2.1
   have g3 := cmp_le fb.2.1
   have g4 := cmp_le fb.2.2.2
   exact .to mo_ [] [9, 12, 13, 16, 18, 19, 20, 22] [0, 1, 2] 3 [cl cb, .sel _ _ _ e0, .eqv 213 (ni ((CL.map dV).length : Int)) (ni (CL.length : Int)) (by rw [hcz]), na (t := ((CL.length : Int) == 0)) (by simp; intro e; rw [e] at k0; simp at k0), cl k1, na g1, cl k2, na g2, cl k3, na g3, cl k4, na g4, inc 160 i (by omega)] nx (by kernel_rfl)
 · have e : i = (rts (rtB st gl F) s.L.length).length := by omega
   have hx : decide ((i : Int) < ((rts (rtB st gl F) s.L.length).length : Int)) = false := decide_eq_false (by omega)
   have z1 : dif S1 (lgB s (rtB st gl F)) i = 0 := by unfold dif; rw [List.take_of_length_le (by omega), h1]; grind
   have z2 : dif S2 (hvB s (rtB st gl F)) i = 0 := by unfold dif; rw [List.take_of_length_le (by omega), h2]; grind
   rw [z1, z2]
   have cs := e_rsign 0
   have s0 := sgn_0
   generalize sgnZ (0 : Rat).num = sg at *
   generalize (0 : Rat) = zz at *
   exact fi [E0, na hx, cl cs, ye s0, cl cs, ye s0, .eqv 257 (ni (AL.length : Int)) (ni (((List.range s.L.length).filter (inB st)).length : Int)) (by rw [hal]), ye (t := ((((List.range s.L.length).filter (inB st)).length : Int) == (((List.range s.L.length).filter (inB st)).length : Int))) (by simp), cl e_lives] (by kernel_rfl) (by kernel_rfl)
/-- The pieces are gone through. -/
theorem w_1 {AL : List (List V)} (w : Wt s F st gl AL) : GW (lp flw 0) (w1S s F st gl AL 0 0 0) := by
 have hrt := rtB_ok (st := st) (gl := gl) w.ok.f
 have hn := w.ok.ok.n
 have hn3 := w.ok.n
 have hpl := piR_len s.L
 have hbl := bod_len s (rtB st gl F)
 have hset : ∀ k, k < s.L.length → (inB st k = true ↔ rtB st gl F k ≠ -1) := fun k hk => by
  unfold rtB rtF
  split
  · rename_i h; simp [h]
  · rename_i h; simp [h]
 have bL : ∀ k, k ≤ s.L.length → Bq 90000 (sumS (inB st) (fun k => (s.pi k).light) k) := fun k hk => by
  refine (sumS_bits (M := 100) k fun m hm => (w.ok.ok.g m (by omega)).ok.light).mono ?_
  have := Nat.mul_le_mul_left 101 (show k ≤ 3 by omega)
  omega
 have bH : ∀ k, k ≤ s.L.length → Bq 90000 (sumS (inB st) (fun k => (s.pi k).heavy) k) := fun k hk => by
  refine (sumS_bits (M := 100) k fun m hm => (w.ok.ok.g m (by omega)).ok.heavy).mono ?_
  have := Nat.mul_le_mul_left 101 (show k ≤ 3 by omega)
  omega
 have sl := sum_bod (s := s) (fld := fun A => A.light) (g := fun k => (s.pi k).light) (p := inB st) hrt (fun _ => rfl) (fun _ _ => rfl) hset s.L.length (Nat.le_refl _)
 have sh := sum_bod (s := s) (fld := fun A => A.heavy) (g := fun k => (s.pi k).heavy) (p := inB st) hrt (fun _ => rfl) (fun _ _ => rfl) hset s.L.length (Nat.le_refl _)
 have el : lgB s (rtB st gl F) = (rts (rtB st gl F) s.L.length).map fun j => (acc s (rtB st gl F) j s.L.length).light := by unfold lgB bodF; rw [List.map_map]; rfl
 have eh : hvB s (rtB st gl F) = (rts (rtB st gl F) s.L.length).map fun j => (acc s (rtB st gl F) j s.L.length).heavy := by unfold hvB bodF; rw [List.map_map]; rfl
 rw [← el] at sl
 rw [← eh] at sh
 have n2 := w_2 w (bL _ (Nat.le_refl _)) (bH _ (Nat.le_refl _)) sl sh
 have d0 : ∀ S B, dif S B 0 = S := fun S B => by show S - 0 = S; grind
 rw [d0, d0] at n2
 refine Gd.loop (fun (k : Nat) => w1S s F st gl AL k (sumS (inB st) (fun k => (s.pi k).light) k) (sumS (inB st) (fun k => (s.pi k).heavy) k)) (fun k => k ≤ s.L.length) (fun k => s.L.length - k) ?_ 0 (Nat.zero_le _)
 intro k hk ih
 let E0 : F_ := .eqv 92 (ni ((piR s.L).length : Int)) (ni (s.L.length : Int)) (by rw [hpl])
 by_cases h : k < s.L.length
 · have nx := ih (k + 1) h (by omega)
   have e0 := own_get hrt h
   have e1 := pi_at h
   have ci := e_in st k
   have g := w.ok.ok.g k h
   have cn : ((List.range (k + 1)).filter (inB st)).length = ((List.range k).filter (inB st)).length + (if inB st k = true then 1 else 0) := by
    rw [List.range_succ, List.filter_append, List.length_append]
    congr 1
    cases hb : inB st k <;> simp [hb]
   have hcl : ((List.range k).filter (inB st)).length ≤ k := by
    have := List.length_filter_le (inB st) (List.range k)
    rw [List.length_range] at this
    exact this
   have c1 := e_radd (bL k hk) g.ok.light (by omega)
   have c2 := e_radd (bH k hk) g.ok.heavy (by omega)
   cases hb : inB st k with
   | false =>
    rw [hb] at ci
    have hr : rtB st gl F k = -1 := by
     by_cases e : rtB st gl F k = -1
     · exact e
     · have := (hset k h).2 e
       rw [hb] at this
       cases this
    rw [owF_out hr] at e0
    have hs1 : sumS (inB st) (fun k => (s.pi k).light) (k + 1) = sumS (inB st) (fun k => (s.pi k).light) k := if_neg (by rw [hb]; simp)
    have hs2 : sumS (inB st) (fun k => (s.pi k).heavy) (k + 1) = sumS (inB st) (fun k => (s.pi k).heavy) k := if_neg (by rw [hb]; simp)
    rw [hb, if_neg (by simp), Nat.add_zero] at cn
    unfold w1S at nx ⊢
    rw [hs1, hs2, cn] at nx
    exact .to mo_ [] [9, 10, 12, 13, 16, 18, 19, 20, 21] [0, 1, 2] 3 [E0, ye (t := decide ((k : Int) < (s.L.length : Int))) (decide_eq_true (by omega)), cl ci, yt, .sel _ _ _ e0, nf, inc 95 k (by omega)] nx (by kernel_rfl)
   | true =>
    rw [hb] at ci
    obtain ⟨r, h1, h2, h3⟩ : ∃ r : Nat, rtB st gl F k = (r : Int) ∧ r ≤ k ∧ rtB st gl F r = (r : Int) := by
     rcases hrt.ge k h with e | e
     · exact absurd e ((hset k h).1 hb)
     · exact e
    rw [owF_of h1] at e0
    have hs1 : sumS (inB st) (fun k => (s.pi k).light) (k + 1) = sumS (inB st) (fun k => (s.pi k).light) k + (s.pi k).light := if_pos hb
    have hs2 : sumS (inB st) (fun k => (s.pi k).heavy) (k + 1) = sumS (inB st) (fun k => (s.pi k).heavy) k + (s.pi k).heavy := if_pos hb
    rw [hb, if_pos rfl] at cn
    have hrn : r < s.L.length := by omega
    have hpl2 := pos_lt h3 hrn
    have ra := rts_at h3 s.L.length hrn
    have j5 : (bodF s (rtB st gl F))[pos (rtB st gl F) r]? = some (acc s (rtB st gl F) r s.L.length).fin := by unfold bodF; rw [List.getElem?_map, ra]; rfl
    have e2 := bo_at j5
    obtain ⟨f1, f2, f3, f4⟩ := bod_fin (rt := rtB st gl F) w.ok hrn
    have hle := acc_str_le (s := s) (rt := rtB st gl F) s.L.length k h h1
    have c3 := e_rcmp f4 g.ok.str (by omega)
    have g3 := cmp_le hle
    have fc : (acc s (rtB st gl F) r s.L.length).fin = ⟨(acc s (rtB st gl F) r s.L.length).fin.c, (acc s (rtB st gl F) r s.L.length).light, (acc s (rtB st gl F) r s.L.length).heavy, (acc s (rtB st gl F) r s.L.length).str⟩ := rfl
    rw [fc] at e2
    unfold w1S at nx ⊢
    rw [hs1, hs2, cn] at nx
    generalize (acc s (rtB st gl F) r s.L.length).fin.c = C at *
    generalize acc s (rtB st gl F) r s.L.length = A at *
    generalize pos (rtB st gl F) r = pr at *
    generalize sumS (inB st) (fun k => (s.pi k).light) k = X at *
    generalize sumS (inB st) (fun k => (s.pi k).heavy) k = Y at *
    generalize ((List.range k).filter (inB st)).length = cnt at *
    exact .to mo_ [] [9, 10, 12, 13, 16, 18, 19, 20, 21] [0, 1, 2] 3 [E0, ye (t := decide ((k : Int) < (s.L.length : Int))) (decide_eq_true (by omega)), cl ci, nf, inc 106 cnt (by omega), .sel _ _ _ e1, cl c1, .sel _ _ _ e1, cl c2, .sel _ _ _ e0, na (t := decide ((pr : Int) < 0)) (decide_eq_false (by omega)), .sel _ _ _ e0, .eqv 134 (ni ((boR (bodF s (rtB st gl F))).length : Int)) (ni ((rts (rtB st gl F) s.L.length).length : Int)) (by rw [hbl]), na (t := decide ((pr : Int) ≥ ((rts (rtB st gl F) s.L.length).length : Int))) (decide_eq_false (by omega)), .sel _ _ _ e0, .sel _ _ _ e2, .sel _ _ _ e1, cl c3, na g3, inc 95 k (by omega)] nx (by kernel_rfl)
 · have e : k = s.L.length := by omega
   have hx : decide ((k : Int) < (s.L.length : Int)) = false := decide_eq_false (by omega)
   rw [e] at hx ⊢
   exact .to mo_ [] [9, 12, 13, 16, 18, 19, 20, 22] [0, 1, 2] 3 [E0, na hx] n2 (by kernel_rfl)
theorem l_weights (hl : ∀ a ∈ l, W.Is64 a) (hx : W.Is64 x) (hy : W.Is64 y) (hz : W.Is64 z) : Pure PP 7 [zl l, ni x, ni y, ni z] (bo true) := by
 obtain ⟨s, F, ok, hp, cm⟩ := e_madeP hl
 obtain ⟨st, gl, cs⟩ := e_sets ok hx hy
 have hfl := ok.flen
 have hn3 := ok.n
 have hpl := piR_len s.L
 have b1 := e_bodies (st := st) (gl := gl) ok.ok ok.f (by omega) (by omega)
 have b2 := e_bodies (st := st) (gl := andV gl z) ok.ok ok.f (by omega) (by omega)
 have b3 := e_bodies (st := st) (gl := 0) ok.ok ok.f (by omega) (by omega)
 have hol : (ownF s (rtB st gl F)).length = s.L.length := ow_len _ _
 have hzl : (zs (ownF s (rtB st gl F))).length = s.L.length := by rw [zs_len, hol]
 have m1 := bod_len s (rtB st gl F)
 have m2 := bod_len s (rtB st (andV gl z) F)
 have m3 := bod_len s (rtB st 0 F)
 have hmore := rts_more (st := st) (gl := gl) (gl' := andV gl z) (l := F) (n := s.L.length) fun i hi h => and_bit (by omega) h
 rw [rts_alone (by omega)] at m3
 have nx := w_1 (s := s) (F := F) (st := st) (gl := gl) ⟨ok, hp, m3⟩
 unfold w1S at nx
 rw [dR_0] at nx
 generalize boR (bodF s (rtB st 0 F)) = AL at *
 generalize hB2 : boR (bodF s (rtB st (andV gl z) F)) = B2 at *
 exact pf (by kernel_rfl) (.to mo_ [.wk 1, .wk 2] [9, 10, 12, 13, 16, 18, 19, 20, 21] [0, 1, 2] 3 [cl cm, cl cs, cl b1, cl b2, cl b3, .eqv 75 (ni ((zs (ownF s (rtB st gl F))).length : Int)) (ni (s.L.length : Int)) (by rw [hzl]), .eqv 78 (ni ((piR s.L).length : Int)) (ni (s.L.length : Int)) (by rw [hpl]), na (t := ((s.L.length : Int) != (s.L.length : Int))) (by simp), na (t := decide ((B2.length : Int) < ((boR (bodF s (rtB st gl F))).length : Int))) (decide_eq_false (by omega))] nx (by kernel_rfl))
end
end Go.Proofs.YtbaggkbleehegaaGreat.E.Ct
