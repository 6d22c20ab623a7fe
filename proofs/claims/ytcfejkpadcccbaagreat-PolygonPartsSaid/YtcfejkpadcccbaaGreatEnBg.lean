/-
 THE LAW PolygonBegins, by the engine.
-/
import Derived.Test.YtcfejkpadcccbaaGreatPgR
namespace Go.Proofs.YtcfejkpadcccbaaGreat.E
open Go.RowKit
set_option linter.unusedVariables false
theorem same_v (v : Rat × Rat) : Pure false PP 26 [.ag (dV v), .ag (dV v)] (bo true) := (show decide (v = v) = true by simp) ▸ e_vsame5 v v
theorem same_r (r : Rat) : Pure false PP 23 [.ag (dR r), .ag (dR r)] (bo true) := (show decide (r = r) = true by simp) ▸ e_same4 r r
section
variable {l m : List Int} {at' : Int}
theorem l_begins (hl : ∀ x ∈ l, W.Is64 x) (hm : ∀ x ∈ m, W.Is64 x) (ha : W.Is64 at') : Pure false PP 8 [zl l, zl m, ni at'] (bo true) := by
 have hb := (polL_ok l).2
 have hv := (polL_ok l).1
 have hn := polL_len l
 have hs := spsL_bits m hb (by omega)
 have hsl : (spsL (polL l) m).length ≤ 100 := by unfold spsL; rw [sps_len]; omega
 have hpoly := e_polygon hl
 generalize polL l = L at hb hv hn hs hsl hpoly
 obtain ⟨n, hL⟩ : ∃ n, L.length = n + 1 := ⟨L.length - 1, by omega⟩
 have hr := rnd_in at' n
 obtain ⟨k, hk⟩ : ∃ k : Nat, rnd at' n = (k : Int) := ⟨(rnd at' n).toNat, by omega⟩
 have hkl : k < L.length := by omega
 have hml : (L.map dV).length = L.length := List.length_map ..
 have k0 : ∀ a ∈ L, Bv (1010 * 15 + 1000) a := fun a ha => (hb a ha).mono (by omega)
 have fl : (Pg.from_ k L).length = L.length := Pg.from_len (by omega)
 have fb : ∀ a ∈ Pg.from_ k L, Bv 15 a := fun a ha => hb a ((Pg.from_mem a).1 ha)
 have fb2 : ∀ a ∈ Pg.from_ k L, Bv (1010 * 15 + 1000) a := fun a ha => k0 a ((Pg.from_mem a).1 ha)
 have rb : ∀ a ∈ L.reverse, Bv 15 a := fun a ha => hb a (List.mem_reverse.1 ha)
 have rl : L.reverse.length = L.length := List.length_reverse ..
 have c1 := e_box hb (by omega) (by omega)
 have c2 := e_box fb (by omega) (by omega)
 rw [Pg.box_same (fun a => Pg.from_mem (k := k) (L := L) a)] at c2
 have c3 := e_valid fb (by omega) (by omega)
 rw [Pg.from_inv Pg.valid_rot L k (by omega), hv] at c3
 have c4 := e_valid rb (by omega) (by omega)
 rw [Pg.valid_reverse hv] at c4
 have c5 := e_convex fb (by omega) (by omega)
 rw [Pg.from_inv Pg.convex_rot L k (by omega)] at c5
 have c6 := e_convex hb (by omega) (by omega)
 have c7 := e_area fb (by omega) (by omega)
 rw [Pg.from_inv Pg.area_rot L k (by omega)] at c7
 have c8 := e_area hb (by omega) (by omega)
 have c9 := e_area rb (by omega) (by omega)
 rw [Pg.area_reverse] at c9
 have c10 := e_rneg (-Pg.area L)
 rw [show - - Pg.area L = Pg.area L by grind] at c10
 have c11 := e_center fb (by omega) (by omega)
 rw [Pg.from_inv Pg.center_rot L k (by omega)] at c11
 have c12 := e_center hb (by omega) (by omega)
 have c13 := e_center rb (by omega) (by omega)
 rw [Pg.center_reverse] at c13
 let S := spsL L m
 let X : Nat → St := fun i => at_ (fnOf PP 8) [(7, dL L), (9, dL (Pg.from_ k L)), (15, dL S), (16, ni i)] []
 have loop : Gd false PP 8 (bo true) (lp (fnOf PP 8) 0) (X 0) := by
  refine Gd.loop X (fun i => i ≤ S.length) (fun i => S.length - i) ?_ _ (Nat.zero_le _)
  intro i hi ih
  by_cases h : i < S.length
  · have hx := bel hs h
    have h6 := e_has fb2 hx (by omega) (by omega)
    rw [Pg.from_inv (F := fun L => Pg.has L (S.getD i (0, 0))) (fun L => Pg.has_rot L _) L k (by omega)] at h6
    have hsl : S.length ≤ 100 := hsl
    exact .to mo_ [] [7, 9, 15, 16] [] 0 [ye (t := il_ i S) (il_t h), .sel _ _ _ (el h), cl h6, .sel _ _ _ (el h), cl (e_has k0 hx (by omega) (by omega)), na (t := Pg.has L (S.getD i (0, 0)) != Pg.has L (S.getD i (0, 0))) (by simp), inc 109 i (by omega)] (ih (i + 1) h (by omega)) (by kernel_rfl)
  · exact fi [na (t := il_ i S) (il_f h), cl e_lives] (by kernel_rfl) (by kernel_rfl)
 have rest : Gd false PP 8 (bo true) (rg (fnOf PP 8) 4) (at_ (fnOf PP 8) [(1, zl m), (7, dL L), (9, dL (Pg.from_ k L))] []) :=
  .to mo_ [] [7, 9, 15, 16] [] 0 [cl (e_spoilt4 (L := L) (how := 4) (by_ := 0) (by omega) (by omega) ⟨by decide, by decide⟩ ⟨by decide, by decide⟩ (by decide)), cl c1, cl c2,
   cl c3, nf, cl c4, nf, cl c5, cl c6, na (t := Pg.convex L != Pg.convex L) (by simp), cl (same_v (Pg.box L).1), nf, cl (same_v (Pg.box L).2), nf,
   cl c7, cl c8, cl (same_r (Pg.area L)), nf, cl c9, cl c10, cl c8, cl (same_r (Pg.area L)), nf, cl c11, cl c12, cl (same_v (Pg.center L)), nf, cl c13, cl c12, cl (same_v (Pg.center L)), nf,
   cl (e_spots hb (by omega) (by omega) hm)] loop (by kernel_rfl)
 have hdp : 0 < ((L.drop k).map dV).length := by rw [List.length_map, List.length_drop]; omega
 have e1 : ((L.map dV).take (L.map dV).length).drop k = (L.drop k).map dV := by rw [List.take_of_length_le (Nat.le_refl _), List.map_drop]
 have e2 : ((L.map dV).take k).drop 0 = (L.take k).map dV := by rw [List.drop_zero, List.map_take]
 let A : List F_ := [cl hpoly, le_ 21 n hL, cl (e_around ha n), .eqv 22 (ni (rnd at' n)) (ni (k : Nat)) (by rw [hk]), .slc (L.map dV) k (L.map dV).length 8 _ e1 (by omega) (fun cs h => (dV_ok L cs h).1), .aps [] ((L.drop k).map dV) ((L.drop k).map dV) 100 8 rfl hdp (by rw [List.length_map, List.length_drop]; omega) (dV_ok _), .slc (L.map dV) 0 k 8 _ e2 (by omega) (fun cs h => (dV_ok L cs h).1)]
 by_cases hk0 : k = 0
 · subst hk0
   rw [show Pg.from_ 0 L = L.drop 0 by unfold Pg.from_; simp] at rest
   exact pf (by kernel_rfl) (.to mo_ [.fz 9] [1, 7, 9] [] 0 (A ++ [.ape ((L.take 0).map dV) rfl]) (td' := rg (fnOf PP 8) 4) rest (by kernel_rfl))
 · exact pf (by kernel_rfl) (.to mo_ [.fz 9] [1, 7, 9] [] 0 (A ++ [.aps ((L.drop k).map dV) ((L.take k).map dV) ((Pg.from_ k L).map dV) 100 8 (by unfold Pg.from_; rw [List.map_append]) (by rw [List.length_map, List.length_take]; omega) (by rw [List.length_map]; omega) (dV_ok _)]) (td' := rg (fnOf PP 8) 4) rest (by kernel_rfl))
end
end Go.Proofs.YtcfejkpadcccbaaGreat.E
