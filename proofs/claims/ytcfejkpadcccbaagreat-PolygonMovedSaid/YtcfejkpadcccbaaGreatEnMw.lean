/-
 THE LAW PolygonMoved, by the engine.
-/
import Derived.Test.YtcfejkpadcccbaaGreatEnMv
namespace Go.Proofs.YtcfejkpadcccbaaGreat.E
open Go.RowKit
set_option linter.unusedVariables false
theorem rnd_small {n : Int} {m : Nat} (h0 : 0 ≤ n) (h1 : n ≤ m) : rnd n m = n := by
 unfold rnd
 rw [if_neg (by omega)]
 exact Int.tmod_eq_of_lt h0 (by omega)
theorem sgn_ne {r : Rat} (h : r ≠ 0) : (sgnZ r.num != 0) = true := by
 have : r.num ≠ 0 := fun e => h (Rat.num_eq_zero.1 e)
 unfold sgnZ cmpZ
 rcases Int.lt_trichotomy r.num 0 with h | h | h
 · rw [if_pos h]; rfl
 · exact absurd h this
 · rw [if_neg (by omega), if_pos (by omega)]; rfl
section
variable {l m : List Int} {how by_ : Int}
theorem l_moved (hl : ∀ x ∈ l, W.Is64 x) (hm : ∀ x ∈ m, W.Is64 x) (hw : W.Is64 how) (hy : W.Is64 by_) : Pure false PP 10 [zl l, zl m, ni how, ni by_] (bo true) := by
 have hb := (polL_ok l).2
 have hv := (polL_ok l).1
 have hn := polL_len l
 have hs := spsL_bits m hb (by omega)
 have hsl : (spsL (polL l) m).length ≤ 100 := by unfold spsL; rw [sps_len]; omega
 have hpoly := e_polygon hl
 generalize polL l = p at hb hv hn hs hsl hpoly
 have hat := e_place hm 6 (by omega)
 have hu := plc_unit m 6
 obtain ⟨b1, b2⟩ := plc_bits m 6
 generalize plc m 6 = g at hat hu b1 b2
 have hM := Pg.vput_motion hu
 have hr := rnd_in how 3
 have h6 : rnd (2 * rnd how 3) 6 = 2 * rnd how 3 := rnd_small (by omega) (by omega)
 have hsp := e_spo (how := 2 * rnd how 3) hb (by omega) (by omega) (by omega) (i64 (by omega)) hy (by rw [h6]; omega)
 have hqb := spo_bits hb (by omega) by_ (rnd (2 * rnd how 3) 6)
 have hql := spo_len p by_ (rnd (2 * rnd how 3) 6)
 generalize spo p by_ (rnd (2 * rnd how 3) 6) = q at hsp hqb hql
 let Q : Nat → List (Rat × Rat) := fun i => if i = 0 then p else q
 have hQb : ∀ i, ∀ a ∈ Q i, Bv 40 a := fun i a ha => by
  by_cases e : i = 0
  · simp only [Q, e, if_true] at ha; exact (hb a ha).mono (by omega)
  · simp only [Q, e, if_false] at ha; exact hqb a ha
 have hQl : ∀ i, (Q i).length ≤ 13 := fun i => by
  by_cases e : i = 0
  · simp only [Q, e, if_true]; omega
  · simp only [Q, e, if_false]; omega
 have hQ : ∀ i, i < 2 → ([[dL p], [dL q]] : List (List V))[i]? = some [dL (Q i)] := fun i hi => by
  match i, hi with
  | 0, _ => rfl
  | 1, _ => rfl
 clear_value Q
 let X : Nat → St := fun i => at_ (fnOf PP 10) [(1, zl m), (9, dL p), (10, .lp 0 0), (11, .sl [[dL p], [dL q]]), (12, ni i)] [.bx 61 (dPl g)]
 let S := spsL p m
 let Y : Nat → St := fun i => at_ (fnOf PP 10) [(9, dL p), (10, .lp 0 0), (14, dL (p.map (vput g))), (15, dL S), (16, ni i)] [.bx 61 (dPl g)]
 have k0 : ∀ a ∈ p, Bv 16150 a := fun a ha => (hb a ha).mono (by omega)
 have mb := map_put_bits b1 b2 hb
 have mb2 : ∀ a ∈ p.map (vput g), Bv 200000 a := fun a ha => (mb a ha).mono (by omega)
 have ml : (p.map (vput g)).length = p.length := List.length_map ..
 have loop2 : Gd false PP 10 (bo true) (lp (fnOf PP 10) 1) (Y 0) := by
  refine Gd.loop Y (fun i => i ≤ S.length) (fun i => S.length - i) ?_ _ (Nat.zero_le _)
  intro i hi ih
  have hsl : S.length ≤ 100 := hsl
  by_cases h : i < S.length
  · have hx := bel hs h
    have hx2 : Bv 200000 (vput g (S.getD i (0, 0))) := ((b1.rot hx).add b2).mono (by omega)
    have c1 := e_has mb2 hx2 (by omega) (by omega)
    rw [Pg.has_put hu] at c1
    exact .to mo_ [] [9, 10, 14, 15, 16] [0] 1 [ye (t := il_ i S) (il_t h), .sel _ _ _ (el h), cl (e_put b1 b2 hx (by omega)), cl c1, .sel _ _ _ (el h), cl (e_has k0 hx (by omega) (by omega)), na (t := Pg.has p (S.getD i (0, 0)) != Pg.has p (S.getD i (0, 0))) (by simp), inc 113 i (by omega)] (ih (i + 1) h (by omega)) (by kernel_rfl)
  · have b3 : Bv 7 (vinv g).1 := b1.bak
    have b4 : Bv 100 (vinv g).2 := ((b1.bak.rot b2).sca (Bq.divInt (k := 1) (p := -1) (q := 1) (by unfold I.Bd; decide) (by unfold I.Bd; decide) (by decide))).mono (by omega)
    have c2 := e_move (b3.mono (show 7 ≤ 100 by omega)) b4 mb (by omega) (by omega)
    have hid : (p.map (vput g)).map (vput (vinv g)) = p := by
     rw [List.map_map]
     conv => rhs; rw [← List.map_id p]
     exact List.map_congr_left fun a _ => Pg.inv_put hu a
    rw [hid] at c2
    exact fi [na (t := il_ i S) (il_f h), cl (e_inv b1 b2 (by omega)), cl c2, cl (e_lsame p (by omega)), yt, cl e_lives] (by kernel_rfl) (by kernel_rfl)
 have loop1 : Gd false PP 10 (bo true) (lp (fnOf PP 10) 0) (X 0) := by
  refine Gd.loop X (fun i => i ≤ 2) (fun i => 2 - i) ?_ _ (Nat.zero_le _)
  intro i hi ih
  by_cases h : i < 2
  · have hb := hQb i
    have hl := hQl i
    have he := hQ i h
    generalize Q i = K at hb hl he
    have kb := map_put_bits b1 b2 hb
    have kl : (K.map (vput g)).length = K.length := List.length_map ..
    have c1 := e_area kb (by omega) (by omega)
    rw [hM.area] at c1
    have c2 := e_valid kb (by omega) (by omega)
    rw [hM.valid] at c2
    have c3 := e_convex kb (by omega) (by omega)
    rw [hM.convex] at c3
    have c0 := e_area hb (by omega) (by omega)
    let A : List F_ := [ye (t := decide ((i : Int) < ((2 : Nat) : Int))) (decide_eq_true (by omega)), .sel _ _ _ he, cl (e_move b1 b2 hb (by omega) (by omega)), .sel _ _ _ he, cl (e_move6 b1 b2 hb (by omega) (by omega)), cl (e_lsame (K.map (vput g)) (by omega)), nf,
      cl c1, .sel _ _ _ he, cl c0, cl (same_r (Pg.area K)), nf, cl c2, .sel _ _ _ he, cl (e_valid hb (by omega) (by omega)), na (t := Pg.valid K != Pg.valid K) (by simp), cl c3, .sel _ _ _ he, cl (e_convex hb (by omega) (by omega)), na (t := Pg.convex K != Pg.convex K) (by simp), .sel _ _ _ he, cl c0, cl (e_rsign (Pg.area K))]
    by_cases ha : Pg.area K = 0
    · exact .to mo_ [] [1, 9, 10, 11, 12] [0] 1 (A ++ [na (t := sgnZ (Pg.area K).num != 0) (by rw [ha]; rfl), nf, inc 35 i (by omega)]) (ih (i + 1) h (by omega)) (by kernel_rfl)
    · have c4 := e_center kb (by omega) (by omega)
      rw [Pg.center_put hu ha] at c4
      have hcb := cen_bits hb (by omega)
      exact .to mo_ [] [1, 9, 10, 11, 12] [0] 1 (A ++ [ye (t := sgnZ (Pg.area K).num != 0) (sgn_ne ha), cl c4, .sel _ _ _ he, cl (e_center hb (by omega) (by omega)), cl (e_put b1 b2 hcb (by omega)), cl (same_v (vput g (Pg.center K))), nf, inc 35 i (by omega)]) (ih (i + 1) h (by omega)) (by kernel_rfl)
  · exact .to mo_ [] [9, 10, 14, 15, 16] [0] 1 [na (t := decide ((i : Int) < ((2 : Nat) : Int))) (decide_eq_false (by omega)), cl (e_move b1 b2 hb (by omega) (by omega)), cl (e_spots hb (by omega) (by omega) hm)] loop2 (by kernel_rfl)
 exact pf (by kernel_rfl) (.to mo_ [] [1, 9, 10, 11, 12] [0] 1 [cl hpoly, cl hat, cl (e_around hw 3), eq64 26 (2 * rnd how 3) (i64 (by omega)), cl hsp, .ro] loop1 (by kernel_rfl))
end
end Go.Proofs.YtcfejkpadcccbaaGreat.E
