/-
 THE LAW PolygonParts, by the engine.
-/
import Derived.Test.YtcfejkpadcccbaaGreatEnRw
import Derived.Test.YtcfejkpadcccbaaGreatEnMw
namespace Go.Proofs.YtcfejkpadcccbaaGreat.E
open Go.RowKit
set_option linter.unusedVariables false
theorem sgn_eq0 (r : Rat) : (sgnZ r.num == 0) = decide (r = 0) := by
 by_cases h : r = 0
 · subst h; rfl
 · rw [decide_eq_false h]
   have := sgn_ne h
   simpa using this
section
variable {l : List Int} {how by_ i' k' : Int} {L : List (Rat × Rat)}
theorem px_bits {k : Nat} (hb : ∀ a ∈ L, Bv k a) (i j : Nat) : (∀ a ∈ Pg.px L i j, Bv k a) ∧ ∀ a ∈ Pg.py L i j, Bv k a := by
 refine ⟨fun a ha => hb a (List.mem_of_mem_take (List.mem_of_mem_drop ha)), fun a ha => ?_⟩
 rcases List.mem_append.1 ha with h | h
 · exact hb a (List.mem_of_mem_drop h)
 · exact hb a (List.mem_of_mem_take h)
/-- From the parts on. -/
theorem parts_end (hb : ∀ a ∈ L, Bv 40 a) (hn : 3 ≤ L.length) (hn2 : L.length ≤ 20) {a b : Nat} (hab : a ≤ b) (hbl : b < L.length) : Gd false PP 7 (bo true) (rg (fnOf PP 7) 10) (at_ (fnOf PP 7) [(11, dL L), (13, ni a), (14, ni b)] []) := by
 have hl : (L.map dV).length = L.length := List.length_map ..
 have w1 : IntKind.i64.wrap ((b : Int) + 1) = ((b + 1 : Nat) : Int) := by rw [IntKind.wrap_i64]; omega
 have w2 : IntKind.i64.wrap ((a : Int) + 1) = ((a + 1 : Nat) : Int) := by rw [IntKind.wrap_i64]; omega
 have e1 : ((L.map dV).take (b + 1)).drop a = (Pg.px L a b).map dV := by unfold Pg.px; rw [List.map_drop, List.map_take]
 have e2 : ((L.map dV).take (L.map dV).length).drop b = (L.drop b).map dV := by rw [List.take_of_length_le (Nat.le_refl _), List.map_drop]
 have e3 : ((L.map dV).take (a + 1)).drop 0 = (L.take (a + 1)).map dV := by rw [List.drop_zero, List.map_take]
 have lx : (Pg.px L a b).length = b + 1 - a := by unfold Pg.px; rw [List.length_drop, List.length_take]; omega
 have ly : (Pg.py L a b).length = L.length - b + (a + 1) := by unfold Pg.py; rw [List.length_append, List.length_drop, List.length_take]; omega
 obtain ⟨bx, by'⟩ := px_bits hb a b
 have hz : ∀ cs ∈ L.map dV, cs.length = 8 := fun cs h => (dV_ok L cs h).1
 refine .to mo_ [.fz 15, .fz 16] [11, 15, 16] [] 0 [.eqv 55 (ni (IntKind.i64.wrap ((b : Int) + 1))) (ni (b + 1 : Nat)) (by rw [w1]), .slc (L.map dV) a (b + 1) 8 _ e1 (by omega) hz, .aps [] ((Pg.px L a b).map dV) ((Pg.px L a b).map dV) 200 8 rfl (by rw [List.length_map]; omega) (by rw [List.length_map]; omega) (dV_ok _),
   .slc (L.map dV) b (L.map dV).length 8 _ e2 (by omega) hz, .aps [] ((L.drop b).map dV) ((L.drop b).map dV) 200 8 rfl (by rw [List.length_map, List.length_drop]; omega) (by rw [List.length_map, List.length_drop]; omega) (dV_ok _), .eqv 65 (ni (IntKind.i64.wrap ((a : Int) + 1))) (ni (a + 1 : Nat)) (by rw [w2]), .slc (L.map dV) 0 (a + 1) 8 _ e3 (by omega) hz,
   .aps ((L.drop b).map dV) ((L.take (a + 1)).map dV) ((Pg.py L a b).map dV) 200 8 (by unfold Pg.py; rw [List.map_append]) (by rw [List.length_map, List.length_take]; omega) (by rw [List.length_map]; omega) (dV_ok _)]
   (td' := rg (fnOf PP 7) 12) (σ' := at_ (fnOf PP 7) [(11, dL L), (15, dL (Pg.px L a b)), (16, dL (Pg.py L a b))] []) ?_ (by kernel_rfl)
 have ax := area_bits bx (by omega)
 have ay := area_bits by' (by omega)
 have al := area_bits hb (by omega)
 have cx := cen_bits bx (by omega)
 have cy := cen_bits by' (by omega)
 have cl' := cen_bits hb (by omega)
 have c1 := e_radd ax ay (by omega)
 rw [Pg.area_pxy hab hbl] at c1
 have e5 := e_center bx (by omega) (by omega)
 have e6 := e_center by' (by omega) (by omega)
 have e7 := e_center hb (by omega) (by omega)
 have f1 := fun h1 h2 h3 => Pg.center_pxy (L := L) hab hbl h1 h2 h3
 let A : List F_ := [cl (e_area hb (by omega) (by omega)), cl (e_area bx (by omega) (by omega)), cl (e_area by' (by omega) (by omega)), cl c1, cl (same_r (Pg.area L)), nf, cl (e_rsign (Pg.area (Pg.px L a b)))]
 let x := Pg.area (Pg.px L a b)
 let y := Pg.area (Pg.py L a b)
 let z := Pg.area L
 by_cases hx : x = 0
 · exact fi (A ++ [ye (t := sgnZ x.num == 0) (by rw [sgn_eq0]; exact decide_eq_true hx), yt, yt, cl e_lives]) (by kernel_rfl) (by kernel_rfl)
 let A2 : List F_ := A ++ [na (t := sgnZ x.num == 0) (by rw [sgn_eq0]; exact decide_eq_false hx), cl (e_rsign y)]
 by_cases hy : y = 0
 · exact fi (A2 ++ [ye (t := sgnZ y.num == 0) (by rw [sgn_eq0]; exact decide_eq_true hy), yt, cl e_lives]) (by kernel_rfl) (by kernel_rfl)
 let A3 : List F_ := A2 ++ [na (t := sgnZ y.num == 0) (by rw [sgn_eq0]; exact decide_eq_false hy), cl (e_rsign z)]
 by_cases hz' : z = 0
 · exact fi (A3 ++ [ye (t := sgnZ z.num == 0) (by rw [sgn_eq0]; exact decide_eq_true hz'), cl e_lives]) (by kernel_rfl) (by kernel_rfl)
 have c2 := e_vadd (cx.sca ax) (cy.sca ay) (by omega)
 rw [f1 hx hy hz'] at c2
 exact fi (A3 ++ [na (t := sgnZ z.num == 0) (by rw [sgn_eq0]; exact decide_eq_false hz'), cl e5, cl (e_vsca cx ax (by omega)), cl e6, cl (e_vsca cy ay (by omega)), cl c2, cl e7, cl (e_vsca cl' al (by omega)), cl (same_v (vsca (Pg.center L) (Pg.area L))), yt, cl e_lives]) (by kernel_rfl) (by kernel_rfl)
/-- From the list on. -/
theorem parts_mid (hb : ∀ a ∈ L, Bv 40 a) (hn : 3 ≤ L.length) (hn2 : L.length ≤ 20) (hi : W.Is64 i') (hk : W.Is64 k') : Gd false PP 7 (bo true) (rg (fnOf PP 7) 5) (at_ (fnOf PP 7) [(1, ni i'), (2, ni k'), (11, dL L)] []) := by
 obtain ⟨n, hL⟩ : ∃ n, L.length = n + 1 := ⟨L.length - 1, by omega⟩
 have r1 := rnd_in i' n
 have r2 := rnd_in k' n
 obtain ⟨a, ha⟩ : ∃ a : Nat, rnd i' n = (a : Int) := ⟨(rnd i' n).toNat, by omega⟩
 obtain ⟨b, hb'⟩ : ∃ b : Nat, rnd k' n = (b : Int) := ⟨(rnd k' n).toNat, by omega⟩
 have c1 := e_around hi n
 have c2 := e_around hk n
 rw [ha] at c1
 rw [hb'] at c2
 by_cases h : b < a
 · exact .to mo_ [] [11, 13, 14] [] 0 [le_ 37 n hL, cl c1, le_ 41 n hL, cl c2, ye (t := decide ((b : Int) < (a : Int))) (decide_eq_true (by omega)), le_ 49 n hL, cl c1] (td' := rg (fnOf PP 7) 10) (parts_end hb hn hn2 (a := b) (b := a) (by omega) (by omega)) (by kernel_rfl)
 · exact .to mo_ [] [11, 13, 14] [] 0 [le_ 37 n hL, cl c1, le_ 41 n hL, cl c2, na (t := decide ((b : Int) < (a : Int))) (decide_eq_false (by omega))] (td' := rg (fnOf PP 7) 10) (parts_end hb hn hn2 (a := a) (b := b) (by omega) (by omega)) (by kernel_rfl)
theorem l_parts (hl : ∀ x ∈ l, W.Is64 x) (hi : W.Is64 i') (hk : W.Is64 k') (hw : W.Is64 how) (hy : W.Is64 by_) : Pure false PP 7 [zl l, ni i', ni k', ni how, ni by_] (bo true) := by
 have hb := (polL_ok l).2
 have hn := polL_len l
 have hpoly := e_polygon hl
 generalize polL l = p at hb hn hpoly
 have k0 : ∀ a ∈ p, Bv 40 a := fun a ha => (hb a ha).mono (by omega)
 by_cases hc : rnd how 6 = 5
 · have h5 := spo5_len p by_
   exact pf (by kernel_rfl) (.to mo_ [] [1, 2, 11] [] 0 [cl hpoly, cl (e_spoilt5 (L := p) (by omega) (by omega) hw hy hc), ye (t := decide ((3 : Int) ≤ ((spo5 p by_).length : Int))) (decide_eq_true (by omega)), cl (e_numbers5 hb (by omega) (by omega) (by omega) by_), nf] (td' := rg (fnOf PP 7) 5) (parts_mid k0 hn.1 (by omega) hi hk) (by kernel_rfl))
 · have hq := e_spo hb (by omega) (by omega) (by omega) hw hy hc
   have hqb := spo_bits hb (by omega) by_ (rnd how 6)
   have hql := spo_len p by_ (rnd how 6)
   generalize spo p by_ (rnd how 6) = q at hq hqb hql
   have hl2 : (q.map dV).length = q.length := List.length_map ..
   by_cases h3 : 3 ≤ q.length
   · exact pf (by kernel_rfl) (.to mo_ [] [1, 2, 11] [] 0 [cl hpoly, cl hq, ye (t := decide ((3 : Int) ≤ ((q.map dV).length : Int))) (decide_eq_true (by omega)), cl (e_numbers hqb (by omega) (by omega)), yt] (td' := rg (fnOf PP 7) 5) (parts_mid hqb h3 (by omega) hi hk) (by kernel_rfl))
   · exact pf (by kernel_rfl) (.to mo_ [] [1, 2, 11] [] 0 [cl hpoly, cl hq, na (t := decide ((3 : Int) ≤ ((q.map dV).length : Int))) (decide_eq_false (by omega)), nf] (td' := rg (fnOf PP 7) 5) (parts_mid k0 hn.1 (by omega) hi hk) (by kernel_rfl))
end
end Go.Proofs.YtcfejkpadcccbaaGreat.E
