/-
 THE LAW PolygonMeasures, by the engine.
-/
import Derived.Test.YtcfejkpadcccbaaGreatEnRw
import Derived.Test.YtcfejkpadcccbaaGreatEnMw
namespace Go.Proofs.YtcfejkpadcccbaaGreat.E
open Go.RowKit
set_option linter.unusedVariables false
section
variable {l m : List Int} {how by_ : Int} {Ls : List (List (Rat × Rat))} {i : Nat}
/-- Rows of rows of vectors. -/
def dLL (Ls : List (List (Rat × Rat))) : List (List V) := Ls.map fun K => [dL K]
theorem dLL_el (h : i < Ls.length) : (dLL Ls)[i]? = some [dL (Ls.getD i [])] := by
 unfold dLL
 rw [List.getElem?_map, List.getD_eq_getElem?_getD, List.getElem?_eq_getElem h]; rfl
theorem dLL_len : (dLL Ls).length = Ls.length := List.length_map ..
theorem dLL_mem (h : i < Ls.length) : Ls.getD i [] ∈ Ls := by
 rw [List.getD_eq_getElem?_getD, List.getElem?_eq_getElem h]; exact List.getElem_mem h
def ill_ (i : Nat) (Ls : List (List (Rat × Rat))) : Bool := decide ((i : Int) < ((dLL Ls).length : Int))
theorem ill_t (h : i < Ls.length) : ill_ i Ls = true := decide_eq_true (by rw [dLL_len]; omega)
theorem ill_f (h : ¬ i < Ls.length) : ill_ i Ls = false := decide_eq_false (by rw [dLL_len]; omega)
theorem measures_loop (hb : ∀ K ∈ Ls, (∀ a ∈ K, Bv 40 a) ∧ K.length ≤ 20) (hn : Ls.length ≤ 100) : Gd false PP 4 (bo true) (lp (fnOf PP 4) 1) (at_ (fnOf PP 4) [(13, .sl (dLL Ls)), (14, ni 0)] []) := by
 let X : Nat → St := fun i => at_ (fnOf PP 4) [(13, .sl (dLL Ls)), (14, ni i)] []
 refine Gd.loop X (fun i => i ≤ Ls.length) (fun i => Ls.length - i) ?_ 0 (Nat.zero_le _)
 intro i hi ih
 by_cases h : i < Ls.length
 · obtain ⟨hK, hl⟩ := hb _ (dLL_mem h)
   have he := dLL_el h
   have c1 := e_box hK (by omega) (by omega)
   have c2 := e_box6 hK (by omega) (by omega)
   have c3 := e_area hK (by omega) (by omega)
   have c4 := e_area6 hK (by omega) (by omega)
   have c5 := e_center hK (by omega) (by omega)
   have c6 := e_center6 hK (by omega) (by omega)
   generalize Ls.getD i [] = K at hK hl he c1 c2 c3 c4 c5 c6
   exact .to mo_ [] [13, 14] [] 0 [ye (t := ill_ i Ls) (ill_t h), .sel _ _ _ he, cl c1, .sel _ _ _ he, cl c2, .sel _ _ _ he, cl c3, .sel _ _ _ he, cl c4, cl (same_r (Pg.area K)), nf, .sel _ _ _ he, cl c5, .sel _ _ _ he, cl c6, cl (same_v (Pg.center K)), nf, cl (same_v (Pg.box K).1), nf, cl (same_v (Pg.box K).2), nf, inc 59 i (by omega)] (ih (i + 1) h (by omega)) (by kernel_rfl)
 · exact fi [na (t := ill_ i Ls) (ill_f h), cl e_lives] (by kernel_rfl) (by kernel_rfl)
def wild (m : List Int) (n : Nat) : List (Rat × Rat) := (List.range n).map fun j => spot m (3 * j)
theorem wild_len (m : List Int) (n : Nat) : (wild m n).length = n := by simp [wild]
theorem wild_bits (m : List Int) (n : Nat) : ∀ a ∈ wild m n, Bv 40 a := fun a ha => by
 obtain ⟨j, _, rfl⟩ := List.mem_map.1 ha
 exact (spot_bits m _).mono (by omega)
/-- With the list on. -/
theorem measures_mid {p U : List (Rat × Rat)} (hb : ∀ a ∈ p, Bv 15 a) (hn : 3 ≤ p.length ∧ p.length ≤ 12) (hW : (∀ a ∈ U, Bv 40 a) ∧ U.length ≤ 20) (hw : W.Is64 how) (hy : W.Is64 by_) :
    Gd false PP 4 (bo true) (rg (fnOf PP 4) 7) (at_ (fnOf PP 4) [(2, ni how), (3, ni by_), (9, dL p), (10, dL U)] []) := by
 have hl : (p.map dV).length = p.length := List.length_map ..
 have k0 : ∀ a ∈ p, Bv 40 a := fun a ha => (hb a ha).mono (by omega)
 have hz : ∀ cs ∈ p.map dV, cs.length = 8 := fun cs h => (dV_ok p cs h).1
 have e1 : ((p.map dV).take 1).drop 0 = (p.take 1).map dV := by rw [List.drop_zero, List.map_take]
 have e2 : ((p.map dV).take 2).drop 0 = (p.take 2).map dV := by rw [List.drop_zero, List.map_take]
 let Ls : List (List (Rat × Rat)) := [p, U, [], p.take 1, p.take 2]
 have hLs : ∀ K ∈ Ls, (∀ a ∈ K, Bv 40 a) ∧ K.length ≤ 20 := by
  intro K hK
  simp only [Ls, List.mem_cons, List.not_mem_nil, or_false] at hK
  rcases hK with rfl | rfl | rfl | rfl | rfl
  · exact ⟨k0, by omega⟩
  · exact hW
  · exact ⟨fun a h => by simp at h, by simp⟩
  · exact ⟨fun a h => k0 a (List.mem_of_mem_take h), by rw [List.length_take]; omega⟩
  · exact ⟨fun a h => k0 a (List.mem_of_mem_take h), by rw [List.length_take]; omega⟩
 let A : List F_ := [.slc (p.map dV) 0 1 8 _ e1 (by omega) hz, .slc (p.map dV) 0 2 8 _ e2 (by omega) hz]
 by_cases hc : rnd how 6 = 5
 · exact .to mo_ [.fz 13] [13, 14] [] 0 (cl (e_spoilt5 (L := p) (by omega) (by omega) hw hy hc) :: A ++ [cl (e_numbers5 hb (by omega) (by omega) (by omega) by_), nf]) (td' := lp (fnOf PP 4) 1) (measures_loop hLs (show 5 ≤ 100 by decide)) (by kernel_rfl)
 · have hq := e_spo hb (by omega) (by omega) (by omega) hw hy hc
   have hqb := spo_bits hb (by omega) by_ (rnd how 6)
   have hql := spo_len p by_ (rnd how 6)
   generalize spo p by_ (rnd how 6) = q at hq hqb hql
   refine .to mo_ [.fz 13] [13, 14] [] 0 (cl hq :: A ++ [cl (e_numbers hqb (by omega) (by omega)), yt, .app (dLL Ls) [[dL q]] (dLL (Ls ++ [q])) 10 rfl (by simp) (show 6 ≤ 10 by decide)]) (td' := lp (fnOf PP 4) 1) (measures_loop (Ls := Ls ++ [q]) (fun K hK => ?_) (show 6 ≤ 100 by decide)) (by kernel_rfl)
   rcases List.mem_append.1 hK with h | h
   · exact hLs K h
   · rw [List.mem_singleton.1 h]; exact ⟨hqb, by omega⟩
theorem l_measures (hl : ∀ x ∈ l, W.Is64 x) (hm : ∀ x ∈ m, W.Is64 x) (hw : W.Is64 how) (hy : W.Is64 by_) : Pure false PP 4 [zl l, zl m, ni how, ni by_] (bo true) := by
 have hb := (polL_ok l).2
 have hn := polL_len l
 have hpoly := e_polygon hl
 generalize polL l = p at hb hn hpoly
 have hz : (zs m).length = m.length := List.length_map ..
 let X : Nat → St := fun n => at_ (fnOf PP 4) [(1, zl m), (2, ni how), (3, ni by_), (9, dL p), (10, .ow 0), (11, ni (3 * n : Nat))] [.rw 35 8 ((wild m n).map dV)]
 refine pf (by kernel_rfl) (.to mo_ [.ow 10 (.rw 35 8 [])] [1, 2, 3, 9, 10, 11] [0] 1 [cl hpoly] (td' := lp (fnOf PP 4) 0) (σ' := X 0) ?_ (by kernel_rfl))
 refine Gd.loop X (fun n => n ≤ 8) (fun n => 8 - n) ?_ _ (Nat.zero_le _)
 intro n hi ih
 have hW : (∀ a ∈ wild m n, Bv 40 a) ∧ (wild m n).length ≤ 20 := ⟨wild_bits m n, by rw [wild_len]; omega⟩
 have fin := measures_mid hb hn hW hw hy
 have w3 : IntKind.i64.wrap (((3 * n : Nat) : Int) + 3) = ((3 * (n + 1) : Nat) : Int) := by rw [IntKind.wrap_i64]; omega
 by_cases h1 : 3 * n < m.length
 · by_cases h2 : 3 * n < 24
   · exact .to mo_ [.mv 0 2] [1, 2, 3, 9, 10, 11] [0] 1 [ye (t := decide (((3 * n : Nat) : Int) < ((zs m).length : Int))) (decide_eq_true (by omega)), ye (t := decide (((3 * n : Nat) : Int) < 24)) (decide_eq_true (by omega)), cl (e_spot hm (3 * n) (by omega)), .app ((wild m n).map dV) [dV (spot m (3 * n))] ((wild m (n + 1)).map dV) 100 (by unfold wild; rw [List.range_succ, List.map_append, List.map_append]; rfl) (by simp) (by rw [List.length_map, wild_len]; omega), .eqv 30 (ni (IntKind.i64.wrap (((3 * n : Nat) : Int) + 3))) (ni (3 * (n + 1) : Nat)) (by rw [w3])] (ih (n + 1) (by omega) (by omega)) (by kernel_rfl)
   · exact .to mo_ [.fz 10] [2, 3, 9, 10] [] 0 [ye (t := decide (((3 * n : Nat) : Int) < ((zs m).length : Int))) (decide_eq_true (by omega)), na (t := decide (((3 * n : Nat) : Int) < 24)) (decide_eq_false (by omega))] (td' := rg (fnOf PP 4) 7) fin (by kernel_rfl)
 · exact .to mo_ [.fz 10] [2, 3, 9, 10] [] 0 [na (t := decide (((3 * n : Nat) : Int) < ((zs m).length : Int))) (decide_eq_false (by omega)), nf] (td' := rg (fnOf PP 4) 7) fin (by kernel_rfl)
end
end Go.Proofs.YtcfejkpadcccbaaGreat.E
