/-
 PIECE: edges, their squares.
-/
import Derived.Test.YtlgnagnmoleeiaaGreatEoD
import Derived.Test.YtlgnagnmoleeiaaGreatWalkPgK
import Derived.Test.YtlgnagnmoleeiaaGreatEoV
import Derived.Test.YtlgnagnmoleeiaaGreatEwB
import Derived.Test.YtlgnagnmoleeiaaGreatEmY
namespace Go.Proofs.YtlgnagnmoleeiaaGreat.E
open Go.RowKit
set_option linter.unusedVariables false
section
variable {L : List (Rat × Rat)} {k m : Nat}
/-- The corner that comes at a number. -/
theorem e_vcor (hm : L.length = m + 1) (i : Nat) : Pure PP 130 [ni i, .ip [dL L], .ip [ni ((m + 1 : Nat) : Int)]] (.ag (dV (Pg.cor L i))) :=
 tr [rem_ 8 i m hm, .sel _ _ _ (elc (L := L) (by omega) i)] (by kernel_rfl)
noncomputable abbrev fva : Func := fnOf PP 67
/-- The boxes of the row and of its length, ahead of the corners' first call and behind it. -/
noncomputable def vaH (L : List (Rat × Rat)) (m : Nat) : Bool → List HO
 | false => [.bx 70 [dL L], .bx 3 [ni ((m + 1 : Nat) : Int)]]
 | true => [.fz (.ip [dL L]), .fz (.ip [ni ((m + 1 : Nat) : Int)])]
noncomputable def vaX (L : List (Rat × Rat)) (m i : Nat) (b : Bool) : St := at_ fva [(1, .lp 0 0), (3, .lp 1 0), (6, .cl 130 [.lp 0 0, .lp 1 0]), (35, ni ((m + 1 : Nat) : Int)), (36, ni i)] (vaH L m b)
/-- A round of the loop, to its inner loop: from both states. -/
theorem va_round (hm : L.length = m + 1) (hb : ∀ a ∈ L, Bv k a) (hn : L.length ≤ 12) (hk : k ≤ 10000) (b : Bool) {i : Nat} (hi : i < L.length) (hf : Go.Proofs.YtlgnagnmoleeiaaGreat.vside (Pg.cor L i) (Pg.cor L (i + 1)) (Pg.cor L (i + 2)) ≠ 0) {D : V}
  (h : Gd PP 67 D (lp fva 2) (at_ fva [(1, .lp 0 0), (3, .lp 1 0), (6, .cl 130 [.lp 0 0, .lp 1 0]), (7, ni i), (8, ni ((i + 2 : Nat) : Int)), (35, ni ((m + 1 : Nat) : Int)), (36, ni i)] (vaH L m true))) :
  Gd PP 67 D (lp fva 1) (vaX L m i b) := by
 have c0 := e_vcor hm i
 have c1 := e_vcor hm (i + 1)
 have c2 := e_vcor hm (i + 2)
 have b0 := bco hb (by omega) i
 have b1 := bco hb (by omega) (i + 1)
 have b2 := bco hb (by omega) (i + 2)
 have sd := e_side b0 b1 b2 (by omega)
 cases b <;> exact .to mo_ [] [1, 3, 6, 7, 8, 35, 36] [0, 1] 2 [ye (t := decide ((i : Int) < ((m + 1 : Nat) : Int))) (decide_eq_true (by omega)), cl c0, inc 44 i (by omega), cl c1, inc2 48 i (by omega), cl c2, cl sd, na (t := Go.Proofs.YtlgnagnmoleeiaaGreat.vside (Pg.cor L i) (Pg.cor L (i + 1)) (Pg.cor L (i + 2)) == 0) (by simpa using hf), inc2 53 i (by omega)] h (by kernel_rfl)
def bi : Nat → Bool
 | 0 => false
 | _ + 1 => true
noncomputable def vaY (L : List (Rat × Rat)) (m i j : Nat) : St := at_ fva [(1, .lp 0 0), (3, .lp 1 0), (6, .cl 130 [.lp 0 0, .lp 1 0]), (7, ni i), (8, ni j), (35, ni ((m + 1 : Nat) : Int)), (36, ni i)] (vaH L m true)
theorem va_bad {i t : Nat} (h : Pg.bad L i = true) (hi : i < L.length) : Pg.valid L = false := by
 unfold Pg.valid
 rw [any_true hi h]; simp
/-- The inner loop. -/
theorem va_inner (hm : L.length = m + 1) (hb : ∀ a ∈ L, Bv k a) (hn : L.length ≤ 12) (hk : k ≤ 10000) {i : Nat} (hi : i < L.length) (hfl : Pg.flatp L i = false)
  (h : Pg.bad L i = false → Gd PP 67 (bo (Pg.valid L)) (lp fva 1) (vaX L m (i + 1) true)) :
  ∀ j, (∀ t, t < j → (decide (i + 2 ≤ t) && Pg.q L i t) = false) ∧ j ≤ L.length + 2 ∧ i + 2 ≤ j → Gd PP 67 (bo (Pg.valid L)) (lp fva 2) (vaY L m i j) := by
 refine Gd.loop (vaY L m i) _ (fun j => L.length + 3 - j) ?_
 rintro j ⟨hq, hj, hij⟩ ih
 by_cases hlt : j < L.length
 · have c0 := e_vcor hm i
   have c1 := e_vcor hm (i + 1)
   have c2 := e_vcor hm j
   have c3 := e_vcor hm (j + 1)
   have b0 := bco hb (by omega) i
   have b1 := bco hb (by omega) (i + 1)
   have b2 := bco hb (by omega) j
   have b3 := bco hb (by omega) (j + 1)
   have me := e_meets b0 b1 b2 b3 (by omega)
   let F0 : List F_ := [ye (t := decide ((j : Int) < ((m + 1 : Nat) : Int))) (decide_eq_true (by omega)), inc 60 j (by omega), rem_ 62 (j + 1) m hm]
   let F1 : List F_ := [cl c0, inc 71 i (by omega), cl c1, cl c2, inc 78 j (by omega), cl c3, cl me]
   have next : Pg.q L i j = false → Gd PP 67 (bo (Pg.valid L)) (lp fva 2) (vaY L m i (j + 1)) := fun hqj =>
    ih (j + 1) ⟨fun t ht => by
     by_cases e : t = j
     · subst e; rw [hqj]; simp
     · exact hq t (by omega), by omega, by omega⟩ (by omega)
   by_cases hne : (((j + 1) % L.length : Nat) : Int) != (i : Int)
   · by_cases hmt : Pg.meets (Pg.cor L i) (Pg.cor L (i + 1)) (Pg.cor L j) (Pg.cor L (j + 1)) = true
     · rw [va_bad (i := i) (t := 0) (by
        unfold Pg.bad
        rw [any_true hlt (by unfold Pg.q; rw [hne, hmt]; simp; omega)]; simp) hi]
       exact fi (F0 ++ [ye hne] ++ F1 ++ [ye hmt]) (by kernel_rfl) (by kernel_rfl)
     · have hmt := Bool.eq_false_iff.2 hmt
       exact .to mo_ [] [1, 3, 6, 7, 8, 35, 36] [0, 1] 2 (F0 ++ [ye hne] ++ F1 ++ [na hmt, inc 58 j (by omega)]) (next (by unfold Pg.q; rw [hmt]; simp)) (by kernel_rfl)
   · have hne := Bool.eq_false_iff.2 hne
     exact .to mo_ [] [1, 3, 6, 7, 8, 35, 36] [0, 1] 2 (F0 ++ [na hne, nf, inc 58 j (by omega)]) (next (by unfold Pg.q; rw [hne]; simp)) (by kernel_rfl)
 · exact .to mo_ [] [1, 3, 6, 35, 36] [0, 1] 2 [na (t := decide ((j : Int) < ((m + 1 : Nat) : Int))) (decide_eq_false (by omega)), inc 82 i (by omega)] (h (by
    unfold Pg.bad
    rw [hfl, any_false fun t ht => hq t (by omega)]; rfl)) (by kernel_rfl)
theorem va_outer (hm : L.length = m + 1) (hb : ∀ a ∈ L, Bv k a) (hn : 3 ≤ L.length ∧ L.length ≤ 12) (hk : k ≤ 10000) :
  ∀ i, i ≤ L.length ∧ (∀ t, t < i → Pg.bad L t = false) → Gd PP 67 (bo (Pg.valid L)) (lp fva 1) (vaX L m i (bi i)) := by
 refine Gd.loop (fun i => vaX L m i (bi i)) _ (fun i => L.length - i) ?_
 rintro i ⟨hi, hI⟩ ih
 by_cases h : i < L.length
 · cases hf : Pg.flatp L i with
   | true =>
     rw [va_bad (i := i) (t := 0) (by unfold Pg.bad; rw [hf]; rfl) h]
     have c0 := e_vcor hm i
     have c1 := e_vcor hm (i + 1)
     have c2 := e_vcor hm (i + 2)
     have sd := e_side (bco hb (by omega) i) (bco hb (by omega) (i + 1)) (bco hb (by omega) (i + 2)) (by omega)
     generalize bi i = bb
     cases bb <;> exact fi [ye (t := decide ((i : Int) < ((m + 1 : Nat) : Int))) (decide_eq_true (by omega)), cl c0, inc 44 i (by omega), cl c1, inc2 48 i (by omega), cl c2, cl sd, ye (t := Go.Proofs.YtlgnagnmoleeiaaGreat.vside (Pg.cor L i) (Pg.cor L (i + 1)) (Pg.cor L (i + 2)) == 0) hf] (by kernel_rfl) (by kernel_rfl)
   | false =>
     refine va_round hm hb hn.2 hk _ h (by unfold Pg.flatp at hf; simpa using hf) (va_inner hm hb hn.2 hk h hf (fun hbad => ih (i + 1) ⟨h, fun t ht => ?_⟩ (by omega)) (i + 2) ⟨fun t ht => by
      rw [show decide (i + 2 ≤ t) = false from decide_eq_false (by omega)]; rfl, by omega, Nat.le_refl _⟩)
     by_cases e : t = i
     · subst e; exact hbad
     · exact hI t (by omega)
 · have hv : Pg.valid L = decide (0 < sgnZ (Pg.area L).num) := by
    unfold Pg.valid
    rw [any_false fun t ht => hI t (by omega), decide_eq_true hn.1, decide_eq_true hn.2]; rfl
   rw [hv]
   have ha := e_area hb (by omega) (by
    have := Nat.mul_le_mul (show 20 * k + 100 ≤ 200100 by omega) (show L.length + 2 ≤ 14 by omega)
    omega)
   obtain ⟨i', rfl⟩ : ∃ q, i = q + 1 := ⟨i - 1, by omega⟩
   exact fi [na (t := decide (((i' + 1 : Nat) : Int) < ((m + 1 : Nat) : Int))) (decide_eq_false (by omega)), cl ha, cl (e_rsign (Pg.area L))] (by kernel_rfl) (by kernel_rfl)
theorem va_rats (hm : L.length = m + 1) (hb : ∀ a ∈ L, Bv k a) (hn : 3 ≤ L.length ∧ L.length ≤ 12) (hk : k ≤ 10000) :
  ∀ i, i ≤ L.length → Gd PP 67 (bo (Pg.valid L)) (lp fva 0) (at_ fva [(1, .lp 0 0), (3, .lp 1 0), (17, dL L), (18, ni ((L.map dV).length : Int)), (19, ni i)] (vaH L m false)) := by
 refine Gd.loop (fun i : Nat => at_ fva [(1, .lp 0 0), (3, .lp 1 0), (17, dL L), (18, ni ((L.map dV).length : Int)), (19, ni i)] (vaH L m false)) _ (fun i => L.length - i) ?_
 intro i hi ih
 by_cases h : i < L.length
 · have b := bel hb h
   exact .to mo_ [] [1, 3, 17, 18, 19] [0, 1] 2 [ye (t := il_ i L) (il_t h), .sel _ _ _ (el h), cl (e_rvalid b.1 (by omega)), nf, cl (e_rvalid b.2 (by omega)), nf, inc 33 i (by omega)] (ih (i + 1) h (by omega)) (by kernel_rfl)
 · exact .to mo_ [] [1, 3, 6, 35, 36] [0, 1] 2 [na (t := il_ i L) (il_f h)] (va_outer hm hb hn hk 0 ⟨Nat.zero_le _, fun t ht => absurd ht (Nat.not_lt_zero t)⟩) (by kernel_rfl)
theorem e_valid (hb : ∀ a ∈ L, Bv k a) (hn : L.length ≤ 100) (hk : k ≤ 10000) : Pure PP 67 [dL L] (bo (Pg.valid L)) := by
 cases hc : L with
 | nil =>
   rw [show Pg.valid [] = false from rfl]
   exact tr [yt, yt] (by kernel_rfl)
 | cons a r =>
   rw [← hc]
   obtain ⟨m, hm⟩ : ∃ m, L.length = m + 1 := ⟨r.length, by rw [hc]; rfl⟩
   by_cases h3 : L.length < 3
   · rw [show Pg.valid L = false by unfold Pg.valid; rw [decide_eq_false (by omega)]; rfl]
     exact tr [le_ 10 m hm, ye (t := decide (((m + 1 : Nat) : Int) < 3)) (decide_eq_true (by omega)), yt] (by kernel_rfl)
   · by_cases h12 : L.length ≤ 12
     · exact pf (by kernel_rfl) (.to mo_ [] [1, 3, 17, 18, 19] [0, 1] 2 [le_ 10 m hm, na (t := decide (((m + 1 : Nat) : Int) < 3)) (decide_eq_false (by omega)), na (t := decide (((m + 1 : Nat) : Int) > 12)) (decide_eq_false (by omega))] (va_rats hm hb ⟨by omega, h12⟩ hk 0 (Nat.zero_le _)) (by kernel_rfl))
     · rw [show Pg.valid L = false by unfold Pg.valid; rw [decide_eq_false h12]; simp]
       exact tr [le_ 10 m hm, na (t := decide (((m + 1 : Nat) : Int) < 3)) (decide_eq_false (by omega)), ye (t := decide (((m + 1 : Nat) : Int) > 12)) (decide_eq_true (by omega))] (by kernel_rfl)
end
end Go.Proofs.YtlgnagnmoleeiaaGreat.E




namespace Go.Proofs.YtlgnagnmoleeiaaGreat.E
open Go.RowKit
set_option linter.unusedVariables false
theorem same_v (v : Rat × Rat) : Pure PP 31 [.ag (dV v), .ag (dV v)] (bo true) := (show decide (v = v) = true by simp) ▸ e_vsame5 v v
section
end
end Go.Proofs.YtlgnagnmoleeiaaGreat.E

namespace Go.Proofs.YtlgnagnmoleeiaaGreat.E
open Go.RowKit
set_option linter.unusedVariables false
section
variable {L : List (Rat × Rat)} {k j i : Nat} {p : Pl} {l m : List Int} {how by_ : Int}
theorem take_map_app {g : Rat × Rat → Rat × Rat} (h : i < L.length) : ((L.take i).map g).map dV ++ [dV (g (L.getD i (0, 0)))] = ((L.take (i + 1)).map g).map dV := by
 rw [List.take_succ_eq_append_getElem h, List.map_append, List.map_append, List.getD_eq_getElem?_getD, List.getElem?_eq_getElem h]; rfl
theorem e_move (b1 : Bv j p.1) (b2 : Bv j p.2) (hb : ∀ a ∈ L, Bv k a) (hn : L.length ≤ 100) (hk : 40 * (j + k) + 100 ≤ 800000000000) : Pure PP 39 [.ag (dPl p), dL L] (dL (L.map (vput p))) := by
 have hl : (L.map dV).length = L.length := List.length_map ..
 let X : Nat → St := fun i => at_ (fnOf PP 39) [(2, .lp 0 0), (5, .ow 1), (8, dL L), (9, ni (L.map dV).length), (10, ni i)] [.bx 60 (dPl p), .rw 58 8 (((L.take i).map (vput p)).map dV)]
 refine pf (by kernel_rfl) (.to mo_ [.ow 5 (.rw 58 8 [])] [2, 5, 8, 9, 10] [0, 1] 2 [] (td' := lp (fnOf PP 39) 0) (σ' := X 0) ?_ (by kernel_rfl))
 refine Gd.loop X (fun i => i ≤ L.length) (fun i => L.length - i) ?_ _ (Nat.zero_le _)
 intro i hi ih
 by_cases h : i < L.length
 · exact .to mo_ [.mv 1 4] [2, 5, 8, 9, 10] [0, 1] 2 [ye (t := il_ i L) (il_t h), .sel _ _ _ (el h), cl (e_put b1 b2 (bel hb h) hk), .app (((L.take i).map (vput p)).map dV) [dV (vput p (L.getD i (0, 0)))] (((L.take (i + 1)).map (vput p)).map dV) 200 (take_map_app h) (by simp) (by rw [List.length_map, List.length_map, List.length_take]; omega), inc 20 i (by omega)] (ih (i + 1) h (by omega)) (by kernel_rfl)
 · rw [show L.map (vput p) = (L.take i).map (vput p) by rw [List.take_of_length_le (by omega)]]
   exact fi [na (t := il_ i L) (il_f h)] (by kernel_rfl) (by kernel_rfl)
end
end Go.Proofs.YtlgnagnmoleeiaaGreat.E
namespace Go.Proofs.YtlgnagnmoleeiaaGreat.E.Ct
open Go.RowKit
set_option linter.unusedVariables false
set_option linter.unusedSimpArgs false
abbrev Vc : Type := Rat × Rat
section
end
end Go.Proofs.YtlgnagnmoleeiaaGreat.E.Ct




namespace Go.Proofs.YtlgnagnmoleeiaaGreat.E.Ct
open Go.RowKit
set_option linter.unusedVariables false
set_option linter.unusedSimpArgs false
structure Pi where
 id : Int
 home : Int
 rim : List (Int × Int)
 worn : List Bool
 marks : List Int
 tol : Rat
 light : Rat
 heavy : Rat
 str : Rat
 rough : Rat
def ptR (l : List (Int × Int)) : List (List V) := l.map fun p => [ni p.1, ni p.2]
def wnR (l : List Bool) : List (List V) := l.map fun p => [bo p]
def Pi.v (p : Pi) : List V := [ni p.id, ni p.home, .sl (ptR p.rim), .sl (wnR p.worn), zl p.marks] ++ (dR p.tol ++ (dR p.light ++ (dR p.heavy ++ (dR p.str ++ dR p.rough))))
def qv (x : Int × Int) : Vc := (Rat.divInt x.1 1, Rat.divInt x.2 1)
def Pi.rimV (p : Pi) : List Vc := p.rim.map qv
structure Pi.Ok (p : Pi) (b : Nat) : Prop where
 r : ∀ x ∈ p.rim, W.Is64 x.1 ∧ W.Is64 x.2
 n : 0 < p.rim.length ∧ p.rim.length ≤ 1000
 tol : Bq b p.tol
 light : Bq b p.light
 heavy : Bq b p.heavy
 str : Bq b p.str
 rough : Bq b p.rough
section
variable {p : Pi} {b k : Nat} {x y : Int} {r t : Rat}
theorem get_of {α : Type} {l : List α} {i : Nat} (h : i < l.length) : ∃ x, l[i]? = some x ∧ x ∈ l := ⟨l[i], List.getElem?_eq_getElem h, List.getElem_mem h⟩
theorem is1_ : W.Is64 1 := ⟨by decide, by decide⟩
theorem e_pof (hx : W.Is64 x) (hy : W.Is64 y) : Pure PP 102 [ni x, ni y] (.ag (dV (qv (x, y)))) := tr [cl (e_rof hx is1_), cl (e_rof hy is1_)] (by kernel_rfl)
theorem pt_at {q : Int × Int} {l : List (Int × Int)} (h : l[k]? = some q) : (ptR l)[k]? = some [ni q.1, ni q.2] := by unfold ptR; rw [List.getElem?_map, h]; rfl
theorem rim_app {q : Int × Int} (h : p.rim[k]? = some q) : (p.rimV.take k).map dV ++ [qv q].map dV = (p.rimV.take (k + 1)).map dV := by
 rw [List.take_add_one]
 unfold Pi.rimV
 rw [List.getElem?_map, h, List.map_append]
 rfl
noncomputable abbrev frm : Func := fnOf PP 41
theorem e_rim (h : p.Ok b) : Pure PP 41 [.ag p.v] (.o 58 8 (p.rimV.map dV)) := by
 have hn := h.n
 have hl : (ptR p.rim).length = p.rim.length := List.length_map ..
 have hv : p.rimV.length = p.rim.length := List.length_map ..
 let X : Nat → St := fun k => at_ frm [(3, .ow 1), (7, .sl (ptR p.rim)), (8, ni (p.rim.length : Int)), (9, ni (k : Int))] [.dead, .rw 58 8 ((p.rimV.take k).map dV)]
 refine pf (by kernel_rfl) (.to mo_ [.ow 3 (.rw 58 8 [])] [3, 7, 8, 9] [1] 2 [.eqv 8 (ni ((ptR p.rim).length : Int)) (ni (p.rim.length : Int)) (by rw [hl])] (td' := lp frm 0) (σ' := X 0) ?_ (by kernel_rfl))
 refine Gd.loop X (fun k => k ≤ p.rim.length) (fun k => p.rim.length - k) ?_ 0 (Nat.zero_le _)
 intro k hk ih
 by_cases g : k < p.rim.length
 · obtain ⟨q, hq, hm⟩ := get_of g
   obtain ⟨h1, h2⟩ := h.r q hm
   exact .to mo_ [.mv 1 4] [3, 7, 8, 9] [1] 2 [ye (t := decide ((k : Int) < (p.rim.length : Int))) (decide_eq_true (by omega)), .sel _ _ _ (pt_at hq), cl (e_pof h1 h2), .app ((p.rimV.take k).map dV) ([qv q].map dV) ((p.rimV.take (k + 1)).map dV) 2000 (rim_app hq) Nat.zero_lt_one (by rw [List.length_map, List.length_take]; omega), inc 21 k (by omega)] (ih (k + 1) g (by omega)) (by kernel_rfl)
 · have e : k = p.rim.length := by omega
   subst e
   have hX : X p.rim.length = at_ frm [(3, .ow 1), (7, .sl (ptR p.rim)), (8, ni (p.rim.length : Int)), (9, ni (p.rim.length : Int))] [.dead, .rw 58 8 (p.rimV.map dV)] := by simp only [X]; rw [← hv, List.take_length]
   rw [hX]
   exact fi [na (t := decide ((p.rim.length : Int) < (p.rim.length : Int))) (decide_eq_false (by omega))] (by kernel_rfl) (by kernel_rfl)
noncomputable abbrev fr12 : Func := fnOf PP 49
theorem e_rim12w (hr : ∀ x ∈ p.rim, W.Is64 x.1 ∧ W.Is64 x.2) (hn : p.rim.length ≤ 1000) : Pure PP 49 [.ag p.v] (.o 58 8 (p.rimV.map dV)) := by
 have hl : (ptR p.rim).length = p.rim.length := List.length_map ..
 have hv : p.rimV.length = p.rim.length := List.length_map ..
 let X : Nat → St := fun k => at_ fr12 [(1, .ip p.v), (3, .ow 1), (4, ni (k : Int))] [.dead, .rw 58 8 ((p.rimV.take k).map dV)]
 refine pf (by kernel_rfl) (.to mo_ [.ow 3 (.rw 58 8 []), .fz 1] [1, 3, 4] [1] 2 [] (td' := lp fr12 0) (σ' := X 0) ?_ (by kernel_rfl))
 refine Gd.loop X (fun k => k ≤ p.rim.length) (fun k => p.rim.length - k) ?_ 0 (Nat.zero_le _)
 intro k hk ih
 by_cases g : k < p.rim.length
 · obtain ⟨q, hq, hm⟩ := get_of g
   obtain ⟨h1, h2⟩ := hr q hm
   exact .to mo_ [.mv 1 3] [1, 3, 4] [1] 2 [.eqv 8 (ni ((ptR p.rim).length : Int)) (ni (p.rim.length : Int)) (by rw [hl]), ye (t := decide ((k : Int) < (p.rim.length : Int))) (decide_eq_true (by omega)), .sel _ _ _ (pt_at hq), .sel _ _ _ (pt_at hq), cl (e_vof h1 h2), .app ((p.rimV.take k).map dV) ([qv q].map dV) ((p.rimV.take (k + 1)).map dV) 2000 (rim_app hq) Nat.zero_lt_one (by rw [List.length_map, List.length_take]; omega), inc 11 k (by omega)] (ih (k + 1) g (by omega)) (by kernel_rfl)
 · have e : k = p.rim.length := by omega
   subst e
   have hX : X p.rim.length = at_ fr12 [(1, .ip p.v), (3, .ow 1), (4, ni (p.rim.length : Int))] [.dead, .rw 58 8 (p.rimV.map dV)] := by simp only [X]; rw [← hv, List.take_length]
   rw [hX]
   exact fi [.eqv 8 (ni ((ptR p.rim).length : Int)) (ni (p.rim.length : Int)) (by rw [hl]), na (t := decide ((p.rim.length : Int) < (p.rim.length : Int))) (decide_eq_false (by omega))] (by kernel_rfl) (by kernel_rfl)
end
end Go.Proofs.YtlgnagnmoleeiaaGreat.E.Ct
namespace Go.Proofs.YtlgnagnmoleeiaaGreat.E.Ct
open Go.RowKit
set_option linter.unusedVariables false
set_option linter.unusedSimpArgs false
section
variable {p : Pi} {pl : Pl} {b k j : Nat} {u : Vc} {st : Int}
structure Pi.Good (p : Pi) (pl : Pl) (b : Nat) : Prop where
 ok : p.Ok b
 r : ∀ a ∈ p.rimV, Bv b a
 t : Bv b pl.1
 a : Bv b pl.2
 n : p.rim.length ≤ 100
 k : b ≤ 10000
end
end Go.Proofs.YtlgnagnmoleeiaaGreat.E.Ct
namespace Go.Proofs.YtlgnagnmoleeiaaGreat.E
open Go.RowKit
set_option linter.unusedVariables false
theorem Pure.ro {P : Program} {f : FuncId} {ds : List V} {T z : Nat} {l : List (List V)} (h : Pure P f ds (.o T z l)) : Pure P f ds (.v (.sl l)) :=
 ⟨h.1, fun w M args hM hr => (h.2 w M args hM hr).mono fun e w' ⟨v, e1, ok, bel⟩ => ⟨v, e1, by
  obtain ⟨q1, xs, q2, q3, q4⟩ := ok
  show Rep w' M no v (.sl l)
  have hxl : xs.length = l.flatten.length := by rw [q2.1, flat_len q1]
  rcases q2.2 with ⟨rfl, e0⟩ | ⟨g, cap, cur, rfl, hB, hh, hnc, hcm, hcs', htk⟩
  · have h0 : l = [] := List.length_eq_zero_iff.1 e0
    subst h0
    exact .sl _ none 0 0 0 z [] (fun _ _ => undef) (Nat.le_refl _) (Nat.zero_le _) (fun h => by simp at h) (fun _ h => by simp at h) (fun i j cs x h => by simp at h) (fun i j cs x h => by simp at h)
  · refine .sl _ _ g 0 cap z l (fun i j => xs.getD (i * z + j) undef) hnc hcm (fun _ => ⟨rfl, fun hA => hB (hM g hA), ⟨cur, T, (0, 0), hh⟩⟩) q1 (fun i j cs x hi hj => ?_) (fun i j cs x hi hj => ?_)
    · have e1 := flat_get q1 hi hj
      have e2 := (List.getElem?_eq_some_iff.1 e1).1
      have e3 : xs[i * z + j]? = some (xs.getD (i * z + j) undef) := by rw [List.getD_eq_getElem?_getD, List.getElem?_eq_getElem (by omega)]; rfl
      have := row_cell q2 rfl e3
      rwa [show 0 + i * z + j = i * z + j by omega]
    · exact (q4 _ x (flat_get q1 hi hj)).mo ⟨Nat.le_refl _, fun _ _ _ => rfl, fun g e => .inl (.inl e), fun _ _ e => e⟩, bel⟩⟩
end Go.Proofs.YtlgnagnmoleeiaaGreat.E
namespace Go.Proofs.YtlgnagnmoleeiaaGreat.E.Pc
open Go.RowKit
set_option linter.unusedVariables false
set_option linter.unusedSimpArgs false
/-- The cells, moved up to one of them. -/
def mvR (pl : Vc × (Rat × Rat)) (T : List (List Vc)) (k : Nat) : List (List Vc) := (T.take k).map (fun K => K.map (vput pl)) ++ T.drop k
section
variable {L : List Vc} {b k j : Nat} {T : List (List Vc)} {p : Ct.Pi} {pl : Vc × (Rat × Rat)}
theorem mvR_at (h : k < T.length) : (rowsL (mvR pl T k))[k]? = some [dL T[k]] := by
 have : (mvR pl T k)[k]? = some T[k] := by
  unfold mvR
  rw [List.getElem?_append_right (by rw [List.length_map, List.length_take]; omega), List.length_map, List.length_take, List.getElem?_drop, Nat.min_eq_left (by omega), Nat.sub_self, Nat.add_zero, List.getElem?_eq_getElem h]
 unfold rowsL
 rw [List.getElem?_map, this]
 rfl
theorem mvR_set (h : k < T.length) : (rowsL (mvR pl T k)).set k [dL (T[k].map (vput pl))] = rowsL (mvR pl T (k + 1)) := by
 unfold rowsL mvR
 rw [← List.map_set]
 congr 1
 rw [List.set_append_right _ _ (by rw [List.length_map, List.length_take]; omega), List.length_map, List.length_take, Nat.min_eq_left (by omega), Nat.sub_self, List.drop_eq_getElem_cons h, List.set_cons_zero, List.take_add_one, List.getElem?_eq_getElem h, List.map_append, List.append_assoc]
 rfl
theorem mvR_len : (rowsL (mvR pl T k)).length = T.length := by
 have : (rowsL (mvR pl T k)).length = (mvR pl T k).length := List.length_map ..
 rw [this]
 unfold mvR
 rw [List.length_append, List.length_map, List.length_take, List.length_drop]
 omega
noncomputable abbrev fpc : Func := fnOf PP 35
theorem e_pcells (ok : p.Ok 100) (hb : ∀ a ∈ p.rimV, Bv b a) (h3 : 3 ≤ p.rimV.length) (hn : p.rimV.length ≤ 900) (cv : Pure PP 67 [dL p.rimV] (bo true)) (b1 : Bv j pl.1) (b2 : Bv j pl.2) (hk : 100 * (b + j) + 1000 ≤ 800000000000) : Pure PP 35 [.ag p.v, .ag (dPl pl)] (.o 70 1 (rowsL ((cutT p.rimV).map fun K => K.map (vput pl)))) := by
 have cr := (Ct.e_rim ok).ro
 have co := e_cof hb (by omega) h3 hn cv
 have hr : Rm p.rimV (List.range p.rimV.length) b := ⟨fun x hx => List.mem_range.1 hx, by rw [List.length_range]; omega, hb, by omega⟩
 have hin := cut_in p.rimV.length (List.range p.rimV.length) hr List.nodup_range (by rw [List.length_range]; omega) (by rw [List.length_range]; omega)
 have ht : ∀ K ∈ cutT p.rimV, K.length = 3 ∧ ∀ a ∈ K, Bv b a := fun K hK => by
  unfold cutT at hK
  obtain ⟨t, hm, rfl⟩ := List.mem_map.1 hK
  obtain ⟨q1, q2⟩ := hin t hm
  refine ⟨by rw [List.length_map, q1], fun a ha => ?_⟩
  obtain ⟨x, hx, rfl⟩ := List.mem_map.1 ha
  exact hr.bv (q2 x hx)
 have hres : (cutT p.rimV).map (fun K => K.map (vput pl)) = mvR pl (cutT p.rimV) (cutT p.rimV).length := by unfold mvR; rw [List.take_length, List.drop_length, List.append_nil]
 rw [hres]
 have hst : rowsL (cutT p.rimV) = rowsL (mvR pl (cutT p.rimV) 0) := rfl
 rw [hst] at co
 have hTl : (cutT p.rimV).length ≤ 901 := by
  have h1 := cut_len (L := p.rimV) p.rimV.length (List.range p.rimV.length)
  have h2 : (cutT p.rimV).length = (cutL p.rimV).length := List.length_map ..
  have h3 : (cutL p.rimV).length ≤ p.rimV.length + 1 := h1
  omega
 generalize cutT p.rimV = T at *
 generalize p.rimV = L at *
 have hlen := mvR_len (pl := pl) (T := T) (k := 0)
 let X : Nat → St := fun k => at_ fpc [(3, .ip (dPl pl)), (5, .ow 2), (15, .ow 2), (16, ni (T.length : Int)), (17, ni (k : Int))] [.dead, .dead, .rw 70 1 (rowsL (mvR pl T k))]
 refine pf (by kernel_rfl) (.to mo_ [.fz 3] [3, 5, 15, 16, 17] [2] 3 [cl cr, .lend _ _ _ _ [] co, .eqv 16 (ni ((rowsL (mvR pl T 0)).length : Int)) (ni (T.length : Int)) (by rw [hlen])] (td' := lp fpc 0) (σ' := X 0) ?_ (by kernel_rfl))
 refine Gd.loop X (fun k => k ≤ T.length) (fun k => T.length - k) ?_ 0 (Nat.zero_le _)
 intro k hk' ih
 by_cases g : k < T.length
 · have hx : decide ((k : Int) < (T.length : Int)) = true := decide_eq_true (by omega)
   have nx := ih (k + 1) (by omega) (by omega)
   have e := mvR_at (pl := pl) g
   have s := mvR_set (pl := pl) g
   obtain ⟨q1, q2⟩ := ht _ (List.getElem_mem g)
   have m := e_move (p := pl) b1 b2 q2 (by omega) (by omega)
   simp only [X] at nx ⊢
   generalize rowsL (mvR pl T k) = A at *
   generalize rowsL (mvR pl T (k + 1)) = B at *
   generalize T[k] = K at *
   exact .to mo_ [] [3, 5, 15, 16, 17] [2] 3 [ye hx, .sel _ _ _ e, .sel _ _ _ e, cl m, .sel _ _ _ e, .upd _ _ _ _ _ e s, inc 28 k (by omega)] nx (by kernel_rfl)
 · have : k = T.length := by omega
   subst this
   have hx : decide ((T.length : Int) < (T.length : Int)) = false := decide_eq_false (by omega)
   exact fi [na hx] (by kernel_rfl) (by kernel_rfl)
end
end Go.Proofs.YtlgnagnmoleeiaaGreat.E.Pc
namespace Go.Proofs.YtlgnagnmoleeiaaGreat.E.Pc
open Go.RowKit
set_option linter.unusedVariables false
set_option linter.unusedSimpArgs false
/-- The number of an edge, counted around. -/
def edK (k : Int) (n : Nat) : Nat := (k % (n : Int)).toNat
def cpt (P : List (Int × Int)) (i : Nat) : Int × Int := P.getD i (0, 0)
def edV (P : List (Int × Int)) (q : Nat) : Int × Int := ((cpt P ((q + 1) % P.length)).1 - (cpt P q).1, (cpt P ((q + 1) % P.length)).2 - (cpt P q).2)
/-- Small coordinates. -/
def SmP (P : List (Int × Int)) : Prop := ∀ c ∈ P, (-100000 ≤ c.1 ∧ c.1 ≤ 100000) ∧ (-100000 ≤ c.2 ∧ c.2 ≤ 100000)
section
variable {p : Ct.Pi} {P : List (Int × Int)} {k : Int} {n m q i : Nat}
theorem ed_mod (hm : n = m + 1) : (k.tmod ((m + 1 : Nat) : Int) + ((m + 1 : Nat) : Int)).tmod ((m + 1 : Nat) : Int) = ((edK k n : Nat) : Int) := by
 subst hm
 have h0 : (0 : Int) < ((m + 1 : Nat) : Int) := by omega
 unfold edK
 rw [Int.toNat_of_nonneg (Int.emod_nonneg _ (by omega))]
 have h1 := Int.emod_nonneg k (show ((m + 1 : Nat) : Int) ≠ 0 by omega)
 have h2 := Int.emod_lt_of_pos k h0
 have h3 : 0 ≤ k.tmod ((m + 1 : Nat) : Int) + ((m + 1 : Nat) : Int) := by
  have := Int.lt_tmod_of_pos k h0
  omega
 rw [Int.tmod_eq_emod_of_nonneg h3, Int.add_emod_right]
 rw [Int.tmod_eq_emod]
 split
 · simp
 · rw [Int.natAbs_natCast, Int.sub_emod_right, Int.emod_emod_of_dvd _ (Int.dvd_refl _)]
theorem ed_lt (h : 0 < n) : edK k n < n := by
 unfold edK
 have h1 := Int.emod_nonneg k (show (n : Int) ≠ 0 by omega)
 have h2 := Int.emod_lt_of_pos k (show (0 : Int) < (n : Int) by omega)
 omega
theorem cpt_at (h : q < P.length) : (Ct.ptR P)[q]? = some [ni (cpt P q).1, ni (cpt P q).2] := by
 have : P[q]? = some (cpt P q) := by unfold cpt; rw [List.getD_eq_getElem?_getD, List.getElem?_eq_getElem h]; rfl
 exact Ct.pt_at this
theorem cpt_in (hs : SmP P) (h : q < P.length) : (-100000 ≤ (cpt P q).1 ∧ (cpt P q).1 ≤ 100000) ∧ (-100000 ≤ (cpt P q).2 ∧ (cpt P q).2 ≤ 100000) := hs _ (by unfold cpt; rw [List.getD_eq_getElem?_getD, List.getElem?_eq_getElem h]; exact List.getElem_mem h)
theorem e_edge (h0 : 0 < p.rim.length) (hn : p.rim.length ≤ 1000) (hs : SmP p.rim) (hk : W.Is64 k) : Pure PP 113 [.ag p.v, ni k] (.tu [ni (edV p.rim (edK k p.rim.length)).1, ni (edV p.rim (edK k p.rim.length)).2]) := by
 obtain ⟨m, hm⟩ : ∃ m, p.rim.length = m + 1 := ⟨p.rim.length - 1, by omega⟩
 have hl : (Ct.ptR p.rim).length = m + 1 := by rw [show (Ct.ptR p.rim).length = p.rim.length from List.length_map .., hm]
 have hq := ed_lt (k := k) h0
 have hmod := ed_mod (k := k) hm
 have hb : -((m + 1 : Nat) : Int) < k.tmod ((m + 1 : Nat) : Int) ∧ k.tmod ((m + 1 : Nat) : Int) < ((m + 1 : Nat) : Int) := ⟨Int.lt_tmod_of_pos k (by omega), Int.tmod_lt_of_pos k (by omega)⟩
 have hq2 : (edK k p.rim.length + 1) % p.rim.length < p.rim.length := Nat.mod_lt _ h0
 have e1 := cpt_at hq
 have e2 := cpt_at hq2
 obtain ⟨⟨a1, a2⟩, a3, a4⟩ := cpt_in hs hq
 obtain ⟨⟨b1, b2⟩, b3, b4⟩ := cpt_in hs hq2
 have r1 : ni (((edK k p.rim.length + 1 : Nat) : Int).tmod ((m + 1 : Nat) : Int)) = ni (((edK k p.rim.length + 1) % p.rim.length : Nat) : Int) := by rw [tmod_, hm]
 have hv : p.v = [ni p.id, ni p.home, .sl (Ct.ptR p.rim), .sl (Ct.wnR p.worn), zl p.marks] ++ (dR p.tol ++ (dR p.light ++ (dR p.heavy ++ (dR p.str ++ dR p.rough)))) := rfl
 unfold edV
 rw [hv]
 generalize edK k p.rim.length = q at *
 generalize cpt p.rim q = A at *
 generalize cpt p.rim ((q + 1) % p.rim.length) = B at *
 generalize (q + 1) % p.rim.length = q2 at *
 generalize Ct.ptR p.rim = PR at *
 generalize Ct.wnR p.worn = WR at *
 exact tr [.eqv 11 (ni (PR.length : Int)) (ni ((m + 1 : Nat) : Int)) (by rw [hl]), wq 16 (k.tmod ((m + 1 : Nat) : Int) + ((m + 1 : Nat) : Int)) (k.tmod ((m + 1 : Nat) : Int) + ((m + 1 : Nat) : Int)) (by omega), .eqv 18 (ni ((k.tmod ((m + 1 : Nat) : Int) + ((m + 1 : Nat) : Int)).tmod ((m + 1 : Nat) : Int))) (ni (q : Int)) (by rw [hmod]), .sel _ _ _ e1, inc 27 q (by omega), .eqv 29 _ _ r1, .sel _ _ _ e2, wq 36 (B.1 - A.1) (B.1 - A.1) (by omega), wq 41 (B.2 - A.2) (B.2 - A.2) (by omega)] (by kernel_rfl)
theorem ed_in (hs : SmP P) (h0 : 0 < P.length) (hq : q < P.length) : (-200000 ≤ (edV P q).1 ∧ (edV P q).1 ≤ 200000) ∧ (-200000 ≤ (edV P q).2 ∧ (edV P q).2 ≤ 200000) := by
 obtain ⟨⟨a1, a2⟩, a3, a4⟩ := cpt_in hs hq
 obtain ⟨⟨b1, b2⟩, b3, b4⟩ := cpt_in hs (Nat.mod_lt (q + 1) h0)
 unfold edV
 refine ⟨⟨?_, ?_⟩, ?_, ?_⟩ <;> (dsimp only; omega)
theorem e_edgeV (h0 : 0 < p.rim.length) (hn : p.rim.length ≤ 1000) (hs : SmP p.rim) (hk : W.Is64 k) : Pure PP 50 [.ag p.v, ni k] (.ag (dV (Ct.qv (edV p.rim (edK k p.rim.length))))) := by
 have c := e_edge h0 hn hs hk
 obtain ⟨⟨a1, a2⟩, a3, a4⟩ := ed_in hs h0 (ed_lt (k := k) h0)
 have o := Ct.e_pof (x := (edV p.rim (edK k p.rim.length)).1) (y := (edV p.rim (edK k p.rim.length)).2) ⟨by omega, by omega⟩ ⟨by omega, by omega⟩
 rw [Prod.eta] at o
 have hv : p.v = [ni p.id, ni p.home, .sl (Ct.ptR p.rim), .sl (Ct.wnR p.worn), zl p.marks] ++ (dR p.tol ++ (dR p.light ++ (dR p.heavy ++ (dR p.str ++ dR p.rough)))) := rfl
 rw [hv] at c ⊢
 generalize edV p.rim (edK k p.rim.length) = E at *
 exact tr [cl c, cl o] (by kernel_rfl)
def sqV (P : List (Int × Int)) (q : Nat) : Int := (edV P q).1 * (edV P q).1 + (edV P q).2 * (edV P q).2
theorem sq_le {x : Int} (h1 : -200000 ≤ x) (h2 : x ≤ 200000) : 0 ≤ x * x ∧ x * x ≤ 40000000000 := by
 constructor
 · rcases Int.le_total 0 x with h | h
   · exact Int.mul_nonneg h h
   · have := Int.mul_nonneg (show 0 ≤ -x by omega) (show 0 ≤ -x by omega)
     rwa [Int.neg_mul_neg] at this
 · have h3 : x.natAbs ≤ 200000 := by omega
   have h4 := Nat.mul_le_mul h3 h3
   rw [← Int.natAbs_mul] at h4
   omega
theorem e_square (h0 : 0 < p.rim.length) (hn : p.rim.length ≤ 1000) (hs : SmP p.rim) (hk : W.Is64 k) : Pure PP 53 [.ag p.v, ni k] (ni (sqV p.rim (edK k p.rim.length))) := by
 have c := e_edge h0 hn hs hk
 obtain ⟨⟨a1, a2⟩, a3, a4⟩ := ed_in hs h0 (ed_lt (k := k) h0)
 obtain ⟨s1, s2⟩ := sq_le a1 a2
 obtain ⟨s3, s4⟩ := sq_le a3 a4
 have hv : p.v = [ni p.id, ni p.home, .sl (Ct.ptR p.rim), .sl (Ct.wnR p.worn), zl p.marks] ++ (dR p.tol ++ (dR p.light ++ (dR p.heavy ++ (dR p.str ++ dR p.rough)))) := rfl
 unfold sqV
 rw [hv] at c ⊢
 generalize edV p.rim (edK k p.rim.length) = E at *
 exact tr [cl c, wq 15 (E.1 * E.1) (E.1 * E.1) (by omega), wq 18 (E.2 * E.2) (E.2 * E.2) (by omega), wq 19 (E.1 * E.1 + E.2 * E.2) (E.1 * E.1 + E.2 * E.2) (by omega)] (by kernel_rfl)
end
end Go.Proofs.YtlgnagnmoleeiaaGreat.E.Pc
