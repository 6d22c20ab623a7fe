/-
 CONTACT: generators: a box that was broken in two: the other way, if the pieces are no polygons.
-/
import Derived.Test.YtbaggkbleehegaaGreatEvZ
namespace Go.Proofs.YtbaggkbleehegaaGreat.E.Ct
open Go.RowKit
set_option linter.unusedVariables false
set_option linter.unusedSimpArgs false
def z4_ : List V := [bo false, .sl [], bo false, .sl []]
theorem dV_0 (r : Rat) : dV (r, 0) = dR r ++ z4_ := by show dR r ++ dR 0 = _; rw [dR_0]; rfl
theorem dV_00 : dV (0, 0) = z4_ ++ z4_ := by show dR 0 ++ dR 0 = _; rw [dR_0]; rfl
def stillV : Vc := (Rat.divInt 1 1, 0)
section
variable {l : List Int} {P : List (Int × Int)} {n : Int} {at_' k b : Nat}
theorem e_still5 : Pure PP 57 [] (.ag (dV stillV)) := by
 unfold stillV
 rw [dV_0]
 exact tr [cl (e_of4 (x := 1) (y := 1) is1_ is1_)] (by kernel_rfl)
theorem i64_ {x : Int} (h : -100000 ≤ x ∧ x ≤ 100000) : W.Is64 x := by unfold W.Is64; omega
/-- A vector turned by quarters. -/
def rq (v : Vc) : Nat → Vc
 | 0 => v
 | k + 1 => (-(rq v k).2, (rq v k).1)
theorem rq_bits {v : Vc} (h : Bv b v) : ∀ k, Bv b (rq v k)
 | 0 => h
 | k + 1 => ⟨(rq_bits h k).2.neg, (rq_bits h k).1⟩
theorem rq_unit {v : Vc} (h : v.1 * v.1 + v.2 * v.2 = 1) : ∀ k, (rq v k).1 * (rq v k).1 + (rq v k).2 * (rq v k).2 = 1
 | 0 => h
 | k + 1 => by
  have := rq_unit h k
  show -(rq v k).2 * -(rq v k).2 + (rq v k).1 * (rq v k).1 = 1
  grind
def tP (a : Nat) : Nat := 1 + a / 4 % 4
def tQ (a : Nat) : Nat := a / 16
def tH (a : Nat) : Nat := tP a * tP a + tQ a * tQ a
def tV (a : Nat) : Vc := (Rat.divInt ((tP a : Int) * tP a - (tQ a : Int) * tQ a) (tH a), Rat.divInt (2 * (tP a : Int) * tQ a) (tH a))
def trnV (a : Nat) : Vc := rq (tV a) (a % 4)
/-- A piece of numbers. -/
def mkN (l : List Int) (a k : Nat) : Int := atz l (a + 2 + k) 15
def mkW (l : List Int) (a n : Nat) : List Bool := (List.range n).map fun k => mkN l a k == 15
def mkM (l : List Int) (a n : Nat) : List Int := (List.range n).map fun k => if mkN l a k > 11 then mkN l a k - 11 else 0
def mkP (P : List (Int × Int)) (l : List Int) (a : Nat) : Pi := ⟨atz l a 899, atz l a 4, P, mkW l a P.length, mkM l a P.length, Rat.divInt (atz l (a + 1) 2) 4, Rat.divInt 1 1, Rat.divInt (1 + atz l a 2) 1, Rat.divInt 100 1, Rat.divInt 1 2⟩
theorem wn_app (l : List Int) (a k : Nat) : wnR (mkW l a k) ++ [[bo (mkN l a k == 15)]] = wnR (mkW l a (k + 1)) := by unfold wnR mkW; rw [List.range_succ, List.map_append, List.map_append]; rfl
theorem mk_app (l : List Int) (a k : Nat) (x : Int) (hx : (if mkN l a k > 11 then mkN l a k - 11 else 0) = x) : zs (mkM l a k) ++ [[ni x]] = zs (mkM l a (k + 1)) := by rw [zs_one, ← hx]; unfold mkM; rw [List.range_succ, List.map_append]; rfl
theorem mkW_len (l : List Int) (a k : Nat) : (wnR (mkW l a k)).length = k := by unfold wnR mkW; simp
theorem mkM_len (l : List Int) (a k : Nat) : (zs (mkM l a k)).length = k := by rw [zs_len]; unfold mkM; simp
theorem ptR_len (P : List (Int × Int)) : (ptR P).length = P.length := List.length_map ..
noncomputable abbrev fmk : Func := fnOf PP 105
noncomputable def mkS (P : List (Int × Int)) (l : List Int) (a k : Nat) (z : List V) : St := at_ fmk [(0, .sl (ptR P)), (1, zl l), (2, ni (a : Int)), (6, .lp 0 0), (7, .lp 1 0), (8, ni (k : Int))] [.bx 39 z, .bx 39 ([ni (atz l a 899), ni (atz l a 4), .sl (ptR P), .ow 2, .ow 3] ++ (dR (Rat.divInt (atz l (a + 1) 2) 4) ++ (dR (Rat.divInt 1 1) ++ (dR (Rat.divInt (1 + atz l a 2) 1) ++ (dR (Rat.divInt 100 1) ++ dR (Rat.divInt 1 2)))))), .rw 4 1 (wnR (mkW l a k)), .rw 3 1 (zs (mkM l a k))]
/-- A new piece's cells. -/
def pi0 : List V := [ni 0, ni 0, .nl, .nl, .nl] ++ ([bo false, .nl, bo false, .nl] ++ ([bo false, .nl, bo false, .nl] ++ ([bo false, .nl, bo false, .nl] ++ ([bo false, .nl, bo false, .nl] ++ [bo false, .nl, bo false, .nl]))))
theorem e_made (hl : ∀ x ∈ l, W.Is64 x) (a : Nat) (ha : a ≤ 1000) (hP : P.length ≤ 100) : Pure PP 105 [.sl (ptR P), zl l, ni (a : Int)] (.ag (mkP P l a).v) := by
 have hpl := ptR_len P
 have h1 := atz_in l a 899
 have h2 := atz_in l (a + 1) 2
 have h3 := atz_in l a 2
 refine pf (by kernel_rfl) (.to mo_ [.oc 1 3 (.rw 4 1 []), .oc 1 4 (.rw 3 1 [])] [0, 1, 2, 6, 7, 8] [0, 1, 2, 3] 4 [cl (e_at hl a 899), cl (e_at hl a 4), wq 20 ((a : Int) + 1) ((a + 1 : Nat) : Int) (by omega), cl (e_at hl (a + 1) 2), cl (e_of4 (x := atz l (a + 1) 2) (y := 4) (i64_ (by omega)) (i64_ (by decide))), cl (e_of4 (x := 1) (y := 1) is1_ is1_), cl (e_at hl a 2), wq 27 (1 + atz l a 2) (1 + atz l a 2) (by omega), cl (e_of4 (x := 1 + atz l a 2) (y := 1) (i64_ (by omega)) is1_), cl (e_of4 (x := 100) (y := 1) (i64_ (by decide)) is1_), cl (e_of4 (x := 1) (y := 2) is1_ is2_)] (td' := lp fmk 0) (σ' := mkS P l a 0 pi0) ?_ (by kernel_rfl))
 refine Gd.loop (fun k => mkS P l a k pi0) (fun k => k ≤ P.length) (fun k => P.length - k) ?_ 0 (Nat.zero_le _)
 intro k hk ih
 by_cases g : k < P.length
 · have nx := ih (k + 1) g (by omega)
   have h5 := atz_in l (a + 2 + k) 15
   have ca := e_at hl (a + 2 + k) 15
   change Pure PP _ _ (.v (ni (mkN l a k))) at ca
   change 0 ≤ mkN l a k ∧ mkN l a k ≤ _ at h5
   have w1 := wn_app l a k
   have w2 := mk_app l a k
   have l1 := mkW_len l a (k + 1)
   have l2 := mkM_len l a (k + 1)
   let F : List F_ := [.eqv 34 (ni ((ptR P).length : Int)) (ni (P.length : Int)) (by rw [hpl]), ye (t := decide ((k : Int) < (P.length : Int))) (decide_eq_true (by omega)), wq 40 ((a : Int) + 2) ((a + 2 : Nat) : Int) (by omega), wq 42 (((a + 2 : Nat) : Int) + (k : Int)) ((a + 2 + k : Nat) : Int) (by omega), cl ca, .app _ _ _ 1000 w1 Nat.zero_lt_one (by omega)]
   by_cases h : mkN l a k > 11
   · have w2 := w2 (mkN l a k - 11) (if_pos h)
     exact .to mo_ [.mv 2 5, .mv 3 7] [0, 1, 2, 6, 7, 8] [0, 1, 2, 3] 4 (F ++ [ye (t := decide (mkN l a k > 11)) (decide_eq_true h), wq 54 (mkN l a k - 11) (mkN l a k - 11) (by omega), .app _ _ _ 1000 w2 Nat.zero_lt_one (by omega), inc 37 k (by omega)]) nx (by kernel_rfl)
   · have w2 := w2 0 (if_neg h)
     exact .to mo_ [.mv 2 5, .mv 3 7] [0, 1, 2, 6, 7, 8] [0, 1, 2, 3] 4 (F ++ [na (t := decide (mkN l a k > 11)) (decide_eq_false h), .app _ _ _ 1000 w2 Nat.zero_lt_one (by omega), inc 37 k (by omega)]) nx (by kernel_rfl)
 · have e : k = P.length := by omega
   subst e
   exact fi [.eqv 34 (ni ((ptR P).length : Int)) (ni (P.length : Int)) (by rw [hpl]), na (t := decide ((P.length : Int) < (P.length : Int))) (decide_eq_false (by omega))] (by kernel_rfl) (by kernel_rfl)
noncomputable abbrev fv13 : Func := fnOf PP 103
theorem e_valid13 (hr : ∀ x ∈ P, W.Is64 x.1 ∧ W.Is64 x.2) (hb : ∀ a ∈ P.map qv, Bv b a) (hP : P.length ≤ 100) (hkb : b ≤ 10000) : Pure PP 103 [.sl (ptR P)] (bo (Pg.valid6 (P.map qv))) := by
 have hpl := ptR_len P
 have hv : (P.map qv).length = P.length := List.length_map ..
 let X : Nat → St := fun k => at_ fv13 [(0, .sl (ptR P)), (3, .ow 0), (4, ni (k : Int))] [.rw 43 8 (((P.map qv).take k).map dV)]
 refine pf (by kernel_rfl) (.to mo_ [.ow 3 (.rw 43 8 [])] [0, 3, 4] [0] 1 [] (td' := lp fv13 0) (σ' := X 0) ?_ (by kernel_rfl))
 refine Gd.loop X (fun k => k ≤ P.length) (fun k => P.length - k) ?_ 0 (Nat.zero_le _)
 intro k hk ih
 by_cases g : k < P.length
 · obtain ⟨q, hq, hm⟩ := get_of g
   obtain ⟨h1, h2⟩ := hr q hm
   have ap : ((P.map qv).take k).map dV ++ [qv q].map dV = ((P.map qv).take (k + 1)).map dV := by
    rw [List.take_add_one, List.getElem?_map, hq, List.map_append]
    rfl
   exact .to mo_ [.mv 0 2] [0, 3, 4] [0] 1 [.eqv 7 (ni ((ptR P).length : Int)) (ni (P.length : Int)) (by rw [hpl]), ye (t := decide ((k : Int) < (P.length : Int))) (decide_eq_true (by omega)), .sel _ _ _ (pt_at hq), .sel _ _ _ (pt_at hq), cl (e_vof h1 h2), .app _ ([qv q].map dV) _ 2000 ap Nat.zero_lt_one (by rw [List.length_map, List.length_take]; omega), inc 10 k (by omega)] (ih (k + 1) g (by omega)) (by kernel_rfl)
 · have e : k = P.length := by omega
   subst e
   have hX : X P.length = at_ fv13 [(0, .sl (ptR P)), (3, .ow 0), (4, ni (P.length : Int))] [.rw 43 8 ((P.map qv).map dV)] := by simp only [X]; rw [← hv, List.take_length]
   rw [hX]
   exact fi [.eqv 7 (ni ((ptR P).length : Int)) (ni (P.length : Int)) (by rw [hpl]), na (t := decide ((P.length : Int) < (P.length : Int))) (decide_eq_false (by omega)), cl (e_valid6 hb (by omega) hkb)] (by kernel_rfl) (by kernel_rfl)
end
end Go.Proofs.YtbaggkbleehegaaGreat.E.Ct
namespace Go.Proofs.YtbaggkbleehegaaGreat.E.Ct
open Go.RowKit
set_option linter.unusedVariables false
set_option linter.unusedSimpArgs false
def bW (l : List Int) : Nat := 4 + (atz l 0 3).toNat
def bH (l : List Int) : Nat := 3 + (atz l 1 3).toNat
def bM (l : List Int) : Nat := 1 + (atz l 2 2).toNat
def bQ (l : List Int) : Nat := (atz l 7 3).toNat
def bBy (l : List Int) : Int × Int := (atz l 8 8 - 4, atz l 9 8 - 4)
def crP (l : List Int) (k : Nat) : Int × Int := (1 + atz l (3 + k) (bW l - 2), if k = bM l then (bH l : Int) else (k : Int))
def crL (l : List Int) (n : Nat) : List (Int × Int) := (List.range n).map (crP l)
def firP (l : List Int) : List (Int × Int) := (0, 0) :: (crL l (bM l + 1) ++ [(0, (bH l : Int))])
/-- The second piece's corners, as far as the crack is gone back to k. -/
def secK (l : List Int) (k : Nat) : List (Int × Int) := [crP l 0, ((bW l : Int), 0), ((bW l : Int), (bH l : Int))] ++ (List.range (bM l - k)).map fun i => crP l (bM l - i)
def secP (l : List Int) : List (Int × Int) := secK l 0
def mvP (l : List Int) (p : Int × Int) : Int × Int := ((tq p (bQ l)).1 + (bBy l).1, (tq p (bQ l)).2 + (bBy l).2)
def secM (l : List Int) : List (Int × Int) := (secP l).map (mvP l)
def bT (l : List Int) : Vc := rq stillV ((4 - bQ l) % 4)
def bAt (l : List Int) : Vc := vsub (0, 0) (vrot (bT l) (qv (bBy l)))
def bFit (l : List Int) : Ft := ⟨0, 1, 1, ((bM l + 2 : Nat) : Int), bM l, bT l, bAt l, bAt l⟩
def bA (l : List Int) : Pi := mkP (firP l) l 10
def bB (l : List Int) : Pi := mkP (secM l) l 20
def brV (l : List Int) : List V := (bA l).v ++ ((bB l).v ++ (bFit l).v)
structure Sound (l : List Int) : Prop where
 a : Pg.valid6 ((firP l).map qv) = true
 b : Pg.valid6 ((secP l).map qv) = true
section
variable {l : List Int} {P Q : List (Int × Int)} {n : Int} {k b : Nat}
theorem bW_in (l : List Int) : 4 ≤ bW l ∧ bW l ≤ 7 ∧ ((bW l : Nat) : Int) = 4 + atz l 0 3 := by
 have := atz_in l 0 3
 unfold bW
 omega
theorem bH_in (l : List Int) : 3 ≤ bH l ∧ bH l ≤ 6 ∧ ((bH l : Nat) : Int) = 3 + atz l 1 3 := by
 have := atz_in l 1 3
 unfold bH
 omega
theorem bM_in (l : List Int) : 1 ≤ bM l ∧ bM l ≤ 3 ∧ ((bM l : Nat) : Int) = 1 + atz l 2 2 := by
 have := atz_in l 2 2
 unfold bM
 omega
theorem bQ_in (l : List Int) : bQ l ≤ 3 ∧ ((bQ l : Nat) : Int) = atz l 7 3 := by
 have := atz_in l 7 3
 unfold bQ
 omega
theorem bBy_in (l : List Int) : Sm_ 4 (bBy l) := by
 have := atz_in l 8 8
 have := atz_in l 9 8
 unfold Sm_ bBy
 simp only
 omega
theorem crP_in (l : List Int) (hk : k ≤ bM l) : Sm_ 8 (crP l k) := by
 have h1 := bW_in l
 have h2 := bH_in l
 have h3 := bM_in l
 have := atz_in l (3 + k) (bW l - 2)
 unfold Sm_ crP
 simp only
 split <;> omega
theorem firP_in (l : List Int) : ∀ p ∈ firP l, Sm_ 8 p := fun p hp => by
 have h2 := bH_in l
 unfold firP at hp
 rcases List.mem_cons.1 hp with rfl | hp
 · unfold Sm_; decide
 · rcases List.mem_append.1 hp with hp | hp
   · obtain ⟨k, hk, rfl⟩ := List.mem_map.1 hp
     exact crP_in l (by have := List.mem_range.1 hk; omega)
   · simp only [List.mem_singleton] at hp
     subst hp
     unfold Sm_
     simp only
     omega
theorem secK_in (l : List Int) : ∀ p ∈ secK l k, Sm_ 8 p := fun p hp => by
 have h1 := bW_in l
 have h2 := bH_in l
 unfold secK at hp
 rcases List.mem_append.1 hp with hp | hp
 · simp only [List.mem_cons, List.not_mem_nil, or_false] at hp
   rcases hp with rfl | rfl | rfl
   · exact crP_in l (Nat.zero_le _)
   · unfold Sm_; simp only; omega
   · unfold Sm_; simp only; omega
 · obtain ⟨i, _, rfl⟩ := List.mem_map.1 hp
   exact crP_in l (by omega)
theorem mvP_in {p : Int × Int} (h : Sm_ 8 p) : Sm_ 12 (mvP l p) := by
 have h1 := tq_sm h (bQ l)
 have h2 := bBy_in l
 unfold Sm_ at h1 h2
 unfold Sm_ mvP
 simp only
 omega
theorem secM_in (l : List Int) : ∀ p ∈ secM l, Sm_ 12 p := fun p hp => by
 obtain ⟨q, hq, rfl⟩ := List.mem_map.1 hp
 exact mvP_in (secK_in l q hq)
theorem qv_sm {p : Int × Int} (h : Sm_ 12 p) : Bv 8 (qv p) := by
 unfold Sm_ at h
 exact ⟨bq_small (by omega) (by omega), bq_small (by omega) (by omega)⟩
theorem Sm_.mono {p : Int × Int} {b c : Int} (h : Sm_ b p) (hb : b ≤ c) : Sm_ c p := by unfold Sm_ at h ⊢; omega
theorem sm64 {p : Int × Int} (h : Sm_ 12 p) : W.Is64 p.1 ∧ W.Is64 p.2 := by unfold Sm_ at h; exact ⟨i64_ (by omega), i64_ (by omega)⟩
theorem qvs (h : ∀ p ∈ P, Sm_ 12 p) : ∀ a ∈ P.map qv, Bv 8 a := fun a ha => by
 obtain ⟨p, hp, rfl⟩ := List.mem_map.1 ha
 exact qv_sm (h p hp)
theorem firP_len (l : List Int) : (firP l).length = bM l + 3 := by unfold firP crL; simp
theorem secK_len (l : List Int) (k : Nat) : (secK l k).length = 3 + (bM l - k) := by unfold secK; simp; omega
theorem secM_len (l : List Int) : (secM l).length = 3 + bM l := by unfold secM secP; rw [List.length_map, secK_len]; omega
theorem pt_app (P : List (Int × Int)) (p : Int × Int) : ptR P ++ [[ni p.1, ni p.2]] = ptR (P ++ [p]) := by unfold ptR; rw [List.map_append]; rfl
theorem pt_apps (P Q : List (Int × Int)) : ptR P ++ ptR Q = ptR (P ++ Q) := by unfold ptR; rw [List.map_append]
theorem pt_set (P : List (Int × Int)) (k : Nat) (p : Int × Int) : (ptR P).set k [ni p.1, ni p.2] = ptR (P.set k p) := by unfold ptR; rw [List.map_set]
theorem crL_succ (l : List Int) (k : Nat) : crL l (k + 1) = crL l k ++ [crP l k] := by unfold crL; rw [List.range_succ, List.map_append]; rfl
theorem crL_get {m : Nat} (h : k < m) : (crL l m)[k]? = some (crP l k) := by unfold crL; rw [List.getElem?_map, List.getElem?_range h]; rfl
theorem secK_succ (hk : k + 1 ≤ bM l) : secK l (k + 1) ++ [crP l (k + 1)] = secK l k := by
 unfold secK
 rw [List.append_assoc]
 congr 1
 rw [show bM l - k = (bM l - (k + 1)) + 1 by omega, List.range_succ, List.map_append, List.map_cons, List.map_nil, show bM l - (bM l - (k + 1)) = k + 1 by omega]
/-- Cells of a new one. -/
def z8n : List V := [bo false, .nl, bo false, .nl, bo false, .nl, bo false, .nl]
def br0 : List V := pi0 ++ (pi0 ++ ([ni 0, ni 0, ni 0, ni 0, ni 0] ++ (z8n ++ (z8n ++ z8n))))
noncomputable abbrev fpr : Func := fnOf PP 47
abbrev GPr (l : List Int) (td : List Item) (σ : St) : Prop := Gd PP 47 (.v (.ag (brV l))) td σ
noncomputable def prT1 (l : List Int) (m : List (Nat × V)) : List V := (at_ fpr ([(0, zl l), (2, .lp 0 0), (3, ni (bW l : Int)), (4, ni (bH l : Int)), (5, ni (bM l : Int))] ++ m) []).t
noncomputable def pr1 (l : List Int) (k : Nat) : St := ⟨prT1 l [(6, .ow 1), (7, ni (k : Int))], [.bx 98 br0, .rw 145 2 (ptR (crL l k))]⟩
noncomputable def pr2 (l : List Int) (k : Nat) : St := ⟨prT1 l [(6, .ow 1), (9, .ow 2), (10, .ow 3), (11, ni (k : Int))], [.bx 98 br0, .rw 145 2 (ptR (crL l (bM l + 1))), .rw 145 2 (ptR (firP l)), .rw 145 2 (ptR (secK l k))]⟩
def secN (l : List Int) (k : Nat) : List (Int × Int) := (secM l).take k ++ (secP l).drop k
noncomputable def prT3 (l : List Int) (m : List (Nat × V)) (m2 : List (Nat × V)) : List V := (at_ fpr ([(0, zl l), (2, .lp 0 0), (5, ni (bM l : Int))] ++ (m ++ ([(12, ni (bQ l : Int)), (13, .lp 4 0)] ++ m2))) []).t
noncomputable def pr3 (l : List Int) (k : Nat) : St := ⟨prT3 l [(9, .ow 2), (10, .ow 3)] [(14, ni (k : Int))], [.bx 98 br0, .dead, .rw 145 2 (ptR (firP l)), .rw 145 2 (ptR (secN l k)), .bx 145 [ni (bBy l).1, ni (bBy l).2]]⟩
noncomputable def pr4 (l : List Int) (k : Nat) : St := ⟨prT3 l [] [(16, .lp 5 0), (17, .lp 6 0), (18, ni (k : Int))], [.bx 98 br0, .dead, .dead, .dead, .bx 145 [ni (bBy l).1, ni (bBy l).2], .bx 98 ((bA l).v ++ ((bB l).v ++ ([ni 0, ni 0, ni 0, ni 0, ni 0] ++ (z8n ++ (z8n ++ z8n))))), .bx 41 (dV (rq stillV k))]⟩
theorem pr_4 (l : List Int) : GPr l (lp fpr 3) (pr4 l 0) := by
 have hq := bQ_in l
 have hm := bM_in l
 have hby := bBy_in l
 refine Gd.loop (fun k => pr4 l k) (fun k => k ≤ (4 - bQ l) % 4) (fun k => (4 - bQ l) % 4 - k) ?_ 0 (Nat.zero_le _)
 intro k hk ih
 have e0 : ((4 : Int) - (bQ l : Int)) = ((4 - bQ l : Nat) : Int) := by omega
 have e1 : Int.tmod ((4 - bQ l : Nat) : Int) 4 = (((4 - bQ l) % 4 : Nat) : Int) := (Int.ofNat_tmod (4 - bQ l) 4).symm
 let F : List F_ := [wq 155 ((4 : Int) - (bQ l : Int)) ((4 - bQ l : Nat) : Int) (by omega), .eqv 156 (ni (Int.tmod ((4 - bQ l : Nat) : Int) 4)) (ni (((4 - bQ l) % 4 : Nat) : Int)) (by rw [e1])]
 by_cases g : k < (4 - bQ l) % 4
 · have nx := ih (k + 1) g (by omega)
   unfold pr4 at nx ⊢
   change GPr l _ ⟨_, [_, _, _, _, _, _, .bx _ (dV (-(rq stillV k).2, (rq stillV k).1))]⟩ at nx
   have c := e_neg4 (rq stillV k).2
   generalize rq stillV k = v at *
   obtain ⟨x, y⟩ := v
   exact .to mo_ [] [0, 2, 5, 12, 13, 16, 17, 18] [0, 4, 5, 6] 7 (F ++ [ye (t := decide ((k : Int) < (((4 - bQ l) % 4 : Nat) : Int))) (decide_eq_true (by omega)), cl c, inc 159 k (by omega)]) nx (by kernel_rfl)
 · have e : k = (4 - bQ l) % 4 := by omega
   have b1 : Bv 8 stillV := ⟨bq_small (by omega) (by omega), Bq.zero (by omega)⟩
   have b2 := rq_bits b1 k
   have b3 : Bv 8 (qv (bBy l)) := qv_sm (hby.mono (by omega))
   have c1 := e_vof (sm64 (hby.mono (by omega : (4 : Int) ≤ 12))).1 (sm64 (hby.mono (by omega : (4 : Int) ≤ 12))).2
   have c2 := e_vrot5 b2 b3 (by omega)
   have c3 := e_vsub5 (v := (0, 0)) (j := 1) ⟨Bq.zero (by omega), Bq.zero (by omega)⟩ (b2.rot b3) (by omega)
   rw [dV_00] at c3
   have hx : decide ((k : Int) < (((4 - bQ l) % 4 : Nat) : Int)) = false := decide_eq_false (by omega)
   have hT : rq stillV k = bT l := by unfold bT; rw [e]
   unfold pr4 brV bFit
   have hA : bAt l = vsub (0, 0) (vrot (rq stillV k) (qv (bBy l))) := by rw [hT]; rfl
   rw [hA, ← hT]
   change Pure PP _ _ (.v (.ag (dV (qv (bBy l))))) at c1
   generalize vsub (0, 0) (vrot (rq stillV k) (qv (bBy l))) = A at *
   generalize vrot (rq stillV k) (qv (bBy l)) = B at *
   generalize qv (bBy l) = D at *
   generalize rq stillV k = T at *
   exact fi (F ++ [na hx, wq 167 ((bM l : Int) + 2) ((bM l + 2 : Nat) : Int) (by omega), cl c1, cl c2, cl c3]) (by kernel_rfl) (by kernel_rfl)
end
end Go.Proofs.YtbaggkbleehegaaGreat.E.Ct
namespace Go.Proofs.YtbaggkbleehegaaGreat.E.Ct
open Go.RowKit
set_option linter.unusedVariables false
set_option linter.unusedSimpArgs false
section
variable {l q : List Int} {P Q : List (Int × Int)} {n : Int} {k b : Nat}
theorem secN_len (k : Nat) : (secN l k).length = 3 + bM l := by
 have h1 := secM_len l
 have h2 := secK_len l 0
 unfold secN secP
 rw [List.length_append, List.length_take, List.length_drop, h2, h1]
 omega
theorem secN_at (hk : k < 3 + bM l) : (ptR (secN l k))[k]? = some [ni ((secP l).getD k (0, 0)).1, ni ((secP l).getD k (0, 0)).2] ∧ (ptR (secN l k)).set k [ni (mvP l ((secP l).getD k (0, 0))).1, ni (mvP l ((secP l).getD k (0, 0))).2] = ptR (secN l (k + 1)) ∧ Sm_ 8 ((secP l).getD k (0, 0)) := by
 have h1 := secM_len l
 have h2 : (secP l).length = 3 + bM l := by unfold secP; rw [secK_len]; omega
 have hg : (secP l)[k]? = some ((secP l).getD k (0, 0)) := by rw [List.getD_eq_getElem?_getD, List.getElem?_eq_getElem (by omega)]; rfl
 have ht : ((secM l).take k).length = k := by rw [List.length_take]; omega
 have hd : (secP l).drop k = (secP l).getD k (0, 0) :: (secP l).drop (k + 1) := by
  rw [List.drop_eq_getElem_cons (by omega)]
  congr 1
  rw [List.getElem?_eq_getElem (by omega)] at hg
  exact Option.some.inj hg
 have hm : (secM l)[k]? = some (mvP l ((secP l).getD k (0, 0))) := by unfold secM; rw [List.getElem?_map, hg]; rfl
 refine ⟨?_, ?_, secK_in l _ (List.mem_of_getElem? hg)⟩
 · refine pt_at ?_
   unfold secN
   rw [List.getElem?_append_right (by omega), ht, Nat.sub_self, hd]
   rfl
 · rw [pt_set]
   congr 1
   unfold secN
   rw [List.set_append_right _ _ (by omega), ht, Nat.sub_self, hd, List.take_add_one, hm, List.append_assoc]
   rfl
theorem pr_3 (hl : ∀ x ∈ l, W.Is64 x) : GPr l (lp fpr 2) (pr3 l 0) := by
 have hq := bQ_in l
 have hm := bM_in l
 have hby := bBy_in l
 have hnx := pr_4 l
 refine Gd.loop (fun k => pr3 l k) (fun k => k ≤ 3 + bM l) (fun k => 3 + bM l - k) ?_ 0 (Nat.zero_le _)
 intro k hk ih
 have hpl : (ptR (secN l k)).length = 3 + bM l := by rw [ptR_len, secN_len]
 by_cases g : k < 3 + bM l
 · have nx := ih (k + 1) g (by omega)
   obtain ⟨s1, s2, s3⟩ := secN_at (l := l) g
   have ht := e_turned (s3.mono (by omega : (8 : Int) ≤ 1000)) (bQ l) (by omega)
   have s4 := tq_sm s3 (bQ l)
   unfold pr3 at nx ⊢
   unfold mvP at s2
   unfold Sm_ at s4 hby
   generalize (secP l).getD k (0, 0) = p at *
   generalize ptR (secN l (k + 1)) = R1 at *
   generalize ptR (secN l k) = R0 at *
   generalize tq p (bQ l) = t at *
   generalize bBy l = B at *
   exact .to mo_ [] [0, 2, 5, 9, 10, 12, 13, 14] [0, 2, 3, 4] 5 [.eqv 120 (ni (R0.length : Int)) (ni ((3 + bM l : Nat) : Int)) (by rw [hpl]), ye (t := decide ((k : Int) < ((3 + bM l : Nat) : Int))) (decide_eq_true (by omega)), .sel _ _ _ s1, .sel _ _ _ s1, cl ht, wq 136 (t.1 + B.1) (t.1 + B.1) (by omega), wq 141 (t.2 + B.2) (t.2 + B.2) (by omega), .sel _ _ _ s1, .upd _ _ _ _ _ s1 s2, inc 123 k (by omega)] nx (by kernel_rfl)
 · have e : k = 3 + bM l := by omega
   have hN : secN l k = secM l := by
    have h1 := secM_len l
    have h2 : (secP l).length = 3 + bM l := by unfold secP; rw [secK_len]; omega
    unfold secN
    rw [e, List.take_of_length_le (by omega), List.drop_eq_nil_of_le (by omega), List.append_nil]
   have hx : decide ((k : Int) < ((3 + bM l : Nat) : Int)) = false := decide_eq_false (by omega)
   rw [hN] at hpl
   have c1 := e_made hl 10 (by omega) (P := firP l) (by rw [firP_len]; omega)
   have c2 := e_made hl 20 (by omega) (P := secM l) (by rw [secM_len]; omega)
   have c3 := e_of4 (x := 1) (y := 1) is1_ is1_
   change Pure PP _ _ (.v (.ag (bA l).v)) at c1
   change Pure PP _ _ (.v (.ag (bB l).v)) at c2
   have hs : dV (rq stillV 0) = dR (Rat.divInt 1 1) ++ z4_ := dV_0 _
   unfold pr4 at hnx
   rw [hs] at hnx
   unfold pr3
   rw [hN]
   generalize bA l = A at *
   generalize bB l = B at *
   generalize ptR (firP l) = R1 at *
   generalize ptR (secM l) = R2 at *
   exact .to mo_ [.wk 6] [0, 2, 5, 12, 13, 16, 17, 18] [0, 4, 5, 6] 7 [.eqv 120 (ni (R2.length : Int)) (ni ((3 + bM l : Nat) : Int)) (by rw [hpl]), na hx, cl c1, cl c2, cl c3] hnx (by kernel_rfl)
theorem pr_2l (next : GPr q (lp fpr 1) (pr2 l 0)) : GPr q (lp fpr 1) (pr2 l (bM l)) := by
 have hq := bQ_in l
 have hm := bM_in l
 have hby := bBy_in l
 refine Gd.loop (fun k => pr2 l k) (fun k => k ≤ bM l) (fun k => k) ?_ (bM l) (Nat.le_refl _)
 intro k hk ih
 cases k with
 | succ k =>
  have nx := ih k (by omega) (by omega)
  have s1 := pt_at (crL_get (l := l) (show k + 1 < bM l + 1 by omega))
  have s2 : ptR (secK l (k + 1)) ++ [[ni (crP l (k + 1)).1, ni (crP l (k + 1)).2]] = ptR (secK l k) := by rw [pt_app, secK_succ hk]
  have hle : (ptR (secK l k)).length ≤ 1000 := by rw [ptR_len, secK_len]; omega
  unfold pr2 at nx ⊢
  generalize ptR (secK l (k + 1)) = R0 at *
  generalize ptR (secK l k) = R1 at *
  generalize ptR (crL l (bM l + 1)) = C at *
  generalize crP l (k + 1) = p at *
  exact .to mo_ [.mv 3 5] [0, 2, 3, 4, 5, 6, 9, 10, 11] [0, 1, 2, 3] 4 [ye (t := decide (((k + 1 : Nat) : Int) > 0)) (decide_eq_true (by omega)), .sel _ _ _ s1, .sel _ _ _ s1, .app _ _ _ 1000 s2 Nat.zero_lt_one hle, wq 77 (((k + 1 : Nat) : Int) - 1) (k : Int) (by omega)] nx (by kernel_rfl)
 | zero => exact next
theorem pr_2 (hl : ∀ x ∈ l, W.Is64 x) (h : Sound l) : GPr l (lp fpr 1) (pr2 l (bM l)) := by
 refine pr_2l ?_
 have hq := bQ_in l
 have hm := bM_in l
 have hby := bBy_in l
 have hnx := pr_3 hl
 have b1 := fun p hp => (firP_in l p hp).mono (by omega : (8 : Int) ≤ 12)
 have b2 := fun p hp => (secK_in l (k := 0) p hp).mono (by omega : (8 : Int) ≤ 12)
 have v1 := e_valid13 (P := firP l) (fun p hp => sm64 (b1 p hp)) (qvs b1) (by rw [firP_len]; omega) (by omega)
 have v2 := e_valid13 (P := secK l 0) (fun p hp => sm64 (b2 p hp)) (qvs b2) (by rw [secK_len]; omega) (by omega)
 rw [h.a] at v1
 rw [show Pg.valid6 ((secK l 0).map qv) = true from h.b] at v2
 have hy0 := atz_in l 8 8
 have hy1 := atz_in l 9 8
 unfold pr3 at hnx
 have e0 : secN l 0 = secK l 0 := rfl
 rw [e0] at hnx
 change GPr l _ ⟨_, [_, _, _, _, .bx _ [ni (atz l 8 8 - 4), ni (atz l 9 8 - 4)]]⟩ at hnx
 unfold pr2
 generalize ptR (secK l 0) = R0 at *
 generalize ptR (firP l) = R1 at *
 exact .to mo_ [] [0, 2, 5, 9, 10, 12, 13, 14] [0, 2, 3, 4] 5 [na (t := decide (((0 : Nat) : Int) > 0)) (by decide), cl v1, nf, cl v2, nf, cl (e_at hl 7 3), .eqv 110 (ni (atz l 7 3)) (ni (bQ l : Int)) (by rw [hq.2]), cl (e_at hl 8 8), wq 113 (atz l 8 8 - 4) (atz l 8 8 - 4) (by omega), cl (e_at hl 9 8), wq 116 (atz l 9 8 - 4) (atz l 9 8 - 4) (by omega)] hnx (by kernel_rfl)
/-- What stands ahead of the crack's corners. -/
theorem pr_1 (hl : ∀ x ∈ l, W.Is64 x) (next : GPr q (lp fpr 1) (pr2 l (bM l))) : GPr q (lp fpr 0) (pr1 l 0) := by
 have hw := bW_in l
 have hh := bH_in l
 have hm := bM_in l
 refine Gd.loop (fun k => pr1 l k) (fun k => k ≤ bM l + 1) (fun k => bM l + 1 - k) ?_ 0 (Nat.zero_le _)
 intro k hk ih
 by_cases g : k < bM l + 1
 · have nx := ih (k + 1) g (by omega)
   have ha := atz_in l (3 + k) (bW l - 2)
   have hc := e_at hl (3 + k) (bW l - 2)
   have hs : ptR (crL l k) ++ [[ni (crP l k).1, ni (crP l k).2]] = ptR (crL l (k + 1)) := by rw [pt_app, crL_succ]
   have hle : (ptR (crL l (k + 1))).length ≤ 1000 := by rw [ptR_len]; unfold crL; simp; omega
   have hlt : ((bW l : Int) - 1) = ((bW l - 2 + 1 : Nat) : Int) := by omega
   unfold crP at hs
   unfold pr1 at nx ⊢
   generalize ptR (crL l (k + 1)) = R1 at *
   generalize ptR (crL l k) = R0 at *
   let F : List F_ := [ye (t := decide ((k : Int) ≤ (bM l : Int))) (decide_eq_true (by omega))]
   by_cases e : k = bM l
   · rw [if_pos e] at hs
     simp only at hs
     exact .to mo_ [.mv 1 3] [0, 2, 3, 4, 5, 6, 7] [0, 1] 2 (F ++ [ye (t := ((k : Int) == (bM l : Int))) (by simp [e]), wq 46 ((3 : Int) + (k : Int)) ((3 + k : Nat) : Int) (by omega), wq 48 ((bW l : Int) - 1) ((bW l - 2 + 1 : Nat) : Int) (by omega), cl hc, wq 50 (1 + atz l (3 + k) (bW l - 2)) (1 + atz l (3 + k) (bW l - 2)) (by omega), .app _ _ _ 1000 hs Nat.zero_lt_one hle, inc 37 k (by omega)]) nx (by kernel_rfl)
   · rw [if_neg e] at hs
     simp only at hs
     exact .to mo_ [.mv 1 3] [0, 2, 3, 4, 5, 6, 7] [0, 1] 2 (F ++ [na (t := ((k : Int) == (bM l : Int))) (by simp; omega), wq 46 ((3 : Int) + (k : Int)) ((3 + k : Nat) : Int) (by omega), wq 48 ((bW l : Int) - 1) ((bW l - 2 + 1 : Nat) : Int) (by omega), cl hc, wq 50 (1 + atz l (3 + k) (bW l - 2)) (1 + atz l (3 + k) (bW l - 2)) (by omega), .app _ _ _ 1000 hs Nat.zero_lt_one hle, inc 37 k (by omega)]) nx (by kernel_rfl)
 · have e : k = bM l + 1 := by omega
   subst e
   have a1 : ptR [(0, 0)] ++ ptR (crL l (bM l + 1)) = ptR ((0, 0) :: crL l (bM l + 1)) := pt_apps _ _
   have a2 : ptR ((0, 0) :: crL l (bM l + 1)) ++ ptR [(0, (bH l : Int))] = ptR (firP l) := pt_apps _ _
   have n1 : (ptR ((0, 0) :: crL l (bM l + 1))).length ≤ 1000 := by rw [ptR_len]; unfold crL; simp; omega
   have n2 : (ptR (firP l)).length ≤ 1000 := by rw [ptR_len, firP_len]; omega
   have n0 : 0 < (ptR (crL l (bM l + 1))).length := by rw [ptR_len]; unfold crL; simp
   have s1 := pt_at (crL_get (l := l) (show 0 < bM l + 1 by omega))
   have e2 : secK l (bM l) = [crP l 0, ((bW l : Int), 0), ((bW l : Int), (bH l : Int))] := by unfold secK; rw [Nat.sub_self]; rfl
   unfold pr2 at next
   rw [e2] at next
   change GPr q _ ⟨_, [_, _, _, .rw _ _ [[ni (crP l 0).1, ni (crP l 0).2], [ni (bW l : Int), ni 0], [ni (bW l : Int), ni (bH l : Int)]]]⟩ at next
   unfold pr1
   generalize ptR (firP l) = R2 at *
   generalize ptR ((0, 0) :: crL l (bM l + 1)) = R1 at *
   generalize ptR (crL l (bM l + 1)) = R0 at *
   generalize crP l 0 = p at *
   exact .to mo_ [.mv 2 5, .mv 3 6] [0, 2, 3, 4, 5, 6, 9, 10, 11] [0, 1, 2, 3] 4 [na (t := decide (((bM l + 1 : Nat) : Int) ≤ (bM l : Int))) (decide_eq_false (by omega)), .app _ _ _ 1000 a1 n0 n1, .app _ _ _ 1000 a2 Nat.zero_lt_one n2, .sel _ _ _ s1, .sel _ _ _ s1] next (by kernel_rfl)
theorem pr_0 (hl : ∀ x ∈ l, W.Is64 x) (next : GPr q (lp fpr 0) (pr1 l 0)) : Pure PP 47 [zl l] (.ag (brV q)) := by
 have hw := bW_in l
 have hh := bH_in l
 have hm := bM_in l
 refine pf (by kernel_rfl) (.to mo_ [.ow 6 (.rw 145 2 [])] [0, 2, 3, 4, 5, 6, 7] [0, 1] 2 [cl (e_at hl 0 3), wq 22 (4 + atz l 0 3) (bW l : Int) (by omega), cl (e_at hl 1 3), wq 25 (3 + atz l 1 3) (bH l : Int) (by omega), cl (e_at hl 2 2), wq 28 (1 + atz l 2 2) (bM l : Int) (by omega), na (t := decide ((bM l : Int) > (bH l : Int))) (decide_eq_false (by omega))] next (by kernel_rfl))
theorem e_pairS (hl : ∀ x ∈ l, W.Is64 x) (h : Sound l) : Pure PP 47 [zl l] (.ag (brV l)) := pr_0 hl (pr_1 hl (pr_2 hl h))
end
end Go.Proofs.YtbaggkbleehegaaGreat.E.Ct
namespace Go.Proofs.YtbaggkbleehegaaGreat.E.Ct
open Go.RowKit
set_option linter.unusedVariables false
set_option linter.unusedSimpArgs false
def fbL (l : List Int) : List Int := [(bW l : Int) - 4, (bH l : Int) - 3, 0, atz l 3 (bW l - 2), atz l 4 (bW l - 2), 0, 0, atz l 7 3]
def fb1 (w h x y : Int) : List (Int × Int) := [(0, 0), (1 + x, 0), (1 + y, h), (0, h)]
def fb2 (w h x y : Int) : List (Int × Int) := [(1 + x, 0), (w, 0), (w, h), (1 + y, h)]
theorem fb_all : ((List.range 4).all fun w => (List.range 4).all fun h => (List.range (w + 3)).all fun x => (List.range (w + 3)).all fun y => Pg.valid6 ((fb1 ((w : Int) + 4) ((h : Int) + 3) x y).map qv) && Pg.valid6 ((fb2 ((w : Int) + 4) ((h : Int) + 3) x y).map qv)) = true := by decide +kernel
end Go.Proofs.YtbaggkbleehegaaGreat.E.Ct
