/-
 PACKAGE polygon and its reference, by the engine: what the laws make their polygons and points of.
-/
import Derived.Test.YtlgnagnmoleeiaaGreatEyG
import Derived.Test.YtlgnagnmoleeiaaGreatEyB
import Derived.Test.YtlgnagnmoleeiaaGreatWalkPgK
import Derived.Test.YtlgnagnmoleeiaaGreatWalkPgE
import Derived.Sort.CutIn
namespace Go.Proofs.YtlgnagnmoleeiaaGreat.E.Pc
open Go.RowKit
set_option linter.unusedVariables false
set_option linter.unusedSimpArgs false
section
variable {L : List Vc} {R : List Nat} {b p q m n i j : Nat} {k : Int} {A T : List (List Nat)}
theorem earP_lt (h : 0 < R.length) : earP L R < R.length := by
 unfold earP
 cases e : (List.range (R.length - 1)).find? (earB L R) with
 | none => show R.length - 1 < _; omega
 | some p => have := List.mem_range.1 (List.mem_of_find?_eq_some e); show p < _; omega
theorem app1 (A : List (List Nat)) (t : List Nat) {N : Nat} (h : A.length + 1 ≤ N) : (oR (A ++ [t])).length ≤ N := by
 have : (oR (A ++ [t])).length = (A ++ [t]).length := List.length_map ..
 rw [this, List.length_append]
 exact h
noncomputable def ctT (L : List Vc) (R : List Nat) (A : List (List V)) (p : Nat) : St := ctS L R A [(6, ni (p : Int))]
/-- The round, from the search for an ear on. -/
theorem ct_in (h : Rm L R b) (hd : R.Nodup) (h3 : 3 < R.length) (hA : A.length ≤ 1000) (next : GC T (lp fct 0) (ctS L (clearR L (R.eraseIdx (earP L R))) (oR (A ++ [[pv R (earP L R), md R (earP L R), nx R (earP L R)]])) [])) : GC T (lp fct 1) (ctT L R (oR A) 0) := by
 have hn := h.n
 refine Gd.loop (ctT L R (oR A)) (fun p => p ≤ R.length - 1 ∧ ∀ t, t < p → earB L R t = false) (fun p => R.length - p) ?_ 0 ⟨Nat.zero_le _, fun t ht => by omega⟩
 intro p ⟨hp, hall⟩ ih
 have hap := oR_app A [pv R p, md R p, nx R p]
 have hl := app1 A [pv R p, md R p, nx R p] (N := 2000) (by omega)
 have cc := e_cut h hd (p := p) (by omega) h3
 by_cases g : p < R.length - 1
 · have hx : decide ((p : Int) < ((R.length - 1 : Nat) : Int)) = true := decide_eq_true (by omega)
   have ce := e_ear h (p := p) (by omega)
   cases he : earB L R p with
   | false =>
     rw [he] at ce
     have nx := ih (p + 1) ⟨by omega, fun t ht => by
      rcases Nat.lt_or_ge t p with h5 | h5
      · exact hall t h5
      · have : t = p := by omega
        subst this
        exact he⟩ (by omega)
     unfold ctT ctS at nx ⊢
     unfold oA at nx ⊢
     generalize oR A = B at *
     exact .to mo_ [] [0, 4, 5, 6] [0, 1, 2] 3 [nL 20 0, .eqv 23 (ni ((zs (cI R)).length : Int)) (ni (R.length : Int)) (by rw [cI_len]), wq 24 ((R.length : Int) - 1) ((R.length - 1 : Nat) : Int) (by omega), ye hx, cl ce, yt, inc 33 p (by omega)] nx (by kernel_rfl)
   | true =>
     rw [he] at ce
     have hP : earP L R = p := by
      unfold earP
      rw [find_some g he hall]
      rfl
     rw [hP] at next
     rw [← hap] at next hl
     unfold ctT
     unfold ctS at next ⊢
     unfold oA at next cc ⊢
     unfold cA cB at cc
     generalize oR A = B at *
     generalize clearR L (R.eraseIdx p) = R' at *
     rcases cc with cc | cc
     · exact .to mo_ [.mv 1 5, .mv 2 7] [0, 4, 5] [0, 1, 2] 3 [nL 20 0, .eqv 23 (ni ((zs (cI R)).length : Int)) (ni (R.length : Int)) (by rw [cI_len]), wq 24 ((R.length : Int) - 1) ((R.length - 1 : Nat) : Int) (by omega), ye hx, cl ce, nf, .lend _ _ _ _ [0, 1] cc, .app B [trV R p] _ 2000 rfl (show 0 < 1 by decide) hl] next (by kernel_rfl)
     · exact .to mo_ [.mv 1 7, .mv 2 9] [0, 4, 5] [0, 1, 2] 3 [nL 20 0, .eqv 23 (ni ((zs (cI R)).length : Int)) (ni (R.length : Int)) (by rw [cI_len]), wq 24 ((R.length : Int) - 1) ((R.length - 1 : Nat) : Int) (by omega), ye hx, cl ce, nf, .lend _ _ _ _ [0, 1] cc, .app B [trV R p] _ 2000 rfl (show 0 < 1 by decide) hl] next (by kernel_rfl)
 · have hx : decide ((p : Int) < ((R.length - 1 : Nat) : Int)) = false := decide_eq_false (by omega)
   have hP : earP L R = p := by
    unfold earP
    have : (List.range (R.length - 1)).find? (earB L R) = none := find_none fun t ht => hall t (by omega)
    rw [this]
    show R.length - 1 = p
    omega
   rw [hP] at next
   rw [← hap] at next hl
   unfold ctT
   unfold ctS at next ⊢
   unfold oA at next cc ⊢
   unfold cA cB at cc
   generalize oR A = B at *
   generalize clearR L (R.eraseIdx p) = R' at *
   rcases cc with cc | cc
   · exact .to mo_ [.mv 1 5, .mv 2 7] [0, 4, 5] [0, 1, 2] 3 [nL 20 0, .eqv 23 (ni ((zs (cI R)).length : Int)) (ni (R.length : Int)) (by rw [cI_len]), wq 24 ((R.length : Int) - 1) ((R.length - 1 : Nat) : Int) (by omega), na hx, nf, .lend _ _ _ _ [0, 1] cc, .app B [trV R p] _ 2000 rfl (show 0 < 1 by decide) hl] next (by kernel_rfl)
   · exact .to mo_ [.mv 1 7, .mv 2 9] [0, 4, 5] [0, 1, 2] 3 [nL 20 0, .eqv 23 (ni ((zs (cI R)).length : Int)) (ni (R.length : Int)) (by rw [cI_len]), wq 24 ((R.length : Int) - 1) ((R.length - 1 : Nat) : Int) (by omega), na hx, nf, .lend _ _ _ _ [0, 1] cc, .app B [trV R p] _ 2000 rfl (show 0 < 1 by decide) hl] next (by kernel_rfl)
/-- All rounds. -/
theorem ct_loop : ∀ (n : Nat) (R : List Nat) (A : List (List Nat)), Rm L R b → R.Nodup → 3 ≤ R.length → R.length ≤ n + 3 → A.length + n ≤ 1000 → A ++ cutF L n R = T → GC T (lp fct 0) (ctS L R (oR A) []) := by
 intro n
 induction n with
 | zero =>
  intro R A h hd h3 hn hA hT
  have := ct_end (A := A) h (by omega) (by omega)
  rw [← hT]
  exact this
 | succ n ih =>
  intro R A h hd h3 hn hA hT
  by_cases g : 3 < R.length
  · have hp := earP_lt (L := L) (R := R) (by omega)
    obtain ⟨a1, a2, a3, a4⟩ := clear_inv (R.eraseIdx (earP L R)).length (R.eraseIdx (earP L R)) (h.erase hp (by omega)) (nd_erase hd) (by rw [List.length_eraseIdx_of_lt hp]; omega)
    have e : cutF L (n + 1) R = [pv R (earP L R), md R (earP L R), nx R (earP L R)] :: cutF L n (clearR L (R.eraseIdx (earP L R))) := by
     show (if 3 < R.length then _ else _) = _
     rw [if_pos g]
    have nx := ih (clearR L (R.eraseIdx (earP L R))) (A ++ [[pv R (earP L R), md R (earP L R), nx R (earP L R)]]) a1 a2 a3 (by
      have : (clearR L (R.eraseIdx (earP L R))).length ≤ _ := a4
      rw [List.length_eraseIdx_of_lt hp] at this
      omega) (by rw [List.length_append]; simp; omega) (by rw [← hT, e, List.append_assoc]; rfl)
    have nn := ct_in h hd g (by omega) nx
    have q := gt_3 R
    rw [decide_eq_true g] at q
    unfold ctT at nn
    unfold ctS at nn ⊢
    unfold oA at nn ⊢
    generalize oR A = B at *
    exact .to mo_ [] [0, 4, 5, 6] [0, 1, 2] 3 [nL 13 0, .eqv 16 (ni ((zs (cI R)).length : Int)) (ni (R.length : Int)) (by rw [cI_len]), ye q] nn (by kernel_rfl)
  · have e : cutF L (n + 1) R = [R] := by
     show (if 3 < R.length then _ else _) = _
     rw [if_neg g]
    have := ct_end (A := A) h (by omega) (by omega)
    rw [← hT, e]
    exact this
theorem e_cutL (hb : ∀ a ∈ L, Bv b a) (hk : 100 * b + 1000 ≤ 800000000000) (h3 : 3 ≤ L.length) (hn : L.length ≤ 900) (cv : Pure PP 67 [dL L] (bo true)) : Pure PP 101 [dL L] (.tu [.sl (oR (cutL L)), ni 0]) := by
 have hr : Rm L (List.range L.length) b := ⟨fun x hx => List.mem_range.1 hx, by rw [List.length_range]; omega, hb, hk⟩
 have loop := ct_loop (T := cutL L) L.length (List.range L.length) [] hr List.nodup_range (by rw [List.length_range]; omega) (by rw [List.length_range]; omega) (by simp; omega) rfl
 have ca := e_all (L := L) (by omega)
 unfold ctS at loop
 exact pf (by kernel_rfl) (.to mo_ [.ow 5 (.rw 130 3 [])] [0, 4, 5] [0, 1, 2] 3 [cl cv, nf, .lend _ _ _ _ [] ca] loop (by kernel_rfl))
end
end Go.Proofs.YtlgnagnmoleeiaaGreat.E.Pc
namespace Go.Proofs.YtlgnagnmoleeiaaGreat.E.Pc
open Go.RowKit
set_option linter.unusedVariables false
set_option linter.unusedSimpArgs false
def rowsL (Ls : List (List Vc)) : List (List V) := Ls.map fun K => [dL K]
def cutT (L : List Vc) : List (List Vc) := (cutL L).map fun t => t.map (ld L)
section
variable {L : List Vc} {R : List Nat} {b p q m n i j : Nat} {k : Int} {A T : List (List Nat)}
theorem cut_in : ∀ (n : Nat) (R : List Nat), Rm L R b → R.Nodup → 3 ≤ R.length → R.length ≤ n + 3 → ∀ t ∈ cutF L n R, t.length = 3 ∧ ∀ x ∈ t, x < L.length
 | 0, R, h, hd, h3, hn, t, ht => by
  simp only [cutF, List.mem_singleton] at ht
  subst ht
  exact ⟨by omega, h.r⟩
 | n + 1, R, h, hd, h3, hn, t, ht => by
  by_cases g : 3 < R.length
  · have hp := earP_lt (L := L) (R := R) (by omega)
    obtain ⟨a1, a2, a3, a4⟩ := clear_inv (R.eraseIdx (earP L R)).length (R.eraseIdx (earP L R)) (h.erase hp (by omega)) (nd_erase hd) (by rw [List.length_eraseIdx_of_lt hp]; omega)
    have e : cutF L (n + 1) R = [pv R (earP L R), md R (earP L R), nx R (earP L R)] :: cutF L n (clearR L (R.eraseIdx (earP L R))) := by
     show (if 3 < R.length then _ else _) = _
     rw [if_pos g]
    rw [e] at ht
    rcases List.mem_cons.1 ht with rfl | ht
    · refine ⟨rfl, fun x hx => ?_⟩
      simp only [List.mem_cons, List.not_mem_nil, or_false] at hx
      rcases hx with rfl | rfl | rfl
      · exact h.cyc _
      · exact h.md hp
      · exact h.cyc _
    · refine cut_in n (clearR L (R.eraseIdx (earP L R))) a1 a2 a3 ?_ t ht
      have : (clearR L (R.eraseIdx (earP L R))).length ≤ _ := a4
      rw [List.length_eraseIdx_of_lt hp] at this
      omega
  · have e : cutF L (n + 1) R = [R] := by
     show (if 3 < R.length then _ else _) = _
     rw [if_neg g]
    rw [e] at ht
    simp only [List.mem_singleton] at ht
    subst ht
    exact ⟨by omega, h.r⟩
theorem cut_len : ∀ (n : Nat) (R : List Nat), (cutF L n R).length ≤ n + 1
 | 0, R => Nat.le_refl _
 | n + 1, R => by
  unfold cutF
  split
  · rw [List.length_cons]
    have := cut_len n (clearR L (R.eraseIdx (earP L R)))
    omega
  · simp
noncomputable abbrev fof : Func := fnOf PP 40
theorem rowsL_app (Ls : List (List Vc)) (K : List Vc) : rowsL Ls ++ [[dL K]] = rowsL (Ls ++ [K]) := by unfold rowsL; rw [List.map_append]; rfl
theorem e_cof (hb : ∀ a ∈ L, Bv b a) (hk : 100 * b + 1000 ≤ 800000000000) (h3 : 3 ≤ L.length) (hn : L.length ≤ 900) (cv : Pure PP 67 [dL L] (bo true)) : PureT PP 40 [] [dL L] (.io 0 [.rw 70 1 (rowsL (cutT L))] (.tu [.ow 0, ni 0])) := by
 have cc := e_cutL hb hk h3 hn cv
 have hr : Rm L (List.range L.length) b := ⟨fun x hx => List.mem_range.1 hx, by rw [List.length_range]; omega, hb, hk⟩
 have hin := cut_in L.length (List.range L.length) hr List.nodup_range (by rw [List.length_range]; omega) (by rw [List.length_range]; omega)
 have hcl := cut_len (L := L) L.length (List.range L.length)
 have hlen : (oR (cutL L)).length = (cutL L).length := List.length_map ..
 have ht : ∀ t ∈ cutL L, t.length = 3 ∧ ∀ x ∈ t, x < L.length := hin
 have hle : (cutL L).length ≤ 1000 := by show (cutF L L.length _).length ≤ _; omega
 have hT : cutT L = (cutL L).map fun t => t.map (ld L) := rfl
 rw [hT]
 generalize cutL L = ts at *
 let X : Nat → St := fun k => at_ fof [(0, dL L), (5, ni 0), (6, .ow 0), (14, .sl (oR ts)), (15, ni (ts.length : Int)), (16, ni (k : Int))] [.rw 70 1 (rowsL ((ts.take k).map fun t => t.map (ld L)))]
 refine pfT (by kernel_rfl) (.to mo_ [.ow 6 (.rw 70 1 [])] [0, 5, 6, 14, 15, 16] [0] 1 [cl cc, .eqv 15 (ni ((oR ts).length : Int)) (ni (ts.length : Int)) (by rw [hlen])] (td' := lp fof 0) (σ' := X 0) ?_ (by kernel_rfl))
 refine Gd.loop X (fun k => k ≤ ts.length) (fun k => ts.length - k) ?_ 0 (Nat.zero_le _)
 intro k hk' ih
 by_cases g : k < ts.length
 · have hx : decide ((k : Int) < (ts.length : Int)) = true := decide_eq_true (by omega)
   have nx := ih (k + 1) (by omega) (by omega)
   obtain ⟨h1, h2⟩ := ht _ (List.getElem_mem g)
   have htk : ts.take (k + 1) = ts.take k ++ [ts[k]] := by rw [List.take_add_one, List.getElem?_eq_getElem g]; rfl
   have e0 : (oR ts)[k]? = some (ts[k].map fun (x : Nat) => ni (x : Int)) := by unfold oR; rw [List.getElem?_map, List.getElem?_eq_getElem g]; rfl
   simp only [X] at nx ⊢
   rw [htk, List.map_append] at nx
   have hap := rowsL_app ((ts.take k).map fun t => t.map (ld L)) (ts[k].map (ld L))
   have hl2 : (rowsL ((ts.take k).map (fun t => t.map (ld L)) ++ [ts[k].map (ld L)])).length ≤ 2000 := by
    have : (rowsL ((ts.take k).map (fun t => t.map (ld L)) ++ [ts[k].map (ld L)])).length = _ := List.length_map ..
    rw [this, List.length_append, List.length_map, List.length_take]
    simp
    omega
   rw [show List.map (fun t => t.map (ld L)) [ts[k]] = [ts[k].map (ld L)] from rfl] at nx
   rw [← hap] at nx hl2
   generalize rowsL ((ts.take k).map fun t => t.map (ld L)) = B at *
   generalize ts[k] = t at *
   obtain ⟨x, y, z, rfl⟩ := three_of h1
   have ex := ld_at (h2 x (by simp))
   have ey := ld_at (h2 y (by simp))
   have ez := ld_at (h2 z (by simp))
   exact .to mo_ [.mv 0 4] [0, 5, 6, 14, 15, 16] [0] 1 [ye hx, .sel _ _ _ e0, .sel _ _ _ ex, .sel _ _ _ ey, .sel _ _ _ ez, .ro, .app B [[dL [ld L x, ld L y, ld L z]]] _ 2000 rfl (show 0 < 1 by decide) hl2, inc 39 k (by omega)] nx (by kernel_rfl)
 · have : k = ts.length := by omega
   subst this
   have hx : decide ((ts.length : Int) < (ts.length : Int)) = false := decide_eq_false (by omega)
   simp only [X]
   rw [List.take_length]
   exact fi [na hx] (by kernel_rfl) (by kernel_rfl)
end
end Go.Proofs.YtlgnagnmoleeiaaGreat.E.Pc
namespace Go.Proofs.YtlgnagnmoleeiaaGreat.E
open Go.RowKit
set_option linter.unusedVariables false
section
variable {a b c d n p : Rat × Rat} {r q x : Rat} {i j k : Nat} {L : List (Rat × Rat)}
def z8 : List V := [bo false, .nl, bo false, .nl, bo false, .nl, bo false, .nl]
end
end Go.Proofs.YtlgnagnmoleeiaaGreat.E
namespace Go.Proofs.YtlgnagnmoleeiaaGreat
open Go.RowKit Go.Shelf
set_option linter.unusedVariables false
set_option linter.unusedSimpArgs false
theorem pre_bits {f : Rat × Rat → Rat × Rat → Rat} {K n k : Nat} {L : List (Rat × Rat)} (hf : ∀ a b, Bv k a → Bv k b → Bq K (f a b)) (hl : n = L.length) (hb : ∀ a ∈ L, Bv k a) (pre : List (Fin n)) (hp : pre.length ≤ 100) : Bq ((K + 1) * 100 + 1) (Pg.sum f (pre.map fun x => Pg.at_ L n x.1)) := by
 refine (Pg.sum_bits (k := K) _ (fun p hp => ?_)).mono (by rw [List.length_map]; exact Nat.add_le_add_right (Nat.mul_le_mul_left _ hp) 1)
 obtain ⟨y, hy, rfl⟩ := List.mem_map.1 hp
 exact hf _ _ (getD_bv hb _ (by have := y.2; omega)) (getD_bv hb _ (by have := Nat.mod_lt (y.1 + 1) (show 0 < n by have := y.2; omega); omega))
theorem third_bits : Bq 2 (Rat.divInt 1 3) := Bq.divInt (by unfold I.Bd; decide) (by unfold I.Bd; decide) (by omega)
theorem fx_bits {k : Nat} {a b : Rat × Rat} (ha : Bv k a) (hb : Bv k b) : Bv (6 * k + 2) (Pg.fx a b, Pg.fy a b) := ((ha.add hb).sca ((ha.crs hb).mono (show _ ≤ 4 * k + 1 by omega))).mono (by omega)
theorem crs_bits {k : Nat} {a b : Rat × Rat} (ha : Bv k a) (hb : Bv k b) : Bq (4 * k + 1) (vcrs a b) := (ha.crs hb).mono (by omega)
end Go.Proofs.YtlgnagnmoleeiaaGreat
namespace Go.Proofs.YtlgnagnmoleeiaaGreat
set_option maxHeartbeats 4000000
open Go.RowKit Go.Shelf
attribute [local go_sem] Oper.semAt_some
attribute [local go_sem] run_store_one
set_option linter.unusedVariables false
set_option linter.unusedSimpArgs false
end Go.Proofs.YtlgnagnmoleeiaaGreat

namespace Go.Proofs.YtlgnagnmoleeiaaGreat
set_option maxHeartbeats 4000000
open Go.RowKit Go.Shelf
attribute [local go_sem] Oper.semAt_some
attribute [local go_sem] run_store_one
set_option linter.unusedVariables false
set_option linter.unusedSimpArgs false
end Go.Proofs.YtlgnagnmoleeiaaGreat
namespace Go.Proofs.YtlgnagnmoleeiaaGreat
open Go.RowKit
set_option linter.unusedSimpArgs false
set_option linter.unusedVariables false
theorem Pg.Meet.symm {a b c d : Rat × Rat} (h : Pg.Meet a b c d) : Pg.Meet c d a b := by
 rcases h with ⟨h1, h2⟩ | h | h | h | h
 ·exact .inl ⟨h2, h1⟩
 ·exact .inr (.inr (.inr (.inl h)))
 ·exact .inr (.inr (.inr (.inr h)))
 ·exact .inr (.inl h)
 ·exact .inr (.inr (.inl h))
/-- How far apart two sides are. -/
def Pg.gap (n i k : Nat) : Nat := (k + n - i) % n
theorem Pg.gap_ge {n i k : Nat} (hi : i < n) (hk : k < n) (h : i ≤ k) : Pg.gap n i k = k - i := by
 unfold Pg.gap
 rw [show k + n - i = (k - i) + n by omega, Nat.add_mod_right, Nat.mod_eq_of_lt (by omega)]
theorem Pg.gap_lt {n i k : Nat} (hi : i < n) (hk : k < n) (h : k < i) : Pg.gap n i k = k + n - i := by
 unfold Pg.gap
 exact Nat.mod_eq_of_lt (by omega)
/-- Sides that are not neighbours do not meet. -/
def Pg.Simple (L : List (Rat × Rat)) : Prop := ∀ i k, i < L.length → k < L.length → 1 < Pg.gap L.length i k → Pg.gap L.length i k < L.length - 1 → ¬ Pg.Meet (Pg.cor L i) (Pg.cor L (i + 1)) (Pg.cor L k) (Pg.cor L (k + 1))
/-- No corner is flat. -/
def Pg.Bent (L : List (Rat × Rat)) : Prop := ∀ i, i < L.length → Pg.cr (Pg.cor L i) (Pg.cor L (i + 1)) (Pg.cor L (i + 2)) ≠ 0
def Pg.Right (L : List (Rat × Rat)) : Prop := 3 ≤ L.length ∧ L.length ≤ 12 ∧ Pg.Bent L ∧ Pg.Simple L ∧ 0 < Pg.area L
theorem Pg.cor_lt {L : List (Rat × Rat)} {i : Nat} (h : i < L.length) : L.getD i (0, 0) = Pg.cor L i := by unfold Pg.cor; rw [Nat.mod_eq_of_lt h]
theorem vside_zero (a b c : Rat × Rat) : (vside a b c == 0) = true ↔ Pg.cr a b c = 0 := by
 rw [vside_cr, beq_iff_eq]
 rcases cmpQ_cases (Pg.cr a b c) 0 with ⟨h, g⟩ | ⟨h, g⟩ | ⟨h, g⟩ <;> rw [h] <;> constructor <;> intro k <;> first | omega | grind
theorem Pg.area_sgn (r : Rat) : 0 < sgnZ r.num ↔ 0 < r := by
 rw [sgn_of]
 rcases cmpQ_cases r 0 with ⟨h, g⟩ | ⟨h, g⟩ | ⟨h, g⟩ <;> rw [h] <;> constructor <;> intro k <;> first | omega | grind
theorem not_any {n : Nat} {p : Nat → Bool} : (!(List.range n).any p) = true ↔ ∀ i, i < n → p i = false := by
 rw [Bool.not_eq_true', List.any_eq_false]
 constructor
 ·intro h i hi
  have := h i (List.mem_range.2 hi)
  simpa using this
 ·intro h i hi
  rw [h i (List.mem_range.1 hi)]
  simp
theorem valid6_iff (L : List (Rat × Rat)) : Pg.valid6 L = true ↔ Pg.Right L := by
 unfold Pg.valid6 Pg.Right
 simp only [Bool.and_eq_true, decide_eq_true_eq, not_any, Pg.area_sgn]
 constructor
 ·rintro ⟨⟨⟨h1, h2⟩, h3⟩, h4⟩
  refine ⟨h1, h2, fun i hi h0 => ?_, fun i k hi hk g1 g2 hm => ?_, h4⟩
  ·have := h3 i hi
   unfold Pg.bad6 Pg.flat at this
   rw [Pg.cor_lt hi, (vside_zero _ _ _).2 h0] at this
   simp at this
  ·have := h3 i hi
   unfold Pg.bad6 at this
   rw [Bool.or_eq_false_iff] at this
   have h5 := (List.any_eq_false.1 this.2) k (List.mem_range.2 hk)
   unfold Pg.p6 at h5
   rw [Pg.cor_lt hi, Pg.cor_lt hk, (meets6_iff _ _ _ _).2 hm] at h5
   unfold Pg.gap at g1 g2
   apply h5
   rw [Bool.and_true, Bool.and_eq_true, decide_eq_true_eq, decide_eq_true_eq]
   exact ⟨by omega, by omega⟩
 ·rintro ⟨h1, h2, h3, h4, h5⟩
  refine ⟨⟨⟨h1, h2⟩, fun i hi => ?_⟩, h5⟩
  unfold Pg.bad6
  rw [Bool.or_eq_false_iff]
  refine ⟨?_, ?_⟩
  ·unfold Pg.flat
   rw [Pg.cor_lt hi, ← Bool.not_eq_true, vside_zero]
   exact h3 i hi
  ·rw [List.any_eq_false]
   intro k hk
   have hk := List.mem_range.1 hk
   unfold Pg.p6
   rw [Pg.cor_lt hi, Pg.cor_lt hk, Bool.and_eq_true, Bool.and_eq_true, decide_eq_true_eq, decide_eq_true_eq, meets6_iff]
   rintro ⟨⟨g1, g2⟩, hm⟩
   exact h4 i k hi hk (by unfold Pg.gap; omega) (by unfold Pg.gap; omega) hm
theorem valid_iff (L : List (Rat × Rat)) : Pg.valid L = true ↔ Pg.Right L := by
 unfold Pg.valid Pg.Right
 simp only [Bool.and_eq_true, decide_eq_true_eq, not_any, Pg.area_sgn]
 constructor
 ·rintro ⟨⟨⟨h1, h2⟩, h3⟩, h4⟩
  have key : ∀ i k, i < L.length → k < L.length → i + 2 ≤ k → (k + 1) % L.length ≠ i → ¬ Pg.Meet (Pg.cor L i) (Pg.cor L (i + 1)) (Pg.cor L k) (Pg.cor L (k + 1)) := by
   intro i k hi hk g1 g2 hm
   have := h3 i hi
   unfold Pg.bad at this
   rw [Bool.or_eq_false_iff] at this
   have h5 := (List.any_eq_false.1 this.2) k (List.mem_range.2 hk)
   unfold Pg.q at h5
   apply h5
   rw [Bool.and_eq_true, Bool.and_eq_true, decide_eq_true_eq, meets_iff, bne_iff_ne]
   exact ⟨g1, by omega, hm⟩
  refine ⟨h1, h2, fun i hi h0 => ?_, fun i k hi hk g1 g2 hm => ?_, h4⟩
  ·have := h3 i hi
   unfold Pg.bad Pg.flatp at this
   rw [(vside_zero _ _ _).2 h0] at this
   simp at this
  ·rcases Nat.lt_or_ge k i with h | h
   ·rw [Pg.gap_lt hi hk h] at g1 g2
    refine key k i hk hi (by omega) ?_ hm.symm
    by_cases h6 : i + 1 = L.length
    ·rw [h6, Nat.mod_self]; omega
    ·rw [Nat.mod_eq_of_lt (by omega)]; omega
   ·rw [Pg.gap_ge hi hk h] at g1 g2
    refine key i k hi hk (by omega) ?_ hm
    by_cases h6 : k + 1 = L.length
    ·rw [h6, Nat.mod_self]; omega
    ·rw [Nat.mod_eq_of_lt (by omega)]; omega
 ·rintro ⟨h1, h2, h3, h4, h5⟩
  refine ⟨⟨⟨h1, h2⟩, fun i hi => ?_⟩, h5⟩
  unfold Pg.bad
  rw [Bool.or_eq_false_iff]
  refine ⟨?_, ?_⟩
  ·unfold Pg.flatp
   rw [← Bool.not_eq_true, vside_zero]
   exact h3 i hi
  ·rw [List.any_eq_false]
   intro k hk
   have hk := List.mem_range.1 hk
   unfold Pg.q
   rw [Bool.and_eq_true, Bool.and_eq_true, decide_eq_true_eq, meets_iff, bne_iff_ne]
   rintro ⟨g1, g2, hm⟩
   refine h4 i k hi hk ?_ ?_ hm
   ·rw [Pg.gap_ge hi hk (by omega)]; omega
   ·rw [Pg.gap_ge hi hk (by omega)]
    by_cases h6 : k + 1 = L.length
    ·rw [h6, Nat.mod_self] at g2; omega
    ·omega
/-- Both ways of asking whether a polygon is right agree. -/
theorem valid_eq (L : List (Rat × Rat)) : Pg.valid6 L = Pg.valid L := by rw [Bool.eq_iff_iff, valid6_iff, valid_iff]
section
end
end Go.Proofs.YtlgnagnmoleeiaaGreat
namespace Go.Proofs.YtlgnagnmoleeiaaGreat.E
open Go.RowKit
set_option linter.unusedVariables false
section
variable {n : Int} {l : List Int} {i m : Nat} {P : Program}
/-- The directions. -/
def wy : List (Int × Int) := [(4, 0), (4, 2), (3, 3), (2, 4), (0, 4), (-2, 4), (-3, 3), (-4, 2), (-4, 0), (-4, -2), (-3, -3), (-2, -4), (0, -4), (2, -4), (3, -3), (4, -2)]
def ways : List (List V) := wy.map fun p => [ni p.1, ni p.2]
end
end Go.Proofs.YtlgnagnmoleeiaaGreat.E
