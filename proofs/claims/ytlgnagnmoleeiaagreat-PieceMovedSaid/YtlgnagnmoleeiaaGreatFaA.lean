/-
 PIECE: the reference's cells: the cutting.
-/
import Derived.Test.YtlgnagnmoleeiaaGreatEzY
namespace Go.Proofs.YtlgnagnmoleeiaaGreat.E.Pc
open Go.RowKit
set_option linter.unusedVariables false
set_option linter.unusedSimpArgs false
noncomputable abbrev ft7 : Func := fnOf PP 164
noncomputable abbrev GC7 (T : List (List Nat)) (td : List Item) (σ : St) : Prop := Gd PP 164 (.v (.tu [.sl (oR T), ni 0])) td σ
noncomputable def t7S (L : List Vc) (R : List Nat) (A : List (List V)) (m : List (Nat × V)) : St := at_ ft7 ([(0, dL L), (4, .lp 0 0), (5, .ow 1)] ++ m) [.bx 189 [zl (cI R)], .rw 130 3 A]
section
variable {L : List Vc} {R : List Nat} {b p q m n i j : Nat} {k : Int} {A T : List (List Nat)}
theorem t7_end (h : Rm L R b) (h3 : R.length = 3) (hA : A.length ≤ 1000) : GC7 (A ++ [R]) (lp ft7 0) (t7S L R (oR A) []) := by
 have q := gt_3 R
 rw [decide_eq_false (show ¬ 3 < R.length by omega)] at q
 have e0 := cI_at (R := R) (p := 0) (by omega)
 have e1 := cI_at (R := R) (p := 1) (by omega)
 have e2 := cI_at (R := R) (p := 2) (by omega)
 have hap := oR_app A R
 have hl := app1 A R (N := 2000) (by omega)
 have hlen := cI_len R
 have hR : (R.map fun (x : Nat) => ni (x : Int)) = [ni ((md R 0 : Nat) : Int), ni ((md R 1 : Nat) : Int), ni ((md R 2 : Nat) : Int)] := by
  obtain ⟨x, y, z, rfl⟩ := three_of h3
  rfl
 rw [hR] at hap
 unfold t7S GC7
 generalize oR (A ++ [R]) = A' at *
 generalize oR A = B at *
 exact fi [.eqv 15 (ni ((zs (cI R)).length : Int)) (ni (R.length : Int)) (by rw [hlen]), na q, .sel _ _ _ e0, .sel _ _ _ e1, .sel _ _ _ e2, .app B _ A' 2000 hap (show 0 < 1 by decide) hl] (by kernel_rfl) (by kernel_rfl)
/-- The round, from the search for an ear on. -/
theorem t7_in (h : Rm L R b) (h3 : 3 < R.length) (hA : A.length ≤ 1000) (next : GC7 T (lp ft7 0) (t7S L (clearR L (R.eraseIdx (earP L R))) (oR (A ++ [[pv R (earP L R), md R (earP L R), nx R (earP L R)]])) [])) : GC7 T (lp ft7 1) (t7S L R (oR A) [(6, ni ((0 : Nat) : Int))]) := by
 have hn := h.n
 have hlen := cI_len R
 refine Gd.loop (fun p => t7S L R (oR A) [(6, ni ((p : Nat) : Int))]) (fun p => p ≤ R.length - 1 ∧ ∀ t, t < p → earB L R t = false) (fun p => R.length - p) ?_ 0 ⟨Nat.zero_le _, fun t ht => by omega⟩
 intro p ⟨hp, hall⟩ ih
 let E0 : F_ := .eqv 20 (ni ((zs (cI R)).length : Int)) (ni (R.length : Int)) (by rw [hlen])
 let E1 : F_ := wq 21 ((R.length : Int) - 1) ((R.length - 1 : Nat) : Int) (by omega)
 have fin : earP L R = p → ∀ (F : List F_), (∀ (sc : List F_) (B A' : List (List V)) (R' : List Nat), True) → True := fun _ _ _ => trivial
 have hap := oR_app A [pv R p, md R p, nx R p]
 have hl := app1 A [pv R p, md R p, nx R p] (N := 2000) (by omega)
 have hp' : p < R.length := by omega
 have e1 := cI_at hp'
 have ca := e_pv7 h hp'
 have cb := e_nx7 h hp'
 have cw := e_without7 h hp'
 have cc := e_cleared7 (h.erase hp' (by omega))
 by_cases g : p < R.length - 1
 · have hx : decide ((p : Int) < ((R.length - 1 : Nat) : Int)) = true := decide_eq_true (by omega)
   have ce := e_ear7 h hp'
   cases he : earB L R p with
   | false =>
     rw [he] at ce
     have nn := ih (p + 1) ⟨by omega, fun t ht => by
      rcases Nat.lt_or_ge t p with h5 | h5
      · exact hall t h5
      · have : t = p := by omega
        subst this
        exact he⟩ (by omega)
     unfold t7S at nn ⊢
     generalize oR A = B at *
     exact .to mo_ [] [0, 4, 5, 6] [0, 1] 2 [E0, E1, ye hx, cl ce, yt, inc 31 p (by omega)] nn (by kernel_rfl)
   | true =>
     rw [he] at ce
     have hP : earP L R = p := by
      unfold earP
      rw [find_some g he hall]
      rfl
     rw [hP] at next
     unfold t7S at next ⊢
     generalize oR (A ++ [[pv R p, md R p, nx R p]]) = A' at *
     generalize oR A = B at *
     generalize clearR L (R.eraseIdx p) = R' at *
     exact .to mo_ [.mv 1 3] [0, 4, 5] [0, 1] 2 [E0, E1, ye hx, cl ce, nf, cl ca, .sel _ _ _ e1, cl cb, .app B [trV R p] A' 2000 hap (show 0 < 1 by decide) hl, cl cw, cl cc] next (by kernel_rfl)
 · have hx : decide ((p : Int) < ((R.length - 1 : Nat) : Int)) = false := decide_eq_false (by omega)
   have hP : earP L R = p := by
    unfold earP
    have : (List.range (R.length - 1)).find? (earB L R) = none := find_none fun t ht => hall t (by omega)
    rw [this]
    show R.length - 1 = p
    omega
   rw [hP] at next
   unfold t7S at next ⊢
   generalize oR (A ++ [[pv R p, md R p, nx R p]]) = A' at *
   generalize oR A = B at *
   generalize clearR L (R.eraseIdx p) = R' at *
   exact .to mo_ [.mv 1 3] [0, 4, 5] [0, 1] 2 [E0, E1, na hx, nf, cl ca, .sel _ _ _ e1, cl cb, .app B [trV R p] A' 2000 hap (show 0 < 1 by decide) hl, cl cw, cl cc] next (by kernel_rfl)
/-- All rounds. -/
theorem t7_loop : ∀ (n : Nat) (R : List Nat) (A : List (List Nat)), Rm L R b → R.Nodup → 3 ≤ R.length → R.length ≤ n + 3 → A.length + n ≤ 1000 → A ++ cutF L n R = T → GC7 T (lp ft7 0) (t7S L R (oR A) []) := by
 intro n
 induction n with
 | zero =>
  intro R A h hd h3 hn hA hT
  have := t7_end (A := A) h (by omega) (by omega)
  rw [← hT]
  exact this
 | succ n ih =>
  intro R A h hd h3 hn hA hT
  by_cases g : 3 < R.length
  · have hp := earP_lt (L := L) (R := R) (by omega)
    obtain ⟨a1, a2, a3, a4⟩ := clear_inv (R.eraseIdx (earP L R)).length (R.eraseIdx (earP L R)) (h.erase hp (by omega)) (nd_erase hd) (by rw [List.length_eraseIdx_of_lt hp]; omega)
    have e : cutF L (n + 1) R = [pv R (earP L R), md R (earP L R), nx R (earP L R)] :: cutF L n (clearR L (R.eraseIdx (earP L R))) := by
     show (if 3 < R.length then _ else _) = _
     rw [if_pos g]
    have nx := ih (clearR L (R.eraseIdx (earP L R))) (A ++ [[pv R (earP L R), md R (earP L R), nx R (earP L R)]]) a1 a2 a3 (by
      have : (clearR L (R.eraseIdx (earP L R))).length ≤ _ := a4
      rw [List.length_eraseIdx_of_lt hp] at this
      omega) (by rw [List.length_append]; simp; omega) (by rw [← hT, e, List.append_assoc]; rfl)
    have nn := t7_in h g (by omega) nx
    have q := gt_3 R
    rw [decide_eq_true g] at q
    have hlen := cI_len R
    unfold t7S at nn ⊢
    generalize oR A = B at *
    exact .to mo_ [] [0, 4, 5, 6] [0, 1] 2 [.eqv 15 (ni ((zs (cI R)).length : Int)) (ni (R.length : Int)) (by rw [hlen]), ye q] nn (by kernel_rfl)
  · have e : cutF L (n + 1) R = [R] := by
     show (if 3 < R.length then _ else _) = _
     rw [if_neg g]
    have := t7_end (A := A) h (by omega) (by omega)
    rw [← hT, e]
    exact this
theorem e_cut7 (hb : ∀ a ∈ L, Bv b a) (hk : 100 * b + 1000 ≤ 800000000000) (h3 : 3 ≤ L.length) (hn : L.length ≤ 900) (cv : Pure PP 69 [dL L] (bo true)) : Pure PP 164 [dL L] (.tu [.sl (oR (cutL L)), ni 0]) := by
 have hr : Rm L (List.range L.length) b := ⟨fun x hx => List.mem_range.1 hx, by rw [List.length_range]; omega, hb, hk⟩
 have loop := t7_loop (T := cutL L) L.length (List.range L.length) [] hr List.nodup_range (by rw [List.length_range]; omega) (by rw [List.length_range]; omega) (by simp; omega) rfl
 have cw := e_whole7 L.length (by omega)
 have hl : (L.map dV).length = L.length := List.length_map ..
 unfold t7S at loop
 exact pf (by kernel_rfl) (.to mo_ [.ow 5 (.rw 130 3 [])] [0, 4, 5] [0, 1] 2 [cl cv, nf, .eqv 11 (ni ((L.map dV).length : Int)) (ni (L.length : Int)) (by rw [hl]), cl cw] loop (by kernel_rfl))
noncomputable abbrev fof7 : Func := fnOf PP 99
theorem e_of7 (hb : ∀ a ∈ L, Bv b a) (hk : 100 * b + 1000 ≤ 800000000000) (h3 : 3 ≤ L.length) (hn : L.length ≤ 900) (cv : Pure PP 69 [dL L] (bo true)) : Pure PP 99 [dL L] (.tu [.sl (rowsL (cutT L)), ni 0]) := by
 have cc := e_cut7 hb hk h3 hn cv
 have hr : Rm L (List.range L.length) b := ⟨fun x hx => List.mem_range.1 hx, by rw [List.length_range]; omega, hb, hk⟩
 have hin := cut_in L.length (List.range L.length) hr List.nodup_range (by rw [List.length_range]; omega) (by rw [List.length_range]; omega)
 have hcl := cut_len (L := L) L.length (List.range L.length)
 have hlen : (oR (cutL L)).length = (cutL L).length := List.length_map ..
 have ht : ∀ t ∈ cutL L, t.length = 3 ∧ ∀ x ∈ t, x < L.length := hin
 have hle : (cutL L).length ≤ 1000 := by show (cutF L L.length _).length ≤ _; omega
 have hT : cutT L = (cutL L).map fun t => t.map (ld L) := rfl
 rw [hT]
 generalize cutL L = ts at *
 let X : Nat → St := fun k => at_ fof7 [(0, dL L), (4, .sl (oR ts)), (5, ni 0), (6, .ow 0), (7, ni (k : Int))] [.rw 70 1 (rowsL ((ts.take k).map fun t => t.map (ld L)))]
 refine pf (by kernel_rfl) (.to mo_ [.ow 6 (.rw 70 1 [])] [0, 4, 5, 6, 7] [0] 1 [cl cc] (td' := lp fof7 0) (σ' := X 0) ?_ (by kernel_rfl))
 refine Gd.loop X (fun k => k ≤ ts.length) (fun k => ts.length - k) ?_ 0 (Nat.zero_le _)
 intro k hk' ih
 let E0 : F_ := .eqv 15 (ni ((oR ts).length : Int)) (ni (ts.length : Int)) (by rw [hlen])
 by_cases g : k < ts.length
 · have hx : decide ((k : Int) < (ts.length : Int)) = true := decide_eq_true (by omega)
   have nx := ih (k + 1) (by omega) (by omega)
   obtain ⟨h1, h2⟩ := ht _ (List.getElem_mem g)
   have htk : ts.take (k + 1) = ts.take k ++ [ts[k]] := by rw [List.take_add_one, List.getElem?_eq_getElem g]; rfl
   have e0 : (oR ts)[k]? = some (ts[k].map fun (x : Nat) => ni (x : Int)) := by unfold oR; rw [List.getElem?_map, List.getElem?_eq_getElem g]; rfl
   simp only [X] at nx ⊢
   rw [htk, List.map_append] at nx
   have hap := rowsL_app ((ts.take k).map fun t => t.map (ld L)) (ts[k].map (ld L))
   have hl2 : (rowsL ((ts.take k).map (fun t => t.map (ld L)) ++ [ts[k].map (ld L)])).length ≤ 2000 := by
    have : (rowsL ((ts.take k).map (fun t => t.map (ld L)) ++ [ts[k].map (ld L)])).length = _ := List.length_map ..
    rw [this, List.length_append, List.length_map, List.length_take]
    simp
    omega
   rw [show List.map (fun t => t.map (ld L)) [ts[k]] = [ts[k].map (ld L)] from rfl] at nx
   rw [← hap] at nx hl2
   generalize rowsL ((ts.take k).map fun t => t.map (ld L)) = B at *
   generalize ts[k] = t at *
   obtain ⟨x, y, z, rfl⟩ := three_of h1
   have ex := ld_at (h2 x (by simp))
   have ey := ld_at (h2 y (by simp))
   have ez := ld_at (h2 z (by simp))
   exact .to mo_ [.mv 0 3] [0, 4, 5, 6, 7] [0] 1 [E0, ye hx, .sel _ _ _ e0, .sel _ _ _ ex, .sel _ _ _ e0, .sel _ _ _ ey, .sel _ _ _ e0, .sel _ _ _ ez, .ro, .app B [[dL [ld L x, ld L y, ld L z]]] _ 2000 rfl (show 0 < 1 by decide) hl2, inc 18 k (by omega)] nx (by kernel_rfl)
 · have : k = ts.length := by omega
   subst this
   have hx : decide ((ts.length : Int) < (ts.length : Int)) = false := decide_eq_false (by omega)
   simp only [X]
   rw [List.take_length]
   exact fi [E0, na hx] (by kernel_rfl) (by kernel_rfl)
end
end Go.Proofs.YtlgnagnmoleeiaaGreat.E.Pc
