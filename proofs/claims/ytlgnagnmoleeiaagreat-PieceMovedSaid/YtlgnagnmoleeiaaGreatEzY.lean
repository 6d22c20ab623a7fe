/-
 PIECE: the reference's cells: corners are let go.
-/
import Derived.Test.YtlgnagnmoleeiaaGreatEzX
namespace Go.Proofs.YtlgnagnmoleeiaaGreat.E.Pc
open Go.RowKit
set_option linter.unusedVariables false
set_option linter.unusedSimpArgs false
section
variable {L : List Vc} {R : List Nat} {b p q m n i j : Nat} {k : Int}
noncomputable abbrev fo7 : Func := fnOf PP 204
/-- What is left of the first corners. -/
def wo (R : List Nat) (p i : Nat) : List Nat := (R.take i).eraseIdx p
theorem wo_at (h : p < R.length) : wo R p (p + 1) = wo R p p := by
 have e1 : (R.take p).eraseIdx p = R.take p := List.eraseIdx_of_length_le (by rw [List.length_take]; omega)
 have e2 : (R.take (p + 1)).eraseIdx p = R.take p := by
  rw [List.eraseIdx_eq_take_drop_succ, List.take_take, List.drop_of_length_le (by rw [List.length_take]; omega), List.append_nil, Nat.min_eq_left (by omega)]
 unfold wo
 rw [e1, e2]
theorem wo_next (h : i < R.length) (hne : i ≠ p) : wo R p (i + 1) = wo R p i ++ [md R i] := by
 unfold wo
 have e : R.take (i + 1) = R.take i ++ [md R i] := by
  rw [List.take_add_one, List.getElem?_eq_getElem h]
  unfold md
  rw [List.getD_eq_getElem?_getD, List.getElem?_eq_getElem h]
  rfl
 rw [e]
 rcases Nat.lt_or_ge p i with g | g
 · rw [List.eraseIdx_append_of_lt_length (by rw [List.length_take]; omega)]
 · rw [List.eraseIdx_of_length_le (by rw [List.length_append, List.length_take]; simp; omega), List.eraseIdx_of_length_le (by rw [List.length_take]; omega)]
theorem wo_len : (wo R p i).length ≤ R.length := by
 have h1 := List.length_eraseIdx_le (R.take i) p
 have h2 : (R.take i).length ≤ R.length := by rw [List.length_take]; omega
 unfold wo
 omega
theorem cI_snoc (R : List Nat) (x : Nat) : zs (cI R) ++ [[ni (x : Int)]] = zs (cI (R ++ [x])) := by
 unfold cI zs
 rw [List.map_append, List.map_append]
 rfl
theorem e_without7 (h : Rm L R b) (hp : p < R.length) : Pure PP 204 [rsV R, ni (p : Int)] (rsV (R.eraseIdx p)) := by
 have hn := h.n
 have hlen := cI_len R
 let X : Nat → St := fun i => at_ fo7 [(1, ni (p : Int)), (2, .lp 0 0), (4, .lp 1 0), (5, .lp 2 0), (6, ni (i : Int))] [.bx 189 [zl (cI R)], .bx 189 [.nl], .bx 189 [.ow 3], .rw 3 1 (zs (cI (wo R p i)))]
 refine pf (by kernel_rfl) (.to mo_ [.oc 2 0 (.rw 3 1 [])] [1, 2, 4, 5, 6] [0, 1, 2, 3] 4 [] (td' := lp fo7 0) (σ' := X 0) ?_ (by kernel_rfl))
 refine Gd.loop X (fun i => i ≤ R.length) (fun i => R.length - i) ?_ 0 (Nat.zero_le _)
 intro i hi ih
 let E0 : F_ := .eqv 10 (ni ((zs (cI R)).length : Int)) (ni (R.length : Int)) (by rw [hlen])
 by_cases g : i < R.length
 · have hx : decide ((i : Int) < (R.length : Int)) = true := decide_eq_true (by omega)
   have nn := ih (i + 1) (by omega) (by omega)
   have e1 := cI_at g
   have q1 := bne_nat i p
   simp only [X] at nn ⊢
   by_cases hip : i = p
   · subst hip
     rw [wo_at g] at nn
     rw [decide_eq_true rfl] at q1
     exact .to mo_ [] [1, 2, 4, 5, 6] [0, 1, 2, 3] 4 [E0, ye hx, na q1, inc 13 i (by omega)] nn (by kernel_rfl)
   · rw [decide_eq_false hip] at q1
     rw [wo_next g hip] at nn
     have hap := cI_snoc (wo R p i) (md R i)
     have hl2 : (zs (cI (wo R p i ++ [md R i]))).length ≤ 2000 := by
      rw [cI_len, List.length_append]
      have := wo_len (R := R) (p := p) (i := i)
      simp
      omega
     generalize zs (cI (wo R p i)) = A at *
     generalize zs (cI (wo R p i ++ [md R i])) = A' at *
     exact .to mo_ [.mv 3 5] [1, 2, 4, 5, 6] [0, 1, 2, 3] 4 [E0, ye hx, ye q1, .sel _ _ _ e1, .app A [[ni ((md R i : Nat) : Int)]] A' 2000 hap (show 0 < 1 by decide) hl2, inc 13 i (by omega)] nn (by kernel_rfl)
 · have : i = R.length := by omega
   subst this
   have hx : decide ((R.length : Int) < (R.length : Int)) = false := decide_eq_false (by omega)
   have he : wo R p R.length = R.eraseIdx p := by unfold wo; rw [List.take_length]
   simp only [X]
   rw [he]
   exact fi [E0, na hx] (by kernel_rfl) (by kernel_rfl)
noncomputable abbrev fc7 : Func := fnOf PP 203
noncomputable def c7S (L : List Vc) (R : List Nat) (p : Nat) : St := at_ fc7 [(0, dL L), (3, .lp 0 0), (4, .lp 1 0), (5, ni (p : Int))] [.bx 189 [zl (cI R)], .bx 189 [.nl]]
theorem c7_loop {T : List Nat} : ∀ (n : Nat) (R : List Nat), Rm L R b → R.length ≤ n → clearF L n R = T → Gd PP 203 (.v (rsV T)) (lp fc7 0) (c7S L R 0) := by
 intro n
 induction n with
 | zero => intro R h hd; have := h.n; omega
 | succ n ihn =>
  intro R h hn1 hT
  have hn := h.n
  have q := gt_3 R
  have hlen := cI_len R
  let E0 : F_ := .eqv 8 (ni ((zs (cI R)).length : Int)) (ni (R.length : Int)) (by rw [hlen])
  let E1 : F_ := .eqv 14 (ni ((zs (cI R)).length : Int)) (ni (R.length : Int)) (by rw [hlen])
  by_cases h3 : 3 < R.length
  · rw [decide_eq_true h3] at q
    refine Gd.loop (c7S L R) (fun p => p ≤ R.length ∧ ∀ t, t < p → flatB L R t = false) (fun p => R.length - p) ?_ 0 ⟨Nat.zero_le _, fun t ht => by omega⟩
    intro p ⟨hp, hall⟩ ih
    by_cases g : p < R.length
    · have hx : decide ((p : Int) < (R.length : Int)) = true := decide_eq_true (by omega)
      have c1 := e_sd7 h g
      have hfb : (sdR L R p == 0) = flatB L R p := rfl
      cases hf : flatB L R p with
      | false =>
       have nn := ih (p + 1) ⟨g, fun t ht => by
        rcases Nat.lt_or_ge t p with h5 | h5
        · exact hall t h5
        · have : t = p := by omega
          subst this
          exact hf⟩ (by omega)
       unfold c7S at nn ⊢
       exact .to mo_ [] [0, 3, 4, 5] [0, 1] 2 [E0, ye q, E1, ye hx, cl c1, na (hfb.trans hf), inc 26 p (by omega)] nn (by kernel_rfl)
      | true =>
       have hfp : flatP L R = some p := find_some g hf hall
       have e : clearF L (n + 1) R = clearF L n (R.eraseIdx p) := by
        show (if 3 < R.length then (match flatP L R with | some p => clearF L n (R.eraseIdx p) | none => R) else R) = _
        rw [if_pos h3, hfp]
       have nn := ihn (R.eraseIdx p) (h.erase g (by omega)) (by rw [List.length_eraseIdx_of_lt g]; omega) (e.symm.trans hT)
       have cw := e_without7 h g
       unfold c7S at nn ⊢
       exact .to mo_ [] [0, 3, 4, 5] [0, 1] 2 [E0, ye q, E1, ye hx, cl c1, ye (hfb.trans hf), cl cw] nn (by kernel_rfl)
    · have : p = R.length := by omega
      subst this
      have hx : decide ((R.length : Int) < (R.length : Int)) = false := decide_eq_false (by omega)
      have hfp : flatP L R = none := find_none hall
      rw [clear_no hfp] at hT
      subst hT
      unfold c7S
      exact fi [E0, ye q, E1, na hx] (by kernel_rfl) (by kernel_rfl)
  · rw [decide_eq_false h3] at q
    rw [clear_end h3] at hT
    subst hT
    unfold c7S
    exact fi [E0, na q, nf] (by kernel_rfl) (by kernel_rfl)
theorem e_cleared7 (h : Rm L R b) : Pure PP 203 [dL L, rsV R] (rsV (clearR L R)) := by
 have nn := c7_loop R.length R h (Nat.le_refl _) (rfl : _ = clearR L R)
 unfold c7S at nn
 exact pf (by kernel_rfl) (.to mo_ [] [0, 3, 4, 5] [0, 1] 2 [] (td' := lp fc7 0) (σ' := c7S L R 0) nn (by kernel_rfl))
end
end Go.Proofs.YtlgnagnmoleeiaaGreat.E.Pc
