/-
 PIECE: a polygon is cut into triangles.
-/
import Derived.Test.YtnpdpjfdgialeaaGreatDoorEyB
import Derived.Laws.Cover3
namespace Go.Proofs.YtnpdpjfdgialeaaGreatDoor.E.Pc
open Go.RowKit
set_option linter.unusedVariables false
set_option linter.unusedSimpArgs false
/-- The triangle of a corner that remains. -/
def tri (L : List Vc) (R : List Nat) (p : Nat) : List Vc := [ld L (pv R p), ld L (md R p), ld L (nx R p)]
def outJ (T : List Vc) (K : Vc) (j : Nat) : Bool := decide (vside (ld T j) (ld T ((j + 1) % 3)) K < 0)
def skip (L : List Vc) (R : List Nat) (p k : Nat) : Bool := (decide (k = pv R p) || (decide (k = nx R p) || decide (k = md R p))) || (List.range 3).any (outJ (tri L R p) (ld L k))
def earB (L : List Vc) (R : List Nat) (p : Nat) : Bool := decide (0 < sdR L R p) && R.all (skip L R p)
section
variable {L : List Vc} {R : List Nat} {b p q m i j : Nat} {k : Int}
theorem nat_eq (a b : Nat) : ((a : Int) == (b : Int)) = decide (a = b) := by
 by_cases h : a = b
 · subst h; simp
 · rw [decide_eq_false h]; simp; omega
theorem ear_no (h : i < R.length) (hs : skip L R p (md R i) = false) : earB L R p = false := by
 unfold earB
 have : R.all (skip L R p) = false := by
  cases e : R.all (skip L R p) with
  | false => rfl
  | true =>
   rw [List.all_eq_true] at e
   have := e (md R i) (by unfold md; rw [List.getD_eq_getElem?_getD, List.getElem?_eq_getElem h]; exact List.getElem_mem h)
   rw [hs] at this
   cases this
 rw [this, Bool.and_false]
theorem ear_yes (h : 0 < sdR L R p) (hs : ∀ t, t < R.length → skip L R p (md R t) = true) : earB L R p = true := by
 unfold earB
 rw [decide_eq_true h, Bool.true_and, List.all_eq_true]
 intro x hx
 obtain ⟨t, ht, e⟩ := List.getElem_of_mem hx
 have := hs t ht
 unfold md at this
 rw [List.getD_eq_getElem?_getD, List.getElem?_eq_getElem ht] at this
 rw [← e]
 exact this
noncomputable abbrev fer : Func := fnOf PP 157
noncomputable abbrev GE (L : List Vc) (R : List Nat) (p : Nat) (td : List Item) (σ : St) : Prop := Gd PP 157 (.v (bo (earB L R p))) td σ
noncomputable def erS (L : List Vc) (R : List Nat) (p i : Nat) (m : List (Nat × V)) : St := at_ fer ([(0, .ip (fX L R)), (1, ni (p : Int)), (5, ni ((pv R p : Nat) : Int)), (6, ni ((nx R p : Nat) : Int)), (7, dL (tri L R p))] ++ (m ++ [(52, zl (cI R)), (53, ni (R.length : Int)), (54, ni (i : Int))])) []
noncomputable def erT (L : List Vc) (R : List Nat) (p i j : Nat) : St := at_ fer ([(0, .ip (fX L R)), (1, ni (p : Int)), (5, ni ((pv R p : Nat) : Int)), (6, ni ((nx R p : Nat) : Int)), (7, dL (tri L R p)), (9, ni ((md R i : Nat) : Int)), (52, zl (cI R)), (53, ni (R.length : Int)), (54, ni (i : Int)), (78, ni 3), (79, ni (j : Int))]) []
theorem tri_len : (tri L R p).length = 3 := rfl
theorem tri_bv (h : Rm L R b) (hp : p < R.length) (hj : j < 3) : Bv b (ld (tri L R p) j) := by
 match j, hj with
 | 0, _ => exact h.bv (h.cyc _)
 | 1, _ => exact h.bv (h.md hp)
 | 2, _ => exact h.bv (h.cyc _)
/-- The three sides. -/
theorem er_in (h : Rm L R b) (hp : p < R.length) (hi : i < R.length) (hpre : (decide (md R i = pv R p) || (decide (md R i = nx R p) || decide (md R i = md R p))) = false) (next : skip L R p (md R i) = true → GE L R p (lp fer 0) (erS L R p (i + 1) [])) : GE L R p (lp fer 1) (erT L R p i 0) := by
 have hn := h.n
 have hk := h.md hi
 have hlen := tri_len (L := L) (R := R) (p := p)
 refine Gd.loop (erT L R p i) (fun j => j ≤ 3 ∧ ∀ t, t < j → outJ (tri L R p) (ld L (md R i)) t = false) (fun j => 3 - j) ?_ 0 ⟨Nat.zero_le _, fun t ht => by omega⟩
 intro j ⟨hj, hall⟩ ih
 by_cases h3 : j < 3
 · have hm3 : (j + 1) % 3 < 3 := Nat.mod_lt _ (by omega)
   have b1 := tri_bv h hp h3
   have b2 := tri_bv h hp hm3
   have e1 := ld_at (L := tri L R p) (p := j) h3
   have e2 := ld_at (L := tri L R p) (p := (j + 1) % 3) hm3
   have e3 := ld_at hk
   have c := e_side b1 b2 (h.bv hk) h.hb
   have hx : decide ((j : Int) < 3) = true := decide_eq_true (by omega)
   have r1 : ni (((j + 1 : Nat) : Int).tmod 3) = ni (((j + 1) % 3 : Nat) : Int) := by rw [show (3 : Int) = ((3 : Nat) : Int) from rfl, tmod_]
   cases ho : outJ (tri L R p) (ld L (md R i)) j with
   | true =>
     have hs : skip L R p (md R i) = true := by
      unfold skip
      rw [hpre, Bool.false_or, List.any_eq_true]
      exact ⟨j, List.mem_range.2 h3, ho⟩
     have nx := next hs
     unfold erS at nx
     unfold outJ at ho
     unfold erT
     generalize tri L R p = T at *
     exact .to mo_ [] [0, 1, 5, 6, 7, 52, 53, 54] [] 0 [ye hx, .sel _ _ _ e1, inc 88 j (by omega), .eqv 89 _ _ r1, .sel _ _ _ e2, nI 93 (fX L R), .sel _ _ _ e3, cl c, ye ho, inc 102 i (by omega)] nx (by kernel_rfl)
   | false =>
     have nx := ih (j + 1) ⟨h3, fun t ht => by
      rcases Nat.lt_or_ge t j with h5 | h5
      · exact hall t h5
      · have : t = j := by omega
        subst this
        exact ho⟩ (by omega)
     unfold outJ at ho
     unfold erT at nx ⊢
     generalize tri L R p = T at *
     exact .to mo_ [] [0, 1, 5, 6, 7, 9, 52, 53, 54, 78, 79] [] 0 [ye hx, .sel _ _ _ e1, inc 88 j (by omega), .eqv 89 _ _ r1, .sel _ _ _ e2, nI 93 (fX L R), .sel _ _ _ e3, cl c, na ho, inc 101 j (by omega)] nx (by kernel_rfl)
 · have : j = 3 := by omega
   subst this
   have hs : skip L R p (md R i) = false := by
    unfold skip
    rw [hpre, Bool.false_or]
    cases e : (List.range 3).any (outJ (tri L R p) (ld L (md R i))) with
    | false => rfl
    | true =>
     rw [List.any_eq_true] at e
     obtain ⟨t, ht, e⟩ := e
     rw [hall t (List.mem_range.1 ht)] at e
     cases e
   rw [ear_no hi hs]
   exact fi [nf] (by kernel_rfl) (by kernel_rfl)
theorem e_ear (h : Rm L R b) (hp : p < R.length) : Pure PP 157 [.ip (fX L R), ni (p : Int)] (bo (earB L R p)) := by
 have hn := h.n
 have hpv := h.cyc (p + R.length - 1)
 have hnx := h.cyc (p + 1 + R.length)
 have hmd := h.md hp
 have c1 := e_sd h hp
 by_cases hs : sdR L R p ≤ 0
 · have : earB L R p = false := by unfold earB; rw [decide_eq_false (by omega)]; rfl
   rw [this]
   exact tr [cl c1, ye (t := decide (sdR L R p ≤ 0)) (decide_eq_true hs)] (by kernel_rfl)
 · have loop : GE L R p (lp fer 0) (erS L R p 0 []) := by
    refine Gd.loop (fun i => erS L R p i []) (fun i => i ≤ R.length ∧ ∀ t, t < i → skip L R p (md R t) = true) (fun i => R.length - i) ?_ 0 ⟨Nat.zero_le _, fun t ht => by omega⟩
    intro i ⟨hi, hall⟩ ih
    by_cases h3 : i < R.length
    · have hx : decide ((i : Int) < (R.length : Int)) = true := decide_eq_true (by omega)
      have e1 := cI_at h3
      have next : skip L R p (md R i) = true → GE L R p (lp fer 0) (erS L R p (i + 1) []) := fun hk => ih (i + 1) ⟨h3, fun t ht => by
       rcases Nat.lt_or_ge t i with h5 | h5
       · exact hall t h5
       · have : t = i := by omega
         subst this
         exact hk⟩ (by omega)
      have q1 := nat_eq (md R i) (pv R p)
      have q2 := nat_eq (md R i) (nx R p)
      have q3 := nat_eq (md R i) (md R p)
      have em := cI_at hp
      cases g1 : decide (md R i = pv R p) with
      | true =>
        have nx := next (by unfold skip; rw [g1]; rfl)
        unfold erS at nx ⊢
        exact .to mo_ [] [0, 1, 5, 6, 7, 52, 53, 54] [] 0 [ye hx, .sel _ _ _ e1, ye (q1.trans g1), yt, yt, inc 102 i (by omega)] nx (by kernel_rfl)
      | false =>
        cases g2 : decide (md R i = nx R p) with
        | true =>
          have nx := next (by unfold skip; rw [g1, g2]; rfl)
          unfold erS at nx ⊢
          exact .to mo_ [] [0, 1, 5, 6, 7, 52, 53, 54] [] 0 [ye hx, .sel _ _ _ e1, na (q1.trans g1), ye (q2.trans g2), yt, inc 102 i (by omega)] nx (by kernel_rfl)
        | false =>
          cases g3 : decide (md R i = md R p) with
          | true =>
            have nx := next (by unfold skip; rw [g1, g2, g3]; rfl)
            unfold erS at nx ⊢
            exact .to mo_ [] [0, 1, 5, 6, 7, 52, 53, 54] [] 0 [ye hx, .sel _ _ _ e1, na (q1.trans g1), na (q2.trans g2), nI 69 (fX L R), .sel _ _ _ em, ye (q3.trans g3), inc 102 i (by omega)] nx (by kernel_rfl)
          | false =>
            have nn := er_in h hp h3 (by rw [g1, g2, g3]; rfl) next
            unfold erT at nn
            unfold erS
            exact .to mo_ [] [0, 1, 5, 6, 7, 9, 52, 53, 54, 78, 79] [] 0 [ye hx, .sel _ _ _ e1, na (q1.trans g1), na (q2.trans g2), nI 69 (fX L R), .sel _ _ _ em, na (q3.trans g3)] nn (by kernel_rfl)
    · have : i = R.length := by omega
      subst this
      have hx : decide ((R.length : Int) < (R.length : Int)) = false := decide_eq_false (by omega)
      show Gd PP _ (.v (bo (earB L R p))) _ _
      rw [ear_yes (by omega) hall]
      unfold erS
      exact fi [na hx] (by kernel_rfl) (by kernel_rfl)
   unfold erS at loop
   exact pf (by kernel_rfl) (.to mo_ [] [0, 1, 5, 6, 7, 52, 53, 54] [] 0 [cl c1, na (t := decide (sdR L R p ≤ 0)) (decide_eq_false hs), cl (e_around h hp), nI 22 (fX L R), .sel _ _ _ (ld_at hpv), nI 29 (fX L R), nI 33 (fX L R), .sel _ _ _ (cI_at hp), .sel _ _ _ (ld_at hmd), nI 42 (fX L R), .sel _ _ _ (ld_at hnx), .ro, nI 50 (fX L R), .eqv 53 (ni ((zs (cI R)).length : Int)) (ni (R.length : Int)) (by rw [cI_len])] loop (by kernel_rfl))
end
end Go.Proofs.YtnpdpjfdgialeaaGreatDoor.E.Pc
namespace Go.Proofs.YtnpdpjfdgialeaaGreatDoor.E.Pc
open Go.RowKit
set_option linter.unusedVariables false
set_option linter.unusedSimpArgs false
def flatB (L : List Vc) (R : List Nat) (p : Nat) : Bool := sdR L R p == 0
/-- The first flat corner. -/
def flatP (L : List Vc) (R : List Nat) : Option Nat := (List.range R.length).find? (flatB L R)
def clearF (L : List Vc) : Nat → List Nat → List Nat
 | 0, R => R
 | n + 1, R => if 3 < R.length then (match flatP L R with | some p => clearF L n (R.eraseIdx p) | none => R) else R
def clearR (L : List Vc) (R : List Nat) : List Nat := clearF L R.length R
def optI : Option Nat → Int
 | some p => p
 | none => -1
section
variable {L : List Vc} {R : List Nat} {b p q m i j : Nat} {k : Int}
theorem find_some (hi : i < m) {f : Nat → Bool} (h : f i = true) (hp : ∀ t, t < i → f t = false) : (List.range m).find? f = some i := by
 rw [List.find?_eq_some_iff_append]
 refine ⟨h, List.range i, (List.range (m - i - 1)).map (· + (i + 1)), ?_, fun a ha => by rw [hp a (List.mem_range.1 ha)]; rfl⟩
 apply List.ext_getElem?
 intro n
 rcases Nat.lt_trichotomy n i with h1 | h1 | h1
 · rw [List.getElem?_append_left (by simpa using h1), List.getElem?_range (by omega), List.getElem?_range h1]
 · subst h1
   rw [List.getElem?_append_right (by simp), List.getElem?_range hi]
   simp
 · rw [List.getElem?_append_right (by simp; omega), List.length_range]
   obtain ⟨d, rfl⟩ : ∃ d, n = i + 1 + d := ⟨n - i - 1, by omega⟩
   rw [show i + 1 + d - i = d + 1 by omega, List.getElem?_cons_succ, List.getElem?_map]
   by_cases h2 : i + 1 + d < m
   · rw [List.getElem?_range h2, List.getElem?_range (by omega)]
     simp; omega
   · rw [List.getElem?_eq_none (by simp; omega), List.getElem?_eq_none (by simp; omega)]
     rfl
theorem find_none {f : Nat → Bool} (h : ∀ t, t < m → f t = false) : (List.range m).find? f = none := by
 rw [List.find?_eq_none]
 intro x hx
 rw [h x (List.mem_range.1 hx)]
 simp
theorem md_ne (hd : R.Nodup) (h1 : i < R.length) (h2 : j < R.length) (h : i ≠ j) : md R i ≠ md R j := by
 unfold md
 rw [List.getD_eq_getElem?_getD, List.getD_eq_getElem?_getD, List.getElem?_eq_getElem h1, List.getElem?_eq_getElem h2]
 intro e
 exact h ((List.getElem_inj hd).1 e)
noncomputable abbrev fsi : Func := fnOf PP 192
theorem e_index (h : Rm L R b) (hd : R.Nodup) (hp : p < R.length) : Pure PP 192 [zl (cI R), ni ((md R p : Nat) : Int)] (ni (p : Int)) := by
 have hn := h.n
 let X : Nat → St := fun i => at_ fsi [(0, zl (cI R)), (1, ni ((md R p : Nat) : Int)), (7, ni (R.length : Int)), (8, ni (i : Int))] []
 refine pf (by kernel_rfl) (.to mo_ [] [0, 1, 7, 8] [] 0 [.eqv 7 (ni ((zs (cI R)).length : Int)) (ni (R.length : Int)) (by rw [cI_len])] (td' := lp fsi 0) (σ' := X 0) ?_ (by kernel_rfl))
 refine Gd.loop X (fun i => i ≤ p) (fun i => p - i) ?_ 0 (Nat.zero_le _)
 intro i hi ih
 have hx : decide ((i : Int) < (R.length : Int)) = true := decide_eq_true (by omega)
 have e := cI_at (R := R) (p := i) (by omega)
 have q := nat_eq (md R p) (md R i)
 by_cases g : i = p
 · subst g
   rw [decide_eq_true rfl] at q
   exact fi [ye hx, .sel _ _ _ e, ye q] (by kernel_rfl) (by kernel_rfl)
 · rw [decide_eq_false (md_ne hd hp (by omega) (fun e => g e.symm))] at q
   exact .to mo_ [] [0, 1, 7, 8] [] 0 [ye hx, .sel _ _ _ e, na q, inc 18 i (by omega)] (ih (i + 1) (by omega) (by omega)) (by kernel_rfl)
theorem e_clr1 (h : Rm L R b) (hd : R.Nodup) (hp : p < R.length) : Pure PP 191 [ni ((md R p : Nat) : Int), .ip [.ip (fX L R)]] (bo (flatB L R p)) :=
 tr [nI 6 (fX L R), cl (e_index h hd hp), cl (e_sd h hp)] (by kernel_rfl)
noncomputable abbrev fsx : Func := fnOf PP 172
theorem e_indexF (h : Rm L R b) (hd : R.Nodup) : Pure PP 172 [zl (cI R), .cl 191 [.ip [.ip (fX L R)]]] (ni (optI (flatP L R))) := by
 have hn := h.n
 let X : Nat → St := fun i => at_ fsx [(0, zl (cI R)), (1, .cl 191 [.ip [.ip (fX L R)]]), (7, ni (R.length : Int)), (8, ni (i : Int))] []
 refine pf (by kernel_rfl) (.to mo_ [] [0, 1, 7, 8] [] 0 [.eqv 7 (ni ((zs (cI R)).length : Int)) (ni (R.length : Int)) (by rw [cI_len])] (td' := lp fsx 0) (σ' := X 0) ?_ (by kernel_rfl))
 refine Gd.loop X (fun i => i ≤ R.length ∧ ∀ t, t < i → flatB L R t = false) (fun i => R.length - i) ?_ 0 ⟨Nat.zero_le _, fun t ht => by omega⟩
 intro i ⟨hi, hall⟩ ih
 by_cases g : i < R.length
 · have hx : decide ((i : Int) < (R.length : Int)) = true := decide_eq_true (by omega)
   have e := cI_at g
   have c := e_clr1 h hd g
   cases hf : flatB L R i with
   | true =>
     rw [hf] at c
     have : flatP L R = some i := find_some g hf hall
     rw [this]
     exact fi [ye hx, .sel _ _ _ e, cl c, yt] (by kernel_rfl) (by kernel_rfl)
   | false =>
     rw [hf] at c
     exact .to mo_ [] [0, 1, 7, 8] [] 0 [ye hx, .sel _ _ _ e, cl c, nf, inc 18 i (by omega)] (ih (i + 1) ⟨g, fun t ht => by
      rcases Nat.lt_or_ge t i with h5 | h5
      · exact hall t h5
      · have : t = i := by omega
        subst this
        exact hf⟩ (by omega)) (by kernel_rfl)
 · have : i = R.length := by omega
   subst this
   have hx : decide ((R.length : Int) < (R.length : Int)) = false := decide_eq_false (by omega)
   have : flatP L R = none := find_none hall
   rw [this]
   exact fi [na hx] (by kernel_rfl) (by kernel_rfl)
end
end Go.Proofs.YtnpdpjfdgialeaaGreatDoor.E.Pc
namespace Go.Proofs.YtnpdpjfdgialeaaGreatDoor.E.Pc
open Go.RowKit
set_option linter.unusedVariables false
set_option linter.unusedSimpArgs false
def oA (L : List Vc) (R : List Nat) : List HO := [.bx 187 (dL L :: [.ow 1]), .rw 3 1 (zs (cI R))]
def oB (L : List Vc) (R : List Nat) : List HO := [.bx 187 (dL L :: [.ow 3]), .dead, .bx 184 [.lp 0 0], .rw 3 1 (zs (cI R))]
section
variable {L : List Vc} {R : List Nat} {b p q m n i j : Nat} {k : Int}
theorem cI_erase (R : List Nat) (p : Nat) : (cI R).eraseIdx p = cI (R.eraseIdx p) := by
 unfold cI
 rw [List.eraseIdx_eq_take_drop_succ, List.eraseIdx_eq_take_drop_succ, List.map_append, List.map_take, List.map_drop]
theorem e_del' (hp : p < R.length) : PureT PP 183 [.rw 3 1 (zs (cI R))] [.ow 0, ni (p : Int), ni ((p + 1 : Nat) : Int)] (.io 1 [.dead, .rw 3 1 (zs (cI (R.eraseIdx p)))] (.ow 1)) := by
 have := e_del (l := cI R) (p := p) (by unfold cI; rwa [List.length_map])
 rwa [cI_erase] at this
theorem Rm.erase (h : Rm L R b) (hp : p < R.length) (h2 : 1 < R.length) : Rm L (R.eraseIdx p) b := ⟨fun x hx => h.r x (List.mem_of_mem_eraseIdx hx), by rw [List.length_eraseIdx_of_lt hp]; have := h.n; omega, h.l, h.hb⟩
theorem nd_erase (hd : R.Nodup) : (R.eraseIdx p).Nodup := hd.sublist (List.eraseIdx_sublist ..)
theorem flat_lt (h : flatP L R = some p) : p < R.length := List.mem_range.1 (List.mem_of_find?_eq_some h)
noncomputable abbrev fcr : Func := fnOf PP 184
theorem gt_3 (R : List Nat) : decide ((R.length : Int) > 3) = decide (3 < R.length) := by
 by_cases h : 3 < R.length
 · rw [decide_eq_true h, decide_eq_true (by omega)]
 · rw [decide_eq_false h, decide_eq_false (by omega)]
theorem clear_end (h : ¬ 3 < R.length) : clearF L n R = R := by
 cases n with
 | zero => rfl
 | succ n => unfold clearF; rw [if_neg h]
theorem clear_no (hf : flatP L R = none) : clearF L n R = R := by
 cases n with
 | zero => rfl
 | succ n =>
  unfold clearF
  rw [hf]
  split <;> rfl
noncomputable def clS (L : List Vc) (R : List Nat) : St := at_ fcr [(1, .lp 2 0)] (oB L R)
/-- The rounds behind the first. -/
theorem cl_rest {T : List Nat} : ∀ (n : Nat) (R : List Nat), Rm L R b → R.Nodup → R.length ≤ n → clearF L n R = T → Gd PP 184 (.io 2 (oB L T) (.tu [])) (lp fcr 0) (clS L R) := by
 intro n
 induction n with
 | zero => intro R h hd hn; have := h.n; omega
 | succ n ih =>
  intro R h hd hn hT
  have c := e_indexF h hd
  have q := gt_3 R
  by_cases h3 : 3 < R.length
  · rw [decide_eq_true h3] at q
    cases hf : flatP L R with
    | none =>
      rw [clear_no hf] at hT
      subst hT
      rw [hf] at c
      unfold clS
      exact fi [nL 4 0, .eqv 7 (ni ((zs (cI R)).length : Int)) (ni (R.length : Int)) (by rw [cI_len]), ye q, nL 10 0, cl c, yt] (by kernel_rfl) (by kernel_rfl)
    | some p =>
      have hp := flat_lt hf
      have e : clearF L (n + 1) R = clearF L n (R.eraseIdx p) := by
       show (if 3 < R.length then (match flatP L R with | some p => clearF L n (R.eraseIdx p) | none => R) else R) = _
       rw [if_pos h3, hf]
      rw [hf] at c
      have nx := ih (R.eraseIdx p) (h.erase hp (by omega)) (nd_erase hd) (by rw [List.length_eraseIdx_of_lt hp]; omega) (e.symm.trans hT)
      have d := e_del' hp
      have hneg : decide ((p : Int) < 0) = false := decide_eq_false (by omega)
      have hn2 := h.n
      unfold clS at nx ⊢
      unfold oB at nx ⊢
      exact .to mo_ [.mv 3 4] [1] [0, 2, 3] 4 [nL 4 0, .eqv 7 (ni ((zs (cI R)).length : Int)) (ni (R.length : Int)) (by rw [cI_len]), ye q, nL 10 0, cl c, na hneg, nL 19 0, inc 24 p (by omega), .lend _ _ _ _ [3] d, nL 26 0] nx (by kernel_rfl)
  · rw [decide_eq_false h3] at q
    rw [clear_end h3] at hT
    subst hT
    unfold clS
    exact fi [nL 4 0, .eqv 7 (ni ((zs (cI R)).length : Int)) (ni (R.length : Int)) (by rw [cI_len]), na q] (by kernel_rfl) (by kernel_rfl)
theorem e_clear (h : Rm L R b) (hd : R.Nodup) : (clearR L R = R ∧ PureT PP 184 (oA L R) [.lp 0 0] (.io 2 (oA L R) (.tu []))) ∨ PureT PP 184 (oA L R) [.lp 0 0] (.io 2 (oB L (clearR L R)) (.tu [])) := by
 have c := e_indexF h hd
 have q := gt_3 R
 have hn := h.n
 have X0 : St := at_ fcr [(1, .lp 2 0)] (oA L R ++ [.bx 184 [.lp 0 0]])
 by_cases h3 : 3 < R.length
 · rw [decide_eq_true h3] at q
   cases hf : flatP L R with
   | none =>
     rw [hf] at c
     refine .inl ⟨clear_no hf, pfT (by kernel_rfl) (.to mo_ [] [1] [0, 1, 2] 3 [] (td' := lp fcr 0) (σ' := at_ fcr [(1, .lp 2 0)] (oA L R ++ [.bx 184 [.lp 0 0]])) ?_ (by kernel_rfl))⟩
     exact fi [nL 4 0, .eqv 7 (ni ((zs (cI R)).length : Int)) (ni (R.length : Int)) (by rw [cI_len]), ye q, nL 10 0, cl c, yt] (by kernel_rfl) (by kernel_rfl)
   | some p =>
     have hp := flat_lt hf
     obtain ⟨n, hn1⟩ : ∃ n, R.length = n + 1 := ⟨R.length - 1, by omega⟩
     have e : clearR L R = clearF L n (R.eraseIdx p) := by
      unfold clearR
      rw [hn1]
      show (if 3 < R.length then (match flatP L R with | some p => clearF L n (R.eraseIdx p) | none => R) else R) = _
      rw [if_pos h3, hf]
     rw [hf] at c
     have nx := cl_rest n (R.eraseIdx p) (h.erase hp (by omega)) (nd_erase hd) (by rw [List.length_eraseIdx_of_lt hp]; omega) e.symm
     have d := e_del' hp
     have hneg : decide ((p : Int) < 0) = false := decide_eq_false (by omega)
     refine .inr (pfT (by kernel_rfl) (.to mo_ [] [1] [0, 1, 2] 3 [] (td' := lp fcr 0) (σ' := at_ fcr [(1, .lp 2 0)] (oA L R ++ [.bx 184 [.lp 0 0]])) ?_ (by kernel_rfl)))
     unfold clS at nx
     unfold oB at nx ⊢
     unfold oA
     exact .to mo_ [] [1] [0, 2, 3] 4 [nL 4 0, .eqv 7 (ni ((zs (cI R)).length : Int)) (ni (R.length : Int)) (by rw [cI_len]), ye q, nL 10 0, cl c, na hneg, nL 19 0, inc 24 p (by omega), .lend _ _ _ _ [1] d, nL 26 0] nx (by kernel_rfl)
 · rw [decide_eq_false h3] at q
   refine .inl ⟨clear_end h3, pfT (by kernel_rfl) (.to mo_ [] [1] [0, 1, 2] 3 [] (td' := lp fcr 0) (σ' := at_ fcr [(1, .lp 2 0)] (oA L R ++ [.bx 184 [.lp 0 0]])) ?_ (by kernel_rfl))⟩
   exact fi [nL 4 0, .eqv 7 (ni ((zs (cI R)).length : Int)) (ni (R.length : Int)) (by rw [cI_len]), na q] (by kernel_rfl) (by kernel_rfl)
end
end Go.Proofs.YtnpdpjfdgialeaaGreatDoor.E.Pc
namespace Go.Proofs.YtnpdpjfdgialeaaGreatDoor.E.Pc
open Go.RowKit
set_option linter.unusedVariables false
set_option linter.unusedSimpArgs false
def trV (R : List Nat) (p : Nat) : List V := [ni ((pv R p : Nat) : Int), ni ((md R p : Nat) : Int), ni ((nx R p : Nat) : Int)]
def cA (L : List Vc) (R T : List Nat) (p : Nat) : List HO := [.bx 187 (dL L :: [.ow 4]), .dead, .bx 154 (trV R p), .bx 154 (trV R p), .rw 3 1 (zs (cI T))]
def cB (L : List Vc) (R T : List Nat) (p : Nat) : List HO := [.bx 187 (dL L :: [.ow 6]), .dead, .bx 154 (trV R p), .bx 154 (trV R p), .dead, .bx 184 [.lp 0 0], .rw 3 1 (zs (cI T))]
section
variable {L : List Vc} {R : List Nat} {b p q m n i j : Nat} {k : Int}
theorem e_cut (h : Rm L R b) (hd : R.Nodup) (hp : p < R.length) (h3 : 3 < R.length) : PureT PP 158 (oA L R) [.lp 0 0, ni (p : Int)] (.io 2 (cA L R (clearR L (R.eraseIdx p)) p) (.ag (trV R p))) ∨ PureT PP 158 (oA L R) [.lp 0 0, ni (p : Int)] (.io 2 (cB L R (clearR L (R.eraseIdx p)) p) (.ag (trV R p))) := by
 have hn := h.n
 have d := e_del' hp
 have em := cI_at hp
 have ca := e_around h hp
 rcases e_clear (h.erase hp (by omega)) (nd_erase (p := p) hd) with ⟨e, c⟩ | c
 · rw [e]
   refine .inl (trT [cl ca, nL 16 0, .sel _ _ _ em, .sel _ _ _ em, nL 26 0, inc 31 p (by omega), .lend _ _ _ _ [1] d, nL 33 0, .lend _ _ _ _ [0, 4] c] (by kernel_rfl))
 · refine .inr (trT [cl ca, nL 16 0, .sel _ _ _ em, .sel _ _ _ em, nL 26 0, inc 31 p (by omega), .lend _ _ _ _ [1] d, nL 33 0, .lend _ _ _ _ [0, 4] c] (by kernel_rfl))
noncomputable abbrev fal : Func := fnOf PP 156
theorem cI_app (k : Nat) : zs (cI (List.range k)) ++ zs [(k : Int)] = zs (cI (List.range (k + 1))) := by
 unfold cI zs
 rw [List.range_succ, List.map_append, List.map_append]
 rfl
theorem e_all (h0 : L.length ≤ 1000) : PureT PP 156 [] [dL L] (.io 0 (oA L (List.range L.length)) (.lp 0 0)) := by
 have hl : (L.map dV).length = L.length := List.length_map ..
 let X : Nat → St := fun k => at_ fal [(0, dL L), (3, .lp 0 0), (9, ni (L.length : Int)), (10, ni (k : Int))] (oA L (List.range k))
 refine pfT (by kernel_rfl) (.to mo_ [.oc 0 1 (.rw 3 1 [])] [0, 3, 9, 10] [0, 1] 2 [.eqv 9 (ni ((L.map dV).length : Int)) (ni (L.length : Int)) (by rw [hl])] (td' := lp fal 0) (σ' := X 0) ?_ (by kernel_rfl))
 refine Gd.loop X (fun k => k ≤ L.length) (fun k => L.length - k) ?_ 0 (Nat.zero_le _)
 intro k hk ih
 by_cases g : k < L.length
 · have hx : decide ((k : Int) < (L.length : Int)) = true := decide_eq_true (by omega)
   have nx := ih (k + 1) (by omega) (by omega)
   have hap := cI_app k
   have hlen := cI_len (List.range (k + 1))
   rw [List.length_range] at hlen
   simp only [X, oA] at nx ⊢
   generalize zs (cI (List.range k)) = A at *
   generalize zs (cI (List.range (k + 1))) = B at *
   exact .to mo_ [.mv 1 3] [0, 3, 9, 10] [0, 1] 2 [ye hx, nL 15 0, .app A (zs [(k : Int)]) B 1000 hap (show 0 < 1 by decide) (by omega), nL 21 0, inc 23 k (by omega)] nx (by kernel_rfl)
 · have : k = L.length := by omega
   subst this
   have hx : decide ((L.length : Int) < (L.length : Int)) = false := decide_eq_false (by omega)
   exact fi [na hx] (by kernel_rfl) (by kernel_rfl)
end
end Go.Proofs.YtnpdpjfdgialeaaGreatDoor.E.Pc
namespace Go.Proofs.YtnpdpjfdgialeaaGreatDoor.E.Pc
open Go.RowKit
set_option linter.unusedVariables false
set_option linter.unusedSimpArgs false
/-- The ear that is cut off. -/
def earP (L : List Vc) (R : List Nat) : Nat := ((List.range (R.length - 1)).find? (earB L R)).getD (R.length - 1)
def cutF (L : List Vc) : Nat → List Nat → List (List Nat)
 | 0, R => [R]
 | n + 1, R => if 3 < R.length then [pv R (earP L R), md R (earP L R), nx R (earP L R)] :: cutF L n (clearR L (R.eraseIdx (earP L R))) else [R]
def cutL (L : List Vc) : List (List Nat) := cutF L L.length (List.range L.length)
def oR (ts : List (List Nat)) : List (List V) := ts.map fun t => t.map fun (x : Nat) => ni (x : Int)
section
variable {L : List Vc} {R : List Nat} {b p q m n i j : Nat} {k : Int}
theorem clear_inv : ∀ (n : Nat) (R : List Nat), Rm L R b → R.Nodup → 3 ≤ R.length → Rm L (clearF L n R) b ∧ (clearF L n R).Nodup ∧ 3 ≤ (clearF L n R).length ∧ (clearF L n R).length ≤ R.length
 | 0, R, h, hd, h3 => ⟨h, hd, h3, Nat.le_refl _⟩
 | n + 1, R, h, hd, h3 => by
  unfold clearF
  split
  · rename_i h4
    split
    · rename_i p hf
      have hp := flat_lt hf
      obtain ⟨a1, a2, a3, a4⟩ := clear_inv n (R.eraseIdx p) (h.erase hp (by omega)) (nd_erase hd) (by rw [List.length_eraseIdx_of_lt hp]; omega)
      exact ⟨a1, a2, a3, by rw [List.length_eraseIdx_of_lt hp] at a4; omega⟩
    · exact ⟨h, hd, h3, Nat.le_refl _⟩
  · exact ⟨h, hd, h3, Nat.le_refl _⟩
def mkSap (T : TypeId) (xs : List Operand) : Op := .sliceToArrayPointer T (xs.getD 0 (.tmp 0))
/-- A row as an array. -/
theorem x_sap {P : Program} {T e : TypeId} (l : List Int) (hT : P.underlying T = some (.array l.length e)) (h0 : 0 < l.length) : Ext P (mkSap T) [zl l] [] [] (.ip (l.map fun x => ni x)) := by
 intro B M h m w a o xs ho K hl hr _ _
 obtain ⟨x, rfl⟩ := one_of hl
 have hx := hr 0 x _ rfl rfl
 generalize hu : a.eval x = u at hx
 have hzl : zl l = .sl (zs l) := rfl
 rw [hzl] at hx
 generalize hz : zs l = Z at hx
 have hlen : Z.length = l.length := by rw [← hz, zs_len]
 cases hx with
 | sl _ ad b off cc z _ us h1 h2 h3 h4 h5 h6 =>
  obtain ⟨rfl, hA, hC⟩ := h3 (by omega)
  have hz1 : z = 1 := by
   have hm : Z[0]'(by omega) ∈ Z := List.getElem_mem _
   have := h4 _ hm
   rw [← this]
   subst hz
   simp [zs]
  subst hz1
  have hrun := run_arrayAt (P := P) (w := w) T e l.length (some ⟨b, off, none⟩) Z.length cc hT (by omega)
  refine Exec.val (u := .pointer (some ⟨b, off, none⟩)) (w' := w) ?_ (.same K ?_)
  · simp only [mkSap, List.getD_cons_zero] at ho
    simp [execOp, ho, hu, hrun]
  · refine .ip _ b off _ (fun j => us j 0) hA hC (fun j y hy => ?_) (fun j y hy => ?_)
    · rw [List.getElem?_map] at hy
      have hj : j < l.length := by
       rcases Nat.lt_or_ge j l.length with h | h
       · exact h
       · rw [List.getElem?_eq_none h] at hy; cases hy
      have e := zs_at (l := l) (List.getElem?_eq_getElem hj)
      rw [hz] at e
      have := h5 j 0 _ _ e rfl
      simpa using this
    · rw [List.getElem?_map] at hy
      have hj : j < l.length := by
       rcases Nat.lt_or_ge j l.length with h | h
       · exact h
       · rw [List.getElem?_eq_none h] at hy; cases hy
      rw [List.getElem?_eq_getElem hj] at hy
      injection hy with hy
      subst hy
      have e := zs_at (l := l) (List.getElem?_eq_getElem hj)
      rw [hz] at e
      exact h6 j 0 _ _ e rfl
noncomputable abbrev fct : Func := fnOf PP 119
noncomputable abbrev GC (T : List (List Nat)) (td : List Item) (σ : St) : Prop := Gd PP 119 (.v (.tu [.sl (oR T), ni 0])) td σ
noncomputable def ctS (L : List Vc) (R : List Nat) (A : List (List V)) (m : List (Nat × V)) : St := at_ fct ([(0, dL L), (4, .lp 0 0), (5, .ow 2)] ++ m) (oA L R ++ [.rw 154 3 A])
theorem oR_app (A : List (List Nat)) (t : List Nat) : oR A ++ [t.map fun (x : Nat) => ni (x : Int)] = oR (A ++ [t]) := by unfold oR; rw [List.map_append]; rfl
theorem three_of {R : List Nat} (h : R.length = 3) : ∃ a b c, R = [a, b, c] := by
 match R, h with
 | [a, b, c], _ => exact ⟨a, b, c, rfl⟩
/-- The last triangle. -/
theorem ct_end {A : List (List Nat)} (h : Rm L R b) (h3 : R.length = 3) (hA : A.length ≤ 1000) : GC (A ++ [R]) (lp fct 0) (ctS L R (oR A) []) := by
 obtain ⟨x, y, z, rfl⟩ := three_of h3
 have hap := oR_app A [x, y, z]
 have hle : (oR A).length = A.length := List.length_map ..
 have sp := x_sap (P := PP) (T := 154) (e := 3) (cI [x, y, z]) (by kernel_rfl) (show 0 < 3 by decide)
 unfold GC
 rw [← hap]
 have hl2 : (oR A ++ [[x, y, z].map fun (x : Nat) => ni (x : Int)]).length ≤ 2000 := by rw [List.length_append, hle]; simp; omega
 unfold ctS
 generalize oR A = B at *
 refine .to mo_ [.fz 4] [4, 5] [2] 3 [nL 13 0, .eqv 16 (ni ((zs (cI [x, y, z])).length : Int)) (ni 3) rfl, nf] (td' := rg fct 10) (σ' := at_ fct [(4, .ip (fX L [x, y, z])), (5, .ow 2)] [.dead, .dead, .rw 154 3 B]) ?_ (by kernel_rfl)
 exact fi [nI 42 (fX L [x, y, z]), .ext (some 45) _ _ _ _ _ sp, .app B [[x, y, z].map fun (x : Nat) => ni (x : Int)] _ 2000 rfl (show 0 < 1 by decide) hl2] (by kernel_rfl) (by kernel_rfl)
end
end Go.Proofs.YtnpdpjfdgialeaaGreatDoor.E.Pc
