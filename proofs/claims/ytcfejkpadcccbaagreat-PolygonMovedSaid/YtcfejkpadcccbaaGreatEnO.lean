/-
 CONTRACTS of the elder kind, by the engine.
-/
import Derived.Test.YtcfejkpadcccbaaGreatEnU
import Derived.Test.YtcfejkpadcccbaaGreatPgZ
import Derived.Test.YtcfejkpadcccbaaGreatWalkPgD
import Derived.Test.YtcfejkpadcccbaaGreatWalkPlB
namespace Go.Proofs.YtcfejkpadcccbaaGreat.E
open Go.RowKit
set_option linter.unusedVariables false
section
variable {n : Int} {l : List Int} {i m : Nat} {s : Bool} {P : Program}
/-- The integers of a law's list. -/
def zs (l : List Int) : List (List V) := l.map fun x => [ni x]
def zl (l : List Int) : V := .sl (zs l)
theorem zs_el (h : i < l.length) : (zs l)[i]? = some [ni (l.getD i 0)] := by unfold zs; rw [List.getElem?_map, List.getD_eq_getElem?_getD, List.getElem?_eq_getElem h]; rfl
theorem wr_ {x : Int} (h : W.Is64 x) : IntKind.i64.wrap x = x := by unfold W.Is64 at h; rw [IntKind.wrap_i64]; omega
def eq64 (t : Nat) (x : Int) (h : W.Is64 x) : Fa s P := .eqv t (ni (IntKind.i64.wrap x)) (ni x) (by rw [wr_ h])
def rnd (n : Int) (m : Nat) : Int := (if n < 0 then -(n + 1) else n).tmod ((m + 1 : Nat) : Int)
theorem rnd_in (n : Int) (m : Nat) : 0 ≤ rnd n m ∧ rnd n m ≤ m := by
 unfold rnd
 have h : ∀ x : Int, 0 ≤ x → 0 ≤ x.tmod ((m + 1 : Nat) : Int) ∧ x.tmod ((m + 1 : Nat) : Int) ≤ m := fun x hx => ⟨Int.tmod_nonneg _ hx, by have := Int.tmod_lt_of_pos x (b := ((m + 1 : Nat) : Int)) (by omega); omega⟩
 split <;> exact h _ (by omega)
theorem e_around (hn : W.Is64 n) (m : Nat) : Pure false PP 35 [ni n, ni ((m + 1 : Nat) : Int)] (ni (rnd n m)) := by
 have h64 := hn
 unfold W.Is64 at hn
 unfold rnd
 by_cases h : n < 0
 · rw [if_pos h]
   exact tr [ye (t := decide (n < 0)) (decide_eq_true h), eq64 8 (n + 1) (by unfold W.Is64; omega), .eqv 9 (ni (IntKind.i64.wrap (0 - (n + 1)))) (ni (-(n + 1))) (by rw [wr_ (by unfold W.Is64; omega), Int.zero_sub])] (by kernel_rfl)
 · rw [if_neg h]
   exact tr [na (t := decide (n < 0)) (decide_eq_false h)] (by kernel_rfl)
def atz (l : List Int) (i m : Nat) : Int := if i < l.length then rnd (l.getD i 0) m else 0
theorem atz_in (l : List Int) (i m : Nat) : 0 ≤ atz l i m ∧ atz l i m ≤ m := by
 unfold atz
 split
 · exact rnd_in _ _
 · omega
theorem e_at (hl : ∀ x ∈ l, W.Is64 x) (i m : Nat) : Pure false PP 50 [zl l, ni i, ni ((m + 1 : Nat) : Int)] (ni (atz l i m)) := by
 have hz : (zs l).length = l.length := List.length_map ..
 unfold atz
 by_cases h : i < l.length
 · rw [if_pos h]
   have hx : W.Is64 (l.getD i 0) := hl _ (by rw [List.getD_eq_getElem?_getD, List.getElem?_eq_getElem h]; exact List.getElem_mem _)
   exact tr [na (t := decide ((i : Int) < 0)) (decide_eq_false (by omega)), na (t := decide (((zs l).length : Int) ≤ (i : Int))) (decide_eq_false (by omega)), .sel _ i _ (zs_el h), cl (e_around hx m)] (by kernel_rfl)
 · rw [if_neg h]
   exact tr [na (t := decide ((i : Int) < 0)) (decide_eq_false (by omega)), ye (t := decide (((zs l).length : Int) ≤ (i : Int))) (decide_eq_true (by omega))] (by kernel_rfl)
def spot (l : List Int) (a : Nat) : Rat × Rat := if atz l (a + 2) 1 = 0 then (Rat.divInt (atz l a 16 - 8) 1, Rat.divInt (atz l (a + 1) 16 - 8) 1) else (Rat.divInt (atz l a 32 - 16) 2, Rat.divInt (atz l (a + 1) 32 - 16) 2)
theorem bd7 {x : Int} (h0 : -100 ≤ x) (h1 : x ≤ 100) : I.Bd 7 x := by unfold I.Bd; simp; omega
theorem bv7 {x y z : Int} (h1 : -100 ≤ x ∧ x ≤ 100) (h2 : -100 ≤ y ∧ y ≤ 100) (h3 : 1 ≤ z ∧ z ≤ 100) : Bv 7 (Rat.divInt x z, Rat.divInt y z) := ⟨Bq.divInt (bd7 h1.1 h1.2) (bd7 (by omega) h3.2) (by omega), Bq.divInt (bd7 h2.1 h2.2) (bd7 (by omega) h3.2) (by omega)⟩
theorem spot_bits (l : List Int) (a : Nat) : Bv 7 (spot l a) := by
 have h1 := atz_in l a 16
 have h2 := atz_in l (a + 1) 16
 have h3 := atz_in l a 32
 have h4 := atz_in l (a + 1) 32
 unfold spot
 split <;> exact bv7 (by omega) (by omega) (by omega)
theorem i64 {x : Int} (h : -1000 ≤ x ∧ x ≤ 1000) : W.Is64 x := by unfold W.Is64; omega
theorem e_spot (hl : ∀ x ∈ l, W.Is64 x) (a : Nat) (ha : a ≤ 1000000) : Pure false PP 19 [zl l, ni a] (.ag (dV (spot l a))) := by
 have h0 := atz_in l (a + 2) 1
 have h1 := atz_in l a 16
 have h2 := atz_in l (a + 1) 16
 have h3 := atz_in l a 32
 have h4 := atz_in l (a + 1) 32
 have hq := e_at hl (a + 2) 1
 unfold spot
 by_cases g : atz l (a + 2) 1 = 0
 · rw [if_pos g]
   rw [g] at hq
   exact tr [inc2 8 a (by omega), cl hq, cl (e_at hl a 16), eq64 19 (atz l a 16 - 8) (i64 (by omega)), cl (e_of4 (x := atz l a 16 - 8) (y := 1) (i64 (by omega)) (i64 (by omega))), inc 24 a (by omega), cl (e_at hl (a + 1) 16), eq64 31 (atz l (a + 1) 16 - 8) (i64 (by omega)), cl (e_of4 (x := atz l (a + 1) 16 - 8) (y := 1) (i64 (by omega)) (i64 (by omega)))] (by kernel_rfl)
 · rw [if_neg g]
   rw [show atz l (a + 2) 1 = 1 by omega] at hq
   exact tr [inc2 8 a (by omega), cl hq, cl (e_at hl a 32), eq64 19 (atz l a 32 - 16) (i64 (by omega)), cl (e_of4 (x := atz l a 32 - 16) (y := 2) (i64 (by omega)) (i64 (by omega))), inc 24 a (by omega), cl (e_at hl (a + 1) 32), eq64 31 (atz l (a + 1) 32 - 16) (i64 (by omega)), cl (e_of4 (x := atz l (a + 1) 32 - 16) (y := 2) (i64 (by omega)) (i64 (by omega)))] (by kernel_rfl)
/-- The directions. -/
def wy : List (Int × Int) := [(4, 0), (4, 2), (3, 3), (2, 4), (0, 4), (-2, 4), (-3, 3), (-4, 2), (-4, 0), (-4, -2), (-3, -3), (-2, -4), (0, -4), (2, -4), (3, -3), (4, -2)]
def ways : List (List V) := wy.map fun p => [ni p.1, ni p.2]
theorem wy_in (i : Nat) : (-4 ≤ (wy.getD i (0, 0)).1 ∧ (wy.getD i (0, 0)).1 ≤ 4) ∧ -4 ≤ (wy.getD i (0, 0)).2 ∧ (wy.getD i (0, 0)).2 ≤ 4 := by
 have h : ∀ p ∈ wy, (-4 ≤ p.1 ∧ p.1 ≤ 4) ∧ -4 ≤ p.2 ∧ p.2 ≤ 4 := by decide
 rw [List.getD_eq_getElem?_getD]
 cases e : wy[i]? with
 | none => decide
 | some p => exact h p (List.mem_of_getElem? e)
theorem ways_el (h : i < 16) : ways[i]? = some [ni (wy.getD i (0, 0)).1, ni (wy.getD i (0, 0)).2] := by
 unfold ways
 rw [List.getElem?_map, List.getD_eq_getElem?_getD, List.getElem?_eq_getElem (show i < wy.length from h)]; rfl
theorem mul4 {x y : Int} (h : -4 ≤ x ∧ x ≤ 4) (h0 : 0 < y) (h1 : y < 4) : -12 ≤ x * y ∧ x * y ≤ 12 := by
 have : y = 1 ∨ y = 2 ∨ y = 3 := by omega
 rcases this with rfl | rfl | rfl <;> omega
def pnt (b : Rat × Rat) (p : Int × Int) (f : Int) : Rat × Rat := vadd b (Rat.divInt (p.1 * f) 2, Rat.divInt (p.2 * f) 2)
/-- The corners, laid one after the other. -/
def pol (f : Nat → Int) (b : Rat × Rat) : Nat → Nat → List (Rat × Rat) → List (Rat × Rat)
 | 0, _, M => M
 | n + 1, i, M => if M.length < 12 then pol f b n (i + 1) (if 0 < f i ∧ f i < 4 then M ++ [pnt b (wy.getD i (0, 0)) (f i)] else M) else M
def ctr (l : List Int) : Rat × Rat := (Rat.divInt (atz l 16 8 - 4) 1, Rat.divInt (atz l 17 8 - 4) 1)
def polO (l : List Int) : List (Rat × Rat) := pol (fun i => atz l i 5) (ctr l) 16 0 []
def polL (l : List Int) : List (Rat × Rat) := if Pg.valid (polO l) = true then polO l else Pg.kite (ctr l) (atz l 0 1)
theorem ctr_bits (l : List Int) : Bv 7 (ctr l) := by
 have h1 := atz_in l 16 8
 have h2 := atz_in l 17 8
 exact bv7 (by omega) (by omega) (by omega)
theorem pnt_bits {b : Rat × Rat} (hb : Bv 7 b) (i : Nat) {f : Int} (h0 : 0 < f) (h1 : f < 4) : Bv 15 (pnt b (wy.getD i (0, 0)) f) := by
 have g := wy_in i
 have g1 := mul4 g.1 h0 h1
 have g2 := mul4 g.2 h0 h1
 exact hb.add (bv7 (by omega) (by omega) (by omega))
theorem pol_bits (f : Nat → Int) {b : Rat × Rat} (hb : Bv 7 b) : ∀ n i M, (∀ a ∈ M, Bv 15 a) → ∀ a ∈ pol f b n i M, Bv 15 a
 | 0, _, M, h => h
 | n + 1, i, M, h => by
  unfold pol
  split
  · refine pol_bits f hb n (i + 1) _ ?_
    split
    · rename_i hf
      intro a ha
      rw [List.mem_append, List.mem_singleton] at ha
      rcases ha with ha | rfl
      · exact h a ha
      · exact pnt_bits hb i hf.1 hf.2
    · exact h
  · exact h
theorem polL_ok (l : List Int) : Pg.valid (polL l) = true ∧ ∀ a ∈ polL l, Bv 15 a := by
 have hc := ctr_bits l
 have h1 := atz_in l 0 1
 unfold polL
 split
 · rename_i h
   exact ⟨h, pol_bits _ hc _ _ _ (by simp)⟩
 · refine ⟨kite_valid _ h1.1 (by omega), fun a ha => ?_⟩
   simp only [Pg.kite, List.mem_cons, List.not_mem_nil, or_false] at ha
   have e : 7 + 7 + 1 = 15 := rfl
   rcases ha with rfl | rfl | rfl | rfl
   · exact hc.mono (by omega)
   · exact hc.add (bv7 (by omega) (by omega) (by omega))
   · exact hc.add (bv7 (by omega) (by omega) (by omega))
   · exact hc.add (bv7 (by omega) (by omega) (by omega))
theorem e_polygon (hl : ∀ x ∈ l, W.Is64 x) : Pure false PP 11 [zl l] (dL (polL l)) := by
 have hc := ctr_bits l
 have c1 := atz_in l 16 8
 have c2 := atz_in l 17 8
 let f : Nat → Int := fun i => atz l i 5
 let X : Nat × List (Rat × Rat) → St := fun x => at_ (fnOf PP 11) [(0, zl l), (3, .ow 0), (4, .lp 1 0), (5, .ow 2), (6, ni x.1)] [.rw 67 2 ways, .bx 35 (dV (ctr l)), .rw 35 8 (x.2.map dV)]
 refine pf (by kernel_rfl) (.to mo_ [.ow 5 (.rw 35 8 [])] [0, 3, 4, 5, 6] [0, 1, 2] 3 [cl (e_at hl 16 8), eq64 27 (atz l 16 8 - 4) (i64 (by omega)), cl (e_at hl 17 8), eq64 30 (atz l 17 8 - 4) (i64 (by omega)), cl (e_vof (x := atz l 16 8 - 4) (y := atz l 17 8 - 4) (i64 (by omega)) (i64 (by omega)))] (td' := lp (fnOf PP 11) 0) (σ' := X (0, [])) ?_ (by kernel_rfl))
 refine Gd.loop X (fun x => x.1 ≤ 16 ∧ x.2.length ≤ 12 ∧ pol f (ctr l) (16 - x.1) x.1 x.2 = polO l ∧ ∀ a ∈ x.2, Bv 15 a) (fun x => 16 - x.1) ?_ _ ⟨Nat.zero_le _, by simp, rfl, by simp⟩
 rintro ⟨i, M⟩ ⟨hi, hM, hp, hb⟩ ih
 simp only at hi hM hp hb
 have hml : (M.map dV).length = M.length := List.length_map ..
 by_cases h : i < 16 ∧ M.length < 12
 · obtain ⟨h, h2⟩ := h
   rw [show 16 - i = 15 - i + 1 by omega] at hp
   unfold pol at hp
   rw [if_pos h2] at hp
   have hf := atz_in l i 5
   let pre : List F_ := [ye (t := decide ((i : Int) < ((ways.length : Nat) : Int))) (decide_eq_true (by show (i : Int) < 16; omega)), ye (t := decide (((M.map dV).length : Int) < 12)) (decide_eq_true (by omega)), cl (e_at hl i 5)]
   by_cases g1 : 0 < f i
   · by_cases g2 : f i < 4
     · rw [if_pos ⟨g1, g2⟩] at hp
       have w0 := wy_in i
       have w1 := mul4 w0.1 g1 g2
       have w2 := mul4 w0.2 g1 g2
       exact .to mo_ [.mv 2 4] [0, 3, 4, 5, 6] [0, 1, 2] 3 (pre ++ [ye (t := decide (0 < f i)) (decide_eq_true g1), ye (t := decide (f i < 4)) (decide_eq_true g2), .sel ways i _ (ways_el h), .sel ways i _ (ways_el h), eq64 60 ((wy.getD i (0, 0)).1 * f i) (i64 (by omega)), cl (e_of4 (x := (wy.getD i (0, 0)).1 * f i) (y := 2) (i64 (by omega)) (i64 (by omega))), .sel ways i _ (ways_el h), .sel ways i _ (ways_el h), eq64 68 ((wy.getD i (0, 0)).2 * f i) (i64 (by omega)), cl (e_of4 (x := (wy.getD i (0, 0)).2 * f i) (y := 2) (i64 (by omega)) (i64 (by omega))), cl (e_vadd5 hc (bv7 (x := (wy.getD i (0, 0)).1 * f i) (y := (wy.getD i (0, 0)).2 * f i) (z := 2) (by omega) (by omega) (by omega)) (by omega)),
         .app (M.map dV) [dV (pnt (ctr l) (wy.getD i (0, 0)) (f i))] ((M ++ [pnt (ctr l) (wy.getD i (0, 0)) (f i)]).map dV) 100 (by simp) (by simp) (by simp; omega), inc 42 i (by omega)])
        (ih (i + 1, M ++ [pnt (ctr l) (wy.getD i (0, 0)) (f i)]) ⟨h, by simp; omega, by rw [show 16 - (i + 1) = 15 - i by omega]; exact hp, fun a ha => by
          rw [List.mem_append, List.mem_singleton] at ha
          rcases ha with ha | rfl
          · exact hb a ha
          · exact pnt_bits hc i g1 g2⟩ (by simp only; omega)) (by kernel_rfl)
     · rw [if_neg (fun e => g2 e.2)] at hp
       exact .to mo_ [] [0, 3, 4, 5, 6] [0, 1, 2] 3 (pre ++ [ye (t := decide (0 < f i)) (decide_eq_true g1), na (t := decide (f i < 4)) (decide_eq_false g2), inc 42 i (by omega)])
        (ih (i + 1, M) ⟨h, hM, by rw [show 16 - (i + 1) = 15 - i by omega]; exact hp, hb⟩ (by simp only; omega)) (by kernel_rfl)
   · rw [if_neg (fun e => g1 e.1)] at hp
     exact .to mo_ [] [0, 3, 4, 5, 6] [0, 1, 2] 3 (pre ++ [na (t := decide (0 < f i)) (decide_eq_false g1), nf, inc 42 i (by omega)])
      (ih (i + 1, M) ⟨h, hM, by rw [show 16 - (i + 1) = 15 - i by omega]; exact hp, hb⟩ (by simp only; omega)) (by kernel_rfl)
 · have hMe : M = polO l := by
    rw [← hp]
    by_cases h1 : i < 16
    · rw [show 16 - i = 15 - i + 1 by omega]
      unfold pol
      rw [if_neg (fun e => h ⟨h1, e⟩)]
    · rw [show 16 - i = 0 by omega]; rfl
   have hv := e_valid6 hb (by omega) (by omega)
   rw [valid_eq] at hv
   have h3 := atz_in l 0 1
   unfold polL
   rw [← hMe]
   let K : List F_ := [cl (e_vof (x := 4) (y := 0) (i64 (by omega)) (i64 (by omega))), cl (e_vadd5 hc (bv7 (x := 4) (y := 0) (z := 1) (by omega) (by omega) (by omega)) (by omega)), cl (e_at hl 0 1), eq64 84 (1 + atz l 0 1) (i64 (by omega)), cl (e_vof (x := 1 + atz l 0 1) (y := 3) (i64 (by omega)) (i64 (by omega))), cl (e_vadd5 hc (bv7 (x := 1 + atz l 0 1) (y := 3) (z := 1) (by omega) (by omega) (by omega)) (by omega)), cl (e_vof (x := 1) (y := 1) (i64 (by omega)) (i64 (by omega))), cl (e_vadd5 hc (bv7 (x := 1) (y := 1) (z := 1) (by omega) (by omega) (by omega)) (by omega))]
   by_cases h1 : i < 16
   · let A : List F_ := [ye (t := decide ((i : Int) < ((ways.length : Nat) : Int))) (decide_eq_true (by show (i : Int) < 16; omega)), na (t := decide (((M.map dV).length : Int) < 12)) (decide_eq_false (by omega)), cl hv]
     by_cases g : Pg.valid M = true
     · rw [if_pos g]
       exact fi (A ++ [ye g]) (by kernel_rfl) (by kernel_rfl)
     · rw [if_neg g]
       exact fi (A ++ na (Bool.not_eq_true _ ▸ g) :: K) (by kernel_rfl) (by kernel_rfl)
   · let A : List F_ := [na (t := decide ((i : Int) < ((ways.length : Nat) : Int))) (decide_eq_false (by show ¬ (i : Int) < 16; omega)), nf, cl hv]
     by_cases g : Pg.valid M = true
     · rw [if_pos g]
       exact fi (A ++ [ye g]) (by kernel_rfl) (by kernel_rfl)
     · rw [if_neg g]
       exact fi (A ++ na (Bool.not_eq_true _ ▸ g) :: K) (by kernel_rfl) (by kernel_rfl)
end
end Go.Proofs.YtcfejkpadcccbaaGreat.E
namespace Go.Proofs.YtcfejkpadcccbaaGreat.E
open Go.RowKit
set_option linter.unusedVariables false
theorem e_rdiv {r t : Rat} {j k : Nat} (br : Bq j r) (bt : Bq k t) (hk : j + k ≤ 1000000000000) : Pure false PP 72 [.ag (dR r), .ag (dR t)] (.ag (dR (r / t))) := by
 by_cases t0 : t.num = 0
 · rw [num_zero.1 t0, Rat.div_def, Rat.inv_zero, Rat.mul_zero, dR_0]
   exact tr [ye (len_z rfl)] (by kernel_rfl)
 · have hi : Rat.divInt t.den t.num = t⁻¹ := (Rat.inv_def t).symm
   have hb : Bq k (Rat.divInt t.den t.num) := by rw [hi]; exact bt.inv t0
   rw [Rat.div_def, ← hi]
   have hg : Int.gcd (t.den : Int) t.num = 1 := by rw [Int.gcd_comm]; exact t.reduced
   exact tr [na (len_nz t0), cl (e_den t), cl (e_low t0 hg), cl (e_rmul br hb hk)] (by kernel_rfl)
end Go.Proofs.YtcfejkpadcccbaaGreat.E
namespace Go.Proofs.YtcfejkpadcccbaaGreat
open Go.RowKit
open E
set_option linter.unusedVariables false
theorem E.to_k {u : Value} {w w' : World} {e : Ending} (h : Rt (fun w v => Rep false w (fun _ => False) no v (.k u)) w e w') : e = .returned u ∧ Below w.heap.size w w' := by
 obtain ⟨v, rfl, h1, h2⟩ := h
 exact ⟨by rw [Rep.k_inv h1], h2⟩
theorem E.arg4 {s : Bool} {w : World} {A : Nat → Prop} {m : Nat → Option Value} {u v t q : Value} {x y z r : V} (h : Rep s w A m u x) (g : Rep s w A m v y) (i : Rep s w A m t z) (j : Rep s w A m q r) : Reps s w A m #[u, v, t, q] [x, y, z, r] := ⟨rfl, fun n a ha => by
 match n, ha with
 | 0, ha => simp at ha; subst ha; exact h
 | 1, ha => simp at ha; subst ha; exact g
 | 2, ha => simp at ha; subst ha; exact i
 | 3, ha => simp at ha; subst ha; exact j
 | n + 4, ha => simp at ha⟩
theorem radd_anyB (j k : Nat) (a0 a1 a2 a3 b0 b1 b2 b3 : Value) (r t : Rat) (w : World) (hr : RatV w a0 a1 a2 a3 r) (ht : RatV w b0 b1 b2 b3 t) (br : Bq j r) (bt : Bq k t) (hk : j + k + 1 ≤ 1000000000000) :
    Calls Tryz.prog 36 #[.agg #[a0, a1, a2, a3], .agg #[b0, b1, b2, b3]] w (RR (r + t) w) := by
 exact (back (e_radd br bt hk) (arg2 (rep_R ⟨_, _, _, _, rfl, hr⟩) (rep_R ⟨_, _, _, _, rfl, ht⟩))).mono fun _ _ => to_RR
theorem rmul_anyB (j k : Nat) (a0 a1 a2 a3 b0 b1 b2 b3 : Value) (r t : Rat) (w : World) (hr : RatV w a0 a1 a2 a3 r) (ht : RatV w b0 b1 b2 b3 t) (br : Bq j r) (bt : Bq k t) (hk : j + k ≤ 1000000000000) :
    Calls Tryz.prog 67 #[.agg #[a0, a1, a2, a3], .agg #[b0, b1, b2, b3]] w (RR (r * t) w) := by
 exact (back (e_rmul br bt hk) (arg2 (rep_R ⟨_, _, _, _, rfl, hr⟩) (rep_R ⟨_, _, _, _, rfl, ht⟩))).mono fun _ _ => to_RR
theorem rof_anyB (x y : Int) (w : World) (hx : W.Is64 x) (hy : W.Is64 y) : Calls Tryz.prog 68 #[.int .i64 x, .int .i64 y] w (RR (Rat.divInt x y) w) := by
 exact (back (e_rof hx hy) (arg2 (.k _ _) (.k _ _))).mono fun _ _ => to_RR
theorem vcrs_anyB (j k : Nat) (a0 a1 a2 a3 a4 a5 a6 a7 b0 b1 b2 b3 b4 b5 b6 b7 : Value) (v : Rat × Rat) (u : Rat × Rat) (w : World) (ha : VecV w a0 a1 a2 a3 a4 a5 a6 a7 v) (hb : VecV w b0 b1 b2 b3 b4 b5 b6 b7 u) (ba : Bv j v) (bb : Bv k u) (hk : 10 * (j + k) + 100 ≤ 800000000000) :
    Calls Tryz.prog 66 #[.agg #[a0, a1, a2, a3, a4, a5, a6, a7], .agg #[b0, b1, b2, b3, b4, b5, b6, b7]] w (RR (vcrs v u) w) := by
 exact (back (e_vcrs ba bb hk) (arg2 (rep_V ⟨_, _, _, _, _, _, _, _, rfl, ha⟩) (rep_V ⟨_, _, _, _, _, _, _, _, rfl, hb⟩))).mono fun _ _ => to_RR
theorem rdiv_anyB (j k : Nat) (a0 a1 a2 a3 b0 b1 b2 b3 : Value) (r t : Rat) (w : World) (hr : RatV w a0 a1 a2 a3 r) (ht : RatV w b0 b1 b2 b3 t) (br : Bq j r) (bt : Bq k t) (hk : j + k ≤ 1000000000000) :
    Calls Tryz.prog 72 #[.agg #[a0, a1, a2, a3], .agg #[b0, b1, b2, b3]] w (RR (r / t) w) := by
 exact (back (e_rdiv br bt hk) (arg2 (rep_R ⟨_, _, _, _, rfl, hr⟩) (rep_R ⟨_, _, _, _, rfl, ht⟩))).mono fun _ _ => to_RR
theorem vadd_anyB (j k : Nat) (a0 a1 a2 a3 a4 a5 a6 a7 b0 b1 b2 b3 b4 b5 b6 b7 : Value) (v : Rat × Rat) (u : Rat × Rat) (w : World) (ha : VecV w a0 a1 a2 a3 a4 a5 a6 a7 v) (hb : VecV w b0 b1 b2 b3 b4 b5 b6 b7 u) (ba : Bv j v) (bb : Bv k u) (hk : 10 * (j + k) + 100 ≤ 800000000000) :
    Calls Tryz.prog 38 #[.agg #[a0, a1, a2, a3, a4, a5, a6, a7], .agg #[b0, b1, b2, b3, b4, b5, b6, b7]] w (RV (vadd v u) w) := by
 exact (back (e_vadd ba bb hk) (arg2 (rep_V ⟨_, _, _, _, _, _, _, _, rfl, ha⟩) (rep_V ⟨_, _, _, _, _, _, _, _, rfl, hb⟩))).mono fun _ _ => to_RV
theorem vsca_anyB (j k : Nat) (a0 a1 a2 a3 a4 a5 a6 a7 b0 b1 b2 b3 : Value) (v : Rat × Rat) (q : Rat) (w : World) (ha : VecV w a0 a1 a2 a3 a4 a5 a6 a7 v) (hb : RatV w b0 b1 b2 b3 q) (ba : Bv j v) (bb : Bq k q) (hk : 10 * (j + k) + 100 ≤ 800000000000) :
    Calls Tryz.prog 39 #[.agg #[a0, a1, a2, a3, a4, a5, a6, a7], .agg #[b0, b1, b2, b3]] w (RV (vsca v q) w) := by
 exact (back (e_vsca ba bb hk) (arg2 (rep_V ⟨_, _, _, _, _, _, _, _, rfl, ha⟩) (rep_R ⟨_, _, _, _, rfl, hb⟩))).mono fun _ _ => to_RV
theorem on_anyB (k : Nat) (a0 a1 a2 a3 a4 a5 a6 a7 b0 b1 b2 b3 b4 b5 b6 b7 c0 c1 c2 c3 c4 c5 c6 c7 : Value) (u : Rat × Rat) (v : Rat × Rat) (x_ : Rat × Rat) (w : World) (ha : VecV w a0 a1 a2 a3 a4 a5 a6 a7 u) (hb : VecV w b0 b1 b2 b3 b4 b5 b6 b7 v) (hc : VecV w c0 c1 c2 c3 c4 c5 c6 c7 x_) (ba : Bv k u) (bb : Bv k v) (bc : Bv k x_) (hk : 100 * k + 1000 ≤ 800000000000) (c : Bool) (hv : c = Pg.on u v x_) :
    Calls Tryz.prog 77 #[.agg #[a0, a1, a2, a3, a4, a5, a6, a7], .agg #[b0, b1, b2, b3, b4, b5, b6, b7], .agg #[c0, c1, c2, c3, c4, c5, c6, c7]] w (fun e w' => e = .returned (.bool c) ∧ Below w.heap.size w w') := by
 subst hv
 exact (back (e_on ba bb bc hk) (arg3 (rep_V ⟨_, _, _, _, _, _, _, _, rfl, ha⟩) (rep_V ⟨_, _, _, _, _, _, _, _, rfl, hb⟩) (rep_V ⟨_, _, _, _, _, _, _, _, rfl, hc⟩))).mono fun _ _ => to_k
theorem rcmp_anyB (j k : Nat) (a0 a1 a2 a3 b0 b1 b2 b3 : Value) (r t : Rat) (w : World) (ha : RatV w a0 a1 a2 a3 r) (hb : RatV w b0 b1 b2 b3 t) (ba : Bq j r) (bb : Bq k t) (hk : 10 * (j + k) + 100 ≤ 800000000000) :
    Calls Tryz.prog 42 #[.agg #[a0, a1, a2, a3], .agg #[b0, b1, b2, b3]] w (fun e w' => e = .returned (.int .i64 (cmpQ r t)) ∧ Below w.heap.size w w') := by
 exact (back (e_rcmp ba bb (by omega)) (arg2 (rep_R ⟨_, _, _, _, rfl, ha⟩) (rep_R ⟨_, _, _, _, rfl, hb⟩))).mono fun _ _ => to_k
theorem vside_anyB (k : Nat) (a0 a1 a2 a3 a4 a5 a6 a7 b0 b1 b2 b3 b4 b5 b6 b7 c0 c1 c2 c3 c4 c5 c6 c7 : Value) (u : Rat × Rat) (v : Rat × Rat) (x_ : Rat × Rat) (w : World) (ha : VecV w a0 a1 a2 a3 a4 a5 a6 a7 u) (hb : VecV w b0 b1 b2 b3 b4 b5 b6 b7 v) (hc : VecV w c0 c1 c2 c3 c4 c5 c6 c7 x_) (ba : Bv k u) (bb : Bv k v) (bc : Bv k x_) (hk : 100 * k + 1000 ≤ 800000000000) :
    Calls Tryz.prog 55 #[.agg #[a0, a1, a2, a3, a4, a5, a6, a7], .agg #[b0, b1, b2, b3, b4, b5, b6, b7], .agg #[c0, c1, c2, c3, c4, c5, c6, c7]] w (fun e w' => e = .returned (.int .i64 (vside u v x_)) ∧ Below w.heap.size w w') := by
 exact (back (e_side ba bb bc hk) (arg3 (rep_V ⟨_, _, _, _, _, _, _, _, rfl, ha⟩) (rep_V ⟨_, _, _, _, _, _, _, _, rfl, hb⟩) (rep_V ⟨_, _, _, _, _, _, _, _, rfl, hc⟩))).mono fun _ _ => to_k
theorem meets_anyB (k : Nat) (a0 a1 a2 a3 a4 a5 a6 a7 b0 b1 b2 b3 b4 b5 b6 b7 c0 c1 c2 c3 c4 c5 c6 c7 d0 d1 d2 d3 d4 d5 d6 d7 : Value) (u : Rat × Rat) (v : Rat × Rat) (x_ : Rat × Rat) (y_ : Rat × Rat) (w : World) (ha : VecV w a0 a1 a2 a3 a4 a5 a6 a7 u) (hb : VecV w b0 b1 b2 b3 b4 b5 b6 b7 v) (hc : VecV w c0 c1 c2 c3 c4 c5 c6 c7 x_) (hd : VecV w d0 d1 d2 d3 d4 d5 d6 d7 y_) (ba : Bv k u) (bb : Bv k v) (bc : Bv k x_) (bd : Bv k y_) (hk : 100 * k + 1000 ≤ 800000000000) (c : Bool) (hv : c = Pg.meets u v x_ y_) :
    Calls Tryz.prog 34 #[.agg #[a0, a1, a2, a3, a4, a5, a6, a7], .agg #[b0, b1, b2, b3, b4, b5, b6, b7], .agg #[c0, c1, c2, c3, c4, c5, c6, c7], .agg #[d0, d1, d2, d3, d4, d5, d6, d7]] w (fun e w' => e = .returned (.bool c) ∧ Below w.heap.size w w') := by
 subst hv
 exact (back (e_meets ba bb bc bd hk) (arg4 (rep_V ⟨_, _, _, _, _, _, _, _, rfl, ha⟩) (rep_V ⟨_, _, _, _, _, _, _, _, rfl, hb⟩) (rep_V ⟨_, _, _, _, _, _, _, _, rfl, hc⟩) (rep_V ⟨_, _, _, _, _, _, _, _, rfl, hd⟩))).mono fun _ _ => to_k
theorem rsign_anyB (a0 a1 a2 a3 : Value) (r : Rat) (w : World) (hr : RatV w a0 a1 a2 a3 r) : Calls Tryz.prog 37 #[.agg #[a0, a1, a2, a3]] w fun e w' => e = .returned (.int .i64 (sgnZ r.num)) ∧ Below w.heap.size w w' := by
 exact (back (e_rsign r) (arg1 (rep_R ⟨_, _, _, _, rfl, hr⟩))).mono fun _ _ => to_k
theorem rvalid_anyB (k : Nat) (a0 a1 a2 a3 : Value) (r : Rat) (w : World) (hr : RatV w a0 a1 a2 a3 r) (bq : Bq k r) (hk : k ≤ 1000000000000) :
    Calls Tryz.prog 53 #[.agg #[a0, a1, a2, a3]] w fun e w' => e = .returned (.bool true) ∧ Below w.heap.size w w' := by
 exact (back (e_rvalid bq hk) (arg1 (rep_R ⟨_, _, _, _, rfl, hr⟩))).mono fun _ _ => to_k
end Go.Proofs.YtcfejkpadcccbaaGreat
