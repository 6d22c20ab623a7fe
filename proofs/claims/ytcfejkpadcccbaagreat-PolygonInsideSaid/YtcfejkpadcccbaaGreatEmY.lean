/-
 THE SECOND ENGINE, 14: code by itself (the rounds of a loop over a function).
-/
import Derived.Test.YtcfejkpadcccbaaGreatPgZ
import Derived.Test.YtcfejkpadcccbaaGreatWalkMul
namespace Go.Proofs.YtcfejkpadcccbaaGreat.E
open Go.RowKit
set_option linter.unusedVariables false
section
variable {n : Int} {l : List Int} {i m : Nat} {P : Program}
def eq64 (t : Nat) (x : Int) (h : W.Is64 x) : Fa P := .eqv t (ni (IntKind.i64.wrap x)) (ni x) (by rw [wr_ h])
def rnd (n : Int) (m : Nat) : Int := (if n < 0 then -(n + 1) else n).tmod ((m + 1 : Nat) : Int)
theorem rnd_in (n : Int) (m : Nat) : 0 ≤ rnd n m ∧ rnd n m ≤ m := by
 unfold rnd
 have h : ∀ x : Int, 0 ≤ x → 0 ≤ x.tmod ((m + 1 : Nat) : Int) ∧ x.tmod ((m + 1 : Nat) : Int) ≤ m := fun x hx => ⟨Int.tmod_nonneg _ hx, by have := Int.tmod_lt_of_pos x (b := ((m + 1 : Nat) : Int)) (by omega); omega⟩
 split <;> exact h _ (by omega)
theorem e_around (hn : W.Is64 n) (m : Nat) : Pure PP 35 [ni n, ni ((m + 1 : Nat) : Int)] (ni (rnd n m)) := by
 have h64 := hn
 unfold W.Is64 at hn
 unfold rnd
 by_cases h : n < 0
 · rw [if_pos h]
   exact tr [ye (t := decide (n < 0)) (decide_eq_true h), eq64 8 (n + 1) (by unfold W.Is64; omega), .eqv 9 (ni (IntKind.i64.wrap (0 - (n + 1)))) (ni (-(n + 1))) (by rw [wr_ (by unfold W.Is64; omega), Int.zero_sub])] (by kernel_rfl)
 · rw [if_neg h]
   exact tr [na (t := decide (n < 0)) (decide_eq_false h)] (by kernel_rfl)
def atz (l : List Int) (i m : Nat) : Int := if i < l.length then rnd (l.getD i 0) m else 0
theorem atz_in (l : List Int) (i m : Nat) : 0 ≤ atz l i m ∧ atz l i m ≤ m := by
 unfold atz
 split
 · exact rnd_in _ _
 · omega
theorem e_at (hl : ∀ x ∈ l, W.Is64 x) (i m : Nat) : Pure PP 50 [zl l, ni i, ni ((m + 1 : Nat) : Int)] (ni (atz l i m)) := by
 have hz : (zs l).length = l.length := List.length_map ..
 unfold atz
 by_cases h : i < l.length
 · rw [if_pos h]
   have hx : W.Is64 (l.getD i 0) := hl _ (by rw [List.getD_eq_getElem?_getD, List.getElem?_eq_getElem h]; exact List.getElem_mem _)
   exact tr [na (t := decide ((i : Int) < 0)) (decide_eq_false (by omega)), na (t := decide (((zs l).length : Int) ≤ (i : Int))) (decide_eq_false (by omega)), .sel _ i _ (zs_el h), cl (e_around hx m)] (by kernel_rfl)
 · rw [if_neg h]
   exact tr [na (t := decide ((i : Int) < 0)) (decide_eq_false (by omega)), ye (t := decide (((zs l).length : Int) ≤ (i : Int))) (decide_eq_true (by omega))] (by kernel_rfl)
def spot (l : List Int) (a : Nat) : Rat × Rat := if atz l (a + 2) 1 = 0 then (Rat.divInt (atz l a 16 - 8) 1, Rat.divInt (atz l (a + 1) 16 - 8) 1) else (Rat.divInt (atz l a 32 - 16) 2, Rat.divInt (atz l (a + 1) 32 - 16) 2)
theorem bd7 {x : Int} (h0 : -100 ≤ x) (h1 : x ≤ 100) : I.Bd 7 x := by unfold I.Bd; simp; omega
theorem bv7 {x y z : Int} (h1 : -100 ≤ x ∧ x ≤ 100) (h2 : -100 ≤ y ∧ y ≤ 100) (h3 : 1 ≤ z ∧ z ≤ 100) : Bv 7 (Rat.divInt x z, Rat.divInt y z) := ⟨Bq.divInt (bd7 h1.1 h1.2) (bd7 (by omega) h3.2) (by omega), Bq.divInt (bd7 h2.1 h2.2) (bd7 (by omega) h3.2) (by omega)⟩
theorem spot_bits (l : List Int) (a : Nat) : Bv 7 (spot l a) := by
 have h1 := atz_in l a 16
 have h2 := atz_in l (a + 1) 16
 have h3 := atz_in l a 32
 have h4 := atz_in l (a + 1) 32
 unfold spot
 split <;> exact bv7 (by omega) (by omega) (by omega)
theorem i64 {x : Int} (h : -1000 ≤ x ∧ x ≤ 1000) : W.Is64 x := by unfold W.Is64; omega
theorem e_spot (hl : ∀ x ∈ l, W.Is64 x) (a : Nat) (ha : a ≤ 1000000) : Pure PP 19 [zl l, ni a] (.ag (dV (spot l a))) := by
 have h0 := atz_in l (a + 2) 1
 have h1 := atz_in l a 16
 have h2 := atz_in l (a + 1) 16
 have h3 := atz_in l a 32
 have h4 := atz_in l (a + 1) 32
 have hq := e_at hl (a + 2) 1
 unfold spot
 by_cases g : atz l (a + 2) 1 = 0
 · rw [if_pos g]
   rw [g] at hq
   exact tr [inc2 8 a (by omega), cl hq, cl (e_at hl a 16), eq64 19 (atz l a 16 - 8) (i64 (by omega)), cl (e_of4 (x := atz l a 16 - 8) (y := 1) (i64 (by omega)) (i64 (by omega))), inc 24 a (by omega), cl (e_at hl (a + 1) 16), eq64 31 (atz l (a + 1) 16 - 8) (i64 (by omega)), cl (e_of4 (x := atz l (a + 1) 16 - 8) (y := 1) (i64 (by omega)) (i64 (by omega)))] (by kernel_rfl)
 · rw [if_neg g]
   rw [show atz l (a + 2) 1 = 1 by omega] at hq
   exact tr [inc2 8 a (by omega), cl hq, cl (e_at hl a 32), eq64 19 (atz l a 32 - 16) (i64 (by omega)), cl (e_of4 (x := atz l a 32 - 16) (y := 2) (i64 (by omega)) (i64 (by omega))), inc 24 a (by omega), cl (e_at hl (a + 1) 32), eq64 31 (atz l (a + 1) 32 - 16) (i64 (by omega)), cl (e_of4 (x := atz l (a + 1) 32 - 16) (y := 2) (i64 (by omega)) (i64 (by omega)))] (by kernel_rfl)
/-- The directions. -/
def wy : List (Int × Int) := [(4, 0), (4, 2), (3, 3), (2, 4), (0, 4), (-2, 4), (-3, 3), (-4, 2), (-4, 0), (-4, -2), (-3, -3), (-2, -4), (0, -4), (2, -4), (3, -3), (4, -2)]
def ways : List (List V) := wy.map fun p => [ni p.1, ni p.2]
theorem wy_in (i : Nat) : (-4 ≤ (wy.getD i (0, 0)).1 ∧ (wy.getD i (0, 0)).1 ≤ 4) ∧ -4 ≤ (wy.getD i (0, 0)).2 ∧ (wy.getD i (0, 0)).2 ≤ 4 := by
 have h : ∀ p ∈ wy, (-4 ≤ p.1 ∧ p.1 ≤ 4) ∧ -4 ≤ p.2 ∧ p.2 ≤ 4 := by decide
 rw [List.getD_eq_getElem?_getD]
 cases e : wy[i]? with
 | none => decide
 | some p => exact h p (List.mem_of_getElem? e)
theorem ways_el (h : i < 16) : ways[i]? = some [ni (wy.getD i (0, 0)).1, ni (wy.getD i (0, 0)).2] := by
 unfold ways
 rw [List.getElem?_map, List.getD_eq_getElem?_getD, List.getElem?_eq_getElem (show i < wy.length from h)]; rfl
theorem mul4 {x y : Int} (h : -4 ≤ x ∧ x ≤ 4) (h0 : 0 < y) (h1 : y < 4) : -12 ≤ x * y ∧ x * y ≤ 12 := by
 have : y = 1 ∨ y = 2 ∨ y = 3 := by omega
 rcases this with rfl | rfl | rfl <;> omega
def pnt (b : Rat × Rat) (p : Int × Int) (f : Int) : Rat × Rat := vadd b (Rat.divInt (p.1 * f) 2, Rat.divInt (p.2 * f) 2)
/-- The corners, laid one after the other. -/
def pol (f : Nat → Int) (b : Rat × Rat) : Nat → Nat → List (Rat × Rat) → List (Rat × Rat)
 | 0, _, M => M
 | n + 1, i, M => if M.length < 12 then pol f b n (i + 1) (if 0 < f i ∧ f i < 4 then M ++ [pnt b (wy.getD i (0, 0)) (f i)] else M) else M
def ctr (l : List Int) : Rat × Rat := (Rat.divInt (atz l 16 8 - 4) 1, Rat.divInt (atz l 17 8 - 4) 1)
def polO (l : List Int) : List (Rat × Rat) := pol (fun i => atz l i 5) (ctr l) 16 0 []
def polL (l : List Int) : List (Rat × Rat) := if Pg.valid (polO l) = true then polO l else Pg.kite (ctr l) (atz l 0 1)
theorem ctr_bits (l : List Int) : Bv 7 (ctr l) := by
 have h1 := atz_in l 16 8
 have h2 := atz_in l 17 8
 exact bv7 (by omega) (by omega) (by omega)
theorem pnt_bits {b : Rat × Rat} (hb : Bv 7 b) (i : Nat) {f : Int} (h0 : 0 < f) (h1 : f < 4) : Bv 15 (pnt b (wy.getD i (0, 0)) f) := by
 have g := wy_in i
 have g1 := mul4 g.1 h0 h1
 have g2 := mul4 g.2 h0 h1
 exact hb.add (bv7 (by omega) (by omega) (by omega))
theorem pol_bits (f : Nat → Int) {b : Rat × Rat} (hb : Bv 7 b) : ∀ n i M, (∀ a ∈ M, Bv 15 a) → ∀ a ∈ pol f b n i M, Bv 15 a
 | 0, _, M, h => h
 | n + 1, i, M, h => by
  unfold pol
  split
  · refine pol_bits f hb n (i + 1) _ ?_
    split
    · rename_i hf
      intro a ha
      rw [List.mem_append, List.mem_singleton] at ha
      rcases ha with ha | rfl
      · exact h a ha
      · exact pnt_bits hb i hf.1 hf.2
    · exact h
  · exact h
theorem polL_ok (l : List Int) : Pg.valid (polL l) = true ∧ ∀ a ∈ polL l, Bv 15 a := by
 have hc := ctr_bits l
 have h1 := atz_in l 0 1
 unfold polL
 split
 · rename_i h
   exact ⟨h, pol_bits _ hc _ _ _ (by simp)⟩
 · refine ⟨kite_valid _ h1.1 (by omega), fun a ha => ?_⟩
   simp only [Pg.kite, List.mem_cons, List.not_mem_nil, or_false] at ha
   have e : 7 + 7 + 1 = 15 := rfl
   rcases ha with rfl | rfl | rfl | rfl
   · exact hc.mono (by omega)
   · exact hc.add (bv7 (by omega) (by omega) (by omega))
   · exact hc.add (bv7 (by omega) (by omega) (by omega))
   · exact hc.add (bv7 (by omega) (by omega) (by omega))
theorem e_polygon (hl : ∀ x ∈ l, W.Is64 x) : Pure PP 11 [zl l] (dL (polL l)) := by
 have hc := ctr_bits l
 have c1 := atz_in l 16 8
 have c2 := atz_in l 17 8
 let f : Nat → Int := fun i => atz l i 5
 let X : Nat × List (Rat × Rat) → St := fun x => at_ (fnOf PP 11) [(0, zl l), (3, .ow 0), (4, .lp 1 0), (5, .ow 2), (6, ni x.1)] [.rw 67 2 ways, .bx 35 (dV (ctr l)), .rw 35 8 (x.2.map dV)]
 refine pf (by kernel_rfl) (.to mo_ [.ow 5 (.rw 35 8 [])] [0, 3, 4, 5, 6] [0, 1, 2] 3 [cl (e_at hl 16 8), eq64 27 (atz l 16 8 - 4) (i64 (by omega)), cl (e_at hl 17 8), eq64 30 (atz l 17 8 - 4) (i64 (by omega)), cl (e_vof (x := atz l 16 8 - 4) (y := atz l 17 8 - 4) (i64 (by omega)) (i64 (by omega)))] (td' := lp (fnOf PP 11) 0) (σ' := X (0, [])) ?_ (by kernel_rfl))
 refine Gd.loop X (fun x => x.1 ≤ 16 ∧ x.2.length ≤ 12 ∧ pol f (ctr l) (16 - x.1) x.1 x.2 = polO l ∧ ∀ a ∈ x.2, Bv 15 a) (fun x => 16 - x.1) ?_ _ ⟨Nat.zero_le _, by simp, rfl, by simp⟩
 rintro ⟨i, M⟩ ⟨hi, hM, hp, hb⟩ ih
 simp only at hi hM hp hb
 have hml : (M.map dV).length = M.length := List.length_map ..
 by_cases h : i < 16 ∧ M.length < 12
 · obtain ⟨h, h2⟩ := h
   rw [show 16 - i = 15 - i + 1 by omega] at hp
   unfold pol at hp
   rw [if_pos h2] at hp
   have hf := atz_in l i 5
   let pre : List F_ := [ye (t := decide ((i : Int) < ((ways.length : Nat) : Int))) (decide_eq_true (by show (i : Int) < 16; omega)), ye (t := decide (((M.map dV).length : Int) < 12)) (decide_eq_true (by omega)), cl (e_at hl i 5)]
   by_cases g1 : 0 < f i
   · by_cases g2 : f i < 4
     · rw [if_pos ⟨g1, g2⟩] at hp
       have w0 := wy_in i
       have w1 := mul4 w0.1 g1 g2
       have w2 := mul4 w0.2 g1 g2
       exact .to mo_ [.mv 2 4] [0, 3, 4, 5, 6] [0, 1, 2] 3 (pre ++ [ye (t := decide (0 < f i)) (decide_eq_true g1), ye (t := decide (f i < 4)) (decide_eq_true g2), .sel ways i _ (ways_el h), .sel ways i _ (ways_el h), eq64 60 ((wy.getD i (0, 0)).1 * f i) (i64 (by omega)), cl (e_of4 (x := (wy.getD i (0, 0)).1 * f i) (y := 2) (i64 (by omega)) (i64 (by omega))), .sel ways i _ (ways_el h), .sel ways i _ (ways_el h), eq64 68 ((wy.getD i (0, 0)).2 * f i) (i64 (by omega)), cl (e_of4 (x := (wy.getD i (0, 0)).2 * f i) (y := 2) (i64 (by omega)) (i64 (by omega))), cl (e_vadd5 hc (bv7 (x := (wy.getD i (0, 0)).1 * f i) (y := (wy.getD i (0, 0)).2 * f i) (z := 2) (by omega) (by omega) (by omega)) (by omega)),
         .app (M.map dV) [dV (pnt (ctr l) (wy.getD i (0, 0)) (f i))] ((M ++ [pnt (ctr l) (wy.getD i (0, 0)) (f i)]).map dV) 100 (by simp) (by simp) (by simp; omega), inc 42 i (by omega)])
        (ih (i + 1, M ++ [pnt (ctr l) (wy.getD i (0, 0)) (f i)]) ⟨h, by simp; omega, by rw [show 16 - (i + 1) = 15 - i by omega]; exact hp, fun a ha => by
          rw [List.mem_append, List.mem_singleton] at ha
          rcases ha with ha | rfl
          · exact hb a ha
          · exact pnt_bits hc i g1 g2⟩ (by simp only; omega)) (by kernel_rfl)
     · rw [if_neg (fun e => g2 e.2)] at hp
       exact .to mo_ [] [0, 3, 4, 5, 6] [0, 1, 2] 3 (pre ++ [ye (t := decide (0 < f i)) (decide_eq_true g1), na (t := decide (f i < 4)) (decide_eq_false g2), inc 42 i (by omega)])
        (ih (i + 1, M) ⟨h, hM, by rw [show 16 - (i + 1) = 15 - i by omega]; exact hp, hb⟩ (by simp only; omega)) (by kernel_rfl)
   · rw [if_neg (fun e => g1 e.1)] at hp
     exact .to mo_ [] [0, 3, 4, 5, 6] [0, 1, 2] 3 (pre ++ [na (t := decide (0 < f i)) (decide_eq_false g1), nf, inc 42 i (by omega)])
      (ih (i + 1, M) ⟨h, hM, by rw [show 16 - (i + 1) = 15 - i by omega]; exact hp, hb⟩ (by simp only; omega)) (by kernel_rfl)
 · have hMe : M = polO l := by
    rw [← hp]
    by_cases h1 : i < 16
    · rw [show 16 - i = 15 - i + 1 by omega]
      unfold pol
      rw [if_neg (fun e => h ⟨h1, e⟩)]
    · rw [show 16 - i = 0 by omega]; rfl
   have hv := e_valid6 hb (by omega) (by omega)
   rw [valid_eq] at hv
   have h3 := atz_in l 0 1
   unfold polL
   rw [← hMe]
   let K : List F_ := [cl (e_vof (x := 4) (y := 0) (i64 (by omega)) (i64 (by omega))), cl (e_vadd5 hc (bv7 (x := 4) (y := 0) (z := 1) (by omega) (by omega) (by omega)) (by omega)), cl (e_at hl 0 1), eq64 84 (1 + atz l 0 1) (i64 (by omega)), cl (e_vof (x := 1 + atz l 0 1) (y := 3) (i64 (by omega)) (i64 (by omega))), cl (e_vadd5 hc (bv7 (x := 1 + atz l 0 1) (y := 3) (z := 1) (by omega) (by omega) (by omega)) (by omega)), cl (e_vof (x := 1) (y := 1) (i64 (by omega)) (i64 (by omega))), cl (e_vadd5 hc (bv7 (x := 1) (y := 1) (z := 1) (by omega) (by omega) (by omega)) (by omega))]
   by_cases h1 : i < 16
   · let A : List F_ := [ye (t := decide ((i : Int) < ((ways.length : Nat) : Int))) (decide_eq_true (by show (i : Int) < 16; omega)), na (t := decide (((M.map dV).length : Int) < 12)) (decide_eq_false (by omega)), cl hv]
     by_cases g : Pg.valid M = true
     · rw [if_pos g]
       exact fi (A ++ [ye g]) (by kernel_rfl) (by kernel_rfl)
     · rw [if_neg g]
       exact fi (A ++ na (Bool.not_eq_true _ ▸ g) :: K) (by kernel_rfl) (by kernel_rfl)
   · let A : List F_ := [na (t := decide ((i : Int) < ((ways.length : Nat) : Int))) (decide_eq_false (by show ¬ (i : Int) < 16; omega)), nf, cl hv]
     by_cases g : Pg.valid M = true
     · rw [if_pos g]
       exact fi (A ++ [ye g]) (by kernel_rfl) (by kernel_rfl)
     · rw [if_neg g]
       exact fi (A ++ na (Bool.not_eq_true _ ▸ g) :: K) (by kernel_rfl) (by kernel_rfl)
end
end Go.Proofs.YtcfejkpadcccbaaGreat.E
namespace Go.Proofs.YtcfejkpadcccbaaGreat.E
open Go.RowKit
set_option linter.unusedVariables false
section
variable {P : Program}
/-- Code without loops, from a state to the way in which it is left. -/
def runC (P : Program) : Nat → Code → St → List (Fa P) → Option (Exit × St × List (Fa P) × Ks)
 | 0, _, _, _ => none
 | n + 1, c, σ, sc => match c with
   | .skip => some (.normal, σ, sc, [])
   | .label _ => some (.normal, σ, sc, [])
   | .ret => some (.ret, σ, sc, [])
   | .exit id => some (.exit id, σ, sc, [])
   | .region i ops dr => match regR P ops ops.toList [] σ sc with
     | some (σ', fps, sc', k1) => match nodef ops && (!dr || (backB ops && (depOk ops && (dstOk ops && confOk ops fps 0)))) with
       | true => some (.normal, σ', sc', k1)
       | false => none
     | none => none
   | .seq a b => match runC P n a σ sc with
     | some (.normal, σ1, sc1, k1) => match runC P n b σ1 sc1 with
       | some (e, σ2, sc2, k2) => some (e, σ2, sc2, k1 ++ k2)
       | none => none
     | r => r
   | .cond c a b => match σ.ev c, sc with
     | .k (.bool t), .dec t0 b0 _ :: sc => match runC P n (match b0 with | true => a | false => b) σ sc with
       | some (e, σ, sc, k) => some (e, σ, sc, ([.k (.bool t)], [.k (.bool t0)]) :: k)
       | none => none
     | _, _ => none
   | .block id c => match runC P n c σ sc with
     | some (.exit i, σ, sc, k) => match Nat.beq i id with
       | true => some (.normal, σ, sc, k)
       | false => some (.exit i, σ, sc, k)
     | r => r
   | _ => none
variable {B : Nat} {M : Nat → Prop} {w0 : World} {Fx : Fence} {nf : Nat}
/-- How code is left. -/
def PostC (B : Nat) (M : Nat → Prop) (w0 : World) (E : World → (Nat → Prop) → (Nat → Option Value) → Prop) (dfs : List Deferred) (e : Exit) (σ : St) : Exit → Act → World → Prop := fun e' a w => e' = e ∧ ∃ m, SOk B M w0 σ a m w ∧ E w (Av M σ.ho m) m ∧ a.defers = dfs
theorem runC_ok (hm : P.follows .mixedOrders = true) (hFx : WideF Fx) (E : World → (Nat → Prop) → (Nat → Option Value) → Prop) (hE : ∀ w A m w' A' m', E w A m → Mo w A m w' A' m' → E w' A' m') {dfs : List Deferred} : ∀ (n : Nat) (c : Code) (σ σ' : St) (sc sc' : List (Fa P)) (ks : Ks) (e : Exit) (a : Act) (m : Nat → Option Value) (w : World),
  runC P n c σ sc = some (e, σ', sc', ks) → (∀ p ∈ ks, p.1 = p.2) → SOk B M w0 σ a m w → E w (Av M σ.ho m) m → a.defers = dfs → c.wpIn Fx nf P (PostC B M w0 E dfs e σ') a w := by
 intro n
 induction n with
 | zero => intro c σ σ' sc sc' ks e a m w h; cases h
 | succ n ih =>
  intro c σ σ' sc sc' ks e a m w h hk H hE0 hds
  cases c with
  | skip =>
   simp only [runC, Option.some.injEq, Prod.mk.injEq] at h
   obtain ⟨rfl, rfl, rfl, rfl⟩ := h
   exact wpIn_skip ⟨rfl, m, H, hE0, hds⟩
  | label l =>
   simp only [runC, Option.some.injEq, Prod.mk.injEq] at h
   obtain ⟨rfl, rfl, rfl, rfl⟩ := h
   exact wpIn_label ⟨rfl, m, H, hE0, hds⟩
  | ret =>
   simp only [runC, Option.some.injEq, Prod.mk.injEq] at h
   obtain ⟨rfl, rfl, rfl, rfl⟩ := h
   exact wpIn_ret ⟨rfl, m, H, hE0, hds⟩
  | exit id =>
   simp only [runC, Option.some.injEq, Prod.mk.injEq] at h
   obtain ⟨rfl, rfl, rfl, rfl⟩ := h
   exact wpIn_exit ⟨rfl, m, H, hE0, hds⟩
  | region i ops dr =>
   simp only [runC] at h
   split at h
   · rename_i σ1 fps sc1 k1 hr
     split at h
     · rename_i hc
       simp only [Option.some.injEq, Prod.mk.injEq] at h
       obtain ⟨rfl, rfl, rfl, rfl⟩ := h
       exact region_ok hm hFx hr hk hc E hE H hE0 hds
     · cases h
   · cases h
  | seq x y =>
   simp only [runC] at h
   split at h
   · rename_i σ1 sc1 k1 h1
     split at h
     · rename_i e2 σ2 sc2 k2 h2
       simp only [Option.some.injEq, Prod.mk.injEq] at h
       obtain ⟨rfl, rfl, rfl, rfl⟩ := h
       refine wpIn_seq (wpIn_mono (ih _ _ _ _ _ _ _ _ _ _ h1 (fun p hp => hk p (List.mem_append.2 (.inl hp))) H hE0 hds) ?_)
       rintro e' a' w' ⟨rfl, m', H', hE1, hd1⟩
       exact ih _ _ _ _ _ _ _ _ _ _ h2 (fun p hp => hk p (List.mem_append.2 (.inr hp))) H' hE1 hd1
     · cases h
   · rename_i hnn
     refine wpIn_seq (wpIn_mono (ih _ _ _ _ _ _ _ _ _ _ h hk H hE0 hds) ?_)
     rintro e' a' w' ⟨rfl, m', H', hE1, hd1⟩
     cases e' with
     | normal => exact absurd h (hnn _ _ _)
     | _ => exact ⟨rfl, m', H', hE1, hd1⟩
  | cond c x y =>
   simp only [runC] at h
   split at h
   · rename_i t t0 b0 hb sc1 hc
     split at h
     · rename_i e2 σ2 sc2 k2 h2
       simp only [Option.some.injEq, Prod.mk.injEq] at h
       obtain ⟨rfl, rfl, rfl, rfl⟩ := h
       have hkey := hk _ (List.mem_cons_self ..)
       simp only [List.cons.injEq, V.k.injEq, Value.bool.injEq, and_true] at hkey
       subst hkey
       have hv := ev_rep (a := a) (x := c) (σ := σ) (w := w) (A := Av M σ.ho m) (m := m) fun t0 _ => H.slot t0
       rw [hc] at hv
       refine wpIn_cond (Rep.k_inv hv) ?_
       have h3 := ih _ _ _ _ _ _ _ _ _ _ h2 (fun p hp => hk p (List.mem_cons_of_mem _ hp)) H hE0 hds
       rw [hb]
       cases b0 <;> exact h3
     · cases h
   · cases h
  | block id c =>
   simp only [runC] at h
   split at h
   · rename_i i σ1 sc1 k1 h1
     split at h
     · rename_i hi
       simp only [Option.some.injEq, Prod.mk.injEq] at h
       obtain ⟨rfl, rfl, rfl, rfl⟩ := h
       have := Nat.eq_of_beq_eq_true hi
       subst this
       refine wpIn_block (wpIn_mono (ih _ _ _ _ _ _ _ _ _ _ h1 hk H hE0 hds) ?_)
       rintro e' a' w' ⟨rfl, m', H', hE1, hd1⟩
       simp only [Exit.inBlock, if_true]
       exact ⟨rfl, m', H', hE1, hd1⟩
     · rename_i hi
       simp only [Option.some.injEq, Prod.mk.injEq] at h
       obtain ⟨rfl, rfl, rfl, rfl⟩ := h
       refine wpIn_block (wpIn_mono (ih _ _ _ _ _ _ _ _ _ _ h1 hk H hE0 hds) ?_)
       rintro e' a' w' ⟨rfl, m', H', hE1, hd1⟩
       have hne : i ≠ id := fun e => by rw [e] at hi; rw [Nat.beq_refl] at hi; cases hi
       simp only [Exit.inBlock, if_neg hne]
       exact ⟨rfl, m', H', hE1, hd1⟩
   · rename_i hnn
     refine wpIn_block (wpIn_mono (ih _ _ _ _ _ _ _ _ _ _ h hk H hE0 hds) ?_)
     rintro e' a' w' ⟨rfl, m', H', hE1, hd1⟩
     cases e' with
     | exit i => exact absurd h (hnn _ _ _ _)
     | _ => exact ⟨rfl, m', H', hE1, hd1⟩
  | _ => simp [runC] at h
end
end Go.Proofs.YtcfejkpadcccbaaGreat.E
