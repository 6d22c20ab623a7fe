/-
 PIECE: remaining corners: the one before, the one behind, the side, an ear.
-/
import Derived.Test.YtnpdpjfdgialeaaGreatDoorWalkPgK
import Derived.Test.YtnpdpjfdgialeaaGreatDoorRef3C
namespace Go.Proofs.YtnpdpjfdgialeaaGreatDoor.E
open Go.RowKit
set_option linter.unusedVariables false
section
variable {a b c d n p : Rat × Rat} {r q x : Rat} {i j k : Nat} {L : List (Rat × Rat)}
theorem e_btw (bn : Bv j n) (ba : Bv k a) (bb : Bv k b) (bc : Bv k c) (bd : Bv k d) (hk : 100 * (j + k) + 1000 ≤ 800000000000) : Pure PP 132 [.ag (dV n), .ag (dV a), .ag (dV b), .ag (dV c), .ag (dV d)] (bo (Pg.btw n a b c d)) := by
 unfold Pg.btw
 let D0 : F_ := cl (e_vdot5 bn ba (by omega))
 let D1 : F_ := cl (e_vdot5 bn bb (by omega))
 let D2 : F_ := cl (e_vdot5 bn bc (by omega))
 let D3 : F_ := cl (e_vdot5 bn bd (by omega))
 let C0 : F_ := cl (e_cmp4 (bn.dot ba) (bn.dot bc) (by omega))
 let C1 : F_ := cl (e_cmp4 (bn.dot ba) (bn.dot bd) (by omega))
 let C2 : F_ := cl (e_cmp4 (bn.dot bb) (bn.dot bc) (by omega))
 let C3 : F_ := cl (e_cmp4 (bn.dot bb) (bn.dot bd) (by omega))
 let Yl0 : decide (cmpQ (vdot n a) (vdot n c) < 0) = true → F_ := fun h => ye h
 let Nl0 : decide (cmpQ (vdot n a) (vdot n c) < 0) = false → F_ := fun h => na h
 let Yl1 : decide (cmpQ (vdot n a) (vdot n d) < 0) = true → F_ := fun h => ye h
 let Nl1 : decide (cmpQ (vdot n a) (vdot n d) < 0) = false → F_ := fun h => na h
 let Yl2 : decide (cmpQ (vdot n b) (vdot n c) < 0) = true → F_ := fun h => ye h
 let Nl2 : decide (cmpQ (vdot n b) (vdot n c) < 0) = false → F_ := fun h => na h
 let Yl3 : decide (cmpQ (vdot n b) (vdot n d) < 0) = true → F_ := fun h => ye h
 let Nl3 : decide (cmpQ (vdot n b) (vdot n d) < 0) = false → F_ := fun h => na h
 let Ym0 : decide (0 < cmpQ (vdot n a) (vdot n c)) = true → F_ := fun h => ye h
 let Nm0 : decide (0 < cmpQ (vdot n a) (vdot n c)) = false → F_ := fun h => na h
 let Ym1 : decide (0 < cmpQ (vdot n a) (vdot n d)) = true → F_ := fun h => ye h
 let Nm1 : decide (0 < cmpQ (vdot n a) (vdot n d)) = false → F_ := fun h => na h
 let Ym2 : decide (0 < cmpQ (vdot n b) (vdot n c)) = true → F_ := fun h => ye h
 let Nm2 : decide (0 < cmpQ (vdot n b) (vdot n c)) = false → F_ := fun h => na h
 let Ym3 : decide (0 < cmpQ (vdot n b) (vdot n d)) = true → F_ := fun h => ye h
 let Nm3 : decide (0 < cmpQ (vdot n b) (vdot n d)) = false → F_ := fun h => na h
 cases l0 : decide (cmpQ (vdot n a) (vdot n c) < 0) with
 | false =>
  cases m0 : decide (0 < cmpQ (vdot n a) (vdot n c)) with
  | false =>
   exact tr [D0, D1, D2, D3, C0, Nl0 l0, nf, nf, C0, Nm0 m0, nf, nf, nf] (by kernel_rfl)
  | true =>
   cases m1 : decide (0 < cmpQ (vdot n a) (vdot n d)) with
   | false =>
    exact tr [D0, D1, D2, D3, C0, Nl0 l0, nf, nf, C0, Ym0 m0, C1, Nm1 m1, nf, nf] (by kernel_rfl)
   | true =>
    cases m2 : decide (0 < cmpQ (vdot n b) (vdot n c)) with
    | false =>
     exact tr [D0, D1, D2, D3, C0, Nl0 l0, nf, nf, C0, Ym0 m0, C1, Ym1 m1, C2, Nm2 m2, nf] (by kernel_rfl)
    | true =>
     exact tr [D0, D1, D2, D3, C0, Nl0 l0, nf, nf, C0, Ym0 m0, C1, Ym1 m1, C2, Ym2 m2, C3, nf] (by kernel_rfl)
 | true =>
  cases l1 : decide (cmpQ (vdot n a) (vdot n d) < 0) with
  | false =>
   cases m0 : decide (0 < cmpQ (vdot n a) (vdot n c)) with
   | false =>
    exact tr [D0, D1, D2, D3, C0, Yl0 l0, C1, Nl1 l1, nf, C0, Nm0 m0, nf, nf, nf] (by kernel_rfl)
   | true =>
    cases m1 : decide (0 < cmpQ (vdot n a) (vdot n d)) with
    | false =>
     exact tr [D0, D1, D2, D3, C0, Yl0 l0, C1, Nl1 l1, nf, C0, Ym0 m0, C1, Nm1 m1, nf, nf] (by kernel_rfl)
    | true =>
     cases m2 : decide (0 < cmpQ (vdot n b) (vdot n c)) with
     | false =>
      exact tr [D0, D1, D2, D3, C0, Yl0 l0, C1, Nl1 l1, nf, C0, Ym0 m0, C1, Ym1 m1, C2, Nm2 m2, nf] (by kernel_rfl)
     | true =>
      exact tr [D0, D1, D2, D3, C0, Yl0 l0, C1, Nl1 l1, nf, C0, Ym0 m0, C1, Ym1 m1, C2, Ym2 m2, C3, nf] (by kernel_rfl)
  | true =>
   cases l2 : decide (cmpQ (vdot n b) (vdot n c) < 0) with
   | false =>
    cases m0 : decide (0 < cmpQ (vdot n a) (vdot n c)) with
    | false =>
     exact tr [D0, D1, D2, D3, C0, Yl0 l0, C1, Yl1 l1, C2, Nl2 l2, C0, Nm0 m0, nf, nf, nf] (by kernel_rfl)
    | true =>
     cases m1 : decide (0 < cmpQ (vdot n a) (vdot n d)) with
     | false =>
      exact tr [D0, D1, D2, D3, C0, Yl0 l0, C1, Yl1 l1, C2, Nl2 l2, C0, Ym0 m0, C1, Nm1 m1, nf, nf] (by kernel_rfl)
     | true =>
      cases m2 : decide (0 < cmpQ (vdot n b) (vdot n c)) with
      | false =>
       exact tr [D0, D1, D2, D3, C0, Yl0 l0, C1, Yl1 l1, C2, Nl2 l2, C0, Ym0 m0, C1, Ym1 m1, C2, Nm2 m2, nf] (by kernel_rfl)
      | true =>
       exact tr [D0, D1, D2, D3, C0, Yl0 l0, C1, Yl1 l1, C2, Nl2 l2, C0, Ym0 m0, C1, Ym1 m1, C2, Ym2 m2, C3, nf] (by kernel_rfl)
   | true =>
    cases m0 : decide (0 < cmpQ (vdot n a) (vdot n c)) with
    | false =>
     cases l3 : decide (cmpQ (vdot n b) (vdot n d) < 0) with
     | true => exact tr [D0, D1, D2, D3, C0, Yl0 l0, C1, Yl1 l1, C2, Yl2 l2, C3, C0, Nm0 m0, nf, nf, Yl3 l3] (by kernel_rfl)
     | false => exact tr [D0, D1, D2, D3, C0, Yl0 l0, C1, Yl1 l1, C2, Yl2 l2, C3, C0, Nm0 m0, nf, nf, Nl3 l3] (by kernel_rfl)
    | true =>
     cases m1 : decide (0 < cmpQ (vdot n a) (vdot n d)) with
     | false =>
      cases l3 : decide (cmpQ (vdot n b) (vdot n d) < 0) with
      | true => exact tr [D0, D1, D2, D3, C0, Yl0 l0, C1, Yl1 l1, C2, Yl2 l2, C3, C0, Ym0 m0, C1, Nm1 m1, nf, Yl3 l3] (by kernel_rfl)
      | false => exact tr [D0, D1, D2, D3, C0, Yl0 l0, C1, Yl1 l1, C2, Yl2 l2, C3, C0, Ym0 m0, C1, Nm1 m1, nf, Nl3 l3] (by kernel_rfl)
     | true =>
      cases m2 : decide (0 < cmpQ (vdot n b) (vdot n c)) with
      | false =>
       cases l3 : decide (cmpQ (vdot n b) (vdot n d) < 0) with
       | true => exact tr [D0, D1, D2, D3, C0, Yl0 l0, C1, Yl1 l1, C2, Yl2 l2, C3, C0, Ym0 m0, C1, Ym1 m1, C2, Nm2 m2, Yl3 l3] (by kernel_rfl)
       | false => exact tr [D0, D1, D2, D3, C0, Yl0 l0, C1, Yl1 l1, C2, Yl2 l2, C3, C0, Ym0 m0, C1, Ym1 m1, C2, Nm2 m2, Nl3 l3] (by kernel_rfl)
      | true =>
       cases l3 : decide (cmpQ (vdot n b) (vdot n d) < 0) with
       | true => exact tr [D0, D1, D2, D3, C0, Yl0 l0, C1, Yl1 l1, C2, Yl2 l2, C3, C0, Ym0 m0, C1, Ym1 m1, C2, Ym2 m2, C3, Yl3 l3] (by kernel_rfl)
       | false => exact tr [D0, D1, D2, D3, C0, Yl0 l0, C1, Yl1 l1, C2, Yl2 l2, C3, C0, Ym0 m0, C1, Ym1 m1, C2, Ym2 m2, C3, Nl3 l3] (by kernel_rfl)
theorem getD_el (h : i < L.length) : L[i]? = some (L.getD i (0, 0)) := by rw [List.getD_eq_getElem?_getD, List.getElem?_eq_getElem h]; rfl
theorem el (h : i < L.length) : (L.map dV)[i]? = some (dV (L.getD i (0, 0))) := sel_map (getD_el h)
theorem elc (h : 0 < L.length) (i : Nat) : (L.map dV)[i % L.length]? = some (dV (Pg.cor L i)) := el (Nat.mod_lt _ h)
theorem bel (hb : ∀ a ∈ L, Bv k a) (h : i < L.length) : Bv k (L.getD i (0, 0)) := getD_bv hb i h
theorem bco (hb : ∀ a ∈ L, Bv k a) (h : 0 < L.length) (i : Nat) : Bv k (Pg.cor L i) := getD_bv hb _ (Nat.mod_lt _ h)
/-- A counter and a length. -/
def il_ (i : Nat) (L : List (Rat × Rat)) : Bool := decide ((i : Int) < ((L.map dV).length : Int))
theorem il_t (h : i < L.length) : il_ i L = true := decide_eq_true (by rw [List.length_map]; omega)
theorem il_f (h : ¬ i < L.length) : il_ i L = false := decide_eq_false (by rw [List.length_map]; omega)
theorem cor_lt (h : i + 1 < L.length) : Pg.cor L (i + 1) = L.getD (i + 1) (0, 0) := by unfold Pg.cor; rw [Nat.mod_eq_of_lt h]
theorem cor_ge (h : i < L.length) (g : ¬ i + 1 < L.length) : Pg.cor L (i + 1) = L.getD 0 (0, 0) := by unfold Pg.cor; rw [show i + 1 = L.length by omega, Nat.mod_self]
theorem e_next (h : i < L.length) (hn : L.length ≤ 1000) : Pure PP 134 [dL L, ni i] (.ag (dV (Pg.cor L (i + 1)))) := by
 by_cases g : i + 1 < L.length
 · rw [cor_lt g]
   exact tr [inc 6 i (by omega), ye (t := il_ (i + 1) L) (il_t g), inc 12 i (by omega), .sel _ _ _ (el g)] (by kernel_rfl)
 · rw [cor_ge h g]
   exact tr [inc 6 i (by omega), na (t := il_ (i + 1) L) (il_f g), .sel _ _ _ (el (L := L) (i := 0) (by omega))] (by kernel_rfl)
/-- The length, as it is divided by. -/
def le_ {P : Program} (t m : Nat) (h : L.length = m + 1) : Fa P := .eqv t (ni ((L.map dV).length : Int)) (ni ((m + 1 : Nat) : Int)) (by rw [List.length_map, h])
def rem_ {P : Program} (t i m : Nat) (h : L.length = m + 1) : Fa P := .eqv t (ni ((i : Int).tmod ((m + 1 : Nat) : Int))) (ni ((i % L.length : Nat) : Int)) (by rw [tmod_, h])
theorem e_corner (h : 0 < L.length) (i : Nat) : Pure PP 89 [dL L, ni i] (.ag (dV (Pg.cor L i))) := by
 obtain ⟨m, hm⟩ : ∃ m, L.length = m + 1 := ⟨L.length - 1, by omega⟩
 exact tr [le_ 8 m hm, rem_ 9 i m hm, .sel _ _ _ (elc h i)] (by kernel_rfl)
theorem e_numbers (hb : ∀ a ∈ L, Bv k a) (hn : L.length ≤ 1000) (hk : k ≤ 800000000000) : Pure PP 87 [dL L] (bo true) := by
 let X : Nat → St := fun i => at_ (fnOf PP 87) [(0, dL L), (3, ni i)] []
 refine pf (by kernel_rfl) (.to mo_ [] [0, 3] [] 0 [] (td' := lp (fnOf PP 87) 0) (σ' := X 0) ?_ (by kernel_rfl))
 refine Gd.loop X (fun i => i ≤ L.length) (fun i => L.length - i) ?_ _ (Nat.zero_le _)
 intro i hi ih
 by_cases h : i < L.length
 · exact .to mo_ [] [0, 3] [] 0 [ye (t := il_ i L) (il_t h), .sel _ _ _ (el h), cl (e_valid4 (bel hb h).1 hk), nf, .sel _ _ _ (el h), cl (e_valid4 (bel hb h).2 hk), nf, inc 9 i (by omega)] (ih (i + 1) h (by omega)) (by kernel_rfl)
 · exact fi [na (t := il_ i L) (il_f h)] (by kernel_rfl) (by kernel_rfl)
theorem e_area6 (hb : ∀ a ∈ L, Bv k a) (hn : L.length ≤ 100) (hk : k ≤ 10000) : Pure PP 92 [dL L] (.ag (dR (Pg.area L))) := by
 let f : Rat × Rat → Rat × Rat → Rat := fun a b => (a.1 - b.1) * (a.2 + b.2)
 let X : Nat × List V → St := fun x => at_ (fnOf PP 92) [(0, dL L), (2, .lp 0 0), (3, .lp 1 0), (4, ni x.1)] [.bx 28 z4, .bx 28 x.2]
 refine pf (by kernel_rfl) (.to mo_ [.wk 1] [0, 2, 3, 4] [0, 1] 2 [] (td' := lp (fnOf PP 92) 0) (σ' := X (0, [bo false, .sl [], bo false, .sl []])) ?_ (by kernel_rfl))
 refine Gd.loop X (fun x => x.1 ≤ L.length ∧ x.2 = dR (Pg.sum f ((Pg.sides L).take x.1))) (fun x => L.length - x.1) ?_ _ ⟨Nat.zero_le _, dR_0.symm⟩
 rintro ⟨i, cs⟩ ⟨hi, hcs⟩ ih
 simp only at hi hcs
 subst hcs
 by_cases h : i < L.length
 · have b1 := bel hb h
   have b2 := bco hb (by omega) (i + 1)
   exact .to mo_ [] [0, 2, 3, 4] [0, 1] 2 [ye (t := il_ i L) (il_t h), cl (e_next h (by omega)), .sel _ _ _ (el h), cl (e_sub4 b1.1 b2.1 (by omega)), .sel _ _ _ (el h), cl (e_add4 b1.2 b2.2 (by omega)), cl (e_mul4 (b1.1.sub b2.1) (b1.2.add b2.2) (by omega)), cl (e_add4 (tr_bits hb hn i) ((b1.1.sub b2.1).mul (b1.2.add b2.2)) (by omega)), inc 11 i (by omega)]
    (ih (i + 1, dR (Pg.sum f ((Pg.sides L).take i) + f (L.getD i (0, 0)) (Pg.cor L (i + 1)))) ⟨h, by rw [sum_take (f := f) rfl h]; rfl⟩ (by simp only; omega)) (by kernel_rfl)
 · have hs := tr_bits hb hn i
   rw [show Pg.area L = Pg.sum f ((Pg.sides L).take i) * Rat.divInt 1 2 by rw [← Pg.area_eq]; show Pg.sum f (Pg.sides L) * _ = _; rw [List.take_of_length_le (by rw [Pg.sides_len]; omega)]]
   exact fi [na (t := il_ i L) (il_f h), cl (e_of4 (x := 1) (y := 2) ⟨by decide, by decide⟩ ⟨by decide, by decide⟩), cl (e_mul4 hs half_bits (by omega))] (by kernel_rfl) (by kernel_rfl)
theorem dirs_bits (ba : Bv k a) (bb : Bv k b) (bc : Bv k c) (bd : Bv k d) {n : Rat × Rat} {i : Nat} (h : (Pg.dirs a b c d)[i]? = some n) : Bv (2 * k + 1) n := by
 have h := List.mem_of_getElem? h
 simp only [Pg.dirs, List.mem_cons, List.not_mem_nil, or_false] at h
 have e : k + k + 1 = 2 * k + 1 := by omega
 rcases h with rfl | rfl | rfl | rfl | rfl
 · exact e ▸ (bb.sub ba).turn
 · exact e ▸ (bd.sub bc).turn
 · exact e ▸ bb.sub ba
 · exact e ▸ bd.sub bc
 · exact e ▸ bc.sub ba
theorem e_meets6 (ba : Bv k a) (bb : Bv k b) (bc : Bv k c) (bd : Bv k d) (hk : 1000 * k + 10000 ≤ 800000000000) : Pure PP 90 [.ag (dV a), .ag (dV b), .ag (dV c), .ag (dV d)] (bo (Pg.meets6 a b c d)) := by
 let D : List (List V) := (Pg.dirs a b c d).map dV
 let X : Nat → St := fun i => at_ (fnOf PP 90) [(4, .lp 0 0), (5, .lp 1 0), (6, .lp 2 0), (7, .lp 3 0), (11, .ow 6), (12, ni i)] [.bx 84 (dV a), .bx 84 (dV b), .bx 84 (dV c), .bx 84 (dV d), .dead, .dead, .rw 84 8 D]
 refine pf (by kernel_rfl) (.to mo_ [] [4, 5, 6, 7, 11, 12] [0, 1, 2, 3, 6] 7 [cl (e_vsub5 bb ba (by omega)), cl (e_vsub5 bd bc (by omega)), cl (e_turn (vsub b a)), cl (e_turn (vsub d c)), cl (e_vsub5 bc ba (by omega))] (td' := lp (fnOf PP 90) 0) (σ' := X 0) ?_ (by kernel_rfl))
 refine Gd.loop X (fun i => i ≤ 5 ∧ ∀ t n, t < i → (Pg.dirs a b c d)[t]? = some n → Pg.btw n a b c d = false) (fun i => 5 - i) ?_ _ ⟨Nat.zero_le _, fun t n ht => absurd ht (Nat.not_lt_zero t)⟩
 rintro i ⟨hi, hI⟩ ih
 by_cases h : i < 5
 · obtain ⟨n, hn⟩ : ∃ n, (Pg.dirs a b c d)[i]? = some n := ⟨_, List.getElem?_eq_getElem h⟩
   have bn := dirs_bits ba bb bc bd hn
   cases g : Pg.btw n a b c d with
   | true =>
     rw [show Pg.meets6 a b c d = false by unfold Pg.meets6; rw [List.all_eq_false]; exact ⟨n, List.mem_of_getElem? hn, by simp [g]⟩]
     exact fi [ye (t := decide ((i : Int) < ((D.length : Nat) : Int))) (decide_eq_true (by show (i : Int) < 5; omega)), .sel D i _ (sel_map hn), .sel D i _ (sel_map hn), cl (e_btw bn ba bb bc bd (by omega)), ye g] (by kernel_rfl) (by kernel_rfl)
   | false =>
     exact .to mo_ [] [4, 5, 6, 7, 11, 12] [0, 1, 2, 3, 6] 7 [ye (t := decide ((i : Int) < ((D.length : Nat) : Int))) (decide_eq_true (by show (i : Int) < 5; omega)), .sel D i _ (sel_map hn), .sel D i _ (sel_map hn), cl (e_btw bn ba bb bc bd (by omega)), na g, inc 34 i (by omega)]
      (ih (i + 1) ⟨h, fun t n' ht hn' => by
        by_cases e : t = i
        · subst e; rw [hn] at hn'; cases hn'; exact g
        · exact hI t n' (by omega) hn'⟩ (by omega)) (by kernel_rfl)
 · rw [show Pg.meets6 a b c d = true by
    unfold Pg.meets6
    rw [List.all_eq_true]
    intro n hn
    obtain ⟨t, ht⟩ := List.getElem?_of_mem hn
    rw [hI t n (Nat.lt_of_lt_of_le (List.getElem?_eq_some_iff.1 ht).1 (show 5 ≤ i by omega)) ht]; rfl]
   exact fi [na (t := decide ((i : Int) < ((D.length : Nat) : Int))) (decide_eq_false (by show ¬ (i : Int) < 5; omega))] (by kernel_rfl) (by kernel_rfl)
/-- A gap, as the code finds it. -/
theorem gap_ {i k n : Nat} (hi : i < n) (hk : k < n) (hn : n ≤ 1000) : IntKind.i64.wrap ((k : Int) - (i : Int)) = (k : Int) - i ∧ IntKind.i64.wrap ((k : Int) - (i : Int) + (n : Int)) = ((k + n - i : Nat) : Int) := by
 constructor <;> (rw [IntKind.wrap_i64]; omega)
theorem e_valid6 (hb : ∀ a ∈ L, Bv k a) (hn : L.length ≤ 100) (hk : k ≤ 10000) : Pure PP 50 [dL L] (bo (Pg.valid6 L)) := by
 have hl : (L.map dV).length = L.length := List.length_map ..
 by_cases h1 : L.length < 3
 · rw [show Pg.valid6 L = false by unfold Pg.valid6; rw [decide_eq_false (by omega : ¬ 3 ≤ L.length)]; rfl]
   exact tr [ye (t := decide (((L.map dV).length : Int) < 3)) (decide_eq_true (by omega)), yt, yt] (by kernel_rfl)
 by_cases h2 : 12 < L.length
 · rw [show Pg.valid6 L = false by unfold Pg.valid6; rw [decide_eq_false (by omega : ¬ L.length ≤ 12)]; simp]
   exact tr [na (t := decide (((L.map dV).length : Int) < 3)) (decide_eq_false (by omega)), ye (t := decide ((12 : Int) < ((L.map dV).length : Int))) (decide_eq_true (by omega)), yt] (by kernel_rfl)
 obtain ⟨m, hm⟩ : ∃ m, L.length = m + 1 := ⟨L.length - 1, by omega⟩
 let X : Nat → St := fun i => at_ (fnOf PP 50) [(0, dL L), (3, ni i)] []
 let Y : Nat → Nat → St := fun i j => at_ (fnOf PP 50) [(0, dL L), (3, ni i), (4, ni j)] []
 refine pf (by kernel_rfl) (.to mo_ [] [0, 3] [] 0 [na (t := decide (((L.map dV).length : Int) < 3)) (decide_eq_false (by omega)), na (t := decide ((12 : Int) < ((L.map dV).length : Int))) (decide_eq_false (by omega)), cl (e_numbers hb (by omega) (by omega)), nf] (td' := lp (fnOf PP 50) 0) (σ' := X 0) ?_ (by kernel_rfl))
 have hall : Pg.valid6 L = (!(List.range L.length).any (Pg.bad6 L) && decide (0 < sgnZ (Pg.area L).num)) := by unfold Pg.valid6; rw [decide_eq_true (by omega : 3 ≤ L.length), decide_eq_true (by omega : L.length ≤ 12)]; rfl
 have hbad : ∀ i, i < L.length → Pg.bad6 L i = true → Pg.valid6 L = false := fun i hi h => by rw [hall, any_true hi h]; rfl
 refine Gd.loop X (fun i => i ≤ L.length ∧ ∀ t, t < i → Pg.bad6 L t = false) (fun i => L.length - i) ?_ _ ⟨Nat.zero_le _, fun t ht => absurd ht (Nat.not_lt_zero t)⟩
 rintro i ⟨hi, hI⟩ ih
 by_cases h : i < L.length
 · have b0 := bel hb h
   have b1 := bco hb (by omega) (i + 1)
   have b2 := bco hb (by omega) (i + 2)
   let F : List F_ := [ye (t := il_ i L) (il_t h), .sel _ _ _ (el h), inc 31 i (by omega), cl (e_corner (L := L) (by omega) (i + 1)), inc2 35 i (by omega), cl (e_corner (L := L) (by omega) (i + 2)), cl (e_side5 b0 b1 b2 (by omega))]
   cases hf : Pg.flat L i with
   | true =>
     rw [hbad i h (by unfold Pg.bad6; rw [hf]; rfl)]
     exact fi (F ++ [ye (t := Pg.flat L i) hf]) (by kernel_rfl) (by kernel_rfl)
   | false =>
     refine .to mo_ [] [0, 3, 4] [] 0 (F ++ [na (t := Pg.flat L i) hf]) (td' := lp (fnOf PP 50) 1) (σ' := Y i 0) ?_ (by kernel_rfl)
     refine Gd.loop (Y i) (fun j => j ≤ L.length ∧ ∀ t, t < j → Pg.p6 L i t = false) (fun j => L.length - j) ?_ _ ⟨Nat.zero_le _, fun t ht => absurd ht (Nat.not_lt_zero t)⟩
     rintro j ⟨hj, hJ⟩ jh
     by_cases g : j < L.length
     · have c0 := bel hb g
       have c1 := bco hb (by omega) (j + 1)
       let t1 : Bool := decide ((1 : Int) < (((j + L.length - i) % L.length : Nat) : Int))
       let t2 : Bool := decide ((((j + L.length - i) % L.length : Nat) : Int) < ((L.length - 1 : Nat) : Int))
       have gp := gap_ h g (by omega)
       have step : Pg.p6 L i j = false → Gd PP 50 (bo (Pg.valid6 L)) (lp (fnOf PP 50) 1) (Y i (j + 1)) := fun hp => jh (j + 1) ⟨g, fun t ht => by
         by_cases e : t = j
         · subst e; exact hp
         · exact hJ t (by omega)⟩ (by omega)
       let G : List F_ := [ye (t := il_ j L) (il_t g), .eqv 47 (ni (IntKind.i64.wrap ((j : Int) - (i : Int)))) (ni ((j : Int) - i)) (by rw [gp.1]), .eqv 50 (ni (IntKind.i64.wrap ((j : Int) - (i : Int) + ((L.map dV).length : Int)))) (ni ((j + L.length - i : Nat) : Int)) (by rw [hl, gp.2]), le_ 52 m hm, rem_ 53 (j + L.length - i) m hm]
       let G2 : F_ := .eqv 60 (ni (IntKind.i64.wrap (((L.map dV).length : Int) - 1))) (ni ((L.length - 1 : Nat) : Int)) (by rw [hl, IntKind.wrap_i64]; congr 2; omega)
       cases g1 : t1 with
       | false => exact .to mo_ [] [0, 3, 4] [] 0 (G ++ [na (t := t1) g1, nf, nf, inc 44 j (by omega)]) (step (by unfold Pg.p6; rw [show decide ((1 : Int) < (((j + L.length - i) % L.length : Nat) : Int)) = false from g1]; rfl)) (by kernel_rfl)
       | true =>
         cases g2 : t2 with
         | false => exact .to mo_ [] [0, 3, 4] [] 0 (G ++ [ye (t := t1) g1, G2, na (t := t2) g2, nf, inc 44 j (by omega)]) (step (by unfold Pg.p6; rw [show decide ((((j + L.length - i) % L.length : Nat) : Int) < ((L.length - 1 : Nat) : Int)) = false from g2, Bool.and_false]; rfl)) (by kernel_rfl)
         | true =>
           let H : List F_ := G ++ [ye (t := t1) g1, G2, ye (t := t2) g2, .sel _ _ _ (el h), inc 70 i (by omega), cl (e_corner (L := L) (by omega) (i + 1)), .sel _ _ _ (el g), inc 78 j (by omega), cl (e_corner (L := L) (by omega) (j + 1)), cl (e_meets6 b0 b1 c0 c1 (by omega))]
           have hp6 : Pg.p6 L i j = Pg.meets6 (L.getD i (0, 0)) (Pg.cor L (i + 1)) (L.getD j (0, 0)) (Pg.cor L (j + 1)) := by
             unfold Pg.p6
             rw [show decide ((1 : Int) < (((j + L.length - i) % L.length : Nat) : Int)) = true from g1, show decide ((((j + L.length - i) % L.length : Nat) : Int) < ((L.length - 1 : Nat) : Int)) = true from g2]
             rfl
           cases g3 : Pg.meets6 (L.getD i (0, 0)) (Pg.cor L (i + 1)) (L.getD j (0, 0)) (Pg.cor L (j + 1)) with
           | true =>
             rw [hbad i h (by unfold Pg.bad6; rw [any_true g (hp6.trans g3), Bool.or_true])]
             exact fi (H ++ [ye g3]) (by kernel_rfl) (by kernel_rfl)
           | false => exact .to mo_ [] [0, 3, 4] [] 0 (H ++ [na g3, inc 44 j (by omega)]) (step (hp6.trans g3)) (by kernel_rfl)
     · have k0 : Pg.bad6 L i = false := by unfold Pg.bad6; rw [hf, any_false fun t ht => hJ t (by omega)]; rfl
       exact .to mo_ [] [0, 3] [] 0 [na (t := il_ j L) (il_f g), inc 24 i (by omega)] (ih (i + 1) ⟨h, fun t ht => by
         by_cases e : t = i
         · subst e; exact k0
         · exact hI t (by omega)⟩ (by omega)) (by kernel_rfl)
 · rw [hall, any_false fun t ht => hI t (by omega)]
   exact fi [na (t := il_ i L) (il_f h), cl (e_area6 hb hn hk), cl (e_sign4 (Pg.area L))] (by kernel_rfl) (by kernel_rfl)
end
end Go.Proofs.YtnpdpjfdgialeaaGreatDoor.E
namespace Go.Proofs.YtnpdpjfdgialeaaGreatDoor.E.Pc
open Go.RowKit
set_option linter.unusedVariables false
set_option linter.unusedSimpArgs false
abbrev Vc := Rat × Rat
/-- Numbers of corners, as a row. -/
def cI (R : List Nat) : List Int := R.map fun (x : Nat) => (x : Int)
def ld (L : List Vc) (k : Nat) : Vc := L.getD k (0, 0)
def cyc (R : List Nat) (k : Nat) : Nat := R.getD (k % R.length) 0
def pv (R : List Nat) (p : Nat) : Nat := cyc R (p + R.length - 1)
def nx (R : List Nat) (p : Nat) : Nat := cyc R (p + 1 + R.length)
def md (R : List Nat) (p : Nat) : Nat := R.getD p 0
def sdR (L : List Vc) (R : List Nat) (p : Nat) : Int := vside (ld L (pv R p)) (ld L (md R p)) (ld L (nx R p))
/-- What is told of corners and of those that remain. -/
structure Rm (L : List Vc) (R : List Nat) (b : Nat) : Prop where
 r : ∀ x ∈ R, x < L.length
 n : 0 < R.length ∧ R.length ≤ 1000
 l : ∀ a ∈ L, Bv b a
 hb : 100 * b + 1000 ≤ 800000000000
section
variable {L : List Vc} {R : List Nat} {b p q m : Nat} {k : Int}
theorem cI_len (R : List Nat) : (zs (cI R)).length = R.length := by rw [zs_len]; exact List.length_map ..
theorem cI_at (h : p < R.length) : (zs (cI R))[p]? = some [ni ((md R p : Nat) : Int)] := zs_at (by
 unfold cI md
 rw [List.getElem?_map, List.getD_eq_getElem?_getD, List.getElem?_eq_getElem h]
 rfl)
theorem Rm.md (h : Rm L R b) (hp : p < R.length) : md R p < L.length := h.r _ (by unfold Pc.md; rw [List.getD_eq_getElem?_getD, List.getElem?_eq_getElem hp]; exact List.getElem_mem hp)
theorem Rm.cyc (h : Rm L R b) (q : Nat) : cyc R q < L.length := h.md (Nat.mod_lt _ h.n.1)
theorem ld_at (h : p < L.length) : (L.map dV)[p]? = some (dV (ld L p)) := by
 unfold ld
 rw [List.getElem?_map, List.getD_eq_getElem?_getD, List.getElem?_eq_getElem h]
 rfl
theorem Rm.bv (h : Rm L R b) (hp : p < L.length) : Bv b (ld L p) := h.l _ (by unfold ld; rw [List.getD_eq_getElem?_getD, List.getElem?_eq_getElem hp]; exact List.getElem_mem hp)
def mkNc (xs : List Operand) : Op := .nilCheck (xs.getD 0 (.tmp 0))
theorem one_of {α : Type} {xs : List α} (h : xs.length = 1) : ∃ x, xs = [x] := by
 match xs, h with
 | [x], _ => exact ⟨x, rfl⟩
/-- A pointer is not nil. -/
theorem x_ncI {P : Program} (l : List V) : Ext P mkNc [.ip l] [] [] (.ip l) := by
 intro B M h m w a o xs ho K hl hr _ _
 obtain ⟨x, rfl⟩ := one_of hl
 have hx := hr 0 x _ rfl rfl
 have hx2 := hx
 generalize hu : a.eval x = u at hx hx2
 cases hx with
 | ip _ b off z us h1 h2 h3 h4 =>
  refine Exec.val (u := .pointer (some ⟨b, off, none⟩)) (w' := w) ?_ (.same K hx2)
  simp only [mkNc, List.getD_cons_zero] at ho
  simp [execOp, ho, hu]
theorem x_ncL {P : Program} (b i : Nat) : Ext P mkNc [.lp b i] [] [] (.lp b i) := by
 intro B M h m w a o xs ho K hl hr _ _
 obtain ⟨x, rfl⟩ := one_of hl
 have hx := hr 0 x _ rfl rfl
 have hx2 := hx
 generalize hu : a.eval x = u at hx hx2
 cases hx with
 | lp _ _ _ g hg =>
  refine Exec.val (u := .pointer (some ⟨g, i, none⟩)) (w' := w) ?_ (.same K hx2)
  simp only [mkNc, List.getD_cons_zero] at ho
  simp [execOp, ho, hu]
def nI (t : Nat) (l : List V) : F_ := .ext (some t) mkNc [.ip l] [] [] (.ip l) (x_ncI l)
def nL (t b : Nat) : F_ := .ext (some t) mkNc [.lp b 0] [] [] (.lp b 0) (x_ncL b 0)
def fX (L : List Vc) (R : List Nat) : List V := [dL L, zl (cI R)]
/-- The inner function of around. -/
theorem e_at (h : Rm L R b) (hq : k + (R.length : Int) = (q : Int)) (hq2 : q ≤ 1000000) : Pure PP 190 [ni k, .ip [.ip (fX L R)]] (ni ((cyc R q : Nat) : Int)) := by
 obtain ⟨m, hm⟩ : ∃ m, R.length = m + 1 := ⟨R.length - 1, by have := h.n; omega⟩
 have hn := h.n
 have e := cI_at (R := R) (p := q % R.length) (Nat.mod_lt _ h.n.1)
 exact tr [nI 5 (fX L R), nI 10 (fX L R), .eqv 13 (ni ((zs (cI R)).length : Int)) (ni ((m + 1 : Nat) : Int)) (by rw [cI_len, hm]), wq 14 (k + ((m + 1 : Nat) : Int)) (q : Int) (by rw [← hm]; omega), nI 16 (fX L R), .eqv 19 (ni ((zs (cI R)).length : Int)) (ni ((m + 1 : Nat) : Int)) (by rw [cI_len, hm]), .eqv 20 (ni ((q : Int).tmod ((m + 1 : Nat) : Int))) (ni ((q % R.length : Nat) : Int)) (by rw [tmod_, hm]), .sel _ _ _ e] (by kernel_rfl)
theorem e_around (h : Rm L R b) (hp : p < R.length) : Pure PP 182 [.ip (fX L R), ni (p : Int)] (.tu [ni ((pv R p : Nat) : Int), ni ((nx R p : Nat) : Int)]) := by
 have hn := h.n
 have c1 := e_at (k := (p : Int) - 1) (q := p + R.length - 1) h (by omega) (by omega)
 have c2 := e_at (k := ((p + 1 : Nat) : Int)) (q := p + 1 + R.length) h (by omega) (by omega)
 exact tr [wq 10 ((p : Int) - 1) ((p : Int) - 1) (by omega), cl c1, inc 14 p (by omega), cl c2] (by kernel_rfl)
theorem e_sd (h : Rm L R b) (hp : p < R.length) : Pure PP 181 [.ip (fX L R), ni (p : Int)] (ni (sdR L R p)) := by
 have hpv := h.cyc (p + R.length - 1)
 have hnx := h.cyc (p + 1 + R.length)
 have hmd := h.md hp
 exact tr [cl (e_around h hp), nI 14 (fX L R), .sel _ _ _ (ld_at hpv), nI 21 (fX L R), nI 25 (fX L R), .sel _ _ _ (cI_at hp), .sel _ _ _ (ld_at hmd), nI 34 (fX L R), .sel _ _ _ (ld_at hnx), cl (e_side (h.bv hpv) (h.bv hmd) (h.bv hnx) h.hb)] (by kernel_rfl)
end
end Go.Proofs.YtnpdpjfdgialeaaGreatDoor.E.Pc
