/-
 PACKAGE polygon and its reference, by the engine: the third part.
-/
import Derived.Test.YtcfejkpadcccbaaGreatWalkPgD
import Derived.Test.YtcfejkpadcccbaaGreatWalkPgK
namespace Go.Proofs.YtcfejkpadcccbaaGreat.E
open Go.RowKit
set_option linter.unusedVariables false
section
variable {a b c d n p : Rat × Rat} {r q x : Rat} {i j k : Nat} {L : List (Rat × Rat)}
def dRR (r q : Rat) : V := .tu [.ag (dR r), .ag (dR q)]
theorem e_wider (br : Bq k r) (bq : Bq k q) (bx : Bq k x) (hk : 2 * k + 1 ≤ 800000000000) : Pure false PP 61 [.ag (dR r), .ag (dR q), .ag (dR x)] (dRR (Pg.less x r) (Pg.more x q)) := by
 unfold Pg.less Pg.more
 by_cases h1 : x < r <;> by_cases h2 : q < x <;> simp only [h1, h2, if_true, if_false]
 · exact tr [cl (e_rcmp bx br (by omega)), ye (t := decide (cmpQ x r < 0)) (by rw [cmpQ_neg]; exact decide_eq_true h1), cl (e_rcmp bx bq (by omega)), ye (t := decide (0 < cmpQ x q)) (by rw [cmpQ_pos]; exact decide_eq_true h2)] (by kernel_rfl)
 · exact tr [cl (e_rcmp bx br (by omega)), ye (t := decide (cmpQ x r < 0)) (by rw [cmpQ_neg]; exact decide_eq_true h1), cl (e_rcmp bx bq (by omega)), na (t := decide (0 < cmpQ x q)) (by rw [cmpQ_pos]; exact decide_eq_false h2)] (by kernel_rfl)
 · exact tr [cl (e_rcmp bx br (by omega)), na (t := decide (cmpQ x r < 0)) (by rw [cmpQ_neg]; exact decide_eq_false h1), cl (e_rcmp bx bq (by omega)), ye (t := decide (0 < cmpQ x q)) (by rw [cmpQ_pos]; exact decide_eq_true h2)] (by kernel_rfl)
 · exact tr [cl (e_rcmp bx br (by omega)), na (t := decide (cmpQ x r < 0)) (by rw [cmpQ_neg]; exact decide_eq_false h1), cl (e_rcmp bx bq (by omega)), na (t := decide (0 < cmpQ x q)) (by rw [cmpQ_pos]; exact decide_eq_false h2)] (by kernel_rfl)
theorem e_btw (bn : Bv j n) (ba : Bv k a) (bb : Bv k b) (bc : Bv k c) (bd : Bv k d) (hk : 100 * (j + k) + 1000 ≤ 800000000000) : Pure false PP 80 [.ag (dV n), .ag (dV a), .ag (dV b), .ag (dV c), .ag (dV d)] (bo (Pg.btw n a b c d)) := by
 unfold Pg.btw
 let D0 : F_ := cl (e_vdot5 bn ba (by omega))
 let D1 : F_ := cl (e_vdot5 bn bb (by omega))
 let D2 : F_ := cl (e_vdot5 bn bc (by omega))
 let D3 : F_ := cl (e_vdot5 bn bd (by omega))
 let C0 : F_ := cl (e_cmp4 (bn.dot ba) (bn.dot bc) (by omega))
 let C1 : F_ := cl (e_cmp4 (bn.dot ba) (bn.dot bd) (by omega))
 let C2 : F_ := cl (e_cmp4 (bn.dot bb) (bn.dot bc) (by omega))
 let C3 : F_ := cl (e_cmp4 (bn.dot bb) (bn.dot bd) (by omega))
 let Yl0 : decide (cmpQ (vdot n a) (vdot n c) < 0) = true → F_ := fun h => ye h
 let Nl0 : decide (cmpQ (vdot n a) (vdot n c) < 0) = false → F_ := fun h => na h
 let Yl1 : decide (cmpQ (vdot n a) (vdot n d) < 0) = true → F_ := fun h => ye h
 let Nl1 : decide (cmpQ (vdot n a) (vdot n d) < 0) = false → F_ := fun h => na h
 let Yl2 : decide (cmpQ (vdot n b) (vdot n c) < 0) = true → F_ := fun h => ye h
 let Nl2 : decide (cmpQ (vdot n b) (vdot n c) < 0) = false → F_ := fun h => na h
 let Yl3 : decide (cmpQ (vdot n b) (vdot n d) < 0) = true → F_ := fun h => ye h
 let Nl3 : decide (cmpQ (vdot n b) (vdot n d) < 0) = false → F_ := fun h => na h
 let Ym0 : decide (0 < cmpQ (vdot n a) (vdot n c)) = true → F_ := fun h => ye h
 let Nm0 : decide (0 < cmpQ (vdot n a) (vdot n c)) = false → F_ := fun h => na h
 let Ym1 : decide (0 < cmpQ (vdot n a) (vdot n d)) = true → F_ := fun h => ye h
 let Nm1 : decide (0 < cmpQ (vdot n a) (vdot n d)) = false → F_ := fun h => na h
 let Ym2 : decide (0 < cmpQ (vdot n b) (vdot n c)) = true → F_ := fun h => ye h
 let Nm2 : decide (0 < cmpQ (vdot n b) (vdot n c)) = false → F_ := fun h => na h
 let Ym3 : decide (0 < cmpQ (vdot n b) (vdot n d)) = true → F_ := fun h => ye h
 let Nm3 : decide (0 < cmpQ (vdot n b) (vdot n d)) = false → F_ := fun h => na h
 cases l0 : decide (cmpQ (vdot n a) (vdot n c) < 0) with
 | false =>
  cases m0 : decide (0 < cmpQ (vdot n a) (vdot n c)) with
  | false =>
   exact tr [D0, D1, D2, D3, C0, Nl0 l0, nf, nf, C0, Nm0 m0, nf, nf, nf] (by kernel_rfl)
  | true =>
   cases m1 : decide (0 < cmpQ (vdot n a) (vdot n d)) with
   | false =>
    exact tr [D0, D1, D2, D3, C0, Nl0 l0, nf, nf, C0, Ym0 m0, C1, Nm1 m1, nf, nf] (by kernel_rfl)
   | true =>
    cases m2 : decide (0 < cmpQ (vdot n b) (vdot n c)) with
    | false =>
     exact tr [D0, D1, D2, D3, C0, Nl0 l0, nf, nf, C0, Ym0 m0, C1, Ym1 m1, C2, Nm2 m2, nf] (by kernel_rfl)
    | true =>
     exact tr [D0, D1, D2, D3, C0, Nl0 l0, nf, nf, C0, Ym0 m0, C1, Ym1 m1, C2, Ym2 m2, C3, nf] (by kernel_rfl)
 | true =>
  cases l1 : decide (cmpQ (vdot n a) (vdot n d) < 0) with
  | false =>
   cases m0 : decide (0 < cmpQ (vdot n a) (vdot n c)) with
   | false =>
    exact tr [D0, D1, D2, D3, C0, Yl0 l0, C1, Nl1 l1, nf, C0, Nm0 m0, nf, nf, nf] (by kernel_rfl)
   | true =>
    cases m1 : decide (0 < cmpQ (vdot n a) (vdot n d)) with
    | false =>
     exact tr [D0, D1, D2, D3, C0, Yl0 l0, C1, Nl1 l1, nf, C0, Ym0 m0, C1, Nm1 m1, nf, nf] (by kernel_rfl)
    | true =>
     cases m2 : decide (0 < cmpQ (vdot n b) (vdot n c)) with
     | false =>
      exact tr [D0, D1, D2, D3, C0, Yl0 l0, C1, Nl1 l1, nf, C0, Ym0 m0, C1, Ym1 m1, C2, Nm2 m2, nf] (by kernel_rfl)
     | true =>
      exact tr [D0, D1, D2, D3, C0, Yl0 l0, C1, Nl1 l1, nf, C0, Ym0 m0, C1, Ym1 m1, C2, Ym2 m2, C3, nf] (by kernel_rfl)
  | true =>
   cases l2 : decide (cmpQ (vdot n b) (vdot n c) < 0) with
   | false =>
    cases m0 : decide (0 < cmpQ (vdot n a) (vdot n c)) with
    | false =>
     exact tr [D0, D1, D2, D3, C0, Yl0 l0, C1, Yl1 l1, C2, Nl2 l2, C0, Nm0 m0, nf, nf, nf] (by kernel_rfl)
    | true =>
     cases m1 : decide (0 < cmpQ (vdot n a) (vdot n d)) with
     | false =>
      exact tr [D0, D1, D2, D3, C0, Yl0 l0, C1, Yl1 l1, C2, Nl2 l2, C0, Ym0 m0, C1, Nm1 m1, nf, nf] (by kernel_rfl)
     | true =>
      cases m2 : decide (0 < cmpQ (vdot n b) (vdot n c)) with
      | false =>
       exact tr [D0, D1, D2, D3, C0, Yl0 l0, C1, Yl1 l1, C2, Nl2 l2, C0, Ym0 m0, C1, Ym1 m1, C2, Nm2 m2, nf] (by kernel_rfl)
      | true =>
       exact tr [D0, D1, D2, D3, C0, Yl0 l0, C1, Yl1 l1, C2, Nl2 l2, C0, Ym0 m0, C1, Ym1 m1, C2, Ym2 m2, C3, nf] (by kernel_rfl)
   | true =>
    cases m0 : decide (0 < cmpQ (vdot n a) (vdot n c)) with
    | false =>
     cases l3 : decide (cmpQ (vdot n b) (vdot n d) < 0) with
     | true => exact tr [D0, D1, D2, D3, C0, Yl0 l0, C1, Yl1 l1, C2, Yl2 l2, C3, C0, Nm0 m0, nf, nf, Yl3 l3] (by kernel_rfl)
     | false => exact tr [D0, D1, D2, D3, C0, Yl0 l0, C1, Yl1 l1, C2, Yl2 l2, C3, C0, Nm0 m0, nf, nf, Nl3 l3] (by kernel_rfl)
    | true =>
     cases m1 : decide (0 < cmpQ (vdot n a) (vdot n d)) with
     | false =>
      cases l3 : decide (cmpQ (vdot n b) (vdot n d) < 0) with
      | true => exact tr [D0, D1, D2, D3, C0, Yl0 l0, C1, Yl1 l1, C2, Yl2 l2, C3, C0, Ym0 m0, C1, Nm1 m1, nf, Yl3 l3] (by kernel_rfl)
      | false => exact tr [D0, D1, D2, D3, C0, Yl0 l0, C1, Yl1 l1, C2, Yl2 l2, C3, C0, Ym0 m0, C1, Nm1 m1, nf, Nl3 l3] (by kernel_rfl)
     | true =>
      cases m2 : decide (0 < cmpQ (vdot n b) (vdot n c)) with
      | false =>
       cases l3 : decide (cmpQ (vdot n b) (vdot n d) < 0) with
       | true => exact tr [D0, D1, D2, D3, C0, Yl0 l0, C1, Yl1 l1, C2, Yl2 l2, C3, C0, Ym0 m0, C1, Ym1 m1, C2, Nm2 m2, Yl3 l3] (by kernel_rfl)
       | false => exact tr [D0, D1, D2, D3, C0, Yl0 l0, C1, Yl1 l1, C2, Yl2 l2, C3, C0, Ym0 m0, C1, Ym1 m1, C2, Nm2 m2, Nl3 l3] (by kernel_rfl)
      | true =>
       cases l3 : decide (cmpQ (vdot n b) (vdot n d) < 0) with
       | true => exact tr [D0, D1, D2, D3, C0, Yl0 l0, C1, Yl1 l1, C2, Yl2 l2, C3, C0, Ym0 m0, C1, Ym1 m1, C2, Ym2 m2, C3, Yl3 l3] (by kernel_rfl)
       | false => exact tr [D0, D1, D2, D3, C0, Yl0 l0, C1, Yl1 l1, C2, Yl2 l2, C3, C0, Ym0 m0, C1, Ym1 m1, C2, Ym2 m2, C3, Nl3 l3] (by kernel_rfl)
theorem getD_el (h : i < L.length) : L[i]? = some (L.getD i (0, 0)) := by rw [List.getD_eq_getElem?_getD, List.getElem?_eq_getElem h]; rfl
theorem el (h : i < L.length) : (L.map dV)[i]? = some (dV (L.getD i (0, 0))) := sel_map (getD_el h)
theorem elc (h : 0 < L.length) (i : Nat) : (L.map dV)[i % L.length]? = some (dV (Pg.cor L i)) := el (Nat.mod_lt _ h)
theorem bel (hb : ∀ a ∈ L, Bv k a) (h : i < L.length) : Bv k (L.getD i (0, 0)) := getD_bv hb i h
theorem bco (hb : ∀ a ∈ L, Bv k a) (h : 0 < L.length) (i : Nat) : Bv k (Pg.cor L i) := getD_bv hb _ (Nat.mod_lt _ h)
/-- A counter and a length. -/
def il_ (i : Nat) (L : List (Rat × Rat)) : Bool := decide ((i : Int) < ((L.map dV).length : Int))
theorem il_t (h : i < L.length) : il_ i L = true := decide_eq_true (by rw [List.length_map]; omega)
theorem il_f (h : ¬ i < L.length) : il_ i L = false := decide_eq_false (by rw [List.length_map]; omega)
theorem cor_lt (h : i + 1 < L.length) : Pg.cor L (i + 1) = L.getD (i + 1) (0, 0) := by unfold Pg.cor; rw [Nat.mod_eq_of_lt h]
theorem cor_ge (h : i < L.length) (g : ¬ i + 1 < L.length) : Pg.cor L (i + 1) = L.getD 0 (0, 0) := by unfold Pg.cor; rw [show i + 1 = L.length by omega, Nat.mod_self]
theorem e_next (h : i < L.length) (hn : L.length ≤ 1000) : Pure false PP 41 [dL L, ni i] (.ag (dV (Pg.cor L (i + 1)))) := by
 by_cases g : i + 1 < L.length
 · rw [cor_lt g]
   exact tr [inc 6 i (by omega), ye (t := il_ (i + 1) L) (il_t g), inc 12 i (by omega), .sel _ _ _ (el g)] (by kernel_rfl)
 · rw [cor_ge h g]
   exact tr [inc 6 i (by omega), na (t := il_ (i + 1) L) (il_f g), .sel _ _ _ (el (L := L) (i := 0) (by omega))] (by kernel_rfl)
/-- The length, as it is divided by. -/
def le_ {s : Bool} {P : Program} (t m : Nat) (h : L.length = m + 1) : Fa s P := .eqv t (ni ((L.map dV).length : Int)) (ni ((m + 1 : Nat) : Int)) (by rw [List.length_map, h])
theorem tmod_ (i m : Nat) : ((i : Int).tmod (m : Int)) = ((i % m : Nat) : Int) := (Int.ofNat_tmod i m).symm
def rem_ {s : Bool} {P : Program} (t i m : Nat) (h : L.length = m + 1) : Fa s P := .eqv t (ni ((i : Int).tmod ((m + 1 : Nat) : Int))) (ni ((i % L.length : Nat) : Int)) (by rw [tmod_, h])
theorem e_corner (h : 0 < L.length) (i : Nat) : Pure false PP 57 [dL L, ni i] (.ag (dV (Pg.cor L i))) := by
 obtain ⟨m, hm⟩ : ∃ m, L.length = m + 1 := ⟨L.length - 1, by omega⟩
 exact tr [le_ 8 m hm, rem_ 9 i m hm, .sel _ _ _ (elc h i)] (by kernel_rfl)
theorem e_numbers (hb : ∀ a ∈ L, Bv k a) (hn : L.length ≤ 1000) (hk : k ≤ 800000000000) : Pure false PP 20 [dL L] (bo true) := by
 let X : Nat → St := fun i => at_ (fnOf PP 20) [(0, dL L), (3, ni i)] []
 refine pf (by kernel_rfl) (.to mo_ [] [0, 3] [] 0 [] (td' := lp (fnOf PP 20) 0) (σ' := X 0) ?_ (by kernel_rfl))
 refine Gd.loop X (fun i => i ≤ L.length) (fun i => L.length - i) ?_ _ (Nat.zero_le _)
 intro i hi ih
 by_cases h : i < L.length
 · exact .to mo_ [] [0, 3] [] 0 [ye (t := il_ i L) (il_t h), .sel _ _ _ (el h), cl (e_valid4 (bel hb h).1 hk), nf, .sel _ _ _ (el h), cl (e_valid4 (bel hb h).2 hk), nf, inc 9 i (by omega)] (ih (i + 1) h (by omega)) (by kernel_rfl)
 · exact fi [na (t := il_ i L) (il_f h)] (by kernel_rfl) (by kernel_rfl)
theorem e_area6 (hb : ∀ a ∈ L, Bv k a) (hn : L.length ≤ 100) (hk : k ≤ 10000) : Pure false PP 25 [dL L] (.ag (dR (Pg.area L))) := by
 let f : Rat × Rat → Rat × Rat → Rat := fun a b => (a.1 - b.1) * (a.2 + b.2)
 let X : Nat × List V → St := fun x => at_ (fnOf PP 25) [(0, dL L), (2, .lp 0 0), (3, .lp 1 0), (4, ni x.1)] [.bx 33 z4, .bx 33 x.2]
 refine pf (by kernel_rfl) (.to mo_ [.wk 1] [0, 2, 3, 4] [0, 1] 2 [] (td' := lp (fnOf PP 25) 0) (σ' := X (0, [bo false, .dg [], bo false, .dg []])) ?_ (by kernel_rfl))
 refine Gd.loop X (fun x => x.1 ≤ L.length ∧ x.2 = dR (Pg.sum f ((Pg.sides L).take x.1))) (fun x => L.length - x.1) ?_ _ ⟨Nat.zero_le _, dR_0.symm⟩
 rintro ⟨i, cs⟩ ⟨hi, hcs⟩ ih
 simp only at hi hcs
 subst hcs
 by_cases h : i < L.length
 · have b1 := bel hb h
   have b2 := bco hb (by omega) (i + 1)
   exact .to mo_ [] [0, 2, 3, 4] [0, 1] 2 [ye (t := il_ i L) (il_t h), cl (e_next h (by omega)), .sel _ _ _ (el h), cl (e_sub4 b1.1 b2.1 (by omega)), .sel _ _ _ (el h), cl (e_add4 b1.2 b2.2 (by omega)), cl (e_mul4 (b1.1.sub b2.1) (b1.2.add b2.2) (by omega)), cl (e_add4 (tr_bits hb hn i) ((b1.1.sub b2.1).mul (b1.2.add b2.2)) (by omega)), inc 11 i (by omega)]
    (ih (i + 1, dR (Pg.sum f ((Pg.sides L).take i) + f (L.getD i (0, 0)) (Pg.cor L (i + 1)))) ⟨h, by rw [sum_take (f := f) rfl h]; rfl⟩ (by simp only; omega)) (by kernel_rfl)
 · have hs := tr_bits hb hn i
   rw [show Pg.area L = Pg.sum f ((Pg.sides L).take i) * Rat.divInt 1 2 by rw [← Pg.area_eq]; show Pg.sum f (Pg.sides L) * _ = _; rw [List.take_of_length_le (by rw [Pg.sides_len]; omega)]]
   exact fi [na (t := il_ i L) (il_f h), cl (e_of4 (x := 1) (y := 2) ⟨by decide, by decide⟩ ⟨by decide, by decide⟩), cl (e_mul4 hs half_bits (by omega))] (by kernel_rfl) (by kernel_rfl)
theorem dirs_bits (ba : Bv k a) (bb : Bv k b) (bc : Bv k c) (bd : Bv k d) {n : Rat × Rat} {i : Nat} (h : (Pg.dirs a b c d)[i]? = some n) : Bv (2 * k + 1) n := by
 have h := List.mem_of_getElem? h
 simp only [Pg.dirs, List.mem_cons, List.not_mem_nil, or_false] at h
 have e : k + k + 1 = 2 * k + 1 := by omega
 rcases h with rfl | rfl | rfl | rfl | rfl
 · exact e ▸ (bb.sub ba).turn
 · exact e ▸ (bd.sub bc).turn
 · exact e ▸ bb.sub ba
 · exact e ▸ bd.sub bc
 · exact e ▸ bc.sub ba
theorem e_meets6 (ba : Bv k a) (bb : Bv k b) (bc : Bv k c) (bd : Bv k d) (hk : 1000 * k + 10000 ≤ 800000000000) : Pure false PP 33 [.ag (dV a), .ag (dV b), .ag (dV c), .ag (dV d)] (bo (Pg.meets6 a b c d)) := by
 let D : List (List V) := (Pg.dirs a b c d).map dV
 let X : Nat → St := fun i => at_ (fnOf PP 33) [(4, .lp 0 0), (5, .lp 1 0), (6, .lp 2 0), (7, .lp 3 0), (11, .ow 6), (12, ni i)] [.bx 35 (dV a), .bx 35 (dV b), .bx 35 (dV c), .bx 35 (dV d), .dead, .dead, .rw 35 8 D]
 refine pf (by kernel_rfl) (.to mo_ [] [4, 5, 6, 7, 11, 12] [0, 1, 2, 3, 6] 7 [cl (e_vsub5 bb ba (by omega)), cl (e_vsub5 bd bc (by omega)), cl (e_turn (vsub b a)), cl (e_turn (vsub d c)), cl (e_vsub5 bc ba (by omega))] (td' := lp (fnOf PP 33) 0) (σ' := X 0) ?_ (by kernel_rfl))
 refine Gd.loop X (fun i => i ≤ 5 ∧ ∀ t n, t < i → (Pg.dirs a b c d)[t]? = some n → Pg.btw n a b c d = false) (fun i => 5 - i) ?_ _ ⟨Nat.zero_le _, fun t n ht => absurd ht (Nat.not_lt_zero t)⟩
 rintro i ⟨hi, hI⟩ ih
 by_cases h : i < 5
 · obtain ⟨n, hn⟩ : ∃ n, (Pg.dirs a b c d)[i]? = some n := ⟨_, List.getElem?_eq_getElem h⟩
   have bn := dirs_bits ba bb bc bd hn
   cases g : Pg.btw n a b c d with
   | true =>
     rw [show Pg.meets6 a b c d = false by unfold Pg.meets6; rw [List.all_eq_false]; exact ⟨n, List.mem_of_getElem? hn, by simp [g]⟩]
     exact fi [ye (t := decide ((i : Int) < ((D.length : Nat) : Int))) (decide_eq_true (by show (i : Int) < 5; omega)), .sel D i _ (sel_map hn), .sel D i _ (sel_map hn), cl (e_btw bn ba bb bc bd (by omega)), ye g] (by kernel_rfl) (by kernel_rfl)
   | false =>
     exact .to mo_ [] [4, 5, 6, 7, 11, 12] [0, 1, 2, 3, 6] 7 [ye (t := decide ((i : Int) < ((D.length : Nat) : Int))) (decide_eq_true (by show (i : Int) < 5; omega)), .sel D i _ (sel_map hn), .sel D i _ (sel_map hn), cl (e_btw bn ba bb bc bd (by omega)), na g, inc 34 i (by omega)]
      (ih (i + 1) ⟨h, fun t n' ht hn' => by
        by_cases e : t = i
        · subst e; rw [hn] at hn'; cases hn'; exact g
        · exact hI t n' (by omega) hn'⟩ (by omega)) (by kernel_rfl)
 · rw [show Pg.meets6 a b c d = true by
    unfold Pg.meets6
    rw [List.all_eq_true]
    intro n hn
    obtain ⟨t, ht⟩ := List.getElem?_of_mem hn
    rw [hI t n (Nat.lt_of_lt_of_le (List.getElem?_eq_some_iff.1 ht).1 (show 5 ≤ i by omega)) ht]; rfl]
   exact fi [na (t := decide ((i : Int) < ((D.length : Nat) : Int))) (decide_eq_false (by show ¬ (i : Int) < 5; omega))] (by kernel_rfl) (by kernel_rfl)
/-- A gap, as the code finds it. -/
theorem gap_ {i k n : Nat} (hi : i < n) (hk : k < n) (hn : n ≤ 1000) : IntKind.i64.wrap ((k : Int) - (i : Int)) = (k : Int) - i ∧ IntKind.i64.wrap ((k : Int) - (i : Int) + (n : Int)) = ((k + n - i : Nat) : Int) := by
 constructor <;> (rw [IntKind.wrap_i64]; omega)
theorem inc2_ {i : Nat} (h : i < 9223372036854775806) : IntKind.i64.wrap ((i : Int) + 2) = ((i + 2 : Nat) : Int) := by rw [IntKind.wrap_i64]; omega
def inc2 {s : Bool} {P : Program} (t i : Nat) (h : i < 9223372036854775806) : Fa s P := .eqv t (ni (IntKind.i64.wrap ((i : Int) + 2))) (ni ((i + 2 : Nat) : Int)) (by rw [inc2_ h])
theorem e_valid6 (hb : ∀ a ∈ L, Bv k a) (hn : L.length ≤ 100) (hk : k ≤ 10000) : Pure false PP 15 [dL L] (bo (Pg.valid6 L)) := by
 have hl : (L.map dV).length = L.length := List.length_map ..
 by_cases h1 : L.length < 3
 · rw [show Pg.valid6 L = false by unfold Pg.valid6; rw [decide_eq_false (by omega : ¬ 3 ≤ L.length)]; rfl]
   exact tr [ye (t := decide (((L.map dV).length : Int) < 3)) (decide_eq_true (by omega)), yt, yt] (by kernel_rfl)
 by_cases h2 : 12 < L.length
 · rw [show Pg.valid6 L = false by unfold Pg.valid6; rw [decide_eq_false (by omega : ¬ L.length ≤ 12)]; simp]
   exact tr [na (t := decide (((L.map dV).length : Int) < 3)) (decide_eq_false (by omega)), ye (t := decide ((12 : Int) < ((L.map dV).length : Int))) (decide_eq_true (by omega)), yt] (by kernel_rfl)
 obtain ⟨m, hm⟩ : ∃ m, L.length = m + 1 := ⟨L.length - 1, by omega⟩
 let X : Nat → St := fun i => at_ (fnOf PP 15) [(0, dL L), (3, ni i)] []
 let Y : Nat → Nat → St := fun i j => at_ (fnOf PP 15) [(0, dL L), (3, ni i), (4, ni j)] []
 refine pf (by kernel_rfl) (.to mo_ [] [0, 3] [] 0 [na (t := decide (((L.map dV).length : Int) < 3)) (decide_eq_false (by omega)), na (t := decide ((12 : Int) < ((L.map dV).length : Int))) (decide_eq_false (by omega)), cl (e_numbers hb (by omega) (by omega)), nf] (td' := lp (fnOf PP 15) 0) (σ' := X 0) ?_ (by kernel_rfl))
 have hall : Pg.valid6 L = (!(List.range L.length).any (Pg.bad6 L) && decide (0 < sgnZ (Pg.area L).num)) := by unfold Pg.valid6; rw [decide_eq_true (by omega : 3 ≤ L.length), decide_eq_true (by omega : L.length ≤ 12)]; rfl
 have hbad : ∀ i, i < L.length → Pg.bad6 L i = true → Pg.valid6 L = false := fun i hi h => by rw [hall, any_true hi h]; rfl
 refine Gd.loop X (fun i => i ≤ L.length ∧ ∀ t, t < i → Pg.bad6 L t = false) (fun i => L.length - i) ?_ _ ⟨Nat.zero_le _, fun t ht => absurd ht (Nat.not_lt_zero t)⟩
 rintro i ⟨hi, hI⟩ ih
 by_cases h : i < L.length
 · have b0 := bel hb h
   have b1 := bco hb (by omega) (i + 1)
   have b2 := bco hb (by omega) (i + 2)
   let F : List F_ := [ye (t := il_ i L) (il_t h), .sel _ _ _ (el h), inc 31 i (by omega), cl (e_corner (L := L) (by omega) (i + 1)), inc2 35 i (by omega), cl (e_corner (L := L) (by omega) (i + 2)), cl (e_side5 b0 b1 b2 (by omega))]
   cases hf : Pg.flat L i with
   | true =>
     rw [hbad i h (by unfold Pg.bad6; rw [hf]; rfl)]
     exact fi (F ++ [ye (t := Pg.flat L i) hf]) (by kernel_rfl) (by kernel_rfl)
   | false =>
     refine .to mo_ [] [0, 3, 4] [] 0 (F ++ [na (t := Pg.flat L i) hf]) (td' := lp (fnOf PP 15) 1) (σ' := Y i 0) ?_ (by kernel_rfl)
     refine Gd.loop (Y i) (fun j => j ≤ L.length ∧ ∀ t, t < j → Pg.p6 L i t = false) (fun j => L.length - j) ?_ _ ⟨Nat.zero_le _, fun t ht => absurd ht (Nat.not_lt_zero t)⟩
     rintro j ⟨hj, hJ⟩ jh
     by_cases g : j < L.length
     · have c0 := bel hb g
       have c1 := bco hb (by omega) (j + 1)
       let t1 : Bool := decide ((1 : Int) < (((j + L.length - i) % L.length : Nat) : Int))
       let t2 : Bool := decide ((((j + L.length - i) % L.length : Nat) : Int) < ((L.length - 1 : Nat) : Int))
       have gp := gap_ h g (by omega)
       have step : Pg.p6 L i j = false → Gd false PP 15 (bo (Pg.valid6 L)) (lp (fnOf PP 15) 1) (Y i (j + 1)) := fun hp => jh (j + 1) ⟨g, fun t ht => by
         by_cases e : t = j
         · subst e; exact hp
         · exact hJ t (by omega)⟩ (by omega)
       let G : List F_ := [ye (t := il_ j L) (il_t g), .eqv 47 (ni (IntKind.i64.wrap ((j : Int) - (i : Int)))) (ni ((j : Int) - i)) (by rw [gp.1]), .eqv 50 (ni (IntKind.i64.wrap ((j : Int) - (i : Int) + ((L.map dV).length : Int)))) (ni ((j + L.length - i : Nat) : Int)) (by rw [hl, gp.2]), le_ 52 m hm, rem_ 53 (j + L.length - i) m hm]
       let G2 : F_ := .eqv 60 (ni (IntKind.i64.wrap (((L.map dV).length : Int) - 1))) (ni ((L.length - 1 : Nat) : Int)) (by rw [hl, IntKind.wrap_i64]; congr 2; omega)
       cases g1 : t1 with
       | false => exact .to mo_ [] [0, 3, 4] [] 0 (G ++ [na (t := t1) g1, nf, nf, inc 44 j (by omega)]) (step (by unfold Pg.p6; rw [show decide ((1 : Int) < (((j + L.length - i) % L.length : Nat) : Int)) = false from g1]; rfl)) (by kernel_rfl)
       | true =>
         cases g2 : t2 with
         | false => exact .to mo_ [] [0, 3, 4] [] 0 (G ++ [ye (t := t1) g1, G2, na (t := t2) g2, nf, inc 44 j (by omega)]) (step (by unfold Pg.p6; rw [show decide ((((j + L.length - i) % L.length : Nat) : Int) < ((L.length - 1 : Nat) : Int)) = false from g2, Bool.and_false]; rfl)) (by kernel_rfl)
         | true =>
           let H : List F_ := G ++ [ye (t := t1) g1, G2, ye (t := t2) g2, .sel _ _ _ (el h), inc 70 i (by omega), cl (e_corner (L := L) (by omega) (i + 1)), .sel _ _ _ (el g), inc 78 j (by omega), cl (e_corner (L := L) (by omega) (j + 1)), cl (e_meets6 b0 b1 c0 c1 (by omega))]
           have hp6 : Pg.p6 L i j = Pg.meets6 (L.getD i (0, 0)) (Pg.cor L (i + 1)) (L.getD j (0, 0)) (Pg.cor L (j + 1)) := by
             unfold Pg.p6
             rw [show decide ((1 : Int) < (((j + L.length - i) % L.length : Nat) : Int)) = true from g1, show decide ((((j + L.length - i) % L.length : Nat) : Int) < ((L.length - 1 : Nat) : Int)) = true from g2]
             rfl
           cases g3 : Pg.meets6 (L.getD i (0, 0)) (Pg.cor L (i + 1)) (L.getD j (0, 0)) (Pg.cor L (j + 1)) with
           | true =>
             rw [hbad i h (by unfold Pg.bad6; rw [any_true g (hp6.trans g3), Bool.or_true])]
             exact fi (H ++ [ye g3]) (by kernel_rfl) (by kernel_rfl)
           | false => exact .to mo_ [] [0, 3, 4] [] 0 (H ++ [na g3, inc 44 j (by omega)]) (step (hp6.trans g3)) (by kernel_rfl)
     · have k0 : Pg.bad6 L i = false := by unfold Pg.bad6; rw [hf, any_false fun t ht => hJ t (by omega)]; rfl
       exact .to mo_ [] [0, 3] [] 0 [na (t := il_ j L) (il_f g), inc 24 i (by omega)] (ih (i + 1) ⟨h, fun t ht => by
         by_cases e : t = i
         · subst e; exact k0
         · exact hI t (by omega)⟩ (by omega)) (by kernel_rfl)
 · rw [hall, any_false fun t ht => hI t (by omega)]
   exact fi [na (t := il_ i L) (il_f h), cl (e_area6 hb hn hk), cl (e_sign4 (Pg.area L))] (by kernel_rfl) (by kernel_rfl)
end
end Go.Proofs.YtcfejkpadcccbaaGreat.E
namespace Go.Proofs.YtcfejkpadcccbaaGreat.E
open Go.RowKit
set_option linter.unusedVariables false
section
variable {a b c d n p : Rat × Rat} {r q x : Rat} {i j k : Nat} {L : List (Rat × Rat)}
def dVV (a b : Rat × Rat) : V := .tu [.ag (dV a), .ag (dV b)]
def z8 : List V := [bo false, .nl true, bo false, .nl true, bo false, .nl true, bo false, .nl true]
theorem dV_0 : dV (0, 0) = [bo false, .dg [], bo false, .dg [], bo false, .dg [], bo false, .dg []] := by
 unfold dV; simp only [dR_0]; rfl
theorem less_comm (r x : Rat) : Pg.less x r = Pg.less r x := by unfold Pg.less; split <;> split <;> grind
theorem more_comm (r x : Rat) : Pg.more x r = Pg.more r x := by unfold Pg.more; split <;> split <;> grind
theorem box_0 (h : L.length = 0) : Pg.box L = ((0, 0), (0, 0)) := if_pos h
theorem box_1 (h : ¬ L.length = 0) : Pg.box L = (Pg.lo L L.length, Pg.hi L L.length) := if_neg h
theorem e_box6 (hb : ∀ a ∈ L, Bv k a) (hn : L.length ≤ 100) (hk : k ≤ 10000) : Pure false PP 22 [dL L] (dVV (Pg.box L).1 (Pg.box L).2) := by
 have hl : (L.map dV).length = L.length := List.length_map ..
 by_cases h0 : L.length = 0
 · rw [box_0 h0, dVV, dV_0]
   exact pf (by kernel_rfl) (fiG [.wk 0, .wk 1] [ye (t := ((L.map dV).length : Int) == 0) (by simp [h0])] (by kernel_rfl) (by kernel_rfl))
 rw [box_1 h0]
 have hg : ∀ i, i < L.length → Bv k (L.getD i (0, 0)) := fun i hi => bel hb hi
 let X : Nat → St := fun i => at_ (fnOf PP 22) [(0, dL L), (2, .lp 0 0), (3, .lp 1 0), (4, .lp 2 0), (5, .lp 3 0), (6, ni i)] [.bx 35 z8, .bx 35 z8, .bx 35 (dV (Pg.lo L i)), .bx 35 (dV (Pg.hi L i))]
 have hst : Gd false PP 22 (dVV (Pg.lo L L.length) (Pg.hi L L.length)) (lp (fnOf PP 22) 0) (X 1) := by
  refine Gd.loop X (fun i => 1 ≤ i ∧ i ≤ L.length) (fun i => L.length - i) ?_ _ ⟨Nat.le_refl _, by omega⟩
  rintro i ⟨h1, hi⟩ ih
  have bl := lo_bits hg (by omega) i hi
  have bh := hi_bits hg (by omega) i hi
  by_cases h : i < L.length
  · have ba := hg i h
    exact .to mo_ [] [0, 2, 3, 4, 5, 6] [0, 1, 2, 3] 4 [ye (t := il_ i L) (il_t h), .sel _ _ _ (el h), cl (e_less bl.1 ba.1 (by omega)), .sel _ _ _ (el h), cl (e_less bl.2 ba.2 (by omega)), .sel _ _ _ (el h), cl (e_more bh.1 ba.1 (by omega)), .sel _ _ _ (el h), cl (e_more bh.2 ba.2 (by omega)), inc 23 i (by omega)]
     (ih (i + 1) ⟨by omega, h⟩ (by omega)) (by kernel_rfl)
  · rw [show L.length = i by omega]
    exact fi [na (t := il_ i L) (il_f h)] (by kernel_rfl) (by kernel_rfl)
 have h1 : X 1 = at_ (fnOf PP 22) [(0, dL L), (2, .lp 0 0), (3, .lp 1 0), (4, .lp 2 0), (5, .lp 3 0), (6, ni 1)] [.bx 35 z8, .bx 35 z8, .bx 35 (dV (L.getD 0 (0, 0))), .bx 35 (dV (L.getD 0 (0, 0)))] := by
  show at_ _ [_, _, _, _, _, _] [_, _, .bx _ (dV (Pg.lo L 1)), .bx _ (dV (Pg.hi L 1))] = _
  rw [lo_one, hi_one]; rfl
 rw [h1] at hst
 exact pf (by kernel_rfl) (.to mo_ [] [0, 2, 3, 4, 5, 6] [0, 1, 2, 3] 4 [na (t := ((L.map dV).length : Int) == 0) (by simp; intro e; exact h0 (by rw [e]; rfl)), .sel _ _ _ (el (L := L) (i := 0) (by omega)), .sel _ _ _ (el (L := L) (i := 0) (by omega))] hst (by kernel_rfl))
theorem e_box (hb : ∀ a ∈ L, Bv k a) (hn : L.length ≤ 100) (hk : k ≤ 10000) : Pure false PP 21 [dL L] (dVV (Pg.box L).1 (Pg.box L).2) := by
 have hl : (L.map dV).length = L.length := List.length_map ..
 by_cases h0 : L.length = 0
 · rw [box_0 h0, dVV, dV_0]
   exact pf (by kernel_rfl) (fiG [.wk 0, .wk 1] [ye (t := ((L.map dV).length : Int) == 0) (by simp [h0])] (by kernel_rfl) (by kernel_rfl))
 rw [box_1 h0]
 have hg : ∀ i, i < L.length → Bv k (L.getD i (0, 0)) := fun i hi => bel hb hi
 let X : Nat → St := fun i => at_ (fnOf PP 21) [(0, dL L), (2, .lp 0 0), (3, .lp 1 0), (4, .lp 2 0), (5, .lp 3 0), (19, dL L), (20, ni (L.map dV).length), (21, ni i)] [.bx 35 z8, .bx 35 z8, .bx 35 (dV (Pg.lo L i)), .bx 35 (dV (Pg.hi L i))]
 refine pf (by kernel_rfl) (.to mo_ [] [0, 2, 3, 4, 5, 19, 20, 21] [0, 1, 2, 3] 4 [na (t := ((L.map dV).length : Int) == 0) (by simp; intro e; exact h0 (by rw [e]; rfl)), .sel _ _ _ (el (L := L) (i := 0) (by omega)), .sel _ _ _ (el (L := L) (i := 0) (by omega))] (td' := lp (fnOf PP 21) 0) (σ' := X 0) ?_ (by kernel_rfl))
 refine Gd.loop X (fun i => i ≤ L.length) (fun i => L.length - i) ?_ _ (Nat.zero_le _)
 rintro i hi ih
 have bl := lo_bits hg (by omega) i hi
 have bh := hi_bits hg (by omega) i hi
 by_cases h : i < L.length
 · have ba := hg i h
   have w1 := e_wider bl.1 bh.1 ba.1 (by omega)
   have w2 := e_wider bl.2 bh.2 ba.2 (by omega)
   rw [less_comm, more_comm] at w1 w2
   exact .to mo_ [] [0, 2, 3, 4, 5, 19, 20, 21] [0, 1, 2, 3] 4 [ye (t := il_ i L) (il_t h), .sel _ _ _ (el h), cl w1, cl w2, inc 49 i (by omega)]
    (ih (i + 1) h (by omega)) (by kernel_rfl)
 · rw [show L.length = i by omega]
   exact fi [na (t := il_ i L) (il_f h)] (by kernel_rfl) (by kernel_rfl)
theorem fs_end {i : Nat} (h1 : 1 ≤ i) (h2 : ¬ i + 1 < L.length) (g : ¬ Pg.area L = 0) : vsca (Pg.fs L i) (Rat.divInt 1 1 / Pg.area L) = Pg.center L := by
 rw [← Pg.center_eq]
 unfold Pg.center6 Pg.fs
 rw [Pg.area_eq, if_neg g, List.take_of_length_le (by rw [fan_len]; omega)]
theorem e_center6 (hb : ∀ a ∈ L, Bv k a) (hn : L.length ≤ 100) (hk : k ≤ 10000) : Pure false PP 28 [dL L] (.ag (dV (Pg.center L))) := by
 have ha := area_bits hb hn
 by_cases g : Pg.area L = 0
 · rw [show Pg.center L = (0, 0) by rw [← Pg.center_eq]; unfold Pg.center6; rw [Pg.area_eq, if_pos g], dV_0]
   exact pf (by kernel_rfl) (fiG [.wk 0] [cl (e_area6 hb hn hk), cl (e_sign4 (Pg.area L)), ye (t := sgnZ (Pg.area L).num == 0) (by rw [g]; rfl)] (by kernel_rfl) (by kernel_rfl))
 have hs : (sgnZ (Pg.area L).num == 0) = false := by
  have : (Pg.area L).num ≠ 0 := fun e => g (Rat.num_eq_zero.1 e)
  unfold sgnZ cmpZ
  rcases Int.lt_trichotomy (Pg.area L).num 0 with h | h | h
  · rw [if_pos h]; rfl
  · exact absurd h this
  · rw [if_neg (by omega), if_pos (by omega)]; rfl
 have hL : 0 < L.length := by
  rcases Nat.eq_zero_or_pos L.length with h | h
  · exact absurd (by rw [List.length_eq_zero_iff.1 h]; exact area_nil) g
  · exact h
 let X : Nat × List V → St := fun x => at_ (fnOf PP 28) [(0, dL L), (2, .lp 0 0), (3, .lp 1 0), (4, .lp 2 0), (5, ni x.1)] [.bx 35 z8, .bx 33 (dR (Pg.area L)), .bx 35 x.2]
 refine pf (by kernel_rfl) (.to mo_ [.wk 2] [0, 2, 3, 4, 5] [0, 1, 2] 3 [cl (e_area6 hb hn hk), cl (e_sign4 (Pg.area L)), na (t := sgnZ (Pg.area L).num == 0) hs] (td' := lp (fnOf PP 28) 0) (σ' := X (1, [bo false, .dg [], bo false, .dg [], bo false, .dg [], bo false, .dg []])) ?_ (by kernel_rfl))
 refine Gd.loop X (fun x => 1 ≤ x.1 ∧ x.1 ≤ L.length ∧ x.2 = dV (Pg.fs L x.1)) (fun x => L.length - x.1) ?_ _ ⟨Nat.le_refl _, hL, by rw [fs_one, dV_0]⟩
 rintro ⟨i, cs⟩ ⟨h1, hi, hcs⟩ ih
 simp only at h1 hi hcs
 subst hcs
 have hf := fs_bits hb hL hn i
 by_cases h : i + 1 < L.length
 · have b0 := bel hb hL
   have bi := bel hb (show i < L.length by omega)
   have b1 := bel hb h
   have bc := (bi.sub b0).crs (b1.sub b0)
   have bt : Bq (8 * k + 9) (vcrs (vsub (L.getD i (0, 0)) (L.getD 0 (0, 0))) (vsub (L.getD (i + 1) (0, 0)) (L.getD 0 (0, 0))) * Rat.divInt 1 6) := (bc.mul sixth_bits).mono (by omega)
   exact .to mo_ [] [0, 2, 3, 4, 5] [0, 1, 2] 3 [inc 14 i (by omega), ye (t := il_ (i + 1) L) (il_t h), .sel _ _ _ (el (L := L) (i := i) (by omega)), .sel _ _ _ (el hL), cl (e_vsub5 bi b0 (by omega)), inc 30 i (by omega), .sel _ _ _ (el h), .sel _ _ _ (el hL), cl (e_vsub5 b1 b0 (by omega)), cl (e_vcrs5 (bi.sub b0) (b1.sub b0) (by omega)), cl (e_of4 (x := 1) (y := 6) ⟨by decide, by decide⟩ ⟨by decide, by decide⟩), cl (e_mul4 bc sixth_bits (by omega)),
     .sel _ _ _ (el hL), .sel _ _ _ (el (L := L) (i := i) (by omega)), cl (e_vadd5 b0 bi (by omega)), inc 51 i (by omega), .sel _ _ _ (el h), cl (e_vadd5 (b0.add bi) b1 (by omega)), cl (e_vsca5 ((b0.add bi).add b1) bt (by omega)), cl (e_vadd5 hf (((b0.add bi).add b1).sca bt) (by omega)), inc 19 i (by omega)]
    (ih (i + 1, dV (vadd (Pg.fs L i) (vsca (vadd (vadd (L.getD 0 (0, 0)) (L.getD i (0, 0))) (L.getD (i + 1) (0, 0))) (vcrs (vsub (L.getD i (0, 0)) (L.getD 0 (0, 0))) (vsub (L.getD (i + 1) (0, 0)) (L.getD 0 (0, 0))) * Rat.divInt 1 6)))) ⟨by simp only; omega, by simp only; omega, by rw [fs_step h1 h]⟩ (by simp only; omega)) (by kernel_rfl)
 · rw [← fs_end h1 h g]
   exact fi [inc 14 i (by omega), na (t := il_ (i + 1) L) (il_f h), cl (e_of4 (x := 1) (y := 1) ⟨by decide, by decide⟩ ⟨by decide, by decide⟩), cl (e_div4 unit_bits ha (by omega)), cl (e_vsca5 hf (unit_bits.div ha (by omega)) (by omega))] (by kernel_rfl) (by kernel_rfl)
end
end Go.Proofs.YtcfejkpadcccbaaGreat.E
