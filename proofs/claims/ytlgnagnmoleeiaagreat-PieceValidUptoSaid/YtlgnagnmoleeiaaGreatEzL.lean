/-
 PIECE: Valid, of a piece with canonical numbers.
-/
import Derived.Test.YtlgnagnmoleeiaaGreatEzH
import Derived.Test.YtlgnagnmoleeiaaGreatEqA
namespace Go.Proofs.YtlgnagnmoleeiaaGreat.E.Pc
open Go.RowKit
set_option linter.unusedVariables false
set_option linter.unusedSimpArgs false
def inW (n lo hi : Int) : Bool := decide (n ≥ lo) && decide (n ≤ hi)
def ptW (c : Int × Int) : Bool := inW c.1 (-65536) 65536 && inW c.2 (-65536) 65536
def rngB (id home : Int) (P : List (Int × Int)) (M : List Int) : Bool := P.all ptW && (M.all (fun m => inW m 0 1024) && (inW id 0 999 && inW home 0 4))
section
variable {id home : Int} {P : List (Int × Int)} {M : List Int} {Wn : List Bool} {n lo hi : Int} {a b c d e : RN}
theorem e_within (n lo hi : Int) : Pure PP 123 [ni n, ni lo, ni hi] (bo (inW n lo hi)) := by
 unfold inW
 by_cases h : n ≥ lo
 · rw [decide_eq_true h]
   exact tr [ye (t := decide (n ≥ lo)) (decide_eq_true h)] (by kernel_rfl)
 · rw [decide_eq_false h]
   exact tr [na (t := decide (n ≥ lo)) (decide_eq_false h)] (by kernel_rfl)
noncomputable abbrev fir : Func := fnOf PP 61
/-- A piece with any numbers. -/
def anyP (id home : Int) (P : List (Int × Int)) (Wn : List Bool) (M : List Int) (a b c d e : RN) : List V := [ni id, ni home, .sl (Ct.ptR P), .sl (Ct.wnR Wn), zl M] ++ (cN a ++ (cN b ++ (cN c ++ (cN d ++ cN e))))
noncomputable abbrev GI (b : Bool) (td : List Item) (σ : St) : Prop := Gd PP 61 (.v (bo b)) td σ
theorem all_at {α : Type} {f : α → Bool} {l : List α} {i : Nat} {a : α} (h : l[i]? = some a) (hf : f a = false) : l.all f = false := by
 cases e : l.all f with
 | false => rfl
 | true =>
  rw [List.all_eq_true] at e
  rw [e a (List.mem_of_getElem? h)] at hf
  cases hf
theorem all_up {α : Type} {f : α → Bool} {l : List α} (h : ∀ (i : Nat) (a : α), l[i]? = some a → f a = true) : l.all f = true := by
 rw [List.all_eq_true]
 intro a ha
 obtain ⟨i, hi, e⟩ := List.getElem_of_mem ha
 exact h i a (by rw [List.getElem?_eq_getElem hi, e])
/-- The part behind the corners. -/
theorem ir_marks (hP : P.all ptW = true) (hm : M.length ≤ 4611686018427387904) : GI (rngB id home P M) (lp fir 1) (at_ fir [(1, .ip (anyP id home P Wn M a b c d e)), (26, zl M), (27, ni (M.length : Int)), (28, ni ((0 : Nat) : Int))] []) := by
 refine Gd.loop (fun i : Nat => at_ fir [(1, .ip (anyP id home P Wn M a b c d e)), (26, zl M), (27, ni (M.length : Int)), (28, ni (i : Int))] []) (fun i => i ≤ M.length ∧ ∀ t y, t < i → M[t]? = some y → inW y 0 1024 = true) (fun i => M.length - i) ?_ 0 ⟨Nat.zero_le _, fun t y ht => by omega⟩
 intro i ⟨hi, hall⟩ ih
 by_cases gi : i < M.length
 · obtain ⟨y, hy, _⟩ := Ct.get_of gi
   have hx : decide ((i : Int) < (M.length : Int)) = true := decide_eq_true (by omega)
   have cw := e_within y 0 1024
   cases hw : inW y 0 1024 with
   | true =>
     rw [hw] at cw
     have nx := ih (i + 1) ⟨gi, fun t z ht hz => by
      rcases Nat.lt_or_ge t i with h5 | h5
      · exact hall t z h5 hz
      · have : t = i := by omega
        subst this
        rw [hy] at hz
        injection hz with hz
        subst hz
        exact hw⟩ (by omega)
     unfold anyP at nx ⊢
     generalize Ct.ptR P = PR at *
     generalize Ct.wnR Wn = WR at *
     exact .to mo_ [] [1, 26, 27, 28] [] 0 [ye hx, .sel _ _ _ (zs_at hy), cl cw, nf, inc 35 i (by omega)] nx (by kernel_rfl)
   | false =>
     rw [hw] at cw
     have hr : rngB id home P M = false := by unfold rngB; rw [all_at (f := fun m => inW m 0 1024) hy hw, Bool.false_and, Bool.and_false]
     show Gd PP _ (.v (bo (rngB id home P M))) _ _
     rw [hr]
     unfold anyP
     generalize Ct.ptR P = PR at *
     generalize Ct.wnR Wn = WR at *
     exact fi [ye hx, .sel _ _ _ (zs_at hy), cl cw, yt] (by kernel_rfl) (by kernel_rfl)
 · have ei : i = M.length := by omega
   subst ei
   have hx : decide ((M.length : Int) < (M.length : Int)) = false := decide_eq_false (by omega)
   have hM : M.all (fun m => inW m 0 1024) = true := all_up fun t y hy => hall t y (List.getElem?_eq_some_iff.1 hy).1 hy
   have c1 := e_within id 0 999
   have c2 := e_within home 0 4
   have hr : rngB id home P M = (inW id 0 999 && inW home 0 4) := by unfold rngB; rw [hP, hM]; rfl
   show Gd PP _ (.v (bo (rngB id home P M))) _ _
   rw [hr]
   unfold anyP
   generalize Ct.ptR P = PR at *
   generalize Ct.wnR Wn = WR at *
   cases hw : inW id 0 999 with
   | true =>
     rw [hw] at c1
     exact fi [na hx, cl c1, yt, cl c2] (by kernel_rfl) (by kernel_rfl)
   | false =>
     rw [hw] at c1
     exact fi [na hx, cl c1, nf] (by kernel_rfl) (by kernel_rfl)
theorem e_inRange (hp : P.length ≤ 4611686018427387904) (hm : M.length ≤ 4611686018427387904) : Pure PP 61 [.ag (anyP id home P Wn M a b c d e)] (bo (rngB id home P M)) := by
 have hpl : (Ct.ptR P).length = P.length := List.length_map ..
 let X : Nat → St := fun i => at_ fir [(1, .ip (anyP id home P Wn M a b c d e)), (8, .sl (Ct.ptR P)), (9, ni (P.length : Int)), (10, ni (i : Int))] []
 refine pf (by kernel_rfl) (.to mo_ [.fz 1] [1, 8, 9, 10] [] 0 [.eqv 9 (ni ((Ct.ptR P).length : Int)) (ni (P.length : Int)) (by rw [hpl])] (td' := lp fir 0) (σ' := X 0) ?_ (by kernel_rfl))
 refine Gd.loop X (fun i => i ≤ P.length ∧ ∀ t y, t < i → P[t]? = some y → ptW y = true) (fun i => P.length - i) ?_ 0 ⟨Nat.zero_le _, fun t y ht => by omega⟩
 intro i ⟨hi, hall⟩ ih
 by_cases gi : i < P.length
 · obtain ⟨y, hy, _⟩ := Ct.get_of gi
   have hx : decide ((i : Int) < (P.length : Int)) = true := decide_eq_true (by omega)
   have c1 := e_within y.1 (-65536) 65536
   have c2 := e_within y.2 (-65536) 65536
   have hsel := Ct.pt_at hy
   have bad : ptW y = false → rngB id home P M = false := fun hw => by unfold rngB; rw [all_at (f := ptW) hy hw, Bool.false_and]
   cases hw : inW y.1 (-65536) 65536 with
   | true =>
     rw [hw] at c1
     cases hw2 : inW y.2 (-65536) 65536 with
     | true =>
       rw [hw2] at c2
       have nx := ih (i + 1) ⟨gi, fun t z ht hz => by
        rcases Nat.lt_or_ge t i with h5 | h5
        · exact hall t z h5 hz
        · have : t = i := by omega
          subst this
          rw [hy] at hz
          injection hz with hz
          subst hz
          unfold ptW
          rw [hw, hw2]
          rfl⟩ (by omega)
       simp only [X] at nx ⊢
       unfold anyP at nx ⊢
       generalize Ct.ptR P = PR at *
       generalize Ct.wnR Wn = WR at *
       exact .to mo_ [] [1, 8, 9, 10] [] 0 [ye hx, .sel _ _ _ hsel, cl c1, nf, cl c2, nf, inc 24 i (by omega)] nx (by kernel_rfl)
     | false =>
       rw [hw2] at c2
       rw [bad (by unfold ptW; rw [hw, hw2]; rfl)]
       simp only [X]
       unfold anyP
       generalize Ct.ptR P = PR at *
       generalize Ct.wnR Wn = WR at *
       exact fi [ye hx, .sel _ _ _ hsel, cl c1, nf, cl c2, yt] (by kernel_rfl) (by kernel_rfl)
   | false =>
     rw [hw] at c1
     rw [bad (by unfold ptW; rw [hw]; rfl)]
     simp only [X]
     unfold anyP
     generalize Ct.ptR P = PR at *
     generalize Ct.wnR Wn = WR at *
     exact fi [ye hx, .sel _ _ _ hsel, cl c1, yt, yt] (by kernel_rfl) (by kernel_rfl)
 · have ei : i = P.length := by omega
   subst ei
   have hx : decide ((P.length : Int) < (P.length : Int)) = false := decide_eq_false (by omega)
   have hP : P.all ptW = true := all_up fun t y hy => hall t y (List.getElem?_eq_some_iff.1 hy).1 hy
   have nn := ir_marks (id := id) (home := home) (P := P) (M := M) (Wn := Wn) (a := a) (b := b) (c := c) (d := d) (e := e) hP hm
   simp only [X]
   unfold anyP at nn ⊢
   generalize Ct.ptR P = PR at *
   generalize Ct.wnR Wn = WR at *
   exact .to mo_ [] [1, 26, 27, 28] [] 0 [na hx, .eqv 27 (ni ((zs M).length : Int)) (ni (M.length : Int)) (by rw [zs_len])] nn (by kernel_rfl)
end
end Go.Proofs.YtlgnagnmoleeiaaGreat.E.Pc
namespace Go.Proofs.YtlgnagnmoleeiaaGreat.E.Pc
open Go.RowKit
set_option linter.unusedVariables false
set_option linter.unusedSimpArgs false
section
variable {id home : Int} {P : List (Int × Int)} {M : List Int} {Wn : List Bool} {a b c d e : RN} {p : Ct.Pi}
noncomputable abbrev fpv : Func := fnOf PP 12
theorem e_numbersN : Pure PP 62 [.ag (anyP id home P Wn M a b c d e)] (.ag (cN a ++ (cN b ++ (cN c ++ (cN d ++ cN e))))) := by
 unfold anyP
 generalize Ct.ptR P = PR at *
 generalize Ct.wnR Wn = WR at *
 exact tr [] (by kernel_rfl)
/-- Out of range. -/
theorem e_pv_rng (hp : P.length ≤ 4611686018427387904) (hm : M.length ≤ 4611686018427387904) (h : rngB id home P M = false) : Pure PP 12 [.ag (anyP id home P Wn M a b c d e)] (ni 5) := by
 have ir := e_inRange (id := id) (home := home) (P := P) (Wn := Wn) (M := M) (a := a) (b := b) (c := c) (d := d) (e := e) hp hm
 rw [h] at ir
 unfold anyP at ir ⊢
 generalize Ct.ptR P = PR at *
 generalize Ct.wnR Wn = WR at *
 exact tr [cl ir, yt] (by kernel_rfl)
/-- Wrong lengths. -/
theorem e_pv_len (hp : P.length ≤ 4611686018427387904) (hm : M.length ≤ 4611686018427387904) (h : rngB id home P M = true) (hl : ¬ (P.length ≤ 12 ∧ Wn.length = P.length ∧ M.length = P.length)) : Pure PP 12 [.ag (anyP id home P Wn M a b c d e)] (ni 1) := by
 have ir := e_inRange (id := id) (home := home) (P := P) (Wn := Wn) (M := M) (a := a) (b := b) (c := c) (d := d) (e := e) hp hm
 rw [h] at ir
 have l1 : (Ct.ptR P).length = P.length := List.length_map ..
 have l2 : (Ct.wnR Wn).length = Wn.length := List.length_map ..
 have l3 : (zs M).length = M.length := zs_len M
 unfold anyP at ir ⊢
 generalize Ct.ptR P = PR at *
 generalize Ct.wnR Wn = WR at *
 by_cases g1 : P.length ≤ 12
 · by_cases g2 : Wn.length = P.length
   · have g3 : M.length ≠ P.length := fun e => hl ⟨g1, g2, e⟩
     exact tr [cl ir, nf, .eqv 14 (ni (PR.length : Int)) (ni (P.length : Int)) (by rw [l1]), na (t := decide ((P.length : Int) > 12)) (decide_eq_false (by omega)), .eqv 20 (ni (WR.length : Int)) (ni (Wn.length : Int)) (by rw [l2]), na (t := (Wn.length : Int) != (P.length : Int)) (by simp; omega), .eqv 27 (ni ((zs M).length : Int)) (ni (M.length : Int)) (by rw [l3]), ye (t := (M.length : Int) != (P.length : Int)) (by simp; omega)] (by kernel_rfl)
   · exact tr [cl ir, nf, .eqv 14 (ni (PR.length : Int)) (ni (P.length : Int)) (by rw [l1]), na (t := decide ((P.length : Int) > 12)) (decide_eq_false (by omega)), .eqv 20 (ni (WR.length : Int)) (ni (Wn.length : Int)) (by rw [l2]), ye (t := (Wn.length : Int) != (P.length : Int)) (by simp; omega), yt] (by kernel_rfl)
 · exact tr [cl ir, nf, .eqv 14 (ni (PR.length : Int)) (ni (P.length : Int)) (by rw [l1]), ye (t := decide ((P.length : Int) > 12)) (decide_eq_true (by omega)), yt, yt] (by kernel_rfl)
noncomputable abbrev GV (z : Int) (td : List Item) (σ : St) : Prop := Gd PP 12 (.v (ni z)) td σ
noncomputable def pvS (id home : Int) (P : List (Int × Int)) (Wn : List Bool) (M : List Int) (a b c d e : RN) (i : Int) : St := at_ fpv [(1, .ip (anyP id home P Wn M a b c d e)), (32, .ag (cN a ++ (cN b ++ (cN c ++ (cN d ++ cN e))))), (33, ni i)] []
/-- Up to the numbers. -/
theorem pv_head {z : Int} (hp : P.length ≤ 12) (h : rngB id home P M = true) (hw : Wn.length = P.length) (hm : M.length = P.length) (next : GV z (lp fpv 0) (pvS id home P Wn M a b c d e 0)) : Pure PP 12 [.ag (anyP id home P Wn M a b c d e)] (ni z) := by
 have ir := e_inRange (id := id) (home := home) (P := P) (Wn := Wn) (M := M) (a := a) (b := b) (c := c) (d := d) (e := e) (by omega) (by omega)
 rw [h] at ir
 have l1 : (Ct.ptR P).length = P.length := List.length_map ..
 have l2 : (Ct.wnR Wn).length = Wn.length := List.length_map ..
 have l3 : (zs M).length = M.length := zs_len M
 have en := e_numbersN (id := id) (home := home) (P := P) (Wn := Wn) (M := M) (a := a) (b := b) (c := c) (d := d) (e := e)
 unfold pvS at next
 unfold anyP at ir en next ⊢
 generalize Ct.ptR P = PR at *
 generalize Ct.wnR Wn = WR at *
 exact pf (by kernel_rfl) (.to mo_ [.fz 1] [1, 32, 33] [] 0 [cl ir, nf, .eqv 14 (ni (PR.length : Int)) (ni (P.length : Int)) (by rw [l1]), na (t := decide ((P.length : Int) > 12)) (decide_eq_false (by omega)), .eqv 20 (ni (WR.length : Int)) (ni (Wn.length : Int)) (by rw [l2]), na (t := (Wn.length : Int) != (P.length : Int)) (by simp; omega), .eqv 27 (ni ((zs M).length : Int)) (ni (M.length : Int)) (by rw [l3]), na (t := (M.length : Int) != (P.length : Int)) (by simp; omega), cl en] next (by kernel_rfl))
end
end Go.Proofs.YtlgnagnmoleeiaaGreat.E.Pc
namespace Go.Proofs.YtlgnagnmoleeiaaGreat.E.Pc
open Go.RowKit
set_option linter.unusedVariables false
set_option linter.unusedSimpArgs false
section
variable {id home s z : Int} {P : List (Int × Int)} {M : List Int} {Wn : List Bool} {a b c d e : RN} {p : Ct.Pi}
theorem pv_ok0 (cv : Pure PP 63 [.ag (cN a)] (bo true)) (cs : Pure PP 64 [.ag (cN a)] (ni s)) (hs : decide (s < 0) = false) (next : GV z (lp fpv 0) (pvS id home P Wn M a b c d e 1)) : GV z (lp fpv 0) (pvS id home P Wn M a b c d e 0) := by
 unfold pvS at *
 unfold anyP at *
 generalize Ct.ptR P = PR at *
 generalize Ct.wnR Wn = WR at *
 exact .to mo_ [] [1, 32, 33] [] 0 [yt, cl cv, nf, cl cs, na hs] next (by kernel_rfl)
theorem pv_no0 (cv : Pure PP 63 [.ag (cN a)] (bo false)) : GV 1 (lp fpv 0) (pvS id home P Wn M a b c d e 0) := by
 unfold pvS at *
 unfold anyP at *
 generalize Ct.ptR P = PR at *
 generalize Ct.wnR Wn = WR at *
 exact fi [yt, cl cv, yt, yt] (by kernel_rfl) (by kernel_rfl)
theorem pv_neg0 (cv : Pure PP 63 [.ag (cN a)] (bo true)) (cs : Pure PP 64 [.ag (cN a)] (ni s)) (hs : decide (s < 0) = true) : GV 1 (lp fpv 0) (pvS id home P Wn M a b c d e 0) := by
 unfold pvS at *
 unfold anyP at *
 generalize Ct.ptR P = PR at *
 generalize Ct.wnR Wn = WR at *
 exact fi [yt, cl cv, nf, cl cs, ye hs] (by kernel_rfl) (by kernel_rfl)
theorem pv_ok1 (cv : Pure PP 63 [.ag (cN b)] (bo true)) (cs : Pure PP 64 [.ag (cN b)] (ni s)) (hs : decide (s < 0) = false) (next : GV z (lp fpv 0) (pvS id home P Wn M a b c d e 2)) : GV z (lp fpv 0) (pvS id home P Wn M a b c d e 1) := by
 unfold pvS at *
 unfold anyP at *
 generalize Ct.ptR P = PR at *
 generalize Ct.wnR Wn = WR at *
 exact .to mo_ [] [1, 32, 33] [] 0 [yt, cl cv, nf, cl cs, na hs] next (by kernel_rfl)
theorem pv_no1 (cv : Pure PP 63 [.ag (cN b)] (bo false)) : GV 1 (lp fpv 0) (pvS id home P Wn M a b c d e 1) := by
 unfold pvS at *
 unfold anyP at *
 generalize Ct.ptR P = PR at *
 generalize Ct.wnR Wn = WR at *
 exact fi [yt, cl cv, yt, yt] (by kernel_rfl) (by kernel_rfl)
theorem pv_neg1 (cv : Pure PP 63 [.ag (cN b)] (bo true)) (cs : Pure PP 64 [.ag (cN b)] (ni s)) (hs : decide (s < 0) = true) : GV 1 (lp fpv 0) (pvS id home P Wn M a b c d e 1) := by
 unfold pvS at *
 unfold anyP at *
 generalize Ct.ptR P = PR at *
 generalize Ct.wnR Wn = WR at *
 exact fi [yt, cl cv, nf, cl cs, ye hs] (by kernel_rfl) (by kernel_rfl)
theorem pv_ok2 (cv : Pure PP 63 [.ag (cN c)] (bo true)) (cs : Pure PP 64 [.ag (cN c)] (ni s)) (hs : decide (s < 0) = false) (next : GV z (lp fpv 0) (pvS id home P Wn M a b c d e 3)) : GV z (lp fpv 0) (pvS id home P Wn M a b c d e 2) := by
 unfold pvS at *
 unfold anyP at *
 generalize Ct.ptR P = PR at *
 generalize Ct.wnR Wn = WR at *
 exact .to mo_ [] [1, 32, 33] [] 0 [yt, cl cv, nf, cl cs, na hs] next (by kernel_rfl)
theorem pv_no2 (cv : Pure PP 63 [.ag (cN c)] (bo false)) : GV 1 (lp fpv 0) (pvS id home P Wn M a b c d e 2) := by
 unfold pvS at *
 unfold anyP at *
 generalize Ct.ptR P = PR at *
 generalize Ct.wnR Wn = WR at *
 exact fi [yt, cl cv, yt, yt] (by kernel_rfl) (by kernel_rfl)
theorem pv_neg2 (cv : Pure PP 63 [.ag (cN c)] (bo true)) (cs : Pure PP 64 [.ag (cN c)] (ni s)) (hs : decide (s < 0) = true) : GV 1 (lp fpv 0) (pvS id home P Wn M a b c d e 2) := by
 unfold pvS at *
 unfold anyP at *
 generalize Ct.ptR P = PR at *
 generalize Ct.wnR Wn = WR at *
 exact fi [yt, cl cv, nf, cl cs, ye hs] (by kernel_rfl) (by kernel_rfl)
theorem pv_ok3 (cv : Pure PP 63 [.ag (cN d)] (bo true)) (cs : Pure PP 64 [.ag (cN d)] (ni s)) (hs : decide (s < 0) = false) (next : GV z (lp fpv 0) (pvS id home P Wn M a b c d e 4)) : GV z (lp fpv 0) (pvS id home P Wn M a b c d e 3) := by
 unfold pvS at *
 unfold anyP at *
 generalize Ct.ptR P = PR at *
 generalize Ct.wnR Wn = WR at *
 exact .to mo_ [] [1, 32, 33] [] 0 [yt, cl cv, nf, cl cs, na hs] next (by kernel_rfl)
theorem pv_no3 (cv : Pure PP 63 [.ag (cN d)] (bo false)) : GV 1 (lp fpv 0) (pvS id home P Wn M a b c d e 3) := by
 unfold pvS at *
 unfold anyP at *
 generalize Ct.ptR P = PR at *
 generalize Ct.wnR Wn = WR at *
 exact fi [yt, cl cv, yt, yt] (by kernel_rfl) (by kernel_rfl)
theorem pv_neg3 (cv : Pure PP 63 [.ag (cN d)] (bo true)) (cs : Pure PP 64 [.ag (cN d)] (ni s)) (hs : decide (s < 0) = true) : GV 1 (lp fpv 0) (pvS id home P Wn M a b c d e 3) := by
 unfold pvS at *
 unfold anyP at *
 generalize Ct.ptR P = PR at *
 generalize Ct.wnR Wn = WR at *
 exact fi [yt, cl cv, nf, cl cs, ye hs] (by kernel_rfl) (by kernel_rfl)
theorem pv_ok4 (cv : Pure PP 63 [.ag (cN e)] (bo true)) (cs : Pure PP 64 [.ag (cN e)] (ni s)) (hs : decide (s < 0) = false) (next : GV z (lp fpv 0) (pvS id home P Wn M a b c d e 5)) : GV z (lp fpv 0) (pvS id home P Wn M a b c d e 4) := by
 unfold pvS at *
 unfold anyP at *
 generalize Ct.ptR P = PR at *
 generalize Ct.wnR Wn = WR at *
 exact .to mo_ [] [1, 32, 33] [] 0 [yt, cl cv, nf, cl cs, na hs] next (by kernel_rfl)
theorem pv_no4 (cv : Pure PP 63 [.ag (cN e)] (bo false)) : GV 1 (lp fpv 0) (pvS id home P Wn M a b c d e 4) := by
 unfold pvS at *
 unfold anyP at *
 generalize Ct.ptR P = PR at *
 generalize Ct.wnR Wn = WR at *
 exact fi [yt, cl cv, yt, yt] (by kernel_rfl) (by kernel_rfl)
theorem pv_neg4 (cv : Pure PP 63 [.ag (cN e)] (bo true)) (cs : Pure PP 64 [.ag (cN e)] (ni s)) (hs : decide (s < 0) = true) : GV 1 (lp fpv 0) (pvS id home P Wn M a b c d e 4) := by
 unfold pvS at *
 unfold anyP at *
 generalize Ct.ptR P = PR at *
 generalize Ct.wnR Wn = WR at *
 exact fi [yt, cl cv, nf, cl cs, ye hs] (by kernel_rfl) (by kernel_rfl)
/-- A piece with few corners. -/
structure Pk (p : Ct.Pi) : Prop where
 r : ∀ x ∈ p.rim, W.Is64 x.1 ∧ W.Is64 x.2
 n : p.rim.length ≤ 1000
 tol : Bq 1000 p.tol
 light : Bq 1000 p.light
 heavy : Bq 1000 p.heavy
 str : Bq 1000 p.str
 rough : Bq 1000 p.rough
theorem pk_of (h : p.Ok 100) : Pk p := ⟨h.r, h.n.2, h.tol.mono (by omega), h.light.mono (by omega), h.heavy.mono (by omega), h.str.mono (by omega), h.rough.mono (by omega)⟩
theorem e_rimW (h : Pk p) : Pure PP 41 [.ag p.v] (.o 58 8 (p.rimV.map dV)) := by
 have hn := h.n
 have hl : (Ct.ptR p.rim).length = p.rim.length := List.length_map ..
 have hv : p.rimV.length = p.rim.length := List.length_map ..
 let X : Nat → St := fun k => at_ Ct.frm [(3, .ow 1), (7, .sl (Ct.ptR p.rim)), (8, ni (p.rim.length : Int)), (9, ni (k : Int))] [.dead, .rw 58 8 ((p.rimV.take k).map dV)]
 refine pf (by kernel_rfl) (.to mo_ [.ow 3 (.rw 58 8 [])] [3, 7, 8, 9] [1] 2 [.eqv 8 (ni ((Ct.ptR p.rim).length : Int)) (ni (p.rim.length : Int)) (by rw [hl])] (td' := lp Ct.frm 0) (σ' := X 0) ?_ (by kernel_rfl))
 refine Gd.loop X (fun k => k ≤ p.rim.length) (fun k => p.rim.length - k) ?_ 0 (Nat.zero_le _)
 intro k hk ih
 by_cases g : k < p.rim.length
 · obtain ⟨q, hq, hm⟩ := Ct.get_of g
   obtain ⟨h1, h2⟩ := h.r q hm
   exact .to mo_ [.mv 1 4] [3, 7, 8, 9] [1] 2 [ye (t := decide ((k : Int) < (p.rim.length : Int))) (decide_eq_true (by omega)), .sel _ _ _ (Ct.pt_at hq), cl (Ct.e_pof h1 h2), .app ((p.rimV.take k).map dV) ([Ct.qv q].map dV) ((p.rimV.take (k + 1)).map dV) 2000 (Ct.rim_app hq) Nat.zero_lt_one (by rw [List.length_map, List.length_take]; omega), inc 21 k (by omega)] (ih (k + 1) g (by omega)) (by kernel_rfl)
 · have e : k = p.rim.length := by omega
   subst e
   have hX : X p.rim.length = at_ Ct.frm [(3, .ow 1), (7, .sl (Ct.ptR p.rim)), (8, ni (p.rim.length : Int)), (9, ni (p.rim.length : Int))] [.dead, .rw 58 8 (p.rimV.map dV)] := by simp only [X]; rw [← hv, List.take_length]
   rw [hX]
   exact fi [na (t := decide ((p.rim.length : Int) < (p.rim.length : Int))) (decide_eq_false (by omega))] (by kernel_rfl) (by kernel_rfl)
/-- What is asked of the numbers, and of the rim. -/
def smB (p : Ct.Pi) : Bool := decide (cmpQ p.tol (Rat.divInt 4 1) ≤ 0) && decide (cmpQ p.rough (Rat.divInt 4 1) ≤ 0)
def hvB (p : Ct.Pi) : Bool := decide (sgnZ p.light.num > 0) && (decide (cmpQ p.light p.heavy ≤ 0) && decide (cmpQ p.heavy (Rat.divInt 1000 1) ≤ 0))
noncomputable def pvT (p : Ct.Pi) (m : List (Nat × V)) : St := at_ fpv ([(1, .ip p.v)] ++ m) []
/-- The last questions. -/
theorem pv_last {b7 b8 v : Bool} (ok : Pk p) (cv : Pure PP 67 [dL p.rimV] (bo v)) : GV (if (b7 && (b8 && (!(sgnZ p.str.num == 0) && v))) = true then 0 else 1) (rg fpv 15) (pvT p [(7, bo b7), (8, bo b8)]) := by
 have cr := (e_rimW ok).ro
 have cs := e_rsign p.str
 have hv : p.v = [ni p.id, ni p.home, .sl (Ct.ptR p.rim), .sl (Ct.wnR p.worn), zl p.marks] ++ (dR p.tol ++ (dR p.light ++ (dR p.heavy ++ (dR p.str ++ dR p.rough)))) := rfl
 unfold pvT
 rw [hv] at *
 generalize sgnZ p.str.num = sz at *
 generalize Ct.ptR p.rim = PR at *
 generalize Ct.wnR p.worn = WR at *
 generalize p.rimV = L at *
 cases b7 with
 | false => exact fi [yt, yt, yt, yt] (by kernel_rfl) (by kernel_rfl)
 | true =>
   cases b8 with
   | false => exact fi [nf, yt, yt, yt] (by kernel_rfl) (by kernel_rfl)
   | true =>
     cases hz : (sz == 0) with
     | true => exact fi [nf, nf, cl cs, ye hz, yt] (by kernel_rfl) (by kernel_rfl)
     | false =>
       cases v with
       | true => exact fi [nf, nf, cl cs, na hz, cl cr, cl cv, nf] (by kernel_rfl) (by kernel_rfl)
       | false => exact fi [nf, nf, cl cs, na hz, cl cr, cl cv, yt] (by kernel_rfl) (by kernel_rfl)
end
end Go.Proofs.YtlgnagnmoleeiaaGreat.E.Pc
namespace Go.Proofs.YtlgnagnmoleeiaaGreat.E.Pc
open Go.RowKit
set_option linter.unusedVariables false
set_option linter.unusedSimpArgs false
section
variable {z : Int} {p : Ct.Pi}
theorem any_v (p : Ct.Pi) : anyP p.id p.home p.rim p.worn p.marks (ofR p.tol) (ofR p.light) (ofR p.heavy) (ofR p.str) (ofR p.rough) = p.v := rfl
noncomputable abbrev pvP (p : Ct.Pi) (i : Int) : St := pvS p.id p.home p.rim p.worn p.marks (ofR p.tol) (ofR p.light) (ofR p.heavy) (ofR p.str) (ofR p.rough) i
theorem is_ (x : Int) (h : -100000 ≤ x ∧ x ≤ 100000) : W.Is64 x := ⟨by omega, by omega⟩
theorem b4 : Bq 1000 (Rat.divInt 4 1) := Bq.mono (j := 11) (Bq.divInt (by unfold I.Bd; decide) (by unfold I.Bd; decide) (by omega)) (by omega)
theorem b1000 : Bq 1000 (Rat.divInt 1000 1) := Bq.mono (j := 11) (Bq.divInt (by unfold I.Bd; decide) (by unfold I.Bd; decide) (by omega)) (by omega)
/-- Small numbers. -/
theorem pv_sm (ok : Pk p) (next : GV z (rg fpv 14) (pvT p [(7, bo (smB p))])) : GV z (lp fpv 0) (pvP p 5) := by
 have c0 := e_rof (is_ 4 (by omega)) (is_ 1 (by omega))
 have c1 := e_rcmp ok.tol b4 (by omega)
 have c2 := e_rcmp ok.rough b4 (by omega)
 have hv : p.v = [ni p.id, ni p.home, .sl (Ct.ptR p.rim), .sl (Ct.wnR p.worn), zl p.marks] ++ (dR p.tol ++ (dR p.light ++ (dR p.heavy ++ (dR p.str ++ dR p.rough)))) := rfl
 unfold smB at next
 unfold pvP pvS
 rw [any_v]
 unfold pvT at next
 rw [hv] at *
 generalize Rat.divInt 4 1 = r4 at *
 generalize Ct.ptR p.rim = PR at *
 generalize Ct.wnR p.worn = WR at *
 cases h1 : decide (cmpQ p.tol r4 ≤ 0) with
 | true =>
   rw [h1] at next
   exact .to mo_ [] [1, 7] [] 0 [nf, cl c0, cl c1, ye h1, cl c2] next (by kernel_rfl)
 | false =>
   rw [h1] at next
   exact .to mo_ [] [1, 7] [] 0 [nf, cl c0, cl c1, na h1] next (by kernel_rfl)
/-- Weights. -/
theorem pv_hv {b7 : Bool} (ok : Pk p) (next : GV z (rg fpv 15) (pvT p [(7, bo b7), (8, bo (hvB p))])) : GV z (rg fpv 14) (pvT p [(7, bo b7)]) := by
 have c0 := e_rof (is_ 1000 (by omega)) (is_ 1 (by omega))
 have c1 := e_rsign p.light
 have c2 := e_rcmp ok.light ok.heavy (by omega)
 have c3 := e_rcmp ok.heavy b1000 (by omega)
 have hv : p.v = [ni p.id, ni p.home, .sl (Ct.ptR p.rim), .sl (Ct.wnR p.worn), zl p.marks] ++ (dR p.tol ++ (dR p.light ++ (dR p.heavy ++ (dR p.str ++ dR p.rough)))) := rfl
 unfold hvB at next
 unfold pvT at next ⊢
 rw [hv] at *
 generalize Rat.divInt 1000 1 = r4 at *
 generalize Ct.ptR p.rim = PR at *
 generalize Ct.wnR p.worn = WR at *
 generalize sgnZ p.light.num = sl at *
 cases h1 : decide (sl > 0) with
 | true =>
   rw [h1] at next
   cases h2 : decide (cmpQ p.light p.heavy ≤ 0) with
   | true =>
     rw [h2] at next
     exact .to mo_ [] [1, 7, 8] [] 0 [cl c1, ye h1, cl c2, ye h2, cl c0, cl c3] next (by kernel_rfl)
   | false =>
     rw [h2] at next
     exact .to mo_ [] [1, 7, 8] [] 0 [cl c1, ye h1, cl c2, na h2] next (by kernel_rfl)
 | false =>
   rw [h1] at next
   exact .to mo_ [] [1, 7, 8] [] 0 [cl c1, na h1, nf] next (by kernel_rfl)
def fineB (p : Ct.Pi) (v : Bool) : Bool := smB p && (hvB p && (!(sgnZ p.str.num == 0) && v))
theorem bq1 {r : Rat} (h : Bq 1000 r) : Pure PP 63 [.ag (cN (ofR r))] (bo true) := e_rvalid h (by omega)
theorem sg1 (r : Rat) : Pure PP 64 [.ag (cN (ofR r))] (ni (sgnZ r.num)) := e_rsign r
/-- A piece whose numbers are not below zero. -/
theorem e_pvalid {v : Bool} (ok : Pk p) (hn : p.rim.length ≤ 12) (hr : rngB p.id p.home p.rim p.marks = true) (hw : p.worn.length = p.rim.length) (hm : p.marks.length = p.rim.length) (h0 : decide (sgnZ p.tol.num < 0) = false) (h1 : decide (sgnZ p.light.num < 0) = false) (h2 : decide (sgnZ p.heavy.num < 0) = false) (h3 : decide (sgnZ p.str.num < 0) = false) (h4 : decide (sgnZ p.rough.num < 0) = false) (cv : Pure PP 67 [dL p.rimV] (bo v)) : Pure PP 12 [.ag p.v] (ni (if fineB p v = true then 0 else 1)) := by
 rw [← any_v]
 refine pv_head hn hr hw hm ?_
 refine pv_ok0 (bq1 ok.tol) (sg1 _) h0 ?_
 refine pv_ok1 (bq1 ok.light) (sg1 _) h1 ?_
 refine pv_ok2 (bq1 ok.heavy) (sg1 _) h2 ?_
 refine pv_ok3 (bq1 ok.str) (sg1 _) h3 ?_
 refine pv_ok4 (bq1 ok.rough) (sg1 _) h4 ?_
 exact pv_sm ok (pv_hv ok (pv_last ok cv))
end
end Go.Proofs.YtlgnagnmoleeiaaGreat.E.Pc
