/-
 none
-/
import Derived.Test.YtnpdpjfdgialeaaGreatDoorEzH
import Derived.Test.YtnpdpjfdgialeaaGreatDoorEtD
import Derived.Test.YtnpdpjfdgialeaaGreatDoorEvE
import Derived.Test.YtnpdpjfdgialeaaGreatDoorEoA
import Derived.Test.YtnpdpjfdgialeaaGreatDoorPlainX
import Derived.Test.YtnpdpjfdgialeaaGreatDoorEwB
namespace Go.Proofs.YtnpdpjfdgialeaaGreatDoor.E.Pc
open Go.RowKit
set_option linter.unusedVariables false
set_option linter.unusedSimpArgs false
def inW (n lo hi : Int) : Bool := decide (n ≥ lo) && decide (n ≤ hi)
def ptW (c : Int × Int) : Bool := inW c.1 (-65536) 65536 && inW c.2 (-65536) 65536
def rngB (id home : Int) (P : List (Int × Int)) (M : List Int) : Bool := P.all ptW && (M.all (fun m => inW m 0 1024) && (inW id 0 999 && inW home 0 4))
section
variable {id home : Int} {P : List (Int × Int)} {M : List Int} {Wn : List Bool} {n lo hi : Int} {a b c d e : RN}
theorem e_within (n lo hi : Int) : Pure PP 106 [ni n, ni lo, ni hi] (bo (inW n lo hi)) := by
 unfold inW
 by_cases h : n ≥ lo
 · rw [decide_eq_true h]
   exact tr [ye (t := decide (n ≥ lo)) (decide_eq_true h)] (by kernel_rfl)
 · rw [decide_eq_false h]
   exact tr [na (t := decide (n ≥ lo)) (decide_eq_false h)] (by kernel_rfl)
noncomputable abbrev fir : Func := fnOf PP 70
/-- A piece with any numbers. -/
def anyP (id home : Int) (P : List (Int × Int)) (Wn : List Bool) (M : List Int) (a b c d e : RN) : List V := [ni id, ni home, .sl (Ct.ptR P), .sl (Ct.wnR Wn), zl M] ++ (cN a ++ (cN b ++ (cN c ++ (cN d ++ cN e))))
noncomputable abbrev GI (b : Bool) (td : List Item) (σ : St) : Prop := Gd PP 70 (.v (bo b)) td σ
theorem all_at {α : Type} {f : α → Bool} {l : List α} {i : Nat} {a : α} (h : l[i]? = some a) (hf : f a = false) : l.all f = false := by
 cases e : l.all f with
 | false => rfl
 | true =>
  rw [List.all_eq_true] at e
  rw [e a (List.mem_of_getElem? h)] at hf
  cases hf
theorem all_up {α : Type} {f : α → Bool} {l : List α} (h : ∀ (i : Nat) (a : α), l[i]? = some a → f a = true) : l.all f = true := by
 rw [List.all_eq_true]
 intro a ha
 obtain ⟨i, hi, e⟩ := List.getElem_of_mem ha
 exact h i a (by rw [List.getElem?_eq_getElem hi, e])
/-- The part behind the corners. -/
theorem ir_marks (hP : P.all ptW = true) (hm : M.length ≤ 4611686018427387904) : GI (rngB id home P M) (lp fir 1) (at_ fir [(1, .ip (anyP id home P Wn M a b c d e)), (26, zl M), (27, ni (M.length : Int)), (28, ni ((0 : Nat) : Int))] []) := by
 refine Gd.loop (fun i : Nat => at_ fir [(1, .ip (anyP id home P Wn M a b c d e)), (26, zl M), (27, ni (M.length : Int)), (28, ni (i : Int))] []) (fun i => i ≤ M.length ∧ ∀ t y, t < i → M[t]? = some y → inW y 0 1024 = true) (fun i => M.length - i) ?_ 0 ⟨Nat.zero_le _, fun t y ht => by omega⟩
 intro i ⟨hi, hall⟩ ih
 by_cases gi : i < M.length
 · obtain ⟨y, hy, _⟩ := Ct.get_of gi
   have hx : decide ((i : Int) < (M.length : Int)) = true := decide_eq_true (by omega)
   have cw := e_within y 0 1024
   cases hw : inW y 0 1024 with
   | true =>
     rw [hw] at cw
     have nx := ih (i + 1) ⟨gi, fun t z ht hz => by
      rcases Nat.lt_or_ge t i with h5 | h5
      · exact hall t z h5 hz
      · have : t = i := by omega
        subst this
        rw [hy] at hz
        injection hz with hz
        subst hz
        exact hw⟩ (by omega)
     unfold anyP at nx ⊢
     generalize Ct.ptR P = PR at *
     generalize Ct.wnR Wn = WR at *
     exact .to mo_ [] [1, 26, 27, 28] [] 0 [ye hx, .sel _ _ _ (zs_at hy), cl cw, nf, inc 35 i (by omega)] nx (by kernel_rfl)
   | false =>
     rw [hw] at cw
     have hr : rngB id home P M = false := by unfold rngB; rw [all_at (f := fun m => inW m 0 1024) hy hw, Bool.false_and, Bool.and_false]
     show Gd PP _ (.v (bo (rngB id home P M))) _ _
     rw [hr]
     unfold anyP
     generalize Ct.ptR P = PR at *
     generalize Ct.wnR Wn = WR at *
     exact fi [ye hx, .sel _ _ _ (zs_at hy), cl cw, yt] (by kernel_rfl) (by kernel_rfl)
 · have ei : i = M.length := by omega
   subst ei
   have hx : decide ((M.length : Int) < (M.length : Int)) = false := decide_eq_false (by omega)
   have hM : M.all (fun m => inW m 0 1024) = true := all_up fun t y hy => hall t y (List.getElem?_eq_some_iff.1 hy).1 hy
   have c1 := e_within id 0 999
   have c2 := e_within home 0 4
   have hr : rngB id home P M = (inW id 0 999 && inW home 0 4) := by unfold rngB; rw [hP, hM]; rfl
   show Gd PP _ (.v (bo (rngB id home P M))) _ _
   rw [hr]
   unfold anyP
   generalize Ct.ptR P = PR at *
   generalize Ct.wnR Wn = WR at *
   cases hw : inW id 0 999 with
   | true =>
     rw [hw] at c1
     exact fi [na hx, cl c1, yt, cl c2] (by kernel_rfl) (by kernel_rfl)
   | false =>
     rw [hw] at c1
     exact fi [na hx, cl c1, nf] (by kernel_rfl) (by kernel_rfl)
theorem e_inRange (hp : P.length ≤ 4611686018427387904) (hm : M.length ≤ 4611686018427387904) : Pure PP 70 [.ag (anyP id home P Wn M a b c d e)] (bo (rngB id home P M)) := by
 have hpl : (Ct.ptR P).length = P.length := List.length_map ..
 let X : Nat → St := fun i => at_ fir [(1, .ip (anyP id home P Wn M a b c d e)), (8, .sl (Ct.ptR P)), (9, ni (P.length : Int)), (10, ni (i : Int))] []
 refine pf (by kernel_rfl) (.to mo_ [.fz 1] [1, 8, 9, 10] [] 0 [.eqv 9 (ni ((Ct.ptR P).length : Int)) (ni (P.length : Int)) (by rw [hpl])] (td' := lp fir 0) (σ' := X 0) ?_ (by kernel_rfl))
 refine Gd.loop X (fun i => i ≤ P.length ∧ ∀ t y, t < i → P[t]? = some y → ptW y = true) (fun i => P.length - i) ?_ 0 ⟨Nat.zero_le _, fun t y ht => by omega⟩
 intro i ⟨hi, hall⟩ ih
 by_cases gi : i < P.length
 · obtain ⟨y, hy, _⟩ := Ct.get_of gi
   have hx : decide ((i : Int) < (P.length : Int)) = true := decide_eq_true (by omega)
   have c1 := e_within y.1 (-65536) 65536
   have c2 := e_within y.2 (-65536) 65536
   have hsel := Ct.pt_at hy
   have bad : ptW y = false → rngB id home P M = false := fun hw => by unfold rngB; rw [all_at (f := ptW) hy hw, Bool.false_and]
   cases hw : inW y.1 (-65536) 65536 with
   | true =>
     rw [hw] at c1
     cases hw2 : inW y.2 (-65536) 65536 with
     | true =>
       rw [hw2] at c2
       have nx := ih (i + 1) ⟨gi, fun t z ht hz => by
        rcases Nat.lt_or_ge t i with h5 | h5
        · exact hall t z h5 hz
        · have : t = i := by omega
          subst this
          rw [hy] at hz
          injection hz with hz
          subst hz
          unfold ptW
          rw [hw, hw2]
          rfl⟩ (by omega)
       simp only [X] at nx ⊢
       unfold anyP at nx ⊢
       generalize Ct.ptR P = PR at *
       generalize Ct.wnR Wn = WR at *
       exact .to mo_ [] [1, 8, 9, 10] [] 0 [ye hx, .sel _ _ _ hsel, cl c1, nf, cl c2, nf, inc 24 i (by omega)] nx (by kernel_rfl)
     | false =>
       rw [hw2] at c2
       rw [bad (by unfold ptW; rw [hw, hw2]; rfl)]
       simp only [X]
       unfold anyP
       generalize Ct.ptR P = PR at *
       generalize Ct.wnR Wn = WR at *
       exact fi [ye hx, .sel _ _ _ hsel, cl c1, nf, cl c2, yt] (by kernel_rfl) (by kernel_rfl)
   | false =>
     rw [hw] at c1
     rw [bad (by unfold ptW; rw [hw]; rfl)]
     simp only [X]
     unfold anyP
     generalize Ct.ptR P = PR at *
     generalize Ct.wnR Wn = WR at *
     exact fi [ye hx, .sel _ _ _ hsel, cl c1, yt, yt] (by kernel_rfl) (by kernel_rfl)
 · have ei : i = P.length := by omega
   subst ei
   have hx : decide ((P.length : Int) < (P.length : Int)) = false := decide_eq_false (by omega)
   have hP : P.all ptW = true := all_up fun t y hy => hall t y (List.getElem?_eq_some_iff.1 hy).1 hy
   have nn := ir_marks (id := id) (home := home) (P := P) (M := M) (Wn := Wn) (a := a) (b := b) (c := c) (d := d) (e := e) hP hm
   simp only [X]
   unfold anyP at nn ⊢
   generalize Ct.ptR P = PR at *
   generalize Ct.wnR Wn = WR at *
   exact .to mo_ [] [1, 26, 27, 28] [] 0 [na hx, .eqv 27 (ni ((zs M).length : Int)) (ni (M.length : Int)) (by rw [zs_len])] nn (by kernel_rfl)
end
end Go.Proofs.YtnpdpjfdgialeaaGreatDoor.E.Pc
namespace Go.Proofs.YtnpdpjfdgialeaaGreatDoor.E.Pc
open Go.RowKit
set_option linter.unusedVariables false
set_option linter.unusedSimpArgs false
section
variable {id home : Int} {P : List (Int × Int)} {M : List Int} {Wn : List Bool} {a b c d e : RN} {p : Ct.Pi}
noncomputable abbrev fpv : Func := fnOf PP 39
theorem e_numbersN : Pure PP 28 [.ag (anyP id home P Wn M a b c d e)] (.ag (cN a ++ (cN b ++ (cN c ++ (cN d ++ cN e))))) := by
 unfold anyP
 generalize Ct.ptR P = PR at *
 generalize Ct.wnR Wn = WR at *
 exact tr [] (by kernel_rfl)
/-- Out of range. -/
theorem e_pv_rng (hp : P.length ≤ 4611686018427387904) (hm : M.length ≤ 4611686018427387904) (h : rngB id home P M = false) : Pure PP 39 [.ag (anyP id home P Wn M a b c d e)] (ni 5) := by
 have ir := e_inRange (id := id) (home := home) (P := P) (Wn := Wn) (M := M) (a := a) (b := b) (c := c) (d := d) (e := e) hp hm
 rw [h] at ir
 unfold anyP at ir ⊢
 generalize Ct.ptR P = PR at *
 generalize Ct.wnR Wn = WR at *
 exact tr [cl ir, yt] (by kernel_rfl)
/-- Wrong lengths. -/
theorem e_pv_len (hp : P.length ≤ 4611686018427387904) (hm : M.length ≤ 4611686018427387904) (h : rngB id home P M = true) (hl : ¬ (P.length ≤ 12 ∧ Wn.length = P.length ∧ M.length = P.length)) : Pure PP 39 [.ag (anyP id home P Wn M a b c d e)] (ni 1) := by
 have ir := e_inRange (id := id) (home := home) (P := P) (Wn := Wn) (M := M) (a := a) (b := b) (c := c) (d := d) (e := e) hp hm
 rw [h] at ir
 have l1 : (Ct.ptR P).length = P.length := List.length_map ..
 have l2 : (Ct.wnR Wn).length = Wn.length := List.length_map ..
 have l3 : (zs M).length = M.length := zs_len M
 unfold anyP at ir ⊢
 generalize Ct.ptR P = PR at *
 generalize Ct.wnR Wn = WR at *
 by_cases g1 : P.length ≤ 12
 · by_cases g2 : Wn.length = P.length
   · have g3 : M.length ≠ P.length := fun e => hl ⟨g1, g2, e⟩
     exact tr [cl ir, nf, .eqv 14 (ni (PR.length : Int)) (ni (P.length : Int)) (by rw [l1]), na (t := decide ((P.length : Int) > 12)) (decide_eq_false (by omega)), .eqv 20 (ni (WR.length : Int)) (ni (Wn.length : Int)) (by rw [l2]), na (t := (Wn.length : Int) != (P.length : Int)) (by simp; omega), .eqv 27 (ni ((zs M).length : Int)) (ni (M.length : Int)) (by rw [l3]), ye (t := (M.length : Int) != (P.length : Int)) (by simp; omega)] (by kernel_rfl)
   · exact tr [cl ir, nf, .eqv 14 (ni (PR.length : Int)) (ni (P.length : Int)) (by rw [l1]), na (t := decide ((P.length : Int) > 12)) (decide_eq_false (by omega)), .eqv 20 (ni (WR.length : Int)) (ni (Wn.length : Int)) (by rw [l2]), ye (t := (Wn.length : Int) != (P.length : Int)) (by simp; omega), yt] (by kernel_rfl)
 · exact tr [cl ir, nf, .eqv 14 (ni (PR.length : Int)) (ni (P.length : Int)) (by rw [l1]), ye (t := decide ((P.length : Int) > 12)) (decide_eq_true (by omega)), yt, yt] (by kernel_rfl)
noncomputable abbrev GV (z : Int) (td : List Item) (σ : St) : Prop := Gd PP 39 (.v (ni z)) td σ
noncomputable def pvS (id home : Int) (P : List (Int × Int)) (Wn : List Bool) (M : List Int) (a b c d e : RN) (i : Int) : St := at_ fpv [(1, .ip (anyP id home P Wn M a b c d e)), (32, .ag (cN a ++ (cN b ++ (cN c ++ (cN d ++ cN e))))), (33, ni i)] []
/-- Up to the numbers. -/
theorem pv_head {z : Int} (hp : P.length ≤ 12) (h : rngB id home P M = true) (hw : Wn.length = P.length) (hm : M.length = P.length) (next : GV z (lp fpv 0) (pvS id home P Wn M a b c d e 0)) : Pure PP 39 [.ag (anyP id home P Wn M a b c d e)] (ni z) := by
 have ir := e_inRange (id := id) (home := home) (P := P) (Wn := Wn) (M := M) (a := a) (b := b) (c := c) (d := d) (e := e) (by omega) (by omega)
 rw [h] at ir
 have l1 : (Ct.ptR P).length = P.length := List.length_map ..
 have l2 : (Ct.wnR Wn).length = Wn.length := List.length_map ..
 have l3 : (zs M).length = M.length := zs_len M
 have en := e_numbersN (id := id) (home := home) (P := P) (Wn := Wn) (M := M) (a := a) (b := b) (c := c) (d := d) (e := e)
 unfold pvS at next
 unfold anyP at ir en next ⊢
 generalize Ct.ptR P = PR at *
 generalize Ct.wnR Wn = WR at *
 exact pf (by kernel_rfl) (.to mo_ [.fz 1] [1, 32, 33] [] 0 [cl ir, nf, .eqv 14 (ni (PR.length : Int)) (ni (P.length : Int)) (by rw [l1]), na (t := decide ((P.length : Int) > 12)) (decide_eq_false (by omega)), .eqv 20 (ni (WR.length : Int)) (ni (Wn.length : Int)) (by rw [l2]), na (t := (Wn.length : Int) != (P.length : Int)) (by simp; omega), .eqv 27 (ni ((zs M).length : Int)) (ni (M.length : Int)) (by rw [l3]), na (t := (M.length : Int) != (P.length : Int)) (by simp; omega), cl en] next (by kernel_rfl))
end
end Go.Proofs.YtnpdpjfdgialeaaGreatDoor.E.Pc
namespace Go.Proofs.YtnpdpjfdgialeaaGreatDoor.E.Pc
open Go.RowKit
set_option linter.unusedVariables false
set_option linter.unusedSimpArgs false
section
variable {id home s z : Int} {P : List (Int × Int)} {M : List Int} {Wn : List Bool} {a b c d e : RN} {p : Ct.Pi}
theorem pv_ok0 (cv : Pure PP 71 [.ag (cN a)] (bo true)) (cs : Pure PP 72 [.ag (cN a)] (ni s)) (hs : decide (s < 0) = false) (next : GV z (lp fpv 0) (pvS id home P Wn M a b c d e 1)) : GV z (lp fpv 0) (pvS id home P Wn M a b c d e 0) := by
 unfold pvS at *
 unfold anyP at *
 generalize Ct.ptR P = PR at *
 generalize Ct.wnR Wn = WR at *
 exact .to mo_ [] [1, 32, 33] [] 0 [yt, cl cv, nf, cl cs, na hs] next (by kernel_rfl)
theorem pv_ok1 (cv : Pure PP 71 [.ag (cN b)] (bo true)) (cs : Pure PP 72 [.ag (cN b)] (ni s)) (hs : decide (s < 0) = false) (next : GV z (lp fpv 0) (pvS id home P Wn M a b c d e 2)) : GV z (lp fpv 0) (pvS id home P Wn M a b c d e 1) := by
 unfold pvS at *
 unfold anyP at *
 generalize Ct.ptR P = PR at *
 generalize Ct.wnR Wn = WR at *
 exact .to mo_ [] [1, 32, 33] [] 0 [yt, cl cv, nf, cl cs, na hs] next (by kernel_rfl)
theorem pv_ok2 (cv : Pure PP 71 [.ag (cN c)] (bo true)) (cs : Pure PP 72 [.ag (cN c)] (ni s)) (hs : decide (s < 0) = false) (next : GV z (lp fpv 0) (pvS id home P Wn M a b c d e 3)) : GV z (lp fpv 0) (pvS id home P Wn M a b c d e 2) := by
 unfold pvS at *
 unfold anyP at *
 generalize Ct.ptR P = PR at *
 generalize Ct.wnR Wn = WR at *
 exact .to mo_ [] [1, 32, 33] [] 0 [yt, cl cv, nf, cl cs, na hs] next (by kernel_rfl)
theorem pv_ok3 (cv : Pure PP 71 [.ag (cN d)] (bo true)) (cs : Pure PP 72 [.ag (cN d)] (ni s)) (hs : decide (s < 0) = false) (next : GV z (lp fpv 0) (pvS id home P Wn M a b c d e 4)) : GV z (lp fpv 0) (pvS id home P Wn M a b c d e 3) := by
 unfold pvS at *
 unfold anyP at *
 generalize Ct.ptR P = PR at *
 generalize Ct.wnR Wn = WR at *
 exact .to mo_ [] [1, 32, 33] [] 0 [yt, cl cv, nf, cl cs, na hs] next (by kernel_rfl)
theorem pv_ok4 (cv : Pure PP 71 [.ag (cN e)] (bo true)) (cs : Pure PP 72 [.ag (cN e)] (ni s)) (hs : decide (s < 0) = false) (next : GV z (lp fpv 0) (pvS id home P Wn M a b c d e 5)) : GV z (lp fpv 0) (pvS id home P Wn M a b c d e 4) := by
 unfold pvS at *
 unfold anyP at *
 generalize Ct.ptR P = PR at *
 generalize Ct.wnR Wn = WR at *
 exact .to mo_ [] [1, 32, 33] [] 0 [yt, cl cv, nf, cl cs, na hs] next (by kernel_rfl)
/-- A piece with few corners. -/
structure Pk (p : Ct.Pi) : Prop where
 r : ∀ x ∈ p.rim, W.Is64 x.1 ∧ W.Is64 x.2
 n : p.rim.length ≤ 4000
 tol : Bq 150000 p.tol
 light : Bq 150000 p.light
 heavy : Bq 150000 p.heavy
 str : Bq 150000 p.str
 rough : Bq 150000 p.rough
theorem pk_of (h : p.Ok 100) : Pk p := ⟨h.r, Nat.le_trans h.n.2 (by omega), h.tol.mono (by omega), h.light.mono (by omega), h.heavy.mono (by omega), h.str.mono (by omega), h.rough.mono (by omega)⟩
theorem e_rimW (h : Pk p) : Pure PP 43 [.ag p.v] (.o 84 8 (p.rimV.map dV)) := by
 have hn := h.n
 have hl : (Ct.ptR p.rim).length = p.rim.length := List.length_map ..
 have hv : p.rimV.length = p.rim.length := List.length_map ..
 let X : Nat → St := fun k => at_ Ct.frm [(3, .ow 1), (7, .sl (Ct.ptR p.rim)), (8, ni (p.rim.length : Int)), (9, ni (k : Int))] [.dead, .rw 84 8 ((p.rimV.take k).map dV)]
 refine pf (by kernel_rfl) (.to mo_ [.ow 3 (.rw 84 8 [])] [3, 7, 8, 9] [1] 2 [.eqv 8 (ni ((Ct.ptR p.rim).length : Int)) (ni (p.rim.length : Int)) (by rw [hl])] (td' := lp Ct.frm 0) (σ' := X 0) ?_ (by kernel_rfl))
 refine Gd.loop X (fun k => k ≤ p.rim.length) (fun k => p.rim.length - k) ?_ 0 (Nat.zero_le _)
 intro k hk ih
 by_cases g : k < p.rim.length
 · obtain ⟨q, hq, hm⟩ := Ct.get_of g
   obtain ⟨h1, h2⟩ := h.r q hm
   exact .to mo_ [.mv 1 4] [3, 7, 8, 9] [1] 2 [ye (t := decide ((k : Int) < (p.rim.length : Int))) (decide_eq_true (by omega)), .sel _ _ _ (Ct.pt_at hq), cl (Ct.e_pof h1 h2), .app ((p.rimV.take k).map dV) ([Ct.qv q].map dV) ((p.rimV.take (k + 1)).map dV) 5000 (Ct.rim_app hq) Nat.zero_lt_one (by rw [List.length_map, List.length_take]; omega), inc 21 k (by omega)] (ih (k + 1) g (by omega)) (by kernel_rfl)
 · have e : k = p.rim.length := by omega
   subst e
   have hX : X p.rim.length = at_ Ct.frm [(3, .ow 1), (7, .sl (Ct.ptR p.rim)), (8, ni (p.rim.length : Int)), (9, ni (p.rim.length : Int))] [.dead, .rw 84 8 (p.rimV.map dV)] := by simp only [X]; rw [← hv, List.take_length]
   rw [hX]
   exact fi [na (t := decide ((p.rim.length : Int) < (p.rim.length : Int))) (decide_eq_false (by omega))] (by kernel_rfl) (by kernel_rfl)
/-- What is asked of the numbers, and of the rim. -/
def smB (p : Ct.Pi) : Bool := decide (cmpQ p.tol (Rat.divInt 4 1) ≤ 0) && decide (cmpQ p.rough (Rat.divInt 4 1) ≤ 0)
def hvB (p : Ct.Pi) : Bool := decide (sgnZ p.light.num > 0) && (decide (cmpQ p.light p.heavy ≤ 0) && decide (cmpQ p.heavy (Rat.divInt 1000 1) ≤ 0))
noncomputable def pvT (p : Ct.Pi) (m : List (Nat × V)) : St := at_ fpv ([(1, .ip p.v)] ++ m) []
/-- The last questions. -/
theorem pv_last {b7 b8 v : Bool} (ok : Pk p) (cv : Pure PP 75 [dL p.rimV] (bo v)) : GV (if (b7 && (b8 && (!(sgnZ p.str.num == 0) && v))) = true then 0 else 1) (rg fpv 15) (pvT p [(7, bo b7), (8, bo b8)]) := by
 have cr := (e_rimW ok).ro
 have cs := e_rsign p.str
 have hv : p.v = [ni p.id, ni p.home, .sl (Ct.ptR p.rim), .sl (Ct.wnR p.worn), zl p.marks] ++ (dR p.tol ++ (dR p.light ++ (dR p.heavy ++ (dR p.str ++ dR p.rough)))) := rfl
 unfold pvT
 rw [hv] at *
 generalize sgnZ p.str.num = sz at *
 generalize Ct.ptR p.rim = PR at *
 generalize Ct.wnR p.worn = WR at *
 generalize p.rimV = L at *
 cases b7 with
 | false => exact fi [yt, yt, yt, yt] (by kernel_rfl) (by kernel_rfl)
 | true =>
   cases b8 with
   | false => exact fi [nf, yt, yt, yt] (by kernel_rfl) (by kernel_rfl)
   | true =>
     cases hz : (sz == 0) with
     | true => exact fi [nf, nf, cl cs, ye hz, yt] (by kernel_rfl) (by kernel_rfl)
     | false =>
       cases v with
       | true => exact fi [nf, nf, cl cs, na hz, cl cr, cl cv, nf] (by kernel_rfl) (by kernel_rfl)
       | false => exact fi [nf, nf, cl cs, na hz, cl cr, cl cv, yt] (by kernel_rfl) (by kernel_rfl)
end
end Go.Proofs.YtnpdpjfdgialeaaGreatDoor.E.Pc
namespace Go.Proofs.YtnpdpjfdgialeaaGreatDoor.E.Pc
open Go.RowKit
set_option linter.unusedVariables false
set_option linter.unusedSimpArgs false
section
variable {z : Int} {p : Ct.Pi}
theorem any_v (p : Ct.Pi) : anyP p.id p.home p.rim p.worn p.marks (ofR p.tol) (ofR p.light) (ofR p.heavy) (ofR p.str) (ofR p.rough) = p.v := rfl
noncomputable abbrev pvP (p : Ct.Pi) (i : Int) : St := pvS p.id p.home p.rim p.worn p.marks (ofR p.tol) (ofR p.light) (ofR p.heavy) (ofR p.str) (ofR p.rough) i
theorem is_ (x : Int) (h : -100000 ≤ x ∧ x ≤ 100000) : W.Is64 x := ⟨by omega, by omega⟩
theorem b4 : Bq 150000 (Rat.divInt 4 1) := Bq.mono (j := 11) (Bq.divInt (by unfold I.Bd; decide) (by unfold I.Bd; decide) (by omega)) (by omega)
theorem b1000 : Bq 150000 (Rat.divInt 1000 1) := Bq.mono (j := 11) (Bq.divInt (by unfold I.Bd; decide) (by unfold I.Bd; decide) (by omega)) (by omega)
/-- Small numbers. -/
theorem pv_sm (ok : Pk p) (next : GV z (rg fpv 14) (pvT p [(7, bo (smB p))])) : GV z (lp fpv 0) (pvP p 5) := by
 have c0 := e_rof (is_ 4 (by omega)) (is_ 1 (by omega))
 have c1 := e_rcmp ok.tol b4 (by omega)
 have c2 := e_rcmp ok.rough b4 (by omega)
 have hv : p.v = [ni p.id, ni p.home, .sl (Ct.ptR p.rim), .sl (Ct.wnR p.worn), zl p.marks] ++ (dR p.tol ++ (dR p.light ++ (dR p.heavy ++ (dR p.str ++ dR p.rough)))) := rfl
 unfold smB at next
 unfold pvP pvS
 rw [any_v]
 unfold pvT at next
 rw [hv] at *
 generalize Rat.divInt 4 1 = r4 at *
 generalize Ct.ptR p.rim = PR at *
 generalize Ct.wnR p.worn = WR at *
 cases h1 : decide (cmpQ p.tol r4 ≤ 0) with
 | true =>
   rw [h1] at next
   exact .to mo_ [] [1, 7] [] 0 [nf, cl c0, cl c1, ye h1, cl c2] next (by kernel_rfl)
 | false =>
   rw [h1] at next
   exact .to mo_ [] [1, 7] [] 0 [nf, cl c0, cl c1, na h1] next (by kernel_rfl)
/-- Weights. -/
theorem pv_hv {b7 : Bool} (ok : Pk p) (next : GV z (rg fpv 15) (pvT p [(7, bo b7), (8, bo (hvB p))])) : GV z (rg fpv 14) (pvT p [(7, bo b7)]) := by
 have c0 := e_rof (is_ 1000 (by omega)) (is_ 1 (by omega))
 have c1 := e_rsign p.light
 have c2 := e_rcmp ok.light ok.heavy (by omega)
 have c3 := e_rcmp ok.heavy b1000 (by omega)
 have hv : p.v = [ni p.id, ni p.home, .sl (Ct.ptR p.rim), .sl (Ct.wnR p.worn), zl p.marks] ++ (dR p.tol ++ (dR p.light ++ (dR p.heavy ++ (dR p.str ++ dR p.rough)))) := rfl
 unfold hvB at next
 unfold pvT at next ⊢
 rw [hv] at *
 generalize Rat.divInt 1000 1 = r4 at *
 generalize Ct.ptR p.rim = PR at *
 generalize Ct.wnR p.worn = WR at *
 generalize sgnZ p.light.num = sl at *
 cases h1 : decide (sl > 0) with
 | true =>
   rw [h1] at next
   cases h2 : decide (cmpQ p.light p.heavy ≤ 0) with
   | true =>
     rw [h2] at next
     exact .to mo_ [] [1, 7, 8] [] 0 [cl c1, ye h1, cl c2, ye h2, cl c0, cl c3] next (by kernel_rfl)
   | false =>
     rw [h2] at next
     exact .to mo_ [] [1, 7, 8] [] 0 [cl c1, ye h1, cl c2, na h2] next (by kernel_rfl)
 | false =>
   rw [h1] at next
   exact .to mo_ [] [1, 7, 8] [] 0 [cl c1, na h1, nf] next (by kernel_rfl)
def fineB (p : Ct.Pi) (v : Bool) : Bool := smB p && (hvB p && (!(sgnZ p.str.num == 0) && v))
theorem bq1 {r : Rat} (h : Bq 150000 r) : Pure PP 71 [.ag (cN (ofR r))] (bo true) := e_rvalid h (by omega)
theorem sg1 (r : Rat) : Pure PP 72 [.ag (cN (ofR r))] (ni (sgnZ r.num)) := e_rsign r
/-- A piece whose numbers are not below zero. -/
theorem e_pvalid {v : Bool} (ok : Pk p) (hn : p.rim.length ≤ 12) (hr : rngB p.id p.home p.rim p.marks = true) (hw : p.worn.length = p.rim.length) (hm : p.marks.length = p.rim.length) (h0 : decide (sgnZ p.tol.num < 0) = false) (h1 : decide (sgnZ p.light.num < 0) = false) (h2 : decide (sgnZ p.heavy.num < 0) = false) (h3 : decide (sgnZ p.str.num < 0) = false) (h4 : decide (sgnZ p.rough.num < 0) = false) (cv : Pure PP 75 [dL p.rimV] (bo v)) : Pure PP 39 [.ag p.v] (ni (if fineB p v = true then 0 else 1)) := by
 rw [← any_v]
 refine pv_head hn hr hw hm ?_
 refine pv_ok0 (bq1 ok.tol) (sg1 _) h0 ?_
 refine pv_ok1 (bq1 ok.light) (sg1 _) h1 ?_
 refine pv_ok2 (bq1 ok.heavy) (sg1 _) h2 ?_
 refine pv_ok3 (bq1 ok.str) (sg1 _) h3 ?_
 refine pv_ok4 (bq1 ok.rough) (sg1 _) h4 ?_
 exact pv_sm ok (pv_hv ok (pv_last ok cv))
end
end Go.Proofs.YtnpdpjfdgialeaaGreatDoor.E.Pc
namespace Go.Proofs.YtnpdpjfdgialeaaGreatDoor.E.Pc
open Go.RowKit
set_option linter.unusedVariables false
set_option linter.unusedSimpArgs false
/-- A piece with any numbers. -/
structure Pr where
 id : Int
 home : Int
 rim : List (Int × Int)
 worn : List Bool
 marks : List Int
 a : RN
 b : RN
 c : RN
 d : RN
 e : RN
def Pr.v (p : Pr) : List V := anyP p.id p.home p.rim p.worn p.marks p.a p.b p.c p.d p.e
structure Pr.Ok (p : Pr) : Prop where
 id : W.Is64 p.id
 home : W.Is64 p.home
 r : ∀ x ∈ p.rim, W.Is64 x.1 ∧ W.Is64 x.2
 m : ∀ x ∈ p.marks, W.Is64 x
 nr : p.rim.length ≤ 100
 nw : p.worn.length ≤ 100
 nm : p.marks.length ≤ 100
 a : Bn 1000 p.a
 b : Bn 1000 p.b
 c : Bn 1000 p.c
 d : Bn 1000 p.d
 e : Bn 1000 p.e
section
variable {id home : Int} {P : List (Int × Int)} {M : List Int} {Wn : List Bool} {n lo hi x : Int} {a b c d e : RN} {p : Pr} {r : Rat} {k i : Nat}
theorem e_valid4_ex (hb : Bn 1000 a) : ∃ t : Bool, Pure PP 21 [.ag (cN a)] (bo t) ∧ (¬ rok a → t = false) := by
 by_cases h : rok a
 · obtain ⟨r, rfl⟩ := h
   exact ⟨true, e_valid4 (hb.bq (by omega)) (by omega), fun g => absurd ⟨r, rfl⟩ g⟩
 · exact ⟨false, e_valid4_no h hb (by omega), fun _ => rfl⟩
end
end Go.Proofs.YtnpdpjfdgialeaaGreatDoor.E.Pc
namespace Go.Proofs.YtnpdpjfdgialeaaGreatDoor.E.Pc
open Go.RowKit
set_option linter.unusedVariables false
set_option linter.unusedSimpArgs false
section
variable {id home : Int} {P : List (Int × Int)} {M : List Int} {Wn : List Bool} {n lo hi x z : Int} {a b c d e : RN} {p : Pr} {r : Rat} {k i : Nat} {pc : Ct.Pi} {v : Bool}
/-- A piece with canonical numbers, as any piece. -/
def prOf (p : Ct.Pi) : Pr := ⟨p.id, p.home, p.rim, p.worn, p.marks, ofR p.tol, ofR p.light, ofR p.heavy, ofR p.str, ofR p.rough⟩
end
end Go.Proofs.YtnpdpjfdgialeaaGreatDoor.E.Pc
namespace Go.Proofs.YtnpdpjfdgialeaaGreatDoor.E.Ct
open Go.RowKit
set_option linter.unusedVariables false
set_option linter.unusedSimpArgs false
structure To where
 a : Int
 b : Int
 p : Vc
 q : Vc
 n : Vc
 r : Rat
section
end
end Go.Proofs.YtnpdpjfdgialeaaGreatDoor.E.Ct






namespace Go.Proofs.YtnpdpjfdgialeaaGreatDoor.E.Ct
open Go.RowKit
set_option linter.unusedVariables false
set_option linter.unusedSimpArgs false
section
variable {i : Nat} {z : List Int} {at' : Nat} {n : Int}
theorem is2_ : W.Is64 2 := ⟨by decide, by decide⟩
theorem bq_small {x y : Int} (hx : -64 ≤ x ∧ x ≤ 64) (hy : 1 ≤ y ∧ y ≤ 2) : Bq 8 (Rat.divInt x y) := Bq.divInt (k := 8) (by unfold I.Bd; omega) (by unfold I.Bd; omega) (by omega)
end
end Go.Proofs.YtnpdpjfdgialeaaGreatDoor.E.Ct

namespace Go.Proofs.YtnpdpjfdgialeaaGreatDoor.E.Ct
open Go.RowKit
set_option linter.unusedVariables false
set_option linter.unusedSimpArgs false
def Sm_ (b : Int) (p : Int × Int) : Prop := -b ≤ p.1 ∧ p.1 ≤ b ∧ -b ≤ p.2 ∧ p.2 ≤ b
end Go.Proofs.YtnpdpjfdgialeaaGreatDoor.E.Ct

namespace Go.Proofs.YtnpdpjfdgialeaaGreatDoor.E.Ct
open Go.RowKit
set_option linter.unusedVariables false
set_option linter.unusedSimpArgs false
def cenV (p : Pi) (pl : Pl) : Vc := vput pl (Pg.center p.rimV)
section
variable {rt : Nat → Int} {j k i b : Nat} {r : Nat}
theorem cen_bits {k : Nat} {L : List Vc} (hb : ∀ a ∈ L, Bv k a) (hn : L.length ≤ 100) : Bv ((6 * k + 3) * 100 + 1 + (2 + ((4 * k + 2) * 100 + 1))) (Pg.center L) := by
 have h1 := pre_bits (n := L.length) (fun a b ha hb => (fx_bits (k := k) ha hb).1) rfl hb (List.finRange _) (by rw [List.length_finRange]; exact hn)
 have h2 := pre_bits (n := L.length) (fun a b ha hb => (fx_bits (k := k) ha hb).2) rfl hb (List.finRange _) (by rw [List.length_finRange]; exact hn)
 have h3 := pre_bits (n := L.length) (fun a b ha hb => crs_bits (k := k) ha hb) rfl hb (List.finRange _) (by rw [List.length_finRange]; exact hn)
 rw [Pg.at_all L _ rfl] at h1 h2 h3
 exact Bv.sca (v := (Pg.sum Pg.fx (Pg.sides L), Pg.sum Pg.fy (Pg.sides L))) ⟨h1, h2⟩ (third_bits.div h3 (by omega))
theorem Pi.Good.cen {p : Pi} {pl : Pl} (h : p.Good pl b) : Bv (1010 * b + 1000) (Pg.center p.rimV) := (cen_bits h.r (by have := h.n; unfold Pi.rimV; rw [List.length_map]; omega)).mono (by omega)
end
section
variable {p : Pi} {pl : Pl} {b : Nat}
theorem e_pcen (h : p.Good pl b) : Pure PP 45 [.ag p.v, .ag (dPl pl)] (.ag (dV (cenV p pl))) := by
 have hk := h.k
 have hn : p.rimV.length ≤ 100 := by have := h.n; unfold Pi.rimV; rw [List.length_map]; omega
 exact tr [cl (e_rim h.ok), cl (e_center h.r hn h.k), cl (e_put h.t h.a h.cen (by omega))] (by kernel_rfl)
end
end Go.Proofs.YtnpdpjfdgialeaaGreatDoor.E.Ct






namespace Go.Proofs.YtnpdpjfdgialeaaGreatDoor.E.Ct
open Go.RowKit
set_option linter.unusedVariables false
set_option linter.unusedSimpArgs false
section
variable {st gl : Int} {i k n r b m : Nat} {rt : Nat → Int}
theorem zs_fun {f g : Nat → Int} {x : Int} (hk : k < n) (h1 : g k = x) (h2 : ∀ i, i ≠ k → g i = f i) : (zs ((List.range n).map f)).set k [ni x] = zs ((List.range n).map g) := by
 rw [zs_set]
 congr 1
 apply List.ext_getElem?
 intro i
 rw [List.getElem?_set, List.length_map, List.length_range, List.getElem?_map, List.getElem?_map]
 by_cases e : k = i
 · subst e
   rw [if_pos rfl, if_pos hk, List.getElem?_range hk]
   simp only [Option.map_some, h1]
 · rw [if_neg e]
   by_cases hi : i < n
   · rw [List.getElem?_range hi]
     simp only [Option.map_some, h2 i (fun e' => e e'.symm)]
   · rw [List.getElem?_eq_none (by simpa using hi)]; rfl
theorem zs_fun_at {f : Nat → Int} (hk : k < n) : (zs ((List.range n).map f))[k]? = some [ni (f k)] := zs_at (by rw [List.getElem?_map, List.getElem?_range hk]; rfl)
end
end Go.Proofs.YtnpdpjfdgialeaaGreatDoor.E.Ct
namespace Go.Proofs.YtnpdpjfdgialeaaGreatDoor.E.Ct
open Go.RowKit
set_option linter.unusedVariables false
set_option linter.unusedSimpArgs false
def z4_ : List V := [bo false, .sl [], bo false, .sl []]
theorem dV_0 (r : Rat) : dV (r, 0) = dR r ++ z4_ := by show dR r ++ dR 0 = _; rw [dR_0]; rfl
theorem dV_00 : dV (0, 0) = z4_ ++ z4_ := by show dR 0 ++ dR 0 = _; rw [dR_0]; rfl
def stillV : Vc := (Rat.divInt 1 1, 0)
section
variable {l : List Int} {P : List (Int × Int)} {n : Int} {at_' k b : Nat}
theorem e_still5 : Pure PP 40 [] (.ag (dV stillV)) := by
 unfold stillV
 rw [dV_0]
 exact tr [cl (e_of4 (x := 1) (y := 1) is1_ is1_)] (by kernel_rfl)
theorem i64_ {x : Int} (h : -100000 ≤ x ∧ x ≤ 100000) : W.Is64 x := by unfold W.Is64; omega
theorem ptR_len (P : List (Int × Int)) : (ptR P).length = P.length := List.length_map ..
/-- A new piece's cells. -/
def pi0 : List V := [ni 0, ni 0, .nl, .nl, .nl] ++ ([bo false, .nl, bo false, .nl] ++ ([bo false, .nl, bo false, .nl] ++ ([bo false, .nl, bo false, .nl] ++ ([bo false, .nl, bo false, .nl] ++ [bo false, .nl, bo false, .nl]))))
end
end Go.Proofs.YtnpdpjfdgialeaaGreatDoor.E.Ct
namespace Go.Proofs.YtnpdpjfdgialeaaGreatDoor.E.Ct
open Go.RowKit
set_option linter.unusedVariables false
set_option linter.unusedSimpArgs false
section
variable {l : List Int} {P Q : List (Int × Int)} {n : Int} {k b : Nat}
theorem qv_sm {p : Int × Int} (h : Sm_ 12 p) : Bv 8 (qv p) := by
 unfold Sm_ at h
 exact ⟨bq_small (by omega) (by omega), bq_small (by omega) (by omega)⟩
theorem sm64 {p : Int × Int} (h : Sm_ 12 p) : W.Is64 p.1 ∧ W.Is64 p.2 := by unfold Sm_ at h; exact ⟨i64_ (by omega), i64_ (by omega)⟩
theorem qvs (h : ∀ p ∈ P, Sm_ 12 p) : ∀ a ∈ P.map qv, Bv 8 a := fun a ha => by
 obtain ⟨p, hp, rfl⟩ := List.mem_map.1 ha
 exact qv_sm (h p hp)
theorem pt_app (P : List (Int × Int)) (p : Int × Int) : ptR P ++ [[ni p.1, ni p.2]] = ptR (P ++ [p]) := by unfold ptR; rw [List.map_append]; rfl
end
end Go.Proofs.YtnpdpjfdgialeaaGreatDoor.E.Ct



