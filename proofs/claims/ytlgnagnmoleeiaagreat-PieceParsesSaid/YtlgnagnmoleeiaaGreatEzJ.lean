/-
 PIECE: Valid.
-/
import Derived.Test.YtlgnagnmoleeiaaGreatEwT
import Derived.Test.YtlgnagnmoleeiaaGreatCdA
import Derived.Test.YtlgnagnmoleeiaaGreatEtD
namespace Go.Proofs.YtlgnagnmoleeiaaGreat.E.Pc
open Go.RowKit
set_option linter.unusedVariables false
set_option linter.unusedSimpArgs false
theorem take_st {α : Type} {l m : List α} {i : Nat} {a b : α} (h : l.take i = m.take i) (ha : l[i]? = some a) (hb : m[i]? = some b) (e : a = b) : l.take (i + 1) = m.take (i + 1) := by
 rw [List.take_add_one, List.take_add_one, h, ha, hb, e]
noncomputable abbrev feq : Func := fnOf PP 146
theorem e_eqI (l m : List Int) : Pure PP 146 [zl l, zl m] (bo (decide (l = m))) := by
 refine .len 0 (l := zs l) (by kernel_rfl) rfl fun hm => ?_
 have z1 := zs_len l
 have z2 := zs_len m
 unfold maxLen at hm
 by_cases hl : l.length = m.length
 · let X : Nat → St := fun i => at_ feq [(0, zl l), (1, zl m), (12, ni ((zs l).length : Int)), (13, ni i)] []
   refine pf (by kernel_rfl) (.to mo_ [] [0, 1, 12, 13] [] 0 [na (t := ((zs l).length : Int) != ((zs m).length : Int)) (by rw [z1, z2, hl]; simp)] (td' := lp feq 0) (σ' := X 0) ?_ (by kernel_rfl))
   refine Gd.loop X (fun i => i ≤ l.length ∧ l.take i = m.take i) (fun i => l.length - i) ?_ 0 ⟨Nat.zero_le _, rfl⟩
   intro i ⟨hi, hI⟩ ih
   by_cases h : i < l.length
   · obtain ⟨a, ha, _⟩ := Ct.get_of h
     obtain ⟨b, hb, _⟩ := Ct.get_of (l := m) (i := i) (by omega)
     have hlt : decide ((i : Int) < ((zs l).length : Int)) = true := decide_eq_true (by omega)
     by_cases e : a = b
     · exact .to mo_ [] [0, 1, 12, 13] [] 0 ([ye hlt, .sel _ _ _ (zs_at ha), .sel _ _ _ (zs_at hb)] ++ [na (t := a != b) (by simp [e]), inc 25 i (by omega)]) (ih (i + 1) ⟨h, take_st hI ha hb e⟩ (by omega)) (by kernel_rfl)
     · have hne : l ≠ m := fun h2 => by subst h2; rw [ha] at hb; exact e (Option.some.inj hb)
       rw [show decide (l = m) = false from decide_eq_false hne]
       exact fi ([ye hlt, .sel _ _ _ (zs_at ha), .sel _ _ _ (zs_at hb)] ++ [ye (t := a != b) (by simp [e])]) (by kernel_rfl) (by kernel_rfl)
   · have heq : l = m := by rwa [List.take_of_length_le (by omega), List.take_of_length_le (by omega)] at hI
     rw [show decide (l = m) = true from decide_eq_true heq]
     exact fi [na (t := decide ((i : Int) < ((zs l).length : Int))) (decide_eq_false (by omega))] (by kernel_rfl) (by kernel_rfl)
 · rw [show decide (l = m) = false from decide_eq_false fun e => hl (by rw [e])]
   exact tr [ye (t := ((zs l).length : Int) != ((zs m).length : Int)) (by rw [z1, z2]; simp; omega)] (by kernel_rfl)
theorem e_psame1 (x y : Int) : Pure PP 192 [.ag (dI x), .ag (dI y)] (bo (decide (x = y))) := by
 by_cases hs : decide (x < 0) = decide (y < 0)
 · have hd : decide (x = y) = decide (digs x.natAbs = digs y.natAbs) := by
    rw [decide_eq_decide]
    refine ⟨fun e => by rw [e], fun heq => ?_⟩
    have h2 : (x.natAbs : Int) = (y.natAbs : Int) := by rw [← val_ (x := x), ← val_ (x := y), heq]
    by_cases h4 : x < 0 <;> by_cases h5 : y < 0 <;> simp [h4, h5] at hs <;> omega
   rw [hd]
   exact tr [ye (t := decide (x < 0) == decide (y < 0)) (by rw [hs]; simp), cl (e_eqI (digs x.natAbs) (digs y.natAbs))] (by kernel_rfl)
 · rw [decide_eq_false (fun e => hs (by rw [e]))]
   exact tr [na (t := decide (x < 0) == decide (y < 0)) (by simpa using hs)] (by kernel_rfl)
theorem e_psame (r t : Rat) : Pure PP 143 [.ag (dR r), .ag (dR t)] (bo (decide (r = t))) := by
 by_cases h : r.num = t.num
 · rw [show decide (r = t) = decide (dq r = dq t) from decide_eq_decide.2 ⟨fun e => by rw [e], dq_inj h⟩]
   exact tr [cl (e_psame1 r.num t.num), ye (decide_eq_true h), cl (e_psame1 (dq r) (dq t))] (by kernel_rfl)
 · rw [show decide (r = t) = false from decide_eq_false fun e => h (by rw [e])]
   exact tr [cl (e_psame1 r.num t.num), na (decide_eq_false h)] (by kernel_rfl)
/-- Two points are compared. -/
theorem e_pt2 (a b : Int × Int) : EqA PP 93 ([a.1, a.2].map ni) ([b.1, b.2].map ni) (decide (a = b)) := by
 have h := EqA.str (P := PP) (T := 93) (n := 2) (by kernel_rfl) (xs := [a.1, a.2]) (ys := [b.1, b.2]) rfl rfl
 have e : decide ([a.1, a.2] = [b.1, b.2]) = decide (a = b) := decide_eq_decide.2 ⟨fun h => by
  simp only [List.cons.injEq, and_true] at h
  exact Prod.ext h.1 h.2, fun h => by rw [h]⟩
 rw [e] at h
 exact h
noncomputable abbrev feqP : Func := fnOf PP 144
theorem e_eqP (l m : List (Int × Int)) : Pure PP 144 [.sl (Ct.ptR l), .sl (Ct.ptR m)] (bo (decide (l = m))) := by
 refine .len 0 (l := Ct.ptR l) (by kernel_rfl) rfl fun hm => ?_
 have z1 : (Ct.ptR l).length = l.length := List.length_map ..
 have z2 : (Ct.ptR m).length = m.length := List.length_map ..
 have el : ∀ {l : List (Int × Int)} {i : Nat} {a : (Int × Int)}, l[i]? = some a → (Ct.ptR l)[i]? = some ([ni a.1, ni a.2]) := fun {l i a} h => by unfold Ct.ptR; rw [List.getElem?_map, h]; rfl
 unfold maxLen at hm
 by_cases hl : l.length = m.length
 · let X : Nat → St := fun i => at_ feqP [(0, .sl (Ct.ptR l)), (1, .sl (Ct.ptR m)), (12, ni ((Ct.ptR l).length : Int)), (13, ni i)] []
   refine pf (by kernel_rfl) (.to mo_ [] [0, 1, 12, 13] [] 0 [na (t := ((Ct.ptR l).length : Int) != ((Ct.ptR m).length : Int)) (by rw [z1, z2, hl]; simp)] (td' := lp feqP 0) (σ' := X 0) ?_ (by kernel_rfl))
   refine Gd.loop X (fun i => i ≤ l.length ∧ l.take i = m.take i) (fun i => l.length - i) ?_ 0 ⟨Nat.zero_le _, rfl⟩
   intro i ⟨hi, hI⟩ ih
   by_cases h : i < l.length
   · obtain ⟨a, ha, _⟩ := Ct.get_of h
     obtain ⟨b, hb, _⟩ := Ct.get_of (l := m) (i := i) (by omega)
     have hlt : decide ((i : Int) < ((Ct.ptR l).length : Int)) = true := decide_eq_true (by omega)
     by_cases e : a = b
     · exact .to mo_ [] [0, 1, 12, 13] [] 0 ([ye hlt, .sel _ _ _ (el ha), .sel _ _ _ (el hb)] ++ [.eqa _ _ _ _ (e_pt2 a b), na (t := !decide (a = b)) (by simp [e]), inc 25 i (by omega)]) (ih (i + 1) ⟨h, take_st hI ha hb e⟩ (by omega)) (by kernel_rfl)
     · have hne : l ≠ m := fun h2 => by subst h2; rw [ha] at hb; exact e (Option.some.inj hb)
       rw [show decide (l = m) = false from decide_eq_false hne]
       exact fi ([ye hlt, .sel _ _ _ (el ha), .sel _ _ _ (el hb)] ++ [.eqa _ _ _ _ (e_pt2 a b), ye (t := !decide (a = b)) (by simp [e])]) (by kernel_rfl) (by kernel_rfl)
   · have heq : l = m := by rwa [List.take_of_length_le (by omega), List.take_of_length_le (by omega)] at hI
     rw [show decide (l = m) = true from decide_eq_true heq]
     exact fi [na (t := decide ((i : Int) < ((Ct.ptR l).length : Int))) (decide_eq_false (by omega))] (by kernel_rfl) (by kernel_rfl)
 · rw [show decide (l = m) = false from decide_eq_false fun e => hl (by rw [e])]
   exact tr [ye (t := ((Ct.ptR l).length : Int) != ((Ct.ptR m).length : Int)) (by rw [z1, z2]; simp; omega)] (by kernel_rfl)
noncomputable abbrev feqB : Func := fnOf PP 145
theorem e_eqB (l m : List Bool) : Pure PP 145 [.sl (Ct.wnR l), .sl (Ct.wnR m)] (bo (decide (l = m))) := by
 refine .len 0 (l := Ct.wnR l) (by kernel_rfl) rfl fun hm => ?_
 have z1 : (Ct.wnR l).length = l.length := List.length_map ..
 have z2 : (Ct.wnR m).length = m.length := List.length_map ..
 have el : ∀ {l : List Bool} {i : Nat} {a : Bool}, l[i]? = some a → (Ct.wnR l)[i]? = some ([bo a]) := fun {l i a} h => by unfold Ct.wnR; rw [List.getElem?_map, h]; rfl
 unfold maxLen at hm
 by_cases hl : l.length = m.length
 · let X : Nat → St := fun i => at_ feqB [(0, .sl (Ct.wnR l)), (1, .sl (Ct.wnR m)), (12, ni ((Ct.wnR l).length : Int)), (13, ni i)] []
   refine pf (by kernel_rfl) (.to mo_ [] [0, 1, 12, 13] [] 0 [na (t := ((Ct.wnR l).length : Int) != ((Ct.wnR m).length : Int)) (by rw [z1, z2, hl]; simp)] (td' := lp feqB 0) (σ' := X 0) ?_ (by kernel_rfl))
   refine Gd.loop X (fun i => i ≤ l.length ∧ l.take i = m.take i) (fun i => l.length - i) ?_ 0 ⟨Nat.zero_le _, rfl⟩
   intro i ⟨hi, hI⟩ ih
   by_cases h : i < l.length
   · obtain ⟨a, ha, _⟩ := Ct.get_of h
     obtain ⟨b, hb, _⟩ := Ct.get_of (l := m) (i := i) (by omega)
     have hlt : decide ((i : Int) < ((Ct.wnR l).length : Int)) = true := decide_eq_true (by omega)
     by_cases e : a = b
     · exact .to mo_ [] [0, 1, 12, 13] [] 0 ([ye hlt, .sel _ _ _ (el ha), .sel _ _ _ (el hb)] ++ [na (t := a != b) (by simp [e]), inc 25 i (by omega)]) (ih (i + 1) ⟨h, take_st hI ha hb e⟩ (by omega)) (by kernel_rfl)
     · have hne : l ≠ m := fun h2 => by subst h2; rw [ha] at hb; exact e (Option.some.inj hb)
       rw [show decide (l = m) = false from decide_eq_false hne]
       exact fi ([ye hlt, .sel _ _ _ (el ha), .sel _ _ _ (el hb)] ++ [ye (t := a != b) (by simpa using e)]) (by kernel_rfl) (by kernel_rfl)
   · have heq : l = m := by rwa [List.take_of_length_le (by omega), List.take_of_length_le (by omega)] at hI
     rw [show decide (l = m) = true from decide_eq_true heq]
     exact fi [na (t := decide ((i : Int) < ((Ct.wnR l).length : Int))) (decide_eq_false (by omega))] (by kernel_rfl) (by kernel_rfl)
 · rw [show decide (l = m) = false from decide_eq_false fun e => hl (by rw [e])]
   exact tr [ye (t := ((Ct.wnR l).length : Int) != ((Ct.wnR m).length : Int)) (by rw [z1, z2]; simp; omega)] (by kernel_rfl)
end Go.Proofs.YtlgnagnmoleeiaaGreat.E.Pc
namespace Go.Proofs.YtlgnagnmoleeiaaGreat.E.Pc
open Go.RowKit
set_option linter.unusedVariables false
set_option linter.unusedSimpArgs false
noncomputable abbrev fsm : Func := fnOf PP 78
def nuR (p : Ct.Pi) : List V := dR p.tol ++ (dR p.light ++ (dR p.heavy ++ (dR p.str ++ dR p.rough)))
theorem e_same1 (p : Ct.Pi) : Pure PP 78 [.ag p.v, .ag p.v] (bo true) := by
 have hv : p.v = [ni p.id, ni p.home, .sl (Ct.ptR p.rim), .sl (Ct.wnR p.worn), zl p.marks] ++ (dR p.tol ++ (dR p.light ++ (dR p.heavy ++ (dR p.str ++ dR p.rough)))) := rfl
 have en := e_numbers p
 have s0 := e_psame p.tol p.tol
 have s1 := e_psame p.light p.light
 have s2 := e_psame p.heavy p.heavy
 have s3 := e_psame p.str p.str
 have s4 := e_psame p.rough p.rough
 rw [decide_eq_true rfl] at s0 s1 s2 s3 s4
 have c1 := e_eqP p.rim p.rim
 have c2 := e_eqB p.worn p.worn
 have c3 := e_eqI p.marks p.marks
 rw [decide_eq_true rfl] at c1 c2 c3
 let Y : Nat → St := fun i => at_ fsm [(2, .lp 0 0), (3, .lp 1 0), (5, .lp 2 0), (6, .lp 3 0), (12, ni i)] [.bx 30 p.v, .bx 30 p.v, .bx 96 (nuR p), .bx 96 (nuR p)]
 have next : Gd PP 78 (.v (bo true)) (lp fsm 0) (Y 5) := by
  simp only [Y]
  rw [hv]
  unfold nuR
  generalize Ct.ptR p.rim = PR at *
  generalize Ct.wnR p.worn = WR at *
  exact fi [nf, ye (t := p.id == p.id) (by simp), ye (t := p.home == p.home) (by simp), cl c1, yt, cl c2, yt, cl c3] (by kernel_rfl) (by kernel_rfl)
 simp only [Y] at next
 rw [hv] at en next ⊢
 unfold nuR at next
 generalize Ct.ptR p.rim = PR at *
 generalize Ct.wnR p.worn = WR at *
 refine pf (by kernel_rfl) (.to mo_ [] [2, 3, 5, 6, 12] [0, 1, 2, 3] 4 [cl en, cl en] (td' := lp fsm 0) (σ' := at_ fsm [(2, .lp 0 0), (3, .lp 1 0), (5, .lp 2 0), (6, .lp 3 0), (12, ni 0)] [.bx 30 ([ni p.id, ni p.home, .sl PR, .sl WR, zl p.marks] ++ (dR p.tol ++ (dR p.light ++ (dR p.heavy ++ (dR p.str ++ dR p.rough))))), .bx 30 ([ni p.id, ni p.home, .sl PR, .sl WR, zl p.marks] ++ (dR p.tol ++ (dR p.light ++ (dR p.heavy ++ (dR p.str ++ dR p.rough))))), .bx 96 (dR p.tol ++ (dR p.light ++ (dR p.heavy ++ (dR p.str ++ dR p.rough)))), .bx 96 (dR p.tol ++ (dR p.light ++ (dR p.heavy ++ (dR p.str ++ dR p.rough))))]) ?_ (by kernel_rfl))
 refine .to mo_ [] [2, 3, 5, 6, 12] [0, 1, 2, 3] 4 [yt, cl s0, nf] (td' := lp fsm 0) (σ' := at_ fsm [(2, .lp 0 0), (3, .lp 1 0), (5, .lp 2 0), (6, .lp 3 0), (12, ni 1)] [.bx 30 ([ni p.id, ni p.home, .sl PR, .sl WR, zl p.marks] ++ (dR p.tol ++ (dR p.light ++ (dR p.heavy ++ (dR p.str ++ dR p.rough))))), .bx 30 ([ni p.id, ni p.home, .sl PR, .sl WR, zl p.marks] ++ (dR p.tol ++ (dR p.light ++ (dR p.heavy ++ (dR p.str ++ dR p.rough))))), .bx 96 (dR p.tol ++ (dR p.light ++ (dR p.heavy ++ (dR p.str ++ dR p.rough)))), .bx 96 (dR p.tol ++ (dR p.light ++ (dR p.heavy ++ (dR p.str ++ dR p.rough))))]) ?_ (by kernel_rfl)
 refine .to mo_ [] [2, 3, 5, 6, 12] [0, 1, 2, 3] 4 [yt, cl s1, nf] (td' := lp fsm 0) (σ' := at_ fsm [(2, .lp 0 0), (3, .lp 1 0), (5, .lp 2 0), (6, .lp 3 0), (12, ni 2)] [.bx 30 ([ni p.id, ni p.home, .sl PR, .sl WR, zl p.marks] ++ (dR p.tol ++ (dR p.light ++ (dR p.heavy ++ (dR p.str ++ dR p.rough))))), .bx 30 ([ni p.id, ni p.home, .sl PR, .sl WR, zl p.marks] ++ (dR p.tol ++ (dR p.light ++ (dR p.heavy ++ (dR p.str ++ dR p.rough))))), .bx 96 (dR p.tol ++ (dR p.light ++ (dR p.heavy ++ (dR p.str ++ dR p.rough)))), .bx 96 (dR p.tol ++ (dR p.light ++ (dR p.heavy ++ (dR p.str ++ dR p.rough))))]) ?_ (by kernel_rfl)
 refine .to mo_ [] [2, 3, 5, 6, 12] [0, 1, 2, 3] 4 [yt, cl s2, nf] (td' := lp fsm 0) (σ' := at_ fsm [(2, .lp 0 0), (3, .lp 1 0), (5, .lp 2 0), (6, .lp 3 0), (12, ni 3)] [.bx 30 ([ni p.id, ni p.home, .sl PR, .sl WR, zl p.marks] ++ (dR p.tol ++ (dR p.light ++ (dR p.heavy ++ (dR p.str ++ dR p.rough))))), .bx 30 ([ni p.id, ni p.home, .sl PR, .sl WR, zl p.marks] ++ (dR p.tol ++ (dR p.light ++ (dR p.heavy ++ (dR p.str ++ dR p.rough))))), .bx 96 (dR p.tol ++ (dR p.light ++ (dR p.heavy ++ (dR p.str ++ dR p.rough)))), .bx 96 (dR p.tol ++ (dR p.light ++ (dR p.heavy ++ (dR p.str ++ dR p.rough))))]) ?_ (by kernel_rfl)
 refine .to mo_ [] [2, 3, 5, 6, 12] [0, 1, 2, 3] 4 [yt, cl s3, nf] (td' := lp fsm 0) (σ' := at_ fsm [(2, .lp 0 0), (3, .lp 1 0), (5, .lp 2 0), (6, .lp 3 0), (12, ni 4)] [.bx 30 ([ni p.id, ni p.home, .sl PR, .sl WR, zl p.marks] ++ (dR p.tol ++ (dR p.light ++ (dR p.heavy ++ (dR p.str ++ dR p.rough))))), .bx 30 ([ni p.id, ni p.home, .sl PR, .sl WR, zl p.marks] ++ (dR p.tol ++ (dR p.light ++ (dR p.heavy ++ (dR p.str ++ dR p.rough))))), .bx 96 (dR p.tol ++ (dR p.light ++ (dR p.heavy ++ (dR p.str ++ dR p.rough)))), .bx 96 (dR p.tol ++ (dR p.light ++ (dR p.heavy ++ (dR p.str ++ dR p.rough))))]) ?_ (by kernel_rfl)
 exact .to mo_ [] [2, 3, 5, 6, 12] [0, 1, 2, 3] 4 [yt, cl s4, nf] next (by kernel_rfl)
end Go.Proofs.YtlgnagnmoleeiaaGreat.E.Pc
namespace Go.Proofs.YtlgnagnmoleeiaaGreat.E.Pc
open Go.RowKit
set_option linter.unusedVariables false
set_option linter.unusedSimpArgs false
def inW (n lo hi : Int) : Bool := decide (n ≥ lo) && decide (n ≤ hi)
def ptW (c : Int × Int) : Bool := inW c.1 (-65536) 65536 && inW c.2 (-65536) 65536
def rngB (id home : Int) (P : List (Int × Int)) (M : List Int) : Bool := P.all ptW && (M.all (fun m => inW m 0 1024) && (inW id 0 999 && inW home 0 4))
section
variable {id home : Int} {P : List (Int × Int)} {M : List Int} {Wn : List Bool} {n lo hi : Int} {a b c d e : RN}
theorem e_within (n lo hi : Int) : Pure PP 123 [ni n, ni lo, ni hi] (bo (inW n lo hi)) := by
 unfold inW
 by_cases h : n ≥ lo
 · rw [decide_eq_true h]
   exact tr [ye (t := decide (n ≥ lo)) (decide_eq_true h)] (by kernel_rfl)
 · rw [decide_eq_false h]
   exact tr [na (t := decide (n ≥ lo)) (decide_eq_false h)] (by kernel_rfl)
noncomputable abbrev fir : Func := fnOf PP 61
/-- A piece with any numbers. -/
def anyP (id home : Int) (P : List (Int × Int)) (Wn : List Bool) (M : List Int) (a b c d e : RN) : List V := [ni id, ni home, .sl (Ct.ptR P), .sl (Ct.wnR Wn), zl M] ++ (cN a ++ (cN b ++ (cN c ++ (cN d ++ cN e))))
noncomputable abbrev GI (b : Bool) (td : List Item) (σ : St) : Prop := Gd PP 61 (.v (bo b)) td σ
theorem all_at {α : Type} {f : α → Bool} {l : List α} {i : Nat} {a : α} (h : l[i]? = some a) (hf : f a = false) : l.all f = false := by
 cases e : l.all f with
 | false => rfl
 | true =>
  rw [List.all_eq_true] at e
  rw [e a (List.mem_of_getElem? h)] at hf
  cases hf
theorem all_up {α : Type} {f : α → Bool} {l : List α} (h : ∀ (i : Nat) (a : α), l[i]? = some a → f a = true) : l.all f = true := by
 rw [List.all_eq_true]
 intro a ha
 obtain ⟨i, hi, e⟩ := List.getElem_of_mem ha
 exact h i a (by rw [List.getElem?_eq_getElem hi, e])
/-- The part behind the corners. -/
theorem ir_marks (hP : P.all ptW = true) (hm : M.length ≤ 4611686018427387904) : GI (rngB id home P M) (lp fir 1) (at_ fir [(1, .ip (anyP id home P Wn M a b c d e)), (26, zl M), (27, ni (M.length : Int)), (28, ni ((0 : Nat) : Int))] []) := by
 refine Gd.loop (fun i : Nat => at_ fir [(1, .ip (anyP id home P Wn M a b c d e)), (26, zl M), (27, ni (M.length : Int)), (28, ni (i : Int))] []) (fun i => i ≤ M.length ∧ ∀ t y, t < i → M[t]? = some y → inW y 0 1024 = true) (fun i => M.length - i) ?_ 0 ⟨Nat.zero_le _, fun t y ht => by omega⟩
 intro i ⟨hi, hall⟩ ih
 by_cases gi : i < M.length
 · obtain ⟨y, hy, _⟩ := Ct.get_of gi
   have hx : decide ((i : Int) < (M.length : Int)) = true := decide_eq_true (by omega)
   have cw := e_within y 0 1024
   cases hw : inW y 0 1024 with
   | true =>
     rw [hw] at cw
     have nx := ih (i + 1) ⟨gi, fun t z ht hz => by
      rcases Nat.lt_or_ge t i with h5 | h5
      · exact hall t z h5 hz
      · have : t = i := by omega
        subst this
        rw [hy] at hz
        injection hz with hz
        subst hz
        exact hw⟩ (by omega)
     unfold anyP at nx ⊢
     generalize Ct.ptR P = PR at *
     generalize Ct.wnR Wn = WR at *
     exact .to mo_ [] [1, 26, 27, 28] [] 0 [ye hx, .sel _ _ _ (zs_at hy), cl cw, nf, inc 35 i (by omega)] nx (by kernel_rfl)
   | false =>
     rw [hw] at cw
     have hr : rngB id home P M = false := by unfold rngB; rw [all_at (f := fun m => inW m 0 1024) hy hw, Bool.false_and, Bool.and_false]
     show Gd PP _ (.v (bo (rngB id home P M))) _ _
     rw [hr]
     unfold anyP
     generalize Ct.ptR P = PR at *
     generalize Ct.wnR Wn = WR at *
     exact fi [ye hx, .sel _ _ _ (zs_at hy), cl cw, yt] (by kernel_rfl) (by kernel_rfl)
 · have ei : i = M.length := by omega
   subst ei
   have hx : decide ((M.length : Int) < (M.length : Int)) = false := decide_eq_false (by omega)
   have hM : M.all (fun m => inW m 0 1024) = true := all_up fun t y hy => hall t y (List.getElem?_eq_some_iff.1 hy).1 hy
   have c1 := e_within id 0 999
   have c2 := e_within home 0 4
   have hr : rngB id home P M = (inW id 0 999 && inW home 0 4) := by unfold rngB; rw [hP, hM]; rfl
   show Gd PP _ (.v (bo (rngB id home P M))) _ _
   rw [hr]
   unfold anyP
   generalize Ct.ptR P = PR at *
   generalize Ct.wnR Wn = WR at *
   cases hw : inW id 0 999 with
   | true =>
     rw [hw] at c1
     exact fi [na hx, cl c1, yt, cl c2] (by kernel_rfl) (by kernel_rfl)
   | false =>
     rw [hw] at c1
     exact fi [na hx, cl c1, nf] (by kernel_rfl) (by kernel_rfl)
theorem e_inRange (hp : P.length ≤ 4611686018427387904) (hm : M.length ≤ 4611686018427387904) : Pure PP 61 [.ag (anyP id home P Wn M a b c d e)] (bo (rngB id home P M)) := by
 have hpl : (Ct.ptR P).length = P.length := List.length_map ..
 let X : Nat → St := fun i => at_ fir [(1, .ip (anyP id home P Wn M a b c d e)), (8, .sl (Ct.ptR P)), (9, ni (P.length : Int)), (10, ni (i : Int))] []
 refine pf (by kernel_rfl) (.to mo_ [.fz 1] [1, 8, 9, 10] [] 0 [.eqv 9 (ni ((Ct.ptR P).length : Int)) (ni (P.length : Int)) (by rw [hpl])] (td' := lp fir 0) (σ' := X 0) ?_ (by kernel_rfl))
 refine Gd.loop X (fun i => i ≤ P.length ∧ ∀ t y, t < i → P[t]? = some y → ptW y = true) (fun i => P.length - i) ?_ 0 ⟨Nat.zero_le _, fun t y ht => by omega⟩
 intro i ⟨hi, hall⟩ ih
 by_cases gi : i < P.length
 · obtain ⟨y, hy, _⟩ := Ct.get_of gi
   have hx : decide ((i : Int) < (P.length : Int)) = true := decide_eq_true (by omega)
   have c1 := e_within y.1 (-65536) 65536
   have c2 := e_within y.2 (-65536) 65536
   have hsel := Ct.pt_at hy
   have bad : ptW y = false → rngB id home P M = false := fun hw => by unfold rngB; rw [all_at (f := ptW) hy hw, Bool.false_and]
   cases hw : inW y.1 (-65536) 65536 with
   | true =>
     rw [hw] at c1
     cases hw2 : inW y.2 (-65536) 65536 with
     | true =>
       rw [hw2] at c2
       have nx := ih (i + 1) ⟨gi, fun t z ht hz => by
        rcases Nat.lt_or_ge t i with h5 | h5
        · exact hall t z h5 hz
        · have : t = i := by omega
          subst this
          rw [hy] at hz
          injection hz with hz
          subst hz
          unfold ptW
          rw [hw, hw2]
          rfl⟩ (by omega)
       simp only [X] at nx ⊢
       unfold anyP at nx ⊢
       generalize Ct.ptR P = PR at *
       generalize Ct.wnR Wn = WR at *
       exact .to mo_ [] [1, 8, 9, 10] [] 0 [ye hx, .sel _ _ _ hsel, cl c1, nf, cl c2, nf, inc 24 i (by omega)] nx (by kernel_rfl)
     | false =>
       rw [hw2] at c2
       rw [bad (by unfold ptW; rw [hw, hw2]; rfl)]
       simp only [X]
       unfold anyP
       generalize Ct.ptR P = PR at *
       generalize Ct.wnR Wn = WR at *
       exact fi [ye hx, .sel _ _ _ hsel, cl c1, nf, cl c2, yt] (by kernel_rfl) (by kernel_rfl)
   | false =>
     rw [hw] at c1
     rw [bad (by unfold ptW; rw [hw]; rfl)]
     simp only [X]
     unfold anyP
     generalize Ct.ptR P = PR at *
     generalize Ct.wnR Wn = WR at *
     exact fi [ye hx, .sel _ _ _ hsel, cl c1, yt, yt] (by kernel_rfl) (by kernel_rfl)
 · have ei : i = P.length := by omega
   subst ei
   have hx : decide ((P.length : Int) < (P.length : Int)) = false := decide_eq_false (by omega)
   have hP : P.all ptW = true := all_up fun t y hy => hall t y (List.getElem?_eq_some_iff.1 hy).1 hy
   have nn := ir_marks (id := id) (home := home) (P := P) (M := M) (Wn := Wn) (a := a) (b := b) (c := c) (d := d) (e := e) hP hm
   simp only [X]
   unfold anyP at nn ⊢
   generalize Ct.ptR P = PR at *
   generalize Ct.wnR Wn = WR at *
   exact .to mo_ [] [1, 26, 27, 28] [] 0 [na hx, .eqv 27 (ni ((zs M).length : Int)) (ni (M.length : Int)) (by rw [zs_len])] nn (by kernel_rfl)
end
end Go.Proofs.YtlgnagnmoleeiaaGreat.E.Pc
namespace Go.Proofs.YtlgnagnmoleeiaaGreat.E.Pc
open Go.RowKit
set_option linter.unusedVariables false
set_option linter.unusedSimpArgs false
section
variable {id home : Int} {P : List (Int × Int)} {M : List Int} {Wn : List Bool} {a b c d e : RN} {p : Ct.Pi}
noncomputable abbrev fpv : Func := fnOf PP 12
theorem e_numbersN : Pure PP 62 [.ag (anyP id home P Wn M a b c d e)] (.ag (cN a ++ (cN b ++ (cN c ++ (cN d ++ cN e))))) := by
 unfold anyP
 generalize Ct.ptR P = PR at *
 generalize Ct.wnR Wn = WR at *
 exact tr [] (by kernel_rfl)
/-- Out of range. -/
theorem e_pv_rng (hp : P.length ≤ 4611686018427387904) (hm : M.length ≤ 4611686018427387904) (h : rngB id home P M = false) : Pure PP 12 [.ag (anyP id home P Wn M a b c d e)] (ni 5) := by
 have ir := e_inRange (id := id) (home := home) (P := P) (Wn := Wn) (M := M) (a := a) (b := b) (c := c) (d := d) (e := e) hp hm
 rw [h] at ir
 unfold anyP at ir ⊢
 generalize Ct.ptR P = PR at *
 generalize Ct.wnR Wn = WR at *
 exact tr [cl ir, yt] (by kernel_rfl)
/-- Wrong lengths. -/
theorem e_pv_len (hp : P.length ≤ 4611686018427387904) (hm : M.length ≤ 4611686018427387904) (h : rngB id home P M = true) (hl : ¬ (P.length ≤ 12 ∧ Wn.length = P.length ∧ M.length = P.length)) : Pure PP 12 [.ag (anyP id home P Wn M a b c d e)] (ni 1) := by
 have ir := e_inRange (id := id) (home := home) (P := P) (Wn := Wn) (M := M) (a := a) (b := b) (c := c) (d := d) (e := e) hp hm
 rw [h] at ir
 have l1 : (Ct.ptR P).length = P.length := List.length_map ..
 have l2 : (Ct.wnR Wn).length = Wn.length := List.length_map ..
 have l3 : (zs M).length = M.length := zs_len M
 unfold anyP at ir ⊢
 generalize Ct.ptR P = PR at *
 generalize Ct.wnR Wn = WR at *
 by_cases g1 : P.length ≤ 12
 · by_cases g2 : Wn.length = P.length
   · have g3 : M.length ≠ P.length := fun e => hl ⟨g1, g2, e⟩
     exact tr [cl ir, nf, .eqv 14 (ni (PR.length : Int)) (ni (P.length : Int)) (by rw [l1]), na (t := decide ((P.length : Int) > 12)) (decide_eq_false (by omega)), .eqv 20 (ni (WR.length : Int)) (ni (Wn.length : Int)) (by rw [l2]), na (t := (Wn.length : Int) != (P.length : Int)) (by simp; omega), .eqv 27 (ni ((zs M).length : Int)) (ni (M.length : Int)) (by rw [l3]), ye (t := (M.length : Int) != (P.length : Int)) (by simp; omega)] (by kernel_rfl)
   · exact tr [cl ir, nf, .eqv 14 (ni (PR.length : Int)) (ni (P.length : Int)) (by rw [l1]), na (t := decide ((P.length : Int) > 12)) (decide_eq_false (by omega)), .eqv 20 (ni (WR.length : Int)) (ni (Wn.length : Int)) (by rw [l2]), ye (t := (Wn.length : Int) != (P.length : Int)) (by simp; omega), yt] (by kernel_rfl)
 · exact tr [cl ir, nf, .eqv 14 (ni (PR.length : Int)) (ni (P.length : Int)) (by rw [l1]), ye (t := decide ((P.length : Int) > 12)) (decide_eq_true (by omega)), yt, yt] (by kernel_rfl)
noncomputable abbrev GV (z : Int) (td : List Item) (σ : St) : Prop := Gd PP 12 (.v (ni z)) td σ
noncomputable def pvS (id home : Int) (P : List (Int × Int)) (Wn : List Bool) (M : List Int) (a b c d e : RN) (i : Int) : St := at_ fpv [(1, .ip (anyP id home P Wn M a b c d e)), (32, .ag (cN a ++ (cN b ++ (cN c ++ (cN d ++ cN e))))), (33, ni i)] []
/-- Up to the numbers. -/
theorem pv_head {z : Int} (hp : P.length ≤ 12) (h : rngB id home P M = true) (hw : Wn.length = P.length) (hm : M.length = P.length) (next : GV z (lp fpv 0) (pvS id home P Wn M a b c d e 0)) : Pure PP 12 [.ag (anyP id home P Wn M a b c d e)] (ni z) := by
 have ir := e_inRange (id := id) (home := home) (P := P) (Wn := Wn) (M := M) (a := a) (b := b) (c := c) (d := d) (e := e) (by omega) (by omega)
 rw [h] at ir
 have l1 : (Ct.ptR P).length = P.length := List.length_map ..
 have l2 : (Ct.wnR Wn).length = Wn.length := List.length_map ..
 have l3 : (zs M).length = M.length := zs_len M
 have en := e_numbersN (id := id) (home := home) (P := P) (Wn := Wn) (M := M) (a := a) (b := b) (c := c) (d := d) (e := e)
 unfold pvS at next
 unfold anyP at ir en next ⊢
 generalize Ct.ptR P = PR at *
 generalize Ct.wnR Wn = WR at *
 exact pf (by kernel_rfl) (.to mo_ [.fz 1] [1, 32, 33] [] 0 [cl ir, nf, .eqv 14 (ni (PR.length : Int)) (ni (P.length : Int)) (by rw [l1]), na (t := decide ((P.length : Int) > 12)) (decide_eq_false (by omega)), .eqv 20 (ni (WR.length : Int)) (ni (Wn.length : Int)) (by rw [l2]), na (t := (Wn.length : Int) != (P.length : Int)) (by simp; omega), .eqv 27 (ni ((zs M).length : Int)) (ni (M.length : Int)) (by rw [l3]), na (t := (M.length : Int) != (P.length : Int)) (by simp; omega), cl en] next (by kernel_rfl))
end
end Go.Proofs.YtlgnagnmoleeiaaGreat.E.Pc
