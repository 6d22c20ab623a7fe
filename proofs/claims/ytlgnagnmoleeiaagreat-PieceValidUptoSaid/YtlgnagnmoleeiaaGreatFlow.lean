/-
 A REGION THAT DRAWS ITS ORDER, AS A FLOW OF VALUES: each operation says what it yields once its operands are there, whatever else was done; the stores come last.
-/
import Derived.Test.YtlgnagnmoleeiaaGreatRows
import Derived.Test.YtlgnagnmoleeiaaGreatMemI
import Derived.WalkLawsBesides
import Derived.LoopTactic
import Derived.BigQuiet
import Derived.Deep.QuietTactic
import Derived.Deep.LoopGhost
import Derived.Test.YtlgnagnmoleeiaaGreatPlainI
namespace Go.Proofs.YtlgnagnmoleeiaaGreat
open Go.RowKit
/-- So many zeros, as cells. -/
def zs (n : Nat) : Array Value := (il (List.replicate n 0)).toArray
/-- Block g is the row of these ints. -/
def Bk (w : World) (g : Nat) (l : List Int) : Prop := w.heap[g]? = some (.cells (il l).toArray 3 (0, 0))
section
variable {w w' : World} {g : Nat} {l : List Int}
theorem Bk.lt (h : Bk w g l) : g < w.heap.size := (Array.getElem?_eq_some_iff.1 h).1
theorem Bk.cell (h : Bk w g l) {i : Nat} {x : Int} (hx : l[i]? = some x) : w.cell? ⟨g, i, none⟩ = some (.int .i64 x) := by
 rw [cell_of_row w g i _ _ _ h]
 simpa using il_at l hx
theorem Bk.frozen (h : Bk w g l) (i : Nat) : w.frozen? ⟨g, i, none⟩ = false := by
 unfold Bk at h
 simp [World.frozen?, h]
theorem Bk.set_ (h : Bk w g l) (i : Nat) (x : Int) : Bk (w.setCell ⟨g, i, none⟩ (.int .i64 x)) g (l.set i x) := by
 unfold Bk at h ⊢
 simp [World.setCell, Array.getElem?_modify, h, il, List.map_set]
theorem Bk.drew (h : Bk w g l) : Bk w.drew g l := h
theorem Bk.drewN (h : Bk w g l) (n : Nat) : Bk (w.drewN n) g l := h
theorem Bk.alloc (h : Bk w g l) (o : Obj) : Bk (w.alloc o) g l := (Below.heap_alloc w o g h.lt).trans h
theorem Bk.below (h : Bk w g l) {B : Nat} (hb : Below B w w') (hg : g < B) : Bk w' g l := (hb.block g hg).trans h
theorem Bk.far (h : Bk w g l) {p : Addr} (hp : g ≠ p.block) (u : Value) : Bk (w.setCell p u) g l := (Below.heap_setCell w p u g hp).trans h
theorem Bk.new (w : World) (n : Nat) : Bk (w.alloc (.cells (zs n) 3)) w.heap.size (List.replicate n 0) := heap_alloc_new w _
theorem Bk.rd (h : Bk w g l) : Rd w w.heap.size (some ⟨g, 0, none⟩) (il l) := fun _ => ⟨g, 0, rfl, h.lt, fun j u hu => by
 rw [Nat.zero_add, cell_of_row w g j _ _ _ h]
 simpa using hu⟩
theorem Bk.sl (h : Bk w g l) {n c : Nat} (hn : n = l.length) (hc : n ≤ c) (hm : c ≤ maxLen) : Sl w (.slice (some ⟨g, 0, none⟩) n c) l := ⟨_, _, _, rfl, hn, hc, hm, h.rd, fun _ => ⟨_, _, _, _, rfl, h⟩⟩
end
/-- Block g is the box, or row, of these cells. -/
def Bx (w : World) (g T : Nat) (l : List Value) : Prop := w.heap[g]? = some (.cells l.toArray T (0, 0))
section
variable {w w' : World} {g T : Nat} {l : List Value}
theorem Bx.lt (h : Bx w g T l) : g < w.heap.size := (Array.getElem?_eq_some_iff.1 h).1
theorem Bx.cell (h : Bx w g T l) {i : Nat} {x : Value} (hx : l[i]? = some x) : w.cell? ⟨g, i, none⟩ = some x := by
 rw [cell_of_row w g i _ _ _ h]
 simpa using hx
theorem Bx.frozen (h : Bx w g T l) (i : Nat) : w.frozen? ⟨g, i, none⟩ = false := by
 unfold Bx at h
 simp [World.frozen?, h]
theorem Bx.set_ (h : Bx w g T l) (i : Nat) (x : Value) : Bx (w.setCell ⟨g, i, none⟩ x) g T (l.set i x) := by
 unfold Bx at h ⊢
 simp [World.setCell, Array.getElem?_modify, h]
theorem Bx.drew (h : Bx w g T l) : Bx w.drew g T l := h
theorem Bx.drewN (h : Bx w g T l) (n : Nat) : Bx (w.drewN n) g T l := h
theorem Bx.alloc (h : Bx w g T l) (o : Obj) : Bx (w.alloc o) g T l := (Below.heap_alloc w o g h.lt).trans h
theorem Bx.below (h : Bx w g T l) (hb : Below w.heap.size w w') : Bx w' g T l := (hb.block g h.lt).trans h
theorem Bx.far (h : Bx w g T l) {p : Addr} (hp : g ≠ p.block) (u : Value) : Bx (w.setCell p u) g T l := (Below.heap_setCell w p u g hp).trans h
theorem Bx.at_ {g T : Nat} {w : World} {l : List Value} (h : w.heap.size = g) : Bx (w.alloc (.cells l.toArray T)) g T l := by
 subst h
 exact heap_alloc_new w _
theorem Bx.new (w : World) (T : Nat) (l : List Value) : Bx (w.alloc (.cells l.toArray T)) w.heap.size T l := heap_alloc_new w _
theorem Bx.f2 {z0 z1 : Value} {m : List Value} (h : Bx w g T (z0 :: z1 :: m)) : w.cell? ⟨g, 0, none⟩ = some z0 ∧ w.cell? ⟨g, 1, none⟩ = some z1 ∧ (∀ i, w.frozen? ⟨g, i, none⟩ = false) ∧ g < w.heap.size :=
 ⟨h.cell rfl, h.cell rfl, h.frozen, h.lt⟩
theorem Bx.b2 {z0 z1 : Value} {m : List Value} (h : Bx w g T (z0 :: z1 :: m)) (hb : Below w.heap.size w w') : Bx w' g T (z0 :: z1 :: m) ∧ w'.cell? ⟨g, 0, none⟩ = some z0 ∧ w'.cell? ⟨g, 1, none⟩ = some z1 ∧ (∀ i, w'.frozen? ⟨g, i, none⟩ = false) ∧ g < w'.heap.size :=
 ⟨h.below hb, (h.below hb).f2⟩
theorem Bx.f4 {z0 z1 z2 z3 : Value} {m : List Value} (h : Bx w g T (z0 :: z1 :: z2 :: z3 :: m)) : w.cell? ⟨g, 0, none⟩ = some z0 ∧ w.cell? ⟨g, 1, none⟩ = some z1 ∧ w.cell? ⟨g, 2, none⟩ = some z2 ∧ w.cell? ⟨g, 3, none⟩ = some z3 ∧ (∀ i, w.frozen? ⟨g, i, none⟩ = false) ∧ g < w.heap.size :=
 ⟨h.cell rfl, h.cell rfl, h.cell rfl, h.cell rfl, h.frozen, h.lt⟩
theorem Bx.b4 {z0 z1 z2 z3 : Value} {m : List Value} (h : Bx w g T (z0 :: z1 :: z2 :: z3 :: m)) (hb : Below w.heap.size w w') : Bx w' g T (z0 :: z1 :: z2 :: z3 :: m) ∧ w'.cell? ⟨g, 0, none⟩ = some z0 ∧ w'.cell? ⟨g, 1, none⟩ = some z1 ∧ w'.cell? ⟨g, 2, none⟩ = some z2 ∧ w'.cell? ⟨g, 3, none⟩ = some z3 ∧ (∀ i, w'.frozen? ⟨g, i, none⟩ = false) ∧ g < w'.heap.size :=
 ⟨h.below hb, (h.below hb).f4⟩
theorem Bx.f8 {z0 z1 z2 z3 z4 z5 z6 z7 : Value} {m : List Value} (h : Bx w g T (z0 :: z1 :: z2 :: z3 :: z4 :: z5 :: z6 :: z7 :: m)) : w.cell? ⟨g, 0, none⟩ = some z0 ∧ w.cell? ⟨g, 1, none⟩ = some z1 ∧ w.cell? ⟨g, 2, none⟩ = some z2 ∧ w.cell? ⟨g, 3, none⟩ = some z3 ∧ w.cell? ⟨g, 4, none⟩ = some z4 ∧ w.cell? ⟨g, 5, none⟩ = some z5 ∧ w.cell? ⟨g, 6, none⟩ = some z6 ∧ w.cell? ⟨g, 7, none⟩ = some z7 ∧ (∀ i, w.frozen? ⟨g, i, none⟩ = false) ∧ g < w.heap.size :=
 ⟨h.cell rfl, h.cell rfl, h.cell rfl, h.cell rfl, h.cell rfl, h.cell rfl, h.cell rfl, h.cell rfl, h.frozen, h.lt⟩
theorem Bx.b8 {z0 z1 z2 z3 z4 z5 z6 z7 : Value} {m : List Value} (h : Bx w g T (z0 :: z1 :: z2 :: z3 :: z4 :: z5 :: z6 :: z7 :: m)) (hb : Below w.heap.size w w') : Bx w' g T (z0 :: z1 :: z2 :: z3 :: z4 :: z5 :: z6 :: z7 :: m) ∧ w'.cell? ⟨g, 0, none⟩ = some z0 ∧ w'.cell? ⟨g, 1, none⟩ = some z1 ∧ w'.cell? ⟨g, 2, none⟩ = some z2 ∧ w'.cell? ⟨g, 3, none⟩ = some z3 ∧ w'.cell? ⟨g, 4, none⟩ = some z4 ∧ w'.cell? ⟨g, 5, none⟩ = some z5 ∧ w'.cell? ⟨g, 6, none⟩ = some z6 ∧ w'.cell? ⟨g, 7, none⟩ = some z7 ∧ (∀ i, w'.frozen? ⟨g, i, none⟩ = false) ∧ g < w'.heap.size :=
 ⟨h.below hb, (h.below hb).f8⟩
end
/-- A store of a value of which it is only known that it is one cell. -/
theorem run_store_one (P : Program) (w : World) (a : Addr) (v : Value) (m : Mode) (hv : v.oneCell' = true) : (store a v m).run P w = stored P w a v m := run_store P w a v m hv
/-- A list of which the cell k is set, when what lies before is known. -/
theorem set_mid {r z : List Int} {k : Nat} {y x : Int} (hr : r.length = k) : (r ++ y :: z).set k x = r ++ [x] ++ z := by
 subst hr
 rw [List.set_append_right _ _ (Nat.le_refl _)]
 simp
theorem Bk.mid {w : World} {g k : Nat} {r t : List Int} {y : Int} (h : Bk w g (r ++ y :: t)) (hr : r.length = k) (x : Int) : Bk (w.setCell ⟨g, k, none⟩ (.int .i64 x)) g (r ++ x :: t) := by
 have h1 := h.set_ k x
 rwa [set_mid hr, List.append_assoc, List.singleton_append] at h1
theorem bdN {B : Nat} {a w : World} (h : Below B a w) (n : Nat) : Below B a (w.drewN n) := ⟨h.os, h.tape, h.output, h.size, h.block⟩
theorem bdDl {B : Nat} {a w : World} (h : Below B a.drew w) : Below B a w := ⟨h.os, h.tape, h.output, h.size, h.block⟩
/-- A cell behind a store into another block. -/
theorem kset {w : World} {g i g' j : Nat} {u : Option Value} {v : Value} (h : w.cell? ⟨g, i, none⟩ = u) (hg : g ≠ g') : (w.setCell ⟨g', j, none⟩ v).cell? ⟨g, i, none⟩ = u :=
 (World.cell?_setCell_other w ⟨g', j, none⟩ ⟨g, i, none⟩ v (fun e => hg (congrArg Addr.block e).symm)).trans h
/-- A cell, and that it is not frozen, behind what only makes memory. -/
theorem kc {w w' : World} {g i : Nat} {u : Option Value} (h : w.cell? ⟨g, i, none⟩ = u) (hb : Below w.heap.size w w') (hg : g < w.heap.size) : w'.cell? ⟨g, i, none⟩ = u := (hb.cell (p := ⟨g, i, none⟩) hg).trans h
theorem kf {w w' : World} {g : Nat} (h : ∀ i, w.frozen? ⟨g, i, none⟩ = false) (hb : Below w.heap.size w w') (hg : g < w.heap.size) : ∀ i, w'.frozen? ⟨g, i, none⟩ = false := fun i => (hb.frozen (p := ⟨g, i, none⟩) hg).trans (h i)
theorem Kp.alloc {w w' : World} (h : Kp w w') (o : Obj) : Kp w (w'.alloc o) := h.trans (.of ((Below.refl _ _).alloc (Nat.le_refl _) o))
theorem box1 {w W : World} {T : Nat} {c : List Value} (h : w.alloc (.cells c.toArray T) = W) : Bx W (w.heap.size) T c ∧ Below w.heap.size w W := by
 subst h
 exact ⟨Bx.at_ rfl, (Below.refl _ _).alloc (by simp) _⟩
theorem box3 {w W : World} {T U T2 : Nat} {c d c2 : List Value} (h : ((w.alloc (.cells c.toArray T)).alloc (.cells d.toArray U)).alloc (.cells c2.toArray T2) = W) : Bx W (w.heap.size) T c ∧ Bx W (w.heap.size + 1) U d ∧ Bx W (w.heap.size + 1 + 1) T2 c2 ∧ Below w.heap.size w W := by
 subst h
 exact ⟨((Bx.at_ rfl).alloc _).alloc _, (Bx.at_ (by simp)).alloc _, Bx.at_ (by simp), (((Below.refl _ _).alloc (by simp) _).alloc (by simp <;> omega) _).alloc (by simp <;> omega) _⟩
theorem Kp.t2 {w w' : World} (h : Kp w w') {g T : Nat} {l : List Value} (hg : Bx w' g T l) (x0 x1 : Value) (hT : T ≠ 3 := by decide) : Kp w ((w'.setCell ⟨g, 0, none⟩ x0).setCell ⟨g, 1, none⟩ x1) := ((h).set_ (hg) hT _).set_ (hg.set_ 0 x0) hT _
theorem Kp.t4 {w w' : World} (h : Kp w w') {g T : Nat} {l : List Value} (hg : Bx w' g T l) (x0 x1 x2 x3 : Value) (hT : T ≠ 3 := by decide) : Kp w ((((w'.setCell ⟨g, 0, none⟩ x0).setCell ⟨g, 1, none⟩ x1).setCell ⟨g, 2, none⟩ x2).setCell ⟨g, 3, none⟩ x3) := ((((h).set_ (hg) hT _).set_ (hg.set_ 0 x0) hT _).set_ ((hg.set_ 0 x0).set_ 1 x1) hT _).set_ (((hg.set_ 0 x0).set_ 1 x1).set_ 2 x2) hT _
theorem bel2 {B g j0 j1 : Nat} {w w' : World} {x0 x1 : Value} (h : Below B w w') (hg : B ≤ g) : Below B w ((w'.setCell ⟨g, j0, none⟩ x0).setCell ⟨g, j1, none⟩ x1) := ((h).setCell hg _).setCell hg _
end Go.Proofs.YtlgnagnmoleeiaaGreat
namespace Go.Proofs.YtlgnagnmoleeiaaGreat
open Go.RowKit
/-- The denominator as it is kept: 0 where it is 1. -/
def dq (r : Rat) : Int := if r.den = 1 then 0 else r.den
theorem dq_one {r : Rat} (h : r.den = 1) : dq r = 0 := by unfold dq; rw [if_pos h]
theorem dq_more {r : Rat} (h : r.den ≠ 1) : dq r = r.den := by unfold dq; rw [if_neg h]
theorem dq_nonneg (r : Rat) : 0 ≤ dq r := by
 unfold dq
 split <;> omega
/-- A rational in its canonical form. -/
def RatV (w : World) (a b c d : Value) (r : Rat) : Prop := IntV w a b r.num ∧ IntV w c d (dq r)
section
variable {w w' : World} {a b c d : Value} {r : Rat}
theorem RatV.kp (h : RatV w a b c d r) (k : Kp w w') : RatV w' a b c d r := ⟨h.1.kp k, h.2.kp k⟩
theorem RatV.below (h : RatV w a b c d r) (hb : Below w.heap.size w w') : RatV w' a b c d r := h.kp (.of hb)
theorem RatV.one0 (h : RatV w a b c d r) : a.oneCell' = true := h.1.one0
theorem RatV.one1 (h : RatV w a b c d r) : b.oneCell' = true := h.1.one1
theorem RatV.one2 (h : RatV w a b c d r) : c.oneCell' = true := h.2.one0
theorem RatV.one3 (h : RatV w a b c d r) : d.oneCell' = true := h.2.one1
end
/-- What returns a rational, and only makes memory. -/
def RR (r : Rat) (w : World) (e : Ending) (w' : World) : Prop := ∃ a b c d, e = .returned (.agg #[a, b, c, d]) ∧ RatV w' a b c d r ∧ Below w.heap.size w w'
/-- Bits of a rational. -/
def Bq (k : Nat) (r : Rat) : Prop := I.Bd k r.num ∧ I.Bd k r.den
theorem RatV.ones {w : World} {a0 a1 a2 a3 : Value} {x : Rat} (H : RatV w a0 a1 a2 a3 x) : a0.oneCell' = true ∧ a1.oneCell' = true ∧ a2.oneCell' = true ∧ a3.oneCell' = true := ⟨H.one0, H.one1, H.one2, H.one3⟩
end Go.Proofs.YtlgnagnmoleeiaaGreat
namespace Go.Proofs.YtlgnagnmoleeiaaGreat
open Go.RowKit
/-- The operations that must be done ahead of one. -/
def predsOf (ops : Array Oper) (i : Nat) : List Nat := match ops[i]? with
 | none => []
 | some o => (o.after.toList.filter (fun e => Region.binds .any e)).map (·.on)
def covB (ops : Array Oper) : Nat → List Nat → Bool
 | 0, _ => true
 | j + 1, S => S.contains j && covB ops j (S ++ predsOf ops j)
/-- Every operation from n on waits for all that stand before it. -/
def fullB (ops : Array Oper) (n : Nat) : Bool := (List.range ops.size).all fun i => decide (i < n) || covB ops i (predsOf ops i)
def Closed (ops : Array Oper) (L : Array Bool) : Prop := ∀ i, L.getD i false = true → ∀ j ∈ predsOf ops i, L.getD j false = true
theorem mem_predsOf {ops : Array Oper} {i j : Nat} : j ∈ predsOf ops i ↔ ∃ o, ops[i]? = some o ∧ ∃ e ∈ o.after, Region.binds .any e = true ∧ e.on = j := by
 unfold predsOf
 cases h : ops[i]? with
 | none => simp
 | some o => simp [and_assoc]
theorem cov_done {ops : Array Oper} {L : Array Bool} (hc : Closed ops L) : ∀ (k : Nat) (S : List Nat), covB ops k S = true → (∀ j ∈ S, L.getD j false = true) → ∀ j, j < k → L.getD j false = true
 | 0, _, _, _, _, h => absurd h (Nat.not_lt_zero _)
 | k + 1, S, hb, hS, j, hj => by
  simp only [covB, Bool.and_eq_true] at hb
  have hk : L.getD k false = true := hS k (by simpa using hb.1)
  rcases Nat.lt_or_ge j k with h | h
  ·exact cov_done hc k _ hb.2 (fun x hx => by
    rcases List.mem_append.1 hx with hx | hx
    ·exact hS x hx
    ·exact hc k hk x hx) j h
  ·rw [show j = k by omega]; exact hk
theorem full_done {ops : Array Oper} {n : Nat} (hf : fullB ops n = true) {L : Array Bool} (hc : Closed ops L) {i : Nat} (hi : i < ops.size) (hn : n ≤ i) (hp : ∀ j ∈ predsOf ops i, L.getD j false = true) : ∀ j, j < i → L.getD j false = true := by
 unfold fullB at hf
 rw [List.all_eq_true] at hf
 have h1 := hf i (by simpa using hi)
 simp only [Bool.or_eq_true, decide_eq_true_eq] at h1
 rcases h1 with h1 | h1
 ·omega
 ·exact cov_done hc i _ h1 hp
theorem closed_set {ops : Array Oper} {L : Array Bool} (hc : Closed ops L) {i : Nat} (hp : ∀ j ∈ predsOf ops i, L.getD j false = true) : Closed ops (L.setIfInBounds i true) := by
 intro k hk j hj
 by_cases hij : i = j
 ·subst hij
  by_cases hik : i = k
  ·subst hik
   rw [Array.getD_eq_getD_getElem?, Array.getElem?_setIfInBounds, if_pos rfl]
   split
   ·rfl
   ·have := hp i hj
    rw [Array.getD_eq_getD_getElem?, Array.getElem?_eq_none (by omega)] at this
    exact this
  ·rw [getD_ne hik] at hk
   have h1 := hc k hk i hj
   rw [Array.getD_eq_getD_getElem?, Array.getElem?_setIfInBounds, if_pos rfl]
   split
   ·rfl
   ·rw [Array.getD_eq_getD_getElem?, Array.getElem?_eq_none (by omega)] at h1
    exact h1
 ·rw [getD_ne hij]
  by_cases hik : i = k
  ·subst hik; exact hp j hj
  ·rw [getD_ne hik] at hk
   exact hc k hk j hj
/-- The k-th of a list of such words on a value in a world. -/
abbrev Sp := World → Value → Prop
def nthS : List Sp → Nat → Sp
 | [], _ => fun _ _ => True
 | s :: _, 0 => s
 | _ :: r, k + 1 => nthS r k
/-- It stays true where memory is only made. -/
def Mono (s : Sp) : Prop := ∀ w w' v, s w v → Below w.heap.size w w' → s w' v
def MonoL : List Sp → Prop
 | [] => True
 | s :: r => Mono s ∧ MonoL r
theorem MonoL.nth : ∀ {l : List Sp}, MonoL l → ∀ k, Mono (nthS l k)
 | [], _, _ => fun _ _ _ _ _ => trivial
 | _ :: _, h, 0 => h.1
 | _ :: _, h, k + 1 => MonoL.nth h.2 k
/-- What an operation of such a region does: a value, or a call. -/
def Does (P : Program) (o : Oper) (s : Sp) (al : Bool) (a : Act) (wx : World) : Prop :=
 (∃ v w', (execOp a.eval o).run P wx = .ok (.value v) w' ∧ Below wx.heap.size wx w' ∧ s w' v ∧ (al = true → v = .pointer (some ⟨wx.heap.size, 0, none⟩) ∧ wx.heap.size < w'.heap.size)) ∨
 (al = false ∧ ∃ f args, (execOp a.eval o).run P wx = .ok (.enter f args) wx ∧ Calls P f args wx fun e w' => ∃ v, e = .returned v ∧ Below wx.heap.size wx w' ∧ s w' v)
/-- The slots that the first operations write, in order. -/
def dstOf (ops : Array Oper) (n : Nat) : List Nat := (ops.toList.take n).map fun o => o.dst.getD 0
/-- The values put into the slots. -/
def vals (L : Nat → Bool) (val : Nat → Value) : List Nat → Nat → List (Bool × Nat × Value)
 | [], _ => []
 | d :: r, k => (L k, d, val k) :: vals L val r (k + 1)
theorem vals_dst (L : Nat → Bool) (val : Nat → Value) : ∀ (l : List Nat) (k : Nat), (vals L val l k).map (·.2.1) = l
 | [], _ => rfl
 | d :: r, k => by simp [vals, vals_dst L val r (k + 1)]
theorem vals_get (L : Nat → Bool) (val : Nat → Value) : ∀ (l : List Nat) (k i : Nat) (d : Nat), l[i]? = some d → (vals L val l k)[i]? = some (L (k + i), d, val (k + i))
 | [], _, _, _, h => by simp at h
 | x :: r, k, 0, d, h => by simp at h; subst h; rfl
 | x :: r, k, i + 1, d, h => by
  simp only [List.getElem?_cons_succ] at h
  simp only [vals, List.getElem?_cons_succ]
  rw [vals_get L val r (k + 1) i d h, show k + 1 + i = k + (i + 1) by omega]
theorem vals_set (L : Nat → Bool) (val : Nat → Value) (v : Value) : ∀ (l : List Nat) (k i d : Nat), l[i]? = some d →
  (vals L val l k).set i (true, d, v) = vals (fun j => if j = k + i then true else L j) (fun j => if j = k + i then v else val j) l k
 | [], _, _, _, h => by simp at h
 | x :: r, k, 0, d, h => by
  simp at h; subst h
  have : ∀ (l : List Nat) (m : Nat), k < m → vals L val l m = vals (fun j => if j = k + 0 then true else L j) (fun j => if j = k + 0 then v else val j) l m := by
   intro l
   induction l with
   | nil => intro _ _; rfl
   | cons y l ih =>
    intro m hm
    simp only [vals]
    rw [ih (m + 1) (by omega), if_neg (by omega), if_neg (by omega)]
  simp only [vals, List.set_cons_zero]
  rw [this r (k + 1) (by omega)]
  simp
 | x :: r, k, i + 1, d, h => by
  simp only [List.getElem?_cons_succ] at h
  simp only [vals, List.set_cons_succ]
  rw [vals_set L val v r (k + 1) i d h, show k + 1 + i = k + (i + 1) by omega, if_neg (by omega), if_neg (by omega)]
theorem vals_congr {L L' : Nat → Bool} (val : Nat → Value) : ∀ (l : List Nat) (k : Nat), (∀ i, i < l.length → L (k + i) = L' (k + i)) → vals L val l k = vals L' val l k
 | [], _, _ => rfl
 | x :: r, k, h => by
  have h1 : L k = L' k := h 0 (by simp)
  have h2 := vals_congr (L := L) (L' := L') val r (k + 1) (fun i hi => by
   have h3 := h (i + 1) (by simpa using hi)
   rw [show k + (i + 1) = k + 1 + i from by omega] at h3
   exact h3)
  simp only [vals]
  rw [h1, h2]
/-- The same for an operation with a guard: it may be left out. -/
def DoesG (P : Program) (ops : Array Oper) (o : Oper) (s : Sp) (al : Bool) (a : Act) (wx : World) : Prop :=
 (Region.wanted o (yielded ops a.tmps) = true ∧ Does P o s al a wx) ∨ (Region.wanted o (yielded ops a.tmps) = false ∧ al = false ∧ s wx undef)
def headG (ops : Array Oper) (n : Nat) : Bool := (ops.toList.take n).all (fun o => o.dst.isSome) && decide ((dstOf ops n).Nodup)
theorem wanted_of {ops : Array Oper} {o : Oper} {a : Act} {j d : Nat} {want b : Bool} (hg : o.guard = some (j, want)) (hd : (ops[j]?).bind (·.dst) = some d) (he : a.eval (.tmp d) = .bool b) : Region.wanted o (yielded ops a.tmps) = (b == want) := by
 have h1 : a.tmps[d]? = some (.bool b) := by
  simp only [Act.eval, Array.getD_eq_getD_getElem?] at he
  cases h : a.tmps[d]? with
  | none => rw [h] at he; cases he
  | some x => rw [h] at he; simp at he; rw [he]
 unfold Region.wanted
 rw [hg]
 simp only [yielded, hd, Option.bind_some, h1]
 cases b <;> cases want <;> rfl
theorem wanted_none {ops : Array Oper} {o : Oper} {a : Act} (hg : o.guard = none) : Region.wanted o (yielded ops a.tmps) = true := by
 unfold Region.wanted
 rw [hg]
/-- What is needed of the slots that were written already. -/
def Have (specs : List Sp) (dsts : List Nat) (wx : World) (a : Act) : List Nat → Prop
 | [] => True
 | j :: r => nthS specs j wx (a.eval (.tmp (dsts.getD j 0))) ∧ Have specs dsts wx a r
/-- The table of slots and of the operands' operations fits. -/
def tabB (ops : Array Oper) (n : Nat) (tab : List (Nat × List Nat)) : Bool :=
 decide (n ≤ ops.size) && decide (dstOf ops n = tab.map (·.1)) && decide (tab.length = n) && tab.zipIdx.all fun x => x.1.2.all fun j => decide (j < n) && (predsOf ops x.2).contains j
theorem have_of {specs : List Sp} {dsts : List Nat} {wx : World} {a : Act} : ∀ (l : List Nat), (∀ j ∈ l, nthS specs j wx (a.eval (.tmp (dsts.getD j 0)))) → Have specs dsts wx a l
 | [], _ => trivial
 | j :: r, h => ⟨h j (by simp), have_of r (fun x hx => h x (List.mem_cons_of_mem _ hx))⟩
/-- A value that is known. -/
def SC (c : Value) : Sp := fun _ v => v = c
/-- An integer. -/
def SI (x : Int) : Sp := fun w v => ∃ a b, v = .agg #[a, b] ∧ IntV w a b x
/-- A rational. -/
def SR (r : Rat) : Sp := fun w v => ∃ a b c d, v = .agg #[a, b, c, d] ∧ RatV w a b c d r
/-- A new box. -/
def SB (W : World) (T : Nat) (Z : List Value) : Sp := fun w v => ∃ g, v = .pointer (some ⟨g, 0, none⟩) ∧ W.heap.size ≤ g ∧ Bx w g T Z
/-- A slice of ints. -/
def SS (l : List Int) : Sp := fun w v => Sl w v l
theorem SS.mono (l : List Int) : Mono (SS l) := fun _ _ _ h hb => h.below hb
theorem SC.mono (c : Value) : Mono (SC c) := fun _ _ _ h _ => h
theorem SI.mono (x : Int) : Mono (SI x) := fun _ _ _ ⟨a, b, h1, h2⟩ hb => ⟨a, b, h1, h2.below hb⟩
theorem SR.mono (r : Rat) : Mono (SR r) := fun _ _ _ ⟨a, b, c, d, h1, h2⟩ hb => ⟨a, b, c, d, h1, h2.below hb⟩
theorem SB.mono (W : World) (T : Nat) (Z : List Value) : Mono (SB W T Z) := fun _ _ _ ⟨g, h1, h2, h3⟩ hb => ⟨g, h1, h2, h3.below hb⟩
section
variable {P : Program} {o : Oper} {a : Act} {wx : World} {f : FuncId} {args : Array Value}
theorem Does.val {v : Value} {s : Sp} (hr : (execOp a.eval o).run P wx = .ok (.value v) wx) (h : s wx v) : Does P o s false a wx := .inl ⟨v, wx, hr, Below.refl _ _, h, fun h => by cases h⟩
theorem Does.box {W : World} {T : Nat} {Z : List Value} (hr : (execOp a.eval o).run P wx = .ok (.value (.pointer (some ⟨wx.heap.size, 0, none⟩))) (wx.alloc (.cells Z.toArray T))) (hB : Below W.heap.size W wx) : Does P o (SB W T Z) true a wx :=
 .inl ⟨_, _, hr, (Below.refl _ _).alloc (Nat.le_refl _) _, ⟨_, rfl, hB.size, Bx.at_ rfl⟩, fun _ => ⟨rfl, by simp⟩⟩
theorem Does.one {x : Int} (hr : (execOp a.eval o).run P wx = .ok (.value (.slice (some ⟨wx.heap.size, 0, none⟩) 1 1)) (wx.alloc (.cells #[.int .i64 x] 3))) : Does P o (SS [x]) false a wx :=
 .inl ⟨_, _, hr, (Below.refl _ _).alloc (Nat.le_refl _) _, (show Bk (wx.alloc (.cells #[.int .i64 x] 3)) wx.heap.size [x] from heap_alloc_new wx _).sl rfl (Nat.le_refl _) (by decide), fun h => by cases h⟩
theorem Does.rr {x : Rat} (hr : (execOp a.eval o).run P wx = .ok (.enter f args) wx) (hc : Calls P f args wx (RR x wx)) : Does P o (SR x) false a wx :=
 .inr ⟨rfl, f, args, hr, hc.mono fun _ _ ⟨p, q, r, s, h1, h2, h3⟩ => ⟨_, h1, h3, p, q, r, s, rfl, h2⟩⟩
end
end Go.Proofs.YtlgnagnmoleeiaaGreat
