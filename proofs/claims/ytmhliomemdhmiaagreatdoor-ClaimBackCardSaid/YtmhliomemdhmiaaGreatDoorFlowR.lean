/-
 THE FLOW THEOREMS inside a round of a range over a function.
-/
import Derived.Test.YtmhliomemdhmiaaGreatDoorRows
import Derived.Test.YtmhliomemdhmiaaGreatDoorMemI
import Derived.WalkLawsBesides
import Derived.LoopTactic
import Derived.BigQuiet
import Derived.Deep.QuietTactic
import Derived.Deep.LoopGhost
import Derived.Test.YtmhliomemdhmiaaGreatDoorPlainI
import Derived.RangeFuncCalls
import Derived.OrdersIn
import Derived.TacticsIn
import Derived.OwnWalkIn
namespace Go.Proofs.YtmhliomemdhmiaaGreatDoor
open Go.RowKit
/-- So many zeros, as cells. -/
def zs (n : Nat) : Array Value := (il (List.replicate n 0)).toArray
/-- Block g is the row of these ints. -/
def Bk (w : World) (g : Nat) (l : List Int) : Prop := w.heap[g]? = some (.cells (il l).toArray 3 (0, 0))
section
variable {w w' : World} {g : Nat} {l : List Int}
theorem Bk.lt (h : Bk w g l) : g < w.heap.size := (Array.getElem?_eq_some_iff.1 h).1
theorem Bk.cell (h : Bk w g l) {i : Nat} {x : Int} (hx : l[i]? = some x) : w.cell? ⟨g, i, none⟩ = some (.int .i64 x) := by
 rw [cell_of_row w g i _ _ _ h]
 simpa using il_at l hx
theorem Bk.frozen (h : Bk w g l) (i : Nat) : w.frozen? ⟨g, i, none⟩ = false := by
 unfold Bk at h
 simp [World.frozen?, h]
theorem Bk.set_ (h : Bk w g l) (i : Nat) (x : Int) : Bk (w.setCell ⟨g, i, none⟩ (.int .i64 x)) g (l.set i x) := by
 unfold Bk at h ⊢
 simp [World.setCell, Array.getElem?_modify, h, il, List.map_set]
theorem Bk.drew (h : Bk w g l) : Bk w.drew g l := h
theorem Bk.drewN (h : Bk w g l) (n : Nat) : Bk (w.drewN n) g l := h
theorem Bk.alloc (h : Bk w g l) (o : Obj) : Bk (w.alloc o) g l := (Below.heap_alloc w o g h.lt).trans h
theorem Bk.below (h : Bk w g l) {B : Nat} (hb : Below B w w') (hg : g < B) : Bk w' g l := (hb.block g hg).trans h
theorem Bk.far (h : Bk w g l) {p : Addr} (hp : g ≠ p.block) (u : Value) : Bk (w.setCell p u) g l := (Below.heap_setCell w p u g hp).trans h
theorem Bk.new (w : World) (n : Nat) : Bk (w.alloc (.cells (zs n) 3)) w.heap.size (List.replicate n 0) := heap_alloc_new w _
theorem Bk.rd (h : Bk w g l) : Rd w w.heap.size (some ⟨g, 0, none⟩) (il l) := fun _ => ⟨g, 0, rfl, h.lt, fun j u hu => by
 rw [Nat.zero_add, cell_of_row w g j _ _ _ h]
 simpa using hu⟩
theorem Bk.sl (h : Bk w g l) {n c : Nat} (hn : n = l.length) (hc : n ≤ c) (hm : c ≤ maxLen) : Sl w (.slice (some ⟨g, 0, none⟩) n c) l := ⟨_, _, _, rfl, hn, hc, hm, h.rd, fun _ => ⟨_, _, _, _, rfl, h⟩⟩
end
/-- Block g is the box, or row, of these cells. -/
def Bx (w : World) (g T : Nat) (l : List Value) : Prop := w.heap[g]? = some (.cells l.toArray T (0, 0))
section
variable {w w' : World} {g T : Nat} {l : List Value}
theorem Bx.lt (h : Bx w g T l) : g < w.heap.size := (Array.getElem?_eq_some_iff.1 h).1
theorem Bx.cell (h : Bx w g T l) {i : Nat} {x : Value} (hx : l[i]? = some x) : w.cell? ⟨g, i, none⟩ = some x := by
 rw [cell_of_row w g i _ _ _ h]
 simpa using hx
theorem Bx.frozen (h : Bx w g T l) (i : Nat) : w.frozen? ⟨g, i, none⟩ = false := by
 unfold Bx at h
 simp [World.frozen?, h]
theorem Bx.set_ (h : Bx w g T l) (i : Nat) (x : Value) : Bx (w.setCell ⟨g, i, none⟩ x) g T (l.set i x) := by
 unfold Bx at h ⊢
 simp [World.setCell, Array.getElem?_modify, h]
theorem Bx.drew (h : Bx w g T l) : Bx w.drew g T l := h
theorem Bx.drewN (h : Bx w g T l) (n : Nat) : Bx (w.drewN n) g T l := h
theorem Bx.alloc (h : Bx w g T l) (o : Obj) : Bx (w.alloc o) g T l := (Below.heap_alloc w o g h.lt).trans h
theorem Bx.below (h : Bx w g T l) (hb : Below w.heap.size w w') : Bx w' g T l := (hb.block g h.lt).trans h
theorem Bx.far (h : Bx w g T l) {p : Addr} (hp : g ≠ p.block) (u : Value) : Bx (w.setCell p u) g T l := (Below.heap_setCell w p u g hp).trans h
theorem Bx.at_ {g T : Nat} {w : World} {l : List Value} (h : w.heap.size = g) : Bx (w.alloc (.cells l.toArray T)) g T l := by
 subst h
 exact heap_alloc_new w _
theorem Bx.new (w : World) (T : Nat) (l : List Value) : Bx (w.alloc (.cells l.toArray T)) w.heap.size T l := heap_alloc_new w _
theorem Bx.f2 {z0 z1 : Value} {m : List Value} (h : Bx w g T (z0 :: z1 :: m)) : w.cell? ⟨g, 0, none⟩ = some z0 ∧ w.cell? ⟨g, 1, none⟩ = some z1 ∧ (∀ i, w.frozen? ⟨g, i, none⟩ = false) ∧ g < w.heap.size :=
 ⟨h.cell rfl, h.cell rfl, h.frozen, h.lt⟩
theorem Bx.b2 {z0 z1 : Value} {m : List Value} (h : Bx w g T (z0 :: z1 :: m)) (hb : Below w.heap.size w w') : Bx w' g T (z0 :: z1 :: m) ∧ w'.cell? ⟨g, 0, none⟩ = some z0 ∧ w'.cell? ⟨g, 1, none⟩ = some z1 ∧ (∀ i, w'.frozen? ⟨g, i, none⟩ = false) ∧ g < w'.heap.size :=
 ⟨h.below hb, (h.below hb).f2⟩
theorem Bx.f4 {z0 z1 z2 z3 : Value} {m : List Value} (h : Bx w g T (z0 :: z1 :: z2 :: z3 :: m)) : w.cell? ⟨g, 0, none⟩ = some z0 ∧ w.cell? ⟨g, 1, none⟩ = some z1 ∧ w.cell? ⟨g, 2, none⟩ = some z2 ∧ w.cell? ⟨g, 3, none⟩ = some z3 ∧ (∀ i, w.frozen? ⟨g, i, none⟩ = false) ∧ g < w.heap.size :=
 ⟨h.cell rfl, h.cell rfl, h.cell rfl, h.cell rfl, h.frozen, h.lt⟩
theorem Bx.b4 {z0 z1 z2 z3 : Value} {m : List Value} (h : Bx w g T (z0 :: z1 :: z2 :: z3 :: m)) (hb : Below w.heap.size w w') : Bx w' g T (z0 :: z1 :: z2 :: z3 :: m) ∧ w'.cell? ⟨g, 0, none⟩ = some z0 ∧ w'.cell? ⟨g, 1, none⟩ = some z1 ∧ w'.cell? ⟨g, 2, none⟩ = some z2 ∧ w'.cell? ⟨g, 3, none⟩ = some z3 ∧ (∀ i, w'.frozen? ⟨g, i, none⟩ = false) ∧ g < w'.heap.size :=
 ⟨h.below hb, (h.below hb).f4⟩
end
/-- A store of a value of which it is only known that it is one cell. -/
theorem run_store_one (P : Program) (w : World) (a : Addr) (v : Value) (m : Mode) (hv : v.oneCell' = true) : (store a v m).run P w = stored P w a v m := run_store P w a v m hv
/-- A list of which the cell k is set, when what lies before is known. -/
theorem set_mid {r z : List Int} {k : Nat} {y x : Int} (hr : r.length = k) : (r ++ y :: z).set k x = r ++ [x] ++ z := by
 subst hr
 rw [List.set_append_right _ _ (Nat.le_refl _)]
 simp
theorem Bk.mid {w : World} {g k : Nat} {r t : List Int} {y : Int} (h : Bk w g (r ++ y :: t)) (hr : r.length = k) (x : Int) : Bk (w.setCell ⟨g, k, none⟩ (.int .i64 x)) g (r ++ x :: t) := by
 have h1 := h.set_ k x
 rwa [set_mid hr, List.append_assoc, List.singleton_append] at h1
theorem bdN {B : Nat} {a w : World} (h : Below B a w) (n : Nat) : Below B a (w.drewN n) := ⟨h.os, h.tape, h.output, h.size, h.block⟩
theorem bdDl {B : Nat} {a w : World} (h : Below B a.drew w) : Below B a w := ⟨h.os, h.tape, h.output, h.size, h.block⟩
/-- A cell behind a store into another block. -/
theorem kset {w : World} {g i g' j : Nat} {u : Option Value} {v : Value} (h : w.cell? ⟨g, i, none⟩ = u) (hg : g ≠ g') : (w.setCell ⟨g', j, none⟩ v).cell? ⟨g, i, none⟩ = u :=
 (World.cell?_setCell_other w ⟨g', j, none⟩ ⟨g, i, none⟩ v (fun e => hg (congrArg Addr.block e).symm)).trans h
/-- A cell, and that it is not frozen, behind what only makes memory. -/
theorem kc {w w' : World} {g i : Nat} {u : Option Value} (h : w.cell? ⟨g, i, none⟩ = u) (hb : Below w.heap.size w w') (hg : g < w.heap.size) : w'.cell? ⟨g, i, none⟩ = u := (hb.cell (p := ⟨g, i, none⟩) hg).trans h
theorem kf {w w' : World} {g : Nat} (h : ∀ i, w.frozen? ⟨g, i, none⟩ = false) (hb : Below w.heap.size w w') (hg : g < w.heap.size) : ∀ i, w'.frozen? ⟨g, i, none⟩ = false := fun i => (hb.frozen (p := ⟨g, i, none⟩) hg).trans (h i)
theorem Kp.alloc {w w' : World} (h : Kp w w') (o : Obj) : Kp w (w'.alloc o) := h.trans (.of ((Below.refl _ _).alloc (Nat.le_refl _) o))
theorem box3 {w W : World} {T U T2 : Nat} {c d c2 : List Value} (h : ((w.alloc (.cells c.toArray T)).alloc (.cells d.toArray U)).alloc (.cells c2.toArray T2) = W) : Bx W (w.heap.size) T c ∧ Bx W (w.heap.size + 1) U d ∧ Bx W (w.heap.size + 1 + 1) T2 c2 ∧ Below w.heap.size w W := by
 subst h
 exact ⟨((Bx.at_ rfl).alloc _).alloc _, (Bx.at_ (by simp)).alloc _, Bx.at_ (by simp), (((Below.refl _ _).alloc (by simp) _).alloc (by simp <;> omega) _).alloc (by simp <;> omega) _⟩
theorem Kp.t2 {w w' : World} (h : Kp w w') {g T : Nat} {l : List Value} (hg : Bx w' g T l) (x0 x1 : Value) (hT : T ≠ 3 := by decide) : Kp w ((w'.setCell ⟨g, 0, none⟩ x0).setCell ⟨g, 1, none⟩ x1) := ((h).set_ (hg) hT _).set_ (hg.set_ 0 x0) hT _
theorem Kp.t4 {w w' : World} (h : Kp w w') {g T : Nat} {l : List Value} (hg : Bx w' g T l) (x0 x1 x2 x3 : Value) (hT : T ≠ 3 := by decide) : Kp w ((((w'.setCell ⟨g, 0, none⟩ x0).setCell ⟨g, 1, none⟩ x1).setCell ⟨g, 2, none⟩ x2).setCell ⟨g, 3, none⟩ x3) := ((((h).set_ (hg) hT _).set_ (hg.set_ 0 x0) hT _).set_ ((hg.set_ 0 x0).set_ 1 x1) hT _).set_ (((hg.set_ 0 x0).set_ 1 x1).set_ 2 x2) hT _
theorem bel2 {B g j0 j1 : Nat} {w w' : World} {x0 x1 : Value} (h : Below B w w') (hg : B ≤ g) : Below B w ((w'.setCell ⟨g, j0, none⟩ x0).setCell ⟨g, j1, none⟩ x1) := ((h).setCell hg _).setCell hg _
theorem bel4 {B g j0 j1 j2 j3 : Nat} {w w' : World} {x0 x1 x2 x3 : Value} (h : Below B w w') (hg : B ≤ g) : Below B w ((((w'.setCell ⟨g, j0, none⟩ x0).setCell ⟨g, j1, none⟩ x1).setCell ⟨g, j2, none⟩ x2).setCell ⟨g, j3, none⟩ x3) := ((((h).setCell hg _).setCell hg _).setCell hg _).setCell hg _
end Go.Proofs.YtmhliomemdhmiaaGreatDoor
namespace Go.Proofs.YtmhliomemdhmiaaGreatDoor
open Go.RowKit
/-- The denominator as it is kept: 0 where it is 1. -/
def dq (r : Rat) : Int := if r.den = 1 then 0 else r.den
theorem dq_one {r : Rat} (h : r.den = 1) : dq r = 0 := by unfold dq; rw [if_pos h]
theorem dq_more {r : Rat} (h : r.den ≠ 1) : dq r = r.den := by unfold dq; rw [if_neg h]
theorem dq_nonneg (r : Rat) : 0 ≤ dq r := by
 unfold dq
 split <;> omega
/-- A rational in its canonical form. -/
def RatV (w : World) (a b c d : Value) (r : Rat) : Prop := IntV w a b r.num ∧ IntV w c d (dq r)
section
variable {w w' : World} {a b c d : Value} {r : Rat}
theorem RatV.kp (h : RatV w a b c d r) (k : Kp w w') : RatV w' a b c d r := ⟨h.1.kp k, h.2.kp k⟩
theorem RatV.below (h : RatV w a b c d r) (hb : Below w.heap.size w w') : RatV w' a b c d r := h.kp (.of hb)
theorem RatV.one0 (h : RatV w a b c d r) : a.oneCell' = true := h.1.one0
theorem RatV.one1 (h : RatV w a b c d r) : b.oneCell' = true := h.1.one1
end
/-- What returns a rational, and only makes memory. -/
def RR (r : Rat) (w : World) (e : Ending) (w' : World) : Prop := ∃ a b c d, e = .returned (.agg #[a, b, c, d]) ∧ RatV w' a b c d r ∧ Below w.heap.size w w'
/-- Bits of a rational. -/
def Bq (k : Nat) (r : Rat) : Prop := I.Bd k r.num ∧ I.Bd k r.den
end Go.Proofs.YtmhliomemdhmiaaGreatDoor
namespace Go.Proofs.YtmhliomemdhmiaaGreatDoor
open Go.RowKit
/-- The operations that must be done ahead of one. -/
def predsOf (ops : Array Oper) (i : Nat) : List Nat := match ops[i]? with
 | none => []
 | some o => (o.after.toList.filter (fun e => Region.binds .any e)).map (·.on)
def covB (ops : Array Oper) : Nat → List Nat → Bool
 | 0, _ => true
 | j + 1, S => S.contains j && covB ops j (S ++ predsOf ops j)
/-- Every operation from n on waits for all that stand before it. -/
def fullB (ops : Array Oper) (n : Nat) : Bool := (List.range ops.size).all fun i => decide (i < n) || covB ops i (predsOf ops i)
def Closed (ops : Array Oper) (L : Array Bool) : Prop := ∀ i, L.getD i false = true → ∀ j ∈ predsOf ops i, L.getD j false = true
theorem mem_predsOf {ops : Array Oper} {i j : Nat} : j ∈ predsOf ops i ↔ ∃ o, ops[i]? = some o ∧ ∃ e ∈ o.after, Region.binds .any e = true ∧ e.on = j := by
 unfold predsOf
 cases h : ops[i]? with
 | none => simp
 | some o => simp [and_assoc]
theorem cov_done {ops : Array Oper} {L : Array Bool} (hc : Closed ops L) : ∀ (k : Nat) (S : List Nat), covB ops k S = true → (∀ j ∈ S, L.getD j false = true) → ∀ j, j < k → L.getD j false = true
 | 0, _, _, _, _, h => absurd h (Nat.not_lt_zero _)
 | k + 1, S, hb, hS, j, hj => by
  simp only [covB, Bool.and_eq_true] at hb
  have hk : L.getD k false = true := hS k (by simpa using hb.1)
  rcases Nat.lt_or_ge j k with h | h
  ·exact cov_done hc k _ hb.2 (fun x hx => by
    rcases List.mem_append.1 hx with hx | hx
    ·exact hS x hx
    ·exact hc k hk x hx) j h
  ·rw [show j = k by omega]; exact hk
theorem full_done {ops : Array Oper} {n : Nat} (hf : fullB ops n = true) {L : Array Bool} (hc : Closed ops L) {i : Nat} (hi : i < ops.size) (hn : n ≤ i) (hp : ∀ j ∈ predsOf ops i, L.getD j false = true) : ∀ j, j < i → L.getD j false = true := by
 unfold fullB at hf
 rw [List.all_eq_true] at hf
 have h1 := hf i (by simpa using hi)
 simp only [Bool.or_eq_true, decide_eq_true_eq] at h1
 rcases h1 with h1 | h1
 ·omega
 ·exact cov_done hc i _ h1 hp
theorem closed_set {ops : Array Oper} {L : Array Bool} (hc : Closed ops L) {i : Nat} (hp : ∀ j ∈ predsOf ops i, L.getD j false = true) : Closed ops (L.setIfInBounds i true) := by
 intro k hk j hj
 by_cases hij : i = j
 ·subst hij
  by_cases hik : i = k
  ·subst hik
   rw [Array.getD_eq_getD_getElem?, Array.getElem?_setIfInBounds, if_pos rfl]
   split
   ·rfl
   ·have := hp i hj
    rw [Array.getD_eq_getD_getElem?, Array.getElem?_eq_none (by omega)] at this
    exact this
  ·rw [getD_ne hik] at hk
   have h1 := hc k hk i hj
   rw [Array.getD_eq_getD_getElem?, Array.getElem?_setIfInBounds, if_pos rfl]
   split
   ·rfl
   ·rw [Array.getD_eq_getD_getElem?, Array.getElem?_eq_none (by omega)] at h1
    exact h1
 ·rw [getD_ne hij]
  by_cases hik : i = k
  ·subst hik; exact hp j hj
  ·rw [getD_ne hik] at hk
   exact hc k hk j hj
/-- The k-th of a list of such words on a value in a world. -/
abbrev Sp := World → Value → Prop
def nthS : List Sp → Nat → Sp
 | [], _ => fun _ _ => True
 | s :: _, 0 => s
 | _ :: r, k + 1 => nthS r k
/-- It stays true where memory is only made. -/
def Mono (s : Sp) : Prop := ∀ w w' v, s w v → Below w.heap.size w w' → s w' v
def MonoL : List Sp → Prop
 | [] => True
 | s :: r => Mono s ∧ MonoL r
theorem MonoL.nth : ∀ {l : List Sp}, MonoL l → ∀ k, Mono (nthS l k)
 | [], _, _ => fun _ _ _ _ _ => trivial
 | _ :: _, h, 0 => h.1
 | _ :: _, h, k + 1 => MonoL.nth h.2 k
/-- What an operation of such a region does: a value, or a call. -/
def Does (P : Program) (o : Oper) (s : Sp) (al : Bool) (a : Act) (wx : World) : Prop :=
 (∃ v w', (execOp a.eval o).run P wx = .ok (.value v) w' ∧ Below wx.heap.size wx w' ∧ s w' v ∧ (al = true → v = .pointer (some ⟨wx.heap.size, 0, none⟩) ∧ wx.heap.size < w'.heap.size)) ∨
 (al = false ∧ ∃ f args, (execOp a.eval o).run P wx = .ok (.enter f args) wx ∧ Calls P f args wx fun e w' => ∃ v, e = .returned v ∧ Below wx.heap.size wx w' ∧ s w' v)
/-- The slots that the first operations write, in order. -/
def dstOf (ops : Array Oper) (n : Nat) : List Nat := (ops.toList.take n).map fun o => o.dst.getD 0
/-- The first n operations have slots, all different, and no guard. -/
def headB (ops : Array Oper) (n : Nat) : Bool := (ops.toList.take n).all (fun o => o.dst.isSome && o.guard.isNone) && decide ((dstOf ops n).Nodup)
/-- The same for an operation with a guard: it may be left out. -/
def DoesG (P : Program) (ops : Array Oper) (o : Oper) (s : Sp) (al : Bool) (a : Act) (wx : World) : Prop :=
 (Region.wanted o (yielded ops a.tmps) = true ∧ Does P o s al a wx) ∨ (Region.wanted o (yielded ops a.tmps) = false ∧ al = false ∧ s wx undef)
theorem wanted_of {ops : Array Oper} {o : Oper} {a : Act} {j d : Nat} {want b : Bool} (hg : o.guard = some (j, want)) (hd : (ops[j]?).bind (·.dst) = some d) (he : a.eval (.tmp d) = .bool b) : Region.wanted o (yielded ops a.tmps) = (b == want) := by
 have h1 : a.tmps[d]? = some (.bool b) := by
  simp only [Act.eval, Array.getD_eq_getD_getElem?] at he
  cases h : a.tmps[d]? with
  | none => rw [h] at he; cases he
  | some x => rw [h] at he; simp at he; rw [he]
 unfold Region.wanted
 rw [hg]
 simp only [yielded, hd, Option.bind_some, h1]
 cases b <;> cases want <;> rfl
theorem wanted_none {ops : Array Oper} {o : Oper} {a : Act} (hg : o.guard = none) : Region.wanted o (yielded ops a.tmps) = true := by
 unfold Region.wanted
 rw [hg]
/-- What is needed of the slots that were written already. -/
def Have (specs : List Sp) (dsts : List Nat) (wx : World) (a : Act) : List Nat → Prop
 | [] => True
 | j :: r => nthS specs j wx (a.eval (.tmp (dsts.getD j 0))) ∧ Have specs dsts wx a r
/-- A value that is known. -/
def SC (c : Value) : Sp := fun _ v => v = c
/-- An integer. -/
def SI (x : Int) : Sp := fun w v => ∃ a b, v = .agg #[a, b] ∧ IntV w a b x
/-- A rational. -/
def SR (r : Rat) : Sp := fun w v => ∃ a b c d, v = .agg #[a, b, c, d] ∧ RatV w a b c d r
/-- A new box. -/
def SB (W : World) (T : Nat) (Z : List Value) : Sp := fun w v => ∃ g, v = .pointer (some ⟨g, 0, none⟩) ∧ W.heap.size ≤ g ∧ Bx w g T Z
/-- A slice of ints. -/
def SS (l : List Int) : Sp := fun w v => Sl w v l
theorem SS.mono (l : List Int) : Mono (SS l) := fun _ _ _ h hb => h.below hb
theorem SC.mono (c : Value) : Mono (SC c) := fun _ _ _ h _ => h
theorem SI.mono (x : Int) : Mono (SI x) := fun _ _ _ ⟨a, b, h1, h2⟩ hb => ⟨a, b, h1, h2.below hb⟩
theorem SR.mono (r : Rat) : Mono (SR r) := fun _ _ _ ⟨a, b, c, d, h1, h2⟩ hb => ⟨a, b, c, d, h1, h2.below hb⟩
theorem SB.mono (W : World) (T : Nat) (Z : List Value) : Mono (SB W T Z) := fun _ _ _ ⟨g, h1, h2, h3⟩ hb => ⟨g, h1, h2, h3.below hb⟩
section
variable {P : Program} {o : Oper} {a : Act} {wx : World} {f : FuncId} {args : Array Value}
theorem Does.val {v : Value} {s : Sp} (hr : (execOp a.eval o).run P wx = .ok (.value v) wx) (h : s wx v) : Does P o s false a wx := .inl ⟨v, wx, hr, Below.refl _ _, h, fun h => by cases h⟩
theorem Does.box {W : World} {T : Nat} {Z : List Value} (hr : (execOp a.eval o).run P wx = .ok (.value (.pointer (some ⟨wx.heap.size, 0, none⟩))) (wx.alloc (.cells Z.toArray T))) (hB : Below W.heap.size W wx) : Does P o (SB W T Z) true a wx :=
 .inl ⟨_, _, hr, (Below.refl _ _).alloc (Nat.le_refl _) _, ⟨_, rfl, hB.size, Bx.at_ rfl⟩, fun _ => ⟨rfl, by simp⟩⟩
theorem Does.one {x : Int} (hr : (execOp a.eval o).run P wx = .ok (.value (.slice (some ⟨wx.heap.size, 0, none⟩) 1 1)) (wx.alloc (.cells #[.int .i64 x] 3))) : Does P o (SS [x]) false a wx :=
 .inl ⟨_, _, hr, (Below.refl _ _).alloc (Nat.le_refl _) _, (show Bk (wx.alloc (.cells #[.int .i64 x] 3)) wx.heap.size [x] from heap_alloc_new wx _).sl rfl (Nat.le_refl _) (by decide), fun h => by cases h⟩
theorem Does.rr {x : Rat} (hr : (execOp a.eval o).run P wx = .ok (.enter f args) wx) (hc : Calls P f args wx (RR x wx)) : Does P o (SR x) false a wx :=
 .inr ⟨rfl, f, args, hr, hc.mono fun _ _ ⟨p, q, r, s, h1, h2, h3⟩ => ⟨_, h1, h3, p, q, r, s, rfl, h2⟩⟩
end
end Go.Proofs.YtmhliomemdhmiaaGreatDoor
namespace Go.Proofs.YtmhliomemdhmiaaGreatDoor
open Go.RowKit
set_option linter.unusedVariables false
/-- The wide fence, or a round within it. -/
def WideF (F : Fence) : Prop := F = Fence.wide ∨ ∃ l, F = Fence.wide.inRound l
theorem WideF.wide : WideF Fence.wide := .inl rfl
theorem WideF.round (l : Nat) : WideF (Fence.wide.inRound l) := .inr ⟨l, rfl⟩
theorem WideF.fn {F : Fence} (h : WideF F) (f : FuncId) : F.fn f := by
 rcases h with rfl | ⟨l, rfl⟩ <;> trivial
theorem WideF.depth {F : Fence} (h : WideF F) : F.depth.isSome = false := by
 rcases h with rfl | ⟨l, rfl⟩ <;> rfl
theorem WideF.calls {F : Fence} (h : WideF F) {n : Nat} {P : Program} {f : FuncId} {args : Array Value} {w : World} {R : Ending → World → Prop} (hc : Calls P f args w R) : CallsIn F n P f args w R := by
 rcases h with rfl | ⟨l, rfl⟩
 ·exact callsIn_wide.2 hc
 ·exact CallsIn.inRound l (callsIn_wide.2 hc)
/-- No operation is a 'defer' statement. -/
def nodef (ops : Array Oper) : Bool := ops.toList.all fun o => match o.op with
 | .defer _ => false
 | _ => true
theorem nodef_at {ops : Array Oper} (h : nodef ops = true) {i : Nat} {o : Oper} (ho : ops[i]? = some o) : ∀ c, o.op ≠ .defer c := fun c e => by
 unfold nodef at h
 rw [List.all_eq_true] at h
 have h1 := h o (List.mem_of_getElem? (by simpa using ho))
 rw [e] at h1
 cases h1
theorem wpOpI_valG {Fx : Fence} {nf : Nat} {P : Program} {ops : Array Oper} {Q : Exit → Act → World → Prop} {i : Nat} {K : Act → World → Prop} {a : Act} {w w' : World} {o : Oper} {v : Value} (hFx : WideF Fx) (hnd : nodef ops = true) (ho : ops[i]? = some o) (hg : Region.wanted o (yielded ops a.tmps) = true)
  (hr : (execOp a.eval o).run P w = .ok (.value v) w') (hK : K (a.put o.dst v) w') : wpOpIn Fx nf P ops Q i K a w := by
 unfold wpOpIn
 rw [ho]
 simp only [hg, if_true]
 unfold Oper.wpIn
 refine ⟨fun f _ => hFx.fn f, ?_⟩
 rw [Oper.semAt_plain _ _ _ (nodef_at hnd ho), hr]
 exact hK
theorem wpOpI_callG {Fx : Fence} {nf : Nat} {P : Program} {ops : Array Oper} {Q : Exit → Act → World → Prop} {i : Nat} {K : Act → World → Prop} {a : Act} {w : World} {o : Oper} {f : FuncId} {args : Array Value} (hFx : WideF Fx) (hnd : nodef ops = true) (ho : ops[i]? = some o) (hg : Region.wanted o (yielded ops a.tmps) = true)
  (hr : (execOp a.eval o).run P w = .ok (.enter f args) w) (hc : Calls P f args w fun e w' => ∃ v, e = .returned v ∧ K (a.put o.dst v) w') : wpOpIn Fx nf P ops Q i K a w := by
 unfold wpOpIn
 rw [ho]
 simp only [hg, if_true]
 unfold Oper.wpIn
 refine ⟨fun f _ => hFx.fn f, ?_⟩
 rw [Oper.semAt_plain _ _ _ (nodef_at hnd ho), hr]
 refine ⟨fun h => (by rw [hFx.depth] at h; cases h), hFx.calls (Calls.mono hc fun e w' h => ?_)⟩
 obtain ⟨v, rfl, hK⟩ := h
 exact hK
theorem wpOpI_skipG {Fx : Fence} {nf : Nat} {P : Program} {ops : Array Oper} {Q : Exit → Act → World → Prop} {i : Nat} {K : Act → World → Prop} {a : Act} {w : World} {o : Oper} (hFx : WideF Fx) (ho : ops[i]? = some o) (hg : Region.wanted o (yielded ops a.tmps) = false) (hK : K (a.put o.dst undef) w) : wpOpIn Fx nf P ops Q i K a w := by
 unfold wpOpIn
 rw [ho]
 simp only [hg, Bool.false_eq_true, if_false]
 exact ⟨fun f _ => hFx.fn f, hK⟩
theorem wpAny_invI {Fx : Fence} {nf : Nat} {P : Program} {md : Region.Mode} {ops : Array Oper} {Q : Exit → Act → World → Prop} (J : Array Bool → Act → World → Prop)
  (hback : ∀ (i : Nat) (o : Oper), ops[i]? = some o → ∀ e ∈ o.after, Region.binds md e = true → e.on < i)
  (hstep : ∀ listed a w, listed.size = ops.size → J listed a w → ∀ i, i < ops.size → listed.getD i true = false → (∀ o : Oper, ops[i]? = some o → ∀ e ∈ o.after, Region.binds md e = true → listed.getD e.on false = true) → wpOpIn Fx nf P ops Q i (J (listed.setIfInBounds i true)) a w)
  (hend : ∀ listed a w, listed.size = ops.size → (∀ i, i < ops.size → listed.getD i true = true) → J listed a w → Q .normal a w) :
  ∀ fuel listed a w, listed.size = ops.size → toCome listed ≤ fuel → J listed a w → wpAnyIn Fx nf P md ops Q fuel listed a w := by
 intro fuel
 induction fuel with
 | zero =>
  intro listed a w hs hc hJ
  have hall : ∀ i, i < ops.size → listed.getD i true = true := fun i hi => by
   cases hl : listed.getD i true with
   | true => rfl
   | false =>
    have h1 : listed[i]? = some false := by
     rw [Array.getD_eq_getD_getElem?, Array.getElem?_eq_getElem (by omega)] at hl
     rw [Array.getElem?_eq_getElem (by omega)]
     simpa using hl
    have := toCome_set h1
    omega
  refine ⟨?_, hend listed a w hs hall hJ⟩
  cases hr : Region.ready md ops listed with
  | nil => rfl
  | cons i r =>
   have h1 := ready_of (show i ∈ Region.ready md ops listed by rw [hr]; exact List.mem_cons_self ..)
   rw [hall i h1.1] at h1
   cases h1.2.1
 | succ fuel ih =>
  intro listed a w hs hc hJ
  refine ⟨fun hr => hend listed a w hs (ready_nil hs hback hr) hJ, fun i hi => ?_⟩
  obtain ⟨h1, h2, h3⟩ := ready_of hi
  refine wpOpIn_mono (fun a' w' h => ih _ a' w' (by simpa using hs) ?_ h) (hstep listed a w hs hJ i h1 h2 h3)
  have h4 : listed[i]? = some false := by
   rw [Array.getD_eq_getD_getElem?, Array.getElem?_eq_getElem (by omega)] at h2
   rw [Array.getElem?_eq_getElem (by omega)]
   simpa using h2
  have := toCome_set h4
  omega
theorem wp_region_invI {Fx : Fence} {nf : Nat} {P : Program} {id : Nat} {ops : Array Oper} {Q : Exit → Act → World → Prop} {a : Act} {w : World} (J : Array Bool → Act → World → Prop) (hm : P.follows .mixedOrders = true)
  (hback : ∀ (i : Nat) (o : Oper), ops[i]? = some o → ∀ e ∈ o.after, Region.binds .any e = true → e.on < i)
  (h0 : J (Array.replicate ops.size false) a w.drew)
  (hstep : ∀ listed a w, listed.size = ops.size → J listed a w → ∀ i, i < ops.size → listed.getD i true = false → (∀ o : Oper, ops[i]? = some o → ∀ e ∈ o.after, Region.binds .any e = true → listed.getD e.on false = true) → wpOpIn Fx nf P ops Q i (J (listed.setIfInBounds i true)) a w)
  (hend : ∀ listed a w, listed.size = ops.size → (∀ i, i < ops.size → listed.getD i true = true) → J listed a w → Q .normal a w) :
  (Code.region id ops true).wpIn Fx nf P Q a w := by
 refine wpIn_region_any hm (wpAny_invI J hback hstep hend _ _ _ _ (by simp) ?_ h0)
 unfold toCome
 exact Nat.le_trans (List.length_filter_le _ _) (by simp)
theorem wp_region_headI {Fx : Fence} {nf : Nat} {P : Program} {id : Nat} {ops : Array Oper} {Q : Exit → Act → World → Prop} {a : Act} {w : World} (n : Nat) (V : Array Bool → Act → World → Prop) (hm : P.follows .mixedOrders = true)
  (hback : ∀ (i : Nat) (o : Oper), ops[i]? = some o → ∀ e ∈ o.after, Region.binds .any e = true → e.on < i) (hn : n ≤ ops.size) (hfull : fullB ops n = true)
  (h0 : V (Array.replicate ops.size false) a w.drew)
  (hstep : ∀ L a w, L.size = ops.size → V L a w → ∀ i, i < n → L.getD i false = false → (∀ j ∈ predsOf ops i, L.getD j false = true) → wpOpIn Fx nf P ops Q i (V (L.setIfInBounds i true)) a w)
  (hend : ∀ L a w, L.size = ops.size → (∀ i, i < n → L.getD i false = true) → V L a w → wpListIn Fx nf P ops Q (ops.toList.drop n) a w) :
  (Code.region id ops true).wpIn Fx nf P Q a w := by
 have hdrop : ∀ t, (h : n + t < ops.size) → wpListIn Fx nf P ops Q (ops.toList.drop (n + t)) = wpOpIn Fx nf P ops Q (n + t) (wpListIn Fx nf P ops Q (ops.toList.drop (n + (t + 1)))) := by
  intro t ht
  have h1 : ops.toList.drop (n + t) = ops[n + t] :: ops.toList.drop (n + (t + 1)) := by
   rw [List.drop_eq_getElem_cons (by simpa using ht)]
   rfl
  funext a w
  rw [h1]
  unfold wpOpIn
  rw [Array.getElem?_eq_getElem ht]
  rfl
 refine wp_region_invI (fun L a w => Closed ops L ∧ (((∀ i, n ≤ i → L.getD i false = false) ∧ V L a w) ∨ ∃ t, 0 < t ∧ n + t ≤ ops.size ∧ (∀ i, i < n + t → L.getD i false = true) ∧ (∀ i, n + t ≤ i → L.getD i false = false) ∧ wpListIn Fx nf P ops Q (ops.toList.drop (n + t)) a w)) hm hback ?_ ?_ ?_
 ·refine ⟨fun i hi => ?_, .inl ⟨fun i _ => ?_, h0⟩⟩
  ·rw [Array.getD_eq_getD_getElem?, Array.getElem?_replicate] at hi
   split at hi <;> simp at hi
  ·rw [Array.getD_eq_getD_getElem?, Array.getElem?_replicate]
   split <;> rfl
 ·intro L a w hs hJ i hi hL hpre
  obtain ⟨hc, hJ⟩ := hJ
  have hf := getD_no hL
  have hp : ∀ j ∈ predsOf ops i, L.getD j false = true := fun j hj => by
   obtain ⟨o, ho, e, he, hb, rfl⟩ := mem_predsOf.1 hj
   exact hpre o ho e he hb
  have hc' := closed_set hc hp
  have hset : ∀ k, L.getD k false = true ∨ k = i → k < ops.size → (L.setIfInBounds i true).getD k false = true := fun k hk hk2 => by
   by_cases hki : i = k
   ·subst hki; exact getD_eq (by omega)
   ·rw [getD_ne hki]
    rcases hk with hk | hk
    ·exact hk
    ·exact absurd hk.symm hki
  rcases hJ with ⟨hno, hV⟩ | ⟨t, ht0, htn, hyes, hno, hT⟩
  ·rcases Nat.lt_or_ge i n with hin | hin
   ·refine wpOpIn_mono (fun a' w' h => ⟨hc', .inl ⟨fun k hk => ?_, h⟩⟩) (hstep L a w hs hV i hin hf hp)
    rw [getD_ne (by omega)]; exact hno k hk
   ·have hall := full_done hfull hc hi hin hp
    have hin2 : i = n := by
     rcases Nat.lt_or_ge n i with h | h
     ·have h1 := hall n h
      rw [hno n (Nat.le_refl _)] at h1
      cases h1
     ·omega
    subst hin2
    have h2 := hend L a w hs (fun k hk => hall k hk) hV
    have h3 := hdrop 0 (by simpa using hi)
    rw [Nat.add_zero] at h3
    rw [h3] at h2
    refine wpOpIn_mono (fun a' w' h => ⟨hc', .inr ⟨1, by omega, by omega, fun k hk => hset k ?_ (by omega), fun k hk => ?_, h⟩⟩) h2
    ·rcases Nat.lt_or_ge k i with h4 | h4
     ·exact .inl (hall k h4)
     ·exact .inr (by omega)
    ·rw [getD_ne (by omega)]; exact hno k (by omega)
  ·have hin : n + t ≤ i := by
    rcases Nat.lt_or_ge i (n + t) with h | h
    ·have := hyes i h
     rw [hf] at this
     cases this
    ·exact h
   have hall := full_done hfull hc hi (by omega) hp
   have hin2 : i = n + t := by
    rcases Nat.lt_or_ge (n + t) i with h | h
    ·have h1 := hall (n + t) h
     rw [hno (n + t) (Nat.le_refl _)] at h1
     cases h1
    ·omega
   subst hin2
   rw [hdrop t hi] at hT
   refine wpOpIn_mono (fun a' w' h => ⟨hc', .inr ⟨t + 1, by omega, by omega, fun k hk => hset k ?_ (by omega), fun k hk => ?_, h⟩⟩) hT
   ·rcases Nat.lt_or_ge k (n + t) with h4 | h4
    ·exact .inl (hyes k h4)
    ·exact .inr (by omega)
   ·rw [getD_ne (by omega)]; exact hno k (by omega)
 ·intro L a w hs hall hJ
  obtain ⟨hc, hJ⟩ := hJ
  have hy : ∀ i, i < ops.size → L.getD i false = true := fun i hi => getD_yes (by omega) (hall i hi)
  rcases hJ with ⟨hno, hV⟩ | ⟨t, ht0, htn, hyes, hno, hT⟩
  ·have hnn : n = ops.size := by
    rcases Nat.lt_or_ge n ops.size with h | h
    ·have h1 := hy n h
     rw [hno n (Nat.le_refl _)] at h1
     cases h1
    ·omega
   have h2 := hend L a w hs (fun i hi => hy i (by omega)) hV
   rw [List.drop_of_length_le (by simp [hnn])] at h2
   exact h2
  ·have hnn : n + t = ops.size := by
    rcases Nat.lt_or_ge (n + t) ops.size with h | h
    ·have h1 := hy (n + t) h
     rw [hno (n + t) (Nat.le_refl _)] at h1
     cases h1
    ·omega
   rw [List.drop_of_length_le (by simp [hnn])] at hT
   exact hT
end Go.Proofs.YtmhliomemdhmiaaGreatDoor
