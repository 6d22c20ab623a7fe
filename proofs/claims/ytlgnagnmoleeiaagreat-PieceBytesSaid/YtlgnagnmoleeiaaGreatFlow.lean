/-
 A REGION THAT DRAWS ITS ORDER, AS A FLOW OF VALUES: each operation says what it yields once its operands are there, whatever else was done; the stores come last.
-/
import Derived.Test.YtlgnagnmoleeiaaGreatPlainI
import Derived.Test.YtlgnagnmoleeiaaGreatMemR
namespace Go.Proofs.YtlgnagnmoleeiaaGreat
open Go.RowKit
/-- The operations that must be done ahead of one. -/
def predsOf (ops : Array Oper) (i : Nat) : List Nat := match ops[i]? with
 | none => []
 | some o => (o.after.toList.filter (fun e => Region.binds .any e)).map (·.on)
def covB (ops : Array Oper) : Nat → List Nat → Bool
 | 0, _ => true
 | j + 1, S => S.contains j && covB ops j (S ++ predsOf ops j)
/-- Every operation from n on waits for all that stand before it. -/
def fullB (ops : Array Oper) (n : Nat) : Bool := (List.range ops.size).all fun i => decide (i < n) || covB ops i (predsOf ops i)
def Closed (ops : Array Oper) (L : Array Bool) : Prop := ∀ i, L.getD i false = true → ∀ j ∈ predsOf ops i, L.getD j false = true
theorem mem_predsOf {ops : Array Oper} {i j : Nat} : j ∈ predsOf ops i ↔ ∃ o, ops[i]? = some o ∧ ∃ e ∈ o.after, Region.binds .any e = true ∧ e.on = j := by
 unfold predsOf
 cases h : ops[i]? with
 | none => simp
 | some o => simp [and_assoc]
theorem cov_done {ops : Array Oper} {L : Array Bool} (hc : Closed ops L) : ∀ (k : Nat) (S : List Nat), covB ops k S = true → (∀ j ∈ S, L.getD j false = true) → ∀ j, j < k → L.getD j false = true
 | 0, _, _, _, _, h => absurd h (Nat.not_lt_zero _)
 | k + 1, S, hb, hS, j, hj => by
  simp only [covB, Bool.and_eq_true] at hb
  have hk : L.getD k false = true := hS k (by simpa using hb.1)
  rcases Nat.lt_or_ge j k with h | h
  ·exact cov_done hc k _ hb.2 (fun x hx => by
    rcases List.mem_append.1 hx with hx | hx
    ·exact hS x hx
    ·exact hc k hk x hx) j h
  ·rw [show j = k by omega]; exact hk
theorem full_done {ops : Array Oper} {n : Nat} (hf : fullB ops n = true) {L : Array Bool} (hc : Closed ops L) {i : Nat} (hi : i < ops.size) (hn : n ≤ i) (hp : ∀ j ∈ predsOf ops i, L.getD j false = true) : ∀ j, j < i → L.getD j false = true := by
 unfold fullB at hf
 rw [List.all_eq_true] at hf
 have h1 := hf i (by simpa using hi)
 simp only [Bool.or_eq_true, decide_eq_true_eq] at h1
 rcases h1 with h1 | h1
 ·omega
 ·exact cov_done hc i _ h1 hp
theorem closed_set {ops : Array Oper} {L : Array Bool} (hc : Closed ops L) {i : Nat} (hp : ∀ j ∈ predsOf ops i, L.getD j false = true) : Closed ops (L.setIfInBounds i true) := by
 intro k hk j hj
 by_cases hij : i = j
 ·subst hij
  by_cases hik : i = k
  ·subst hik
   rw [Array.getD_eq_getD_getElem?, Array.getElem?_setIfInBounds, if_pos rfl]
   split
   ·rfl
   ·have := hp i hj
    rw [Array.getD_eq_getD_getElem?, Array.getElem?_eq_none (by omega)] at this
    exact this
  ·rw [getD_ne hik] at hk
   have h1 := hc k hk i hj
   rw [Array.getD_eq_getD_getElem?, Array.getElem?_setIfInBounds, if_pos rfl]
   split
   ·rfl
   ·rw [Array.getD_eq_getD_getElem?, Array.getElem?_eq_none (by omega)] at h1
    exact h1
 ·rw [getD_ne hij]
  by_cases hik : i = k
  ·subst hik; exact hp j hj
  ·rw [getD_ne hik] at hk
   exact hc k hk j hj
/-- The k-th of a list of such words on a value in a world. -/
abbrev Sp := World → Value → Prop
def nthS : List Sp → Nat → Sp
 | [], _ => fun _ _ => True
 | s :: _, 0 => s
 | _ :: r, k + 1 => nthS r k
/-- It stays true where memory is only made. -/
def Mono (s : Sp) : Prop := ∀ w w' v, s w v → Below w.heap.size w w' → s w' v
def MonoL : List Sp → Prop
 | [] => True
 | s :: r => Mono s ∧ MonoL r
theorem MonoL.nth : ∀ {l : List Sp}, MonoL l → ∀ k, Mono (nthS l k)
 | [], _, _ => fun _ _ _ _ _ => trivial
 | _ :: _, h, 0 => h.1
 | _ :: _, h, k + 1 => MonoL.nth h.2 k
/-- What an operation of such a region does: a value, or a call. -/
def Does (P : Program) (o : Oper) (s : Sp) (al : Bool) (a : Act) (wx : World) : Prop :=
 (∃ v w', (execOp a.eval o).run P wx = .ok (.value v) w' ∧ Below wx.heap.size wx w' ∧ s w' v ∧ (al = true → v = .pointer (some ⟨wx.heap.size, 0, none⟩) ∧ wx.heap.size < w'.heap.size)) ∨
 (al = false ∧ ∃ f args, (execOp a.eval o).run P wx = .ok (.enter f args) wx ∧ Calls P f args wx fun e w' => ∃ v, e = .returned v ∧ Below wx.heap.size wx w' ∧ s w' v)
/-- The slots that the first operations write, in order. -/
def dstOf (ops : Array Oper) (n : Nat) : List Nat := (ops.toList.take n).map fun o => o.dst.getD 0
/-- The values put into the slots. -/
def vals (L : Nat → Bool) (val : Nat → Value) : List Nat → Nat → List (Bool × Nat × Value)
 | [], _ => []
 | d :: r, k => (L k, d, val k) :: vals L val r (k + 1)
theorem vals_dst (L : Nat → Bool) (val : Nat → Value) : ∀ (l : List Nat) (k : Nat), (vals L val l k).map (·.2.1) = l
 | [], _ => rfl
 | d :: r, k => by simp [vals, vals_dst L val r (k + 1)]
theorem vals_get (L : Nat → Bool) (val : Nat → Value) : ∀ (l : List Nat) (k i : Nat) (d : Nat), l[i]? = some d → (vals L val l k)[i]? = some (L (k + i), d, val (k + i))
 | [], _, _, _, h => by simp at h
 | x :: r, k, 0, d, h => by simp at h; subst h; rfl
 | x :: r, k, i + 1, d, h => by
  simp only [List.getElem?_cons_succ] at h
  simp only [vals, List.getElem?_cons_succ]
  rw [vals_get L val r (k + 1) i d h, show k + 1 + i = k + (i + 1) by omega]
theorem vals_set (L : Nat → Bool) (val : Nat → Value) (v : Value) : ∀ (l : List Nat) (k i d : Nat), l[i]? = some d →
  (vals L val l k).set i (true, d, v) = vals (fun j => if j = k + i then true else L j) (fun j => if j = k + i then v else val j) l k
 | [], _, _, _, h => by simp at h
 | x :: r, k, 0, d, h => by
  simp at h; subst h
  have : ∀ (l : List Nat) (m : Nat), k < m → vals L val l m = vals (fun j => if j = k + 0 then true else L j) (fun j => if j = k + 0 then v else val j) l m := by
   intro l
   induction l with
   | nil => intro _ _; rfl
   | cons y l ih =>
    intro m hm
    simp only [vals]
    rw [ih (m + 1) (by omega), if_neg (by omega), if_neg (by omega)]
  simp only [vals, List.set_cons_zero]
  rw [this r (k + 1) (by omega)]
  simp
 | x :: r, k, i + 1, d, h => by
  simp only [List.getElem?_cons_succ] at h
  simp only [vals, List.set_cons_succ]
  rw [vals_set L val v r (k + 1) i d h, show k + 1 + i = k + (i + 1) by omega, if_neg (by omega), if_neg (by omega)]
theorem vals_congr {L L' : Nat → Bool} (val : Nat → Value) : ∀ (l : List Nat) (k : Nat), (∀ i, i < l.length → L (k + i) = L' (k + i)) → vals L val l k = vals L' val l k
 | [], _, _ => rfl
 | x :: r, k, h => by
  have h1 : L k = L' k := h 0 (by simp)
  have h2 := vals_congr (L := L) (L' := L') val r (k + 1) (fun i hi => by
   have h3 := h (i + 1) (by simpa using hi)
   rw [show k + (i + 1) = k + 1 + i from by omega] at h3
   exact h3)
  simp only [vals]
  rw [h1, h2]
/-- The same for an operation with a guard: it may be left out. -/
def DoesG (P : Program) (ops : Array Oper) (o : Oper) (s : Sp) (al : Bool) (a : Act) (wx : World) : Prop :=
 (Region.wanted o (yielded ops a.tmps) = true ∧ Does P o s al a wx) ∨ (Region.wanted o (yielded ops a.tmps) = false ∧ al = false ∧ s wx undef)
def headG (ops : Array Oper) (n : Nat) : Bool := (ops.toList.take n).all (fun o => o.dst.isSome) && decide ((dstOf ops n).Nodup)
theorem wanted_of {ops : Array Oper} {o : Oper} {a : Act} {j d : Nat} {want b : Bool} (hg : o.guard = some (j, want)) (hd : (ops[j]?).bind (·.dst) = some d) (he : a.eval (.tmp d) = .bool b) : Region.wanted o (yielded ops a.tmps) = (b == want) := by
 have h1 : a.tmps[d]? = some (.bool b) := by
  simp only [Act.eval, Array.getD_eq_getD_getElem?] at he
  cases h : a.tmps[d]? with
  | none => rw [h] at he; cases he
  | some x => rw [h] at he; simp at he; rw [he]
 unfold Region.wanted
 rw [hg]
 simp only [yielded, hd, Option.bind_some, h1]
 cases b <;> cases want <;> rfl
theorem wanted_none {ops : Array Oper} {o : Oper} {a : Act} (hg : o.guard = none) : Region.wanted o (yielded ops a.tmps) = true := by
 unfold Region.wanted
 rw [hg]
/-- What is needed of the slots that were written already. -/
def Have (specs : List Sp) (dsts : List Nat) (wx : World) (a : Act) : List Nat → Prop
 | [] => True
 | j :: r => nthS specs j wx (a.eval (.tmp (dsts.getD j 0))) ∧ Have specs dsts wx a r
/-- The table of slots and of the operands' operations fits. -/
def tabB (ops : Array Oper) (n : Nat) (tab : List (Nat × List Nat)) : Bool :=
 decide (n ≤ ops.size) && decide (dstOf ops n = tab.map (·.1)) && decide (tab.length = n) && tab.zipIdx.all fun x => x.1.2.all fun j => decide (j < n) && (predsOf ops x.2).contains j
theorem have_of {specs : List Sp} {dsts : List Nat} {wx : World} {a : Act} : ∀ (l : List Nat), (∀ j ∈ l, nthS specs j wx (a.eval (.tmp (dsts.getD j 0)))) → Have specs dsts wx a l
 | [], _ => trivial
 | j :: r, h => ⟨h j (by simp), have_of r (fun x hx => h x (List.mem_cons_of_mem _ hx))⟩
/-- A value that is known. -/
def SC (c : Value) : Sp := fun _ v => v = c
theorem SC.mono (c : Value) : Mono (SC c) := fun _ _ _ h _ => h
section
variable {P : Program} {o : Oper} {a : Act} {wx : World} {f : FuncId} {args : Array Value}
theorem Does.val {v : Value} {s : Sp} (hr : (execOp a.eval o).run P wx = .ok (.value v) wx) (h : s wx v) : Does P o s false a wx := .inl ⟨v, wx, hr, Below.refl _ _, h, fun h => by cases h⟩
end
end Go.Proofs.YtlgnagnmoleeiaaGreat
