/-
 WORDS for slices of bytes among other values; what single operations of a region yield.
-/
import Derived.Test.YtgdibcgphjmofaaLnkG
import Derived.Test.YtgdibcgphjmofaaFlow
import Derived.Deep.DeepCutAuto
namespace Go.Proofs.Ytgdibcgphjmofaa
open Go.RowKit
set_option linter.unusedVariables false
/-- The rows of bytes are kept. -/
def KB (w w' : World) : Prop := w.heap.size ≤ w'.heap.size ∧ ∀ (b : Nat) (cs : Array Value) (fr : Nat × Nat), w.heap[b]? = some (.cells cs 5 fr) → w'.heap[b]? = some (.cells cs 5 fr)
section
variable {w w' w1 w2 : World} {v : Value} {l : List UInt8}
theorem KB.refl (w : World) : KB w w := ⟨Nat.le_refl _, fun _ _ _ h => h⟩
theorem KB.trans (h : KB w w1) (g : KB w1 w2) : KB w w2 := ⟨Nat.le_trans h.1 g.1, fun b cs fr e => g.2 b cs fr (h.2 b cs fr e)⟩
theorem KB.of (h : Below w.heap.size w w') : KB w w' := ⟨h.size, fun b _ _ e => (h.block b (Array.getElem?_eq_some_iff.1 e).1).trans e⟩
theorem KB.drew (h : KB w w') : KB w w'.drew := h
theorem KB.drewN (h : KB w w') (n : Nat) : KB w (w'.drewN n) := h
theorem KB.set_ (h : KB w w') {g i T : Nat} {cs : Array Value} {fr : Nat × Nat} (hg : w'.heap[g]? = some (.cells cs T fr)) (hT : T ≠ 5) (u : Value) : KB w (w'.setCell ⟨g, i, none⟩ u) := by
 refine ⟨by simpa [World.setCell] using h.1, fun b cs' fr' e => ?_⟩
 have h1 := h.2 b cs' fr' e
 have hne : b ≠ g := by
  rintro rfl
  rw [hg] at h1
  injection h1 with h1
  injection h1 with _ h2
  exact hT h2
 exact (Below.heap_setCell w' ⟨g, i, none⟩ u b hne).trans h1
/-- What grows by a block that is no row of bytes. -/
theorem KB.grown {row : Option Nat} (h : KB w w') (hg : w'.grownBy w2 row) (hr : ∀ k, row = some k → ∀ cs fr, w'.heap[k]? ≠ some (.cells cs 5 fr)) : KB w w2 := by
 refine ⟨Nat.le_trans h.1 hg.size, fun b cs fr e => ?_⟩
 have h1 := h.2 b cs fr e
 refine (hg.block b (Array.getElem?_eq_some_iff.1 h1).1 ?_).trans h1
 intro e2
 exact hr b e2.symm cs fr h1
/-- A slice of bytes that reads as a list; it lies in a row of bytes. -/
def BV (w : World) (v : Value) (l : List UInt8) : Prop := ∃ A c, v = .slice A l.length c ∧ l.length ≤ c ∧ c ≤ maxLen ∧ Rd w w.heap.size A (W.bc l) ∧
 (0 < l.length → ∃ b o cs fr, A = some ⟨b, o, none⟩ ∧ w.heap[b]? = some (.cells cs 5 fr))
theorem BV.kb (h : BV w v l) (k : KB w w') : BV w' v l := by
 obtain ⟨A, c, h1, h3, h4, h5, h6⟩ := h
 refine ⟨A, c, h1, h3, h4, fun hn => ?_, fun hn => ?_⟩
 ·obtain ⟨b, o, cs, fr, rfl, hb⟩ := h6 (by simpa using hn)
  obtain ⟨b', o', e, hb', hc⟩ := h5 hn
  injection e with e
  injection e with e1 e2
  subst e1; subst e2
  have hk := k.2 b cs fr hb
  refine ⟨b, o, rfl, Nat.lt_of_lt_of_le hb' k.1, fun j u hu => ?_⟩
  rw [← hc j u hu]
  exact World.cell?_of_block (a := ⟨b, o + j, none⟩) (hk.trans hb.symm)
 ·obtain ⟨b, o, cs, fr, h7, hb⟩ := h6 hn
  exact ⟨b, o, cs, fr, h7, k.2 b cs fr hb⟩
theorem BV.below (h : BV w v l) (hb : Below w.heap.size w w') : BV w' v l := h.kb (.of hb)
theorem BV.alloc (h : BV w v l) (o : Obj) : BV (w.alloc o) v l := h.below ((Below.refl _ _).alloc (Nat.le_refl _) o)
theorem BV.nil (w : World) : BV w (.slice none 0 0) [] := ⟨none, 0, rfl, Nat.le_refl _, by decide, Rd.nil _ _ _, fun h => by simp at h⟩
theorem BV.own {base : Nat} (h : w.ownsRow base 5 1 v l.length (W.bc l)) : BV w v l := by
 obtain ⟨A, c, rfl, h1, h2, _, _⟩ := own_form h
 refine ⟨A, c, rfl, h1, h2, Rd.of_own h, fun hn => ?_⟩
 rcases h.2 with ⟨_, h3⟩ | ⟨g, cap, cur, h3, _, h4, _⟩
 ·omega
 ·injection h3 with h3
  exact ⟨g, 0, cur, (0, 0), h3, h4⟩
theorem BV.one (h : BV w v l) : v.oneCell' = true := by obtain ⟨A, c, rfl, _⟩ := h; rfl
end
/-- What returns bytes. -/
def RBV (l : List UInt8) (w : World) (e : Ending) (w' : World) : Prop := ∃ v, e = .returned v ∧ BV w' v l ∧ Below w.heap.size w w'
theorem RB_.bv {l : List UInt8} {w w' : World} {e : Ending} (h : RB_ l w e w') : RBV l w e w' := by
 obtain ⟨v, h1, h2, h3⟩ := h
 exact ⟨v, h1, BV.own h2, h3⟩
theorem gen_act {P : Program} {c : Code} {Q : Exit → Act → World → Prop} {a : Act} {w : World} (h : ∀ F : Act, a = F → c.wp P Q F w) : c.wp P Q a w := h a rfl
theorem puts_consT (t : Array Value) (d : List Deferred) (s : Nat) (v : Value) (l : List (Bool × Nat × Value)) : puts (Act.mk t d) (List.cons (true, s, v) l) = puts (Act.mk (Array.setIfInBounds t s v) d) l := rfl
theorem puts_nilm (t : Array Value) (d : List Deferred) : puts (Act.mk t d) List.nil = Act.mk t d := rfl
/-- Bytes, in a region. -/
def SY (l : List UInt8) : Sp := fun w v => BV w v l
theorem SY.mono (l : List UInt8) : Mono (SY l) := fun _ _ _ h hb => BV.below h hb
section
variable {P : Program} {o : Oper} {a : Act} {wx : World} {x : Operand} {g off : Nat}
theorem op_mv {s : Sp} (ho : o.op = .move x) (h : s wx (a.eval x)) : Does P o s false a wx := Does.val (by simp only [execOp, ho]; rfl) h
theorem op_as {s : Sp} (ho : o.op = .assign x) (h : s wx (a.eval x)) : Does P o s false a wx := Does.val (by simp only [execOp, ho]; rfl) h
theorem op_nil {p : Addr} (ho : o.op = .nilCheck x) (he : a.eval x = .pointer (some p)) : Does P o (SC (.pointer (some p))) false a wx := Does.val (by simp only [execOp, ho, he]; rfl) rfl
theorem Does.ry {f : FuncId} {args : Array Value} {l : List UInt8} (hr : (execOp a.eval o).run P wx = .ok (.enter f args) wx) (hc : Calls P f args wx (RBV l wx)) : Does P o (SY l) false a wx :=
 .inr ⟨rfl, f, args, hr, hc.mono fun _ _ ⟨v, h1, h2, h3⟩ => ⟨v, h1, h3, h2⟩⟩
end
/-- Below, from the world ahead of the draw. -/
theorem dB {w W wx : World} (hW : w.drew = W) (h : Below W.heap.size W wx) : Below w.heap.size w wx := by subst hW; exact bdDl h
theorem call0 {P : Program} {o : Oper} {a : Act} {wx : World} {f : FuncId} {ts : Array TypeId} (ho : o.op = .call { callee := .value (.func f), args := #[], argTypes := ts }) (hf : ∀ vs, (callFunc f vs).run P wx = .ok (.enter f vs) wx) :
  (execOp a.eval o).run P wx = .ok (.enter f #[]) wx := by
 have h : ∀ ρ : Operand → Value, ρ (.func f) = .func (.func f) #[] #[] → (execOp ρ o).run P wx = .ok (.enter f #[]) wx := by
  intro ρ ef
  simp [execOp, ho, ef, go_sem, hf]
 exact h a.eval rfl
theorem call1 {P : Program} {o : Oper} {a : Act} {wx : World} {f : FuncId} {ts : Array TypeId} {x0 : Operand} {v0 : Value} (ho : o.op = .call { callee := .value (.func f), args := #[x0], argTypes := ts }) (hf : ∀ vs, (callFunc f vs).run P wx = .ok (.enter f vs) wx) (e0 : a.eval x0 = v0) :
  (execOp a.eval o).run P wx = .ok (.enter f #[v0]) wx := by
 have h : ∀ ρ : Operand → Value, ρ (.func f) = .func (.func f) #[] #[] → ρ x0 = v0 → (execOp ρ o).run P wx = .ok (.enter f #[v0]) wx := by
  intro ρ ef e0
  simp [execOp, ho, ef, e0, go_sem, hf]
 exact h a.eval rfl e0
theorem call2 {P : Program} {o : Oper} {a : Act} {wx : World} {f : FuncId} {ts : Array TypeId} {x0 x1 : Operand} {v0 v1 : Value} (ho : o.op = .call { callee := .value (.func f), args := #[x0, x1], argTypes := ts }) (hf : ∀ vs, (callFunc f vs).run P wx = .ok (.enter f vs) wx) (e0 : a.eval x0 = v0) (e1 : a.eval x1 = v1) :
  (execOp a.eval o).run P wx = .ok (.enter f #[v0, v1]) wx := by
 have h : ∀ ρ : Operand → Value, ρ (.func f) = .func (.func f) #[] #[] → ρ x0 = v0 → ρ x1 = v1 → (execOp ρ o).run P wx = .ok (.enter f #[v0, v1]) wx := by
  intro ρ ef e0 e1
  simp [execOp, ho, ef, e0, e1, go_sem, hf]
 exact h a.eval rfl e0 e1
theorem call3 {P : Program} {o : Oper} {a : Act} {wx : World} {f : FuncId} {ts : Array TypeId} {x0 x1 x2 : Operand} {v0 v1 v2 : Value} (ho : o.op = .call { callee := .value (.func f), args := #[x0, x1, x2], argTypes := ts }) (hf : ∀ vs, (callFunc f vs).run P wx = .ok (.enter f vs) wx) (e0 : a.eval x0 = v0) (e1 : a.eval x1 = v1) (e2 : a.eval x2 = v2) :
  (execOp a.eval o).run P wx = .ok (.enter f #[v0, v1, v2]) wx := by
 have h : ∀ ρ : Operand → Value, ρ (.func f) = .func (.func f) #[] #[] → ρ x0 = v0 → ρ x1 = v1 → ρ x2 = v2 → (execOp ρ o).run P wx = .ok (.enter f #[v0, v1, v2]) wx := by
  intro ρ ef e0 e1 e2
  simp [execOp, ho, ef, e0, e1, e2, go_sem, hf]
 exact h a.eval rfl e0 e1 e2
end Go.Proofs.Ytgdibcgphjmofaa
