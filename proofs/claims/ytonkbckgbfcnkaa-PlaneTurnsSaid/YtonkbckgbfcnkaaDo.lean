/-
 WHAT SINGLE OPERATIONS YIELD: field addresses, loads, calls.
-/
import Derived.Test.YtonkbckgbfcnkaaFlow
namespace Go.Proofs.Ytonkbckgbfcnkaa
open Go.RowKit
section
variable {o : Oper} {a : Act} {wx : World} {d g off : Nat}
theorem fa_Int0 (ho : o.op = .fieldAddr 24 (.tmp d) 0) (he : a.eval (.tmp d) = .pointer (some ⟨g, off, none⟩)) : Does Try.prog o (SC (.pointer (some ⟨g, off + 0, none⟩))) false a wx := by
 simp [Act.eval] at he
 exact Does.val (by simp [execOp, Act.eval, ho, he, go_sem]) rfl
theorem fa_Int1 (ho : o.op = .fieldAddr 24 (.tmp d) 1) (he : a.eval (.tmp d) = .pointer (some ⟨g, off, none⟩)) : Does Try.prog o (SC (.pointer (some ⟨g, off + 1, none⟩))) false a wx := by
 simp [Act.eval] at he
 exact Does.val (by simp [execOp, Act.eval, ho, he, go_sem]) rfl
theorem fa_Rat0 (ho : o.op = .fieldAddr 26 (.tmp d) 0) (he : a.eval (.tmp d) = .pointer (some ⟨g, off, none⟩)) : Does Try.prog o (SC (.pointer (some ⟨g, off + 0, none⟩))) false a wx := by
 simp [Act.eval] at he
 exact Does.val (by simp [execOp, Act.eval, ho, he, go_sem]) rfl
theorem fa_Rat1 (ho : o.op = .fieldAddr 26 (.tmp d) 1) (he : a.eval (.tmp d) = .pointer (some ⟨g, off, none⟩)) : Does Try.prog o (SC (.pointer (some ⟨g, off + 2, none⟩))) false a wx := by
 simp [Act.eval] at he
 exact Does.val (by simp [execOp, Act.eval, ho, he, go_sem]) rfl
theorem fa_Vec0 (ho : o.op = .fieldAddr 28 (.tmp d) 0) (he : a.eval (.tmp d) = .pointer (some ⟨g, off, none⟩)) : Does Try.prog o (SC (.pointer (some ⟨g, off + 0, none⟩))) false a wx := by
 simp [Act.eval] at he
 exact Does.val (by simp [execOp, Act.eval, ho, he, go_sem]) rfl
theorem fa_Vec1 (ho : o.op = .fieldAddr 28 (.tmp d) 1) (he : a.eval (.tmp d) = .pointer (some ⟨g, off, none⟩)) : Does Try.prog o (SC (.pointer (some ⟨g, off + 4, none⟩))) false a wx := by
 simp [Act.eval] at he
 exact Does.val (by simp [execOp, Act.eval, ho, he, go_sem]) rfl
theorem fa_Turn0 (ho : o.op = .fieldAddr 31 (.tmp d) 0) (he : a.eval (.tmp d) = .pointer (some ⟨g, off, none⟩)) : Does Try.prog o (SC (.pointer (some ⟨g, off + 0, none⟩))) false a wx := by
 simp [Act.eval] at he
 exact Does.val (by simp [execOp, Act.eval, ho, he, go_sem]) rfl
theorem fa_Turn1 (ho : o.op = .fieldAddr 31 (.tmp d) 1) (he : a.eval (.tmp d) = .pointer (some ⟨g, off, none⟩)) : Does Try.prog o (SC (.pointer (some ⟨g, off + 4, none⟩))) false a wx := by
 simp [Act.eval] at he
 exact Does.val (by simp [execOp, Act.eval, ho, he, go_sem]) rfl
theorem fa_Place0 (ho : o.op = .fieldAddr 62 (.tmp d) 0) (he : a.eval (.tmp d) = .pointer (some ⟨g, off, none⟩)) : Does Try.prog o (SC (.pointer (some ⟨g, off + 0, none⟩))) false a wx := by
 simp [Act.eval] at he
 exact Does.val (by simp [execOp, Act.eval, ho, he, go_sem]) rfl
theorem fa_Place1 (ho : o.op = .fieldAddr 62 (.tmp d) 1) (he : a.eval (.tmp d) = .pointer (some ⟨g, off, none⟩)) : Does Try.prog o (SC (.pointer (some ⟨g, off + 8, none⟩))) false a wx := by
 simp [Act.eval] at he
 exact Does.val (by simp [execOp, Act.eval, ho, he, go_sem]) rfl
theorem ld_bool {T : Nat} {l : List Value} {a0 : Value} (ho : o.op = .load 4 (.tmp d)) (he : a.eval (.tmp d) = .pointer (some ⟨g, off, none⟩)) (hx : Bx wx g T l) (h0 : l[off]? = some a0) : Does Try.prog o (SC (a0)) false a wx := by
 simp [Act.eval] at he
 have c0 := hx.cell h0
 exact Does.val (by simp [execOp, Act.eval, ho, he, go_sem, c0]) rfl
theorem ld_sl {T : Nat} {l : List Value} {a0 : Value} (ho : o.op = .load 22 (.tmp d)) (he : a.eval (.tmp d) = .pointer (some ⟨g, off, none⟩)) (hx : Bx wx g T l) (h0 : l[off]? = some a0) : Does Try.prog o (SC (a0)) false a wx := by
 simp [Act.eval] at he
 have c0 := hx.cell h0
 exact Does.val (by simp [execOp, Act.eval, ho, he, go_sem, c0]) rfl
theorem ld_Int {T : Nat} {l : List Value} {a0 a1 : Value} (ho : o.op = .load 24 (.tmp d)) (he : a.eval (.tmp d) = .pointer (some ⟨g, off, none⟩)) (hx : Bx wx g T l) (h0 : l[off]? = some a0) (h1 : l[off + 1]? = some a1) : Does Try.prog o (SC (.agg #[a0, a1])) false a wx := by
 simp [Act.eval] at he
 have c0 := hx.cell h0
 have c1 := hx.cell h1
 exact Does.val (by simp [execOp, Act.eval, ho, he, go_sem, c0, c1]) rfl
theorem ld_Rat {T : Nat} {l : List Value} {a0 a1 a2 a3 : Value} (ho : o.op = .load 26 (.tmp d)) (he : a.eval (.tmp d) = .pointer (some ⟨g, off, none⟩)) (hx : Bx wx g T l) (h0 : l[off]? = some a0) (h1 : l[off + 1]? = some a1) (h2 : l[off + 2]? = some a2) (h3 : l[off + 3]? = some a3) : Does Try.prog o (SC (.agg #[a0, a1, a2, a3])) false a wx := by
 simp [Act.eval] at he
 have c0 := hx.cell h0
 have c1 := hx.cell h1
 have c2 := hx.cell h2
 have c3 := hx.cell h3
 exact Does.val (by simp [execOp, Act.eval, ho, he, go_sem, c0, c1, c2, c3]) rfl
theorem ld_Vec {T : Nat} {l : List Value} {a0 a1 a2 a3 a4 a5 a6 a7 : Value} (ho : o.op = .load 28 (.tmp d)) (he : a.eval (.tmp d) = .pointer (some ⟨g, off, none⟩)) (hx : Bx wx g T l) (h0 : l[off]? = some a0) (h1 : l[off + 1]? = some a1) (h2 : l[off + 2]? = some a2) (h3 : l[off + 3]? = some a3) (h4 : l[off + 4]? = some a4) (h5 : l[off + 5]? = some a5) (h6 : l[off + 6]? = some a6) (h7 : l[off + 7]? = some a7) : Does Try.prog o (SC (.agg #[a0, a1, a2, a3, a4, a5, a6, a7])) false a wx := by
 simp [Act.eval] at he
 have c0 := hx.cell h0
 have c1 := hx.cell h1
 have c2 := hx.cell h2
 have c3 := hx.cell h3
 have c4 := hx.cell h4
 have c5 := hx.cell h5
 have c6 := hx.cell h6
 have c7 := hx.cell h7
 exact Does.val (by simp [execOp, Act.eval, ho, he, go_sem, c0, c1, c2, c3, c4, c5, c6, c7]) rfl
theorem ld_Turn {T : Nat} {l : List Value} {a0 a1 a2 a3 a4 a5 a6 a7 : Value} (ho : o.op = .load 31 (.tmp d)) (he : a.eval (.tmp d) = .pointer (some ⟨g, off, none⟩)) (hx : Bx wx g T l) (h0 : l[off]? = some a0) (h1 : l[off + 1]? = some a1) (h2 : l[off + 2]? = some a2) (h3 : l[off + 3]? = some a3) (h4 : l[off + 4]? = some a4) (h5 : l[off + 5]? = some a5) (h6 : l[off + 6]? = some a6) (h7 : l[off + 7]? = some a7) : Does Try.prog o (SC (.agg #[a0, a1, a2, a3, a4, a5, a6, a7])) false a wx := by
 simp [Act.eval] at he
 have c0 := hx.cell h0
 have c1 := hx.cell h1
 have c2 := hx.cell h2
 have c3 := hx.cell h3
 have c4 := hx.cell h4
 have c5 := hx.cell h5
 have c6 := hx.cell h6
 have c7 := hx.cell h7
 exact Does.val (by simp [execOp, Act.eval, ho, he, go_sem, c0, c1, c2, c3, c4, c5, c6, c7]) rfl
theorem ld_Place {T : Nat} {l : List Value} {a0 a1 a2 a3 a4 a5 a6 a7 a8 a9 a10 a11 a12 a13 a14 a15 : Value} (ho : o.op = .load 62 (.tmp d)) (he : a.eval (.tmp d) = .pointer (some ⟨g, off, none⟩)) (hx : Bx wx g T l) (h0 : l[off]? = some a0) (h1 : l[off + 1]? = some a1) (h2 : l[off + 2]? = some a2) (h3 : l[off + 3]? = some a3) (h4 : l[off + 4]? = some a4) (h5 : l[off + 5]? = some a5) (h6 : l[off + 6]? = some a6) (h7 : l[off + 7]? = some a7) (h8 : l[off + 8]? = some a8) (h9 : l[off + 9]? = some a9) (h10 : l[off + 10]? = some a10) (h11 : l[off + 11]? = some a11) (h12 : l[off + 12]? = some a12) (h13 : l[off + 13]? = some a13) (h14 : l[off + 14]? = some a14) (h15 : l[off + 15]? = some a15) : Does Try.prog o (SC (.agg #[a0, a1, a2, a3, a4, a5, a6, a7, a8, a9, a10, a11, a12, a13, a14, a15])) false a wx := by
 simp [Act.eval] at he
 have c0 := hx.cell h0
 have c1 := hx.cell h1
 have c2 := hx.cell h2
 have c3 := hx.cell h3
 have c4 := hx.cell h4
 have c5 := hx.cell h5
 have c6 := hx.cell h6
 have c7 := hx.cell h7
 have c8 := hx.cell h8
 have c9 := hx.cell h9
 have c10 := hx.cell h10
 have c11 := hx.cell h11
 have c12 := hx.cell h12
 have c13 := hx.cell h13
 have c14 := hx.cell h14
 have c15 := hx.cell h15
 exact Does.val (by simp [execOp, Act.eval, ho, he, go_sem, c0, c1, c2, c3, c4, c5, c6, c7, c8, c9, c10, c11, c12, c13, c14, c15]) rfl
theorem call0 {P : Program} {f : FuncId} {ts : Array TypeId} (ho : o.op = .call { callee := .value (.func f), args := #[], argTypes := ts }) (hf : ∀ vs, (callFunc f vs).run P wx = .ok (.enter f vs) wx) :
  (execOp a.eval o).run P wx = .ok (.enter f #[]) wx := by
 have h : ∀ ρ : Operand → Value, ρ (.func f) = .func (.func f) #[] #[] → (execOp ρ o).run P wx = .ok (.enter f #[]) wx := by
  intro ρ ef
  simp [execOp, ho, ef, go_sem, hf]
 exact h a.eval rfl
theorem call1 {P : Program} {f : FuncId} {ts : Array TypeId} {x0 : Operand} {v0 : Value} (ho : o.op = .call { callee := .value (.func f), args := #[x0], argTypes := ts }) (hf : ∀ vs, (callFunc f vs).run P wx = .ok (.enter f vs) wx) (e0 : a.eval x0 = v0) :
  (execOp a.eval o).run P wx = .ok (.enter f #[v0]) wx := by
 have h : ∀ ρ : Operand → Value, ρ (.func f) = .func (.func f) #[] #[] → ρ x0 = v0 → (execOp ρ o).run P wx = .ok (.enter f #[v0]) wx := by
  intro ρ ef e0
  simp [execOp, ho, ef, e0, go_sem, hf]
 exact h a.eval rfl e0
theorem call2 {P : Program} {f : FuncId} {ts : Array TypeId} {x0 x1 : Operand} {v0 v1 : Value} (ho : o.op = .call { callee := .value (.func f), args := #[x0, x1], argTypes := ts }) (hf : ∀ vs, (callFunc f vs).run P wx = .ok (.enter f vs) wx) (e0 : a.eval x0 = v0) (e1 : a.eval x1 = v1) :
  (execOp a.eval o).run P wx = .ok (.enter f #[v0, v1]) wx := by
 have h : ∀ ρ : Operand → Value, ρ (.func f) = .func (.func f) #[] #[] → ρ x0 = v0 → ρ x1 = v1 → (execOp ρ o).run P wx = .ok (.enter f #[v0, v1]) wx := by
  intro ρ ef e0 e1
  simp [execOp, ho, ef, e0, e1, go_sem, hf]
 exact h a.eval rfl e0 e1
theorem call3 {P : Program} {f : FuncId} {ts : Array TypeId} {x0 x1 x2 : Operand} {v0 v1 v2 : Value} (ho : o.op = .call { callee := .value (.func f), args := #[x0, x1, x2], argTypes := ts }) (hf : ∀ vs, (callFunc f vs).run P wx = .ok (.enter f vs) wx) (e0 : a.eval x0 = v0) (e1 : a.eval x1 = v1) (e2 : a.eval x2 = v2) :
  (execOp a.eval o).run P wx = .ok (.enter f #[v0, v1, v2]) wx := by
 have h : ∀ ρ : Operand → Value, ρ (.func f) = .func (.func f) #[] #[] → ρ x0 = v0 → ρ x1 = v1 → ρ x2 = v2 → (execOp ρ o).run P wx = .ok (.enter f #[v0, v1, v2]) wx := by
  intro ρ ef e0 e1 e2
  simp [execOp, ho, ef, e0, e1, e2, go_sem, hf]
 exact h a.eval rfl e0 e1 e2
end
end Go.Proofs.Ytonkbckgbfcnkaa
