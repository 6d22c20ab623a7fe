/-
 WHAT SINGLE OPERATIONS YIELD: field addresses and loads.
-/
import Derived.Test.YtgdibcgphjmofaaLnkJ
namespace Go.Proofs.Ytgdibcgphjmofaa
open Go.RowKit
set_option linter.unusedVariables false
section
variable {o : Oper} {a : Act} {wx : World} {x : Operand} {g off : Nat}
theorem fa_link_End_0 (ho : o.op = .fieldAddr 65 x 0) (he : a.eval x = .pointer (some ⟨g, off, none⟩)) : Does Try.prog o (SC (.pointer (some ⟨g, off + 0, none⟩))) false a wx := by
 have h : ∀ ρ : Operand → Value, ρ x = .pointer (some ⟨g, off, none⟩) → (execOp ρ o).run Try.prog wx = .ok (.value (.pointer (some ⟨g, off + 0, none⟩))) wx := by
  intro ρ e; simp [execOp, ho, e, go_sem]
 exact Does.val (h _ he) rfl
theorem fa_link_End_1 (ho : o.op = .fieldAddr 65 x 1) (he : a.eval x = .pointer (some ⟨g, off, none⟩)) : Does Try.prog o (SC (.pointer (some ⟨g, off + 1, none⟩))) false a wx := by
 have h : ∀ ρ : Operand → Value, ρ x = .pointer (some ⟨g, off, none⟩) → (execOp ρ o).run Try.prog wx = .ok (.value (.pointer (some ⟨g, off + 1, none⟩))) wx := by
  intro ρ e; simp [execOp, ho, e, go_sem]
 exact Does.val (h _ he) rfl
theorem fa_link_End_2 (ho : o.op = .fieldAddr 65 x 2) (he : a.eval x = .pointer (some ⟨g, off, none⟩)) : Does Try.prog o (SC (.pointer (some ⟨g, off + 2, none⟩))) false a wx := by
 have h : ∀ ρ : Operand → Value, ρ x = .pointer (some ⟨g, off, none⟩) → (execOp ρ o).run Try.prog wx = .ok (.value (.pointer (some ⟨g, off + 2, none⟩))) wx := by
  intro ρ e; simp [execOp, ho, e, go_sem]
 exact Does.val (h _ he) rfl
theorem fa_link_End_3 (ho : o.op = .fieldAddr 65 x 3) (he : a.eval x = .pointer (some ⟨g, off, none⟩)) : Does Try.prog o (SC (.pointer (some ⟨g, off + 3, none⟩))) false a wx := by
 have h : ∀ ρ : Operand → Value, ρ x = .pointer (some ⟨g, off, none⟩) → (execOp ρ o).run Try.prog wx = .ok (.value (.pointer (some ⟨g, off + 3, none⟩))) wx := by
  intro ρ e; simp [execOp, ho, e, go_sem]
 exact Does.val (h _ he) rfl
theorem fa_link_End_4 (ho : o.op = .fieldAddr 65 x 4) (he : a.eval x = .pointer (some ⟨g, off, none⟩)) : Does Try.prog o (SC (.pointer (some ⟨g, off + 4, none⟩))) false a wx := by
 have h : ∀ ρ : Operand → Value, ρ x = .pointer (some ⟨g, off, none⟩) → (execOp ρ o).run Try.prog wx = .ok (.value (.pointer (some ⟨g, off + 4, none⟩))) wx := by
  intro ρ e; simp [execOp, ho, e, go_sem]
 exact Does.val (h _ he) rfl
theorem fa_link_End_5 (ho : o.op = .fieldAddr 65 x 5) (he : a.eval x = .pointer (some ⟨g, off, none⟩)) : Does Try.prog o (SC (.pointer (some ⟨g, off + 5, none⟩))) false a wx := by
 have h : ∀ ρ : Operand → Value, ρ x = .pointer (some ⟨g, off, none⟩) → (execOp ρ o).run Try.prog wx = .ok (.value (.pointer (some ⟨g, off + 5, none⟩))) wx := by
  intro ρ e; simp [execOp, ho, e, go_sem]
 exact Does.val (h _ he) rfl
theorem fa_link_End_6 (ho : o.op = .fieldAddr 65 x 6) (he : a.eval x = .pointer (some ⟨g, off, none⟩)) : Does Try.prog o (SC (.pointer (some ⟨g, off + 6, none⟩))) false a wx := by
 have h : ∀ ρ : Operand → Value, ρ x = .pointer (some ⟨g, off, none⟩) → (execOp ρ o).run Try.prog wx = .ok (.value (.pointer (some ⟨g, off + 6, none⟩))) wx := by
  intro ρ e; simp [execOp, ho, e, go_sem]
 exact Does.val (h _ he) rfl
theorem fa_link_End_7 (ho : o.op = .fieldAddr 65 x 7) (he : a.eval x = .pointer (some ⟨g, off, none⟩)) : Does Try.prog o (SC (.pointer (some ⟨g, off + 7, none⟩))) false a wx := by
 have h : ∀ ρ : Operand → Value, ρ x = .pointer (some ⟨g, off, none⟩) → (execOp ρ o).run Try.prog wx = .ok (.value (.pointer (some ⟨g, off + 7, none⟩))) wx := by
  intro ρ e; simp [execOp, ho, e, go_sem]
 exact Does.val (h _ he) rfl
theorem fa_sherdref37_End_0 (ho : o.op = .fieldAddr 31 x 0) (he : a.eval x = .pointer (some ⟨g, off, none⟩)) : Does Try.prog o (SC (.pointer (some ⟨g, off + 0, none⟩))) false a wx := by
 have h : ∀ ρ : Operand → Value, ρ x = .pointer (some ⟨g, off, none⟩) → (execOp ρ o).run Try.prog wx = .ok (.value (.pointer (some ⟨g, off + 0, none⟩))) wx := by
  intro ρ e; simp [execOp, ho, e, go_sem]
 exact Does.val (h _ he) rfl
theorem fa_sherdref37_End_1 (ho : o.op = .fieldAddr 31 x 1) (he : a.eval x = .pointer (some ⟨g, off, none⟩)) : Does Try.prog o (SC (.pointer (some ⟨g, off + 1, none⟩))) false a wx := by
 have h : ∀ ρ : Operand → Value, ρ x = .pointer (some ⟨g, off, none⟩) → (execOp ρ o).run Try.prog wx = .ok (.value (.pointer (some ⟨g, off + 1, none⟩))) wx := by
  intro ρ e; simp [execOp, ho, e, go_sem]
 exact Does.val (h _ he) rfl
theorem fa_sherdref37_End_2 (ho : o.op = .fieldAddr 31 x 2) (he : a.eval x = .pointer (some ⟨g, off, none⟩)) : Does Try.prog o (SC (.pointer (some ⟨g, off + 2, none⟩))) false a wx := by
 have h : ∀ ρ : Operand → Value, ρ x = .pointer (some ⟨g, off, none⟩) → (execOp ρ o).run Try.prog wx = .ok (.value (.pointer (some ⟨g, off + 2, none⟩))) wx := by
  intro ρ e; simp [execOp, ho, e, go_sem]
 exact Does.val (h _ he) rfl
theorem fa_sherdref37_End_3 (ho : o.op = .fieldAddr 31 x 3) (he : a.eval x = .pointer (some ⟨g, off, none⟩)) : Does Try.prog o (SC (.pointer (some ⟨g, off + 3, none⟩))) false a wx := by
 have h : ∀ ρ : Operand → Value, ρ x = .pointer (some ⟨g, off, none⟩) → (execOp ρ o).run Try.prog wx = .ok (.value (.pointer (some ⟨g, off + 3, none⟩))) wx := by
  intro ρ e; simp [execOp, ho, e, go_sem]
 exact Does.val (h _ he) rfl
theorem fa_sherdref37_End_4 (ho : o.op = .fieldAddr 31 x 4) (he : a.eval x = .pointer (some ⟨g, off, none⟩)) : Does Try.prog o (SC (.pointer (some ⟨g, off + 4, none⟩))) false a wx := by
 have h : ∀ ρ : Operand → Value, ρ x = .pointer (some ⟨g, off, none⟩) → (execOp ρ o).run Try.prog wx = .ok (.value (.pointer (some ⟨g, off + 4, none⟩))) wx := by
  intro ρ e; simp [execOp, ho, e, go_sem]
 exact Does.val (h _ he) rfl
theorem fa_sherdref37_End_5 (ho : o.op = .fieldAddr 31 x 5) (he : a.eval x = .pointer (some ⟨g, off, none⟩)) : Does Try.prog o (SC (.pointer (some ⟨g, off + 5, none⟩))) false a wx := by
 have h : ∀ ρ : Operand → Value, ρ x = .pointer (some ⟨g, off, none⟩) → (execOp ρ o).run Try.prog wx = .ok (.value (.pointer (some ⟨g, off + 5, none⟩))) wx := by
  intro ρ e; simp [execOp, ho, e, go_sem]
 exact Does.val (h _ he) rfl
theorem fa_sherdref37_End_6 (ho : o.op = .fieldAddr 31 x 6) (he : a.eval x = .pointer (some ⟨g, off, none⟩)) : Does Try.prog o (SC (.pointer (some ⟨g, off + 6, none⟩))) false a wx := by
 have h : ∀ ρ : Operand → Value, ρ x = .pointer (some ⟨g, off, none⟩) → (execOp ρ o).run Try.prog wx = .ok (.value (.pointer (some ⟨g, off + 6, none⟩))) wx := by
  intro ρ e; simp [execOp, ho, e, go_sem]
 exact Does.val (h _ he) rfl
theorem fa_sherdref37_End_7 (ho : o.op = .fieldAddr 31 x 7) (he : a.eval x = .pointer (some ⟨g, off, none⟩)) : Does Try.prog o (SC (.pointer (some ⟨g, off + 7, none⟩))) false a wx := by
 have h : ∀ ρ : Operand → Value, ρ x = .pointer (some ⟨g, off, none⟩) → (execOp ρ o).run Try.prog wx = .ok (.value (.pointer (some ⟨g, off + 7, none⟩))) wx := by
  intro ρ e; simp [execOp, ho, e, go_sem]
 exact Does.val (h _ he) rfl
theorem fa_sherdref37_Held_0 (ho : o.op = .fieldAddr 78 x 0) (he : a.eval x = .pointer (some ⟨g, off, none⟩)) : Does Try.prog o (SC (.pointer (some ⟨g, off + 0, none⟩))) false a wx := by
 have h : ∀ ρ : Operand → Value, ρ x = .pointer (some ⟨g, off, none⟩) → (execOp ρ o).run Try.prog wx = .ok (.value (.pointer (some ⟨g, off + 0, none⟩))) wx := by
  intro ρ e; simp [execOp, ho, e, go_sem]
 exact Does.val (h _ he) rfl
theorem fa_sherdref37_Held_1 (ho : o.op = .fieldAddr 78 x 1) (he : a.eval x = .pointer (some ⟨g, off, none⟩)) : Does Try.prog o (SC (.pointer (some ⟨g, off + 1, none⟩))) false a wx := by
 have h : ∀ ρ : Operand → Value, ρ x = .pointer (some ⟨g, off, none⟩) → (execOp ρ o).run Try.prog wx = .ok (.value (.pointer (some ⟨g, off + 1, none⟩))) wx := by
  intro ρ e; simp [execOp, ho, e, go_sem]
 exact Does.val (h _ he) rfl
theorem fa_sherdref37_Packet_0 (ho : o.op = .fieldAddr 43 x 0) (he : a.eval x = .pointer (some ⟨g, off, none⟩)) : Does Try.prog o (SC (.pointer (some ⟨g, off + 0, none⟩))) false a wx := by
 have h : ∀ ρ : Operand → Value, ρ x = .pointer (some ⟨g, off, none⟩) → (execOp ρ o).run Try.prog wx = .ok (.value (.pointer (some ⟨g, off + 0, none⟩))) wx := by
  intro ρ e; simp [execOp, ho, e, go_sem]
 exact Does.val (h _ he) rfl
theorem fa_sherdref37_Packet_1 (ho : o.op = .fieldAddr 43 x 1) (he : a.eval x = .pointer (some ⟨g, off, none⟩)) : Does Try.prog o (SC (.pointer (some ⟨g, off + 1, none⟩))) false a wx := by
 have h : ∀ ρ : Operand → Value, ρ x = .pointer (some ⟨g, off, none⟩) → (execOp ρ o).run Try.prog wx = .ok (.value (.pointer (some ⟨g, off + 1, none⟩))) wx := by
  intro ρ e; simp [execOp, ho, e, go_sem]
 exact Does.val (h _ he) rfl
theorem fa_sherdref37_Packet_2 (ho : o.op = .fieldAddr 43 x 2) (he : a.eval x = .pointer (some ⟨g, off, none⟩)) : Does Try.prog o (SC (.pointer (some ⟨g, off + 2, none⟩))) false a wx := by
 have h : ∀ ρ : Operand → Value, ρ x = .pointer (some ⟨g, off, none⟩) → (execOp ρ o).run Try.prog wx = .ok (.value (.pointer (some ⟨g, off + 2, none⟩))) wx := by
  intro ρ e; simp [execOp, ho, e, go_sem]
 exact Does.val (h _ he) rfl
theorem ld_____uint8 {T : Nat} {l : List Value} {v0 : Value} (ho : o.op = .load 28 x) (he : a.eval x = .pointer (some ⟨g, off, none⟩)) (hx : Bx wx g T l) (h0 : l[off]? = some v0) : Does Try.prog o (SC (v0)) false a wx := by
 have c0 := hx.cell h0
 have h : ∀ ρ : Operand → Value, ρ x = .pointer (some ⟨g, off, none⟩) → (execOp ρ o).run Try.prog wx = .ok (.value (v0)) wx := by
  intro ρ e; simp [execOp, ho, e, go_sem, c0]
 exact Does.val (h _ he) rfl
theorem ld___sherdref37_Held {T : Nat} {l : List Value} {v0 : Value} (ho : o.op = .load 29 x) (he : a.eval x = .pointer (some ⟨g, off, none⟩)) (hx : Bx wx g T l) (h0 : l[off]? = some v0) : Does Try.prog o (SC (v0)) false a wx := by
 have c0 := hx.cell h0
 have h : ∀ ρ : Operand → Value, ρ x = .pointer (some ⟨g, off, none⟩) → (execOp ρ o).run Try.prog wx = .ok (.value (v0)) wx := by
  intro ρ e; simp [execOp, ho, e, go_sem, c0]
 exact Does.val (h _ he) rfl
theorem ld_bool {T : Nat} {l : List Value} {v0 : Value} (ho : o.op = .load 4 x) (he : a.eval x = .pointer (some ⟨g, off, none⟩)) (hx : Bx wx g T l) (h0 : l[off]? = some v0) : Does Try.prog o (SC (v0)) false a wx := by
 have c0 := hx.cell h0
 have h : ∀ ρ : Operand → Value, ρ x = .pointer (some ⟨g, off, none⟩) → (execOp ρ o).run Try.prog wx = .ok (.value (v0)) wx := by
  intro ρ e; simp [execOp, ho, e, go_sem, c0]
 exact Does.val (h _ he) rfl
theorem ld_link_End {T : Nat} {l : List Value} {v0 v1 v2 v3 v4 v5 v6 v7 : Value} (ho : o.op = .load 65 x) (he : a.eval x = .pointer (some ⟨g, off, none⟩)) (hx : Bx wx g T l) (h0 : l[off]? = some v0) (h1 : l[off + 1]? = some v1) (h2 : l[off + 2]? = some v2) (h3 : l[off + 3]? = some v3) (h4 : l[off + 4]? = some v4) (h5 : l[off + 5]? = some v5) (h6 : l[off + 6]? = some v6) (h7 : l[off + 7]? = some v7) : Does Try.prog o (SC (.agg #[v0, v1, v2, v3, v4, v5, v6, v7])) false a wx := by
 have c0 := hx.cell h0
 have c1 := hx.cell h1
 have c2 := hx.cell h2
 have c3 := hx.cell h3
 have c4 := hx.cell h4
 have c5 := hx.cell h5
 have c6 := hx.cell h6
 have c7 := hx.cell h7
 have h : ∀ ρ : Operand → Value, ρ x = .pointer (some ⟨g, off, none⟩) → (execOp ρ o).run Try.prog wx = .ok (.value (.agg #[v0, v1, v2, v3, v4, v5, v6, v7])) wx := by
  intro ρ e; simp [execOp, ho, e, go_sem, c0, c1, c2, c3, c4, c5, c6, c7]
 exact Does.val (h _ he) rfl
theorem ld_link_packet {T : Nat} {l : List Value} {v0 v1 v2 : Value} (ho : o.op = .load 68 x) (he : a.eval x = .pointer (some ⟨g, off, none⟩)) (hx : Bx wx g T l) (h0 : l[off]? = some v0) (h1 : l[off + 1]? = some v1) (h2 : l[off + 2]? = some v2) : Does Try.prog o (SC (.agg #[v0, v1, v2])) false a wx := by
 have c0 := hx.cell h0
 have c1 := hx.cell h1
 have c2 := hx.cell h2
 have h : ∀ ρ : Operand → Value, ρ x = .pointer (some ⟨g, off, none⟩) → (execOp ρ o).run Try.prog wx = .ok (.value (.agg #[v0, v1, v2])) wx := by
  intro ρ e; simp [execOp, ho, e, go_sem, c0, c1, c2]
 exact Does.val (h _ he) rfl
theorem ld_map_int___uint8 {T : Nat} {l : List Value} {v0 : Value} (ho : o.op = .load 63 x) (he : a.eval x = .pointer (some ⟨g, off, none⟩)) (hx : Bx wx g T l) (h0 : l[off]? = some v0) : Does Try.prog o (SC (v0)) false a wx := by
 have c0 := hx.cell h0
 have h : ∀ ρ : Operand → Value, ρ x = .pointer (some ⟨g, off, none⟩) → (execOp ρ o).run Try.prog wx = .ok (.value (v0)) wx := by
  intro ρ e; simp [execOp, ho, e, go_sem, c0]
 exact Does.val (h _ he) rfl
theorem ld_sherdref37_End {T : Nat} {l : List Value} {v0 v1 v2 v3 v4 v5 v6 v7 : Value} (ho : o.op = .load 31 x) (he : a.eval x = .pointer (some ⟨g, off, none⟩)) (hx : Bx wx g T l) (h0 : l[off]? = some v0) (h1 : l[off + 1]? = some v1) (h2 : l[off + 2]? = some v2) (h3 : l[off + 3]? = some v3) (h4 : l[off + 4]? = some v4) (h5 : l[off + 5]? = some v5) (h6 : l[off + 6]? = some v6) (h7 : l[off + 7]? = some v7) : Does Try.prog o (SC (.agg #[v0, v1, v2, v3, v4, v5, v6, v7])) false a wx := by
 have c0 := hx.cell h0
 have c1 := hx.cell h1
 have c2 := hx.cell h2
 have c3 := hx.cell h3
 have c4 := hx.cell h4
 have c5 := hx.cell h5
 have c6 := hx.cell h6
 have c7 := hx.cell h7
 have h : ∀ ρ : Operand → Value, ρ x = .pointer (some ⟨g, off, none⟩) → (execOp ρ o).run Try.prog wx = .ok (.value (.agg #[v0, v1, v2, v3, v4, v5, v6, v7])) wx := by
  intro ρ e; simp [execOp, ho, e, go_sem, c0, c1, c2, c3, c4, c5, c6, c7]
 exact Does.val (h _ he) rfl
theorem ld_sherdref37_Packet {T : Nat} {l : List Value} {v0 v1 v2 : Value} (ho : o.op = .load 43 x) (he : a.eval x = .pointer (some ⟨g, off, none⟩)) (hx : Bx wx g T l) (h0 : l[off]? = some v0) (h1 : l[off + 1]? = some v1) (h2 : l[off + 2]? = some v2) : Does Try.prog o (SC (.agg #[v0, v1, v2])) false a wx := by
 have c0 := hx.cell h0
 have c1 := hx.cell h1
 have c2 := hx.cell h2
 have h : ∀ ρ : Operand → Value, ρ x = .pointer (some ⟨g, off, none⟩) → (execOp ρ o).run Try.prog wx = .ok (.value (.agg #[v0, v1, v2])) wx := by
  intro ρ e; simp [execOp, ho, e, go_sem, c0, c1, c2]
 exact Does.val (h _ he) rfl
theorem ld_uint64 {T : Nat} {l : List Value} {v0 : Value} (ho : o.op = .load 22 x) (he : a.eval x = .pointer (some ⟨g, off, none⟩)) (hx : Bx wx g T l) (h0 : l[off]? = some v0) : Does Try.prog o (SC (v0)) false a wx := by
 have c0 := hx.cell h0
 have h : ∀ ρ : Operand → Value, ρ x = .pointer (some ⟨g, off, none⟩) → (execOp ρ o).run Try.prog wx = .ok (.value (v0)) wx := by
  intro ρ e; simp [execOp, ho, e, go_sem, c0]
 exact Does.val (h _ he) rfl
end
end Go.Proofs.Ytgdibcgphjmofaa
