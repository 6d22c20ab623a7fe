/-
 STRUCTS IN BOXES: alloc and store of a whole struct, with a new name for the world behind them.
-/
import Derived.Test.YtonkbckgbfcnkaaDo
namespace Go.Proofs.Ytonkbckgbfcnkaa
set_option maxHeartbeats 4000000
open Go.RowKit
attribute [local go_sem] run_store_one
set_option linter.unusedSimpArgs false
/-- Only block g was written. -/
def StTo (w : World) (g : Nat) (w' : World) : Prop := Kp w w' ∧ (∀ B u, B ≤ g → Below B u w → Below B u w') ∧ (∀ g' T l, g' ≠ g → Bx w g' T l → Bx w' g' T l)
section
variable {P : Program} {ops : Array Oper} {Q : Exit → Act → World → Prop} {a : Act} {w : World} {rest : List Oper} {o : Oper}
theorem wl_val {v : Value} {w' : World} (hg : o.guard = none) (hr : (execOp a.eval o).run P w = .ok (.value v) w') (h : wpList P ops Q rest (a.put o.dst v) w') : wpList P ops Q (o :: rest) a w :=
 wpList_plain hg fun K hK => by unfold Oper.wp; rw [hr]; exact hK _ _ h
theorem wl_skip {w' : World} (hg : o.guard = none) (hd : o.dst = none) (hr : (execOp a.eval o).run P w = .ok .skip w') (h : wpList P ops Q rest a w') : wpList P ops Q (o :: rest) a w :=
 wpList_plain hg fun K hK => by unfold Oper.wp; rw [hr]; show K (a.put o.dst undef) w'; rw [hd]; exact hK _ _ h
end
theorem st_Int {a : Act} {w : World} {o : Oper} {g : Nat} {p x : Operand} {x0 x1 l0 l1 : Value} (ho : o.op = .store 24 p x) (hp : a.eval p = .pointer (some ⟨g, 0, none⟩)) (hv : a.eval x = .agg #[x0, x1]) (hx : Bx w g 24 [l0, l1]) (o0 : x0.oneCell' = true) (o1 : x1.oneCell' = true) :
  ∃ w', (execOp a.eval o).run Try.prog w = .ok .skip w' ∧ Bx w' g 24 [x0, x1] ∧ StTo w g w' := by
 have c0 := hx.cell (i := 0) rfl
 have c1 := hx.cell (i := 1) rfl
 have hfr := hx.frozen
 have y0 := hx.set_ 0 x0
 have y1 := y0.set_ 1 x1
 refine ⟨((w.setCell ⟨g, 0, none⟩ x0).setCell ⟨g, 1, none⟩ x1), ?_, y1, ((Kp.refl w).set_ hx (by decide) _).set_ y0 (by decide) _, fun B u hB hb => ((hb).setCell hB _).setCell hB _, fun g' T l hn hg => ((hg).far_ (g' := g) (j := 0) hn x0).far_ (g' := g) (j := 1) hn x1⟩
 clear y0 y1
 cases o with
 | mk dst op type pos after guard =>
 simp only at ho
 subst ho
 revert hp hv
 generalize a.eval = E
 intro hp hv
 simp [execOp, hp, hv, go_sem, hfr, c0, o0, c1, o1]
theorem wst_Int {ops : Array Oper} {Q : Exit → Act → World → Prop} {a : Act} {w : World} {rest : List Oper} {o : Oper} {g : Nat} {p x : Operand} {x0 x1 l0 l1 : Value} (hg : o.guard = none) (hd : o.dst = none) (ho : o.op = .store 24 p x) (hp : a.eval p = .pointer (some ⟨g, 0, none⟩)) (hv : a.eval x = .agg #[x0, x1]) (hx : Bx w g 24 [l0, l1]) (o0 : x0.oneCell' = true) (o1 : x1.oneCell' = true)
  (h : ∀ w', Bx w' g 24 [x0, x1] → StTo w g w' → wpList Try.prog ops Q rest a w') : wpList Try.prog ops Q (o :: rest) a w := by
 obtain ⟨w', hr, h1, h2⟩ := st_Int ho hp hv hx o0 o1
 exact wl_skip hg hd hr (h w' h1 h2)
theorem new_Int {ops : Array Oper} {Q : Exit → Act → World → Prop} {a : Act} {w : World} {rest : List Oper} {oa ob : Oper} {d k : Nat} {x0 x1 : Value} (hg : oa.guard = none) (hd : oa.dst = some d) (ho : oa.op = .alloc 24) (hg2 : ob.guard = none) (hd2 : ob.dst = none) (ho2 : ob.op = .store 24 (.tmp d) (.tmp k)) (hv : a.eval (.tmp k) = .agg #[x0, x1]) (hs : d < a.tmps.size) (hn : (k == d) = false) (o0 : x0.oneCell' = true) (o1 : x1.oneCell' = true)
  (h : ∀ w', Bx w' w.heap.size 24 [x0, x1] → Below w.heap.size w w' → wpList Try.prog ops Q rest (a.put (some d) (.pointer (some ⟨w.heap.size, 0, none⟩))) w') : wpList Try.prog ops Q (oa :: ob :: rest) a w := by
 have hr : (execOp a.eval oa).run Try.prog w = .ok (.value (.pointer (some ⟨w.heap.size, 0, none⟩))) (w.alloc (.cells #[.bool false, .slice none 0 0] 24)) := by
  cases oa with
  | mk dst op type pos after guard =>
  simp only at ho
  subst ho
  simp [execOp, go_sem]
 refine wl_val hg hr ?_
 rw [hd]
 have hb : Below w.heap.size w (w.alloc (.cells #[.bool false, .slice none 0 0] 24)) := (Below.refl _ _).alloc (Nat.le_refl _) _
 refine wst_Int (g := w.heap.size) hg2 hd2 ho2 ?_ ?_ (Bx.new w 24 [.bool false, .slice none 0 0]) o0 o1 ?_
 ·simp [Act.eval, Act.put, hs]
 ·rw [← hv]
  have hn : d ≠ k := fun e => by simp [e] at hn
  simp [Act.eval, Act.put, Array.getD_eq_getD_getElem?, Array.getElem?_setIfInBounds, hn]
 ·intro w' h1 h2
  exact h w' h1 (h2.2.1 _ _ (Nat.le_refl _) hb)
theorem st_Rat {a : Act} {w : World} {o : Oper} {g : Nat} {p x : Operand} {x0 x1 x2 x3 l0 l1 l2 l3 : Value} (ho : o.op = .store 26 p x) (hp : a.eval p = .pointer (some ⟨g, 0, none⟩)) (hv : a.eval x = .agg #[x0, x1, x2, x3]) (hx : Bx w g 26 [l0, l1, l2, l3]) (o0 : x0.oneCell' = true) (o1 : x1.oneCell' = true) (o2 : x2.oneCell' = true) (o3 : x3.oneCell' = true) :
  ∃ w', (execOp a.eval o).run Try.prog w = .ok .skip w' ∧ Bx w' g 26 [x0, x1, x2, x3] ∧ StTo w g w' := by
 have c0 := hx.cell (i := 0) rfl
 have c1 := hx.cell (i := 1) rfl
 have c2 := hx.cell (i := 2) rfl
 have c3 := hx.cell (i := 3) rfl
 have hfr := hx.frozen
 have y0 := hx.set_ 0 x0
 have y1 := y0.set_ 1 x1
 have y2 := y1.set_ 2 x2
 have y3 := y2.set_ 3 x3
 refine ⟨((((w.setCell ⟨g, 0, none⟩ x0).setCell ⟨g, 1, none⟩ x1).setCell ⟨g, 2, none⟩ x2).setCell ⟨g, 3, none⟩ x3), ?_, y3, ((((Kp.refl w).set_ hx (by decide) _).set_ y0 (by decide) _).set_ y1 (by decide) _).set_ y2 (by decide) _, fun B u hB hb => ((((hb).setCell hB _).setCell hB _).setCell hB _).setCell hB _, fun g' T l hn hg => ((((hg).far_ (g' := g) (j := 0) hn x0).far_ (g' := g) (j := 1) hn x1).far_ (g' := g) (j := 2) hn x2).far_ (g' := g) (j := 3) hn x3⟩
 clear y0 y1 y2 y3
 cases o with
 | mk dst op type pos after guard =>
 simp only at ho
 subst ho
 revert hp hv
 generalize a.eval = E
 intro hp hv
 simp [execOp, hp, hv, go_sem, hfr, c0, o0, c1, o1, c2, o2, c3, o3]
theorem wst_Rat {ops : Array Oper} {Q : Exit → Act → World → Prop} {a : Act} {w : World} {rest : List Oper} {o : Oper} {g : Nat} {p x : Operand} {x0 x1 x2 x3 l0 l1 l2 l3 : Value} (hg : o.guard = none) (hd : o.dst = none) (ho : o.op = .store 26 p x) (hp : a.eval p = .pointer (some ⟨g, 0, none⟩)) (hv : a.eval x = .agg #[x0, x1, x2, x3]) (hx : Bx w g 26 [l0, l1, l2, l3]) (o0 : x0.oneCell' = true) (o1 : x1.oneCell' = true) (o2 : x2.oneCell' = true) (o3 : x3.oneCell' = true)
  (h : ∀ w', Bx w' g 26 [x0, x1, x2, x3] → StTo w g w' → wpList Try.prog ops Q rest a w') : wpList Try.prog ops Q (o :: rest) a w := by
 obtain ⟨w', hr, h1, h2⟩ := st_Rat ho hp hv hx o0 o1 o2 o3
 exact wl_skip hg hd hr (h w' h1 h2)
theorem new_Rat {ops : Array Oper} {Q : Exit → Act → World → Prop} {a : Act} {w : World} {rest : List Oper} {oa ob : Oper} {d k : Nat} {x0 x1 x2 x3 : Value} (hg : oa.guard = none) (hd : oa.dst = some d) (ho : oa.op = .alloc 26) (hg2 : ob.guard = none) (hd2 : ob.dst = none) (ho2 : ob.op = .store 26 (.tmp d) (.tmp k)) (hv : a.eval (.tmp k) = .agg #[x0, x1, x2, x3]) (hs : d < a.tmps.size) (hn : (k == d) = false) (o0 : x0.oneCell' = true) (o1 : x1.oneCell' = true) (o2 : x2.oneCell' = true) (o3 : x3.oneCell' = true)
  (h : ∀ w', Bx w' w.heap.size 26 [x0, x1, x2, x3] → Below w.heap.size w w' → wpList Try.prog ops Q rest (a.put (some d) (.pointer (some ⟨w.heap.size, 0, none⟩))) w') : wpList Try.prog ops Q (oa :: ob :: rest) a w := by
 have hr : (execOp a.eval oa).run Try.prog w = .ok (.value (.pointer (some ⟨w.heap.size, 0, none⟩))) (w.alloc (.cells #[.bool false, .slice none 0 0, .bool false, .slice none 0 0] 26)) := by
  cases oa with
  | mk dst op type pos after guard =>
  simp only at ho
  subst ho
  simp [execOp, go_sem]
 refine wl_val hg hr ?_
 rw [hd]
 have hb : Below w.heap.size w (w.alloc (.cells #[.bool false, .slice none 0 0, .bool false, .slice none 0 0] 26)) := (Below.refl _ _).alloc (Nat.le_refl _) _
 refine wst_Rat (g := w.heap.size) hg2 hd2 ho2 ?_ ?_ (Bx.new w 26 [.bool false, .slice none 0 0, .bool false, .slice none 0 0]) o0 o1 o2 o3 ?_
 ·simp [Act.eval, Act.put, hs]
 ·rw [← hv]
  have hn : d ≠ k := fun e => by simp [e] at hn
  simp [Act.eval, Act.put, Array.getD_eq_getD_getElem?, Array.getElem?_setIfInBounds, hn]
 ·intro w' h1 h2
  exact h w' h1 (h2.2.1 _ _ (Nat.le_refl _) hb)
theorem st_Vec {a : Act} {w : World} {o : Oper} {g : Nat} {p x : Operand} {x0 x1 x2 x3 x4 x5 x6 x7 l0 l1 l2 l3 l4 l5 l6 l7 : Value} (ho : o.op = .store 28 p x) (hp : a.eval p = .pointer (some ⟨g, 0, none⟩)) (hv : a.eval x = .agg #[x0, x1, x2, x3, x4, x5, x6, x7]) (hx : Bx w g 28 [l0, l1, l2, l3, l4, l5, l6, l7]) (o0 : x0.oneCell' = true) (o1 : x1.oneCell' = true) (o2 : x2.oneCell' = true) (o3 : x3.oneCell' = true) (o4 : x4.oneCell' = true) (o5 : x5.oneCell' = true) (o6 : x6.oneCell' = true) (o7 : x7.oneCell' = true) :
  ∃ w', (execOp a.eval o).run Try.prog w = .ok .skip w' ∧ Bx w' g 28 [x0, x1, x2, x3, x4, x5, x6, x7] ∧ StTo w g w' := by
 have c0 := hx.cell (i := 0) rfl
 have c1 := hx.cell (i := 1) rfl
 have c2 := hx.cell (i := 2) rfl
 have c3 := hx.cell (i := 3) rfl
 have c4 := hx.cell (i := 4) rfl
 have c5 := hx.cell (i := 5) rfl
 have c6 := hx.cell (i := 6) rfl
 have c7 := hx.cell (i := 7) rfl
 have hfr := hx.frozen
 have y0 := hx.set_ 0 x0
 have y1 := y0.set_ 1 x1
 have y2 := y1.set_ 2 x2
 have y3 := y2.set_ 3 x3
 have y4 := y3.set_ 4 x4
 have y5 := y4.set_ 5 x5
 have y6 := y5.set_ 6 x6
 have y7 := y6.set_ 7 x7
 refine ⟨((((((((w.setCell ⟨g, 0, none⟩ x0).setCell ⟨g, 1, none⟩ x1).setCell ⟨g, 2, none⟩ x2).setCell ⟨g, 3, none⟩ x3).setCell ⟨g, 4, none⟩ x4).setCell ⟨g, 5, none⟩ x5).setCell ⟨g, 6, none⟩ x6).setCell ⟨g, 7, none⟩ x7), ?_, y7, ((((((((Kp.refl w).set_ hx (by decide) _).set_ y0 (by decide) _).set_ y1 (by decide) _).set_ y2 (by decide) _).set_ y3 (by decide) _).set_ y4 (by decide) _).set_ y5 (by decide) _).set_ y6 (by decide) _, fun B u hB hb => ((((((((hb).setCell hB _).setCell hB _).setCell hB _).setCell hB _).setCell hB _).setCell hB _).setCell hB _).setCell hB _, fun g' T l hn hg => ((((((((hg).far_ (g' := g) (j := 0) hn x0).far_ (g' := g) (j := 1) hn x1).far_ (g' := g) (j := 2) hn x2).far_ (g' := g) (j := 3) hn x3).far_ (g' := g) (j := 4) hn x4).far_ (g' := g) (j := 5) hn x5).far_ (g' := g) (j := 6) hn x6).far_ (g' := g) (j := 7) hn x7⟩
 clear y0 y1 y2 y3 y4 y5 y6 y7
 cases o with
 | mk dst op type pos after guard =>
 simp only at ho
 subst ho
 revert hp hv
 generalize a.eval = E
 intro hp hv
 simp [execOp, hp, hv, go_sem, hfr, c0, o0, c1, o1, c2, o2, c3, o3, c4, o4, c5, o5, c6, o6, c7, o7]
theorem wst_Vec {ops : Array Oper} {Q : Exit → Act → World → Prop} {a : Act} {w : World} {rest : List Oper} {o : Oper} {g : Nat} {p x : Operand} {x0 x1 x2 x3 x4 x5 x6 x7 l0 l1 l2 l3 l4 l5 l6 l7 : Value} (hg : o.guard = none) (hd : o.dst = none) (ho : o.op = .store 28 p x) (hp : a.eval p = .pointer (some ⟨g, 0, none⟩)) (hv : a.eval x = .agg #[x0, x1, x2, x3, x4, x5, x6, x7]) (hx : Bx w g 28 [l0, l1, l2, l3, l4, l5, l6, l7]) (o0 : x0.oneCell' = true) (o1 : x1.oneCell' = true) (o2 : x2.oneCell' = true) (o3 : x3.oneCell' = true) (o4 : x4.oneCell' = true) (o5 : x5.oneCell' = true) (o6 : x6.oneCell' = true) (o7 : x7.oneCell' = true)
  (h : ∀ w', Bx w' g 28 [x0, x1, x2, x3, x4, x5, x6, x7] → StTo w g w' → wpList Try.prog ops Q rest a w') : wpList Try.prog ops Q (o :: rest) a w := by
 obtain ⟨w', hr, h1, h2⟩ := st_Vec ho hp hv hx o0 o1 o2 o3 o4 o5 o6 o7
 exact wl_skip hg hd hr (h w' h1 h2)
theorem new_Vec {ops : Array Oper} {Q : Exit → Act → World → Prop} {a : Act} {w : World} {rest : List Oper} {oa ob : Oper} {d k : Nat} {x0 x1 x2 x3 x4 x5 x6 x7 : Value} (hg : oa.guard = none) (hd : oa.dst = some d) (ho : oa.op = .alloc 28) (hg2 : ob.guard = none) (hd2 : ob.dst = none) (ho2 : ob.op = .store 28 (.tmp d) (.tmp k)) (hv : a.eval (.tmp k) = .agg #[x0, x1, x2, x3, x4, x5, x6, x7]) (hs : d < a.tmps.size) (hn : (k == d) = false) (o0 : x0.oneCell' = true) (o1 : x1.oneCell' = true) (o2 : x2.oneCell' = true) (o3 : x3.oneCell' = true) (o4 : x4.oneCell' = true) (o5 : x5.oneCell' = true) (o6 : x6.oneCell' = true) (o7 : x7.oneCell' = true)
  (h : ∀ w', Bx w' w.heap.size 28 [x0, x1, x2, x3, x4, x5, x6, x7] → Below w.heap.size w w' → wpList Try.prog ops Q rest (a.put (some d) (.pointer (some ⟨w.heap.size, 0, none⟩))) w') : wpList Try.prog ops Q (oa :: ob :: rest) a w := by
 have hr : (execOp a.eval oa).run Try.prog w = .ok (.value (.pointer (some ⟨w.heap.size, 0, none⟩))) (w.alloc (.cells #[.bool false, .slice none 0 0, .bool false, .slice none 0 0, .bool false, .slice none 0 0, .bool false, .slice none 0 0] 28)) := by
  cases oa with
  | mk dst op type pos after guard =>
  simp only at ho
  subst ho
  simp [execOp, go_sem]
 refine wl_val hg hr ?_
 rw [hd]
 have hb : Below w.heap.size w (w.alloc (.cells #[.bool false, .slice none 0 0, .bool false, .slice none 0 0, .bool false, .slice none 0 0, .bool false, .slice none 0 0] 28)) := (Below.refl _ _).alloc (Nat.le_refl _) _
 refine wst_Vec (g := w.heap.size) hg2 hd2 ho2 ?_ ?_ (Bx.new w 28 [.bool false, .slice none 0 0, .bool false, .slice none 0 0, .bool false, .slice none 0 0, .bool false, .slice none 0 0]) o0 o1 o2 o3 o4 o5 o6 o7 ?_
 ·simp [Act.eval, Act.put, hs]
 ·rw [← hv]
  have hn : d ≠ k := fun e => by simp [e] at hn
  simp [Act.eval, Act.put, Array.getD_eq_getD_getElem?, Array.getElem?_setIfInBounds, hn]
 ·intro w' h1 h2
  exact h w' h1 (h2.2.1 _ _ (Nat.le_refl _) hb)
theorem st_Turn {a : Act} {w : World} {o : Oper} {g : Nat} {p x : Operand} {x0 x1 x2 x3 x4 x5 x6 x7 l0 l1 l2 l3 l4 l5 l6 l7 : Value} (ho : o.op = .store 31 p x) (hp : a.eval p = .pointer (some ⟨g, 0, none⟩)) (hv : a.eval x = .agg #[x0, x1, x2, x3, x4, x5, x6, x7]) (hx : Bx w g 31 [l0, l1, l2, l3, l4, l5, l6, l7]) (o0 : x0.oneCell' = true) (o1 : x1.oneCell' = true) (o2 : x2.oneCell' = true) (o3 : x3.oneCell' = true) (o4 : x4.oneCell' = true) (o5 : x5.oneCell' = true) (o6 : x6.oneCell' = true) (o7 : x7.oneCell' = true) :
  ∃ w', (execOp a.eval o).run Try.prog w = .ok .skip w' ∧ Bx w' g 31 [x0, x1, x2, x3, x4, x5, x6, x7] ∧ StTo w g w' := by
 have c0 := hx.cell (i := 0) rfl
 have c1 := hx.cell (i := 1) rfl
 have c2 := hx.cell (i := 2) rfl
 have c3 := hx.cell (i := 3) rfl
 have c4 := hx.cell (i := 4) rfl
 have c5 := hx.cell (i := 5) rfl
 have c6 := hx.cell (i := 6) rfl
 have c7 := hx.cell (i := 7) rfl
 have hfr := hx.frozen
 have y0 := hx.set_ 0 x0
 have y1 := y0.set_ 1 x1
 have y2 := y1.set_ 2 x2
 have y3 := y2.set_ 3 x3
 have y4 := y3.set_ 4 x4
 have y5 := y4.set_ 5 x5
 have y6 := y5.set_ 6 x6
 have y7 := y6.set_ 7 x7
 refine ⟨((((((((w.setCell ⟨g, 0, none⟩ x0).setCell ⟨g, 1, none⟩ x1).setCell ⟨g, 2, none⟩ x2).setCell ⟨g, 3, none⟩ x3).setCell ⟨g, 4, none⟩ x4).setCell ⟨g, 5, none⟩ x5).setCell ⟨g, 6, none⟩ x6).setCell ⟨g, 7, none⟩ x7), ?_, y7, ((((((((Kp.refl w).set_ hx (by decide) _).set_ y0 (by decide) _).set_ y1 (by decide) _).set_ y2 (by decide) _).set_ y3 (by decide) _).set_ y4 (by decide) _).set_ y5 (by decide) _).set_ y6 (by decide) _, fun B u hB hb => ((((((((hb).setCell hB _).setCell hB _).setCell hB _).setCell hB _).setCell hB _).setCell hB _).setCell hB _).setCell hB _, fun g' T l hn hg => ((((((((hg).far_ (g' := g) (j := 0) hn x0).far_ (g' := g) (j := 1) hn x1).far_ (g' := g) (j := 2) hn x2).far_ (g' := g) (j := 3) hn x3).far_ (g' := g) (j := 4) hn x4).far_ (g' := g) (j := 5) hn x5).far_ (g' := g) (j := 6) hn x6).far_ (g' := g) (j := 7) hn x7⟩
 clear y0 y1 y2 y3 y4 y5 y6 y7
 cases o with
 | mk dst op type pos after guard =>
 simp only at ho
 subst ho
 revert hp hv
 generalize a.eval = E
 intro hp hv
 simp [execOp, hp, hv, go_sem, hfr, c0, o0, c1, o1, c2, o2, c3, o3, c4, o4, c5, o5, c6, o6, c7, o7]
theorem wst_Turn {ops : Array Oper} {Q : Exit → Act → World → Prop} {a : Act} {w : World} {rest : List Oper} {o : Oper} {g : Nat} {p x : Operand} {x0 x1 x2 x3 x4 x5 x6 x7 l0 l1 l2 l3 l4 l5 l6 l7 : Value} (hg : o.guard = none) (hd : o.dst = none) (ho : o.op = .store 31 p x) (hp : a.eval p = .pointer (some ⟨g, 0, none⟩)) (hv : a.eval x = .agg #[x0, x1, x2, x3, x4, x5, x6, x7]) (hx : Bx w g 31 [l0, l1, l2, l3, l4, l5, l6, l7]) (o0 : x0.oneCell' = true) (o1 : x1.oneCell' = true) (o2 : x2.oneCell' = true) (o3 : x3.oneCell' = true) (o4 : x4.oneCell' = true) (o5 : x5.oneCell' = true) (o6 : x6.oneCell' = true) (o7 : x7.oneCell' = true)
  (h : ∀ w', Bx w' g 31 [x0, x1, x2, x3, x4, x5, x6, x7] → StTo w g w' → wpList Try.prog ops Q rest a w') : wpList Try.prog ops Q (o :: rest) a w := by
 obtain ⟨w', hr, h1, h2⟩ := st_Turn ho hp hv hx o0 o1 o2 o3 o4 o5 o6 o7
 exact wl_skip hg hd hr (h w' h1 h2)
theorem new_Turn {ops : Array Oper} {Q : Exit → Act → World → Prop} {a : Act} {w : World} {rest : List Oper} {oa ob : Oper} {d k : Nat} {x0 x1 x2 x3 x4 x5 x6 x7 : Value} (hg : oa.guard = none) (hd : oa.dst = some d) (ho : oa.op = .alloc 31) (hg2 : ob.guard = none) (hd2 : ob.dst = none) (ho2 : ob.op = .store 31 (.tmp d) (.tmp k)) (hv : a.eval (.tmp k) = .agg #[x0, x1, x2, x3, x4, x5, x6, x7]) (hs : d < a.tmps.size) (hn : (k == d) = false) (o0 : x0.oneCell' = true) (o1 : x1.oneCell' = true) (o2 : x2.oneCell' = true) (o3 : x3.oneCell' = true) (o4 : x4.oneCell' = true) (o5 : x5.oneCell' = true) (o6 : x6.oneCell' = true) (o7 : x7.oneCell' = true)
  (h : ∀ w', Bx w' w.heap.size 31 [x0, x1, x2, x3, x4, x5, x6, x7] → Below w.heap.size w w' → wpList Try.prog ops Q rest (a.put (some d) (.pointer (some ⟨w.heap.size, 0, none⟩))) w') : wpList Try.prog ops Q (oa :: ob :: rest) a w := by
 have hr : (execOp a.eval oa).run Try.prog w = .ok (.value (.pointer (some ⟨w.heap.size, 0, none⟩))) (w.alloc (.cells #[.bool false, .slice none 0 0, .bool false, .slice none 0 0, .bool false, .slice none 0 0, .bool false, .slice none 0 0] 31)) := by
  cases oa with
  | mk dst op type pos after guard =>
  simp only at ho
  subst ho
  simp [execOp, go_sem]
 refine wl_val hg hr ?_
 rw [hd]
 have hb : Below w.heap.size w (w.alloc (.cells #[.bool false, .slice none 0 0, .bool false, .slice none 0 0, .bool false, .slice none 0 0, .bool false, .slice none 0 0] 31)) := (Below.refl _ _).alloc (Nat.le_refl _) _
 refine wst_Turn (g := w.heap.size) hg2 hd2 ho2 ?_ ?_ (Bx.new w 31 [.bool false, .slice none 0 0, .bool false, .slice none 0 0, .bool false, .slice none 0 0, .bool false, .slice none 0 0]) o0 o1 o2 o3 o4 o5 o6 o7 ?_
 ·simp [Act.eval, Act.put, hs]
 ·rw [← hv]
  have hn : d ≠ k := fun e => by simp [e] at hn
  simp [Act.eval, Act.put, Array.getD_eq_getD_getElem?, Array.getElem?_setIfInBounds, hn]
 ·intro w' h1 h2
  exact h w' h1 (h2.2.1 _ _ (Nat.le_refl _) hb)
theorem st_Place {a : Act} {w : World} {o : Oper} {g : Nat} {p x : Operand} {x0 x1 x2 x3 x4 x5 x6 x7 x8 x9 x10 x11 x12 x13 x14 x15 l0 l1 l2 l3 l4 l5 l6 l7 l8 l9 l10 l11 l12 l13 l14 l15 : Value} (ho : o.op = .store 62 p x) (hp : a.eval p = .pointer (some ⟨g, 0, none⟩)) (hv : a.eval x = .agg #[x0, x1, x2, x3, x4, x5, x6, x7, x8, x9, x10, x11, x12, x13, x14, x15]) (hx : Bx w g 62 [l0, l1, l2, l3, l4, l5, l6, l7, l8, l9, l10, l11, l12, l13, l14, l15]) (o0 : x0.oneCell' = true) (o1 : x1.oneCell' = true) (o2 : x2.oneCell' = true) (o3 : x3.oneCell' = true) (o4 : x4.oneCell' = true) (o5 : x5.oneCell' = true) (o6 : x6.oneCell' = true) (o7 : x7.oneCell' = true) (o8 : x8.oneCell' = true) (o9 : x9.oneCell' = true) (o10 : x10.oneCell' = true) (o11 : x11.oneCell' = true) (o12 : x12.oneCell' = true) (o13 : x13.oneCell' = true) (o14 : x14.oneCell' = true) (o15 : x15.oneCell' = true) :
  ∃ w', (execOp a.eval o).run Try.prog w = .ok .skip w' ∧ Bx w' g 62 [x0, x1, x2, x3, x4, x5, x6, x7, x8, x9, x10, x11, x12, x13, x14, x15] ∧ StTo w g w' := by
 have c0 := hx.cell (i := 0) rfl
 have c1 := hx.cell (i := 1) rfl
 have c2 := hx.cell (i := 2) rfl
 have c3 := hx.cell (i := 3) rfl
 have c4 := hx.cell (i := 4) rfl
 have c5 := hx.cell (i := 5) rfl
 have c6 := hx.cell (i := 6) rfl
 have c7 := hx.cell (i := 7) rfl
 have c8 := hx.cell (i := 8) rfl
 have c9 := hx.cell (i := 9) rfl
 have c10 := hx.cell (i := 10) rfl
 have c11 := hx.cell (i := 11) rfl
 have c12 := hx.cell (i := 12) rfl
 have c13 := hx.cell (i := 13) rfl
 have c14 := hx.cell (i := 14) rfl
 have c15 := hx.cell (i := 15) rfl
 have hfr := hx.frozen
 have y0 := hx.set_ 0 x0
 have y1 := y0.set_ 1 x1
 have y2 := y1.set_ 2 x2
 have y3 := y2.set_ 3 x3
 have y4 := y3.set_ 4 x4
 have y5 := y4.set_ 5 x5
 have y6 := y5.set_ 6 x6
 have y7 := y6.set_ 7 x7
 have y8 := y7.set_ 8 x8
 have y9 := y8.set_ 9 x9
 have ka := y9.set_ 10 x10
 have kb := ka.set_ 11 x11
 have kc := kb.set_ 12 x12
 have kd := kc.set_ 13 x13
 have ke := kd.set_ 14 x14
 have kf := ke.set_ 15 x15
 refine ⟨((((((((((((((((w.setCell ⟨g, 0, none⟩ x0).setCell ⟨g, 1, none⟩ x1).setCell ⟨g, 2, none⟩ x2).setCell ⟨g, 3, none⟩ x3).setCell ⟨g, 4, none⟩ x4).setCell ⟨g, 5, none⟩ x5).setCell ⟨g, 6, none⟩ x6).setCell ⟨g, 7, none⟩ x7).setCell ⟨g, 8, none⟩ x8).setCell ⟨g, 9, none⟩ x9).setCell ⟨g, 10, none⟩ x10).setCell ⟨g, 11, none⟩ x11).setCell ⟨g, 12, none⟩ x12).setCell ⟨g, 13, none⟩ x13).setCell ⟨g, 14, none⟩ x14).setCell ⟨g, 15, none⟩ x15), ?_, kf, ((((((((((((((((Kp.refl w).set_ hx (by decide) _).set_ y0 (by decide) _).set_ y1 (by decide) _).set_ y2 (by decide) _).set_ y3 (by decide) _).set_ y4 (by decide) _).set_ y5 (by decide) _).set_ y6 (by decide) _).set_ y7 (by decide) _).set_ y8 (by decide) _).set_ y9 (by decide) _).set_ ka (by decide) _).set_ kb (by decide) _).set_ kc (by decide) _).set_ kd (by decide) _).set_ ke (by decide) _, fun B u hB hb => ((((((((((((((((hb).setCell hB _).setCell hB _).setCell hB _).setCell hB _).setCell hB _).setCell hB _).setCell hB _).setCell hB _).setCell hB _).setCell hB _).setCell hB _).setCell hB _).setCell hB _).setCell hB _).setCell hB _).setCell hB _, fun g' T l hn hg => ((((((((((((((((hg).far_ (g' := g) (j := 0) hn x0).far_ (g' := g) (j := 1) hn x1).far_ (g' := g) (j := 2) hn x2).far_ (g' := g) (j := 3) hn x3).far_ (g' := g) (j := 4) hn x4).far_ (g' := g) (j := 5) hn x5).far_ (g' := g) (j := 6) hn x6).far_ (g' := g) (j := 7) hn x7).far_ (g' := g) (j := 8) hn x8).far_ (g' := g) (j := 9) hn x9).far_ (g' := g) (j := 10) hn x10).far_ (g' := g) (j := 11) hn x11).far_ (g' := g) (j := 12) hn x12).far_ (g' := g) (j := 13) hn x13).far_ (g' := g) (j := 14) hn x14).far_ (g' := g) (j := 15) hn x15⟩
 clear y0 y1 y2 y3 y4 y5 y6 y7 y8 y9 ka kb kc kd ke kf
 cases o with
 | mk dst op type pos after guard =>
 simp only at ho
 subst ho
 revert hp hv
 generalize a.eval = E
 intro hp hv
 simp [execOp, hp, hv, go_sem, hfr, c0, o0, c1, o1, c2, o2, c3, o3, c4, o4, c5, o5, c6, o6, c7, o7, c8, o8, c9, o9, c10, o10, c11, o11, c12, o12, c13, o13, c14, o14, c15, o15]
theorem wst_Place {ops : Array Oper} {Q : Exit → Act → World → Prop} {a : Act} {w : World} {rest : List Oper} {o : Oper} {g : Nat} {p x : Operand} {x0 x1 x2 x3 x4 x5 x6 x7 x8 x9 x10 x11 x12 x13 x14 x15 l0 l1 l2 l3 l4 l5 l6 l7 l8 l9 l10 l11 l12 l13 l14 l15 : Value} (hg : o.guard = none) (hd : o.dst = none) (ho : o.op = .store 62 p x) (hp : a.eval p = .pointer (some ⟨g, 0, none⟩)) (hv : a.eval x = .agg #[x0, x1, x2, x3, x4, x5, x6, x7, x8, x9, x10, x11, x12, x13, x14, x15]) (hx : Bx w g 62 [l0, l1, l2, l3, l4, l5, l6, l7, l8, l9, l10, l11, l12, l13, l14, l15]) (o0 : x0.oneCell' = true) (o1 : x1.oneCell' = true) (o2 : x2.oneCell' = true) (o3 : x3.oneCell' = true) (o4 : x4.oneCell' = true) (o5 : x5.oneCell' = true) (o6 : x6.oneCell' = true) (o7 : x7.oneCell' = true) (o8 : x8.oneCell' = true) (o9 : x9.oneCell' = true) (o10 : x10.oneCell' = true) (o11 : x11.oneCell' = true) (o12 : x12.oneCell' = true) (o13 : x13.oneCell' = true) (o14 : x14.oneCell' = true) (o15 : x15.oneCell' = true)
  (h : ∀ w', Bx w' g 62 [x0, x1, x2, x3, x4, x5, x6, x7, x8, x9, x10, x11, x12, x13, x14, x15] → StTo w g w' → wpList Try.prog ops Q rest a w') : wpList Try.prog ops Q (o :: rest) a w := by
 obtain ⟨w', hr, h1, h2⟩ := st_Place ho hp hv hx o0 o1 o2 o3 o4 o5 o6 o7 o8 o9 o10 o11 o12 o13 o14 o15
 exact wl_skip hg hd hr (h w' h1 h2)
theorem new_Place {ops : Array Oper} {Q : Exit → Act → World → Prop} {a : Act} {w : World} {rest : List Oper} {oa ob : Oper} {d k : Nat} {x0 x1 x2 x3 x4 x5 x6 x7 x8 x9 x10 x11 x12 x13 x14 x15 : Value} (hg : oa.guard = none) (hd : oa.dst = some d) (ho : oa.op = .alloc 62) (hg2 : ob.guard = none) (hd2 : ob.dst = none) (ho2 : ob.op = .store 62 (.tmp d) (.tmp k)) (hv : a.eval (.tmp k) = .agg #[x0, x1, x2, x3, x4, x5, x6, x7, x8, x9, x10, x11, x12, x13, x14, x15]) (hs : d < a.tmps.size) (hn : (k == d) = false) (o0 : x0.oneCell' = true) (o1 : x1.oneCell' = true) (o2 : x2.oneCell' = true) (o3 : x3.oneCell' = true) (o4 : x4.oneCell' = true) (o5 : x5.oneCell' = true) (o6 : x6.oneCell' = true) (o7 : x7.oneCell' = true) (o8 : x8.oneCell' = true) (o9 : x9.oneCell' = true) (o10 : x10.oneCell' = true) (o11 : x11.oneCell' = true) (o12 : x12.oneCell' = true) (o13 : x13.oneCell' = true) (o14 : x14.oneCell' = true) (o15 : x15.oneCell' = true)
  (h : ∀ w', Bx w' w.heap.size 62 [x0, x1, x2, x3, x4, x5, x6, x7, x8, x9, x10, x11, x12, x13, x14, x15] → Below w.heap.size w w' → wpList Try.prog ops Q rest (a.put (some d) (.pointer (some ⟨w.heap.size, 0, none⟩))) w') : wpList Try.prog ops Q (oa :: ob :: rest) a w := by
 have hr : (execOp a.eval oa).run Try.prog w = .ok (.value (.pointer (some ⟨w.heap.size, 0, none⟩))) (w.alloc (.cells #[.bool false, .slice none 0 0, .bool false, .slice none 0 0, .bool false, .slice none 0 0, .bool false, .slice none 0 0, .bool false, .slice none 0 0, .bool false, .slice none 0 0, .bool false, .slice none 0 0, .bool false, .slice none 0 0] 62)) := by
  cases oa with
  | mk dst op type pos after guard =>
  simp only at ho
  subst ho
  simp [execOp, go_sem]
 refine wl_val hg hr ?_
 rw [hd]
 have hb : Below w.heap.size w (w.alloc (.cells #[.bool false, .slice none 0 0, .bool false, .slice none 0 0, .bool false, .slice none 0 0, .bool false, .slice none 0 0, .bool false, .slice none 0 0, .bool false, .slice none 0 0, .bool false, .slice none 0 0, .bool false, .slice none 0 0] 62)) := (Below.refl _ _).alloc (Nat.le_refl _) _
 refine wst_Place (g := w.heap.size) hg2 hd2 ho2 ?_ ?_ (Bx.new w 62 [.bool false, .slice none 0 0, .bool false, .slice none 0 0, .bool false, .slice none 0 0, .bool false, .slice none 0 0, .bool false, .slice none 0 0, .bool false, .slice none 0 0, .bool false, .slice none 0 0, .bool false, .slice none 0 0]) o0 o1 o2 o3 o4 o5 o6 o7 o8 o9 o10 o11 o12 o13 o14 o15 ?_
 ·simp [Act.eval, Act.put, hs]
 ·rw [← hv]
  have hn : d ≠ k := fun e => by simp [e] at hn
  simp [Act.eval, Act.put, Array.getD_eq_getD_getElem?, Array.getElem?_setIfInBounds, hn]
 ·intro w' h1 h2
  exact h w' h1 (h2.2.1 _ _ (Nat.le_refl _) hb)
end Go.Proofs.Ytonkbckgbfcnkaa
