/-
 WHAT SINGLE STORES DO; the elements of a row of vectors.
-/
import Derived.Test.YtcfejkpadcccbaaGreatNew
import Derived.Test.YtcfejkpadcccbaaGreatEnK
namespace Go.Proofs.YtcfejkpadcccbaaGreat
set_option maxHeartbeats 4000000
open Go.RowKit
attribute [local go_sem] run_store_one
set_option linter.unusedSimpArgs false
theorem Only.refl (g : Nat) (w : World) : Only g w w := ⟨rfl, rfl, rfl, rfl, fun _ _ => rfl⟩
theorem Only.set_ {g : Nat} {w w' : World} (h : Only g w w') (j : Nat) (u : Value) : Only g w (w'.setCell ⟨g, j, none⟩ u) :=
 ⟨h.os, h.tape, h.output, by simpa [World.setCell] using h.size, fun k hk => (Below.heap_setCell w' ⟨g, j, none⟩ u k hk).trans (h.block k hk)⟩
theorem nin1 {g a : Nat} (h : g ≠ a) : g ∉ [a] := by simpa using h
theorem nin2 {g a b : Nat} (h : g ≠ a) (h2 : g ≠ b) : g ∉ [a, b] := by simp [h, h2]
theorem nin0 {g : Nat} : g ∉ ([] : List Nat) := by simp
theorem all0 {P : Nat → Prop} : ∀ k ∈ ([] : List Nat), P k := by simp
theorem all1 {P : Nat → Prop} {a : Nat} (h : P a) : ∀ k ∈ [a], P k := by simpa using h
theorem all2 {P : Nat → Prop} {a b : Nat} (h : P a) (g : P b) : ∀ k ∈ [a, b], P k := by simp [h, g]
theorem all3 {P : Nat → Prop} {a b c : Nat} (h : P a) (g : P b) (i : P c) : ∀ k ∈ [a, b, c], P k := by simp [h, g, i]
theorem Tn.b0 {w w' : World} (h : Tn [] w w') : Below w.heap.size w w' := ⟨h.os, h.tape, h.output, h.size, fun k hk => h.block k hk (by simp)⟩
theorem Tn.dr {S : List Nat} {w W w' : World} (hW : w.drew = W) (h : Tn S W w') : Tn S w w' := by subst hW; exact h.drew
theorem gen_act {P : Program} {c : Code} {Q : Exit → Act → World → Prop} {a : Act} {w : World} (h : ∀ F : Act, a = F → c.wp P Q F w) : c.wp P Q a w := h a rfl
theorem call4 {P : Program} {o : Oper} {a : Act} {wx : World} {f : FuncId} {ts : Array TypeId} {x0 x1 x2 x3 : Operand} {v0 v1 v2 v3 : Value} (ho : o.op = .call { callee := .value (.func f), args := #[x0, x1, x2, x3], argTypes := ts }) (hf : ∀ vs, (callFunc f vs).run P wx = .ok (.enter f vs) wx) (e0 : a.eval x0 = v0) (e1 : a.eval x1 = v1) (e2 : a.eval x2 = v2) (e3 : a.eval x3 = v3) :
  (execOp a.eval o).run P wx = .ok (.enter f #[v0, v1, v2, v3]) wx := by
 have h : ∀ ρ : Operand → Value, ρ (.func f) = .func (.func f) #[] #[] → ρ x0 = v0 → ρ x1 = v1 → ρ x2 = v2 → ρ x3 = v3 → (execOp ρ o).run P wx = .ok (.enter f #[v0, v1, v2, v3]) wx := by
  intro ρ ef e0 e1 e2 e3
  simp [execOp, ho, ef, e0, e1, e2, e3, go_sem, hf]
 exact h a.eval rfl e0 e1 e2 e3
theorem Does.castB {P : Program} {o : Oper} {a : Act} {wx : World} {B b : Bool} (h : B = b) (d : Does P o (SC (.bool B)) false a wx) : Does P o (SC (.bool b)) false a wx := h ▸ d
theorem ad_c {P : Program} {o : Oper} {a : Act} {wx : World} {x : Operand} {z m : Nat} {c : Int} (ho : o.op = .binOp .add 3 x (.const (.int .i64 c)) 3) (e : a.eval x = .int .i64 (z : Int)) (hc : c = (m : Int)) (hb : z + m < 9223372036854775808) : Does P o (SC (.int .i64 ((z + m : Nat) : Int))) false a wx := by
 have hw : IntKind.i64.wrap ((z : Int) + (m : Int)) = ((z + m : Nat) : Int) := by rw [IntKind.wrap_i64]; omega
 subst hc
 have h : ∀ ρ : Operand → Value, ρ x = .int .i64 (z : Int) → ρ (.const (.int .i64 (m : Int))) = .int .i64 (m : Int) → (execOp ρ o).run P wx = .ok (.value (.int .i64 ((z + m : Nat) : Int))) wx := by
  intro ρ h1 h2
  simp [execOp, ho, h1, h2, go_sem, hw]
 exact Does.val (h _ e rfl) rfl
theorem rm_t {P : Program} {o : Oper} {a : Act} {wx : World} {x y : Operand} {z m : Nat} (ho : o.op = .binOp .rem 3 x y 3) (e : a.eval x = .int .i64 (z : Int)) (e2 : a.eval y = .int .i64 (m : Int)) (hm : 0 < m) : Does P o (SC (.int .i64 ((z % m : Nat) : Int))) false a wx := by
 have hw : Int.tmod (z : Int) (m : Int) = ((z % m : Nat) : Int) := by rw [Int.tmod_eq_emod_of_nonneg (by omega)]; simp
 have hz : ¬ m = 0 := by omega
 have h : ∀ ρ : Operand → Value, ρ x = .int .i64 (z : Int) → ρ y = .int .i64 (m : Int) → (execOp ρ o).run P wx = .ok (.value (.int .i64 ((z % m : Nat) : Int))) wx := by
  intro ρ h1 h2
  simp [execOp, ho, h1, h2, go_sem, hw, hz]
 exact Does.val (h _ e e2) rfl
theorem callc1 {P : Program} {o : Oper} {a : Act} {wx : World} {f : FuncId} {ts : Array TypeId} {x y : Operand} {v p q : Value} (ho : o.op = .call { callee := .value x, args := #[y], argTypes := ts }) (hf : ∀ vs, (callFunc f vs).run P wx = .ok (.enter f vs) wx) (e : a.eval x = .func (.func f) #[] #[p, q]) (e2 : a.eval y = v) :
  (execOp a.eval o).run P wx = .ok (.enter f #[v, p, q]) wx := by
 have h : ∀ ρ : Operand → Value, ρ x = .func (.func f) #[] #[p, q] → ρ y = v → (execOp ρ o).run P wx = .ok (.enter f #[v, p, q]) wx := by
  intro ρ h1 h2
  simp [execOp, ho, h1, h2, go_sem, hf]
 exact h a.eval e e2
theorem mkf2 {P : Program} {o : Oper} {a : Act} {wx : World} {f : FuncId} {x y : Operand} {p q : Value} (ho : o.op = .makeFunc (.func f) #[] #[x, y]) (e : a.eval x = p) (e2 : a.eval y = q) : Does P o (SC (.func (.func f) #[] #[p, q])) false a wx := by
 have h : ∀ ρ : Operand → Value, ρ x = p → ρ y = q → (execOp ρ o).run P wx = .ok (.value (.func (.func f) #[] #[p, q])) wx := by
  intro ρ h1 h2
  simp [execOp, ho, h1, h2, go_sem]
 exact Does.val (h _ e e2) rfl
/-- A guarded operation's value: there only if it was wanted. -/
def SG (C : Bool) (S : Sp) : Sp := fun w v => if C = true then S w v else v = undef
theorem SG.on {C : Bool} {S : Sp} {w : World} {v : Value} (hC : C = true) (h : SG C S w v) : S w v := by unfold SG at h; rwa [if_pos hC] at h
theorem SG.monoK {C : Bool} {S : Sp} (h : MonoK S) : MonoK (SG C S) := fun w w' v g k => by
 unfold SG at g ⊢
 split
 ·rename_i hC; rw [if_pos hC] at g; exact h _ _ _ g k
 ·rename_i hC; rw [if_neg hC] at g; exact g
theorem doesG_if {P : Program} {ops : Array Oper} {o : Oper} {S : Sp} {a : Act} {wx : World} {C : Bool} (hw : Region.wanted o (yielded ops a.tmps) = C) (h : C = true → Does P o S false a wx) : DoesG P ops o (SG C S) false a wx := by
 cases hC : C with
 | true =>
  refine .inl ⟨hw.trans hC, ?_⟩
  have : SG true S = S := by funext w v; simp [SG]
  rw [this]
  exact h hC
 | false => exact .inr ⟨hw.trans hC, rfl, by simp [SG]⟩
theorem pick_and {P : Program} {o : Oper} {a : Act} {wx : World} {c x : Operand} {B X : Bool} (ho : o.op = .pick c x (.const (.bool false))) (hc : a.eval c = .bool B) (hx : SG (B == true) (SC (.bool X)) wx (a.eval x)) : Does P o (SC (.bool (B && X))) false a wx := by
 have h : ∀ ρ : Operand → Value, ρ c = .bool B → (B = true → ρ x = .bool X) → ρ (.const (.bool false)) = .bool false → (execOp ρ o).run P wx = .ok (.value (.bool (B && X))) wx := by
  intro ρ h1 h2 h3
  cases B with
  | true => simp [execOp, ho, h1, h2, go_sem]
  | false => simp [execOp, ho, h1, h3, go_sem]
 exact Does.val (h _ hc (fun hB => SG.on (by rw [hB]; rfl) hx) rfl) rfl
theorem bc_lss {P : Program} {o : Oper} {a : Act} {wx : World} {x : Operand} {z c : Int} (ho : o.op = .binOp .lss 3 x (.const (.int .i64 c)) 3) (e : a.eval x = .int .i64 z) : Does P o (SC (.bool (decide (z < c)))) false a wx := by
 have h : ∀ ρ : Operand → Value, ρ x = .int .i64 z → ρ (.const (.int .i64 c)) = .int .i64 c → (execOp ρ o).run P wx = .ok (.value (.bool (decide (z < c)))) wx := by
  intro ρ h1 h2
  simp [execOp, ho, h1, h2, go_sem]
 exact Does.val (h _ e rfl) rfl
theorem bt_lss {P : Program} {o : Oper} {a : Act} {wx : World} {x y : Operand} {z c : Int} (ho : o.op = .binOp .lss 3 x y 3) (e : a.eval x = .int .i64 z) (e2 : a.eval y = .int .i64 c) : Does P o (SC (.bool (decide (z < c)))) false a wx := by
 have h : ∀ ρ : Operand → Value, ρ x = .int .i64 z → ρ y = .int .i64 c → (execOp ρ o).run P wx = .ok (.value (.bool (decide (z < c)))) wx := by
  intro ρ h1 h2
  simp [execOp, ho, h1, h2, go_sem]
 exact Does.val (h _ e e2) rfl
theorem bc_gtr {P : Program} {o : Oper} {a : Act} {wx : World} {x : Operand} {z c : Int} (ho : o.op = .binOp .gtr 3 x (.const (.int .i64 c)) 3) (e : a.eval x = .int .i64 z) : Does P o (SC (.bool (decide (c < z)))) false a wx := by
 have h : ∀ ρ : Operand → Value, ρ x = .int .i64 z → ρ (.const (.int .i64 c)) = .int .i64 c → (execOp ρ o).run P wx = .ok (.value (.bool (decide (c < z)))) wx := by
  intro ρ h1 h2
  simp [execOp, ho, h1, h2, go_sem]
 exact Does.val (h _ e rfl) rfl
theorem bc_eql {P : Program} {o : Oper} {a : Act} {wx : World} {x : Operand} {z c : Int} (ho : o.op = .binOp .eql 3 x (.const (.int .i64 c)) 3) (e : a.eval x = .int .i64 z) : Does P o (SC (.bool ((z == c)))) false a wx := by
 have h : ∀ ρ : Operand → Value, ρ x = .int .i64 z → ρ (.const (.int .i64 c)) = .int .i64 c → (execOp ρ o).run P wx = .ok (.value (.bool ((z == c)))) wx := by
  intro ρ h1 h2
  simp [execOp, ho, h1, h2, go_sem]
 exact Does.val (h _ e rfl) rfl
theorem bt_neq {P : Program} {o : Oper} {a : Act} {wx : World} {x y : Operand} {z c : Int} (ho : o.op = .binOp .neq 3 x y 3) (e : a.eval x = .int .i64 z) (e2 : a.eval y = .int .i64 c) : Does P o (SC (.bool ((z != c)))) false a wx := by
 have h : ∀ ρ : Operand → Value, ρ x = .int .i64 z → ρ y = .int .i64 c → (execOp ρ o).run P wx = .ok (.value (.bool ((z != c)))) wx := by
  intro ρ h1 h2
  simp [execOp, ho, h1, h2, go_sem]
 exact Does.val (h _ e e2) rfl
/-- A pointer to a box that the region made. -/
def SA (W : World) : Sp := fun _ v => ∃ g, v = .pointer (some ⟨g, 0, none⟩) ∧ W.heap.size ≤ g
theorem SA.monoK (W : World) : MonoK (SA W) := fun _ _ _ h _ => h
theorem SB.sa {W : World} {T : Nat} {Z : List Value} : ∀ w v, SB W T Z w v → SA W w v := fun _ _ ⟨g, h1, h2, _⟩ => ⟨g, h1, h2⟩
theorem SB.bx {W : World} {T : Nat} {Z : List Value} : ∀ w v, SB W T Z w v → Bx w (blkOf v) T Z := fun _ _ ⟨_, h1, _, h3⟩ => by subst h1; exact h3
theorem SC.monoK (c : Value) : MonoK (SC c) := fun _ _ _ h _ => h
theorem SI.monoK (x : Int) : MonoK (SI x) := fun _ _ _ ⟨a, b, h1, h2⟩ k => ⟨a, b, h1, h2.kp k⟩
theorem SR.monoK (x : Rat) : MonoK (SR x) := fun _ _ _ ⟨a, b, c, d, h1, h2⟩ k => ⟨a, b, c, d, h1, h2.kp k⟩
theorem SS.monoK (l : List Int) : MonoK (SS l) := fun _ _ _ h k => h.kp k
theorem SV.monoK (v : Rat × Rat) : MonoK (SV v) := fun _ _ _ ⟨a, b, c, d, e, f, g, h, h1, h2⟩ k => ⟨a, b, c, d, e, f, g, h, h1, h2.kp k⟩
/-- An element of a row: some cells that lie somewhere in an old block. -/
def Cr (w : World) (b o : Nat) (cs : List Value) : Prop := b < w.heap.size ∧ ∀ j c, cs[j]? = some c → w.cell? ⟨b, o + j, none⟩ = some c
section
variable {w w' : World} {b o : Nat} {cs : List Value} {S : List Nat}
theorem Cr.tn (h : Cr w b o cs) (t : Tn S w w') (hb : b ∉ S) : Cr w' b o cs :=
 ⟨Nat.lt_of_lt_of_le h.1 t.size, fun j c hc => (World.cell?_of_block (a := ⟨b, o + j, none⟩) (t.block b h.1 hb)).trans (h.2 j c hc)⟩
theorem Cr.below (h : Cr w b o cs) (t : Below w.heap.size w w') : Cr w' b o cs :=
 ⟨Nat.lt_of_lt_of_le h.1 t.size, fun j c hc => (World.cell?_of_block (a := ⟨b, o + j, none⟩) (t.block b h.1)).trans (h.2 j c hc)⟩
theorem Bx.cr {g T : Nat} {l : List Value} (h : Bx w g T l) : Cr w g 0 l := ⟨h.lt, fun j c hc => by rw [Nat.zero_add]; exact h.cell hc⟩
end
section
variable {o : Oper} {a : Act} {wx : World} {g off : Nat} {p x : Operand} {l : List Value} {Tb : Nat}
theorem sto_Rat {x0 x1 x2 x3 l0 l1 l2 l3 : Value} (ho : o.op = .store 33 p x) (hp : a.eval p = .pointer (some ⟨g, off, none⟩)) (hv : a.eval x = .agg #[x0, x1, x2, x3]) (hx : Bx wx g Tb l) (h0 : l[off]? = some l0) (h1 : l[off + 1]? = some l1) (h2 : l[off + 2]? = some l2) (h3 : l[off + 3]? = some l3) (o0 : x0.oneCell' = true) (o1 : x1.oneCell' = true) (o2 : x2.oneCell' = true) (o3 : x3.oneCell' = true) :
  ∃ w', (execOp a.eval o).run Tryz.prog wx = .ok .skip w' ∧ Bx w' g Tb ((((l.set off x0).set (off + 1) x1).set (off + 2) x2).set (off + 3) x3) ∧ Only g wx w' := by
 have c0 := hx.cell h0
 have c1 := hx.cell h1
 have c2 := hx.cell h2
 have c3 := hx.cell h3
 have hfr := hx.frozen
 have y0 := hx.set_ (off) x0
 have y1 := y0.set_ (off + 1) x1
 have y2 := y1.set_ (off + 2) x2
 have y3 := y2.set_ (off + 3) x3
 refine ⟨((((wx.setCell ⟨g, off, none⟩ x0).setCell ⟨g, off + 1, none⟩ x1).setCell ⟨g, off + 2, none⟩ x2).setCell ⟨g, off + 3, none⟩ x3), ?_, y3, (((((Only.refl _ _).set_ _ _).set_ _ _).set_ _ _).set_ _ _)⟩
 clear y0 y1 y2 y3
 cases o with
 | mk dst op type pos after guard =>
 simp only at ho
 subst ho
 revert hp hv
 generalize a.eval = E
 intro hp hv
 simp [execOp, hp, hv, go_sem, hfr, c0, o0, c1, o1, c2, o2, c3, o3]
theorem sto_Vec {x0 x1 x2 x3 x4 x5 x6 x7 l0 l1 l2 l3 l4 l5 l6 l7 : Value} (ho : o.op = .store 35 p x) (hp : a.eval p = .pointer (some ⟨g, off, none⟩)) (hv : a.eval x = .agg #[x0, x1, x2, x3, x4, x5, x6, x7]) (hx : Bx wx g Tb l) (h0 : l[off]? = some l0) (h1 : l[off + 1]? = some l1) (h2 : l[off + 2]? = some l2) (h3 : l[off + 3]? = some l3) (h4 : l[off + 4]? = some l4) (h5 : l[off + 5]? = some l5) (h6 : l[off + 6]? = some l6) (h7 : l[off + 7]? = some l7) (o0 : x0.oneCell' = true) (o1 : x1.oneCell' = true) (o2 : x2.oneCell' = true) (o3 : x3.oneCell' = true) (o4 : x4.oneCell' = true) (o5 : x5.oneCell' = true) (o6 : x6.oneCell' = true) (o7 : x7.oneCell' = true) :
  ∃ w', (execOp a.eval o).run Tryz.prog wx = .ok .skip w' ∧ Bx w' g Tb ((((((((l.set off x0).set (off + 1) x1).set (off + 2) x2).set (off + 3) x3).set (off + 4) x4).set (off + 5) x5).set (off + 6) x6).set (off + 7) x7) ∧ Only g wx w' := by
 have c0 := hx.cell h0
 have c1 := hx.cell h1
 have c2 := hx.cell h2
 have c3 := hx.cell h3
 have c4 := hx.cell h4
 have c5 := hx.cell h5
 have c6 := hx.cell h6
 have c7 := hx.cell h7
 have hfr := hx.frozen
 have y0 := hx.set_ (off) x0
 have y1 := y0.set_ (off + 1) x1
 have y2 := y1.set_ (off + 2) x2
 have y3 := y2.set_ (off + 3) x3
 have y4 := y3.set_ (off + 4) x4
 have y5 := y4.set_ (off + 5) x5
 have y6 := y5.set_ (off + 6) x6
 have y7 := y6.set_ (off + 7) x7
 refine ⟨((((((((wx.setCell ⟨g, off, none⟩ x0).setCell ⟨g, off + 1, none⟩ x1).setCell ⟨g, off + 2, none⟩ x2).setCell ⟨g, off + 3, none⟩ x3).setCell ⟨g, off + 4, none⟩ x4).setCell ⟨g, off + 5, none⟩ x5).setCell ⟨g, off + 6, none⟩ x6).setCell ⟨g, off + 7, none⟩ x7), ?_, y7, (((((((((Only.refl _ _).set_ _ _).set_ _ _).set_ _ _).set_ _ _).set_ _ _).set_ _ _).set_ _ _).set_ _ _)⟩
 clear y0 y1 y2 y3 y4 y5 y6 y7
 cases o with
 | mk dst op type pos after guard =>
 simp only at ho
 subst ho
 revert hp hv
 generalize a.eval = E
 intro hp hv
 simp [execOp, hp, hv, go_sem, hfr, c0, o0, c1, o1, c2, o2, c3, o3, c4, o4, c5, o5, c6, o6, c7, o7]
variable {d d1 d2 : Nat}
theorem lc_Vec {a0 a1 a2 a3 a4 a5 a6 a7 : Value} (ho : o.op = .load 35 (.tmp d)) (he : a.eval (.tmp d) = .pointer (some ⟨g, off, none⟩)) (hx : Cr wx g off [a0, a1, a2, a3, a4, a5, a6, a7]) : Does Tryz.prog o (SC (.agg #[a0, a1, a2, a3, a4, a5, a6, a7])) false a wx := by
 simp [Act.eval] at he
 have c0 := hx.2 0 _ rfl
 have c1 := hx.2 1 _ rfl
 have c2 := hx.2 2 _ rfl
 have c3 := hx.2 3 _ rfl
 have c4 := hx.2 4 _ rfl
 have c5 := hx.2 5 _ rfl
 have c6 := hx.2 6 _ rfl
 have c7 := hx.2 7 _ rfl
 simp only [Nat.add_zero] at c0
 exact Does.val (by simp [execOp, Act.eval, ho, he, go_sem, c0, c1, c2, c3, c4, c5, c6, c7]) rfl
theorem ix_Vec {b oo n c i : Nat} (ho : o.op = .indexAddr 23 (.tmp d1) (.tmp d2)) (e1 : a.eval (.tmp d1) = .slice (some ⟨b, oo, none⟩) n c) (e2 : a.eval (.tmp d2) = .int .i64 (i : Int)) (hi : i < n) :
  Does Tryz.prog o (SC (.pointer (some ⟨b, oo + i * 8, none⟩))) false a wx := by
 have h1 : (i : Int) < (n : Int) := by omega
 have h2 : (0 : Int) ≤ (i : Int) := by omega
 simp [Act.eval] at e1 e2
 exact Does.val (by simp [execOp, Act.eval, ho, e1, e2, go_sem, h1, h2]) rfl
theorem ld_slV {T : Nat} {l : List Value} {a0 : Value} (ho : o.op = .load 23 (.tmp d)) (he : a.eval (.tmp d) = .pointer (some ⟨g, off, none⟩)) (hx : Bx wx g T l) (h0 : l[off]? = some a0) : Does Tryz.prog o (SC (a0)) false a wx := by
 simp [Act.eval] at he
 have c0 := hx.cell h0
 exact Does.val (by simp [execOp, Act.eval, ho, he, go_sem, c0]) rfl
theorem len_sl {A : Option Addr} {n c : Nat} (ho : o.op = .call { callee := .builtin .len, args := #[.tmp d1], argTypes := #[23] }) (e1 : a.eval (.tmp d1) = .slice A n c) :
  Does Tryz.prog o (SC (.int .i64 (n : Int))) false a wx := by
 simp [Act.eval] at e1
 exact Does.val (by simp [execOp, Act.eval, ho, e1, go_sem]) rfl
end
section
variable {n m : Nat} {W : World} {al : List Bool} {dspecs : List Sp} {Sg : List Nat} {s s' : Sto} {t t' : List Nat}
theorem stoOK0 : StoOK n m W al dspecs [] [] Sg :=
 ⟨fun s hs => by simp at hs, fun s hs => by simp at hs, fun s hs => by simp at hs, fun i j s t hs => by simp at hs, fun s hs => by simp at hs, fun r s x hs => by simp at hs⟩
theorem stoOK1 (post : ∀ w w' cs, s.post w cs → Kp w w' → s.post w' cs) (T : s.T ≠ 3) (old : s.al = none → s.g ∈ Sg ∧ Bx W s.g s.T s.old)
  (new : ∀ x, s.al = some x → x < n ∧ al.getD x false = true ∧ ∀ w v, nthS dspecs x w v → Bx w (blkOf v) s.T s.old) (tab : ∀ x, s.al = some x → n < m → x ∈ t) : StoOK n m W al dspecs [s] [t] Sg := by
 refine ⟨fun u hu => ?_, fun u hu => ?_, fun u hu => ?_, fun i j u v hu hv hij => ?_, fun u hu => ?_, fun r u x hu hx hl => ?_⟩
 ·rw [List.mem_singleton] at hu; subst hu; exact post
 ·rw [List.mem_singleton] at hu; subst hu; exact T
 ·rw [List.mem_singleton] at hu; subst hu; exact old
 ·have h1 := (List.getElem?_eq_some_iff.1 hu).1; have h2 := (List.getElem?_eq_some_iff.1 hv).1
  simp at h1 h2; omega
 ·rw [List.mem_singleton] at hu; subst hu; exact new
 ·match r, hu with
  | 0, hu => injection hu with hu; subst hu; exact tab x hx hl
  | r + 1, hu => simp at hu
end
end Go.Proofs.YtcfejkpadcccbaaGreat
