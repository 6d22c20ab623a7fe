/-
 ITERATORS by the engine, 2: a yield, what an iterator is worth, and the loop over it.
-/
import Derived.Test.YtjegnmlchioofaaGreatDoorEuC
namespace Go.Proofs.YtjegnmlchioofaaGreatDoor.E
set_option maxHeartbeats 1000000
open Go.RowKit
set_option linter.unusedVariables false
set_option linter.unusedSimpArgs false
/-- What lay there and is not the caller's own. -/
def Gk (W0 : World) (A : Nat → Prop) (g : Nat) : Prop := g < W0.heap.size ∧ ¬ A g
/-- What is not to be met. -/
def Zk (W0 : World) (A : Nat → Prop) (w : World) (g : Nat) : Prop := g < w.heap.size ∧ ¬ Gk W0 A g
def K0 (W0 : World) (A : Nat → Prop) (W : World) : Prop := W0.heap.size ≤ W.heap.size ∧ KpG (Gk W0 A) W0 W
section
variable {W0 W : World} {A : Nat → Prop}
theorem zk_mo (h : K0 W0 A W) {Z : Nat → Prop} (hZ : ∀ g, Z g → Zk W0 A W g) : Mo W0 A no W Z no :=
 ⟨h.1, fun g hg hA => h.2 g ⟨hg, hA⟩, fun g hz => Classical.byCases (fun hA : A g => .inl hA) (fun hA => .inr (Nat.le_of_not_lt fun hg => (hZ g hz).2 ⟨hg, hA⟩)), fun _ _ e => by cases e⟩
/-- The context of an iterator: since its last yield only new memory was made. -/
def CI (W0 : World) (A : Nat → Prop) (J : World → Prop) : World → (Nat → Prop) → (Nat → Prop) → Prop := fun w0 B M => B = (fun g => g < w0.heap.size) ∧ M = Zk W0 A w0 ∧ K0 W0 A w0 ∧ J w0
/-- What outlives a yield. -/
def stayV (n : Nat) : V → V
 | .k v => .k v
 | .nm b => match Nat.blt b n with
   | true => .nm b
   | false => .un
 | _ => .un
theorem stay_ok {w w' : World} {A A' : Nat → Prop} {m m' : Nat → Option Value} {n : Nat} (hm : ∀ b, b < n → m' b = m b) {u : Value} {x : V} (h : Rep w A m u x) : Rep w' A' m' u (stayV n x) := by
 cases x with
 | k v => cases h; exact .k _ _
 | nm b =>
  show Rep w' A' m' u (match Nat.blt b n with | true => .nm b | false => .un)
  cases hb : Nat.blt b n with
  | true =>
   cases h with
   | nm _ _ _ h' => exact .nm _ _ _ ((hm b (by simpa using hb)).trans h')
  | false => exact .un _ _
 | _ => exact .un _ _
end
/-- A region whose operation y is a yield: the keys, the values, the states behind it. -/
noncomputable def yieldR (P : Program) (ops : Array Oper) (y : Nat) (ts : List Nat) (σ : St) (l : Nat) (sc scT scF : List (Fa P)) : Option (Ks × List V × St × St) := match regR P ops (ops.toList.take y) [] σ sc with
 | some (σ1, _, [], k1) => match ops.toList.drop y with
   | o :: l2 => match o.op, o.dst, o.guard with
     | .call c, some d, none => match c.callee with
       | .value x => match exps (exp σ1.ho 5) (argV P (thaw o σ1).1 c.args.toList c.argTypes.toList) with
         | some (vs, _) => match regR P ops l2 [] ⟨(σ1.t.map (stayV σ.h.length)).set d (.k (.bool true)), σ.h⟩ scT, regR P ops l2 [] ⟨(σ1.t.map (stayV σ.h.length)).set d (.k (.bool false)), σ.h⟩ scF with
           | some (σT, _, [], kT), some (σF, _, [], kF) => some (([(thaw o σ1).1.ev x], [.k (.func (.yield l) #[] #[])]) :: (k1 ++ (kT ++ kF)), vs, trim σ.h.length (keep ts (List.range σ.h.length) σT), trim σ.h.length (keep ts (List.range σ.h.length) σF))
           | _, _ => none
         | none => none
       | _ => none
     | _, _, _ => none
   | [] => none
 | _ => none
def metY (ops : Array Oper) : Option (Ks × List V × St × St) → Bool × List (List V) × List V × St × St
 | some (ks, vs, a, b) => (nodef ops, ks.map (·.1), vs, a, b)
 | none => (false, [], [], ⟨[], []⟩, ⟨[], []⟩)
def toldY (vs : List V) (a b : St) : Option (Ks × List V × St × St) → Bool × List (List V) × List V × St × St
 | some (ks, _, _, _) => (true, ks.map (·.2), vs, a, b)
 | none => (true, [], vs, a, b)
section
variable {P : Program} {f : FuncId} {n : Nat} {mc : Nat → Option Value} {R : World → Prop} {W0 : World} {A : Nat → Prop}
/-- **A YIELD**. -/
theorem GG.yield {id : Nat} {ops : Array Oper} {k : List Item} {σ σT σF : St} {vs : List V} {l : Nat} {J JT JF : World → Prop} (y : Nat) (ts : List Nat) (sc scT scF : List (Fa P)) (hn : n = σ.h.length)
 (hmc : ∀ b, b < n → ∃ x, σ.h.getD b .dead = .fz x ∧ ∀ v, mc b = some v → Rep W0 A no v x) (hgl : Glo W0 A)
 (hY : ∀ nf u Wl W1, J Wl → K0 W0 A Wl → Below Wl.heap.size Wl W1 → Reps W1 (Zk W0 A Wl) no u vs → YieldAt Fence.wide nf P l u W1 fun e W' => K0 W0 A W' ∧ ((e = .returned (.bool true) ∧ JT W') ∨ (e = .returned (.bool false) ∧ JF W')))
 (hT : GG P f n mc (CI W0 A JT) R k σT) (hF : GG P f n mc (CI W0 A JF) R k σF)
 (e : metY ops (yieldR P ops y ts σ l sc scT scF) = toldY vs σT σF (yieldR P ops y ts σ l sc scT scF)) : GG P f n mc (CI W0 A J) R (.code (.region id ops false) :: k) σ := by
 subst hn
 cases hy : yieldR P ops y ts σ l sc scT scF with
 | none => rw [hy] at e; cases e
 | some z =>
 obtain ⟨ks, vs', σT', σF'⟩ := z
 rw [hy] at e
 simp only [metY, toldY, Prod.mk.injEq] at e
 obtain ⟨hnd, hks, rfl, rfl, rfl⟩ := e
 unfold yieldR at hy
 split at hy
 · rename_i σ1 fps k1 hr1
   split at hy
   · rename_i o l2 hdrop
     split at hy
     · rename_i c d hop hdst hgd
       split at hy
       · rename_i x hcx
         split at hy
         · rename_i vs2 kx hex
           split at hy
           · rename_i σT2 fT kT σF2 fF kF hrT hrF
             simp only [Option.some.injEq, Prod.mk.injEq] at hy
             obtain ⟨rfl, rfl, rfl, rfl⟩ := hy
             have hkk := ks_ok hks
             have key0 := hkk _ (List.mem_cons_self ..)
             simp only [List.cons.injEq, and_true] at key0
             have hk1 : ∀ p ∈ k1, p.1 = p.2 := fun p hp => hkk p (List.mem_cons_of_mem _ (List.mem_append.2 (.inl hp)))
             have hkT : ∀ p ∈ kT, p.1 = p.2 := fun p hp => hkk p (List.mem_cons_of_mem _ (List.mem_append.2 (.inr (List.mem_append.2 (.inl hp)))))
             have hkF : ∀ p ∈ kF, p.1 = p.2 := fun p hp => hkk p (List.mem_cons_of_mem _ (List.mem_append.2 (.inr (List.mem_append.2 (.inr hp)))))
             have hylt : y < ops.toList.length := by
              rcases Nat.lt_or_ge y ops.toList.length with h | h
              · exact h
              · rw [List.drop_of_length_le h] at hdrop; cases hdrop
             have hoy : ops[y]? = some o := by
              have h1 := List.drop_eq_getElem_cons hylt
              rw [hdrop] at h1
              injection h1 with h1 _
              rw [Array.getElem?_eq_getElem (by simpa using hylt), h1]
              simp
             have hdrop2 : ops.toList.drop (y + 1) = l2 := by
              have h1 := List.drop_eq_getElem_cons hylt
              rw [hdrop] at h1
              injection h1 with _ h1
              exact h1.symm
             intro w0 B M b a m w cs hC hfn hkd hd hM H
             obtain ⟨rfl, rfl, hK0, hJ⟩ := hC
             let Q : Exit → Act → World → Prop := fun e a' w' => e = .normal ∧ ∃ (w2 : World) (m' : Nat → Option Value), ((CI W0 A JT w2 (fun g => g < w2.heap.size) (Zk W0 A w2) ∧ SOk (fun g => g < w2.heap.size) (Zk W0 A w2) w2 (trim σ.h.length (keep ts (List.range σ.h.length) σT2)) a' m' w') ∨ (CI W0 A JF w2 (fun g => g < w2.heap.size) (Zk W0 A w2) ∧ SOk (fun g => g < w2.heap.size) (Zk W0 A w2) w2 (trim σ.h.length (keep ts (List.range σ.h.length) σF2)) a' m' w')) ∧ (∀ j, j < σ.h.length → m' j = mc j ∧ mc j ≠ none) ∧ a'.defers = []
             have hwp : (Code.region id ops false).wpIn Fence.wide 0 P Q a w := by
              refine wpIn_region_list ?_
              have hsplit : ops.toList = ops.toList.take y ++ (o :: l2) := by rw [← hdrop, List.take_append_drop]
              have main := seqP_ok (P := P) (ops := ops) (B := fun g => g < w0.heap.size) (M := Zk W0 A w0) (w0 := w0) (nf := 0) WideF.wide hnd (fun _ _ m => ∀ j, j < σ.h.length → m j = mc j ∧ mc j ≠ none) (fun _ _ _ _ _ _ g1 g2 j hj => io_mo g1 g2 j hj) (dfs := []) (Q := Q) (o :: l2) (ops.toList.take y) [] 0 σ σ1 fps sc [] k1 a m w (by rw [List.drop_zero]; exact hsplit) hr1 hk1 H hM hd
              rw [← hsplit] at main
              refine main fun a1 m1 w1 H1 hM1 hd1 => ?_
              have h2 : wpListIn Fence.wide 0 P ops Q (o :: l2) a1 w1 = wpOpIn Fence.wide 0 P ops Q y (wpListIn Fence.wide 0 P ops Q l2) a1 w1 := by
               unfold wpOpIn
               rw [hoy]
               rfl
              rw [h2]
              obtain ⟨t1, t2⟩ := thaw_ok (o := o) (σ := σ1) (fr := (thaw o σ1).2) (σ2 := (thaw o σ1).1) H1.K rfl (fun _ _ => rfl) ⟨fun t _ => H1.slot t, H1.K.gl⟩
              have hcv := t2.ev (x := x) (by rw [hop]; simp [Op.operands, Call.operands, hcx])
              rw [key0] at hcv
              have hops : ∀ z ∈ c.args.toList, z ∈ o.op.operands.toList := fun z hz => by
               rw [hop]
               simp only [Op.operands, Call.operands, hcx, Array.toList_append]
               exact List.mem_append.2 (.inr hz)
              obtain ⟨v1, v2⟩ := argV_rep (w := w1) (A := Av (Zk W0 A w0) σ1.ho m1) (m := m1) (P := P) (σ := (thaw o σ1).1) (a := a1) c.args.toList c.argTypes.toList fun z hz => ⟨t2.ev (hops z hz), fun T => t2.evT (hops z hz)⟩
              have hlive : ∀ b ∈ kx, (σ1.ho b).own = true := exps_live (C := fun b => (σ1.ho b).own = true) (fun x y ks e => exp_live 5 x y ks e) _ vs2 kx hex
              obtain ⟨x1, x2⟩ := exps_rep (C := fun b => σ1.ho b = σ1.ho b ∧ ∀ v g, m1 b = some v → blk v = some g → ¬ Zk W0 A w0 g) (fun x y ks e hc u hr => exp_rep (h0 := σ1.ho) (A' := Zk W0 A w0) H1.K (fun g hg => .inl hg) 5 x y ks e hc u hr) _ vs2 kx hex (fun b hb => ⟨rfl, fun v g q1 q2 hz => (H1.K.blk (hlive b hb) q1 q2).1 hz.1⟩)
              have hreps : Reps w1 (Zk W0 A w0) no (c.args.map a1.eval) vs2 := by
               refine ⟨by rw [x1, v1]; simp, fun j z hz => x2 j z hz _ fun q hq => ?_, H1.K.gl.mo (m := m1) (m' := m1) ⟨Nat.le_refl _, fun _ _ _ => rfl, fun g e => .inl (.inl e), fun _ _ e => e⟩⟩
               have hlt := (List.getElem?_eq_some_iff.1 hq).1
               rw [v1, Array.length_toList] at hlt
               have h1 : c.args.toList[j]? = some c.args[j] := by simp [hlt]
               have h2 := v2 j q hq _ h1
               rw [Array.getD_eq_getD_getElem?, Array.getElem?_map, ← Array.getElem?_toList, h1]
               exact h2
              refine yield_op hnd hoy hgd hop hcx (Rep.k_inv hcv) (hY 0 _ w0 w1 hJ hK0 H1.bl.below hreps) fun e w' he => ?_
              obtain ⟨hK', he⟩ := he
              -- behind it
              have hfz : ∀ b, (σ.h.getD b .dead).own = false ∧ (∀ x, σ.h.getD b .dead = .fz x → b < σ.h.length) := fun b => by
               rcases Nat.lt_or_ge b σ.h.length with h | h
               · obtain ⟨x, q1, _⟩ := hmc b h
                 exact ⟨by rw [q1]; rfl, fun _ _ => h⟩
               · have : σ.h.getD b .dead = .dead := by rw [List.getD_eq_getElem?_getD, List.getElem?_eq_none h]; rfl
                 exact ⟨by rw [this]; rfl, fun x hx => by rw [this] at hx; cases hx⟩
              let m2 : Nat → Option Value := fun b => if b < σ.h.length then m1 b else none
              have hm2 : ∀ b, b < σ.h.length → m2 b = m1 b := fun b hb => if_pos hb
              have hav : ∀ g, Av (Zk W0 A w') (fun b => σ.h.getD b .dead) m2 g → Zk W0 A w' g := fun g hg => hg.elim (fun h => h) fun ⟨b, v, q1, _⟩ => by rw [(hfz b).1] at q1; cases q1
              have S2 : ∀ r : Bool, SOk (fun g => g < w'.heap.size) (Zk W0 A w') w' ⟨(σ1.t.map (stayV σ.h.length)).set d (.k (.bool r)), σ.h⟩ (a1.put o.dst (.bool r)) m2 w' := fun r => by
               refine ⟨⟨fun b T l q => ?_, fun b T z l q => ?_, fun b x q => ?_, fun b b' v v' g q1 => ?_, fun g hg => hg.1, fun g hg => hg, hgl.mo (zk_mo hK' hav)⟩, ?_, ?_, fun i x hx => ?_, fun b hb => ?_, Bl.refl _ _⟩
               · have := (hfz b).1
                 have q : σ.h.getD b .dead = .bx T l := q
                 rw [q] at this; cases this
               · have := (hfz b).1
                 have q : σ.h.getD b .dead = .rw T z l := q
                 rw [q] at this; cases this
               · have q : σ.h.getD b .dead = .fz x := q
                 have hb := (hfz b).2 x q
                 obtain ⟨x', q1, q2⟩ := hmc b hb
                 rw [q] at q1
                 injection q1 with q1
                 subst q1
                 obtain ⟨h3, h4⟩ := hM1 b hb
                 cases hv : mc b with
                 | none => exact absurd hv h4
                 | some v => exact ⟨v, (hm2 b hb).trans (h3.trans hv), (q2 v hv).mo (zk_mo hK' hav)⟩
               · have q1 : (σ.h.getD b .dead).own = true := q1
                 rw [(hfz b).1] at q1; cases q1
               · rw [put_size.1, H1.sz]; simp
               · rw [put_size.2, hd1]; exact DfOk.nil
               · have hx : ((σ1.t.map (stayV σ.h.length)).set d (.k (.bool r)))[i]? = some x := hx
                 have hil := (List.getElem?_eq_some_iff.1 hx).1
                 rw [List.length_set, List.length_map] at hil
                 rw [put_get (by rw [H1.sz]; exact hil), hdst]
                 by_cases hdi : d = i
                 · subst hdi
                   rw [List.getElem?_set_self (by simpa using hil)] at hx
                   injection hx with hx
                   subst hx
                   rw [if_pos rfl]
                   exact .k _ _
                 · rw [List.getElem?_set_ne hdi, List.getElem?_map, Option.map_eq_some_iff] at hx
                   obtain ⟨z, hz, rfl⟩ := hx
                   rw [if_neg (by simpa using hdi)]
                   exact stay_ok hm2 (H1.tm i z hz)
               · rcases Nat.lt_or_ge b σ.h.length with h | h
                 · exact h
                 · exact absurd (if_neg (by omega)) hb
              have hM2 : ∀ j, j < σ.h.length → m2 j = mc j ∧ mc j ≠ none := fun j hj => by rw [hm2 j hj]; exact hM1 j hj
              have fin : ∀ (σ2 : St) (a2 : Act) (m3 : Nat → Option Value) (w3 : World), SOk (fun g => g < w'.heap.size) (Zk W0 A w') w' σ2 a2 m3 w3 → (∀ j, j < σ.h.length → m3 j = mc j ∧ mc j ≠ none) → ∃ m4, SOk (fun g => g < w'.heap.size) (Zk W0 A w') w' (trim σ.h.length (keep ts (List.range σ.h.length) σ2)) a2 m4 w3 ∧ ∀ j, j < σ.h.length → m4 j = mc j ∧ mc j ≠ none := fun σ2 a2 m3 w3 H3 h3 => by
               obtain ⟨m4, g2, _, H4⟩ := trim_ok (H3.keep ts (List.range σ.h.length)) σ.h.length
               exact ⟨m4, H4, fun j hj => by rw [g2 j hj]; exact h3 j hj⟩
              rcases he with ⟨rfl, hj⟩ | ⟨rfl, hj⟩
              · refine ⟨_, rfl, ?_⟩
                have hl := seqP_ok (P := P) (ops := ops) (B := fun g => g < w'.heap.size) (M := Zk W0 A w') (w0 := w') (nf := 0) WideF.wide hnd (fun _ _ m => ∀ j, j < σ.h.length → m j = mc j ∧ mc j ≠ none) (fun _ _ _ _ _ _ g1 g2 j hj => io_mo g1 g2 j hj) (dfs := []) (Q := Q) [] l2 [] (y + 1) _ _ fT scT [] kT (a1.put o.dst (.bool true)) m2 w' (by rw [hdrop2]; simp) hrT hkT (S2 true) hM2 (by rw [put_size.2, hd1])
                rw [List.append_nil] at hl
                refine hl fun a2 m3 w3 H3 h3 hd3 => ?_
                obtain ⟨m4, H4, h4⟩ := fin _ _ _ _ H3 h3
                exact ⟨rfl, w', m4, .inl ⟨⟨rfl, rfl, hK', hj⟩, H4⟩, h4, hd3⟩
              · refine ⟨_, rfl, ?_⟩
                have hl := seqP_ok (P := P) (ops := ops) (B := fun g => g < w'.heap.size) (M := Zk W0 A w') (w0 := w') (nf := 0) WideF.wide hnd (fun _ _ m => ∀ j, j < σ.h.length → m j = mc j ∧ mc j ≠ none) (fun _ _ _ _ _ _ g1 g2 j hj => io_mo g1 g2 j hj) (dfs := []) (Q := Q) [] l2 [] (y + 1) _ _ fF scF [] kF (a1.put o.dst (.bool false)) m2 w' (by rw [hdrop2]; simp) hrF hkF (S2 false) hM2 (by rw [put_size.2, hd1])
                rw [List.append_nil] at hl
                refine hl fun a2 m3 w3 H3 h3 hd3 => ?_
                obtain ⟨m4, H4, h4⟩ := fin _ _ _ _ H3 h3
                exact ⟨rfl, w', m4, .inr ⟨⟨rfl, rfl, hK', hj⟩, H4⟩, h4, hd3⟩
             obtain ⟨e', a', w', ⟨rfl, w2, m', hor, hM', hd'⟩, harr⟩ := wpIn_wide.1 hwp b k cs
             rcases hor with ⟨hC, H'⟩ | ⟨hC, H'⟩
             · obtain ⟨w3, fr, v, h3, h4, h5⟩ := hT w2 _ _ b a' m' w' cs hC hfn hkd hd' hM' H'
               exact ⟨w3, fr, v, h3, .of_steps harr h4, h5⟩
             · obtain ⟨w3, fr, v, h3, h4, h5⟩ := hF w2 _ _ b a' m' w' cs hC hfn hkd hd' hM' H'
               exact ⟨w3, fr, v, h3, .of_steps harr h4, h5⟩
           · cases hy
         · cases hy
       · cases hy
     · cases hy
   · cases hy
 · cases hy
/-- What an iterator is worth, from a world: it yields the values of a list. -/
def SeqF (P : Program) (gf : FuncId) (lb : Array Value) {α : Type} (eV : α → List V) (A : Nat → Prop) (S Sp : List α → Prop) (N : Nat) (w : World) : Prop :=
 ∀ (l : Nat) (J Jx : List α → World → Prop) (W : World), Below w.heap.size w W → AbidesFrom W.heap.size J → AbidesFrom W.heap.size Jx →
 (∀ nf pre x u Wl W1, pre.length < N → J pre Wl → K0 w A Wl → Below Wl.heap.size Wl W1 → Reps W1 (Zk w A Wl) no u (eV x) → YieldAt Fence.wide nf P l u W1 fun e W' => K0 w A W' ∧ ((e = .returned (.bool true) ∧ J (pre ++ [x]) W') ∨ (e = .returned (.bool false) ∧ Jx (pre ++ [x]) W'))) →
 J [] W → Calls P gf (#[.func (.yield l) #[] #[]] ++ lb) W fun e W' => (∃ v, e = .returned v) ∧ ((∃ xs, S xs ∧ J xs W') ∨ (∃ pre, Sp pre ∧ Jx pre W'))
def IterF (P : Program) (gf : FuncId) (caps : List V) {α : Type} (eV : α → List V) (S Sp : List α → Prop) (N : Nat) : Prop :=
 (∀ args w, (callFunc gf args).run P w = .ok (.enter gf args) w) ∧ ∀ (w : World) (A : Nat → Prop) (lb : Array Value), Reps w A no lb caps → SeqF P gf lb eV A S Sp N w
/-- How an iterator begins. -/
def st0Y (fn : Func) (l : Nat) (caps : List V) : St := ⟨.k (.func (.yield l) #[] #[]) :: ((List.range caps.length).map .nm ++ List.replicate (fn.ntmps - (caps.length + 1)) .un), caps.map .fz⟩
theorem ci_end {β : Type} {B0 : Nat} {J : β → World → Prop} (hJ : AbidesFrom B0 J) {s : β} {w0 w : World} {B M : Nat → Prop} (hC : CI W0 A (J s) w0 B M) (h : Bl B w0 w) : J s w := by
 obtain ⟨rfl, rfl, hK, hj⟩ := hC
 exact hJ s w0 w none hj (below_gr h.below) fun r e => by cases e
theorem IterF.of {gf : FuncId} {fn : Func} {caps : List V} (hf : P.funcs[gf]? = some fn) (hb : fn.body.isSome = true) (hok : okF P gf) {α : Type} {eV : α → List V} {S Sp : List α → Prop} {N : Nat}
 (h : ∀ (W0 : World) (A : Nat → Prop) (lb : Array Value) (l B0 : Nat) (J Jx : List α → World → Prop), Reps W0 A no lb caps → AbidesFrom B0 J → AbidesFrom B0 Jx →
  (∀ nf pre x u Wl W1, pre.length < N → J pre Wl → K0 W0 A Wl → Below Wl.heap.size Wl W1 → Reps W1 (Zk W0 A Wl) no u (eV x) → YieldAt Fence.wide nf P l u W1 fun e W' => K0 W0 A W' ∧ ((e = .returned (.bool true) ∧ J (pre ++ [x]) W') ∨ (e = .returned (.bool false) ∧ Jx (pre ++ [x]) W'))) →
  GG P gf caps.length (fun i => lb[i]?) (CI W0 A (J [])) (fun w' => (∃ xs, S xs ∧ J xs w') ∨ ∃ pre, Sp pre ∧ Jx pre w') (body fn) (st0Y fn l caps)) : IterF P gf caps eV S Sp N := by
 refine ⟨fun args w => hok args w, fun w A lb hr l J Jx W hW aJ aJx hY hJ cs => ?_⟩
 obtain ⟨c, hc⟩ := Option.isSome_iff_exists.1 hb
 have hg := h w A lb l W.heap.size J Jx hr aJ aJx hY
 have hK0 : K0 w A W := ⟨hW.size, fun g hg => hW.block g hg.1⟩
 let b : Frame := { (default : Frame) with fn := gf, kind := .normal }
 let args : Array Value := #[.func (.yield l) #[] #[]] ++ lb
 have henter : Frame.enter P gf args .normal = b.at { tmps := args ++ Array.replicate (fn.ntmps - args.size) undef, defers := [] } [.code c] := by
  simp [Frame.enter, Frame.at, hf, hc, b]
 have hbody : body fn = [.code c] := by simp [body, hc]
 rw [hbody] at hg
 have hsz : args.size = caps.length + 1 := by simp [args, hr.1, Nat.add_comm]
 have hlb : ∀ i, i < caps.length → ∃ v, lb[i]? = some v ∧ args.getD (i + 1) undef = v ∧ lb.getD i undef = v := fun i hi => by
  have hil : i < lb.size := by rw [hr.1]; exact hi
  refine ⟨lb[i], Array.getElem?_eq_getElem hil, ?_, ?_⟩
  · simp only [args]
    rw [Array.getD_eq_getD_getElem?, Array.getElem?_append_right (by simp)]
    simp [hil]
  · rw [Array.getD_eq_getD_getElem?, Array.getElem?_eq_getElem hil]; rfl
 have hcd : ∀ j, j < caps.length → ∃ x, caps[j]? = some x ∧ (caps.map HO.fz).getD j .dead = .fz x := fun j hj => ⟨caps[j], List.getElem?_eq_getElem hj, by rw [List.getD_eq_getElem?_getD, List.getElem?_map, List.getElem?_eq_getElem hj]; rfl⟩
 have hfz : ∀ j, ((caps.map HO.fz).getD j .dead).own = false := fun j => by
  rcases Nat.lt_or_ge j caps.length with hj | hj
  · obtain ⟨x, _, q⟩ := hcd j hj
    rw [q]; rfl
  · rw [List.getD_eq_getElem?_getD, List.getElem?_eq_none (by simpa using hj)]; rfl
 let m : Nat → Option Value := fun i => lb[i]?
 have hav : ∀ g, Av (Zk w A W) (fun b => (caps.map HO.fz).getD b .dead) m g → Zk w A W g := fun g hg => hg.elim id fun ⟨b, v, q1, _⟩ => by rw [hfz b] at q1; cases q1
 have hmo := zk_mo hK0 hav
 have hS : SOk (fun g => g < W.heap.size) (Zk w A W) W (st0Y fn l caps) { tmps := args ++ Array.replicate (fn.ntmps - args.size) undef, defers := [] } m W := by
  refine ⟨⟨fun b T l q => ?_, fun b T z l q => ?_, fun b x q => ?_, fun b b' v v' g q1 => ?_, fun g hg => hg.1, fun g hg => hg, hr.3.mo hmo⟩, ?_, DfOk.nil, fun i x hx => ?_, fun b hb => ?_, Bl.refl _ _⟩
  · have := hfz b
    have q : (caps.map HO.fz).getD b .dead = .bx T l := q
    rw [q] at this; cases this
  · have := hfz b
    have q : (caps.map HO.fz).getD b .dead = .rw T z l := q
    rw [q] at this; cases this
  · have q : (caps.map HO.fz).getD b .dead = .fz x := q
    have hbl : b < caps.length := by
     rcases Nat.lt_or_ge b caps.length with h | h
     · exact h
     · rw [List.getD_eq_getElem?_getD, List.getElem?_eq_none (by simpa using h)] at q; cases q
    obtain ⟨x', q1, q2⟩ := hcd b hbl
    rw [q] at q2
    injection q2 with q2
    subst q2
    obtain ⟨v, q3, _, q4⟩ := hlb b hbl
    have := hr.2 b x q1
    rw [q4] at this
    exact ⟨v, q3, this.mo hmo⟩
  · have q1 : ((caps.map HO.fz).getD b .dead).own = true := q1
    rw [hfz b] at q1; cases q1
  · simp [st0Y, hsz]; omega
  · have hx : (V.k (.func (.yield l) #[] #[]) :: ((List.range caps.length).map .nm ++ List.replicate (fn.ntmps - (caps.length + 1)) .un))[i]? = some x := hx
    show Rep _ _ _ ((args ++ Array.replicate (fn.ntmps - args.size) undef).getD i undef) _
    cases i with
    | zero =>
      simp only [List.getElem?_cons_zero, Option.some.injEq] at hx
      subst hx
      have : (args ++ Array.replicate (fn.ntmps - args.size) undef).getD 0 undef = .func (.yield l) #[] #[] := by
       rw [Array.getD_eq_getD_getElem?, Array.getElem?_append_left (by omega)]
       simp only [args]
       rw [Array.getElem?_append_left (by simp)]
       rfl
      rw [this]
      exact .k _ _
    | succ i =>
      simp only [List.getElem?_cons_succ] at hx
      rcases Nat.lt_or_ge i caps.length with hi | hi
      · rw [List.getElem?_append_left (by simpa using hi), List.getElem?_map, List.getElem?_range hi] at hx
        simp only [Option.map_some, Option.some.injEq] at hx
        subst hx
        obtain ⟨v, q1, q2, _⟩ := hlb i hi
        have : (args ++ Array.replicate (fn.ntmps - args.size) undef).getD (i + 1) undef = v := by
         rw [Array.getD_eq_getD_getElem?, Array.getElem?_append_left (by omega), ← Array.getD_eq_getD_getElem?]
         exact q2
        rw [this]
        exact .nm _ _ _ q1
      · rw [List.getElem?_append_right (by simpa using hi), List.getElem?_replicate] at hx
        split at hx
        · injection hx with hx; subst hx; exact .un _ _
        · cases hx
  · rcases Nat.lt_or_ge b caps.length with h | h
    · show b < (caps.map HO.fz).length
      simpa using h
    · exact absurd (Array.getElem?_eq_none (by rw [hr.1]; exact h)) hb
 obtain ⟨w', fr, v, h3, h4, h5⟩ := hg W (fun g => g < W.heap.size) (Zk w A W) b { tmps := args ++ Array.replicate (fn.ntmps - args.size) undef, defers := [] } m W cs ⟨rfl, rfl, hK0, hJ⟩ rfl rfl rfl (fun j hj => ⟨rfl, by
  obtain ⟨v, q, _⟩ := hlb j hj
  show lb[j]? ≠ none
  rw [q]; intro e; cases e⟩) hS
 exact ⟨.returned v, w', fr, ⟨⟨v, rfl⟩, h3⟩, by rw [henter]; exact h4, h5⟩
end
end Go.Proofs.YtjegnmlchioofaaGreatDoor.E
