/-
 ITERATORS by the engine, 5: what the consumer owns is told: an iterator's own memory outlives a yield; a yield may be guarded.
-/
import Derived.Test.YtbaggkbleehegaaGreatEuF
namespace Go.Proofs.YtbaggkbleehegaaGreat.E
set_option maxHeartbeats 1000000
open Go.RowKit
set_option linter.unusedVariables false
set_option linter.unusedSimpArgs false
abbrev SD (α : Type) : Type := List α × (Nat → Prop)
/-- What a consumer does to memory. -/
structure Dn (D D' : Nat → Prop) (W W' : World) : Prop where
 size : W.heap.size ≤ W'.heap.size
 blk : ∀ g, g < W.heap.size → ¬ D g → W'.heap[g]? = W.heap[g]?
 own : ∀ g, D' g → D g ∨ W.heap.size ≤ g
 lt : ∀ g, D' g → g < W'.heap.size
theorem Dn.trans {D D' D'' : Nat → Prop} {a b c : World} (h : Dn D D' a b) (k : Dn D' D'' b c) : Dn D D'' a c :=
 ⟨Nat.le_trans h.size k.size, fun g hg hd => (k.blk g (Nat.lt_of_lt_of_le hg h.size) fun e => (h.own g e).elim hd fun e => by omega).trans (h.blk g hg hd), fun g hg => (k.own g hg).elim (h.own g) fun e => .inr (Nat.le_trans h.size e), k.lt⟩
/-- The context of an iterator: since its last yield only new memory was made. -/
def CD (J : (Nat → Prop) → World → Prop) : World → (Nat → Prop) → (Nat → Prop) → Prop := fun w0 B M => B = (fun g => g < w0.heap.size) ∧ (∀ g, M g → g < w0.heap.size) ∧ J M w0
/-- A region whose operation y is a yield: the keys, the values, the states behind it. -/
noncomputable def runYD (P : Program) (ops : Array Oper) (y : Nat) (ts bs : List Nat) (σ : St) (l : Nat) (sc scT scF : List (Fa P)) : Option (Ks × List V × St × St × Bool) := match regR P ops (ops.toList.take y) [] σ sc with
 | some (σ1, _, sc1, k1) => match ops.toList.drop y with
   | o :: l2 => match wantV ops o [] σ1 sc1 with
     | some (true, g, _, [], k3) => match o.op, o.dst with
       | .call c, some d => match c.callee with
         | .value x => match exps (exp σ1.ho 5) (argV P (thaw o σ1).1 c.args.toList c.argTypes.toList) with
           | some (vs, _) => match regR P ops l2 g ⟨σ1.t.set d (.k (.bool true)), σ1.h⟩ scT, regR P ops l2 g ⟨σ1.t.set d (.k (.bool false)), σ1.h⟩ scF with
             | some (σT, _, [], kT), some (σF, _, [], kF) => some (([(thaw o σ1).1.ev x], [.k (.func (.yield l) #[] #[])]) :: (k1 ++ (k3 ++ (kT ++ kF))), vs, trim σ.h.length (keep ts bs σT), trim σ.h.length (keep ts bs σF), σ1.h.all (fun o => !o.own))
             | _, _ => none
           | none => none
         | _ => none
       | _, _ => none
     | _ => none
   | [] => none
 | _ => none
def metD (n q : Nat) (ops : Array Oper) : Option (Ks × List V × St × St × Bool) → Bool × List (List V) × List V × St × St
 | some (ks, vs, a, b, t) => (nodef ops && (Nat.ble n q && t), ks.map (·.1), vs, a, b)
 | none => (false, [], [], ⟨[], []⟩, ⟨[], []⟩)
def toldD (vs : List V) (a b : St) : Option (Ks × List V × St × St × Bool) → Bool × List (List V) × List V × St × St
 | some (ks, _, _, _, _) => (true, ks.map (·.2), vs, a, b)
 | none => (true, [], vs, a, b)
section
variable {P : Program} {f : FuncId} {n : Nat} {mc : Nat → Option Value} {R : World → Prop}
/-- A yield. -/
theorem yield_op2 {ops : Array Oper} {nf : Nat} {Q : Exit → Act → World → Prop} {R : Ending → World → Prop} {i : Nat} {o : Oper} {K : Act → World → Prop} {a : Act} {w : World} {c : Call} {x : Operand} {l : Nat} (hnd : nodef ops = true) (ho : ops[i]? = some o) (hw : Region.wanted o (yielded ops a.tmps) = true) (hc : o.op = .call c) (hx : c.callee = .value x) (hv : a.eval x = .func (.yield l) #[] #[])
  (hY : YieldAt Fence.wide (nf - 1) P l (c.args.map a.eval) w R) (hK : ∀ e w', R e w' → ∃ v, e = .returned v ∧ K (a.put o.dst v) w') : wpOpIn Fence.wide nf P ops Q i K a w := by
 obtain ⟨fn, tmps, assign, body, hy, hR⟩ := hY
 unfold wpOpIn
 rw [ho]
 simp only [hw, if_true]
 unfold Oper.wpIn
 refine ⟨fun f _ => trivial, ?_⟩
 rw [Oper.semAt_plain _ _ _ (nodef_at hnd ho)]
 have hex : (execOp a.eval o).run P w = .ok (.round l fn tmps assign body) w := by
  simp [execOp, hc, resolve, hx, hv, Deferred.ofValue, invoke, hy]
 rw [hex]
 refine ⟨fun h => by simp [Fence.wide] at h, hR.mono fun e w' he => ?_⟩
 obtain ⟨v, rfl, h2⟩ := hK e w' he
 exact h2
/-- **A YIELD**: all that is frozen outlives it. -/
theorem GG.yieldD {id : Nat} {ops : Array Oper} {k : List Item} {σ σT σF : St} {vs : List V} {l : Nat} {J JT JF : (Nat → Prop) → World → Prop} (y : Nat) (ts bs : List Nat) (sc scT scF : List (Fa P))
 (hY : ∀ nf u Wl D W1, J D Wl → (∀ g, D g → g < Wl.heap.size) → Below Wl.heap.size Wl W1 → Reps W1 D no u vs → YieldAt Fence.wide nf P l u W1 fun e W' => ∃ D', Dn D D' W1 W' ∧ ((e = .returned (.bool true) ∧ JT D' W') ∨ (e = .returned (.bool false) ∧ JF D' W')))
 (hT : GG P f n mc (CD JT) R k σT) (hF : GG P f n mc (CD JF) R k σF)
 (e : metD n σ.h.length ops (runYD P ops y ts bs σ l sc scT scF) = toldD vs σT σF (runYD P ops y ts bs σ l sc scT scF)) : GG P f n mc (CD J) R (.code (.region id ops false) :: k) σ := by
 cases hy : runYD P ops y ts bs σ l sc scT scF with
 | none => rw [hy] at e; cases e
 | some z =>
 obtain ⟨ks, vs', σT', σF', tt⟩ := z
 rw [hy] at e
 simp only [metD, toldD, Prod.mk.injEq, Bool.and_eq_true] at e
 obtain ⟨⟨hnd, hnq, htt⟩, hks, rfl, rfl, rfl⟩ := e
 unfold runYD at hy
 split at hy
 · rename_i σ1 fps sc1 k1 hr1
   split at hy
   · rename_i o l2 hdrop
     split at hy
     · rename_i g σx k3 hwant
       split at hy
       · rename_i c d hop hdst
         split at hy
         · rename_i x hcx
           split at hy
           · rename_i vs2 kx hex
             split at hy
             · rename_i σT2 fT kT σF2 fF kF hrT hrF
               simp only [Option.some.injEq, Prod.mk.injEq] at hy
               obtain ⟨rfl, rfl, rfl, rfl, rfl⟩ := hy
               have hkk := ks_ok hks
               have key0 := hkk _ (List.mem_cons_self ..)
               simp only [List.cons.injEq, and_true] at key0
               have hk1 : ∀ p ∈ k1, p.1 = p.2 := fun p hp => hkk p (List.mem_cons_of_mem _ (List.mem_append.2 (.inl hp)))
               have hk3 : ∀ p ∈ k3, p.1 = p.2 := fun p hp => hkk p (List.mem_cons_of_mem _ (List.mem_append.2 (.inr (List.mem_append.2 (.inl hp)))))
               have hkT : ∀ p ∈ kT, p.1 = p.2 := fun p hp => hkk p (List.mem_cons_of_mem _ (List.mem_append.2 (.inr (List.mem_append.2 (.inr (List.mem_append.2 (.inl hp)))))))
               have hkF : ∀ p ∈ kF, p.1 = p.2 := fun p hp => hkk p (List.mem_cons_of_mem _ (List.mem_append.2 (.inr (List.mem_append.2 (.inr (List.mem_append.2 (.inr hp)))))))
               have hnown : ∀ b, (σ1.ho b).own = false := fun b => by
                rcases Nat.lt_or_ge b σ1.h.length with h | h
                · have h2 := List.all_eq_true.1 htt σ1.h[b] (List.getElem_mem h)
                  have h3 : σ1.ho b = σ1.h[b] := by simp only [St.ho, List.getD_eq_getElem?_getD, List.getElem?_eq_getElem h]; rfl
                  rw [h3]
                  simpa using h2
                · have h3 : σ1.ho b = .dead := by simp only [St.ho, List.getD_eq_getElem?_getD, List.getElem?_eq_none h]; rfl
                  rw [h3]; rfl
               have hylt : y < ops.toList.length := by
                rcases Nat.lt_or_ge y ops.toList.length with h | h
                · exact h
                · rw [List.drop_of_length_le h] at hdrop; cases hdrop
               have hoy : ops[y]? = some o := by
                have h1 := List.drop_eq_getElem_cons hylt
                rw [hdrop] at h1
                injection h1 with h1 _
                rw [Array.getElem?_eq_getElem (by simpa using hylt), h1]
                simp
               have hdrop2 : ops.toList.drop (y + 1) = l2 := by
                have h1 := List.drop_eq_getElem_cons hylt
                rw [hdrop] at h1
                injection h1 with _ h1
                exact h1.symm
               intro w0 B D b a m w cs hC hfn hkd hd hM H
               obtain ⟨rfl, hDl, hJ⟩ := hC
               let Q : Exit → Act → World → Prop := fun e a' w' => e = .normal ∧ ∃ (w2 : World) (D' : Nat → Prop) (m' : Nat → Option Value), ((CD JT w2 (fun g => g < w2.heap.size) D' ∧ SOk (fun g => g < w2.heap.size) D' w2 (trim σ.h.length (keep ts bs σT2)) a' m' w') ∨ (CD JF w2 (fun g => g < w2.heap.size) D' ∧ SOk (fun g => g < w2.heap.size) D' w2 (trim σ.h.length (keep ts bs σF2)) a' m' w')) ∧ (∀ j, j < n → m' j = mc j ∧ mc j ≠ none) ∧ a'.defers = []
               have hwp : (Code.region id ops false).wpIn Fence.wide 0 P Q a w := by
                refine wpIn_region_list ?_
                have hsplit : ops.toList = ops.toList.take y ++ (o :: l2) := by rw [← hdrop, List.take_append_drop]
                have main := seqP_ok (P := P) (ops := ops) (B := fun g => g < w0.heap.size) (M := D) (w0 := w0) (nf := 0) WideF.wide hnd (fun _ _ m => ∀ j, j < n → m j = mc j ∧ mc j ≠ none) (fun _ _ _ _ _ _ g1 g2 j hj => io_mo g1 g2 j hj) (dfs := []) (Q := Q) (o :: l2) (ops.toList.take y) [] 0 σ σ1 fps sc sc1 k1 a m w (by rw [List.drop_zero]; exact hsplit) hr1 hk1 H hM hd
                rw [← hsplit] at main
                refine main fun a1 m1 w1 H1 hM1 hd1 => ?_
                have h2 : wpListIn Fence.wide 0 P ops Q (o :: l2) a1 w1 = wpOpIn Fence.wide 0 P ops Q y (wpListIn Fence.wide 0 P ops Q l2) a1 w1 := by
                 unfold wpOpIn
                 rw [hoy]
                 rfl
                rw [h2]
                have hw1 : Region.wanted o (yielded ops a1.tmps) = true := (want_ok hwant hk3).2 (fun j c d _ _ => H1.slot d)
                obtain ⟨t1, t2⟩ := thaw_ok (o := o) (σ := σ1) (fr := (thaw o σ1).2) (σ2 := (thaw o σ1).1) H1.K rfl (fun _ _ => rfl) ⟨fun t _ => H1.slot t, H1.K.gl⟩
                have hcv := t2.ev (x := x) (by rw [hop]; simp [Op.operands, Call.operands, hcx])
                rw [key0] at hcv
                have hops : ∀ z ∈ c.args.toList, z ∈ o.op.operands.toList := fun z hz => by
                 rw [hop]
                 simp only [Op.operands, Call.operands, hcx, Array.toList_append]
                 exact List.mem_append.2 (.inr hz)
                obtain ⟨v1, v2⟩ := argV_rep (w := w1) (A := Av D σ1.ho m1) (m := m1) (P := P) (σ := (thaw o σ1).1) (a := a1) c.args.toList c.argTypes.toList fun z hz => ⟨t2.ev (hops z hz), fun T => t2.evT (hops z hz)⟩
                have hlive : ∀ b ∈ kx, (σ1.ho b).own = true := exps_live (C := fun b => (σ1.ho b).own = true) (fun x y ks e => exp_live 5 x y ks e) _ vs2 kx hex
                obtain ⟨x1, x2⟩ := exps_rep (C := fun b => σ1.ho b = σ1.ho b ∧ ∀ v g, m1 b = some v → blk v = some g → ¬ D g) (fun x y ks e hc u hr => exp_rep (h0 := σ1.ho) (A' := D) H1.K (fun g hg => .inl hg) 5 x y ks e hc u hr) _ vs2 kx hex (fun b hb => ⟨rfl, fun v g _ _ _ => by
                 have := hlive b hb
                 rw [hnown b] at this; cases this⟩)
                have avD : ∀ {D' : Nat → Prop} {g}, Av D' σ1.ho m1 g → D' g := fun {D' g} h => h.elim (fun h => h) fun ⟨b, v, q, _⟩ => by rw [hnown b] at q; cases q
                have hreps : Reps w1 D no (c.args.map a1.eval) vs2 := by
                 refine ⟨by rw [x1, v1]; simp, fun j z hz => x2 j z hz _ fun q hq => ?_, H1.K.gl.mo (m := m1) (m' := m1) ⟨Nat.le_refl _, fun _ _ _ => rfl, fun g e => .inl (.inl e), fun _ _ e => e⟩⟩
                 have hlt := (List.getElem?_eq_some_iff.1 hq).1
                 rw [v1, Array.length_toList] at hlt
                 have h1 : c.args.toList[j]? = some c.args[j] := by simp [hlt]
                 have h2 := v2 j q hq _ h1
                 rw [Array.getD_eq_getD_getElem?, Array.getElem?_map, ← Array.getElem?_toList, h1]
                 exact h2
                refine yield_op2 hnd hoy hw1 hop hcx (Rep.k_inv hcv) (hY 0 _ w0 D w1 hJ hDl H1.bl.below hreps) fun e w' he => ?_
                obtain ⟨D', hDn, he⟩ := he
                have hmo : Mo w1 (Av D σ1.ho m1) m1 w' (Av D' σ1.ho m1) m1 := ⟨hDn.size, fun g hg hA => hDn.blk g hg fun e => hA (.inl e), fun g hg => (hDn.own g (avD hg)).elim (fun h => .inl (.inl h)) .inr, fun _ _ e => e⟩
                have S2 : ∀ r : Bool, SOk (fun g => g < w'.heap.size) D' w' ⟨σ1.t.set d (.k (.bool r)), σ1.h⟩ (a1.put o.dst (.bool r)) m1 w' := fun r => by
                 refine ⟨⟨fun b T l q => ?_, fun b T z l q => ?_, fun b x q => ?_, fun b b' v v' g q1 => ?_, fun g hg => hDn.lt g hg, fun g hg => hg, H1.K.gl.mo hmo⟩, ?_, ?_, fun i x hx => ?_, H1.nm, Bl.refl _ _⟩
                 · have := hnown b
                   have q : σ1.ho b = .bx T l := q
                   rw [q] at this; cases this
                 · have := hnown b
                   have q : σ1.ho b = .rw T z l := q
                   rw [q] at this; cases this
                 · obtain ⟨v, q1, q2⟩ := H1.K.fz b x q
                   exact ⟨v, q1, q2.mo ⟨hmo.size, hmo.blk, hmo.av, fun _ _ e => by cases e⟩⟩
                 · have q1 : (σ1.ho b).own = true := q1
                   rw [hnown b] at q1; cases q1
                 · rw [put_size.1, H1.sz]; simp
                 · rw [put_size.2, hd1]; exact DfOk.nil
                 · have hx : (σ1.t.set d (.k (.bool r)))[i]? = some x := hx
                   have hil := (List.getElem?_eq_some_iff.1 hx).1
                   rw [List.length_set] at hil
                   rw [put_get (by rw [H1.sz]; exact hil), hdst]
                   by_cases hdi : d = i
                   · subst hdi
                     rw [List.getElem?_set_self (by simpa using hil)] at hx
                     injection hx with hx
                     subst hx
                     rw [if_pos rfl]
                     exact .k _ _
                   · rw [List.getElem?_set_ne hdi] at hx
                     rw [if_neg (by simpa using hdi)]
                     exact (H1.tm i x hx).mo hmo
                have fin : ∀ (σ2 : St) (a2 : Act) (m3 : Nat → Option Value) (w3 : World), SOk (fun g => g < w'.heap.size) D' w' σ2 a2 m3 w3 → (∀ j, j < n → m3 j = mc j ∧ mc j ≠ none) → ∃ m4, SOk (fun g => g < w'.heap.size) D' w' (trim σ.h.length (keep ts bs σ2)) a2 m4 w3 ∧ ∀ j, j < n → m4 j = mc j ∧ mc j ≠ none := fun σ2 a2 m3 w3 H3 h3 => by
                 obtain ⟨m4, g2, _, H4⟩ := trim_ok (H3.keep ts bs) σ.h.length
                 exact ⟨m4, H4, fun j hj => by rw [g2 j (Nat.lt_of_lt_of_le hj (Nat.le_of_ble_eq_true hnq))]; exact h3 j hj⟩
                rcases he with ⟨rfl, hj⟩ | ⟨rfl, hj⟩
                · refine ⟨_, rfl, ?_⟩
                  have hl := seqP_ok (P := P) (ops := ops) (B := fun g => g < w'.heap.size) (M := D') (w0 := w') (nf := 0) WideF.wide hnd (fun _ _ m => ∀ j, j < n → m j = mc j ∧ mc j ≠ none) (fun _ _ _ _ _ _ g1 g2 j hj => io_mo g1 g2 j hj) (dfs := []) (Q := Q) [] l2 g (y + 1) _ _ fT scT [] kT (a1.put o.dst (.bool true)) m1 w' (by rw [hdrop2]; simp) hrT hkT (S2 true) hM1 (by rw [put_size.2, hd1])
                  rw [List.append_nil] at hl
                  refine hl fun a2 m3 w3 H3 h3 hd3 => ?_
                  obtain ⟨m4, H4, h4⟩ := fin _ _ _ _ H3 h3
                  exact ⟨rfl, w', D', m4, .inl ⟨⟨rfl, hDn.lt, hj⟩, H4⟩, h4, hd3⟩
                · refine ⟨_, rfl, ?_⟩
                  have hl := seqP_ok (P := P) (ops := ops) (B := fun g => g < w'.heap.size) (M := D') (w0 := w') (nf := 0) WideF.wide hnd (fun _ _ m => ∀ j, j < n → m j = mc j ∧ mc j ≠ none) (fun _ _ _ _ _ _ g1 g2 j hj => io_mo g1 g2 j hj) (dfs := []) (Q := Q) [] l2 g (y + 1) _ _ fF scF [] kF (a1.put o.dst (.bool false)) m1 w' (by rw [hdrop2]; simp) hrF hkF (S2 false) hM1 (by rw [put_size.2, hd1])
                  rw [List.append_nil] at hl
                  refine hl fun a2 m3 w3 H3 h3 hd3 => ?_
                  obtain ⟨m4, H4, h4⟩ := fin _ _ _ _ H3 h3
                  exact ⟨rfl, w', D', m4, .inr ⟨⟨rfl, hDn.lt, hj⟩, H4⟩, h4, hd3⟩
               obtain ⟨e', a', w', ⟨rfl, w2, D', m', hor, hM', hd'⟩, harr⟩ := wpIn_wide.1 hwp b k cs
               rcases hor with ⟨hC, H'⟩ | ⟨hC, H'⟩
               · obtain ⟨w3, fr, v, h3, h4, h5⟩ := hT w2 _ _ b a' m' w' cs hC hfn hkd hd' hM' H'
                 exact ⟨w3, fr, v, h3, .of_steps harr h4, h5⟩
               · obtain ⟨w3, fr, v, h3, h4, h5⟩ := hF w2 _ _ b a' m' w' cs hC hfn hkd hd' hM' H'
                 exact ⟨w3, fr, v, h3, .of_steps harr h4, h5⟩
             · cases hy
           · cases hy
         · cases hy
       · cases hy
     · cases hy
   · cases hy
 · cases hy
/-- What an iterator is worth, from a world: it yields the values of a list. -/
def SeqD (P : Program) (gf : FuncId) (lb : Array Value) {α : Type} (eV : α → List V) (D0 : Nat → Prop) (S Sp : List α → Prop) (N : List α → α → Prop) (w : World) : Prop :=
 ∀ (l : Nat) (J Jx : SD α → World → Prop) (W : World), Below w.heap.size w W → AbidesFrom W.heap.size J → AbidesFrom W.heap.size Jx →
 (∀ nf pre x u Wl D W1, N pre x → J (pre, D) Wl → (∀ g, D g → g < Wl.heap.size) → Below Wl.heap.size Wl W1 → Reps W1 D no u (eV x) → YieldAt Fence.wide nf P l u W1 fun e W' => ∃ D', Dn D D' W1 W' ∧ ((e = .returned (.bool true) ∧ J (pre ++ [x], D') W') ∨ (e = .returned (.bool false) ∧ Jx (pre ++ [x], D') W'))) →
 J ([], D0) W → Calls P gf (#[.func (.yield l) #[] #[]] ++ lb) W fun e W' => (∃ v, e = .returned v) ∧ ((∃ xs D', S xs ∧ J (xs, D') W') ∨ (∃ pre D', Sp pre ∧ Jx (pre, D') W'))
def IterD (P : Program) (gf : FuncId) (caps : List V) {α : Type} (eV : α → List V) (S Sp : List α → Prop) (N : List α → α → Prop) : Prop :=
 (∀ args w, (callFunc gf args).run P w = .ok (.enter gf args) w) ∧ ∀ (w : World) (D : Nat → Prop) (lb : Array Value), (∀ g, D g → g < w.heap.size) → Reps w D no lb caps → SeqD P gf lb eV D S Sp N w
theorem cd_end {β : Type} {B0 : Nat} {J : β × (Nat → Prop) → World → Prop} (hJ : AbidesFrom B0 J) {s : β} {w0 w : World} {B M : Nat → Prop} (hC : CD (fun D W => J (s, D) W) w0 B M) (h : Bl B w0 w) : ∃ D, J (s, D) w := by
 obtain ⟨rfl, _, hj⟩ := hC
 exact ⟨M, hJ (s, M) w0 w none hj (below_gr h.below) fun r e => by cases e⟩
theorem IterD.of {gf : FuncId} {fn : Func} {caps : List V} (hf : P.funcs[gf]? = some fn) (hb : fn.body.isSome = true) (hok : okF P gf) {α : Type} {eV : α → List V} {S Sp : List α → Prop} {N : List α → α → Prop}
 (h : ∀ (lb : Array Value) (l B0 : Nat) (J Jx : SD α → World → Prop), lb.size = caps.length → AbidesFrom B0 J → AbidesFrom B0 Jx →
  (∀ nf pre x u Wl D W1, N pre x → J (pre, D) Wl → (∀ g, D g → g < Wl.heap.size) → Below Wl.heap.size Wl W1 → Reps W1 D no u (eV x) → YieldAt Fence.wide nf P l u W1 fun e W' => ∃ D', Dn D D' W1 W' ∧ ((e = .returned (.bool true) ∧ J (pre ++ [x], D') W') ∨ (e = .returned (.bool false) ∧ Jx (pre ++ [x], D') W'))) →
  GG P gf caps.length (fun i => lb[i]?) (CD fun D W => J ([], D) W) (fun w' => (∃ xs D', S xs ∧ J (xs, D') w') ∨ ∃ pre D', Sp pre ∧ Jx (pre, D') w') (body fn) (st0Y fn l caps)) : IterD P gf caps eV S Sp N := by
 refine ⟨fun args w => hok args w, fun w D lb hDl hr l J Jx W hW aJ aJx hY hJ cs => ?_⟩
 obtain ⟨c, hc⟩ := Option.isSome_iff_exists.1 hb
 have hg := h lb l W.heap.size J Jx hr.1 aJ aJx hY
 let b : Frame := { (default : Frame) with fn := gf, kind := .normal }
 let args : Array Value := #[.func (.yield l) #[] #[]] ++ lb
 have henter : Frame.enter P gf args .normal = b.at { tmps := args ++ Array.replicate (fn.ntmps - args.size) undef, defers := [] } [.code c] := by
  simp [Frame.enter, Frame.at, hf, hc, b]
 have hbody : body fn = [.code c] := by simp [body, hc]
 rw [hbody] at hg
 have hsz : args.size = caps.length + 1 := by simp [args, hr.1, Nat.add_comm]
 have hlb : ∀ i, i < caps.length → ∃ v, lb[i]? = some v ∧ args.getD (i + 1) undef = v ∧ lb.getD i undef = v := fun i hi => by
  have hil : i < lb.size := by rw [hr.1]; exact hi
  refine ⟨lb[i], Array.getElem?_eq_getElem hil, ?_, ?_⟩
  · simp only [args]
    rw [Array.getD_eq_getD_getElem?, Array.getElem?_append_right (by simp)]
    simp [hil]
  · rw [Array.getD_eq_getD_getElem?, Array.getElem?_eq_getElem hil]; rfl
 have hcd : ∀ j, j < caps.length → ∃ x, caps[j]? = some x ∧ (caps.map HO.fz).getD j .dead = .fz x := fun j hj => ⟨caps[j], List.getElem?_eq_getElem hj, by rw [List.getD_eq_getElem?_getD, List.getElem?_map, List.getElem?_eq_getElem hj]; rfl⟩
 have hfz : ∀ j, ((caps.map HO.fz).getD j .dead).own = false := fun j => by
  rcases Nat.lt_or_ge j caps.length with hj | hj
  · obtain ⟨x, _, q⟩ := hcd j hj
    rw [q]; rfl
  · rw [List.getD_eq_getElem?_getD, List.getElem?_eq_none (by simpa using hj)]; rfl
 let m : Nat → Option Value := fun i => lb[i]?
 have hav : ∀ g, Av D (fun b => (caps.map HO.fz).getD b .dead) m g → D g := fun g hg => hg.elim id fun ⟨b, v, q1, _⟩ => by rw [hfz b] at q1; cases q1
 have hmo : Mo w D no W (Av D (fun b => (caps.map HO.fz).getD b .dead) m) no := ⟨hW.size, fun g hg _ => hW.block g hg, fun g hg => .inl (hav g hg), fun _ _ e => by cases e⟩
 have hS : SOk (fun g => g < W.heap.size) D W (st0Y fn l caps) { tmps := args ++ Array.replicate (fn.ntmps - args.size) undef, defers := [] } m W := by
  refine ⟨⟨fun b T l q => ?_, fun b T z l q => ?_, fun b x q => ?_, fun b b' v v' g q1 => ?_, fun g hg => Nat.lt_of_lt_of_le (hDl g hg) hW.size, fun g hg => hg, hr.3.mo hmo⟩, ?_, DfOk.nil, fun i x hx => ?_, fun b hb => ?_, Bl.refl _ _⟩
  · have := hfz b
    have q : (caps.map HO.fz).getD b .dead = .bx T l := q
    rw [q] at this; cases this
  · have := hfz b
    have q : (caps.map HO.fz).getD b .dead = .rw T z l := q
    rw [q] at this; cases this
  · have q : (caps.map HO.fz).getD b .dead = .fz x := q
    have hbl : b < caps.length := by
     rcases Nat.lt_or_ge b caps.length with h | h
     · exact h
     · rw [List.getD_eq_getElem?_getD, List.getElem?_eq_none (by simpa using h)] at q; cases q
    obtain ⟨x', q1, q2⟩ := hcd b hbl
    rw [q] at q2
    injection q2 with q2
    subst q2
    obtain ⟨v, q3, _, q4⟩ := hlb b hbl
    have := hr.2 b x q1
    rw [q4] at this
    exact ⟨v, q3, this.mo hmo⟩
  · have q1 : ((caps.map HO.fz).getD b .dead).own = true := q1
    rw [hfz b] at q1; cases q1
  · simp [st0Y, hsz]; omega
  · have hx : (V.k (.func (.yield l) #[] #[]) :: ((List.range caps.length).map .nm ++ List.replicate (fn.ntmps - (caps.length + 1)) .un))[i]? = some x := hx
    show Rep _ _ _ ((args ++ Array.replicate (fn.ntmps - args.size) undef).getD i undef) _
    cases i with
    | zero =>
      simp only [List.getElem?_cons_zero, Option.some.injEq] at hx
      subst hx
      have : (args ++ Array.replicate (fn.ntmps - args.size) undef).getD 0 undef = .func (.yield l) #[] #[] := by
       rw [Array.getD_eq_getD_getElem?, Array.getElem?_append_left (by omega)]
       simp only [args]
       rw [Array.getElem?_append_left (by simp)]
       rfl
      rw [this]
      exact .k _ _
    | succ i =>
      simp only [List.getElem?_cons_succ] at hx
      rcases Nat.lt_or_ge i caps.length with hi | hi
      · rw [List.getElem?_append_left (by simpa using hi), List.getElem?_map, List.getElem?_range hi] at hx
        simp only [Option.map_some, Option.some.injEq] at hx
        subst hx
        obtain ⟨v, q1, q2, _⟩ := hlb i hi
        have : (args ++ Array.replicate (fn.ntmps - args.size) undef).getD (i + 1) undef = v := by
         rw [Array.getD_eq_getD_getElem?, Array.getElem?_append_left (by omega), ← Array.getD_eq_getD_getElem?]
         exact q2
        rw [this]
        exact .nm _ _ _ q1
      · rw [List.getElem?_append_right (by simpa using hi), List.getElem?_replicate] at hx
        split at hx
        · injection hx with hx; subst hx; exact .un _ _
        · cases hx
  · rcases Nat.lt_or_ge b caps.length with h | h
    · show b < (caps.map HO.fz).length
      simpa using h
    · exact absurd (Array.getElem?_eq_none (by rw [hr.1]; exact h)) hb
 obtain ⟨w', fr, v, h3, h4, h5⟩ := hg W (fun g => g < W.heap.size) D b { tmps := args ++ Array.replicate (fn.ntmps - args.size) undef, defers := [] } m W cs ⟨rfl, fun g hg => Nat.lt_of_lt_of_le (hDl g hg) hW.size, hJ⟩ rfl rfl rfl (fun j hj => ⟨rfl, by
  obtain ⟨v, q, _⟩ := hlb j hj
  show lb[j]? ≠ none
  rw [q]; intro e; cases e⟩) hS
 exact ⟨.returned v, w', fr, ⟨⟨v, rfl⟩, h3⟩, by rw [henter]; exact h4, h5⟩
end
end Go.Proofs.YtbaggkbleehegaaGreat.E
