/-
 ITERATORS by the engine, 1: regions that end in a yield; runs with a context.
-/
import Derived.Test.YtlgnagnmoleeiaaGreatEuB
namespace Go.Proofs.YtlgnagnmoleeiaaGreat.E
open Go.RowKit
set_option linter.unusedVariables false
set_option linter.unusedSimpArgs false
section
variable {P : Program} {ops : Array Oper} {B M : Nat → Prop} {w0 : World}
/-- Operations in a row, ahead of others. -/
theorem seqP_ok {Fx : Fence} {nf : Nat} (hFx : WideF Fx) (hnd : nodef ops = true) (E : World → (Nat → Prop) → (Nat → Option Value) → Prop) (hE : ∀ w A m w' A' m', E w A m → Mo w A m w' A' m' → E w' A' m') {dfs : List Deferred} {Q : Exit → Act → World → Prop} (rest : List Oper) : ∀ (l : List Oper) (g : List (Nat × Bool)) (k : Nat) (σ σ' : St) (fps : List Fp) (sc sc' : List (Fa P)) (ks : Ks) (a : Act) (m : Nat → Option Value) (w : World), ops.toList.drop k = l ++ rest → regR P ops l g σ sc = some (σ', fps, sc', ks) → (∀ p ∈ ks, p.1 = p.2) →
  SOk B M w0 σ a m w → E w (Av M σ.ho m) m → a.defers = dfs → (∀ a m w, SOk B M w0 σ' a m w → E w (Av M σ'.ho m) m → a.defers = dfs → wpListIn Fx nf P ops Q rest a w) → wpListIn Fx nf P ops Q (l ++ rest) a w
 | [], g, k, σ, σ', fps, sc, sc', ks, a, m, w, _, e, _, H, h0, hds, hQ => by
  simp only [regR, Option.some.injEq, Prod.mk.injEq] at e
  obtain ⟨rfl, rfl, rfl, rfl⟩ := e
  exact hQ a m w H h0 hds
 | o :: r, g, k, σ, σ', fps, sc, sc', ks, a, m, w, hl, e, hk, H, h0, hds, hQ => by
  unfold regR at e
  split at e
  · rename_i g1 σ1 fp sc1 k1 hs
    split at e
    · rename_i σ2 fps2 sc2 k2 hr
      simp only [Option.some.injEq, Prod.mk.injEq] at e
      obtain ⟨rfl, rfl, rfl, rfl⟩ := e
      have hkl : k < ops.toList.length := by
       rcases Nat.lt_or_ge k ops.toList.length with h | h
       · exact h
       · rw [List.drop_of_length_le h] at hl; cases hl
      have hkl' : k < ops.size := by simpa using hkl
      rw [List.drop_eq_getElem_cons hkl] at hl
      injection hl with hl1 hl2
      have ho : ops[k]? = some o := by rw [Array.getElem?_eq_getElem hkl', ← hl1]; simp
      obtain ⟨v, ws, rfl, hf, hst⟩ := stepR_ok (B := B) (M := M) hs fun p hp => hk p (by simp [hp])
      have h1 := hst a w σ.ho m H.K ⟨fun t _ => H.slot t, H.K.gl⟩ (fun j c d _ _ => H.slot d) (fun _ _ => rfl) (fun _ _ _ => rfl) (fun b _ hb => ⟨by simp only [St.ho, List.getD_eq_getElem?_getD, List.getElem?_eq_none hb]; rfl, by
       cases hm : m b with
       | none => rfl
       | some x => have := H.nm b (by rw [hm]; intro e; cases e); omega⟩)
      have h2 : wpListIn Fx nf P ops Q (o :: (r ++ rest)) a w = wpOpIn Fx nf P ops Q k (wpListIn Fx nf P ops Q (r ++ rest)) a w := by
       unfold wpOpIn
       rw [ho]
       rfl
      show wpListIn Fx nf P ops Q (o :: (r ++ rest)) a w
      rw [h2]
      refine wpOp_of hFx hnd ho h1 fun u w' hp => ?_
      obtain ⟨m', H', hmo⟩ := H.step (o := o) hp
      exact seqP_ok hFx hnd E hE rest r _ (k + 1) _ _ _ _ _ _ _ m' w' hl2 hr (fun p hp => hk p (by simp [hp])) H' (hE _ _ _ _ _ _ h0 hmo) (put_size.2.trans hds) hQ
    · cases e
  · cases e
/-- A yield. -/
theorem yield_op {nf : Nat} {Q : Exit → Act → World → Prop} {R : Ending → World → Prop} {i : Nat} {o : Oper} {K : Act → World → Prop} {a : Act} {w : World} {c : Call} {x : Operand} {l : Nat} (hnd : nodef ops = true) (ho : ops[i]? = some o) (hg : o.guard = none) (hc : o.op = .call c) (hx : c.callee = .value x) (hv : a.eval x = .func (.yield l) #[] #[])
  (hY : YieldAt Fence.wide (nf - 1) P l (c.args.map a.eval) w R) (hK : ∀ e w', R e w' → ∃ v, e = .returned v ∧ K (a.put o.dst v) w') : wpOpIn Fence.wide nf P ops Q i K a w := by
 obtain ⟨fn, tmps, assign, body, hy, hR⟩ := hY
 unfold wpOpIn
 rw [ho]
 have hw : Region.wanted o (yielded ops a.tmps) = true := wanted_none hg
 simp only [hw, if_true]
 unfold Oper.wpIn
 refine ⟨fun f _ => trivial, ?_⟩
 rw [Oper.semAt_plain _ _ _ (nodef_at hnd ho)]
 have hex : (execOp a.eval o).run P w = .ok (.round l fn tmps assign body) w := by
  simp [execOp, hc, resolve, hx, hv, Deferred.ofValue, invoke, hy]
 rw [hex]
 refine ⟨fun h => by simp [Fence.wide] at h, hR.mono fun e w' he => ?_⟩
 obtain ⟨v, rfl, h2⟩ := hK e w' he
 exact h2
/-- From a state, in a context, the function returns, and R holds. -/
def GG (P : Program) (f : FuncId) (n : Nat) (mc : Nat → Option Value) (C : World → (Nat → Prop) → (Nat → Prop) → Prop) (R : World → Prop) (td : List Item) (σ : St) : Prop :=
 ∀ (w0 : World) (B M : Nat → Prop) (b : Frame) (a : Act) (m : Nat → Option Value) (w : World) (cs : List Frame), C w0 B M → b.fn = f → b.kind = .normal → a.defers = [] → (∀ j, j < n → m j = mc j ∧ mc j ≠ none) → SOk B M w0 σ a m w →
  ∃ w' fr v, R w' ∧ Comes P (lone (b.at a td) cs w) (lone fr cs w') (.returned v) ∧ fr.fn = f ∧ fr.leaving P w' (.returned v)
variable {f : FuncId} {n : Nat} {mc : Nat → Option Value} {C : World → (Nat → Prop) → (Nat → Prop) → Prop} {R : World → Prop}
theorem GG.of_step {td td' : List Item} {σ : St} (h : GG P f n mc C R td' σ) (hs : ∀ (b : Frame) (a : Act) (cs : List Frame) (w : World), a.tmps.size = σ.t.length → step P (lone (b.at a td) cs w) = .next (lone (b.at a td') cs w)) : GG P f n mc C R td σ := by
 intro w0 B M b a m w cs hC hf hk hd hM H
 obtain ⟨w', fr, v, h1, h2, h3⟩ := h w0 B M b a m w cs hC hf hk hd hM H
 exact ⟨w', fr, v, h1, .of_steps (.one (hs b a cs w H.sz)) h2, h3⟩
theorem runG_ok (hm : P.follows .mixedOrders = true) : ∀ (q : Nat) (td td' : List Item) (σ σ' : St) (sc sc' : List (Fa P)) (ks : Ks), run P q td σ sc = .at_ td' σ' sc' ks → (∀ p ∈ ks, p.1 = p.2) → GG P f n mc C R td' σ' → GG P f n mc C R td σ := by
 intro q
 induction q with
 | zero => intro td td' σ σ' sc sc' ks e; cases e
 | succ q ih =>
   intro td td' σ σ' sc sc' ks e hk hg
   have hsame : Out.at_ (P := P) td σ sc [] = .at_ td' σ' sc' ks → GG P f n mc C R td σ := by
    intro e
    simp only [Out.at_.injEq] at e
    obtain ⟨rfl, rfl, rfl, rfl⟩ := e
    exact hg
   cases td with
   | nil => exact hsame (by simpa only [run] using e)
   | cons x k =>
     cases x with
     | inBlock id =>
       simp only [run] at e
       exact (ih _ _ _ _ _ _ _ e hk hg).of_step fun b a cs w _ => step_inBlock
     | inScope id =>
       simp only [run] at e
       exact (ih _ _ _ _ _ _ _ e hk hg).of_step fun b a cs w _ => step_inScope
     | inLoop c =>
       simp only [run, Out.at_.injEq] at e
       obtain ⟨rfl, rfl, rfl, rfl⟩ := e
       exact hg.of_step fun b a cs w _ => step_inLoop
     | code c =>
       cases c with
       | skip =>
         simp only [run] at e
         exact (ih _ _ _ _ _ _ _ e hk hg).of_step fun b a cs w _ => step_skip
       | label l =>
         simp only [run] at e
         exact (ih _ _ _ _ _ _ _ e hk hg).of_step fun b a cs w _ => step_label
       | scope c =>
         simp only [run] at e
         exact (ih _ _ _ _ _ _ _ e hk hg).of_step fun b a cs w _ => step_scope
       | seq x y =>
         simp only [run] at e
         exact (ih _ _ _ _ _ _ _ e hk hg).of_step fun b a cs w _ => step_seq
       | block id c =>
         simp only [run] at e
         exact (ih _ _ _ _ _ _ _ e hk hg).of_step fun b a cs w _ => step_block
       | exit id =>
         simp only [run] at e
         split at e
         · rename_i k' hk'
           exact (ih _ _ _ _ _ _ _ e hk hg).of_step fun b a cs w _ => step_exit hk'
         · cases e
       | loop c =>
         simp only [run, Out.at_.injEq] at e
         obtain ⟨rfl, rfl, rfl, rfl⟩ := e
         exact hg.of_step fun b a cs w _ => step_loop
       | ret => exact hsame (by simpa only [run] using e)
       | rangeFunc f p x y => exact hsame (by simpa only [run] using e)
       | cond c x y =>
         simp only [run] at e
         split at e
         · rename_i t t0 b0 hb sc1 hc
           obtain ⟨k2, h1, rfl⟩ := add_at e
           have hkey := hk _ (List.mem_append.2 (.inl (List.mem_singleton.2 rfl)))
           simp only [List.cons.injEq, V.k.injEq, Value.bool.injEq, and_true] at hkey
           subst hkey
           have h2 := ih _ _ _ _ _ _ _ h1 (fun p hp => hk p (List.mem_append.2 (.inr hp))) hg
           intro w0 B M b a m w cs hC hf hkd hd hM H
           obtain ⟨w', fr, v, h3, h4, h5⟩ := h2 w0 B M b a m w cs hC hf hkd hd hM H
           have hv := ev_rep (a := a) (x := c) (σ := σ) (w := w) (A := Av M σ.ho m) (m := m) H.K.gl fun t0 _ => H.slot t0
           rw [hc] at hv
           refine ⟨w', fr, v, h3, .of_steps (.one (step_cond (Rep.k_inv hv))) ?_, h5⟩
           rw [hb]
           cases b0 <;> exact h4
         · exact hsame e
       | region id ops dr =>
         simp only [run] at e
         split at e
         · rename_i σ1 fps sc1 k1 hr
           split at e
           · rename_i hc
             obtain ⟨k2, h1, rfl⟩ := add_at e
             have h2 := ih _ _ _ _ _ _ _ h1 (fun p hp => hk p (List.mem_append.2 (.inr hp))) hg
             have hk1 : ∀ p ∈ k1, p.1 = p.2 := fun p hp => hk p (List.mem_append.2 (.inl hp))
             intro w0 B M b a m w cs hC hf hkd hd hM H
             have hwp := wpIn_wide.1 (region_ok (nf := 0) (id := id) hm WideF.wide hr hk1 hc (fun _ _ m => ∀ j, j < n → m j = mc j ∧ mc j ≠ none) (fun _ _ _ _ _ _ g1 g2 j hj => io_mo g1 g2 j hj) H hM rfl)
             obtain ⟨e', a', w', ⟨rfl, m', H', hM', hd'⟩, harr⟩ := hwp b k cs
             obtain ⟨w2, fr, v, h3, h4, h5⟩ := h2 w0 B M b a' m' w' cs hC hf hkd (hd'.trans hd) hM' H'
             exact ⟨w2, fr, v, h3, .of_steps harr h4, h5⟩
           · exact hsame e
         · exact hsame e
       | _ => simp [run] at e
     | _ => simp [run] at e
theorem GG.to (hm : P.follows .mixedOrders = true) {td td' : List Item} {σ σ' : St} (gs : List Gh) (ts bs : List Nat) (q : Nat) (sc : List (Fa P)) (h : GG P f n mc C R td' σ') (e : metL n gs ts bs q (run P 5000 td σ sc) = toldL td' σ' (run P 5000 td σ sc)) : GG P f n mc C R td σ := by
 cases hr : run P 5000 td σ sc with
 | bad => rw [hr] at e; cases e
 | at_ td2 σ2 sc2 ks =>
   rw [hr] at e
   cases sc2 with
   | nil =>
     simp only [metL, toldL, Prod.mk.injEq, Bool.and_eq_true] at e
     obtain ⟨⟨e0, e2⟩, e1, rfl, rfl⟩ := e
     refine runG_ok hm _ _ _ _ _ _ _ _ hr (ks_ok e1) fun w0 B M b a m w cs hC h1 h2 hd h3 H => ?_
     obtain ⟨m', H', g1⟩ := ghs_ok gs e0 H
     obtain ⟨m2, g2, _, H2⟩ := trim_ok (H'.keep ts bs) q
     exact h w0 B M b a m2 w cs hC h1 h2 hd (io_eq (io_eq h3 g1) fun j hj _ => g2 j (Nat.lt_of_lt_of_le hj (Nat.le_of_ble_eq_true e2))) H2
   | cons => cases e
theorem GG.loop {α : Type} (X : α → St) (J : α → Prop) (μ : α → Nat) {Ct : α → World → (Nat → Prop) → (Nat → Prop) → Prop} {td : List Item} (h : ∀ x, J x → (∀ y, J y → μ y < μ x → GG P f n mc (Ct y) R td (X y)) → GG P f n mc (Ct x) R td (X x)) (x : α) (hx : J x) : GG P f n mc (Ct x) R td (X x) := by
 have key : ∀ q x, μ x = q → J x → GG P f n mc (Ct x) R td (X x) := by
  intro q
  induction q using Nat.strongRecOn with
  | _ q ih => exact fun x hn hj => h x hj fun y hy hlt => ih (μ y) (hn ▸ hlt) y rfl hy
 exact key _ x rfl hx
variable {fn : Func}
theorem GG.fin (hf : P.funcs[f]? = some fn) (hres : fn.results = #[]) {td : List Item} {σ : St} (he : isEnd td = true) (hR : ∀ w0 B M w, C w0 B M → Bl B w0 w → R w) : GG P f n mc C R td σ := by
 intro w0 B M b a m w cs hC hfn hkd hd hM H
 have hfin : ∀ fr : Frame, Steps P (lone (b.at a td) cs w) (lone fr cs w) → fr.mode = .returning → fr.defers = a.defers → fr.kind = .normal → fr.fn = f → fr.tmps = a.tmps → ∃ w' fr v, R w' ∧ Comes P (lone (b.at a td) cs w) (lone fr cs w') (.returned v) ∧ fr.fn = f ∧ fr.leaving P w' (.returned v) := by
  intro fr hc q1 q2 q3 q4 q5
  exact ⟨w, fr, _, hR w0 B M w hC H.bl, hc, q4, q1, q2.trans hd, q3, fn, by rw [q4]; exact hf, results_none hres _ _ _⟩
 cases td with
 | nil => exact hfin _ (Steps.one step_end) rfl rfl hkd hfn rfl
 | cons x k =>
   cases x with
   | code c =>
     cases c with
     | ret => exact hfin _ (Steps.one step_ret) rfl rfl hkd hfn rfl
     | _ => cases he
   | _ => cases he
end
end Go.Proofs.YtlgnagnmoleeiaaGreat.E
