/-
 none
-/
import Derived.Test.YtnpdpjfdgialeaaGreatDoorEmY
import Derived.Lib.SliceRun
namespace Go.Proofs.YtnpdpjfdgialeaaGreatDoor.E
open Go.RowKit
set_option linter.unusedVariables false
section
variable {w w' : World} {A A' : Nat → Prop} {m m' : Nat → Option Value}
/-- Cells stay. -/
def Ck (w w' : World) : Prop := w.heap.size ≤ w'.heap.size ∧ ∀ (b : Nat) (cs : Array Value) (T : TypeId) (fr : Nat × Nat), w.heap[b]? = some (.cells cs T fr) → w'.heap[b]? = some (.cells cs T fr)
theorem Rep.ck (hs : Ck w w') {v : Value} {x : V} (h : Rep w A m v x) : Rep w' A m v x := by
 have hb : ∀ b, CB w b → w'.heap[b]? = w.heap[b]? := fun b ⟨cs, T, fr, hb⟩ => (hs.2 _ _ _ _ hb).trans hb.symm
 have hcb : ∀ b, CB w b → CB w' b := fun b ⟨cs, T, fr, h1⟩ => ⟨cs, T, fr, hs.2 _ _ _ _ h1⟩
 induction h with
 | k m v => exact .k _ v
 | un m v => exact .un _ v
 | sl m a b o c z l us h1 h2 h3 h4 h5 h6 ih =>
   have hl : ∀ {i cs}, l[i]? = some cs → 0 < l.length := fun {i cs} e => by have := (List.getElem?_eq_some_iff.1 e).1; omega
   exact .sl _ a b o c z l us h1 h2 (fun hn => ⟨(h3 hn).1, (h3 hn).2.1, hcb b (h3 hn).2.2⟩) h4 (fun i j cs x e1 e2 => (World.cell?_of_block (a := ⟨b, _, none⟩) (hb b (h3 (hl e1)).2.2)).trans (h5 i j cs x e1 e2)) ih
 | ip m b o l us h3 h4 h5 h6 ih => exact .ip _ b o l us h3 (hcb b h4) (fun j x e => (World.cell?_of_block (a := ⟨b, _, none⟩) (hb b h4)).trans (h5 j x e)) ih
 | lp m b o g' h => exact .lp _ b o g' h
 | rp m b z i o g' n c h => exact .rp _ b z i o g' n c h
 | ow m b a n c h => exact .ow _ b a n c h
 | os m b z i j g' n c h h1 h2 => exact .os _ b z i j g' n c h h1 h2
 | ag m cs l h h6 ih => exact .ag _ cs l h ih
 | tu m cs l h h6 ih => exact .tu _ cs l h ih
 | cl m f cs l h h6 ih => exact .cl _ f cs l h ih
 | nl m => exact .nl _
 | nm m b v h => exact .nm _ b v h
 | bs m b o n c g' h => exact .bs _ b o n c g' h
theorem Ok.ck {B : Nat → Prop} {M : Nat → Prop} {h : Nat → HO} (hs : Ck w w') (K : Ok B M h m w) : Ok B M h m w' := by
 refine ⟨fun b T l e => ?_, fun b T z l e => ?_, fun b x e => ?_, K.inj, K.mb, fun g hg => Nat.lt_of_lt_of_le (K.bs g hg) hs.1, fun p hp => (K.gl p hp).ck hs⟩
 · obtain ⟨g', cs, h1, h2, h3, h4, h5⟩ := K.bx b T l e
   exact ⟨g', cs, h1, h2, hs.2 _ _ _ _ h3, h4, fun j x hx => (h5 j x hx).ck hs⟩
 · obtain ⟨v, xs, h1, h2, h3, h0, h4⟩ := K.rw b T z l e
   refine ⟨v, xs, h1, h2, ⟨h3.1, ?_⟩, h0, fun j x hx => (h4 j x hx).ck hs⟩
   rcases h3.2 with h5 | ⟨g', cap, cur, h5, hB, hh, r⟩
   · exact .inl h5
   · exact .inr ⟨g', cap, cur, h5, hB, hs.2 _ _ _ _ hh, r⟩
 · obtain ⟨v, h1, h2⟩ := K.fz b x e
   exact ⟨v, h1, h2.ck hs⟩
theorem ck_of {row : Option Nat} (hg : w.grownBy w' row) (hr : ∀ r, row = some r → ∃ o : Obj, w.heap[r]? = some o ∧ o.isCells = false) : Ck w w' := by
 refine ⟨hg.size, fun b cs T fr hb => ?_⟩
 rw [hg.block b (Array.getElem?_eq_some_iff.1 hb).1 fun e => ?_]
 · exact hb
 · obtain ⟨o, h1, h2⟩ := hr b e.symm
   rw [hb] at h1
   injection h1 with h1
   subst h1
   cases h2
theorem SOk.grown {B : Nat → Prop} {B1 : Nat} {M : Nat → Prop} {w0 : World} {σ : St} {a : Act} {row : Option Nat} (H : SOk B M w0 σ a m w) (hB : ∀ g, B g → g < B1) (hd : ∀ D, mark D ∈ a.defers → D < B1) (hg : w.grownBy w' row) (hr : ∀ r, row = some r → B1 ≤ r ∧ ∃ o : Obj, w.heap[r]? = some o ∧ o.isCells = false) : SOk B M w0 σ a m w' := by
 have hs := ck_of hg fun r e => (hr r e).2
 refine ⟨H.K.ck hs, H.sz, ?_, fun i x hx => (H.tm i x hx).ck hs, H.nm, H.bl.trans ⟨hg.os, hg.tape, hg.output, hg.size, fun k hk => hg.block k (H.K.bs k hk) fun e => ?_⟩⟩
 · obtain ⟨Ds, h0, hn, h⟩ := H.df
   refine ⟨Ds, h0, hn, fun D hD => ?_⟩
   obtain ⟨h1, h2, h3⟩ := h D hD
   refine ⟨h1, ?_, h3⟩
   rw [hg.block D (Array.getElem?_eq_some_iff.1 h2).1 fun e => ?_]
   · exact h2
   · have h4 := hd D ((List.mem_filter.1 (by rw [h0]; exact List.mem_map.2 ⟨D, hD, rfl⟩ : mark D ∈ a.defers.filter isMark)).1)
     have := (hr D e.symm).1
     omega
 · have := (hr k e.symm).1
   have := hB k hk
   omega
end
section
variable {P : Program} {B : Nat → Prop} {M : Nat → Prop} {w0 : World} {Fx : Fence} {nf : Nat}
def isFzG : Gh → Bool
 | .fz _ => true
 | _ => false
theorem fzs_ok : ∀ (gs : List Gh) {σ : St} {a : Act} {m : Nat → Option Value} {w : World}, gs.all isFzG = true → SOk B M w0 σ a m w → SOk B M w0 (gs.foldl gh σ) a m w ∧ Mo w (Av M σ.ho m) m w (Av M (gs.foldl gh σ).ho m) m
 | [], σ, a, m, w, _, H => ⟨H, Mo.refl⟩
 | g :: r, σ, a, m, w, h, H => by
  simp only [List.all_cons, Bool.and_eq_true] at h
  cases g with
  | fz t =>
    obtain ⟨h1, h2⟩ := fz_ok H t
    obtain ⟨h3, h4⟩ := fzs_ok r h.2 h1
    exact ⟨h3, h2.trans h4⟩
  | _ => cases h.1
/-- A piece of code goes from a state to a state over the same memory. -/
def Rn (P : Program) (n : Nat) (c : Code) (σ : St) (e : Exit) (σ' : St) : Prop :=
 ∃ (sc : List (Fa P)) (ks : Ks) (σ2 : St) (gs : List Gh), runC P 5000 c σ sc = some (e, σ2, [], ks) ∧ (∀ p ∈ ks, p.1 = p.2) ∧ gs.all isFzG = true ∧ trim n (gs.foldl gh σ2) = σ'
theorem Rn_ok (hm : P.follows .mixedOrders = true) (hFx : WideF Fx) {n : Nat} {c : Code} {σ σ' : St} {e : Exit} {a : Act} {m : Nat → Option Value} {w : World} (hn : σ.h.length = n) (h : Rn P n c σ e σ') (H : SOk B M w0 σ a m w) :
  c.wpIn Fx nf P (fun e' a' w' => e' = e ∧ ∃ m', SOk B M w0 σ' a' m' w' ∧ Mo w (Av M σ.ho m) m w' (Av M σ'.ho m') m' ∧ a'.defers = a.defers) a w := by
 obtain ⟨sc, ks, σ2, gs, h1, h2, h3, rfl⟩ := h
 refine wpIn_mono (runC_ok hm hFx (fun w' A' m' => Mo w (Av M σ.ho m) m w' A' m') (fun _ _ _ _ _ _ h g => h.trans g) _ _ _ _ _ _ _ _ _ _ _ h1 h2 H Mo.refl rfl) ?_
 rintro e' a' w' ⟨rfl, m2, H2, hmo, hdf⟩
 obtain ⟨H3, hmo3⟩ := fzs_ok gs h3 H2
 obtain ⟨m', q1, q2, H4⟩ := trim_ok H3 n
 have hmo4 := hmo.trans hmo3
 refine ⟨rfl, m', H4, ⟨hmo4.size, hmo4.blk, fun g e => ?_, fun b v e => ?_⟩, hdf⟩
 · exact (q2.av g e).elim (hmo4.av g) fun h => .inr (Nat.le_trans hmo4.size h)
 · have := H.nm b (by rw [e]; intro e; cases e)
   rw [q1 b (by omega)]
   exact hmo4.mm b v e
/-- The parameters of a round. -/
def setP : List V → List Nat → List V → List V
 | t, p :: ps, v :: vs => setP (t.set p v) ps vs
 | t, _, _ => t
def ownB (h : List HO) (b : Nat) : Bool := (h.getD b .dead).own
def KpG (G : Nat → Prop) (W W' : World) : Prop := ∀ g, G g → W'.heap[g]? = W.heap[g]?
/-- A function that yields the values of a list, in an engine's words. -/
def Iter (P : Program) (gf : FuncId) (caps : List V) {α : Type} (eV : α → List V) (S Sp : List α → Prop) (N : Nat) : Prop :=
 (∀ args w, (callFunc gf args).run P w = .ok (.enter gf args) w) ∧ ∀ (w : World) (A : Nat → Prop) (lb : Array Value), Reps w A no lb caps → ∃ (encs : α → Array Value) (G : Nat → Prop), (∀ g, G g → g < w.heap.size ∧ ¬ A g) ∧ (∀ x, Reps w A no (encs x) (eV x)) ∧ ∀ nf, 1 ≤ nf → SeqStopsK Fence.wide nf P gf lb encs (KpG G) S Sp N w
theorem setP_ok {w : World} {A : Nat → Prop} {m : Nat → Option Value} : ∀ (ps : List Nat) (vs : List V) (us : List Value) (t : List V) (tm : Array Value), us.length = vs.length → tm.size = t.length → (∀ i x, t[i]? = some x → Rep w A m (tm.getD i undef) x) → (∀ j y, vs[j]? = some y → Rep w A m (us.getD j undef) y) →
  ((ps.zip us).foldl (fun t (p, v) => t.setIfInBounds p v) tm).size = (setP t ps vs).length ∧ ∀ i x, (setP t ps vs)[i]? = some x → Rep w A m (((ps.zip us).foldl (fun t (p, v) => t.setIfInBounds p v) tm).getD i undef) x
 | [], vs, us, t, tm, h1, h2, h3, h4 => ⟨by simpa [setP] using h2, fun i x hx => by simpa [setP] using h3 i x (by simpa [setP] using hx)⟩
 | p :: ps, [], us, t, tm, h1, h2, h3, h4 => by
  have : us = [] := List.length_eq_zero_iff.1 h1
  subst this
  exact ⟨by simpa [setP] using h2, fun i x hx => by simpa [setP] using h3 i x (by simpa [setP] using hx)⟩
 | p :: ps, v :: vs, [], t, tm, h1, h2, h3, h4 => by simp at h1
 | p :: ps, v :: vs, u :: us, t, tm, h1, h2, h3, h4 => by
  refine setP_ok ps vs us (t.set p v) (tm.setIfInBounds p u) (by simpa using h1) (by simpa using h2) (fun i x hx => ?_) (fun j y hy => by have := h4 (j + 1) y (by simpa using hy); simpa using this)
  by_cases hi : p = i
  · subst hi
    have hlt := (List.getElem?_eq_some_iff.1 hx).1
    rw [List.length_set] at hlt
    rw [List.getElem?_set_self hlt] at hx
    injection hx with hx
    subst hx
    have := h4 0 v rfl
    rw [Array.getD_eq_getD_getElem?, Array.getElem?_setIfInBounds_self_of_lt (by omega)]
    simpa using this
  · rw [List.getElem?_set_ne hi] at hx
    have := h3 i x hx
    rw [Array.getD_eq_getD_getElem?, Array.getElem?_setIfInBounds_ne hi, ← Array.getD_eq_getD_getElem?]
    exact this
/-- Returning from behind a loop. -/
theorem Gd.retfr {f : FuncId} {fn : Func} {d : RD} (hf : P.funcs[f]? = some fn) {σ : St} (ho : outV P fn σ d = some d) {a : Act} {m : Nat → Option Value} {w : World} {cs : List Frame} {fr : Frame} {m0 : Nat → Option Value} (hrs : unmk a.defers = d.rest m0) (hM : ∀ j, j < d.n → m j = m0 j ∧ m0 j ≠ none) (H : SOk B M w0 σ a m w)
  (q1 : fr.mode = .returning) (q2 : fr.defers = a.defers) (q3 : fr.kind = .normal) (q4 : fr.fn = f) (q5 : fr.tmps = a.tmps) :
  ∃ e w' fr', (∃ v, e = .returned v ∧ d.ok B M m0 w' v ∧ Bl B w0 w') ∧ Comes P (lone fr cs w) (lone fr' cs w') e ∧ fr'.fn = f ∧ fr'.leaving P w' e := by
 obtain ⟨w', fr', k1, k2, k3, k4, k5, k6, k7⟩ := marks_off (P := P) (cs := cs) _ a w fr rfl (hrs.trans (out_rest ho)) H q1 q2 q5
 obtain ⟨u, h4, h6⟩ := res_out hM ho k2
 exact ⟨.returned u, w', fr', ⟨u, rfl, h6, k2.bl⟩, k1, k7.trans q4, k3, k4, k6.trans q3, fn, by rw [k7, q4]; exact hf, by rw [k5]; exact h4⟩
theorem own_some {h : Nat → HO} {m : Nat → Option Value} {w : World} (K : Ok B M h m w) {b : Nat} (hb : (h b).own = true) : ∃ v, m b = some v := by
 cases e : h b with
 | bx T l => obtain ⟨g, cs, h1, _⟩ := K.bx b T l e; exact ⟨_, h1⟩
 | rw T z l => obtain ⟨v, xs, h1, _⟩ := K.rw b T z l e; exact ⟨_, h1⟩
 | dead => rw [e] at hb; cases hb
 | fz x => rw [e] at hb; cases hb
/-- What is the call's own lies in cells. -/
theorem av_cells {h : Nat → HO} {m : Nat → Option Value} {w : World} (K : Ok B M h m w) {g : Nat} (hg : Av M h m g) (hB : ¬ B g) {o : Obj} (ho : w.heap[g]? = some o) : o.isCells = true := by
 rcases hg with h1 | ⟨b, v, h1, h2, h3⟩
 · exact absurd (K.mb g h1) hB
 · cases e : h b with
   | bx T l =>
     obtain ⟨g', cs, q1, _, q3, _⟩ := K.bx b T l e
     rw [q1] at h2; injection h2 with h2; subst h2
     injection h3 with h3; subst h3
     rw [q3] at ho; injection ho with ho; subst ho; rfl
   | rw T z l =>
     obtain ⟨v', xs, q1, _, q3, _⟩ := K.rw b T z l e
     rw [q1] at h2; injection h2 with h2; subst h2
     rcases q3.2 with ⟨q4, _⟩ | ⟨g', cap, cur, q4, _, q5, _⟩
     · rw [q4] at h3; cases h3
     · rw [q4] at h3; injection h3 with h3; subst h3
       rw [q5] at ho; injection ho with ho; subst ho; rfl
   | dead => rw [e] at h1; cases h1
   | fz x => rw [e] at h1; cases h1
def toCode : Exit → Code
 | .ret => .ret
 | .exit id => .exit id
 | _ => .skip
/-- **A LOOP OVER A FUNCTION**: what is the call's own before it is so after it, at the same places; a round goes from one memory to the next, or leaves the loop. -/
theorem Gd.range (hm : P.follows .mixedOrders = true) {f : FuncId} {fn : Func} {d : RD} (hf : P.funcs[f]? = some fn) {α : Type} {g : Operand} {ps : Array Tmp} {assign body : Code} {k : List Item} {σ : St} {gf : FuncId} {caps : List V} {eV : α → List V} {S Sp : List α → Prop} {N : Nat}
  (hg : exp σ.ho 5 (σ.ev g) = some (.cl gf caps, [])) (it : Iter P gf caps eV S Sp N) (hps : ∀ x, (eV x).length = ps.size)
  (H : List α → List HO) (h0 : H [] = σ.h) (hH : ∀ pre, (H pre).length = σ.h.length ∧ ∀ b, ((H pre).getD b .dead).own = ownB σ.h b)
  (tA : α → List V) (hr : ∀ x, (tA x).all (refs (ownB σ.h)) = true) (hA : ∀ pre x, Rn P σ.h.length assign ⟨setP σ.t ps.toList (eV x), H pre⟩ .normal ⟨tA x, H pre⟩)
  (J : List α → Prop) (hJ0 : J [])
  (X : Exit → List HO → Prop) (hX : ∀ e h, X e h → (e = .ret ∨ ∃ id, e = .exit id) ∧ h.length = σ.h.length ∧ ∀ b, (h.getD b .dead).own = ownB σ.h b)
  (hB : ∀ pre x, pre.length < N → J pre → (J (pre ++ [x]) ∧ ∃ t', Rn P σ.h.length body ⟨tA x, H pre⟩ .normal ⟨t', H (pre ++ [x])⟩) ∨ ∃ e h' t', X e h' ∧ Rn P σ.h.length body ⟨tA x, H pre⟩ e ⟨t', h'⟩)
  (hdone : ∀ xs, S xs → J xs → Gd P f d k ⟨σ.t, H xs⟩) (hret : ∀ h', X .ret h' → outV P fn ⟨σ.t, h'⟩ d = some d) (hexit : ∀ id h', X (.exit id) h' → ∃ k', exitTo id k = some k' ∧ Gd P f d k' ⟨σ.t, h'⟩)
  (hd0 : d.n = 0 := by rfl) : Gd P f d (.code (.rangeFunc g ps assign body) :: k) σ := by
 intro w0 B M m0 b a m w cs hfn hkd hrs _ Hs
 have hM : ∀ (m1 : Nat → Option Value) (j : Nat), j < d.n → m1 j = m0 j ∧ m0 j ≠ none := fun _ j hj => by rw [hd0] at hj; omega
 obtain ⟨eg, it⟩ := it
 have hgr := exp_rep (h0 := σ.ho) (A' := Av M σ.ho m) Hs.K (fun g e => e) 5 _ _ _ hg (fun b hb => by cases hb) (a.eval g) (ev_rep Hs.K.gl fun t _ => Hs.slot t)
 obtain ⟨lb, hlb, hreps⟩ : ∃ lb, a.eval g = .func (.func gf) #[] lb ∧ Reps w (Av M σ.ho m) no lb caps := by
  generalize a.eval g = u at hgr
  cases hgr with
  | cl _ _ cs _ h1 h2 => exact ⟨cs, rfl, h1, h2, Hs.K.gl⟩
 obtain ⟨encs, G, hG, henc, hseq⟩ := it w _ lb hreps
 have hbs := Hs.K.bs
 -- the same is owned
 have avE : ∀ {h : List HO} {m' : Nat → Option Value}, (∀ b, (h.getD b .dead).own = ownB σ.h b) → (∀ b, ownB σ.h b = true → m' b = m b) → ∀ g, Av M (fun b => h.getD b .dead) m' g ↔ Av M σ.ho m g := fun {h m'} e1 e2 g => by
  constructor
  · rintro (h1 | ⟨b, v, h1, h2, h3⟩)
    · exact .inl h1
    · have hb : ownB σ.h b = true := (e1 b).symm.trans h1
      exact .inr ⟨b, v, hb, by rw [← e2 b hb]; exact h2, h3⟩
  · rintro (h1 | ⟨b, v, h1, h2, h3⟩)
    · exact .inl h1
    · exact .inr ⟨b, v, (e1 b).trans h1, by rw [e2 b h1]; exact h2, h3⟩
 let Ag : (Nat → Option Value) → Prop := fun m' => ∀ b, ownB σ.h b = true → m' b = m b
 let T : List HO → Act → World → Prop := fun h a' W => ∃ m', Ag m' ∧ SOk B M w0 ⟨σ.t, h⟩ a' m' W
 let I : List α → World → Prop := fun pre W => J pre ∧ T (H pre) a W ∧ Mo w (Av M σ.ho m) no W (Av M σ.ho m) no
 let Ix : Code → List α → World → Prop := fun c _ W => ∃ e h', toCode e = c ∧ X e h' ∧ T h' a W
 let Ax : α → Act → World → Prop := fun x a' W => a'.tmps.size = (tA x).length ∧ a'.defers = [] ∧ ∀ i y, (tA x)[i]? = some y → Rep W (Av M σ.ho m) m (a'.tmps.getD i undef) y
 let Q : Exit → Act → World → Prop := fun e a' W => match e with
  | .normal => ∃ xs, S xs ∧ J xs ∧ unmk a'.defers = unmk a.defers ∧ T (H xs) a' W
  | .ret => ∃ h', X .ret h' ∧ unmk a'.defers = unmk a.defers ∧ T h' a' W
  | .exit id => ∃ h', X (.exit id) h' ∧ unmk a'.defers = unmk a.defers ∧ T h' a' W
  | _ => False
 have hdm : ∀ D, mark D ∈ a.defers → D < w.heap.size := fun D hD => by
  obtain ⟨Ds, q1, q2, q3⟩ := Hs.df
  replace hD := marks_mem hD
  rw [q1] at hD
  obtain ⟨D', h1, h2⟩ := List.mem_map.1 hD
  have : D' = D := by unfold mark at h2; injection h2 with h2; injection h2
  subst this
  exact (Array.getElem?_eq_some_iff.1 (q3 D' h1).2.1).1
 have Tg : ∀ {h : List HO} {W W' : World} {row : Option Nat}, T h a W → W.grownBy W' row → (∀ r, row = some r → w.heap.size ≤ r ∧ ∃ o : Obj, W.heap[r]? = some o ∧ o.isCells = false) → T h a W' := fun ⟨m', h1, h2⟩ hg hr => ⟨m', h1, h2.grown hbs hdm hg hr⟩
 have hI : OwnFrom w.heap.size I := fun s W W' row ⟨hj, h1, h2⟩ hg hr => ⟨hj, Tg h1 hg hr, ⟨Nat.le_trans h2.size hg.size, fun g q1 q2 => (hg.block g (Nat.lt_of_lt_of_le q1 h2.size) fun e => by have := (hr g e.symm).1; omega).trans (h2.blk g q1 q2), fun g e => .inl e, fun _ _ e => e⟩⟩
 have hIx : ∀ c, OwnFrom w.heap.size (Ix c) := fun c s W W' row ⟨e, h', h1, h2, h3⟩ hg hr => ⟨e, h', h1, h2, Tg h3 hg hr⟩
 have hAx : ∀ x a', OwnFrom w.heap.size (fun (_ : Unit) W => Ax x a' W) := fun x a' _ W W' row ⟨h1, h2, h3⟩ hg hr => ⟨h1, h2, fun i y hy => (h3 i y hy).ck (ck_of hg fun r e => (hr r e).2)⟩
 have hKt : ∀ {A B C : World}, KpG G A B → KpG G B C → KpG G A C := fun h k g hg => (k g hg).trans (h g hg)
 have hKb : ∀ (W : World) (l : Nat) (o o' : Obj), w.heap.size ≤ l → W.heap[l]? = some o → o.isCells = false → o.isWalk = false → KpG G W (W.putObj l o') := fun W l o o' hl _ _ _ g hg => World.putObj_heap_other (by have := (hG g hg).1; omega)
 -- the frame of a round is left as it was
 have keep : ∀ {h h2 : List HO} {t2 : List V} {a1 : Act} {m1 m2 : Nat → Option Value} {W W' : World}, (∀ b, (h.getD b .dead).own = ownB σ.h b) → (∀ b, (h2.getD b .dead).own = ownB σ.h b) → Ag m1 → w.heap.size ≤ W.heap.size → SOk B M w0 ⟨σ.t, h⟩ a m1 W → SOk B M w0 ⟨t2, h2⟩ a1 m2 W' →
   Mo W (Av M (fun b => h.getD b .dead) m1) m1 W' (Av M (fun b => h2.getD b .dead) m2) m2 → Ag m2 ∧ T h2 a W' ∧ KeepsFrom w.heap.size W W' ∧ KpG G W W' := by
  intro h h2 t2 a1 m1 m2 W W' e1 e2 ag hW H1 H2 hmo
  have ag2 : Ag m2 := fun b hb => by
   obtain ⟨v, hv⟩ := own_some H1.K (b := b) ((e1 b).trans hb)
   exact (hmo.mm b v hv).trans (hv.symm.trans (ag b hb))
  refine ⟨ag2, ⟨m2, ag2, H2.K, H1.sz, H1.df.mo hmo, fun i x hx => (H1.tm i x hx).mo hmo, H2.nm, H2.bl⟩, ⟨hmo.size, fun q o hq ho hc => ?_⟩, fun g hg => ?_⟩
  · refine (hmo.blk q (Array.getElem?_eq_some_iff.1 ho).1 fun hav => ?_).trans ho
    have := av_cells H1.K hav (fun e => absurd (hbs q e) (by omega)) ho
    rw [hc] at this
    cases this
  · obtain ⟨g1, g2⟩ := hG g hg
    exact hmo.blk g (Nat.lt_of_lt_of_le g1 hW) fun hav => g2 ((avE e1 ag g).1 hav)
 have moT : ∀ {h2 : List HO} {m1 m2 : Nat → Option Value} {h : List HO} {W W' : World}, (∀ b, (h.getD b .dead).own = ownB σ.h b) → (∀ b, (h2.getD b .dead).own = ownB σ.h b) → Ag m1 → Ag m2 → Mo w (Av M σ.ho m) no W (Av M σ.ho m) no → Mo W (Av M (fun b => h.getD b .dead) m1) m1 W' (Av M (fun b => h2.getD b .dead) m2) m2 → Mo w (Av M σ.ho m) no W' (Av M σ.ho m) no := by
  intro h2 m1 m2 h W W' e1 e2 a1 a2 k1 k2
  exact ⟨Nat.le_trans k1.size k2.size, fun g q1 q2 => (k2.blk g (Nat.lt_of_lt_of_le q1 k1.size) fun hav => q2 ((avE e1 a1 g).1 hav)).trans (k1.blk g q1 q2), fun g e => .inl e, fun _ _ e => e⟩
 have hassign : ∀ (l : Nat) (pre : List α) (x : α) (W : World) (K : Act → World → Prop), I pre W → (∀ a' W', KeepsFrom w.heap.size W W' → KpG G W W' → I pre W' → Ax x a' W' → K a' W') →
   assign.wpIn (Fence.wide.inRound l) (6 - 1 - 1) P (Exit.then K (fun _ _ _ => False)) { tmps := (ps.zip (encs x)).foldl (fun t (p, v) => t.setIfInBounds p v) a.tmps, defers := [] } W := by
  rintro l pre x W K ⟨hj, ⟨m1, ag, H1⟩, hmo⟩ hK
  obtain ⟨el, eo⟩ := hH pre
  have hfold : (ps.zip (encs x)).foldl (fun t (p, v) => t.setIfInBounds p v) a.tmps = (ps.toList.zip (encs x).toList).foldl (fun t (p, v) => t.setIfInBounds p v) a.tmps := by
   rw [← Array.foldl_toList, Array.toList_zip]
  obtain ⟨z1, z2⟩ := setP_ok (w := W) (A := Av M (fun b => (H pre).getD b .dead) m1) (m := m1) ps.toList (eV x) (encs x).toList σ.t a.tmps (by have := (henc x).1; simpa using this) H1.sz H1.tm fun j y hy => by
   have h3 := (henc x).2 j y hy
   rw [← getD_toList] at h3
   exact h3.mo ⟨hmo.size, hmo.blk, fun g e => .inl ((avE eo ag g).1 e), fun b v e => by cases e⟩
  rw [hfold]
  have Hr : SOk B M w0 ⟨setP σ.t ps.toList (eV x), H pre⟩ { tmps := (ps.toList.zip (encs x).toList).foldl (fun t (p, v) => t.setIfInBounds p v) a.tmps, defers := [] } m1 W := ⟨H1.K, z1, DfOk.nil, z2, H1.nm, H1.bl⟩
  refine wpIn_mono (Rn_ok hm (WideF.round l) el (hA pre x) Hr) ?_
  rintro e' a' W' ⟨rfl, m2, H2, hmo2, hdf⟩
  obtain ⟨ag2, hT, hkf, hkp⟩ := keep eo eo ag hmo.size H1 H2 hmo2
  refine hK a' W' hkf hkp ⟨hj, hT, moT eo eo ag ag2 hmo hmo2⟩ ⟨H2.sz, hdf, fun i y hy => ?_⟩
  exact refs_ok (p := ownB σ.h) (fun b hb => (ag2 b hb).symm) ⟨Nat.le_refl _, fun _ _ _ => rfl, fun g e => .inl ((avE eo ag2 g).2 e), fun _ _ e => e⟩ (H2.tm i y hy) (List.all_eq_true.1 (hr x) y (List.mem_of_getElem? hy))
 have hbody : ∀ (l : Nat) (pre : List α) (x : α) (a' : Act) (W : World), w.heap.size ≤ l → (∃ r, W.heap[l]? = some (.loop r)) → I pre W → Ax x a' W → pre.length < N → body.wpIn (Fence.wide.inRound l) (6 - 1 - 1) P (ownPostG w.heap.size (KpG G) I Ix (pre ++ [x]) W) a' W := by
  rintro l pre x a' W hl hrec ⟨hj, ⟨m1, ag, H1⟩, hmo⟩ ⟨x1, x2, x3⟩ hlt
  obtain ⟨el, eo⟩ := hH pre
  have Hr : SOk B M w0 ⟨tA x, H pre⟩ a' m1 W := ⟨H1.K, x1, by rw [x2]; exact DfOk.nil, fun i y hy =>
   refs_ok (p := ownB σ.h) (fun b hb => ag b hb) ⟨Nat.le_refl _, fun _ _ _ => rfl, fun g e => .inl ((avE eo ag g).1 e), fun _ _ e => e⟩ (x3 i y hy) (List.all_eq_true.1 (hr x) y (List.mem_of_getElem? hy)), H1.nm, H1.bl⟩
  rcases hB pre x hlt hj with ⟨hj2, t', hb⟩ | ⟨e, h', t', hx, hb⟩
  · refine wpIn_mono (Rn_ok hm (WideF.round l) el hb Hr) ?_
    rintro e' a2 W' ⟨rfl, m2, H2, hmo2, _⟩
    obtain ⟨ag2, hT, hkf, hkp⟩ := keep eo (hH (pre ++ [x])).2 ag hmo.size H1 H2 hmo2
    exact ⟨hkf, hkp, hj2, hT, moT eo (hH (pre ++ [x])).2 ag ag2 hmo hmo2⟩
  · obtain ⟨hx1, hx2, hx3⟩ := hX e h' hx
    refine wpIn_mono (Rn_ok hm (WideF.round l) el hb Hr) ?_
    rintro e' a2 W' ⟨rfl, m2, H2, hmo2, _⟩
    obtain ⟨ag2, hT, hkf, hkp⟩ := keep eo hx3 ag hmo.size H1 H2 hmo2
    rcases hx1 with rfl | ⟨id, rfl⟩
    · exact ⟨hkf, _, h', rfl, hx, hT⟩
    · exact ⟨hkf, _, h', rfl, hx, hT⟩
 have addm : ∀ {h : List HO} {D : Nat} {W : World}, (∀ b, (h.getD b .dead).own = ownB σ.h b) → w.heap.size ≤ D → W.heap[D]? = some (.deferred (some [])) → T h a W → T h { a with defers := { target := .collected D, args := #[] } :: a.defers } W := by
  rintro h D W eo hD hd ⟨m1, ag, H1⟩
  refine ⟨m1, ag, H1.K, H1.sz, ?_, H1.tm, H1.nm, H1.bl⟩
  obtain ⟨Ds, q1, q2, q3⟩ := H1.df
  refine ⟨D :: Ds, congrArg (mark D :: ·) q1, List.nodup_cons.2 ⟨fun hin => ?_, q2⟩, fun D' hD' => ?_⟩
  · have := hdm D ((List.mem_filter.1 (by rw [q1]; exact List.mem_map.2 ⟨D, hin, rfl⟩ : mark D ∈ a.defers.filter isMark)).1)
    omega
  · rcases List.mem_cons.1 hD' with rfl | h5
    · exact ⟨fun e => absurd (hbs _ e) (by omega), hd, fun hav => by
       have := av_cells H1.K hav (fun e => absurd (hbs _ e) (by omega)) hd
       cases this⟩
    · exact q3 D' h5
 have hwp : (Code.rangeFunc g ps assign body).wpIn Fence.wide 6 P Q a w :=
  wpIn_rangeFunc_ownH (w0 := w) rfl (by omega) hlb trivial eg (hseq 5 (by omega)) (fun h k => hKt h k) hKb (Below.refl _ _) (fun x => by rw [(henc x).1]; exact hps x) I Ix hI hIx
   ⟨hJ0, ⟨m, fun _ _ => rfl, by rw [h0]; exact Hs⟩, ⟨Nat.le_refl _, fun _ _ _ => rfl, fun g e => .inl e, fun _ _ e => e⟩⟩ Ax hAx hassign hbody
   (fun D xs W hD hS hI hd => ⟨xs, hS, hI.1, rfl, addm (hH xs).2 hD hd hI.2.1⟩)
   (fun D c pre W hD hS hIx hd => by
    obtain ⟨e, h', rfl, hx, hT⟩ := hIx
    obtain ⟨hx1, hx2, hx3⟩ := hX e h' hx
    rcases hx1 with rfl | ⟨id, rfl⟩
    · exact wpIn_ret ⟨h', hx, rfl, addm hx3 hD hd hT⟩
    · exact wpIn_exit ⟨h', hx, rfl, addm hx3 hD hd hT⟩)
 obtain ⟨e, a', w', hq, harr⟩ := wpIn_wide.1 hwp b k cs
 cases e with
 | normal =>
  obtain ⟨xs, hS, hj, hr1, m1, ag, H1⟩ := hq
  obtain ⟨e2, w2, fr, q1, q2, q3⟩ := hdone xs hS hj w0 B M m0 b a' m1 w' cs hfn hkd (hr1.trans hrs) (hM _) H1
  exact ⟨e2, w2, fr, q1, .of_steps harr q2, q3⟩
 | exit id =>
  obtain ⟨h', hx, hr1, m1, ag, H1⟩ := hq
  obtain ⟨k', hk', hg'⟩ := hexit id h' hx
  obtain ⟨e2, w2, fr, q1, q2, q3⟩ := hg' w0 B M m0 b a' m1 w' cs hfn hkd (hr1.trans hrs) (hM _) H1
  exact ⟨e2, w2, fr, q1, .of_steps (harr k' hk') q2, q3⟩
 | ret =>
  obtain ⟨h', hx, hr1, m1, ag, H1⟩ := hq
  obtain ⟨todo, hst⟩ := harr
  obtain ⟨e2, w2, fr, q1, q2, q3⟩ := Gd.retfr (cs := cs) (fr := { b.at a' todo with mode := .returning }) hf (hret h' hx) (m0 := m0) (hr1.trans hrs) (hM _) H1 rfl rfl hkd hfn rfl
  exact ⟨e2, w2, fr, q1, .of_steps hst q2, q3⟩
 | _ => exact hq.elim
/-- A piece of code, told at once. -/
noncomputable def metC {P : Program} (n : Nat) (gs : List Gh) : Option (Exit × St × List (Fa P) × Ks) → Bool × Exit × List (List V) × St
 | some (e, σ, [], ks) => (gs.all isFzG, e, ks.map (·.1), trim n (gs.foldl gh σ))
 | _ => (false, .normal, [], ⟨[], []⟩)
def toldC {P : Program} (e : Exit) (σ : St) : Option (Exit × St × List (Fa P) × Ks) → Bool × Exit × List (List V) × St
 | some (_, _, _, ks) => (true, e, ks.map (·.2), σ)
 | none => (true, e, [], σ)
theorem Rn.of {n : Nat} {c : Code} {σ σ' : St} {e : Exit} (gs : List Gh) (sc : List (Fa P)) (h : metC n gs (runC P 5000 c σ sc) = toldC e σ' (runC P 5000 c σ sc)) : Rn P n c σ e σ' := by
 cases hr : runC P 5000 c σ sc with
 | none => rw [hr] at h; cases h
 | some x =>
  obtain ⟨e2, σ2, sc2, ks⟩ := x
  rw [hr] at h
  cases sc2 with
  | nil =>
   simp only [metC, toldC, Prod.mk.injEq] at h
   obtain ⟨h1, rfl, h3, h4⟩ := h
   exact ⟨sc, ks, σ2, gs, hr, ks_ok h3, h1, h4⟩
  | cons => cases h
/-- Its memory alone. -/
def hd (x : Bool × Exit × List (List V) × St) : Bool × Exit × List (List V) × List HO := (x.1, x.2.1, x.2.2.1, x.2.2.2.h)
theorem Rn.ofH {n : Nat} {c : Code} {σ : St} {e : Exit} {h' : List HO} (gs : List Gh) (sc : List (Fa P)) (h : hd (metC n gs (runC P 5000 c σ sc)) = hd (toldC e ⟨[], h'⟩ (runC P 5000 c σ sc))) : ∃ t', Rn P n c σ e ⟨t', h'⟩ := by
 cases hr : runC P 5000 c σ sc with
 | none => rw [hr] at h; cases h
 | some x =>
  obtain ⟨e2, σ2, sc2, ks⟩ := x
  rw [hr] at h
  cases sc2 with
  | nil =>
   simp only [hd, metC, toldC, Prod.mk.injEq] at h
   obtain ⟨h1, rfl, h3, h4⟩ := h
   exact ⟨(trim n (gs.foldl gh σ2)).t, sc, ks, σ2, gs, hr, ks_ok h3, h1, by rw [← h4]⟩
  | cons => cases h
/-- The first loop over a function: what it runs over, its parameters, what lays them, its body, what comes behind it. -/
def rfs : Code → List Item → Option (Operand × Array Tmp × Code × Code × List Item)
 | .seq a b, k => match rfs a (.code b :: k) with
   | some x => some x
   | none => rfs b k
 | .cond _ a b, k => match rfs a k with
   | some x => some x
   | none => rfs b k
 | .block id c, k => rfs c (.inBlock id :: k)
 | .scope c, k => rfs c (.inScope c :: k)
 | .loop c, k => rfs c (.inLoop c :: k)
 | .rangeFunc g p x y, k => some (g, p, x, y, k)
 | _, _ => none
def rf (fn : Func) : Operand × Array Tmp × Code × Code × List Item := match fn.body with
 | some c => (rfs c []).getD default
 | none => default
def rfI (fn : Func) : List Item := .code (.rangeFunc (rf fn).1 (rf fn).2.1 (rf fn).2.2.1 (rf fn).2.2.2.1) :: (rf fn).2.2.2.2
end
end Go.Proofs.YtnpdpjfdgialeaaGreatDoor.E
namespace Go.Proofs.YtnpdpjfdgialeaaGreatDoor.E
set_option maxHeartbeats 1000000
open Go.RowKit
set_option linter.unusedVariables false
section
variable {P : Program} {Fx : Fence} {nf : Nat} {B M : Nat → Prop} {w0 w w' : World} {A A' : Nat → Prop} {m m' : Nat → Option Value}
/-- What stands by fixed names alone goes over to a later world. -/
theorem refs_mo {p : Nat → Bool} {u : Value} {x : V} (hx : refs p x = true) (hm : ∀ b, p b = true → ∀ v, m b = some v → m' b = some v) (g : Mo w A no w' A' no) (h : Rep w A m u x) : Rep w' A' m' u x := by
 let m0 : Nat → Option Value := fun b => if p b then m b else none
 have h1 : Rep w A m0 u x := refs_ok (p := p) (fun b hb => if_pos hb) Mo.refl h hx
 refine h1.mo ⟨g.size, g.blk, g.av, fun b v e => ?_⟩
 by_cases hb : p b = true
 · exact hm b hb v ((if_pos hb).symm.trans e)
 · have : m0 b = none := if_neg hb
   rw [this] at e
   cases e
end
end Go.Proofs.YtnpdpjfdgialeaaGreatDoor.E



namespace Go.Proofs.YtnpdpjfdgialeaaGreatDoor.E
open Go.RowKit
set_option linter.unusedVariables false
set_option linter.unusedSimpArgs false
section
variable {P : Program}
theorem two_of {α : Type} {xs : List α} (h : xs.length = 2) : ∃ x y, xs = [x, y] := by
 match xs, h with
 | [x, y], _ => exact ⟨x, y, rfl⟩
def mkEq (op : BinOp) (T yT : TypeId) (xs : List Operand) : Op := .binOp op T (xs.getD 0 (.tmp 0)) (xs.getD 1 (.tmp 0)) yT
def mkAp (T T2 : TypeId) (xs : List Operand) : Op := .call ⟨.builtin .append, #[xs.getD 0 (.tmp 0), xs.getD 1 (.tmp 0)], #[T, T2]⟩
/-- A row with elements is not nil. -/
theorem x_eqnil {T e yT : TypeId} (hT : P.underlying T = some (.slice e)) (hg : P.eqGuardType P.depth T = false) (c : List V) (l : List (List V)) : Ext P (mkEq .eql T yT) [.sl (c :: l), .k (.slice none 0 0)] [] [] (bo false) := by
 intro B M h m w a o xs ho K hl hr _ _
 obtain ⟨x, y, rfl⟩ := two_of hl
 have hx := hr 0 x _ rfl rfl
 have hy := Rep.k_inv (hr 1 y _ rfl rfl)
 generalize hu : a.eval x = u at hx
 cases hx with
 | sl _ ad b off cc z _ us h1 h2 h3 =>
  obtain ⟨rfl, _⟩ := h3 (by simp)
  have hq := Lib.run_eql_slice_nil (P := P) w T e (some ⟨b, off, none⟩) (c :: l).length cc 0 0 hT
  have hgd : (eqGuard .eql T x y (.slice (some ⟨b, off, none⟩) (c :: l).length cc) (.slice none 0 0)).run P w = .ok () w := by simp [eqGuard, hg]
  refine Exec.val (u := .bool false) (w' := w) ?_ (.same K (.k _ _))
  simp only [mkEq, List.getD_cons_zero, List.getD_cons_succ] at ho
  simp only [Option.isNone] at hq
  simp only [List.length_cons] at hq hgd hu
  simp [execOp, ho, hu, hy, hgd, hq]
/-- Nothing is appended. -/
theorem x_apk {T e : TypeId} (hT : P.underlying T = some (.slice e)) {n0 : Nat} (hs : szT P e = some n0) {b U z : Nat} {l : List (List V)} {X : Option Addr} {c2 : Nat} : Ext P (mkAp T T) [.ow b, .k (.slice X 0 c2)] [(b, .rw U z l)] [] (.ow b) := by
 intro B M h m w a o xs ho K hl hr hrd _
 obtain ⟨x, y, rfl⟩ := two_of hl
 have hx := hr 0 x _ rfl rfl
 have hy := Rep.k_inv (hr 1 y _ rfl rfl)
 have hb : h b = .rw U z l := hrd _ (List.mem_singleton.2 rfl)
 obtain ⟨v1, xs1, h1, h2, h3, h4, h5⟩ := K.rw b U z l hb
 generalize hu : a.eval x = u at hx
 cases hx with
 | ow _ _ ad n c hm =>
  rw [h1] at hm
  injection hm with hm
  subst hm
  have hle : n ≤ c := by
   rcases h3.2 with ⟨e1, e2⟩ | ⟨g, cap, cur, e1, _, _, e2, _⟩
   · injection e1 with e1 e3 e4; omega
   · injection e1 with e1 e3 e4; omega
  simp only [mkAp, List.getD_cons_zero, List.getD_cons_succ] at ho
  refine Exec.val (u := .slice ad n c) (w' := w) ?_ (.same K (.ow _ _ _ _ _ h1))
  simp [execOp, ho, resolve, invoke, builtin, hu, hy, append_none hT hs hle]
/-- A row without elements: whatever it is, nil or not. -/
theorem Pure.em {f : FuncId} {pre post : List V} {D : RD} (h : ∀ ad c, Pure P f (pre ++ .k (.slice ad 0 c) :: post) D) : Pure P f (pre ++ .sl [] :: post) D := by
 refine ⟨(h none 0).1, fun w M args hM ha => ?_⟩
 have h0 := ha.2 pre.length (.sl []) (by simp)
 generalize hu : args.getD pre.length undef = u at h0
 cases h0 with
 | sl _ ad b o c z _ us h1 h2 h3 =>
  refine (h ad c).2 w M args hM ⟨by rw [ha.1]; simp, fun j x hx => ?_, ha.3⟩
  by_cases hj : j = pre.length
  · subst hj
    simp at hx
    subst hx
    rw [hu]
    exact .k _ _
  · refine ha.2 j x ?_
    rcases Nat.lt_or_ge j pre.length with h4 | h4
    · rw [List.getElem?_append_left h4] at hx ⊢
      exact hx
    · rw [List.getElem?_append_right h4] at hx ⊢
      obtain ⟨k, hk⟩ : ∃ k, j - pre.length = k + 1 := ⟨j - pre.length - 1, by omega⟩
      rw [hk] at hx ⊢
      simpa using hx
end
/-- slices.Clone of ints. -/
theorem e_cloneI (l : List Int) (hl : l.length ≤ 1000000) : Pure PP 187 [zl l] (zl l) := by
 cases l with
 | nil =>
   refine Pure.em (pre := []) (post := []) fun ad c => ?_
   cases ad with
   | none => exact tr [yt] (by kernel_rfl)
   | some q => exact tr [nf, .ext (some 7) _ _ _ _ _ (x_apk (T := 22) (e := 3) (n0 := 1) (by kernel_rfl) (by kernel_rfl) (b := 0) (U := 3) (z := 1) (l := []) (X := some q) (c2 := c))] (by kernel_rfl)
 | cons x r => exact tr [.ext (some 4) _ _ _ _ _ (x_eqnil (T := 22) (e := 3) (yT := 22) (by kernel_rfl) (by kernel_rfl) [ni x] (zs r)), nf, .aps [] (zs (x :: r)) (zs (x :: r)) 1000000 1 rfl (by rw [zs_len]; simp) (by rw [zs_len]; exact hl) (zs_z1 _)] (by kernel_rfl)
end Go.Proofs.YtnpdpjfdgialeaaGreatDoor.E



