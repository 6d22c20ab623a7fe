/-
 ITERATORS by the engine, 1: regions that end in a yield; runs with a context.
-/
import Derived.Test.YtjegnmlchioofaaGreatDoorEmY
namespace Go.Proofs.YtjegnmlchioofaaGreatDoor.E
open Go.RowKit
set_option linter.unusedVariables false
section
variable {w w' : World} {A A' : Nat → Prop} {m m' : Nat → Option Value}
/-- Cells stay. -/
def Ck (w w' : World) : Prop := w.heap.size ≤ w'.heap.size ∧ ∀ (b : Nat) (cs : Array Value) (T : TypeId) (fr : Nat × Nat), w.heap[b]? = some (.cells cs T fr) → w'.heap[b]? = some (.cells cs T fr)
theorem Rep.ck (hs : Ck w w') {v : Value} {x : V} (h : Rep w A m v x) : Rep w' A m v x := by
 have hb : ∀ b, CB w b → w'.heap[b]? = w.heap[b]? := fun b ⟨cs, T, fr, hb⟩ => (hs.2 _ _ _ _ hb).trans hb.symm
 have hcb : ∀ b, CB w b → CB w' b := fun b ⟨cs, T, fr, h1⟩ => ⟨cs, T, fr, hs.2 _ _ _ _ h1⟩
 induction h with
 | k m v => exact .k _ v
 | un m v => exact .un _ v
 | sl m a b o c z l us h1 h2 h3 h4 h5 h6 ih =>
   have hl : ∀ {i cs}, l[i]? = some cs → 0 < l.length := fun {i cs} e => by have := (List.getElem?_eq_some_iff.1 e).1; omega
   exact .sl _ a b o c z l us h1 h2 (fun hn => ⟨(h3 hn).1, (h3 hn).2.1, hcb b (h3 hn).2.2⟩) h4 (fun i j cs x e1 e2 => (World.cell?_of_block (a := ⟨b, _, none⟩) (hb b (h3 (hl e1)).2.2)).trans (h5 i j cs x e1 e2)) ih
 | ip m b o l us h3 h4 h5 h6 ih => exact .ip _ b o l us h3 (hcb b h4) (fun j x e => (World.cell?_of_block (a := ⟨b, _, none⟩) (hb b h4)).trans (h5 j x e)) ih
 | lp m b o g' h => exact .lp _ b o g' h
 | rp m b z i o g' n c h => exact .rp _ b z i o g' n c h
 | ow m b a n c h => exact .ow _ b a n c h
 | os m b z i j g' n c h h1 h2 => exact .os _ b z i j g' n c h h1 h2
 | ag m cs l h h6 ih => exact .ag _ cs l h ih
 | tu m cs l h h6 ih => exact .tu _ cs l h ih
 | cl m f cs l h h6 ih => exact .cl _ f cs l h ih
 | nl m => exact .nl _
 | nm m b v h => exact .nm _ b v h
 | bs m b o n c g' h => exact .bs _ b o n c g' h
theorem Ok.ck {B : Nat → Prop} {M : Nat → Prop} {h : Nat → HO} (hs : Ck w w') (K : Ok B M h m w) : Ok B M h m w' := by
 refine ⟨fun b T l e => ?_, fun b T z l e => ?_, fun b x e => ?_, K.inj, K.mb, fun g hg => Nat.lt_of_lt_of_le (K.bs g hg) hs.1, fun p hp => (K.gl p hp).ck hs⟩
 · obtain ⟨g', cs, h1, h2, h3, h4, h5⟩ := K.bx b T l e
   exact ⟨g', cs, h1, h2, hs.2 _ _ _ _ h3, h4, fun j x hx => (h5 j x hx).ck hs⟩
 · obtain ⟨v, xs, h1, h2, h3, h0, h4⟩ := K.rw b T z l e
   refine ⟨v, xs, h1, h2, ⟨h3.1, ?_⟩, h0, fun j x hx => (h4 j x hx).ck hs⟩
   rcases h3.2 with h5 | ⟨g', cap, cur, h5, hB, hh, r⟩
   · exact .inl h5
   · exact .inr ⟨g', cap, cur, h5, hB, hs.2 _ _ _ _ hh, r⟩
 · obtain ⟨v, h1, h2⟩ := K.fz b x e
   exact ⟨v, h1, h2.ck hs⟩
theorem ck_of {row : Option Nat} (hg : w.grownBy w' row) (hr : ∀ r, row = some r → ∃ o : Obj, w.heap[r]? = some o ∧ o.isCells = false) : Ck w w' := by
 refine ⟨hg.size, fun b cs T fr hb => ?_⟩
 rw [hg.block b (Array.getElem?_eq_some_iff.1 hb).1 fun e => ?_]
 · exact hb
 · obtain ⟨o, h1, h2⟩ := hr b e.symm
   rw [hb] at h1
   injection h1 with h1
   subst h1
   cases h2
theorem SOk.grown {B : Nat → Prop} {B1 : Nat} {M : Nat → Prop} {w0 : World} {σ : St} {a : Act} {row : Option Nat} (H : SOk B M w0 σ a m w) (hB : ∀ g, B g → g < B1) (hd : ∀ D, mark D ∈ a.defers → D < B1) (hg : w.grownBy w' row) (hr : ∀ r, row = some r → B1 ≤ r ∧ ∃ o : Obj, w.heap[r]? = some o ∧ o.isCells = false) : SOk B M w0 σ a m w' := by
 have hs := ck_of hg fun r e => (hr r e).2
 refine ⟨H.K.ck hs, H.sz, ?_, fun i x hx => (H.tm i x hx).ck hs, H.nm, H.bl.trans ⟨hg.os, hg.tape, hg.output, hg.size, fun k hk => hg.block k (H.K.bs k hk) fun e => ?_⟩⟩
 · obtain ⟨Ds, h0, hn, h⟩ := H.df
   refine ⟨Ds, h0, hn, fun D hD => ?_⟩
   obtain ⟨h1, h2, h3⟩ := h D hD
   refine ⟨h1, ?_, h3⟩
   rw [hg.block D (Array.getElem?_eq_some_iff.1 h2).1 fun e => ?_]
   · exact h2
   · have h4 := hd D ((List.mem_filter.1 (by rw [h0]; exact List.mem_map.2 ⟨D, hD, rfl⟩ : mark D ∈ a.defers.filter isMark)).1)
     have := (hr D e.symm).1
     omega
 · have := (hr k e.symm).1
   have := hB k hk
   omega
end
section
variable {P : Program} {B : Nat → Prop} {M : Nat → Prop} {w0 : World} {Fx : Fence} {nf : Nat}
/-- The parameters of a round. -/
def setP : List V → List Nat → List V → List V
 | t, p :: ps, v :: vs => setP (t.set p v) ps vs
 | t, _, _ => t
def ownB (h : List HO) (b : Nat) : Bool := (h.getD b .dead).own
def KpG (G : Nat → Prop) (W W' : World) : Prop := ∀ g, G g → W'.heap[g]? = W.heap[g]?
theorem setP_ok {w : World} {A : Nat → Prop} {m : Nat → Option Value} : ∀ (ps : List Nat) (vs : List V) (us : List Value) (t : List V) (tm : Array Value), us.length = vs.length → tm.size = t.length → (∀ i x, t[i]? = some x → Rep w A m (tm.getD i undef) x) → (∀ j y, vs[j]? = some y → Rep w A m (us.getD j undef) y) →
  ((ps.zip us).foldl (fun t (p, v) => t.setIfInBounds p v) tm).size = (setP t ps vs).length ∧ ∀ i x, (setP t ps vs)[i]? = some x → Rep w A m (((ps.zip us).foldl (fun t (p, v) => t.setIfInBounds p v) tm).getD i undef) x
 | [], vs, us, t, tm, h1, h2, h3, h4 => ⟨by simpa [setP] using h2, fun i x hx => by simpa [setP] using h3 i x (by simpa [setP] using hx)⟩
 | p :: ps, [], us, t, tm, h1, h2, h3, h4 => by
  have : us = [] := List.length_eq_zero_iff.1 h1
  subst this
  exact ⟨by simpa [setP] using h2, fun i x hx => by simpa [setP] using h3 i x (by simpa [setP] using hx)⟩
 | p :: ps, v :: vs, [], t, tm, h1, h2, h3, h4 => by simp at h1
 | p :: ps, v :: vs, u :: us, t, tm, h1, h2, h3, h4 => by
  refine setP_ok ps vs us (t.set p v) (tm.setIfInBounds p u) (by simpa using h1) (by simpa using h2) (fun i x hx => ?_) (fun j y hy => by have := h4 (j + 1) y (by simpa using hy); simpa using this)
  by_cases hi : p = i
  · subst hi
    have hlt := (List.getElem?_eq_some_iff.1 hx).1
    rw [List.length_set] at hlt
    rw [List.getElem?_set_self hlt] at hx
    injection hx with hx
    subst hx
    have := h4 0 v rfl
    rw [Array.getD_eq_getD_getElem?, Array.getElem?_setIfInBounds_self_of_lt (by omega)]
    simpa using this
  · rw [List.getElem?_set_ne hi] at hx
    have := h3 i x hx
    rw [Array.getD_eq_getD_getElem?, Array.getElem?_setIfInBounds_ne hi, ← Array.getD_eq_getD_getElem?]
    exact this
theorem own_some {h : Nat → HO} {m : Nat → Option Value} {w : World} (K : Ok B M h m w) {b : Nat} (hb : (h b).own = true) : ∃ v, m b = some v := by
 cases e : h b with
 | bx T l => obtain ⟨g, cs, h1, _⟩ := K.bx b T l e; exact ⟨_, h1⟩
 | rw T z l => obtain ⟨v, xs, h1, _⟩ := K.rw b T z l e; exact ⟨_, h1⟩
 | dead => rw [e] at hb; cases hb
 | fz x => rw [e] at hb; cases hb
/-- What is the call's own lies in cells. -/
theorem av_cells {h : Nat → HO} {m : Nat → Option Value} {w : World} (K : Ok B M h m w) {g : Nat} (hg : Av M h m g) (hB : ¬ B g) {o : Obj} (ho : w.heap[g]? = some o) : o.isCells = true := by
 rcases hg with h1 | ⟨b, v, h1, h2, h3⟩
 · exact absurd (K.mb g h1) hB
 · cases e : h b with
   | bx T l =>
     obtain ⟨g', cs, q1, _, q3, _⟩ := K.bx b T l e
     rw [q1] at h2; injection h2 with h2; subst h2
     injection h3 with h3; subst h3
     rw [q3] at ho; injection ho with ho; subst ho; rfl
   | rw T z l =>
     obtain ⟨v', xs, q1, _, q3, _⟩ := K.rw b T z l e
     rw [q1] at h2; injection h2 with h2; subst h2
     rcases q3.2 with ⟨q4, _⟩ | ⟨g', cap, cur, q4, _, q5, _⟩
     · rw [q4] at h3; cases h3
     · rw [q4] at h3; injection h3 with h3; subst h3
       rw [q5] at ho; injection ho with ho; subst ho; rfl
   | dead => rw [e] at h1; cases h1
   | fz x => rw [e] at h1; cases h1
def toldC {P : Program} (e : Exit) (σ : St) : Option (Exit × St × List (Fa P) × Ks) → Bool × Exit × List (List V) × St
 | some (_, _, _, ks) => (true, e, ks.map (·.2), σ)
 | none => (true, e, [], σ)
/-- Its memory alone. -/
def hd (x : Bool × Exit × List (List V) × St) : Bool × Exit × List (List V) × List HO := (x.1, x.2.1, x.2.2.1, x.2.2.2.h)
/-- The first loop over a function: what it runs over, its parameters, what lays them, its body, what comes behind it. -/
def rfs : Code → List Item → Option (Operand × Array Tmp × Code × Code × List Item)
 | .seq a b, k => match rfs a (.code b :: k) with
   | some x => some x
   | none => rfs b k
 | .cond _ a b, k => match rfs a k with
   | some x => some x
   | none => rfs b k
 | .block id c, k => rfs c (.inBlock id :: k)
 | .scope c, k => rfs c (.inScope c :: k)
 | .loop c, k => rfs c (.inLoop c :: k)
 | .rangeFunc g p x y, k => some (g, p, x, y, k)
 | _, _ => none
def rf (fn : Func) : Operand × Array Tmp × Code × Code × List Item := match fn.body with
 | some c => (rfs c []).getD default
 | none => default
def rfI (fn : Func) : List Item := .code (.rangeFunc (rf fn).1 (rf fn).2.1 (rf fn).2.2.1 (rf fn).2.2.2.1) :: (rf fn).2.2.2.2
end
end Go.Proofs.YtjegnmlchioofaaGreatDoor.E
namespace Go.Proofs.YtjegnmlchioofaaGreatDoor.E
set_option maxHeartbeats 1000000
open Go.RowKit
set_option linter.unusedVariables false
section
variable {P : Program} {Fx : Fence} {nf : Nat} {B M : Nat → Prop} {w0 w w' : World} {A A' : Nat → Prop} {m m' : Nat → Option Value}
/-- What stands by fixed names alone goes over to a later world. -/
theorem refs_mo {p : Nat → Bool} {u : Value} {x : V} (hx : refs p x = true) (hm : ∀ b, p b = true → ∀ v, m b = some v → m' b = some v) (g : Mo w A no w' A' no) (h : Rep w A m u x) : Rep w' A' m' u x := by
 let m0 : Nat → Option Value := fun b => if p b then m b else none
 have h1 : Rep w A m0 u x := refs_ok (p := p) (fun b hb => if_pos hb) Mo.refl h hx
 refine h1.mo ⟨g.size, g.blk, g.av, fun b v e => ?_⟩
 by_cases hb : p b = true
 · exact hm b hb v ((if_pos hb).symm.trans e)
 · have : m0 b = none := if_neg hb
   rw [this] at e
   cases e
def okG (n : Nat) (R : Nat → Bool) : Gh → Bool
 | .fz _ => true
 | .mv b c => R b && Nat.ble n c
 | _ => false
theorem ghM_ok {n : Nat} {R : Nat → Bool} : ∀ (gs : List Gh) {σ : St} {a : Act} {m : Nat → Option Value} {w : World}, gs.all (okG n R) = true → SOk B M w0 σ a m w → ∃ m', SOk B M w0 (gs.foldl gh σ) a m' w ∧ Mo w (Av M σ.ho m) no w (Av M (gs.foldl gh σ).ho m') no ∧ ∀ b, b < n → R b = false → m' b = m b
 | [], σ, a, m, w, _, H => ⟨m, H, Mo.refl, fun _ _ _ => rfl⟩
 | g :: r, σ, a, m, w, h, H => by
  simp only [List.all_cons, Bool.and_eq_true] at h
  cases g with
  | fz t =>
    obtain ⟨h1, h2⟩ := fz_ok H t
    obtain ⟨m', h3, h4, h5⟩ := ghM_ok r h.2 h1
    exact ⟨m', h3, h2.no.trans h4, h5⟩
  | mv b c =>
    obtain ⟨m1, h1, _, h2, h3⟩ := mv_ok H b c
    obtain ⟨m', k1, k2, k3⟩ := ghM_ok r h.2 h1
    have h4 := h.1
    simp only [okG, Bool.and_eq_true, Nat.ble_eq] at h4
    refine ⟨m', k1, h3.trans k2, fun k hk hR => (k3 k hk hR).trans (h2 k (fun e => ?_) (by omega))⟩
    subst e
    rw [hR] at h4
    cases h4.1
  | _ => cases h.1
/-- A piece of code goes from a state to a state; rows of R may move. -/
def RnM (P : Program) (n : Nat) (R : Nat → Bool) (c : Code) (σ : St) (e : Exit) (σ' : St) : Prop :=
 ∃ (sc : List (Fa P)) (ks : Ks) (σ2 : St) (gs : List Gh) (ts bs : List Nat), runC P 5000 c σ sc = some (e, σ2, [], ks) ∧ (∀ p ∈ ks, p.1 = p.2) ∧ gs.all (okG n R) = true ∧ trim n (keep ts bs (gs.foldl gh σ2)) = σ'
theorem keep_mo {σ : St} (ts bs : List Nat) : Mo w (Av M σ.ho m) m w (Av M (keep ts bs σ).ho m) m := Mo.sub fun b => by
 have := (keepH_ok (bs := bs) σ.h 0).2 b
 exact this
theorem RnM_ok (hm : P.follows .mixedOrders = true) (hFx : WideF Fx) {n : Nat} {R : Nat → Bool} {c : Code} {σ σ' : St} {e : Exit} {a : Act} {m : Nat → Option Value} {w : World} (hn : σ.h.length = n) (h : RnM P n R c σ e σ') (H : SOk B M w0 σ a m w) :
  c.wpIn Fx nf P (fun e' a' w' => e' = e ∧ ∃ m', SOk B M w0 σ' a' m' w' ∧ Mo w (Av M σ.ho m) no w' (Av M σ'.ho m') no ∧ (∀ b v, R b = false → m b = some v → m' b = some v) ∧ a'.defers = a.defers) a w := by
 obtain ⟨sc, ks, σ2, gs, ts, bs, h1, h2, h3, rfl⟩ := h
 refine wpIn_mono (runC_ok hm hFx (fun w' A' m' => Mo w (Av M σ.ho m) m w' A' m') (fun _ _ _ _ _ _ h g => h.trans g) _ _ _ _ _ _ _ _ _ _ _ h1 h2 H Mo.refl rfl) ?_
 rintro e' a' w' ⟨rfl, m2, H2, hmo, hdf⟩
 obtain ⟨m3, H3, hmo3, hk3⟩ := ghM_ok gs h3 H2
 have H4 := H3.keep ts bs
 obtain ⟨m', q1, q2, H5⟩ := trim_ok H4 n
 refine ⟨rfl, m', H5, (hmo.no.trans hmo3).trans ((keep_mo ts bs).no.trans q2), fun b v hR e => ?_, hdf⟩
 have hb : b < n := by
  have := H.nm b (by rw [e]; intro e; cases e)
  omega
 rw [q1 b hb, hk3 b hb hR]
 exact hmo.mm b v e
/-- A piece of code, told at once. -/
noncomputable def metM {P : Program} (n : Nat) (R : Nat → Bool) (gs : List Gh) (ts bs : List Nat) : Option (Exit × St × List (Fa P) × Ks) → Bool × Exit × List (List V) × St
 | some (e, σ, [], ks) => (gs.all (okG n R), e, ks.map (·.1), trim n (keep ts bs (gs.foldl gh σ)))
 | _ => (false, .normal, [], ⟨[], []⟩)
theorem RnM.of {n : Nat} {R : Nat → Bool} {c : Code} {σ σ' : St} {e : Exit} (gs : List Gh) (ts bs : List Nat) (sc : List (Fa P)) (h : metM n R gs ts bs (runC P 5000 c σ sc) = toldC e σ' (runC P 5000 c σ sc)) : RnM P n R c σ e σ' := by
 cases hr : runC P 5000 c σ sc with
 | none => rw [hr] at h; cases h
 | some x =>
  obtain ⟨e2, σ2, sc2, ks⟩ := x
  rw [hr] at h
  cases sc2 with
  | nil =>
   simp only [metM, toldC, Prod.mk.injEq] at h
   obtain ⟨h1, rfl, h3, h4⟩ := h
   exact ⟨sc, ks, σ2, gs, ts, bs, hr, ks_ok h3, h1, h4⟩
  | cons => cases h
theorem RnM.ofH {n : Nat} {R : Nat → Bool} {c : Code} {σ : St} {e : Exit} {h' : List HO} (gs : List Gh) (ts bs : List Nat) (sc : List (Fa P)) (h : hd (metM n R gs ts bs (runC P 5000 c σ sc)) = hd (toldC e ⟨[], h'⟩ (runC P 5000 c σ sc))) : ∃ t', RnM P n R c σ e ⟨t', h'⟩ := by
 cases hr : runC P 5000 c σ sc with
 | none => rw [hr] at h; cases h
 | some x =>
  obtain ⟨e2, σ2, sc2, ks⟩ := x
  rw [hr] at h
  cases sc2 with
  | nil =>
   simp only [hd, metM, toldC, Prod.mk.injEq] at h
   obtain ⟨h1, rfl, h3, h4⟩ := h
   refine ⟨(trim n (keep ts bs (gs.foldl gh σ2))).t, sc, ks, σ2, gs, ts, bs, hr, ks_ok h3, h1, ?_⟩
   rw [← h4]
  | cons => cases h
end
end Go.Proofs.YtjegnmlchioofaaGreatDoor.E
namespace Go.Proofs.YtjegnmlchioofaaGreatDoor.E
open Go.RowKit
set_option linter.unusedVariables false
set_option linter.unusedSimpArgs false
section
variable {P : Program} {ops : Array Oper} {B M : Nat → Prop} {w0 : World}
theorem below_gr {w w' : World} (h : Below w.heap.size w w') : w.grownBy w' none := ⟨h.os, h.tape, h.output, h.size, fun k hk _ => h.block k hk⟩
/-- Operations in a row, ahead of others. -/
theorem seqP_ok {Fx : Fence} {nf : Nat} (hFx : WideF Fx) (hnd : nodef ops = true) (E : World → (Nat → Prop) → (Nat → Option Value) → Prop) (hE : ∀ w A m w' A' m', E w A m → Mo w A m w' A' m' → E w' A' m') {dfs : List Deferred} {Q : Exit → Act → World → Prop} (rest : List Oper) : ∀ (l : List Oper) (g : List (Nat × Bool)) (k : Nat) (σ σ' : St) (fps : List Fp) (sc sc' : List (Fa P)) (ks : Ks) (a : Act) (m : Nat → Option Value) (w : World), ops.toList.drop k = l ++ rest → regR P ops l g σ sc = some (σ', fps, sc', ks) → (∀ p ∈ ks, p.1 = p.2) →
  SOk B M w0 σ a m w → E w (Av M σ.ho m) m → a.defers = dfs → (∀ a m w, SOk B M w0 σ' a m w → E w (Av M σ'.ho m) m → a.defers = dfs → wpListIn Fx nf P ops Q rest a w) → wpListIn Fx nf P ops Q (l ++ rest) a w
 | [], g, k, σ, σ', fps, sc, sc', ks, a, m, w, _, e, _, H, h0, hds, hQ => by
  simp only [regR, Option.some.injEq, Prod.mk.injEq] at e
  obtain ⟨rfl, rfl, rfl, rfl⟩ := e
  exact hQ a m w H h0 hds
 | o :: r, g, k, σ, σ', fps, sc, sc', ks, a, m, w, hl, e, hk, H, h0, hds, hQ => by
  unfold regR at e
  split at e
  · rename_i g1 σ1 fp sc1 k1 hs
    split at e
    · rename_i σ2 fps2 sc2 k2 hr
      simp only [Option.some.injEq, Prod.mk.injEq] at e
      obtain ⟨rfl, rfl, rfl, rfl⟩ := e
      have hkl : k < ops.toList.length := by
       rcases Nat.lt_or_ge k ops.toList.length with h | h
       · exact h
       · rw [List.drop_of_length_le h] at hl; cases hl
      have hkl' : k < ops.size := by simpa using hkl
      rw [List.drop_eq_getElem_cons hkl] at hl
      injection hl with hl1 hl2
      have ho : ops[k]? = some o := by rw [Array.getElem?_eq_getElem hkl', ← hl1]; simp
      obtain ⟨v, ws, rfl, hf, hst⟩ := stepR_ok (B := B) (M := M) hs fun p hp => hk p (by simp [hp])
      have h1 := hst a w σ.ho m H.K ⟨fun t _ => H.slot t, H.K.gl⟩ (fun j c d _ _ => H.slot d) (fun _ _ => rfl) (fun _ _ _ => rfl) (fun b _ hb => ⟨by simp only [St.ho, List.getD_eq_getElem?_getD, List.getElem?_eq_none hb]; rfl, by
       cases hm : m b with
       | none => rfl
       | some x => have := H.nm b (by rw [hm]; intro e; cases e); omega⟩)
      have h2 : wpListIn Fx nf P ops Q (o :: (r ++ rest)) a w = wpOpIn Fx nf P ops Q k (wpListIn Fx nf P ops Q (r ++ rest)) a w := by
       unfold wpOpIn
       rw [ho]
       rfl
      show wpListIn Fx nf P ops Q (o :: (r ++ rest)) a w
      rw [h2]
      refine wpOp_of hFx hnd ho h1 fun u w' hp => ?_
      obtain ⟨m', H', hmo⟩ := H.step (o := o) hp
      exact seqP_ok hFx hnd E hE rest r _ (k + 1) _ _ _ _ _ _ _ m' w' hl2 hr (fun p hp => hk p (by simp [hp])) H' (hE _ _ _ _ _ _ h0 hmo) (put_size.2.trans hds) hQ
    · cases e
  · cases e
/-- A yield. -/
theorem yield_op {nf : Nat} {Q : Exit → Act → World → Prop} {R : Ending → World → Prop} {i : Nat} {o : Oper} {K : Act → World → Prop} {a : Act} {w : World} {c : Call} {x : Operand} {l : Nat} (hnd : nodef ops = true) (ho : ops[i]? = some o) (hg : o.guard = none) (hc : o.op = .call c) (hx : c.callee = .value x) (hv : a.eval x = .func (.yield l) #[] #[])
  (hY : YieldAt Fence.wide (nf - 1) P l (c.args.map a.eval) w R) (hK : ∀ e w', R e w' → ∃ v, e = .returned v ∧ K (a.put o.dst v) w') : wpOpIn Fence.wide nf P ops Q i K a w := by
 obtain ⟨fn, tmps, assign, body, hy, hR⟩ := hY
 unfold wpOpIn
 rw [ho]
 have hw : Region.wanted o (yielded ops a.tmps) = true := wanted_none hg
 simp only [hw, if_true]
 unfold Oper.wpIn
 refine ⟨fun f _ => trivial, ?_⟩
 rw [Oper.semAt_plain _ _ _ (nodef_at hnd ho)]
 have hex : (execOp a.eval o).run P w = .ok (.round l fn tmps assign body) w := by
  simp [execOp, hc, resolve, hx, hv, Deferred.ofValue, invoke, hy]
 rw [hex]
 refine ⟨fun h => by simp [Fence.wide] at h, hR.mono fun e w' he => ?_⟩
 obtain ⟨v, rfl, h2⟩ := hK e w' he
 exact h2
/-- From a state, in a context, the function returns, and R holds. -/
def GG (P : Program) (f : FuncId) (n : Nat) (mc : Nat → Option Value) (C : World → (Nat → Prop) → (Nat → Prop) → Prop) (R : World → Prop) (td : List Item) (σ : St) : Prop :=
 ∀ (w0 : World) (B M : Nat → Prop) (b : Frame) (a : Act) (m : Nat → Option Value) (w : World) (cs : List Frame), C w0 B M → b.fn = f → b.kind = .normal → a.defers = [] → (∀ j, j < n → m j = mc j ∧ mc j ≠ none) → SOk B M w0 σ a m w →
  ∃ w' fr v, R w' ∧ Comes P (lone (b.at a td) cs w) (lone fr cs w') (.returned v) ∧ fr.fn = f ∧ fr.leaving P w' (.returned v)
variable {f : FuncId} {n : Nat} {mc : Nat → Option Value} {C : World → (Nat → Prop) → (Nat → Prop) → Prop} {R : World → Prop}
theorem GG.of_step {td td' : List Item} {σ : St} (h : GG P f n mc C R td' σ) (hs : ∀ (b : Frame) (a : Act) (cs : List Frame) (w : World), a.tmps.size = σ.t.length → step P (lone (b.at a td) cs w) = .next (lone (b.at a td') cs w)) : GG P f n mc C R td σ := by
 intro w0 B M b a m w cs hC hf hk hd hM H
 obtain ⟨w', fr, v, h1, h2, h3⟩ := h w0 B M b a m w cs hC hf hk hd hM H
 exact ⟨w', fr, v, h1, .of_steps (.one (hs b a cs w H.sz)) h2, h3⟩
theorem runG_ok (hm : P.follows .mixedOrders = true) : ∀ (q : Nat) (td td' : List Item) (σ σ' : St) (sc sc' : List (Fa P)) (ks : Ks), run P q td σ sc = .at_ td' σ' sc' ks → (∀ p ∈ ks, p.1 = p.2) → GG P f n mc C R td' σ' → GG P f n mc C R td σ := by
 intro q
 induction q with
 | zero => intro td td' σ σ' sc sc' ks e; cases e
 | succ q ih =>
   intro td td' σ σ' sc sc' ks e hk hg
   have hsame : Out.at_ (P := P) td σ sc [] = .at_ td' σ' sc' ks → GG P f n mc C R td σ := by
    intro e
    simp only [Out.at_.injEq] at e
    obtain ⟨rfl, rfl, rfl, rfl⟩ := e
    exact hg
   cases td with
   | nil => exact hsame (by simpa only [run] using e)
   | cons x k =>
     cases x with
     | inBlock id =>
       simp only [run] at e
       exact (ih _ _ _ _ _ _ _ e hk hg).of_step fun b a cs w _ => step_inBlock
     | inScope id =>
       simp only [run] at e
       exact (ih _ _ _ _ _ _ _ e hk hg).of_step fun b a cs w _ => step_inScope
     | inLoop c =>
       simp only [run, Out.at_.injEq] at e
       obtain ⟨rfl, rfl, rfl, rfl⟩ := e
       exact hg.of_step fun b a cs w _ => step_inLoop
     | code c =>
       cases c with
       | skip =>
         simp only [run] at e
         exact (ih _ _ _ _ _ _ _ e hk hg).of_step fun b a cs w _ => step_skip
       | label l =>
         simp only [run] at e
         exact (ih _ _ _ _ _ _ _ e hk hg).of_step fun b a cs w _ => step_label
       | scope c =>
         simp only [run] at e
         exact (ih _ _ _ _ _ _ _ e hk hg).of_step fun b a cs w _ => step_scope
       | seq x y =>
         simp only [run] at e
         exact (ih _ _ _ _ _ _ _ e hk hg).of_step fun b a cs w _ => step_seq
       | block id c =>
         simp only [run] at e
         exact (ih _ _ _ _ _ _ _ e hk hg).of_step fun b a cs w _ => step_block
       | exit id =>
         simp only [run] at e
         split at e
         · rename_i k' hk'
           exact (ih _ _ _ _ _ _ _ e hk hg).of_step fun b a cs w _ => step_exit hk'
         · cases e
       | loop c =>
         simp only [run, Out.at_.injEq] at e
         obtain ⟨rfl, rfl, rfl, rfl⟩ := e
         exact hg.of_step fun b a cs w _ => step_loop
       | ret => exact hsame (by simpa only [run] using e)
       | rangeFunc f p x y => exact hsame (by simpa only [run] using e)
       | cond c x y =>
         simp only [run] at e
         split at e
         · rename_i t t0 b0 hb sc1 hc
           obtain ⟨k2, h1, rfl⟩ := add_at e
           have hkey := hk _ (List.mem_append.2 (.inl (List.mem_singleton.2 rfl)))
           simp only [List.cons.injEq, V.k.injEq, Value.bool.injEq, and_true] at hkey
           subst hkey
           have h2 := ih _ _ _ _ _ _ _ h1 (fun p hp => hk p (List.mem_append.2 (.inr hp))) hg
           intro w0 B M b a m w cs hC hf hkd hd hM H
           obtain ⟨w', fr, v, h3, h4, h5⟩ := h2 w0 B M b a m w cs hC hf hkd hd hM H
           have hv := ev_rep (a := a) (x := c) (σ := σ) (w := w) (A := Av M σ.ho m) (m := m) H.K.gl fun t0 _ => H.slot t0
           rw [hc] at hv
           refine ⟨w', fr, v, h3, .of_steps (.one (step_cond (Rep.k_inv hv))) ?_, h5⟩
           rw [hb]
           cases b0 <;> exact h4
         · exact hsame e
       | region id ops dr =>
         simp only [run] at e
         split at e
         · rename_i σ1 fps sc1 k1 hr
           split at e
           · rename_i hc
             obtain ⟨k2, h1, rfl⟩ := add_at e
             have h2 := ih _ _ _ _ _ _ _ h1 (fun p hp => hk p (List.mem_append.2 (.inr hp))) hg
             have hk1 : ∀ p ∈ k1, p.1 = p.2 := fun p hp => hk p (List.mem_append.2 (.inl hp))
             intro w0 B M b a m w cs hC hf hkd hd hM H
             have hwp := wpIn_wide.1 (region_ok (nf := 0) (id := id) hm WideF.wide hr hk1 hc (fun _ _ m => ∀ j, j < n → m j = mc j ∧ mc j ≠ none) (fun _ _ _ _ _ _ g1 g2 j hj => io_mo g1 g2 j hj) H hM rfl)
             obtain ⟨e', a', w', ⟨rfl, m', H', hM', hd'⟩, harr⟩ := hwp b k cs
             obtain ⟨w2, fr, v, h3, h4, h5⟩ := h2 w0 B M b a' m' w' cs hC hf hkd (hd'.trans hd) hM' H'
             exact ⟨w2, fr, v, h3, .of_steps harr h4, h5⟩
           · exact hsame e
         · exact hsame e
       | _ => simp [run] at e
     | _ => simp [run] at e
theorem GG.to (hm : P.follows .mixedOrders = true) {td td' : List Item} {σ σ' : St} (gs : List Gh) (ts bs : List Nat) (q : Nat) (sc : List (Fa P)) (h : GG P f n mc C R td' σ') (e : metL n gs ts bs q (run P 5000 td σ sc) = toldL td' σ' (run P 5000 td σ sc)) : GG P f n mc C R td σ := by
 cases hr : run P 5000 td σ sc with
 | bad => rw [hr] at e; cases e
 | at_ td2 σ2 sc2 ks =>
   rw [hr] at e
   cases sc2 with
   | nil =>
     simp only [metL, toldL, Prod.mk.injEq, Bool.and_eq_true] at e
     obtain ⟨⟨e0, e2⟩, e1, rfl, rfl⟩ := e
     refine runG_ok hm _ _ _ _ _ _ _ _ hr (ks_ok e1) fun w0 B M b a m w cs hC h1 h2 hd h3 H => ?_
     obtain ⟨m', H', g1⟩ := ghs_ok gs e0 H
     obtain ⟨m2, g2, _, H2⟩ := trim_ok (H'.keep ts bs) q
     exact h w0 B M b a m2 w cs hC h1 h2 hd (io_eq (io_eq h3 g1) fun j hj _ => g2 j (Nat.lt_of_lt_of_le hj (Nat.le_of_ble_eq_true e2))) H2
   | cons => cases e
theorem GG.loop {α : Type} (X : α → St) (J : α → Prop) (μ : α → Nat) {Ct : α → World → (Nat → Prop) → (Nat → Prop) → Prop} {td : List Item} (h : ∀ x, J x → (∀ y, J y → μ y < μ x → GG P f n mc (Ct y) R td (X y)) → GG P f n mc (Ct x) R td (X x)) (x : α) (hx : J x) : GG P f n mc (Ct x) R td (X x) := by
 have key : ∀ q x, μ x = q → J x → GG P f n mc (Ct x) R td (X x) := by
  intro q
  induction q using Nat.strongRecOn with
  | _ q ih => exact fun x hn hj => h x hj fun y hy hlt => ih (μ y) (hn ▸ hlt) y rfl hy
 exact key _ x rfl hx
variable {fn : Func}
theorem GG.fin (hf : P.funcs[f]? = some fn) (hres : fn.results = #[]) {td : List Item} {σ : St} (he : isEnd td = true) (hR : ∀ w0 B M w, C w0 B M → Bl B w0 w → R w) : GG P f n mc C R td σ := by
 intro w0 B M b a m w cs hC hfn hkd hd hM H
 have hfin : ∀ fr : Frame, Steps P (lone (b.at a td) cs w) (lone fr cs w) → fr.mode = .returning → fr.defers = a.defers → fr.kind = .normal → fr.fn = f → fr.tmps = a.tmps → ∃ w' fr v, R w' ∧ Comes P (lone (b.at a td) cs w) (lone fr cs w') (.returned v) ∧ fr.fn = f ∧ fr.leaving P w' (.returned v) := by
  intro fr hc q1 q2 q3 q4 q5
  exact ⟨w, fr, _, hR w0 B M w hC H.bl, hc, q4, q1, q2.trans hd, q3, fn, by rw [q4]; exact hf, results_none hres _ _ _⟩
 cases td with
 | nil => exact hfin _ (Steps.one step_end) rfl rfl hkd hfn rfl
 | cons x k =>
   cases x with
   | code c =>
     cases c with
     | ret => exact hfin _ (Steps.one step_ret) rfl rfl hkd hfn rfl
     | _ => cases he
   | _ => cases he
end
end Go.Proofs.YtjegnmlchioofaaGreatDoor.E
