/-
 CONTACT: the segments on which a polygon rests, an iterator.
-/
import Derived.Test.YtbaggkbleehegaaGreatEwA
import Derived.Test.YtbaggkbleehegaaGreatWalkPgM
import Derived.Test.YtbaggkbleehegaaGreatEuC
namespace Go.Proofs.YtbaggkbleehegaaGreat.E
set_option maxHeartbeats 1000000
open Go.RowKit
set_option linter.unusedVariables false
set_option linter.unusedSimpArgs false
section
variable {P : Program} {w : World}
/-- How the body of a round may be left: it goes on. -/
def postD {α : Type} (Bd : Nat) (I : SD α → World → Prop) (xs : List α) (W : World) (D : Nat → Prop) : Exit → Act → World → Prop
 | .normal, _, W' => KeepsFrom Bd W W' ∧ ∃ D', Dn D D' W W' ∧ I (xs, D') W'
 | _, _, _ => False
/-- A range over a function whose values may be new memory. -/
theorem wpIn_rangeD {α : Type} {g : Operand} {ps : Array Tmp} {assign body : Code} {Q : Exit → Act → World → Prop} {a : Act}
 {gf : Nat} {lb : Array Value} (hg : a.eval g = .func (.func gf) #[] lb) (eg : ∀ args w, (callFunc gf args).run P w = .ok (.enter gf args) w)
 {eV : α → List V} {D0 : Nat → Prop} {S Sp : List α → Prop} {N : List α → α → Prop} (hseq : SeqD P gf lb eV D0 S Sp N w) (hps : ∀ x, (eV x).length = ps.size)
 (I : SD α → World → Prop) (hI : OwnFrom w.heap.size I) (h0 : I ([], D0) w) (Ax : List α → α → Act → (Nat → Prop) → World → Prop) (hAx : ∀ pre x a', OwnFrom w.heap.size (fun (D : Nat → Prop) W => Ax pre x a' D W))
 (hassign : ∀ (l : Nat) (pre : List α) (x : α) (u : Array Value) (Wl : World) (D : Nat → Prop) (W : World) (K : Act → World → Prop), I (pre, D) Wl → (∀ g, D g → g < Wl.heap.size) → Below Wl.heap.size Wl W → Reps W D no u (eV x) → (∀ a' D' W', KeepsFrom w.heap.size W W' → Dn D D' W W' → Ax pre x a' D' W' → K a' W') →
  assign.wpIn (Fence.wide.inRound l) (6 - 1 - 1) P (Exit.then K (fun _ _ _ => False)) { tmps := (ps.zip u).foldl (fun t (p, v) => t.setIfInBounds p v) a.tmps, defers := [] } W)
 (hbody : ∀ (l : Nat) (pre : List α) (x : α) (a' : Act) (D : Nat → Prop) (W : World), w.heap.size ≤ l → Ax pre x a' D W → N pre x → body.wpIn (Fence.wide.inRound l) (6 - 1 - 1) P (postD w.heap.size I (pre ++ [x]) W D) a' W)
 (hdone : ∀ (D : Nat) (xs : List α) (D' : Nat → Prop) (W : World), w.heap.size ≤ D → S xs → I (xs, D') W → W.heap[D]? = some (.deferred (some [])) → Q .normal { a with defers := { target := .collected D, args := #[] } :: a.defers } W) :
 (Code.rangeFunc g ps assign body).wpIn Fence.wide 6 P Q a w := by
  refine wpIn_rangeFunc ?_
  intro fn hfn
  rw [show Fence.wide.round = none from rfl]
  obtain ⟨rec, hrec⟩ : ∃ rec : LoopState → Option Code → Loop, rec = fun st pe => { state := st, pending := pe, fn, tmps := a.tmps, params := ps, assign, body, defers := w.heap.size } := ⟨_, rfl⟩
  obtain ⟨W1, hW1⟩ : ∃ W1, (w.alloc (.deferred (some []))).alloc (.loop (rec .ready none)) = W1 := ⟨_, rfl⟩
  have hL1 : W1.heap[w.heap.size + 1]? = some (.loop (rec .ready none)) := by
    rw [← hW1]; have := World.alloc_heap_new (w.alloc (.deferred (some []))) (.loop (rec .ready none)); rwa [World.size_alloc] at this
  have hK1 : W1.heap[w.heap.size]? = some (.deferred (some [])) := by
    rw [← hW1]; exact (Below.heap_alloc _ _ _ (by simp)).trans (World.alloc_heap_new w _)
  have k0 : I ([], D0) W1 := by rw [← hW1]; exact hI.alloc _ (hI.alloc _ h0)
  have k1 : Below w.heap.size w W1 := by
    rw [← hW1]; exact ((Below.refl _ w).alloc (Nat.le_refl _) _).alloc (by simp) _
  refine ⟨w.heap.size + 1, [{ target := .collected w.heap.size, args := #[] }], W1, { target := .fn (.func gf) lb, args := #[.func (.yield (w.heap.size + 1)) #[] #[]] }, W1, gf,
    #[.func (.yield (w.heap.size + 1)) #[] #[]] ++ lb, W1, ?_, ?_, ?_, ?_, fun h => by simp [Fence.wide] at h, ?_⟩
  · rw [← hW1, hrec]; exact run_enterLoop_outer _ _ _ _ _
  · simp only [resolve, hg]
    simp [go_sem]
  · intro f' hf'; trivial
  · simp [invoke, go_sem, eg]
  · have hnw : ∀ {A B : World} {row : Option Nat}, (∀ r, row = some r → W1.heap.size ≤ r ∧ ∃ o : Obj, A.heap[r]? = some o ∧ o.isWalk = true) → (∀ r, row = some r → w.heap.size ≤ r ∧ ∃ o : Obj, A.heap[r]? = some o ∧ o.isCells = false) :=
      fun hr r e => by obtain ⟨hB, o, ho, hw⟩ := hr r e; exact ⟨by rw [← hW1] at hB; simp at hB; omega, o, ho, Obj.not_cells_of_walk hw⟩
    refine callsIn_wide.2 ((hseq (w.heap.size + 1)
      (fun s W => I s W ∧ W.heap[w.heap.size + 1]? = some (.loop (rec .ready none)) ∧ W.heap[w.heap.size]? = some (.deferred (some [])))
      (fun s W => False)
      W1 k1
      (fun s A B row hs hg' hr => ⟨hI s A B row hs.1 hg' (hnw (B := B) hr), (grownBy_keeps hg' (fun r e => (hr r e).2) hs.2.1 rfl).trans hs.2.1, (grownBy_keeps hg' (fun r e => (hr r e).2) hs.2.2 rfl).trans hs.2.2⟩)
      (fun s A B row hs hg' hr => hs)
      ?_ ⟨k0, hL1, hK1⟩).mono ?_)
    · rintro nf pre x u Wl D W hlen ⟨hil, hll, hkl⟩ hDl hBl hReps
      have hl : W.heap[w.heap.size + 1]? = some (.loop (rec .ready none)) := (hBl.block _ (Array.getElem?_eq_some_iff.1 hll).1).trans hll
      have hk : W.heap[w.heap.size]? = some (.deferred (some [])) := (hBl.block _ (Array.getElem?_eq_some_iff.1 hkl).1).trans hkl
      have hlt : w.heap.size + 1 < W.heap.size := (Array.getElem?_eq_some_iff.1 hl).1
      have hy := run_yield (P := P) (args := u) hl (by rw [hrec]; exact hReps.1.trans (hps x))
      rw [hrec] at hy
      refine ⟨fn, _, assign, body, hy, ?_⟩
      have conv : ∀ {R : Ending → World → Prop} {tm : Array Value} {W : World}, RoundIn Fence.wide (6 - 1 - 1) P (w.heap.size + 1) fn tm assign body W R → RoundIn Fence.wide nf P (w.heap.size + 1) fn tm assign body W R := fun h => ⟨h.1, fun c cs _ => h.2 c cs (room_wide _)⟩
      refine conv (roundIn_of_wpIn hfn (hassign _ pre x u Wl D W _ hil hDl hBl hReps ?_))
      clear hy
      intro a' Da Wa hkfa hDa hax
      have hl0 := hl
      replace hl := hkfa.same _ _ (by omega) hl rfl
      replace hk := hkfa.same _ _ (Nat.le_refl _) hk rfl
      replace hlt : w.heap.size + 1 < Wa.heap.size := (Array.getElem?_eq_some_iff.1 hl).1
      refine ⟨_, run_beginRound hl (by rw [hrec]), ?_⟩
      have hl2 : (Wa.putObj (w.heap.size + 1) (.loop { rec .ready none with state := .busy })).heap[w.heap.size + 1]? = some (.loop { rec .ready none with state := .busy }) := World.putObj_heap_same hlt
      have hk2 : (Wa.putObj (w.heap.size + 1) (.loop { rec .ready none with state := .busy })).heap[w.heap.size]? = some (.deferred (some [])) := (World.putObj_heap_other (by omega)).trans hk
      refine wpIn_mono (hbody _ pre x a' Da _ (by omega) ((hAx pre x a').putObj (s := Da) _ hax (by omega) hl rfl) hlen) ?_
      have fin : ∀ (jump : Option Code) (W3 : World), KeepsFrom w.heap.size (Wa.putObj (w.heap.size + 1) (.loop { rec .ready none with state := .busy })) W3 →
          (Instr.endRound (w.heap.size + 1) jump).run P W3 = .ok (.bool jump.isNone) (W3.putObj (w.heap.size + 1) (.loop (rec (if jump.isNone then .ready else .done) jump))) ∧
          W3.heap[w.heap.size + 1]? = some (.loop { rec .ready none with state := .busy }) ∧
          (W3.putObj (w.heap.size + 1) (.loop (rec (if jump.isNone then .ready else .done) jump))).heap[w.heap.size + 1]? = some (.loop (rec (if jump.isNone then .ready else .done) jump)) ∧
          (W3.putObj (w.heap.size + 1) (.loop (rec (if jump.isNone then .ready else .done) jump))).heap[w.heap.size]? = some (.deferred (some [])) := fun jump W3 hk3 => by
        have hl3 := hk3.same _ _ (by omega) hl2 rfl
        have := run_endRound (P := P) jump hl3
        rw [hrec] at this ⊢
        exact ⟨this, by rw [hrec] at hl3; exact hl3, World.putObj_heap_same (Array.getElem?_eq_some_iff.1 hl3).1, (World.putObj_heap_other (by omega)).trans (hk3.same _ _ (Nat.le_refl _) hk2 rfl)⟩
      rintro e a3 W3 hp
      cases e with
      | normal =>
        obtain ⟨hk3, Db, hDb, hi3⟩ := hp
        obtain ⟨hr, hl3, hl4, hk4⟩ := fin none W3 hk3
        have hsz : ∀ (X : World) (o : Obj), (X.putObj (w.heap.size + 1) o).heap.size = X.heap.size := fun X o => by simp [World.putObj]
        have hs1 := hDa.size
        have hs2 := hDb.size
        rw [hsz] at hs2
        refine ⟨_, _, hr, Db, ⟨by rw [hsz]; omega, fun g hg hd => ?_, fun g hg => ?_, fun g hg => by rw [hsz]; exact hDb.lt g hg⟩, .inl ⟨rfl, hI.putObj _ hi3 (by omega) hl3 rfl, hl4, hk4⟩⟩
        · by_cases e : g = w.heap.size + 1
          · subst e
            exact hl4.trans hl0.symm
          · have h1 : ¬ Da g := fun h => (hDa.own g h).elim hd fun h => by omega
            have h2 := hDb.blk g (by rw [hsz]; omega) h1
            exact ((World.putObj_heap_other (by omega)).trans (h2.trans (World.putObj_heap_other (by omega)))).trans (hDa.blk g hg hd)
        · rcases hDb.own g hg with h | h
          · exact hDa.own g h
          · rw [hsz] at h
            exact .inr (by omega)
      | _ => exact hp.elim
    · rintro e W2 ⟨⟨v, rfl⟩, (⟨xs, D', hS, hi, hl, hk⟩ | ⟨pre, D', hSp, c⟩)⟩
      · exact ⟨none, _, by have := run_endLoop (P := P) hl (by rw [hrec]; simp); rw [hrec] at this; exact this, hdone _ xs D' _ (Nat.le_refl _) hS (hI.putObj _ hi (by omega) hl rfl) ((World.putObj_heap_other (by omega)).trans hk)⟩
      · exact c.elim
/-- **A LOOP OVER A FUNCTION**, whose values may be new memory; its rounds may grow rows: rows of R may move; nothing names them but boxes. -/
theorem Gd.rangeD (hm : P.follows .mixedOrders = true) {f : FuncId} {fn : Func} {d : RD} (hf : P.funcs[f]? = some fn) {α : Type} {g : Operand} {ps : Array Tmp} {assign body : Code} {k : List Item} {σ : St} {gf : FuncId} {caps : List V} {eV : α → List V} {S Sp : List α → Prop} {N : List α → α → Prop}
  (hg : exp σ.ho 5 (σ.ev g) = some (.cl gf caps, [])) (it : IterD P gf caps eV S Sp N) (hps : ∀ x, (eV x).length = ps.size)
  (R : Nat → Bool) (hσ : σ.t.all (refs fun b => ownB σ.h b && !R b) = true)
  (H : List α → List HO) (h0 : H [] = σ.h) (hH : ∀ pre, (H pre).length = σ.h.length ∧ ∀ b, ((H pre).getD b .dead).own = ownB σ.h b)
  (tA : α → List V) (hA : ∀ pre x, RnM P σ.h.length (fun _ => false) assign ⟨setP σ.t ps.toList (eV x), H pre⟩ .normal ⟨tA x, H pre⟩)
  (J : List α → Prop) (hJ0 : J [])
  (hB : ∀ pre x, N pre x → J pre → J (pre ++ [x]) ∧ ∃ t', RnM P σ.h.length R body ⟨tA x, H pre⟩ .normal ⟨t', H (pre ++ [x])⟩)
  (hdone : ∀ xs, S xs → J xs → Gd P f d k ⟨σ.t, H xs⟩)
  (hd0 : d.n = 0 := by rfl) : Gd P f d (.code (.rangeFunc g ps assign body) :: k) σ := by
 intro w0 B M m0 b a m w cs hfn hkd _ Hs
 have hM : ∀ (m1 : Nat → Option Value) (j : Nat), j < d.n → m1 j = m0 j ∧ m0 j ≠ none := fun _ j hj => by rw [hd0] at hj; omega
 obtain ⟨eg, it⟩ := it
 have hgr := exp_rep (h0 := σ.ho) (A' := Av M σ.ho m) Hs.K (fun g e => e) 5 _ _ _ hg (fun b hb => by cases hb) (a.eval g) (ev_rep Hs.K.gl fun t _ => Hs.slot t)
 obtain ⟨lb, hlb, hreps⟩ : ∃ lb, a.eval g = .func (.func gf) #[] lb ∧ Reps w (Av M σ.ho m) no lb caps := by
  generalize a.eval g = u at hgr
  cases hgr with
  | cl _ _ cs _ h1 h2 => exact ⟨cs, rfl, h1, h2, Hs.K.gl⟩
 have hseq := it w _ lb (fun g hg => Hs.K.av_lt hg) hreps
 have hbs := Hs.K.bs
 let fx : Nat → Bool := fun b => ownB σ.h b && !R b
 have fxo : ∀ {b}, fx b = true → ownB σ.h b = true ∧ R b = false := fun {b} h => by
  simp only [fx, Bool.and_eq_true, Bool.not_eq_true'] at h
  exact h
 let AV : List α → (Nat → Option Value) → Nat → Prop := fun pre m' => Av M (fun b => (H pre).getD b .dead) m'
 let Ag : (Nat → Option Value) → Prop := fun m' => ∀ b, fx b = true → m' b = m b
 let TI : List α → Act → World → (Nat → Option Value) → Prop := fun pre a' W m' => Ag m' ∧ SOk B M w0 ⟨σ.t, H pre⟩ a' m' W ∧ w.heap.size ≤ W.heap.size
 let I : SD α → World → Prop := fun s W => J s.1 ∧ ∃ m', TI s.1 a W m' ∧ s.2 = AV s.1 m'
 let Ax : List α → α → Act → (Nat → Prop) → World → Prop := fun pre x a' D W => J pre ∧ ∃ m', TI pre a W m' ∧ D = AV pre m' ∧ a'.tmps.size = (tA x).length ∧ a'.defers = [] ∧ ∀ i y, (tA x)[i]? = some y → Rep W (AV pre m') m' (a'.tmps.getD i undef) y
 let Q : Exit → Act → World → Prop := fun e a' W => match e with
  | .normal => ∃ xs, S xs ∧ J xs ∧ ∃ m', SOk B M w0 ⟨σ.t, H xs⟩ a' m' W
  | _ => False
 have hdm : ∀ D, mark D ∈ a.defers → D < w.heap.size := fun D hD => by
  obtain ⟨Ds, q1, q2, q3⟩ := Hs.df
  rw [q1] at hD
  obtain ⟨D', h1, h2⟩ := List.mem_map.1 hD
  have : D' = D := by unfold mark at h2; injection h2 with h2; injection h2
  subst this
  exact (Array.getElem?_eq_some_iff.1 (q3 D' h1).2.1).1
 have hTI : ∀ {pre : List α} {W W' : World} {row : Option Nat} {m' : Nat → Option Value}, TI pre a W m' → W.grownBy W' row → (∀ r, row = some r → w.heap.size ≤ r ∧ ∃ o : Obj, W.heap[r]? = some o ∧ o.isCells = false) → TI pre a W' m' := fun ⟨h1, h2, h3⟩ hg hr =>
  ⟨h1, h2.grown hbs hdm hg hr, Nat.le_trans h3 hg.size⟩
 have hI : OwnFrom w.heap.size I := fun s W W' row ⟨hj, m', h, e⟩ hg hr => ⟨hj, m', hTI h hg hr, e⟩
 have hAx : ∀ pre x a', OwnFrom w.heap.size (fun (D : Nat → Prop) W => Ax pre x a' D W) := fun pre x a' _ W W' row ⟨hj, m', h, e, h1, h2, h3⟩ hg hr =>
  ⟨hj, m', hTI h hg hr, e, h1, h2, fun i y hy => (h3 i y hy).ck (ck_of hg fun r e => (hr r e).2)⟩
 -- what a piece of a round does
 have keepR : ∀ {R' : Nat → Bool} {pre pre2 : List α} {t t2 : List V} {a1 a2 : Act} {m1 m2 : Nat → Option Value} {W W' : World}, (∀ b, R b = false → R' b = false) → SOk B M w0 ⟨t, H pre⟩ a1 m1 W → TI pre a W m1 → SOk B M w0 ⟨t2, H pre2⟩ a2 m2 W' → Mo W (AV pre m1) no W' (AV pre2 m2) no → (∀ b v, R' b = false → m1 b = some v → m2 b = some v) →
   TI pre2 a W' m2 ∧ KeepsFrom w.heap.size W W' ∧ Dn (AV pre m1) (AV pre2 m2) W W' := by
  intro R' pre pre2 t t2 a1 a2 m1 m2 W W' hR H1 hT H2 hmo hmm
  obtain ⟨ag, H1s, mo1⟩ := hT
  have ag2 : Ag m2 := fun b hb => by
   obtain ⟨h3, h4⟩ := fxo hb
   obtain ⟨v, hv⟩ := own_some H1.K (b := b) (((hH pre).2 b).trans h3)
   exact (hmm b v (hR b h4) hv).trans (hv.symm.trans (ag b hb))
  refine ⟨⟨ag2, ⟨H2.K, H1s.sz, H1s.df.mo hmo, fun i x hx => refs_mo (List.all_eq_true.1 hσ x (List.mem_of_getElem? hx)) (fun b hb v e => hmm b v (hR b (fxo hb).2) e) hmo (H1s.tm i x hx), H2.nm, H2.bl⟩, Nat.le_trans mo1 hmo.size⟩, ⟨hmo.size, fun q o hq ho hc => ?_⟩, ⟨hmo.size, hmo.blk, hmo.av, fun g hg => H2.K.av_lt hg⟩⟩
  refine (hmo.blk q (Array.getElem?_eq_some_iff.1 ho).1 fun hav => ?_).trans ho
  have := av_cells H1.K hav (fun e => absurd (hbs q e) (by omega)) ho
  rw [hc] at this
  cases this
 have hassign : ∀ (l : Nat) (pre : List α) (x : α) (u : Array Value) (Wl : World) (D : Nat → Prop) (W : World) (K : Act → World → Prop), I (pre, D) Wl → (∀ g, D g → g < Wl.heap.size) → Below Wl.heap.size Wl W → Reps W D no u (eV x) → (∀ a' D' W', KeepsFrom w.heap.size W W' → Dn D D' W W' → Ax pre x a' D' W' → K a' W') →
  assign.wpIn (Fence.wide.inRound l) (6 - 1 - 1) P (Exit.then K (fun _ _ _ => False)) { tmps := (ps.zip u).foldl (fun t (p, v) => t.setIfInBounds p v) a.tmps, defers := [] } W := by
  rintro l pre x u Wl D W K ⟨hj, m1, hTl, hD⟩ hDl hBl hReps hK
  replace hD : D = AV pre m1 := hD
  subst hD
  have hT : TI pre a W m1 := hTI hTl (below_gr hBl) fun r e => by cases e
  obtain ⟨ag, H1, hmo⟩ := hT
  obtain ⟨el, eo⟩ := hH pre
  have hfold : (ps.zip u).foldl (fun t (p, v) => t.setIfInBounds p v) a.tmps = (ps.toList.zip u.toList).foldl (fun t (p, v) => t.setIfInBounds p v) a.tmps := by
   rw [← Array.foldl_toList, Array.toList_zip]
  obtain ⟨z1, z2⟩ := setP_ok (w := W) (A := AV pre m1) (m := m1) ps.toList (eV x) u.toList σ.t a.tmps (by have := hReps.1; simpa using this) H1.sz H1.tm fun j y hy => by
   have h3 := hReps.2 j y hy
   rw [← getD_toList] at h3
   exact h3.mo ⟨Nat.le_refl _, fun _ _ _ => rfl, fun g e => .inl e, fun b v e => by cases e⟩
  rw [hfold]
  have Hr : SOk B M w0 ⟨setP σ.t ps.toList (eV x), H pre⟩ { tmps := (ps.toList.zip u.toList).foldl (fun t (p, v) => t.setIfInBounds p v) a.tmps, defers := [] } m1 W := ⟨H1.K, z1, DfOk.nil, z2, H1.nm, H1.bl⟩
  refine wpIn_mono (RnM_ok hm (WideF.round l) el (hA pre x) Hr) ?_
  rintro e' a' W' ⟨rfl, m2, H2, hmo2, hmm, hdf⟩
  obtain ⟨hT2, hkf, hkp⟩ := keepR (fun _ _ => rfl) Hr ⟨ag, H1, hmo⟩ H2 hmo2 hmm
  exact hK a' _ W' hkf hkp ⟨hj, m2, hT2, rfl, H2.sz, hdf, H2.tm⟩
 have hbody : ∀ (l : Nat) (pre : List α) (x : α) (a' : Act) (D : Nat → Prop) (W : World), w.heap.size ≤ l → Ax pre x a' D W → N pre x → body.wpIn (Fence.wide.inRound l) (6 - 1 - 1) P (postD w.heap.size I (pre ++ [x]) W D) a' W := by
  rintro l pre x a' D W hl ⟨hj, m1, hT, rfl, x1, x2, x3⟩ hlt
  obtain ⟨el, eo⟩ := hH pre
  have Hr : SOk B M w0 ⟨tA x, H pre⟩ a' m1 W := ⟨hT.2.1.K, x1, by rw [x2]; exact DfOk.nil, x3, hT.2.1.nm, hT.2.1.bl⟩
  obtain ⟨hj2, t', hb⟩ := hB pre x hlt hj
  refine wpIn_mono (RnM_ok hm (WideF.round l) el hb Hr) ?_
  rintro e' a2 W' ⟨rfl, m2, H2, hmo2, hmm, _⟩
  obtain ⟨hT2, hkf, hkp⟩ := keepR (fun _ h => h) Hr hT H2 hmo2 hmm
  exact ⟨hkf, _, hkp, hj2, m2, hT2, rfl⟩
 have addm : ∀ {xs : List α} {D : Nat} {W : World} {m1 : Nat → Option Value}, w.heap.size ≤ D → W.heap[D]? = some (.deferred (some [])) → SOk B M w0 ⟨σ.t, H xs⟩ a m1 W → SOk B M w0 ⟨σ.t, H xs⟩ { a with defers := { target := .collected D, args := #[] } :: a.defers } m1 W := by
  rintro xs D W m1 hD hd H1
  refine ⟨H1.K, H1.sz, ?_, H1.tm, H1.nm, H1.bl⟩
  obtain ⟨Ds, q1, q2, q3⟩ := H1.df
  refine ⟨D :: Ds, by rw [q1]; rfl, List.nodup_cons.2 ⟨fun hin => ?_, q2⟩, fun D' hD' => ?_⟩
  · have := hdm D (by rw [q1]; exact List.mem_map.2 ⟨D, hin, rfl⟩)
    omega
  · rcases List.mem_cons.1 hD' with rfl | h5
    · exact ⟨fun e => absurd (hbs _ e) (by omega), hd, fun hav => by
       have := av_cells H1.K hav (fun e => absurd (hbs _ e) (by omega)) hd
       cases this⟩
    · exact q3 D' h5
 have hwp : (Code.rangeFunc g ps assign body).wpIn Fence.wide 6 P Q a w :=
  wpIn_rangeD hlb eg hseq hps I hI ⟨hJ0, m, ⟨fun _ _ => rfl, by rw [h0]; exact Hs, Nat.le_refl _⟩, by show Av M σ.ho m = Av M (fun b => (H []).getD b .dead) m; rw [h0]; rfl⟩ Ax hAx hassign hbody
   (fun D xs D' W hD hS ⟨hj, m', hT, _⟩ hd => ⟨xs, hS, hj, m', addm hD hd hT.2.1⟩)
 obtain ⟨e, a', w', hq, harr⟩ := wpIn_wide.1 hwp b k cs
 cases e with
 | normal =>
  obtain ⟨xs, hS, hj, m1, H1⟩ := hq
  obtain ⟨e2, w2, fr, q1, q2, q3⟩ := hdone xs hS hj w0 B M m0 b a' m1 w' cs hfn hkd (hM _) H1
  exact ⟨e2, w2, fr, q1, .of_steps harr q2, q3⟩
 | _ => exact hq.elim
end
end Go.Proofs.YtbaggkbleehegaaGreat.E
namespace Go.Proofs.YtbaggkbleehegaaGreat.E.Ct
open Go.RowKit
set_option linter.unusedVariables false
set_option linter.unusedSimpArgs false
abbrev Vc : Type := Rat × Rat
/-- A polygon, a prop, a margin. -/
structure Su where
 L : List Vc
 P : Vc
 Q : Vc
 e : Rat
def Su.v (s : Su) : List V := dL s.L :: (dV s.P ++ (dV s.Q ++ dR s.e))
def Su.at_ (s : Su) (k : Nat) : Vc := s.L.getD k (0, 0)
def Su.nx (s : Su) (k : Nat) : Nat := (k + 1) % s.L.length
def le0 (a b : Rat) : Bool := decide (cmpQ a b ≤ 0)
def gt0 (a b : Rat) : Bool := decide (cmpQ a b > 0)
def lt0 (a b : Rat) : Bool := decide (cmpQ a b < 0)
def nearB (y h e : Rat) : Bool := le0 (y - h) e && le0 (-(y - h)) e
def Su.near (s : Su) (k : Nat) : Bool := nearB (s.at_ k).2 s.P.2 s.e
def Su.level (s : Su) (k : Nat) : Bool := gt0 (s.at_ (s.nx k)).1 (s.at_ k).1 && (s.near k && s.near (s.nx k))
def Su.m (s : Su) : Nat := s.L.length - 1
structure Su.Ok (s : Su) (b : Nat) : Prop where
 l : ∀ a ∈ s.L, Bv b a
 p : Bv b s.P
 q : Bv b s.Q
 e : Bq b s.e
 n : 0 < s.L.length ∧ s.L.length ≤ 1000
 k : b ≤ 1000000
section
variable {s : Su} {b k : Nat}
theorem Su.Ok.at_ (h : s.Ok b) (hk : k < s.L.length) : Bv b (s.at_ k) := h.l _ (by unfold Su.at_; rw [List.getD_eq_getElem?_getD, List.getElem?_eq_getElem hk]; exact List.getElem_mem _)
theorem Su.nx_lt (h : s.Ok b) (k : Nat) : s.nx k < s.L.length := Nat.mod_lt _ h.n.1
theorem Su.Ok.hm (h : s.Ok b) : s.L.length = s.m + 1 := by have := h.n; unfold Su.m; omega
theorem Su.el (hk : k < s.L.length) : (s.L.map dV)[k]? = some (dV (s.at_ k)) := E.el hk
theorem e_snear (h : s.Ok b) (hk : k < s.L.length) : Pure PP 134 [.ag s.v, ni k] (bo (s.near k)) := by
 have hv := h.at_ hk
 have he := Su.el hk
 have hb := h.k
 have c1 := e_rsub hv.2 h.p.2 (by omega)
 have c2 := e_rcmp (hv.2.sub h.p.2) h.e (by omega)
 have c3 := e_rneg ((s.at_ k).2 - s.P.2)
 have c4 := e_rcmp (hv.2.sub h.p.2).neg h.e (by omega)
 unfold Su.near nearB
 generalize s.at_ k = v at *
 cases h1 : le0 (v.2 - s.P.2) s.e with
 | true => exact tr [.sel _ _ _ he, cl c1, cl c2, ye (t := le0 (v.2 - s.P.2) s.e) h1, cl c3, cl c4] (by kernel_rfl)
 | false => exact tr [.sel _ _ _ he, cl c1, cl c2, na (t := le0 (v.2 - s.P.2) s.e) h1] (by kernel_rfl)
theorem e_after (h : s.Ok b) (hk : k < s.L.length) : Pure PP 133 [.ag s.v, ni k] (ni (s.nx k)) := by
 have hn := h.n
 have hl : (s.L.map dV).length = s.L.length := List.length_map ..
 unfold Su.nx
 exact tr [inc 6 k (by omega), .eqv 9 (ni ((s.L.map dV).length : Int)) (ni ((s.m + 1 : Nat) : Int)) (by rw [hl, h.hm]), rem_ (L := s.L) 10 (k + 1) s.m h.hm] (by kernel_rfl)
theorem e_slevel (h : s.Ok b) (hk : k < s.L.length) : Pure PP 132 [.ag s.v, ni k] (bo (s.level k)) := by
 have hm := s.nx_lt h k
 have hb := h.k
 have ca := e_after h hk
 have e1 := Su.el hk
 have e2 := Su.el hm
 have c1 := e_rcmp (h.at_ hm).1 (h.at_ hk).1 (by omega)
 have n1 := e_snear h hk
 have n2 := e_snear h hm
 unfold Su.level
 generalize hx : s.near k = x at n1
 generalize hy : s.near (s.nx k) = y at n2
 generalize s.at_ (s.nx k) = v at *
 generalize s.at_ k = u at *
 let F : List F_ := [cl ca, .sel _ _ _ e2, .sel _ _ _ e1, cl c1]
 cases h1 : gt0 v.1 u.1 with
 | true =>
  cases x with
  | true => exact tr (F ++ [ye (t := gt0 v.1 u.1) h1, cl n1, yt, cl ca, cl n2]) (by kernel_rfl)
  | false => exact tr (F ++ [ye (t := gt0 v.1 u.1) h1, cl n1, nf]) (by kernel_rfl)
 | false => exact tr (F ++ [na (t := gt0 v.1 u.1) h1, nf]) (by kernel_rfl)
end
end Go.Proofs.YtbaggkbleehegaaGreat.E.Ct
namespace Go.Proofs.YtbaggkbleehegaaGreat.E.Ct
open Go.RowKit
set_option linter.unusedVariables false
set_option linter.unusedSimpArgs false
section
variable {s : Su} {b k : Nat}
def Su.bf (s : Su) (k : Nat) : Nat := (k + s.L.length - 1) % s.L.length
def Su.from_ (s : Su) (k : Nat) : Rat := if lt0 (s.at_ k).1 s.P.1 = true then s.P.1 else (s.at_ k).1
def Su.to_ (s : Su) (k : Nat) : Rat := if gt0 (s.at_ (s.nx k)).1 s.Q.1 = true then s.Q.1 else (s.at_ (s.nx k)).1
def Su.sg1 (s : Su) (k : Nat) : List (Vc × Vc) := if s.level k = true ∧ le0 (s.from_ k) (s.to_ k) = true then [((s.from_ k, s.P.2), (s.to_ k, s.P.2))] else []
def Su.tip (s : Su) (k : Nat) : Bool := !(s.level k) && (!(s.level (s.bf k)) && (s.near k && (!(lt0 (s.at_ k).1 s.P.1) && (!(gt0 (s.at_ k).1 s.Q.1) && (!(lt0 (s.at_ (s.bf k)).2 (s.at_ k).2) && !(lt0 (s.at_ (s.nx k)).2 (s.at_ k).2))))))
def Su.sg2 (s : Su) (k : Nat) : List (Vc × Vc) := if s.tip k = true then [(((s.at_ k).1, s.P.2), ((s.at_ k).1, s.P.2))] else []
def Su.p1 (s : Su) (k : Nat) : List (Vc × Vc) := (List.range k).flatMap s.sg1
def Su.p2 (s : Su) (k : Nat) : List (Vc × Vc) := s.p1 s.L.length ++ (List.range k).flatMap s.sg2
def Su.segs (s : Su) : List (Vc × Vc) := s.p2 s.L.length
theorem Su.p1_succ (s : Su) (k : Nat) : s.p1 (k + 1) = s.p1 k ++ s.sg1 k := by unfold Su.p1; rw [List.range_succ, List.flatMap_append]; simp
theorem Su.p2_succ (s : Su) (k : Nat) : s.p2 (k + 1) = s.p2 k ++ s.sg2 k := by unfold Su.p2; rw [List.range_succ, List.flatMap_append]; simp
theorem Su.sg1_len (s : Su) (k : Nat) : (s.sg1 k).length ≤ 1 := by unfold Su.sg1; split <;> simp
theorem Su.sg2_len (s : Su) (k : Nat) : (s.sg2 k).length ≤ 1 := by unfold Su.sg2; split <;> simp
theorem Su.p1_len (s : Su) : ∀ k, (s.p1 k).length ≤ k
 | 0 => by simp [Su.p1]
 | k + 1 => by rw [Su.p1_succ, List.length_append]; have := Su.p1_len s k; have := s.sg1_len k; omega
theorem Su.p2_len (s : Su) : ∀ k, (s.p2 k).length ≤ s.L.length + k
 | 0 => by unfold Su.p2; simp; exact s.p1_len _
 | k + 1 => by rw [Su.p2_succ, List.length_append]; have := Su.p2_len s k; have := s.sg2_len k; omega
theorem Su.p2_0 (s : Su) : s.p2 0 = s.p1 s.L.length := by unfold Su.p2; simp
theorem Su.bf_lt (h : s.Ok b) (k : Nat) : s.bf k < s.L.length := Nat.mod_lt _ h.n.1
def sgV (x : Vc × Vc) : List V := dV x.1 ++ dV x.2
noncomputable abbrev fsg : Func := fnOf PP 131
noncomputable def sg0 (s : Su) (l : Nat) (more : List (Nat × V)) : St := at_ fsg ([(0, .k (.func (.yield l) #[] #[])), (1, .nm 0), (3, ni ((s.m + 1 : Nat) : Int)), (4, .ip (dR s.P.2))] ++ more) [.fz (.ip s.v)]
theorem e_segs (s : Su) : Pure PP 67 [.ag s.v] (.v (.cl 131 [.ip s.v])) := tr [] (by kernel_rfl)
section
variable {lb : Array Value} {l B0 : Nat} {J Jx : SD (Vc × Vc) → World → Prop}
/-- What comes. -/
def Nx (n b : Nat) (pre : List (Vc × Vc)) (x : Vc × Vc) : Prop := pre.length < 2 * n ∧ Bv b x.1 ∧ Bv b x.2
/-- What the consumer promises. -/
abbrev HY (l : Nat) (N : List (Vc × Vc) → Vc × Vc → Prop) (J Jx : SD (Vc × Vc) → World → Prop) : Prop := ∀ (nf : Nat) (pre : List (Vc × Vc)) (x : Vc × Vc) (u : Array Value) (Wl : World) (D : Nat → Prop) (W1 : World), N pre x → J (pre, D) Wl → (∀ g, D g → g < Wl.heap.size) → Below Wl.heap.size Wl W1 → Reps W1 D no u [.ag (sgV x)] → YieldAt Fence.wide nf PP l u W1 fun e W' => ∃ D', Dn D D' W1 W' ∧ ((e = .returned (.bool true) ∧ J (pre ++ [x], D') W') ∨ (e = .returned (.bool false) ∧ Jx (pre ++ [x], D') W'))
abbrev GS (lb : Array Value) (J Jx : SD (Vc × Vc) → World → Prop) (segs pre : List (Vc × Vc)) (td : List Item) (σ : St) : Prop := GG PP 131 1 (fun i => lb[i]?) (CD fun D W => J (pre, D) W) (fun w' => (∃ xs D', xs = segs ∧ J (xs, D') w') ∨ ∃ pre D', True ∧ Jx (pre, D') w') td σ
theorem sg_1 (h : s.Ok b) (aJx : AbidesFrom B0 Jx) (hY : HY l (Nx s.L.length b) J Jx) (hk : k < s.L.length) (next : GS lb J Jx s.segs (s.p1 (k + 1)) (lp fsg 0) (sg0 s l [(18, ni ((s.m + 1 : Nat) : Int)), (19, ni ((k + 1 : Nat) : Int))])) : GS lb J Jx s.segs (s.p1 k) (lp fsg 0) (sg0 s l [(18, ni ((s.m + 1 : Nat) : Int)), (19, ni (k : Int))]) := by
 have hb : E.okB PP 131 = true := by kernel_rfl
 have hkb := h.k
 have hn := h.n
 have hmm := h.hm
 have hm := s.nx_lt h k
 have e1 := Su.el hk
 have e2 := Su.el hm
 have lv := e_slevel h hk
 have ca := e_after h hk
 have b1 := (h.at_ hk).1
 have b2 := (h.at_ hm).1
 have hp1 := s.p1_len k
 rw [s.p1_succ] at next
 let F0 : List F_ := [ye (t := decide ((k : Int) < ((s.m + 1 : Nat) : Int))) (decide_eq_true (by omega)), cl lv]
 cases hlv : s.level k with
 | false =>
  have hs : s.sg1 k = [] := by unfold Su.sg1; rw [if_neg (by rw [hlv]; simp)]
  rw [hs, List.append_nil] at next
  rw [hlv] at lv
  exact GG.to mo_ [] [0, 1, 3, 4, 18, 19] [0] 1 [ye (t := decide ((k : Int) < ((s.m + 1 : Nat) : Int))) (decide_eq_true (by omega)), cl lv, yt, inc 78 k (by omega)] next (by kernel_rfl)
 | true =>
  rw [hlv] at lv
  have bf : Bq b (s.from_ k) := by unfold Su.from_; split; exact h.p.1; exact b1
  have bt : Bq b (s.to_ k) := by unfold Su.to_; split; exact h.q.1; exact b2
  have c1 := e_rcmp b1 h.p.1 (by omega)
  have c2 := e_rcmp b2 h.q.1 (by omega)
  have c3 := e_rcmp bf bt (by omega)
  -- the region of the yield
  have mid : GS lb J Jx s.segs (s.p1 k) (ryI fsg 10) (sg0 s l [(6, .ip (dR (s.from_ k))), (7, .ip (dR (s.to_ k))), (18, ni ((s.m + 1 : Nat) : Int)), (19, ni (k : Int))]) := by
   have hx : s.sg1 k = if le0 (s.from_ k) (s.to_ k) = true then [((s.from_ k, s.P.2), (s.to_ k, s.P.2))] else [] := by
    unfold Su.sg1
    rw [hlv]
    simp
   generalize s.from_ k = f at *
   generalize s.to_ k = t at *
   cases hle : le0 f t with
   | false =>
    rw [hx, if_neg (by rw [hle]; simp), List.append_nil] at next
    exact GG.to mo_ [] [0, 1, 3, 4, 18, 19] [0] 1 [cl c3, na (t := le0 f t) hle, nf, inc 78 k (by omega)] next (by kernel_rfl)
   | true =>
    rw [hx, if_pos hle] at next
    refine GG.yieldD 13 [0, 1, 3, 4, 18, 19, 77] [0] [cl c3, ye (t := le0 f t) hle, yt] [] [] (J := fun D W => J (s.p1 k, D) W) (JT := fun D W => J (s.p1 k ++ [((f, s.P.2), (t, s.P.2))], D) W) (JF := fun D W => Jx (s.p1 k ++ [((f, s.P.2), (t, s.P.2))], D) W) (vs := [.ag (sgV ((f, s.P.2), (t, s.P.2)))]) (l := l) (σT := sg0 s l [(18, ni ((s.m + 1 : Nat) : Int)), (19, ni (k : Int)), (77, bo false)]) (σF := sg0 s l [(18, ni ((s.m + 1 : Nat) : Int)), (19, ni (k : Int)), (77, bo true)])
     (fun nf u Wl D W1 q1 q2 q3 q4 => hY nf (s.p1 k) _ u Wl D W1 ⟨by omega, ⟨bf, h.p.2⟩, bt, h.p.2⟩ q1 q2 q3 q4) ?_ ?_ (by kernel_rfl)
    · exact GG.to mo_ [] [0, 1, 3, 4, 18, 19] [0] 1 [nf, inc 78 k (by omega)] next (by kernel_rfl)
    · refine GG.endR mo_ (fn_of hb).1 (by kernel_rfl) [yt] (by kernel_rfl) fun w0 B M w hC hbl => .inr ?_
      obtain ⟨D, hD⟩ := cd_end aJx hC hbl
      exact ⟨_, D, trivial, hD⟩
  unfold Su.from_ Su.to_ at mid
  let F1 : List F_ := [ye (t := decide ((k : Int) < ((s.m + 1 : Nat) : Int))) (decide_eq_true (by omega)), cl lv, nf, .sel _ _ _ e1, cl ca, .sel _ _ _ e2, cl c1]
  cases h1 : lt0 (s.at_ k).1 s.P.1 with
  | true =>
   cases h2 : gt0 (s.at_ (s.nx k)).1 s.Q.1 with
   | true =>
    rw [h1, h2, if_pos rfl, if_pos rfl] at mid
    exact GG.to mo_ [.fz 6, .fz 7] [0, 1, 3, 4, 6, 7, 18, 19] [0] 1 (F1 ++ [ye (t := lt0 (s.at_ k).1 s.P.1) h1, cl c2, ye (t := gt0 (s.at_ (s.nx k)).1 s.Q.1) h2]) mid (by kernel_rfl)
   | false =>
    rw [h1, h2, if_pos rfl, if_neg (by simp)] at mid
    exact GG.to mo_ [.fz 6, .fz 7] [0, 1, 3, 4, 6, 7, 18, 19] [0] 1 (F1 ++ [ye (t := lt0 (s.at_ k).1 s.P.1) h1, cl c2, na (t := gt0 (s.at_ (s.nx k)).1 s.Q.1) h2]) mid (by kernel_rfl)
  | false =>
   cases h2 : gt0 (s.at_ (s.nx k)).1 s.Q.1 with
   | true =>
    rw [h1, h2, if_neg (by simp), if_pos rfl] at mid
    exact GG.to mo_ [.fz 6, .fz 7] [0, 1, 3, 4, 6, 7, 18, 19] [0] 1 (F1 ++ [na (t := lt0 (s.at_ k).1 s.P.1) h1, cl c2, ye (t := gt0 (s.at_ (s.nx k)).1 s.Q.1) h2]) mid (by kernel_rfl)
   | false =>
    rw [h1, h2, if_neg (by simp), if_neg (by simp)] at mid
    exact GG.to mo_ [.fz 6, .fz 7] [0, 1, 3, 4, 6, 7, 18, 19] [0] 1 (F1 ++ [na (t := lt0 (s.at_ k).1 s.P.1) h1, cl c2, na (t := gt0 (s.at_ (s.nx k)).1 s.Q.1) h2]) mid (by kernel_rfl)
end
end
end Go.Proofs.YtbaggkbleehegaaGreat.E.Ct
