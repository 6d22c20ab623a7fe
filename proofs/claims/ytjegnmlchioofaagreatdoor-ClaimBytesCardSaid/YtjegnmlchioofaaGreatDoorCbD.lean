/-
 CLAIMS: the chunks of a list, an iterator.
-/
import Derived.Test.YtjegnmlchioofaaGreatDoorEuD
import Derived.Test.YtjegnmlchioofaaGreatDoorEuA
import Derived.Test.YtjegnmlchioofaaGreatDoorEmY
namespace Go.Proofs.YtjegnmlchioofaaGreatDoor.E
set_option maxHeartbeats 1000000
open Go.RowKit
set_option linter.unusedVariables false
set_option linter.unusedSimpArgs false
section
variable {P : Program} {w : World}
/-- How the body of a round may be left: it goes on. -/
def postF {α : Type} (Bd : Nat) (w : World) (A : Nat → Prop) (I : List α → World → Prop) (xs : List α) (W : World) : Exit → Act → World → Prop
 | .normal, _, W' => KeepsFrom Bd W W' ∧ K0 w A W' ∧ I xs W'
 | _, _, _ => False
theorem K0.put {A : Nat → Prop} {W : World} (h : K0 w A W) {l : Nat} {o' : Obj} (hl : w.heap.size ≤ l) : K0 w A (W.putObj l o') :=
 ⟨by show _ ≤ (W.putObj l o').heap.size; simp [World.putObj]; exact h.1, fun g hg => (World.putObj_heap_other (by have := hg.1; omega)).trans (h.2 g hg)⟩
/-- A range over a function whose values may be new memory. -/
theorem wpIn_rangeF {α : Type} {g : Operand} {ps : Array Tmp} {assign body : Code} {Q : Exit → Act → World → Prop} {a : Act}
 {gf : Nat} {lb : Array Value} (hg : a.eval g = .func (.func gf) #[] lb) (eg : ∀ args w, (callFunc gf args).run P w = .ok (.enter gf args) w)
 {eV : α → List V} {A : Nat → Prop} {S Sp : List α → Prop} {N : Nat} (hseq : SeqF P gf lb eV A S Sp N w) (hps : ∀ x, (eV x).length = ps.size)
 (I : List α → World → Prop) (hI : OwnFrom w.heap.size I) (h0 : I [] w) (Ax : List α → α → Act → World → Prop) (hAx : ∀ pre x a', OwnFrom w.heap.size (fun (_ : Unit) W => Ax pre x a' W))
 (hassign : ∀ (l : Nat) (pre : List α) (x : α) (u : Array Value) (Wl W : World) (K : Act → World → Prop), I pre Wl → K0 w A Wl → Below Wl.heap.size Wl W → Reps W (Zk w A Wl) no u (eV x) → (∀ a' W', KeepsFrom w.heap.size W W' → K0 w A W' → Ax pre x a' W' → K a' W') →
  assign.wpIn (Fence.wide.inRound l) (6 - 1 - 1) P (Exit.then K (fun _ _ _ => False)) { tmps := (ps.zip u).foldl (fun t (p, v) => t.setIfInBounds p v) a.tmps, defers := [] } W)
 (hbody : ∀ (l : Nat) (pre : List α) (x : α) (a' : Act) (W : World), w.heap.size ≤ l → K0 w A W → Ax pre x a' W → pre.length < N → body.wpIn (Fence.wide.inRound l) (6 - 1 - 1) P (postF w.heap.size w A I (pre ++ [x]) W) a' W)
 (hdone : ∀ (D : Nat) (xs : List α) (W : World), w.heap.size ≤ D → S xs → I xs W → W.heap[D]? = some (.deferred (some [])) → Q .normal { a with defers := { target := .collected D, args := #[] } :: a.defers } W) :
 (Code.rangeFunc g ps assign body).wpIn Fence.wide 6 P Q a w := by
  refine wpIn_rangeFunc ?_
  intro fn hfn
  rw [show Fence.wide.round = none from rfl]
  obtain ⟨rec, hrec⟩ : ∃ rec : LoopState → Option Code → Loop, rec = fun st pe => { state := st, pending := pe, fn, tmps := a.tmps, params := ps, assign, body, defers := w.heap.size } := ⟨_, rfl⟩
  obtain ⟨W1, hW1⟩ : ∃ W1, (w.alloc (.deferred (some []))).alloc (.loop (rec .ready none)) = W1 := ⟨_, rfl⟩
  have hL1 : W1.heap[w.heap.size + 1]? = some (.loop (rec .ready none)) := by
    rw [← hW1]; have := World.alloc_heap_new (w.alloc (.deferred (some []))) (.loop (rec .ready none)); rwa [World.size_alloc] at this
  have hK1 : W1.heap[w.heap.size]? = some (.deferred (some [])) := by
    rw [← hW1]; exact (Below.heap_alloc _ _ _ (by simp)).trans (World.alloc_heap_new w _)
  have k0 : I [] W1 := by rw [← hW1]; exact hI.alloc _ (hI.alloc _ h0)
  have k1 : Below w.heap.size w W1 := by
    rw [← hW1]; exact ((Below.refl _ w).alloc (Nat.le_refl _) _).alloc (by simp) _
  refine ⟨w.heap.size + 1, [{ target := .collected w.heap.size, args := #[] }], W1, { target := .fn (.func gf) lb, args := #[.func (.yield (w.heap.size + 1)) #[] #[]] }, W1, gf,
    #[.func (.yield (w.heap.size + 1)) #[] #[]] ++ lb, W1, ?_, ?_, ?_, ?_, fun h => by simp [Fence.wide] at h, ?_⟩
  · rw [← hW1, hrec]; exact run_enterLoop_outer _ _ _ _ _
  · simp only [resolve, hg]
    simp [go_sem]
  · intro f' hf'; trivial
  · simp [invoke, go_sem, eg]
  · have hnw : ∀ {A B : World} {row : Option Nat}, (∀ r, row = some r → W1.heap.size ≤ r ∧ ∃ o : Obj, A.heap[r]? = some o ∧ o.isWalk = true) → (∀ r, row = some r → w.heap.size ≤ r ∧ ∃ o : Obj, A.heap[r]? = some o ∧ o.isCells = false) :=
      fun hr r e => by obtain ⟨hB, o, ho, hw⟩ := hr r e; exact ⟨by rw [← hW1] at hB; simp at hB; omega, o, ho, Obj.not_cells_of_walk hw⟩
    refine callsIn_wide.2 ((hseq (w.heap.size + 1)
      (fun pre W => I pre W ∧ W.heap[w.heap.size + 1]? = some (.loop (rec .ready none)) ∧ W.heap[w.heap.size]? = some (.deferred (some [])))
      (fun pre W => False)
      W1 k1
      (fun s A B row hs hg' hr => ⟨hI s A B row hs.1 hg' (hnw (B := B) hr), (grownBy_keeps hg' (fun r e => (hr r e).2) hs.2.1 rfl).trans hs.2.1, (grownBy_keeps hg' (fun r e => (hr r e).2) hs.2.2 rfl).trans hs.2.2⟩)
      (fun s A B row hs hg' hr => hs)
      ?_ ⟨k0, hL1, hK1⟩).mono ?_)
    · rintro nf pre x u Wl W hlen ⟨hil, hll, hkl⟩ hK0 hBl hReps
      have hl : W.heap[w.heap.size + 1]? = some (.loop (rec .ready none)) := (hBl.block _ (Array.getElem?_eq_some_iff.1 hll).1).trans hll
      have hk : W.heap[w.heap.size]? = some (.deferred (some [])) := (hBl.block _ (Array.getElem?_eq_some_iff.1 hkl).1).trans hkl
      have hlt : w.heap.size + 1 < W.heap.size := (Array.getElem?_eq_some_iff.1 hl).1
      have hy := run_yield (P := P) (args := u) hl (by rw [hrec]; exact hReps.1.trans (hps x))
      rw [hrec] at hy
      refine ⟨fn, _, assign, body, hy, ?_⟩
      have conv : ∀ {R : Ending → World → Prop} {tm : Array Value} {W : World}, RoundIn Fence.wide (6 - 1 - 1) P (w.heap.size + 1) fn tm assign body W R → RoundIn Fence.wide nf P (w.heap.size + 1) fn tm assign body W R := fun h => ⟨h.1, fun c cs _ => h.2 c cs (room_wide _)⟩
      refine conv (roundIn_of_wpIn hfn (hassign _ pre x u Wl W _ hil hK0 hBl hReps ?_))
      clear hy
      intro a' Wa hkfa hk0a hax
      replace hl := hkfa.same _ _ (by omega) hl rfl
      replace hk := hkfa.same _ _ (Nat.le_refl _) hk rfl
      replace hlt : w.heap.size + 1 < Wa.heap.size := (Array.getElem?_eq_some_iff.1 hl).1
      refine ⟨_, run_beginRound hl (by rw [hrec]), ?_⟩
      have hl2 : (Wa.putObj (w.heap.size + 1) (.loop { rec .ready none with state := .busy })).heap[w.heap.size + 1]? = some (.loop { rec .ready none with state := .busy }) := World.putObj_heap_same hlt
      have hk2 : (Wa.putObj (w.heap.size + 1) (.loop { rec .ready none with state := .busy })).heap[w.heap.size]? = some (.deferred (some [])) := (World.putObj_heap_other (by omega)).trans hk
      refine wpIn_mono (hbody _ pre x a' _ (by omega) (hk0a.put (by omega)) ((hAx pre x a').putObj (s := ()) _ hax (by omega) hl rfl) hlen) ?_
      have fin : ∀ (jump : Option Code) (W3 : World), KeepsFrom w.heap.size (Wa.putObj (w.heap.size + 1) (.loop { rec .ready none with state := .busy })) W3 →
          (Instr.endRound (w.heap.size + 1) jump).run P W3 = .ok (.bool jump.isNone) (W3.putObj (w.heap.size + 1) (.loop (rec (if jump.isNone then .ready else .done) jump))) ∧
          W3.heap[w.heap.size + 1]? = some (.loop { rec .ready none with state := .busy }) ∧
          (W3.putObj (w.heap.size + 1) (.loop (rec (if jump.isNone then .ready else .done) jump))).heap[w.heap.size + 1]? = some (.loop (rec (if jump.isNone then .ready else .done) jump)) ∧
          (W3.putObj (w.heap.size + 1) (.loop (rec (if jump.isNone then .ready else .done) jump))).heap[w.heap.size]? = some (.deferred (some [])) := fun jump W3 hk3 => by
        have hl3 := hk3.same _ _ (by omega) hl2 rfl
        have := run_endRound (P := P) jump hl3
        rw [hrec] at this ⊢
        exact ⟨this, by rw [hrec] at hl3; exact hl3, World.putObj_heap_same (Array.getElem?_eq_some_iff.1 hl3).1, (World.putObj_heap_other (by omega)).trans (hk3.same _ _ (Nat.le_refl _) hk2 rfl)⟩
      rintro e a3 W3 hp
      cases e with
      | normal =>
        obtain ⟨hk3, hk03, hi3⟩ := hp
        obtain ⟨hr, hl3, hl4, hk4⟩ := fin none W3 hk3
        exact ⟨_, _, hr, hk03.put (by omega), .inl ⟨rfl, hI.putObj _ hi3 (by omega) hl3 rfl, hl4, hk4⟩⟩
      | _ => exact hp.elim
    · rintro e W2 ⟨⟨v, rfl⟩, (⟨xs, hS, hi, hl, hk⟩ | ⟨pre, hSp, c⟩)⟩
      · exact ⟨none, _, by have := run_endLoop (P := P) hl (by rw [hrec]; simp); rw [hrec] at this; exact this, hdone _ xs _ (Nat.le_refl _) hS (hI.putObj _ hi (by omega) hl rfl) ((World.putObj_heap_other (by omega)).trans hk)⟩
      · exact c.elim
/-- **A LOOP OVER A FUNCTION**, whose values may be new memory; its rounds may grow rows: rows of R may move; nothing names them but boxes. -/
theorem Gd.rangeF (hm : P.follows .mixedOrders = true) {f : FuncId} {fn : Func} {d : RD} (hf : P.funcs[f]? = some fn) {α : Type} {g : Operand} {ps : Array Tmp} {assign body : Code} {k : List Item} {σ : St} {gf : FuncId} {caps : List V} {eV : α → List V} {S Sp : List α → Prop} {N : Nat}
  (hg : exp σ.ho 5 (σ.ev g) = some (.cl gf caps, [])) (it : IterF P gf caps eV S Sp N) (hps : ∀ x, (eV x).length = ps.size)
  (R : Nat → Bool) (hσ : σ.t.all (refs fun b => ownB σ.h b && !R b) = true)
  (H : List α → List HO) (h0 : H [] = σ.h) (hH : ∀ pre, (H pre).length = σ.h.length ∧ ∀ b, ((H pre).getD b .dead).own = ownB σ.h b)
  (tA : α → List V) (hA : ∀ pre x, RnM P σ.h.length (fun _ => false) assign ⟨setP σ.t ps.toList (eV x), H pre⟩ .normal ⟨tA x, H pre⟩)
  (J : List α → Prop) (hJ0 : J [])
  (hB : ∀ pre x, pre.length < N → J pre → J (pre ++ [x]) ∧ ∃ t', RnM P σ.h.length R body ⟨tA x, H pre⟩ .normal ⟨t', H (pre ++ [x])⟩)
  (hdone : ∀ xs, S xs → J xs → Gd P f d k ⟨σ.t, H xs⟩)
  (hd0 : d.n = 0 := by rfl) : Gd P f d (.code (.rangeFunc g ps assign body) :: k) σ := by
 intro w0 B M m0 b a m w cs hfn hkd hrs _ Hs
 have hM : ∀ (m1 : Nat → Option Value) (j : Nat), j < d.n → m1 j = m0 j ∧ m0 j ≠ none := fun _ j hj => by rw [hd0] at hj; omega
 obtain ⟨eg, it⟩ := it
 have hgr := exp_rep (h0 := σ.ho) (A' := Av M σ.ho m) Hs.K (fun g e => e) 5 _ _ _ hg (fun b hb => by cases hb) (a.eval g) (ev_rep Hs.K.gl fun t _ => Hs.slot t)
 obtain ⟨lb, hlb, hreps⟩ : ∃ lb, a.eval g = .func (.func gf) #[] lb ∧ Reps w (Av M σ.ho m) no lb caps := by
  generalize a.eval g = u at hgr
  cases hgr with
  | cl _ _ cs _ h1 h2 => exact ⟨cs, rfl, h1, h2, Hs.K.gl⟩
 have hseq := it w _ lb hreps
 have hbs := Hs.K.bs
 let fx : Nat → Bool := fun b => ownB σ.h b && !R b
 have fxo : ∀ {b}, fx b = true → ownB σ.h b = true ∧ R b = false := fun {b} h => by
  simp only [fx, Bool.and_eq_true, Bool.not_eq_true'] at h
  exact h
 let AV : List α → (Nat → Option Value) → Nat → Prop := fun pre m' => Av M (fun b => (H pre).getD b .dead) m'
 let Ag : (Nat → Option Value) → Prop := fun m' => ∀ b, fx b = true → m' b = m b
 let TI : List α → Act → World → (Nat → Option Value) → Prop := fun pre a' W m' => Ag m' ∧ SOk B M w0 ⟨σ.t, H pre⟩ a' m' W ∧ Mo w (Av M σ.ho m) no W (AV pre m') no
 let I : List α → World → Prop := fun pre W => J pre ∧ ∃ m', TI pre a W m'
 let Ax : List α → α → Act → World → Prop := fun pre x a' W => J pre ∧ ∃ m', TI pre a W m' ∧ a'.tmps.size = (tA x).length ∧ a'.defers = [] ∧ ∀ i y, (tA x)[i]? = some y → Rep W (AV pre m') m' (a'.tmps.getD i undef) y
 let Q : Exit → Act → World → Prop := fun e a' W => match e with
  | .normal => ∃ xs, S xs ∧ J xs ∧ unmk a'.defers = unmk a.defers ∧ ∃ m', SOk B M w0 ⟨σ.t, H xs⟩ a' m' W
  | _ => False
 have hdm : ∀ D, mark D ∈ a.defers → D < w.heap.size := fun D hD => by
  obtain ⟨Ds, q1, q2, q3⟩ := Hs.df
  replace hD := marks_mem hD
  rw [q1] at hD
  obtain ⟨D', h1, h2⟩ := List.mem_map.1 hD
  have : D' = D := by unfold mark at h2; injection h2 with h2; injection h2
  subst this
  exact (Array.getElem?_eq_some_iff.1 (q3 D' h1).2.1).1
 have hTI : ∀ {pre : List α} {W W' : World} {row : Option Nat} {m' : Nat → Option Value}, TI pre a W m' → W.grownBy W' row → (∀ r, row = some r → w.heap.size ≤ r ∧ ∃ o : Obj, W.heap[r]? = some o ∧ o.isCells = false) → TI pre a W' m' := fun ⟨h1, h2, h3⟩ hg hr =>
  ⟨h1, h2.grown hbs hdm hg hr, ⟨Nat.le_trans h3.size hg.size, fun g q1 q2 => (hg.block g (Nat.lt_of_lt_of_le q1 h3.size) fun e => by have := (hr g e.symm).1; omega).trans (h3.blk g q1 q2), h3.av, fun _ _ e => e⟩⟩
 have hI : OwnFrom w.heap.size I := fun s W W' row ⟨hj, m', h⟩ hg hr => ⟨hj, m', hTI h hg hr⟩
 have hAx : ∀ pre x a', OwnFrom w.heap.size (fun (_ : Unit) W => Ax pre x a' W) := fun pre x a' _ W W' row ⟨hj, m', h, h1, h2, h3⟩ hg hr =>
  ⟨hj, m', hTI h hg hr, h1, h2, fun i y hy => (h3 i y hy).ck (ck_of hg fun r e => (hr r e).2)⟩
 -- what a piece of a round does
 have keepR : ∀ {R' : Nat → Bool} {pre pre2 : List α} {t t2 : List V} {a1 a2 : Act} {m1 m2 : Nat → Option Value} {W W' : World}, (∀ b, R b = false → R' b = false) → SOk B M w0 ⟨t, H pre⟩ a1 m1 W → TI pre a W m1 → SOk B M w0 ⟨t2, H pre2⟩ a2 m2 W' → Mo W (AV pre m1) no W' (AV pre2 m2) no → (∀ b v, R' b = false → m1 b = some v → m2 b = some v) → K0 w (Av M σ.ho m) W →
   TI pre2 a W' m2 ∧ KeepsFrom w.heap.size W W' ∧ K0 w (Av M σ.ho m) W' := by
  intro R' pre pre2 t t2 a1 a2 m1 m2 W W' hR H1 hT H2 hmo hmm hk0
  obtain ⟨ag, H1s, mo1⟩ := hT
  have ag2 : Ag m2 := fun b hb => by
   obtain ⟨h3, h4⟩ := fxo hb
   obtain ⟨v, hv⟩ := own_some H1.K (b := b) (((hH pre).2 b).trans h3)
   exact (hmm b v (hR b h4) hv).trans (hv.symm.trans (ag b hb))
  have mo2 := mo1.trans hmo
  refine ⟨⟨ag2, ⟨H2.K, H1s.sz, H1s.df.mo hmo, fun i x hx => refs_mo (List.all_eq_true.1 hσ x (List.mem_of_getElem? hx)) (fun b hb v e => hmm b v (hR b (fxo hb).2) e) hmo (H1s.tm i x hx), H2.nm, H2.bl⟩, mo2⟩, ⟨hmo.size, fun q o hq ho hc => ?_⟩, ⟨mo2.size, fun g hg => mo2.blk g hg.1 hg.2⟩⟩
  refine (hmo.blk q (Array.getElem?_eq_some_iff.1 ho).1 fun hav => ?_).trans ho
  have := av_cells H1.K hav (fun e => absurd (hbs q e) (by omega)) ho
  rw [hc] at this
  cases this
 have hassign : ∀ (l : Nat) (pre : List α) (x : α) (u : Array Value) (Wl W : World) (K : Act → World → Prop), I pre Wl → K0 w (Av M σ.ho m) Wl → Below Wl.heap.size Wl W → Reps W (Zk w (Av M σ.ho m) Wl) no u (eV x) → (∀ a' W', KeepsFrom w.heap.size W W' → K0 w (Av M σ.ho m) W' → Ax pre x a' W' → K a' W') →
  assign.wpIn (Fence.wide.inRound l) (6 - 1 - 1) P (Exit.then K (fun _ _ _ => False)) { tmps := (ps.zip u).foldl (fun t (p, v) => t.setIfInBounds p v) a.tmps, defers := [] } W := by
  rintro l pre x u Wl W K ⟨hj, m1, hTl⟩ hk0 hBl hReps hK
  have hT : TI pre a W m1 := hTI hTl (below_gr hBl) fun r e => by cases e
  have hk0W : K0 w (Av M σ.ho m) W := ⟨Nat.le_trans hk0.1 hBl.size, fun g hg => (hBl.block g (Nat.lt_of_lt_of_le hg.1 hk0.1)).trans (hk0.2 g hg)⟩
  obtain ⟨ag, H1, hmo⟩ := hT
  obtain ⟨el, eo⟩ := hH pre
  have hz : ∀ g, AV pre m1 g → Zk w (Av M σ.ho m) Wl g := fun g hg => ⟨hTl.2.1.K.av_lt hg, fun hgk => (hmo.av g hg).elim hgk.2 fun h => by have := hgk.1; omega⟩
  have hfold : (ps.zip u).foldl (fun t (p, v) => t.setIfInBounds p v) a.tmps = (ps.toList.zip u.toList).foldl (fun t (p, v) => t.setIfInBounds p v) a.tmps := by
   rw [← Array.foldl_toList, Array.toList_zip]
  obtain ⟨z1, z2⟩ := setP_ok (w := W) (A := AV pre m1) (m := m1) ps.toList (eV x) u.toList σ.t a.tmps (by have := hReps.1; simpa using this) H1.sz H1.tm fun j y hy => by
   have h3 := hReps.2 j y hy
   rw [← getD_toList] at h3
   exact h3.mo ⟨Nat.le_refl _, fun _ _ _ => rfl, fun g e => .inl (hz g e), fun b v e => by cases e⟩
  rw [hfold]
  have Hr : SOk B M w0 ⟨setP σ.t ps.toList (eV x), H pre⟩ { tmps := (ps.toList.zip u.toList).foldl (fun t (p, v) => t.setIfInBounds p v) a.tmps, defers := [] } m1 W := ⟨H1.K, z1, DfOk.nil, z2, H1.nm, H1.bl⟩
  refine wpIn_mono (RnM_ok hm (WideF.round l) el (hA pre x) Hr) ?_
  rintro e' a' W' ⟨rfl, m2, H2, hmo2, hmm, hdf⟩
  obtain ⟨hT2, hkf, hkp⟩ := keepR (fun _ _ => rfl) Hr ⟨ag, H1, hmo⟩ H2 hmo2 hmm hk0W
  exact hK a' W' hkf hkp ⟨hj, m2, hT2, H2.sz, hdf, H2.tm⟩
 have hbody : ∀ (l : Nat) (pre : List α) (x : α) (a' : Act) (W : World), w.heap.size ≤ l → K0 w (Av M σ.ho m) W → Ax pre x a' W → pre.length < N → body.wpIn (Fence.wide.inRound l) (6 - 1 - 1) P (postF w.heap.size w (Av M σ.ho m) I (pre ++ [x]) W) a' W := by
  rintro l pre x a' W hl hk0 ⟨hj, m1, hT, x1, x2, x3⟩ hlt
  obtain ⟨el, eo⟩ := hH pre
  have Hr : SOk B M w0 ⟨tA x, H pre⟩ a' m1 W := ⟨hT.2.1.K, x1, by rw [x2]; exact DfOk.nil, x3, hT.2.1.nm, hT.2.1.bl⟩
  obtain ⟨hj2, t', hb⟩ := hB pre x hlt hj
  refine wpIn_mono (RnM_ok hm (WideF.round l) el hb Hr) ?_
  rintro e' a2 W' ⟨rfl, m2, H2, hmo2, hmm, _⟩
  obtain ⟨hT2, hkf, hkp⟩ := keepR (fun _ h => h) Hr hT H2 hmo2 hmm hk0
  exact ⟨hkf, hkp, hj2, m2, hT2⟩
 have addm : ∀ {xs : List α} {D : Nat} {W : World} {m1 : Nat → Option Value}, w.heap.size ≤ D → W.heap[D]? = some (.deferred (some [])) → SOk B M w0 ⟨σ.t, H xs⟩ a m1 W → SOk B M w0 ⟨σ.t, H xs⟩ { a with defers := { target := .collected D, args := #[] } :: a.defers } m1 W := by
  rintro xs D W m1 hD hd H1
  refine ⟨H1.K, H1.sz, ?_, H1.tm, H1.nm, H1.bl⟩
  obtain ⟨Ds, q1, q2, q3⟩ := H1.df
  refine ⟨D :: Ds, congrArg (mark D :: ·) q1, List.nodup_cons.2 ⟨fun hin => ?_, q2⟩, fun D' hD' => ?_⟩
  · have := hdm D ((List.mem_filter.1 (by rw [q1]; exact List.mem_map.2 ⟨D, hin, rfl⟩ : mark D ∈ a.defers.filter isMark)).1)
    omega
  · rcases List.mem_cons.1 hD' with rfl | h5
    · exact ⟨fun e => absurd (hbs _ e) (by omega), hd, fun hav => by
       have := av_cells H1.K hav (fun e => absurd (hbs _ e) (by omega)) hd
       cases this⟩
    · exact q3 D' h5
 have hwp : (Code.rangeFunc g ps assign body).wpIn Fence.wide 6 P Q a w :=
  wpIn_rangeF hlb eg hseq hps I hI ⟨hJ0, m, fun _ _ => rfl, by rw [h0]; exact Hs, by show Mo w (Av M σ.ho m) no w (Av M (fun b => (H []).getD b .dead) m) no; rw [h0]; exact Mo.refl⟩ Ax hAx hassign hbody
   (fun D xs W hD hS ⟨hj, m', hT⟩ hd => ⟨xs, hS, hj, rfl, m', addm hD hd hT.2.1⟩)
 obtain ⟨e, a', w', hq, harr⟩ := wpIn_wide.1 hwp b k cs
 cases e with
 | normal =>
  obtain ⟨xs, hS, hj, hr1, m1, H1⟩ := hq
  obtain ⟨e2, w2, fr, q1, q2, q3⟩ := hdone xs hS hj w0 B M m0 b a' m1 w' cs hfn hkd (hr1.trans hrs) (hM _) H1
  exact ⟨e2, w2, fr, q1, .of_steps harr q2, q3⟩
 | _ => exact hq.elim
end
end Go.Proofs.YtjegnmlchioofaaGreatDoor.E
namespace Go.Proofs.YtjegnmlchioofaaGreatDoor.E
open Go.RowKit
set_option linter.unusedVariables false
set_option linter.unusedSimpArgs false
section
variable {P : Program} {w : World}
theorem four_of {α : Type} {xs : List α} (h : xs.length = 4) : ∃ x y z u, xs = [x, y, z, u] := by
 match xs, h with
 | [x, y, z, u], _ => exact ⟨x, y, z, u, rfl⟩
def mkS3 (T : TypeId) (xs : List Operand) : Op := .slice T (xs.getD 0 (.tmp 0)) (some (xs.getD 1 (.tmp 0))) (some (xs.getD 2 (.tmp 0))) (some (xs.getD 3 (.tmp 0)))
theorem bounds3 {len cap i j : Nat} (h1 : i ≤ j) (h2 : j ≤ cap) : (Instr.sliceBounds true len cap (some (.int .i64 (i : Int))) (some (.int .i64 (j : Int))) (some (.int .i64 (j : Int)))).run P w = .ok (i, j, j) w := by
 simp [Instr.sliceBounds, Instr.sliceBound, asIntOf, h1, h2]
/-- A slice with three bounds. -/
theorem x_slc3 {T e : TypeId} (hT : P.underlying T = some (.slice e)) {n : Nat} (hs : szT P e = some n) {l l' : List (List V)} {i j : Nat} (hl' : (l.take j).drop i = l') (h2 : i ≤ j ∧ j ≤ l.length) (hz : ∀ cs ∈ l, cs.length = n) : Ext P (mkS3 T) [.sl l, .k (.int .i64 (i : Int)), .k (.int .i64 (j : Int)), .k (.int .i64 (j : Int))] [] [] (.sl l') := by
 intro B M h m w a o xs ho K hl hr hrd _
 obtain ⟨x, y1, y2, y3, rfl⟩ := four_of hl
 have hx := hr 0 x _ rfl rfl
 have hy1 := Rep.k_inv (hr 1 y1 _ rfl rfl)
 have hy2 := Rep.k_inv (hr 2 y2 _ rfl rfl)
 have hy3 := Rep.k_inv (hr 3 y3 _ rfl rfl)
 simp only [mkS3, List.getD_cons_zero, List.getD_cons_succ] at ho
 generalize hu : a.eval x = u at hx
 cases hx with
 | sl _ ad b off c zz _ us h1 h2' h3 h4 h5 h6 =>
  have hlen : l'.length = j - i := by rw [← hl']; simp; omega
  have hel : ∀ q cs, l'[q]? = some cs → l[i + q]? = some cs := fun q cs hq => by
   rw [← hl', List.getElem?_drop] at hq
   rw [List.getElem?_take] at hq
   split at hq
   · exact hq
   · cases hq
  have hzz : 0 < l'.length → zz = n := fun hp => by
   have h7 := hel 0 _ (List.getElem?_eq_getElem hp)
   have h8 := List.mem_of_getElem? h7
   rw [← h4 _ h8, hz _ h8]
  have hb := bounds3 (P := P) (w := w) (len := l.length) (cap := c) h2.1 (Nat.le_trans h2.2 h1)
  have hrep : Rep w (Av M h m) m (.slice (if j = i then ad else ad.map (·.add (i * n))) l'.length (j - i)) (.sl l') := by
   refine .sl _ _ b (off + i * zz) _ zz _ (fun i' j => us (i + i') j) (by omega) (by omega) (fun hp => ?_) (fun cs hc => ?_) (fun i' j' cs y hi hj => ?_) (fun i' j' cs y hi hj => h6 (i + i') j' cs y (hel i' cs hi) hj)
   · obtain ⟨rfl, hA, hB⟩ := h3 (by omega)
     refine ⟨?_, hA, hB⟩
     rw [if_neg (by omega), ← hzz hp]
     simp [Addr.add_lit]
   · obtain ⟨q, hq⟩ := List.getElem?_of_mem hc
     exact h4 cs (List.mem_of_getElem? (hel q cs hq))
   · have := h5 (i + i') j' cs y (hel i' cs hi) hj
     rw [Nat.add_mul] at this
     rwa [show off + i * zz + i' * zz + j' = off + (i * zz + i' * zz) + j' by omega]
  rw [hlen] at hrep
  refine Exec.val (w' := w) ?_ (.same K hrep)
  simp [execOp, ho, Instr.sliceAt, Instr.slice, hu, hy1, hy2, hy3, run_under hT, run_size hs, hb]
/-- The region at which a way begins. -/
def ryN : List Item → Nat
 | .code (.region i _ _) :: _ => i
 | _ => 0
def ryO : List Item → Array Oper
 | .code (.region _ o _) :: _ => o
 | _ => #[]
def ryK : List Item → List Item
 | _ :: k => k
 | _ => []
def ryI (fn : Func) (i : Nat) : List Item := .code (.region (ryN (rg fn i)) (ryO (rg fn i)) false) :: ryK (rg fn i)
theorem mc_of {W0 : World} {A : Nat → Prop} {lb : Array Value} {caps : List V} (hr : Reps W0 A no lb caps) : ∀ b, b < (caps.map HO.fz).length → ∃ x, (caps.map HO.fz).getD b .dead = .fz x ∧ ∀ v, lb[b]? = some v → Rep W0 A no v x := fun b hb => by
 have hj : b < caps.length := by simpa using hb
 refine ⟨caps[b], by rw [List.getD_eq_getElem?_getD, List.getElem?_map, List.getElem?_eq_getElem hj]; rfl, fun v hv => ?_⟩
 have := hr.2 b _ (List.getElem?_eq_getElem hj)
 rwa [Array.getD_eq_getD_getElem?, hv] at this
end
def metE {P : Program} : Out P → Bool × List (List V)
 | .at_ td _ [] ks => (isEnd td, ks.map (·.1))
 | _ => (false, [])
def toldE {P : Program} : Out P → Bool × List (List V)
 | .at_ _ _ _ ks => (true, ks.map (·.2))
 | _ => (true, [])
theorem GG.endR {P : Program} {f : FuncId} {n : Nat} {mc : Nat → Option Value} {C : World → (Nat → Prop) → (Nat → Prop) → Prop} {R : World → Prop} {fn : Func} (hm : P.follows .mixedOrders = true) (hf : P.funcs[f]? = some fn) (hres : fn.results = #[]) {td : List Item} {σ : St} (sc : List (Fa P)) (e : metE (run P 5000 td σ sc) = toldE (run P 5000 td σ sc)) (hR : ∀ w0 B M w, C w0 B M → Bl B w0 w → R w) : GG P f n mc C R td σ := by
 cases hr : run P 5000 td σ sc with
 | bad => rw [hr] at e; cases e
 | at_ td2 σ2 sc2 ks =>
  rw [hr] at e
  cases sc2 with
  | nil =>
   simp only [metE, toldE, Prod.mk.injEq] at e
   exact runG_ok hm _ _ _ _ _ _ _ _ hr (ks_ok e.2) (.fin hf hres e.1 hR)
  | cons => cases e
end Go.Proofs.YtjegnmlchioofaaGreatDoor.E
namespace Go.Proofs.YtjegnmlchioofaaGreatDoor.E.Ca
open Go.RowKit
set_option linter.unusedVariables false
set_option linter.unusedSimpArgs false
section
variable {l : List UInt8} {A E F : List Int} {Q : List Rat} {a b c d P p i : Nat} {er e : Int}
theorem e_five2 (n : Nat) : Pure PP 36 [ni (n : Int)] (bo (decide ((n : Int) = 5))) := by
 by_cases h : (n : Int) = 5
 · rw [decide_eq_true h]
   exact tr [.eqv 4 (bo ((n : Int) == 5)) (bo true) (by rw [h]; rfl)] (by kernel_rfl)
 · rw [decide_eq_false h]
   exact tr [.eqv 4 (bo ((n : Int) == 5)) (bo false) (by rw [beq_eq_false_iff_ne.2 h])] (by kernel_rfl)
theorem e_five4 (n : Nat) : Pure PP 38 [ni (n : Int)] (bo (decide ((n : Int) = 5))) := by
 by_cases h : (n : Int) = 5
 · rw [decide_eq_true h]
   exact tr [.eqv 4 (bo ((n : Int) == 5)) (bo true) (by rw [h]; rfl)] (by kernel_rfl)
 · rw [decide_eq_false h]
   exact tr [.eqv 4 (bo ((n : Int) == 5)) (bo false) (by rw [beq_eq_false_iff_ne.2 h])] (by kernel_rfl)
theorem e_even (n : Nat) : Pure PP 37 [ni (n : Int)] (bo (decide (n % 2 = 0))) := by
 have hm : (n : Int).tmod 2 = ((n % 2 : Nat) : Int) := rfl
 by_cases h : n % 2 = 0
 · rw [decide_eq_true h]
   exact tr [.eqv 4 (ni ((n : Int).tmod 2)) (ni ((n % 2 : Nat) : Int)) (by rw [hm]), .eqv 5 (bo (((n % 2 : Nat) : Int) == 0)) (bo true) (by rw [h]; rfl)] (by kernel_rfl)
 · rw [decide_eq_false h]
   exact tr [.eqv 4 (ni ((n : Int).tmod 2)) (ni ((n % 2 : Nat) : Int)) (by rw [hm]), .eqv 5 (bo (((n % 2 : Nat) : Int) == 0)) (bo false) (by rw [beq_eq_false_iff_ne.2 (by omega)])] (by kernel_rfl)
def cgB (e : Int) (l : List UInt8) : List HO := [.bx 50 [ni e], .bx 23 [.sl (byL l)]]
theorem e_cg_0 (cf : Nat) (he : e ≠ 0) : PureT PP 34 (cgB e l) [.cl cf [], .lp 0 0, .lp 1 0] (.io 2 (cgB e l) .nl) :=
 trT [ye (t := e != 0) (by simpa using he)] (by kernel_rfl)
theorem e_cg_1 (cf : Nat) (c : Pure PP 35 [.sl (byL l)] (.tu [zl A, ni (a : Int), ni er])) (he : er ≠ 0) : PureT PP 34 (cgB 0 l) [.cl cf [], .lp 0 0, .lp 1 0] (.io 2 (cgB er l) .nl) :=
 trT [nf, cl c, ye (t := er != 0) (by simpa using he)] (by kernel_rfl)
theorem e_cg_2 (cf : Nat) (c : Pure PP 35 [.sl (byL l)] (.tu [zl A, ni (a : Int), ni 0])) (t : Pure PP cf [ni (A.length : Int)] (bo false)) : PureT PP 34 (cgB 0 l) [.cl cf [], .lp 0 0, .lp 1 0] (.io 2 (cgB 2 l) .nl) :=
 trT [nf, cl c, nf, .eqv 23 (ni ((zs A).length : Int)) (ni (A.length : Int)) (by rw [zs_len]), cl t, yt] (by kernel_rfl)
theorem e_cg_3 (cf : Nat) (c : Pure PP 35 [.sl (byL l)] (.tu [zl A, ni (a : Int), ni 0])) (t : Pure PP cf [ni (A.length : Int)] (bo true)) (ha : a ≤ l.length) : PureT PP 34 (cgB 0 l) [.cl cf [], .lp 0 0, .lp 1 0] (.io 2 (cgB 0 (l.drop a)) (zl A)) :=
 trT [nf, cl c, nf, .eqv 23 (ni ((zs A).length : Int)) (ni (A.length : Int)) (by rw [zs_len]), cl t, nf, slD l a ha] (by kernel_rfl)
theorem e_chunk : PureT PP 40 [] [zl E, ni 2] (.io 0 [.bx 22 [zl E], .bx 3 [ni 2]] (.cl 68 [.lp 0 0, .lp 1 0])) := trT [nf] (by kernel_rfl)
end
end Go.Proofs.YtjegnmlchioofaaGreatDoor.E.Ca
namespace Go.Proofs.YtjegnmlchioofaaGreatDoor.E.Ca
open Go.RowKit
set_option linter.unusedVariables false
set_option linter.unusedSimpArgs false
section
variable {R : List (Int × Int)} {j : Nat}
theorem flatR_take : ∀ (R : List (Int × Int)) (j : Nat), (flatR R).take (2 * j) = flatR (R.take j)
 | [], j => by simp [flatR]
 | p :: r, 0 => by simp [flatR]
 | p :: r, j + 1 => by
  rw [show 2 * (j + 1) = 2 * j + 1 + 1 by omega]
  show (p.1 :: p.2 :: flatR r).take (2 * j + 1 + 1) = _
  rw [List.take_succ_cons, List.take_succ_cons, flatR_take r j]
  rfl
theorem flatR_at {p : Int × Int} (h : R[j]? = some p) : ((flatR R).take (2 * (j + 1))).drop (2 * j) = [p.1, p.2] := by
 have hlt := (List.getElem?_eq_some_iff.1 h).1
 rw [flatR_take, flatR_next h, List.drop_append_of_le_length (by rw [flatR_len, List.length_take]; omega), List.drop_of_length_le (by rw [flatR_len, List.length_take]; omega)]
 rfl
noncomputable abbrev fck : Func := fnOf PP 68
noncomputable abbrev ckC (R : List (Int × Int)) : List V := [.ip [zl (flatR R)], .ip [ni 2]]
noncomputable def ckX (R : List (Int × Int)) (l j : Nat) (more : List (Nat × V)) : St := at_ fck ([(0, .k (.func (.yield l) #[] #[])), (1, .nm 0), (2, .nm 1), (4, ni (2 * j : Nat))] ++ more) ((ckC R).map .fz)
theorem it_chunk (hn : R.length ≤ 1000000) : IterF PP 68 (ckC R) (fun p : Int × Int => [.sl (zs [p.1, p.2])]) (fun xs => xs = R) (fun _ => True) R.length := by
 have hb : E.okB PP 68 = true := by kernel_rfl
 have hl := flatR_len R
 refine IterF.of (fn := fck) (fn_of hb).1 (by kernel_rfl) (okF_of hb) fun W0 A lb l B0 J Jx hr aJ aJx hY => ?_
 refine GG.to mo_ [] [0, 1, 2, 4] [0, 1] 2 [] (td' := lp fck 0) (σ' := ckX R l 0 []) ?_ (by kernel_rfl)
 refine GG.loop (fun j => ckX R l j []) (fun j => j ≤ R.length) (fun j => R.length - j) (Ct := fun j => CI W0 A (J (R.take j))) ?_ 0 (Nat.zero_le _)
 intro j hj ih
 by_cases h : j < R.length
 · obtain ⟨p, hp, _⟩ := get_of h
   have hnx : R.take (j + 1) = R.take j ++ [p] := by rw [List.take_add_one, hp]; rfl
   have hat := flatR_at hp
   have hm2 : (if (((flatR R).length - 2 * j : Nat) : Int) < (2 : Int) then (((flatR R).length - 2 * j : Nat) : Int) else 2) = 2 := by split <;> omega
   have ih2 := ih (j + 1) h (by omega)
   rw [hnx] at ih2
   refine GG.to mo_ [] [0, 1, 2, 4, 5] [0, 1] 2 [ye (t := decide (((2 * j : Nat) : Int) < ((zs (flatR R)).length : Int))) (decide_eq_true (by rw [zs_len]; omega)), .slc (zs (flatR R)) (2 * j) (zs (flatR R)).length 1 (zs ((flatR R).drop (2 * j))) (by rw [List.take_of_length_le (Nat.le_refl _), zs_drop]) (by rw [zs_len]; omega) (zs_z _), .eqv 17 (ni ((zs ((flatR R).drop (2 * j))).length : Int)) (ni (((flatR R).length - 2 * j : Nat) : Int)) (by rw [zs_len, List.length_drop]), .eqv 18 (ni (if (((flatR R).length - 2 * j : Nat) : Int) < (2 : Int) then (((flatR R).length - 2 * j : Nat) : Int) else 2)) (ni 2) (by rw [hm2])] (td' := ryI fck 4) (σ' := ckX R l j [(5, ni 2)]) ?_ (by kernel_rfl)
   refine GG.yield 10 [0, 1, 2, 4, 30] [wq 24 (((2 * j : Nat) : Int) + 2) ((2 * (j + 1) : Nat) : Int) (by omega), wq 27 (((2 * j : Nat) : Int) + 2) ((2 * (j + 1) : Nat) : Int) (by omega), .ext (some 28) (mkS3 22) _ [] [] _ (x_slc3 (l := zs (flatR R)) (l' := zs [p.1, p.2]) (i := 2 * j) (j := 2 * (j + 1)) (e := 3) (n := 1) (by kernel_rfl) (by kernel_rfl) (by rw [← hat, zs_take, zs_drop]) (by rw [zs_len]; omega) (zs_z _))] [] [] rfl (mc_of hr) hr.3
    (JT := J (R.take j ++ [p])) (JF := Jx (R.take j ++ [p])) (vs := [.sl (zs [p.1, p.2])]) (l := l) (σT := ckX R l j [(30, bo false)]) (σF := ckX R l j [(30, bo true)])
    (fun nf u Wl W1 q1 q2 q3 q4 => hY nf (R.take j) p u Wl W1 (by rw [List.length_take]; omega) q1 q2 q3 q4) ?_ ?_ (by kernel_rfl)
   · exact GG.to mo_ [] [0, 1, 2, 4] [0, 1] 2 [nf, wq 12 (((2 * j : Nat) : Int) + 2) ((2 * (j + 1) : Nat) : Int) (by omega)] ih2 (by kernel_rfl)
   · exact GG.endR mo_ (fn_of hb).1 (by kernel_rfl) [yt] (by kernel_rfl) fun w0 B M w hC hb => .inr ⟨_, trivial, ci_end aJx hC hb⟩
 · have hj2 : j = R.length := by omega
   subst hj2
   refine GG.endR mo_ (fn_of hb).1 (by kernel_rfl) [na (t := decide (((2 * R.length : Nat) : Int) < ((zs (flatR R)).length : Int))) (decide_eq_false (by rw [zs_len]; omega))] (by kernel_rfl) fun w0 B M w hC hb => .inl ⟨R, rfl, ?_⟩
   have := ci_end aJ hC hb
   rwa [List.take_length] at this
end
end Go.Proofs.YtjegnmlchioofaaGreatDoor.E.Ca
