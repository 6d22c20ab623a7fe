/-
 THE ENGINE, 5: values handed to a callee, or to the caller.
-/
import Derived.Test.YtcfejkpadcccbaaGreatEnC
namespace Go.Proofs.YtcfejkpadcccbaaGreat.E
open Go.RowKit
set_option linter.unusedVariables false
set_option linter.unusedSimpArgs false
section
variable {s : Bool} {B : Nat} {M : Nat → Prop} {h : Nat → HO} {m m' : Nat → Option Value} {w w' : World} {A A' : Nat → Prop} {P : Program}
theorem run_under {t : TypeId} {d : TypeDesc} (e : P.underlying t = some d) (w : World) : (underlying t).run P w = .ok d w := by simp [underlying, e]
theorem run_info {t : TypeId} {i : TypeInfo} (e : P.info? t = some i) (w : World) : (typeInfo t).run P w = .ok i w := by simp [typeInfo, e]
theorem run_size {t : TypeId} {n : Nat} (e : szT P t = some n) (w : World) : (sizeOf t).run P w = .ok n w := by
 simp only [szT, Option.map_eq_some_iff] at e
 obtain ⟨i, h1, rfl⟩ := e
 simp [sizeOf, run_info h1]
theorem run_loadFrom {b o : Nat} : ∀ (n i : Nat) (acc : Array Value), (∀ j, j < n → ∃ u, w.cell? ⟨b, o + (i + j), none⟩ = some u) →
  ∃ us : Array Value, (loadCellsFrom ⟨b, o, none⟩ i n acc).run P w = .ok (acc ++ us) w ∧ us.size = n ∧ ∀ j, j < n → w.cell? ⟨b, o + (i + j), none⟩ = some (us.getD j undef)
 | 0, i, acc, _ => ⟨#[], by simp [loadCellsFrom], rfl, fun j hj => by omega⟩
 | n + 1, i, acc, hc => by
  obtain ⟨u, hu⟩ := hc 0 (by omega)
  rw [Nat.add_zero] at hu
  obtain ⟨us, h1, h2, h3⟩ := run_loadFrom n (i + 1) (acc.push u) (fun j hj => by
   obtain ⟨x, hx⟩ := hc (j + 1) (by omega)
   exact ⟨x, by rw [show i + 1 + j = i + (j + 1) by omega]; exact hx⟩)
  refine ⟨#[u] ++ us, ?_, by simp [h2]; omega, fun j hj => ?_⟩
  · simp only [loadCellsFrom, Sem.run_bind, run_load, Addr.add_lit, hu, Result.andThen_ok]
    rw [h1]
    congr 1
    apply Array.ext'
    simp
  · cases j with
    | zero => rw [Nat.add_zero, hu, Array.getD_eq_getD_getElem?, Array.getElem?_append_left (by simp)]; rfl
    | succ j =>
      rw [show i + (j + 1) = i + 1 + j by omega, h3 j (by omega)]
      congr 1
      simp only [Array.getD_eq_getD_getElem?]
      rw [Array.getElem?_append_right (by simp)]
      simp
/-- A variable is loaded. -/
theorem load_ok {T : TypeId} {b o : Nat} {l : List V} {v : V} (hp : pack P T l = some v) (hl : ∀ j x, l[j]? = some x → ∃ u, w.cell? ⟨b, o + j, none⟩ = some u ∧ Rep s w A m u x) :
  ∃ u, (loadVar T ⟨b, o, none⟩).run P w = .ok u w ∧ Rep s w A m u v := by
 unfold pack at hp
 split at hp
 · rename_i n hn
   split at hp
   · rename_i hlen
     have hlen : l.length = n := by simpa using hlen
     have hagg : ∀ d, P.underlying T = some d → ((∃ f, d = .struct f) ∨ ∃ k e, d = .array k e) → ∃ u, (loadVar T ⟨b, o, none⟩).run P w = .ok u w ∧ Rep s w A m u (.ag l) := by
      intro d hd hda
      obtain ⟨us, h1, h2, h3⟩ := run_loadFrom (P := P) (w := w) (b := b) (o := o) n 0 #[] (fun j hj => by
       obtain ⟨u, hu, _⟩ := hl j l[j] (List.getElem?_eq_getElem (by omega))
       exact ⟨u, by rw [Nat.zero_add]; exact hu⟩)
      refine ⟨.agg us, ?_, .ag _ us l (by omega) fun j x hx => ?_⟩
      · rcases hda with ⟨f, rfl⟩ | ⟨k, e, rfl⟩ <;> simp [loadVar, isAgg, run_under hd, run_size hn, loadCells, h1]
      · have hj := (List.getElem?_eq_some_iff.1 hx).1
        obtain ⟨u, hu, hr⟩ := hl j x hx
        have := h3 j (by omega)
        rw [Nat.zero_add, hu] at this
        injection this with this
        rw [← this]
        exact hr
     split at hp
     · rename_i f hd
       injection hp with hp
       subst hp
       exact hagg _ hd (.inl ⟨f, rfl⟩)
     · rename_i k e hd
       injection hp with hp
       subst hp
       exact hagg _ hd (.inr ⟨k, e, rfl⟩)
     · rename_i d hn1 hn2 hd
       split at hp
       · rename_i x _
         injection hp with hp
         subst hp
         obtain ⟨u, hu, hr⟩ := hl 0 x rfl
         refine ⟨u, ?_, hr⟩
         have hagg : (isAgg T).run P w = .ok false w := by
          simp only [isAgg, Sem.run_bind, run_under hd, Result.andThen_ok]
          rfl
         simp only [loadVar, Sem.run_bind, hagg, Result.andThen_ok, Bool.false_eq_true, if_false, run_load]
         rw [Nat.add_zero] at hu
         rw [hu]
       · cases hp
     · cases hp
   · cases hp
 · cases hp
theorem one_cell {u : Value} {x : V} (hr : Rep s w A m u x) (h1 : one x = true) : u.oneCell' = true := by
 cases hr with
 | k => exact h1
 | un => cases h1
 | dg _ _ _ hl _ => obtain ⟨A, n, c, rfl, _⟩ := hl; rfl
 | sl => rfl
 | ip => rfl
 | lp => rfl
 | rp => rfl
 | os => rfl
 | ow => rfl
 | ag => cases h1
 | tu => cases h1
 | cl => rfl
 | dp => rfl
 | nl => rfl
theorem Oth.trans {g : Nat} {w2 : World} (h : Oth g w w') (k : Oth g w' w2) : Oth g w w2 :=
 ⟨k.os.trans h.os, k.tape.trans h.tape, k.output.trans h.output, k.size.trans h.size, fun i hi => (k.block i hi).trans (h.block i hi)⟩
theorem run_storeCells {g o T : Nat} : ∀ (vs : List Value) (i : Nat) (w : World) (cs : Array Value), (∀ v ∈ vs, v.oneCell' = true) → w.heap[g]? = some (.cells cs T (0, 0)) → o + i + vs.length ≤ cs.size →
  ∃ w' cs', (storeCells ⟨g, o, none⟩ vs i).run P w = .ok () w' ∧ Oth g w w' ∧ w'.heap[g]? = some (.cells cs' T (0, 0)) ∧ cs'.size = cs.size ∧ (∀ j, j < o + i → cs'.getD j undef = cs.getD j undef) ∧ (∀ j, o + i + vs.length ≤ j → cs'.getD j undef = cs.getD j undef) ∧ (∀ j, j < vs.length → cs'.getD (o + i + j) undef = vs.getD j undef) ∧ (T ≠ 3 → Kp w w')
 | [], i, w, cs, _, hg, _ => ⟨w, cs, by simp [storeCells], Oth.refl _ _, hg, rfl, fun _ _ => rfl, fun _ _ => rfl, fun j hj => by simp at hj, fun _ => Kp.refl _⟩
 | v :: vs, i, w, cs, hv, hg, hlen => by
  simp only [List.length_cons] at hlen
  have hw : (w.setCell ⟨g, o + i, none⟩ v).heap[g]? = some (.cells (cs.setIfInBounds (o + i) v) T (0, 0)) := by simp [World.setCell, Array.getElem?_modify, hg]
  obtain ⟨w', cs', h1, h2, h3, h4, h5, h6, h7, h8⟩ := run_storeCells (o := o) vs (i + 1) (w.setCell ⟨g, o + i, none⟩ v) (cs.setIfInBounds (o + i) v) (fun x hx => hv x (List.mem_cons_of_mem _ hx)) hw (by rw [Array.size_setIfInBounds]; omega)
  have hcell : w.cell? ⟨g, o + i, none⟩ = some (cs[o + i]'(by omega)) := by simp [World.cell?, hg]
  have hfr : w.frozen? ⟨g, o + i, none⟩ = false := by simp [World.frozen?, hg]
  have hget : ∀ j, j ≠ o + i → (cs.setIfInBounds (o + i) v).getD j undef = cs.getD j undef := fun j hj => by
   simp only [Array.getD_eq_getD_getElem?]
   rw [Array.getElem?_setIfInBounds_ne (by omega)]
  refine ⟨w', cs', ?_, ((Oth.refl g w).set_ (o + i) v).trans h2, h3, by rw [h4]; simp, fun j hj => ?_, fun j hj => ?_, fun j hj => ?_, fun hT => ?_⟩
  · unfold storeCells
    simp only [Sem.run_bind, Addr.add_lit]
    rw [run_store P w _ v .plain (hv v (List.mem_cons_self ..))]
    simp only [hcell, hfr, Bool.false_eq_true, if_false, Result.andThen_ok]
    exact h1
  · rw [h5 j (by omega), hget j (by omega)]
  · simp only [List.length_cons] at hj
    rw [h6 j (by omega), hget j (by omega)]
  · cases j with
    | zero =>
      rw [Nat.add_zero, h5 (o + i) (by omega)]
      simp only [Array.getD_eq_getD_getElem?]
      rw [Array.getElem?_setIfInBounds_self_of_lt (by omega)]
      rfl
    | succ j =>
      simp only [List.length_cons] at hj
      have := h7 j (by omega)
      rw [show o + i + (j + 1) = o + (i + 1) + j by omega, this]
      simp
  · exact ((Kp.refl w).set_ hg hT v).trans (h8 hT)
/-- The cells of a value. -/
theorem ce_rep {u : Value} {x : V} (hr : Rep s w A m u x) (h1 : (ceV x).all one = true) : u.cells.size = (ceV x).length ∧ (∀ j y, (ceV x)[j]? = some y → Rep s w A m (u.cells.getD j undef) y) ∧ ∀ v ∈ u.cells.toList, v.oneCell' = true := by
 have hone : ∀ {x : V}, one x = true → Rep s w A m u x → (ceV x = [x]) → u.cells.size = (ceV x).length ∧ (∀ j y, (ceV x)[j]? = some y → Rep s w A m (u.cells.getD j undef) y) ∧ ∀ v ∈ u.cells.toList, v.oneCell' = true := by
  intro x hx hr hc
  have hu := one_cell hr hx
  have hcell : u.cells = #[u] := by cases u <;> first | rfl | (simp [Value.oneCell'] at hu)
  rw [hc, hcell]
  refine ⟨rfl, fun j y hy => ?_, fun v hv => ?_⟩
  · cases j with
    | zero => simp at hy; subst hy; exact hr
    | succ j => simp at hy
  · simp at hv; subst hv; exact hu
 cases x with
 | ag l =>
   cases hr with
   | ag _ cs _ hs h6 =>
     refine ⟨hs, h6, fun v hv => ?_⟩
     obtain ⟨j, hj⟩ := List.mem_iff_getElem?.1 hv
     have hj' := (List.getElem?_eq_some_iff.1 hj).1
     have hlt : j < l.length := by rw [← hs]; simpa [Value.cells] using hj'
     have h2 := h6 j l[j] (List.getElem?_eq_getElem hlt)
     have h3 : cs.getD j undef = v := by
      rw [Array.getD_eq_getD_getElem?, ← Array.getElem?_toList]
      rw [show cs.toList[j]? = some v from hj]
      rfl
     rw [h3] at h2
     simp only [ceV, List.all_eq_true] at h1
     exact one_cell h2 (h1 _ (List.getElem_mem hlt))
 | _ => exact hone (by simpa [ceV] using h1) hr rfl
theorem zcell_rep (v : Value) (b : Bool) : Rep s w A m v (zcell v b) := by
 unfold zcell
 split
 · exact .nl _ _
 · exact .k _ _
theorem zcells_rep : ∀ (vs : List Value) (fl : List Bool), (zcells vs fl).length = vs.length ∧ ∀ j x, (zcells vs fl)[j]? = some x → Rep s w A m (vs.getD j undef) x
 | [], _ => ⟨rfl, fun j x h => by simp [zcells] at h⟩
 | v :: r, [] => by
  obtain ⟨h1, h2⟩ := zcells_rep r []
  refine ⟨by simp [zcells, h1], fun j x h => ?_⟩
  cases j with
  | zero => simp only [zcells, List.getElem?_cons_zero, Option.some.injEq] at h; subst h; exact zcell_rep v false
  | succ j => simp only [zcells, List.getElem?_cons_succ] at h; simpa using h2 j x h
 | v :: r, b :: l => by
  obtain ⟨h1, h2⟩ := zcells_rep r l
  refine ⟨by simp [zcells, h1], fun j x h => ?_⟩
  cases j with
  | zero => simp only [zcells, List.getElem?_cons_zero, Option.some.injEq] at h; subst h; exact zcell_rep v b
  | succ j => simp only [zcells, List.getElem?_cons_succ] at h; simpa using h2 j x h
theorem getD_toList {cs : Array Value} {j : Nat} : cs.toList.getD j undef = cs.getD j undef := by
 rw [List.getD_eq_getElem?_getD, Array.getD_eq_getD_getElem?, Array.getElem?_toList]
theorem zero_ok {T : TypeId} {z : Value} {l : List V} (e : zeroV P T = some (z, l)) : (∀ w : World, (zeroValue T).run P w = .ok z w) ∧ z.cells.size = l.length ∧ ∀ j x, l[j]? = some x → Rep s w A m (z.cells.getD j undef) x := by
 unfold zeroV at e
 split at e
 · rename_i i hi
   split at e
   · rename_i v hv
     simp only [Option.some.injEq, Prod.mk.injEq] at e
     obtain ⟨rfl, rfl⟩ := e
     obtain ⟨h1, h2⟩ := zcells_rep (s := s) (w := w) (A := A) (m := m) v.cells.toList (flags P 9 T)
     refine ⟨fun w => by simp [zeroValue, run_info hi, hv], by rw [h1]; simp, fun j x hx => ?_⟩
     have := h2 j x hx
     rwa [getD_toList] at this
   · cases e
 · cases e
theorem foldSet {off : Nat} : ∀ (l : List Value) (k : Nat) (cs : Array Value), off + k + l.length ≤ cs.size →
  ((l.zipIdx k).foldl (fun cs x => cs.setIfInBounds (off + x.2) x.1) cs).size = cs.size ∧ ∀ j, ((l.zipIdx k).foldl (fun cs x => cs.setIfInBounds (off + x.2) x.1) cs).getD j undef = if off + k ≤ j ∧ j < off + k + l.length then l.getD (j - (off + k)) undef else cs.getD j undef
 | [], k, cs, _ => ⟨rfl, fun j => by rw [if_neg (by simp only [List.length_nil]; omega)]; rfl⟩
 | v :: r, k, cs, h => by
  simp only [List.length_cons] at h
  obtain ⟨h1, h2⟩ := foldSet (off := off) r (k + 1) (cs.setIfInBounds (off + k) v) (by rw [Array.size_setIfInBounds]; omega)
  refine ⟨by simpa using h1, fun j => ?_⟩
  simp only [List.zipIdx_cons, List.foldl_cons]
  rw [h2 j]
  simp only [List.length_cons]
  by_cases h3 : off + (k + 1) ≤ j ∧ j < off + (k + 1) + r.length
  · rw [if_pos h3, if_pos (by omega), show j - (off + k) = j - (off + (k + 1)) + 1 by omega]
    simp
  · rw [if_neg h3]
    simp only [Array.getD_eq_getD_getElem?]
    by_cases h4 : j = off + k
    · subst h4
      rw [if_pos (by omega), Array.getElem?_setIfInBounds_self_of_lt (by omega)]
      simp
    · rw [if_neg (by omega), Array.getElem?_setIfInBounds_ne (by omega)]
theorem splice_get {l x : List V} {o : Nat} (h : o + x.length ≤ l.length) (j : Nat) : (splice l o x).length = l.length ∧ (splice l o x)[j]? = if o ≤ j ∧ j < o + x.length then x[j - o]? else l[j]? := by
 have hl : (l.take o).length = o := by simp; omega
 refine ⟨by simp [splice]; omega, ?_⟩
 unfold splice
 by_cases h1 : j < o
 · rw [if_neg (by omega), List.append_assoc, List.getElem?_append_left (by omega), List.getElem?_take, if_pos h1]
 · rw [List.append_assoc, List.getElem?_append_right (by omega), hl]
   by_cases h2 : j < o + x.length
   · rw [if_pos (by omega), List.getElem?_append_left (by omega)]
   · rw [if_neg (by omega), List.getElem?_append_right (by omega), List.getElem?_drop]
     congr 1
     omega
/-- Parts of a value, put in. -/
theorem fill_ok {pl : Nat → Option (Nat × Nat)} : ∀ (ps : List (Nat × V)) (us : List (Nat × Value)) (z : List V) (cs : Array Value) (l : List V), fillV pl z ps = some l → cs.size = z.length → (∀ j x, z[j]? = some x → Rep s w A m (cs.getD j undef) x) →
  us.length = ps.length → (∀ (i : Nat) (p : Nat × V) (u : Nat × Value), ps[i]? = some p → us[i]? = some u → u.1 = p.1 ∧ Rep s w A m u.2 p.2) → ∃ cs', Instr.fill pl cs us = some cs' ∧ cs'.size = l.length ∧ ∀ j x, l[j]? = some x → Rep s w A m (cs'.getD j undef) x
 | [], [], z, cs, l, h, hs, hr, _, _ => by
  simp only [fillV, Option.some.injEq] at h
  subst h
  exact ⟨cs, rfl, hs, hr⟩
 | [], _ :: _, _, _, _, _, _, _, h, _ => by simp at h
 | _ :: _, [], _, _, _, _, _, _, h, _ => by simp at h
 | (i, v) :: ps, (i', u) :: us, z, cs, l, h, hs, hr, hlen, hu => by
  obtain ⟨h1, h2⟩ := hu 0 (i, v) (i', u) rfl rfl
  simp only at h1 h2
  subst h1
  simp only [fillV] at h
  split at h
  · rename_i off n hp
    split at h
    · rename_i hc
      simp only [Bool.and_eq_true, Nat.ble_eq] at hc
      obtain ⟨⟨hc1, hc2⟩, hc3⟩ := hc
      have hc1 := Nat.eq_of_beq_eq_true hc1
      obtain ⟨k1, k2, k3⟩ := ce_rep h2 hc3
      have hfold := foldSet (off := off) u.cells.toList 0 cs (by simp; omega)
      obtain ⟨f1, f2⟩ := hfold
      obtain ⟨cs', g1, g2, g3⟩ := fill_ok ps us (splice z off (ceV v)) _ l h (f1.trans (by rw [hs, (splice_get hc2 0).1])) (fun j x hx => by
       rw [f2 j]
       rw [(splice_get hc2 j).2] at hx
       simp only [Nat.add_zero, Array.length_toList] at *
       by_cases h5 : off ≤ j ∧ j < off + (ceV v).length
       · rw [if_pos h5] at hx
         rw [if_pos (by omega)]
         have := k2 (j - off) x hx
         rwa [← getD_toList] at this
       · rw [if_neg h5] at hx
         rw [if_neg (by omega)]
         exact hr j x hx) (by simpa using hlen) (fun i p q h3 h4 => hu (i + 1) p q (by simpa using h3) (by simpa using h4))
      refine ⟨cs', ?_, g2, g3⟩
      simp only [Instr.fill, hp]
      rw [if_neg (by simp only [Bool.or_eq_true, decide_eq_true_eq, not_or]; exact ⟨by omega, by omega⟩)]
      rw [← Array.foldl_toList, Array.toList_zipIdx]
      exact g1
    · cases h
  · cases h
end
end Go.Proofs.YtcfejkpadcccbaaGreat.E
namespace Go.Proofs.YtcfejkpadcccbaaGreat.E
open Go.RowKit
set_option linter.unusedVariables false
set_option linter.unusedSimpArgs false
section
variable {s : Bool} {B : Nat} {M : Nat → Prop} {h : Nat → HO} {m m' : Nat → Option Value} {w w' : World} {A A' : Nat → Prop} {P : Program}
theorem flat_get {z : Nat} : ∀ {l : List (List V)} {i j : Nat} {cs : List V} {x : V}, (∀ cs ∈ l, cs.length = z) → l[i]? = some cs → cs[j]? = some x → l.flatten[i * z + j]? = some x
 | [], i, j, cs, x, _, h1, _ => by simp at h1
 | c :: r, 0, j, cs, x, hz, h1, h2 => by
  simp only [List.getElem?_cons_zero, Option.some.injEq] at h1
  subst h1
  have := (List.getElem?_eq_some_iff.1 h2).1
  rw [List.flatten_cons, Nat.zero_mul, Nat.zero_add, List.getElem?_append_left this]
  exact h2
 | c :: r, i + 1, j, cs, x, hz, h1, h2 => by
  have hc := hz c (List.mem_cons_self ..)
  have := flat_get (l := r) (fun cs hcs => hz cs (List.mem_cons_of_mem _ hcs)) (by simpa using h1) h2
  rw [List.flatten_cons, List.getElem?_append_right (by rw [hc, Nat.succ_mul]; omega), hc, show (i + 1) * z + j - z = i * z + j by rw [Nat.succ_mul]; omega]
  exact this
theorem flat_len {z : Nat} : ∀ {l : List (List V)}, (∀ cs ∈ l, cs.length = z) → l.flatten.length = l.length * z
 | [], _ => by simp
 | c :: r, h => by
  rw [List.flatten_cons, List.length_append, flat_len fun cs hcs => h cs (List.mem_cons_of_mem _ hcs), h c (List.mem_cons_self ..), List.length_cons, Nat.succ_mul]
  omega
/-- What says nothing of names stays where less is avoided. -/
theorem shut {x : V} {u : Value} (hr : Rep s w A m u x) (hA : ∀ g, A' g → A g) (hx : ∀ b o, x ≠ .lp b o) (hx2 : ∀ b z i o, x ≠ .rp b z i o) (hx3 : ∀ b, x ≠ .ow b) (hx7 : ∀ b z i j, x ≠ .os b z i j) (hx4 : ∀ l, x ≠ .ag l) (hx5 : ∀ l, x ≠ .tu l) (hx6 : ∀ f l, x ≠ .cl f l) : Rep s w A' no u x := by
 have g : Mo s w A no w A' no := ⟨Nat.le_refl _, fun _ _ _ => rfl, fun g e => .inl (hA g e), fun _ _ e => e, fun _ => Kp.refl _⟩
 cases hr with
 | k => exact .k _ _
 | un => exact .un _ _
 | dg _ _ l hl hg => exact .dg _ _ _ hl fun e hn b hb hA' => hg e hn b hb (hA b hA')
 | sl _ a b o c z l us h1 h2 h3 h4 h5 h6 => exact .sl _ a b o c z l us h1 h2 (fun hn => ⟨(h3 hn).1, fun e => (h3 hn).2.1 (hA b e), (h3 hn).2.2⟩) h4 h5 fun i j cs x e1 e2 => (h6 i j cs x e1 e2).mo g
 | ip _ b o l us h3 h4 h5 h6 => exact .ip _ b o l us (fun e => h3 (hA b e)) h4 h5 fun j x e => (h6 j x e).mo g
 | lp _ b o => exact absurd rfl (hx b o)
 | rp _ b z i o => exact absurd rfl (hx2 b z i o)
 | os _ b z i j => exact absurd rfl (hx7 b z i j)
 | ow _ b => exact absurd rfl (hx3 b)
 | ag _ cs l => exact absurd rfl (hx4 l)
 | tu _ cs l => exact absurd rfl (hx5 l)
 | cl _ f cs l => exact absurd rfl (hx6 f l)
 | nl _ i => exact .nl _ i
 | dp _ b o x cs fr h h2 hg => exact .dp _ b o x cs fr h h2 fun e hA' => hg e (hA b hA')
theorem exps_rep {g : V → Option (V × List Nat)} {C : Nat → Prop} (hg : ∀ x y ks, g x = some (y, ks) → (∀ b ∈ ks, C b) → ∀ u, Rep s w A m u x → Rep s w A' no u y) :
  ∀ (l ys : List V) (ks : List Nat), exps g l = some (ys, ks) → (∀ b ∈ ks, C b) → ys.length = l.length ∧ ∀ (j : Nat) (y : V), ys[j]? = some y → ∀ (u : Value), (∀ x, l[j]? = some x → Rep s w A m u x) → Rep s w A' no u y
 | [], ys, ks, e, _ => by
  simp only [exps, Option.some.injEq, Prod.mk.injEq] at e
  obtain ⟨rfl, rfl⟩ := e
  exact ⟨rfl, fun j y hy => by simp at hy⟩
 | x :: r, ys, ks, e, hc => by
  unfold exps at e
  split at e
  · rename_i y k hy
    split at e
    · rename_i ys' ks' hys
      simp only [Option.some.injEq, Prod.mk.injEq] at e
      obtain ⟨rfl, rfl⟩ := e
      obtain ⟨h1, h2⟩ := exps_rep hg r ys' ks' hys fun b hb => hc b (List.mem_append.2 (.inr hb))
      refine ⟨by simp [h1], fun j z hz u hu => ?_⟩
      cases j with
      | zero =>
        simp only [List.getElem?_cons_zero, Option.some.injEq] at hz
        subst hz
        exact hg x y k hy (fun b hb => hc b (List.mem_append.2 (.inl hb))) u (hu x rfl)
      | succ j =>
        simp only [List.getElem?_cons_succ] at hz
        exact h2 j z hz u fun x hx => hu x (by simpa using hx)
    · cases e
  · cases e
theorem exp_rep {h0 : Nat → HO} (K : Ok s B M h m w) (hA : ∀ g, A' g → Av M h m g) : ∀ (n : Nat) (x y : V) (ks : List Nat), exp h0 n x = some (y, ks) → (∀ b ∈ ks, h b = h0 b ∧ ∀ v g, m b = some v → blk v = some g → ¬ A' g) → ∀ u, Rep s w (Av M h m) m u x → Rep s w A' no u y
 | 0, x, y, ks, e, _, _, _ => by cases e
 | n + 1, x, y, ks, e, hk, u, hr => by
  have ih := exps_rep (C := fun b => h b = h0 b ∧ ∀ v g, m b = some v → blk v = some g → ¬ A' g) (fun x y ks e hc u hr => exp_rep K hA n x y ks e hc u hr)
  have hout : ∀ {x : V}, some (x, []) = some (y, ks) → Rep s w (Av M h m) m u x → (∀ b o, x ≠ .lp b o) → (∀ b z i o, x ≠ .rp b z i o) → (∀ b, x ≠ .ow b) → (∀ b z i j, x ≠ .os b z i j) → (∀ l, x ≠ .ag l) → (∀ l, x ≠ .tu l) → (∀ f l, x ≠ .cl f l) → Rep s w A' no u y := by
   intro x e hr
   simp only [Option.some.injEq, Prod.mk.injEq] at e
   obtain ⟨rfl, rfl⟩ := e
   exact shut hr hA
  cases x with
  | k v => exact hout e hr (by simp) (by simp) (by simp) (by simp) (by simp) (by simp) (by simp)
  | un => exact hout e hr (by simp) (by simp) (by simp) (by simp) (by simp) (by simp) (by simp)
  | dg l => exact hout e hr (by simp) (by simp) (by simp) (by simp) (by simp) (by simp) (by simp)
  | sl l => exact hout e hr (by simp) (by simp) (by simp) (by simp) (by simp) (by simp) (by simp)
  | ip l => exact hout e hr (by simp) (by simp) (by simp) (by simp) (by simp) (by simp) (by simp)
  | dp x => exact hout e hr (by simp) (by simp) (by simp) (by simp) (by simp) (by simp) (by simp)
  | nl i =>
    cases hr with
    | nl =>
      cases i with
      | true =>
        simp only [exp, Option.some.injEq, Prod.mk.injEq] at e
        obtain ⟨rfl, rfl⟩ := e
        exact .dg _ _ _ (Sl.nil w) (fun _ h => by simp at h)
      | false =>
        simp only [exp, Option.some.injEq, Prod.mk.injEq] at e
        obtain ⟨rfl, rfl⟩ := e
        exact .sl _ none 0 0 0 0 [] (fun _ _ => undef) (Nat.le_refl _) (by decide) (fun h => by simp at h) (fun _ h => by simp at h) (fun i j cs x h => by simp at h) (fun i j cs x h => by simp at h)
  | rp b z i o => simp [exp] at e
  | os b z i j => simp [exp] at e
  | cl f l =>
    simp only [exp] at e
    split at e
    · rename_i ys ks' hys
      simp only [Option.some.injEq, Prod.mk.injEq] at e
      obtain ⟨rfl, rfl⟩ := e
      cases hr with
      | cl _ _ cs _ h1 h2 =>
        obtain ⟨k1, k2⟩ := ih l ys _ hys hk
        exact .cl _ f cs ys (by omega) fun j y hy => k2 j y hy _ fun x hx => h2 j x hx
    · cases e
  | ag l =>
    simp only [exp] at e
    split at e
    · rename_i ys ks' hys
      simp only [Option.some.injEq, Prod.mk.injEq] at e
      obtain ⟨rfl, rfl⟩ := e
      cases hr with
      | ag _ cs _ h1 h2 =>
        obtain ⟨k1, k2⟩ := ih l ys _ hys hk
        exact .ag _ cs ys (by omega) fun j y hy => k2 j y hy _ fun x hx => h2 j x hx
    · cases e
  | tu l =>
    simp only [exp] at e
    split at e
    · rename_i ys ks' hys
      simp only [Option.some.injEq, Prod.mk.injEq] at e
      obtain ⟨rfl, rfl⟩ := e
      cases hr with
      | tu _ cs _ h1 h2 =>
        obtain ⟨k1, k2⟩ := ih l ys _ hys hk
        exact .tu _ cs ys (by omega) fun j y hy => k2 j y hy _ fun x hx => h2 j x hx
    · cases e
  | lp b o =>
    simp only [exp] at e
    split at e
    · rename_i T l hb
      split at e
      · rename_i ys ks' hys
        simp only [Option.some.injEq, Prod.mk.injEq] at e
        obtain ⟨rfl, rfl⟩ := e
        obtain ⟨k1, k2⟩ := ih l ys _ hys fun b' hb' => hk b' (List.mem_cons_of_mem _ hb')
        obtain ⟨g, cs, h1, h2, h3, h4, h5⟩ := K.bx b T l ((hk b (List.mem_cons_self ..)).1.trans hb)
        cases hr with
        | lp _ _ _ g' hg' =>
          rw [h1] at hg'
          injection hg' with hg'
          injection hg' with hg'
          injection hg' with hg'
          injection hg' with hg'
          subst hg'
          refine .ip _ g o _ (fun j => cs.getD (o + j) undef) ((hk b (List.mem_cons_self ..)).2 _ g h1 rfl) (Array.getElem?_eq_some_iff.1 h3).1 (fun j x hx => ?_) fun j x hx => ?_
          · rw [List.getElem?_drop] at hx
            have hlt := (List.getElem?_eq_some_iff.1 hx).1
            have : o + j < cs.size := by omega
            simp [World.cell?, h3, Array.getD_eq_getD_getElem?, Array.getElem?_eq_getElem this]
          · rw [List.getElem?_drop] at hx
            exact k2 (o + j) x hx _ fun x' hx' => h5 (o + j) x' hx'
      · cases e
    · cases e
  | ow b =>
    simp only [exp] at e
    split at e
    · rename_i T z l hb
      simp only [Option.some.injEq, Prod.mk.injEq] at e
      obtain ⟨rfl, rfl⟩ := e
      obtain ⟨v, xs, h1, h2, h3, h0', h4⟩ := K.rw b T z l ((hk b (List.mem_cons_self ..)).1.trans hb)
      cases hr with
      | ow _ _ a n c hm =>
        rw [h1] at hm
        injection hm with hm
        subst hm
        have hmo : Mo s w (Av M h m) no w A' no := ⟨Nat.le_refl _, fun _ _ _ => rfl, fun g e => .inl (hA g e), fun _ _ e => e, fun _ => Kp.refl _⟩
        rcases h3.2 with ⟨h5, h6⟩ | ⟨g, cap, cur, h5, hB, hh, h6, h7, h8, h9⟩
        · injection h5 with h5a h5b h5c
          subst h5a; subst h5b; subst h5c
          have hl : l = [] := List.eq_nil_of_length_eq_zero h6
          subst hl
          exact .sl _ none 0 0 0 0 [] (fun _ _ => undef) (Nat.le_refl _) (by decide) (fun h => by simp at h) (fun _ h => by simp at h) (fun i j cs x h => by simp at h) (fun i j cs x h => by simp at h)
        · injection h5 with h5a h5b h5c
          subst h5a; subst h5b; subst h5c
          have hget : ∀ i j cs x, l[i]? = some cs → cs[j]? = some x → ∃ u, xs[i * z + j]? = some u ∧ cur[i * z + j]? = some u := by
           intro i j cs x e1 e2
           have h10 := flat_get h2 e1 e2
           have h11 := (List.getElem?_eq_some_iff.1 h10).1
           have h12 := flat_len h2
           have h13 : i * z + j < xs.length := by rw [h3.1]; omega
           obtain ⟨u, hu⟩ : ∃ u, xs[i * z + j]? = some u := ⟨_, List.getElem?_eq_getElem h13⟩
           refine ⟨u, hu, ?_⟩
           rw [← h9, List.getElem?_take] at hu
           split at hu
           · rw [← Array.getElem?_toList, hu]
           · cases hu
          refine .sl _ _ g 0 _ z l (fun i j => xs.getD (i * z + j) undef) h6 h7 (fun _ => ⟨rfl, (hk b (List.mem_cons_self ..)).2 _ g h1 rfl, (Array.getElem?_eq_some_iff.1 hh).1⟩) h2 (fun i j cs x e1 e2 => ?_) fun i j cs x e1 e2 => ?_
          · obtain ⟨u, hu1, hu2⟩ := hget i j cs x e1 e2
            simp [World.cell?, hh, List.getD_eq_getElem?_getD, hu1, hu2]
          · exact (h4 _ x (flat_get h2 e1 e2)).mo hmo
    · rename_i l hb
      simp only [Option.some.injEq, Prod.mk.injEq] at e
      obtain ⟨rfl, rfl⟩ := e
      obtain ⟨v, h1, h3⟩ := K.ri b l ((hk b (List.mem_cons_self ..)).1.trans hb)
      cases hr with
      | ow _ _ a n c hm =>
        rw [h1] at hm
        injection hm with hm
        subst hm
        refine .dg _ _ _ ?_ fun _ _ g hg => (hk b (List.mem_cons_self ..)).2 _ g h1 hg
        rcases h3.2 with ⟨h5, h6⟩ | ⟨g, cap, cur, h5, hB, hh, h6, h7, h8, h9⟩
        · injection h5 with h5a h5b h5c
          subst h5a; subst h5b; subst h5c
          have hl : l = [] := List.eq_nil_of_length_eq_zero h6
          subst hl
          exact Sl.nil w
        · have hrd := Rd.of_own (by rw [h5] at h3; exact h3)
          injection h5 with h5a h5b h5c
          subst h5a; subst h5b; subst h5c
          exact ⟨_, _, _, rfl, rfl, h6, h7, hrd, fun _ => ⟨g, 0, cur, (0, 0), rfl, hh⟩⟩
    · cases e
theorem exps_live {g : V → Option (V × List Nat)} {C : Nat → Prop} (hg : ∀ x y ks, g x = some (y, ks) → ∀ b ∈ ks, C b) : ∀ (l ys : List V) (ks : List Nat), exps g l = some (ys, ks) → ∀ b ∈ ks, C b
 | [], ys, ks, e, b, hb => by
  simp only [exps, Option.some.injEq, Prod.mk.injEq] at e
  obtain ⟨rfl, rfl⟩ := e
  cases hb
 | x :: r, ys, ks, e, b, hb => by
  unfold exps at e
  split at e
  · rename_i y k hy
    split at e
    · rename_i ys' ks' hys
      simp only [Option.some.injEq, Prod.mk.injEq] at e
      obtain ⟨rfl, rfl⟩ := e
      rcases List.mem_append.1 hb with hb | hb
      · exact hg x y k hy b hb
      · exact exps_live hg r ys' ks' hys b hb
    · cases e
  · cases e
theorem exp_live {h0 : Nat → HO} : ∀ (n : Nat) (x y : V) (ks : List Nat), exp h0 n x = some (y, ks) → ∀ b ∈ ks, h0 b ≠ .dead
 | 0, x, y, ks, e, _, _ => by cases e
 | n + 1, x, y, ks, e, c, hc => by
  have ih := exps_live (C := fun b => h0 b ≠ .dead) (fun x y ks e => exp_live (h0 := h0) n x y ks e)
  cases x with
  | lp b o =>
    simp only [exp] at e
    split at e
    · rename_i T l hb
      split at e
      · rename_i ys ks' hys
        simp only [Option.some.injEq, Prod.mk.injEq] at e
        obtain ⟨rfl, rfl⟩ := e
        rcases List.mem_cons.1 hc with rfl | hc
        · rw [hb]; intro h; cases h
        · exact ih l ys _ hys c hc
      · cases e
    · cases e
  | ow b =>
    simp only [exp] at e
    split at e
    · rename_i T l hb
      simp only [Option.some.injEq, Prod.mk.injEq] at e
      obtain ⟨rfl, rfl⟩ := e
      simp only [List.mem_singleton] at hc
      subst hc
      rw [hb]; intro h; cases h
    · rename_i l hb
      simp only [Option.some.injEq, Prod.mk.injEq] at e
      obtain ⟨rfl, rfl⟩ := e
      simp only [List.mem_singleton] at hc
      subst hc
      rw [hb]; intro h; cases h
    · cases e
  | ag l =>
    simp only [exp] at e
    split at e
    · rename_i ys ks' hys
      simp only [Option.some.injEq, Prod.mk.injEq] at e
      obtain ⟨rfl, rfl⟩ := e
      exact ih l ys _ hys c hc
    · cases e
  | tu l =>
    simp only [exp] at e
    split at e
    · rename_i ys ks' hys
      simp only [Option.some.injEq, Prod.mk.injEq] at e
      obtain ⟨rfl, rfl⟩ := e
      exact ih l ys _ hys c hc
    · cases e
  | cl f l =>
    simp only [exp] at e
    split at e
    · rename_i ys ks' hys
      simp only [Option.some.injEq, Prod.mk.injEq] at e
      obtain ⟨rfl, rfl⟩ := e
      exact ih l ys _ hys c hc
    · cases e
  | rp b z i o => simp [exp] at e
  | os b z i j => simp [exp] at e
  | nl i =>
    cases i <;>
     (simp only [exp, Option.some.injEq, Prod.mk.injEq] at e
      rw [← e.2] at hc
      cases hc)
  | _ =>
    simp only [exp, Option.some.injEq, Prod.mk.injEq] at e
    rw [← e.2] at hc
    cases hc
def kills (ks : List Nat) : List (Nat × HO) := ks.map fun b => (b, .dead)
theorem upds_kills {h : Nat → HO} : ∀ {ks : List Nat} {c : Nat}, upds h (kills ks) c ≠ .dead → c ∉ ks ∧ upds h (kills ks) c = h c
 | [], c, e => ⟨by simp, rfl⟩
 | b :: r, c, e => by
  by_cases hc : c = b
  · subst hc; exact absurd upd_eq e
  · have h1 : upds h (kills (b :: r)) c = upds h (kills r) c := upd_ne hc
    rw [h1] at e ⊢
    obtain ⟨h2, h3⟩ := upds_kills e
    exact ⟨by simp [hc, h2], h3⟩
theorem Ok.kills (K : Ok s B M h m w) : ∀ ks : List Nat, Ok s B M (upds h (kills ks)) m w
 | [] => K
 | b :: r => (Ok.kills K r).kill b
theorem Mo.kills : ∀ ks : List Nat, Mo s w (Av M h m) m w (Av M (upds h (kills ks)) m) m
 | [] => Mo.refl
 | b :: r => (Mo.kills r).trans Mo.kill
theorem kills_out (K : Ok s B M h m w) {ks : List Nat} {b : Nat} {v : Value} {g : Nat} (hb : b ∈ ks) (hd : h b ≠ .dead) (hm : m b = some v) (hg : blk v = some g) : ¬ Av M (upds h (kills ks)) m g := by
 rintro (e | ⟨c, u, h1, h2, h3⟩)
 · have h1 := K.mb g e
   have h2 := (K.blk hd hm hg).1
   omega
 · obtain ⟨h4, h5⟩ := upds_kills h1
   rw [h5] at h1
   have := K.inj c b u v g h1 hd h2 hm h3 hg
   subst this
   exact h4 hb
theorem flat1_rep {x : V} {u : Value} (hf : flat1 s x = true) (hr : Rep s w A m u x) : Rep s w A' m' u x := by
 cases x with
 | k v => cases hr; exact .k _ _
 | dg l =>
   cases hr with
   | dg _ _ _ h g => exact .dg _ _ _ h fun e => by simp [flat1, e] at hf
 | _ => cases hf
theorem flat2_rep {x : V} {u : Value} (hf : flat2 s x = true) (hr : Rep s w A m u x) : Rep s w A' m' u x := by
 cases x with
 | ag l =>
   cases hr with
   | ag _ cs _ h1 h2 =>
     simp only [flat2, List.all_eq_true] at hf
     exact .ag _ cs l h1 fun j y hy => flat1_rep (hf y (List.mem_of_getElem? hy)) (h2 j y hy)
 | _ => exact flat1_rep hf hr
theorem flat_rep {x : V} {u : Value} (hf : flat s x = true) (hr : Rep s w A m u x) : Rep s w A' m' u x := by
 cases x with
 | tu l =>
   cases hr with
   | tu _ cs _ h1 h2 =>
     simp only [flat, List.all_eq_true] at hf
     exact .tu _ cs l h1 fun j y hy => flat2_rep (hf y (List.mem_of_getElem? hy)) (h2 j y hy)
 | _ => exact flat2_rep hf hr
end
end Go.Proofs.YtcfejkpadcccbaaGreat.E
