/-
 THE WALKS of the reference of package integer: Neg, Compare, Sign, Add, Mul.
-/
import Derived.Test.YthliihpeodohpaaGreatDoorDsA
import Derived.Shelf.SlSortCmp.WholeK
import Derived.Test.YthliihpeodohpaaGreatDoorMemR
import Derived.Test.YthliihpeodohpaaGreatDoorRows
import Derived.WalkLawsBesides
import Derived.LoopTactic
import Derived.BigQuiet
import Derived.Deep.QuietTactic
import Derived.Deep.RegionHeld3
import Derived.RegionTactic
import Derived.ChangeAlike
import Derived.BigRegion
import Derived.Laws.CopyOwn
import Derived.Deep.DeepCutAuto
namespace Go.Proofs.YthliihpeodohpaaGreatDoor.E
open Go.RowKit Go.Shelf Go.Sort
set_option linter.unusedVariables false
set_option linter.unusedSimpArgs false
section
variable {β : Type} {T z : Nat} {db : β → List V} {okb : β → Prop} {cf : β → β → Int}
/-- An element: its cells, and what they stand for. -/
def El (w : World) (A : Nat → Prop) (db : β → List V) (z : Nat) (okb : β → Prop) : Type := { x : List Value × β // x.1.length = z ∧ (∀ v ∈ x.1, v.oneCell' = true) ∧ okb x.2 ∧ ∀ j y, (db x.2)[j]? = some y → Rep w A no (x.1.getD j undef) y }
theorem flat_idx {zz : Nat} (h0 : 0 < zz) : ∀ {ls : List (List V)}, (∀ cs ∈ ls, cs.length = zz) → ∀ {i j : Nat} {cs : List V} {y : V}, ls[i]? = some cs → cs[j]? = some y → ls.flatten[i * zz + j]? = some y
 | [], _, i, j, cs, y, h1, _ => by simp at h1
 | x :: ls, hz, 0, j, cs, y, h1, h2 => by
  injection h1 with h1
  subst h1
  rw [List.flatten_cons, Nat.zero_mul, Nat.zero_add, List.getElem?_append_left (List.getElem?_eq_some_iff.1 h2).1]
  exact h2
 | x :: ls, hz, i + 1, j, cs, y, h1, h2 => by
  have hx := hz x (List.mem_cons_self ..)
  have := flat_idx h0 (fun c hc => hz c (List.mem_cons_of_mem _ hc)) (i := i) (j := j) (ls := ls) h1 h2
  rw [List.flatten_cons, List.getElem?_append_right (by rw [hx, Nat.add_mul]; omega), hx, show (i + 1) * zz + j - zz = i * zz + j by rw [Nat.add_mul]; omega]
  exact this
theorem e_sortG {cmp : FuncId} {ρ : Ren} (LA : SlLaysF0.n6 PP ρ) (hok : okF PP (ρ.f 6)) (hT : ρ.t 24 = T) (aE : ∀ w, (isAgg T).run PP w = .ok true w) (zE : ∀ w, (Go.sizeOf T).run PP w = .ok z w) (hz : ∀ c, okb c → (db c).length = z) (h1 : ∀ c, okb c → (db c).all one = true) (z0 : 0 < z)
  (hcmp : ∀ c d, okb c → okb d → Pure PP cmp [.ag (db c), .ag (db d)] (ni (cf c d))) (hO1 : ∀ x, okb x → ¬ cf x x < 0) (hO2 : ∀ x y u, okb x → okb y → okb u → cf x y < 0 → cf y u < 0 → cf x u < 0) (hO3 : ∀ x y u, okb x → okb y → okb u → ¬ cf x y < 0 → ¬ cf y u < 0 → ¬ cf x u < 0)
  (l l' : List β) (hl : ∀ c ∈ l, okb c) (h0 : 0 < l.length) (hp : l'.Perm l) (hs : l'.Pairwise fun a b => ¬ cf b a < 0) (ht : ∀ a ∈ l, ∀ b ∈ l, ¬ cf b a < 0 → ¬ cf a b < 0 → a = b) (hn : l.length < 1000000) :
  PureT PP (ρ.f 6) [.rw T z (l.map db)] [.ow 0, .cl cmp []] (.io 1 [.rw T z (l'.map db)] (.tu [])) := by
 refine ⟨hok, fun w B M m args K hm hnn hargs => ?_⟩
 obtain ⟨v, xs, q1, q2, q3, q4, q5⟩ := K.rw 0 T z (l.map db) rfl
 have hlm : (l.map db).length = l.length := List.length_map ..
 obtain ⟨hxs, q3⟩ := q3
 obtain ⟨g, cap, cur, hv, hB, hh, hc1, hc2, hsz, htk⟩ := q3.resolve_left (fun e => by omega)
 subst hv
 rw [hlm] at hxs htk hc1
 let A : Nat → Prop := Av M (fun b => ([HO.rw T z (l.map db)] : List HO).getD b .dead) m
 have hgA : A g := .inr ⟨0, _, rfl, q1, rfl⟩
 have hglt : g < w.heap.size := (Array.getElem?_eq_some_iff.1 hh).1
 -- the elements
 have hzl : ∀ cs ∈ l.map db, cs.length = z := q2
 have cell : ∀ i j, i < l.length → j < z → i * z + j < l.length * z := fun i j hi hj => by
  have := Nat.mul_le_mul_right z (show i + 1 ≤ l.length from hi)
  rw [Nat.add_mul, Nat.one_mul] at this
  omega
 let mk : (i : Fin l.length) → El w A db z okb := fun i => ⟨((xs.drop (i.val * z)).take z, l[i.val]'i.isLt), by
   rw [List.length_take, List.length_drop, hxs]
   have := cell i.val (z - 1) i.isLt (by omega)
   omega, fun v hv => q4 v (List.mem_of_mem_drop (List.mem_of_mem_take hv)), hl _ (List.getElem_mem _), fun j y hj => by
   have hok := hl _ (List.getElem_mem i.isLt)
   have hjz : j < z := by rw [← hz _ hok]; exact (List.getElem?_eq_some_iff.1 hj).1
   have hf := flat_idx z0 hzl (i := i.val) (j := j) (cs := db (l[i.val]'i.isLt)) (y := y) (by rw [List.getElem?_map, List.getElem?_eq_getElem i.isLt]; rfl) hj
   have := q5 _ y hf
   have e : ((xs.drop (i.val * z)).take z).getD j undef = xs.getD (i.val * z + j) undef := by
    rw [List.getD_eq_getElem?_getD, List.getElem?_take, if_pos hjz, List.getElem?_drop, List.getD_eq_getElem?_getD]
   show Rep w A no (((xs.drop (i.val * z)).take z).getD j undef) y
   rw [e]
   exact this⟩
 haveI : Inhabited (El w A db z okb) := ⟨mk ⟨0, h0⟩⟩
 let d : Array (El w A db z okb) := Array.ofFn mk
 have hds : d.size = l.length := Array.size_ofFn
 let enc : El w A db z okb → List Value := fun x => x.val.1
 have hdget : ∀ i (hi : i < l.length), d[i]! = mk ⟨i, hi⟩ := fun i hi => by
  rw [getElem!_pos d i (by rw [hds]; exact hi)]
  simp [d]
 have hH : HoldsK enc z w g 0 d := fun t ht2 => by
  have ht2 : t < l.length * z := by simpa [hds] using ht2
  have htc : t < cur.size := by
   rw [hsz]
   exact Nat.lt_of_lt_of_le ht2 (Nat.mul_le_mul_right _ hc1)
  have hq : t / z < l.length := Nat.div_lt_of_lt_mul (by rw [Nat.mul_comm]; exact ht2)
  have hr : t % z < z := Nat.mod_lt _ z0
  refine ⟨?_, ?_⟩
  · rw [Nat.zero_add, get_flatK _ _ _ _ (by rw [hds]; exact ht2), hdget _ hq]
    have e : (enc (mk ⟨t / z, hq⟩))[t % z]! = xs.getD t undef := by
     show ((xs.drop (t / z * z)).take z)[t % z]! = _
     rw [getElem!_pos _ _ (by rw [List.length_take, List.length_drop, hxs]; have := cell (t / z) (z - 1) hq (by omega); omega), List.getElem_take, List.getElem_drop, List.getD_eq_getElem?_getD, List.getElem?_eq_getElem (by rw [hxs]; exact ht2)]
     simp only [Option.getD_some]
     congr 1
     exact Nat.div_add_mod' t z
    show w.cell? _ = some (id _)
    rw [show id ((enc (mk ⟨t / z, hq⟩))[t % z]!) = xs.getD t undef from e, ← htk, List.getD_eq_getElem?_getD, List.getElem?_take, if_pos (by omega), Array.getElem?_toList, Array.getElem?_eq_getElem htc]
    simp [World.cell?, hh, htc]
  · rw [Nat.zero_add]
    simp [World.frozen?, hh]
 let cf' : El w A db z okb → El w A db z okb → Int := fun x y => cf x.val.2 y.val.2
 have hO : SWO (ltOf cf') := by
  refine ⟨fun x => ?_, fun x y u a b => ?_, fun x y u a b => ?_⟩
  · exact decide_eq_false (hO1 _ x.property.2.2.1)
  · exact decide_eq_true (hO2 _ _ _ x.property.2.2.1 y.property.2.2.1 u.property.2.2.1 (of_decide_eq_true a) (of_decide_eq_true b))
  · exact decide_eq_false (hO3 _ _ _ x.property.2.2.1 y.property.2.2.1 u.property.2.2.1 (of_decide_eq_false a) (of_decide_eq_false b))
 have hcmpL : CmpLays PP cmp #[] enc z cf' g 0 d.size w := fun mm os dk hdk x y => by
  have hc := hcmp x.val.2 y.val.2 x.property.2.2.1 y.property.2.2.1
  obtain ⟨W, hW⟩ : ∃ W, W = sortWorldK enc z w g 0 mm dk os := ⟨_, rfl⟩
  rw [← hW]
  have hsize : w.heap.size ≤ W.heap.size := by rw [hW]; exact size_sortWorldK_c enc z w g 0 mm dk os
  have hblk : ∀ g', g' < w.heap.size → g' ≠ g → W.heap[g']? = w.heap[g']? := fun g' h2 h3 => by
   rw [hW]
   simp only [sortWorldK, putRowK, putRow, mapBlock, grow, Sort.ahead]
   rw [Array.getElem?_append_left (by simpa using h2), Array.getElem?_modify, if_neg (fun e => h3 e.symm)]
  have hmo : Mo w A no W A no := ⟨hsize, fun g' h2 h3 => hblk g' h2 (fun e => h3 (by rw [e]; exact hgA)), fun g' e => .inl e, fun _ _ e => e⟩
  have one_ : ∀ u : El w A db z okb, Rep W A no (.agg u.val.1.toArray) (.ag (db u.val.2)) := fun u => by
   refine .ag _ _ _ (by rw [List.size_toArray, u.property.1, hz _ u.property.2.2.1]) fun j y hj => ?_
   have := u.property.2.2.2 j y hj
   rw [Array.getD_eq_getD_getElem?, List.getElem?_toArray, ← List.getD_eq_getElem?_getD]
   exact this.mo hmo
  have hAlt : ∀ g', A g' → g' < W.heap.size := fun g' e => Nat.lt_of_lt_of_le (K.av_lt e) hsize
  have hcall := hc.2 W A #[.agg x.val.1.toArray, .agg y.val.1.toArray] hAlt ⟨rfl, fun j q hj => by
   match j with
   | 0 => injection hj with hj; subst hj; exact one_ x
   | 1 => injection hj with hj; subst hj; exact one_ y
   | j + 2 => simp at hj, K.gl.mo hmo⟩
  have hcall2 := Dr.calls_dr hcall (fun e w' ⟨v, he, _⟩ => ⟨v, he⟩)
  refine hcall2.mono fun e w' ⟨⟨v, he, hd, hbel⟩, hdr⟩ => ?_
  have hv := Rep.k_inv (show Rep w' A no v (ni (cf x.val.2 y.val.2)) from hd)
  subst he
  rw [hv]
  exact ⟨rfl, grow_of hbel hdr⟩
 have hds' := hds
 have eg : ∀ args w, (callFunc cmp args).run PP w = .ok (.enter cmp args) w := fun args w => (hcmp _ _ (hl _ (List.getElem_mem h0)) (hl _ (List.getElem_mem h0))).1 args w
 have hcon := AnyQ.slices_SortFunc LA z (hT ▸ aE) (hT ▸ zE) enc (fun x => x.property.1) (fun x v hv => x.property.2.1 v hv) cf' hO cmp #[] g 0 cap d w eg hcmpL hH hglt (by rw [hds]; omega)
 have ha0 := hargs.el 0 _ rfl
 have ha1 := hargs.el 1 _ rfl
 have hs2 := hargs.sz
 have hargs' : args = #[.slice (some ⟨g, 0, none⟩) d.size cap, .func (.func cmp) #[] #[]] := by
  rw [hds]
  have g0 : args.getD 0 undef = .slice (some ⟨g, 0, none⟩) l.length cap := by
   generalize args.getD 0 undef = u at ha0
   cases ha0 with
   | ow _ _ ad n' c' hmm =>
    rw [q1] at hmm
    injection hmm with hmm
    rw [← hmm, hlm]
  have g1 : args.getD 1 undef = .func (.func cmp) #[] #[] := by
   generalize args.getD 1 undef = u at ha1
   cases ha1 with
   | cl _ _ cs _ h1 h2 =>
    have : cs = #[] := Array.eq_empty_of_size_eq_zero (by simpa using h1)
    rw [this]
  apply Array.ext
  · simpa using hs2
  · intro i hi hi'
    have hi3 : i < 2 := by simpa using hi'
    match i, hi3 with
    | 0, _ => rw [Array.getD_eq_getD_getElem?, Array.getElem?_eq_getElem hi] at g0; exact g0
    | 1, _ => rw [Array.getD_eq_getD_getElem?, Array.getElem?_eq_getElem hi] at g1; exact g1
 subst hargs'
 refine hcon.mono fun e w' ⟨he, d', n, os, hperm, hsort, hw⟩ => ?_
 subst he
 obtain ⟨p1, _, p3⟩ := hperm
 have hds2 : d'.size = l.length := p1.trans hds
 have hp3 : d'.toList.Perm d.toList := by
  have e1 : d'.extract 0 d.size = d' := by rw [← p1]; exact Array.extract_size
  have e2 : d.extract 0 d.size = d := Array.extract_size
  rw [e1, e2] at p3
  exact p3
 have hdl : d.toList.map (fun x => x.val.2) = l := by
  apply List.ext_getElem
  · simp [hds]
  · intro i h2 h3
    rw [List.getElem_map, Array.getElem_toList]
    show ((Array.ofFn mk)[i]'(by simpa [d] using h2)).val.2 = _
    rw [Array.getElem_ofFn]
 have hpm : (d'.toList.map fun x => x.val.2).Perm l := by
  have := hp3.map (fun x => x.val.2)
  rwa [hdl] at this
 have hsm : (d'.toList.map fun x => x.val.2).Pairwise fun a b => ¬ cf b a < 0 := by
  rw [List.pairwise_iff_getElem]
  intro i j h2 h3 h4
  have hj : j < d'.size := by simpa using h3
  have := hsort i j (Nat.zero_le _) h4 (by rw [hds, ← hds2]; exact hj)
  have := of_decide_eq_false this
  rw [getElem!_pos d' j hj, getElem!_pos d' i (by omega)] at this
  simpa using this
 have hl' : d'.toList.map (fun x => x.val.2) = l' := List.Perm.eq_of_pairwise (le := fun a b => ¬ cf b a < 0) (fun a b ha hb h2 h3 => ht a (hpm.mem_iff.1 ha) b (hp.mem_iff.1 hb) h2 h3) hsm hs (hpm.trans hp.symm)
 have hl'len : l'.length = l.length := hp.length_eq
 have hl'at : ∀ i (hi : i < l'.length), l'[i]'hi = (d'[i]'(by omega)).val.2 := fun i hi => by
  have h5 : (d'.toList.map fun x => x.val.2)[i]? = some (d'[i]'(by omega)).val.2 := by
   rw [List.getElem?_map, Array.getElem?_toList, Array.getElem?_eq_getElem (by omega)]
   rfl
  have h6 : l'[i]? = some (d'[i]'(by omega)).val.2 := (congrArg (fun r : List β => r[i]?) hl').symm.trans h5
  rw [List.getElem?_eq_getElem hi] at h6
  exact Option.some.inj h6
 -- the new row
 obtain ⟨w1, hw1⟩ : ∃ w1, w1 = putRowK enc z (Sort.ahead w n) g 0 d' := ⟨_, rfl⟩
 have hww : w' = grow w1 os := by rw [hw1]; exact hw
 have hoth : Oth g w w1 := by
  rw [hw1]
  refine ⟨rfl, rfl, rfl, by simp [putRowK, putRow, mapBlock, Sort.ahead], fun k hk => ?_⟩
  simp only [putRowK, putRow, mapBlock, Sort.ahead]
  rw [Array.getElem?_modify, if_neg (fun e => hk e.symm)]
 have hheap : w1.heap[g]? = some (.cells (putCells id 0 (flatK enc z d') cur) T (0, 0)) := by
  rw [hw1]
  simp only [putRowK, putRow, mapBlock, Sort.ahead]
  rw [Array.getElem?_modify, if_pos rfl, hh]
  rfl
 have hfs : (flatK enc z d').size = l.length * z := by rw [size_flatK, hds2]
 have hcap : l.length * z ≤ cap * z := Nat.mul_le_mul_right _ hc1
 have htake : (putCells id 0 (flatK enc z d') cur).toList.take (l.length * z) = (flatK enc z d').toList := by
  apply List.ext_getElem?
  intro t
  rw [List.getElem?_take]
  by_cases h2 : t < l.length * z
  · rw [if_pos h2, Array.getElem?_toList, Array.getElem?_toList]
    unfold putCells
    rw [Array.getElem?_mapIdx, Array.getElem?_eq_getElem (by omega : t < cur.size), Array.getElem?_eq_getElem (by omega : t < (flatK enc z d').size)]
    simp only [Option.map_some, Nat.zero_le, true_and, Nat.zero_add, Nat.sub_zero]
    rw [if_pos (by omega), getElem!_pos _ t (by omega)]
    rfl
  · rw [if_neg h2, List.getElem?_eq_none (by simp only [Array.length_toList]; omega)]
 have hlm' : (l'.map db).length = l.length := by rw [List.length_map, hl'len]
 have hz' : ∀ cs ∈ l'.map db, cs.length = z := fun cs hcs => by
  obtain ⟨c, hc, rfl⟩ := List.mem_map.1 hcs
  exact hz c (hl c (hp.mem_iff.1 hc))
 have hfg : ∀ t, t < l.length * z → ∃ (hq : t / z < d'.size), (flatK enc z d').toList.getD t undef = ((d'[t / z]'hq).val.1).getD (t % z) undef := fun t h2 => by
  have hq : t / z < d'.size := by rw [hds2]; exact Nat.div_lt_of_lt_mul (by rw [Nat.mul_comm]; exact h2)
  refine ⟨hq, ?_⟩
  rw [List.getD_eq_getElem?_getD, Array.getElem?_toList, Array.getElem?_eq_getElem (by omega), Option.getD_some, ← getElem!_pos (flatK enc z d') t (by omega), get_flatK _ _ _ _ (by rw [hds2]; exact h2), getElem!_pos d' _ hq]
  have hr : t % z < (d'[t / z]'hq).val.1.length := by rw [(d'[t / z]'hq).property.1]; exact Nat.mod_lt _ z0
  show ((d'[t / z]'hq).val.1)[t % z]! = _
  rw [List.getD_eq_getElem?_getD, List.getElem?_eq_getElem hr]
  exact getElem!_pos (d'[t / z]'hq).val.1 (t % z) hr
 obtain ⟨t1, t2⟩ := K.turn (w' := w1) (x := .rw T z (l'.map db)) (g := g) (b := 0) rfl q1 rfl hoth (fun _ _ e => by cases e) (fun T' z' l2 e => by
  injection e with e1 e2 e3
  subst e1; subst e2; subst e3
  refine ⟨(flatK enc z d').toList, hz', ⟨by rw [hlm']; simpa using hfs, .inr ⟨g, cap, _, by rw [hlm', hlm], hB, hheap, by omega, hc2, by rw [show (putCells id 0 (flatK enc z d') cur).size = cur.size from Array.size_mapIdx, hsz], by rw [hlm']; exact htake⟩⟩, fun u hu => ?_, fun j x hx => ?_⟩
  · obtain ⟨t, ht3⟩ := List.getElem?_of_mem hu
    have htl : t < l.length * z := by have := (List.getElem?_eq_some_iff.1 ht3).1; simpa [hfs] using this
    obtain ⟨hq, e⟩ := hfg t htl
    rw [List.getD_eq_getElem?_getD, ht3, Option.getD_some] at e
    have hr : t % z < (d'[t / z]'hq).val.1.length := by rw [(d'[t / z]'hq).property.1]; exact Nat.mod_lt _ z0
    rw [e, List.getD_eq_getElem?_getD, List.getElem?_eq_getElem hr]
    exact (d'[t / z]'hq).property.2.1 _ (List.getElem_mem hr)
  · have hj := (List.getElem?_eq_some_iff.1 hx).1
    rw [flat_len hz', hlm'] at hj
    obtain ⟨cs, k1, k2⟩ := flat_inv z0 hz' hx
    obtain ⟨hq, e⟩ := hfg j hj
    rw [e]
    have hi : j / z < l'.length := by omega
    rw [List.getElem?_map, List.getElem?_eq_getElem hi] at k1
    injection k1 with k1
    subst k1
    rw [hl'at _ hi] at k2
    exact (d'[j / z]'hq).property.2.2.2 _ _ k2) rfl
 have hbel : Go.RowKit.Below w1.heap.size w1 w' := by
  rw [hww]
  refine ⟨rfl, rfl, rfl, by simp [grow], fun k hk => ?_⟩
  simp only [grow]
  rw [Array.getElem?_append_left hk]
 refine ⟨_, rfl, ⟨_, m, t1.call hbel, fun j hj => rfl, fun j hj => ?_, .tu _ #[] [] rfl fun j x hx => by simp at hx⟩, ?_⟩
 · match j, hj with
   | 0, _ => exact upd_eq
 · have b1 := hoth.below hB
   exact ⟨hbel.os.trans b1.os, hbel.tape.trans b1.tape, hbel.output.trans b1.output, Nat.le_trans b1.size hbel.size, fun k hk => (hbel.block k (Nat.lt_of_lt_of_le (K.bs k hk) b1.size)).trans (b1.block k hk)⟩
end
end Go.Proofs.YthliihpeodohpaaGreatDoor.E
namespace Go.Proofs.YthliihpeodohpaaGreatDoor.E
open Go.RowKit Go.Shelf
set_option linter.unusedVariables false
set_option linter.unusedSimpArgs false
noncomputable def renS : Ren := ⟨fun x => match x with | 6 => 19 | 14 => 45 | 15 => 46 | 20 => 71 | 21 => 72 | 22 => 73 | 23 => 74 | 24 => 75 | 25 => 76 | 26 => 77 | 27 => 78 | 28 => 79 | 29 => 80 | 46 => 106 | 47 => 107 | 48 => 108 | 49 => 109 | 50 => 110 | 57 => 131 | x => x, fun x => match x with | 0 => 0 | 3 => 3 | 4 => 4 | 5 => 5 | 9 => 9 | 22 => 23 | 24 => 45 | 25 => 62 | 39 => 73 | 45 => 106 | 46 => 107 | 50 => 111 | 53 => 114 | 55 => 116 | 66 => 137 | 70 => 141 | 76 => 154 | 77 => 155 | x => x, fun x => x⟩
theorem laS : SlLaysF0.n6 PP renS where
 mixed := mo_
 f6 := ⟨(fnOf PP (renS.f 6)).name, by kernel_rfl, by kernel_rfl⟩
 f14 := ⟨(fnOf PP (renS.f 14)).name, by kernel_rfl, by kernel_rfl⟩
 f15 := by kernel_rfl
 f20 := ⟨(fnOf PP (renS.f 20)).name, by kernel_rfl, by kernel_rfl⟩
 f21 := ⟨(fnOf PP (renS.f 21)).name, by kernel_rfl, by kernel_rfl⟩
 f22 := ⟨(fnOf PP (renS.f 22)).name, by kernel_rfl, by kernel_rfl⟩
 f23 := ⟨(fnOf PP (renS.f 23)).name, by kernel_rfl, by kernel_rfl⟩
 f24 := ⟨(fnOf PP (renS.f 24)).name, by kernel_rfl, by kernel_rfl⟩
 f25 := ⟨(fnOf PP (renS.f 25)).name, by kernel_rfl, by kernel_rfl⟩
 f26 := ⟨(fnOf PP (renS.f 26)).name, by kernel_rfl, by kernel_rfl⟩
 f27 := ⟨(fnOf PP (renS.f 27)).name, by kernel_rfl, by kernel_rfl⟩
 f28 := by kernel_rfl
 f29 := by kernel_rfl
 f46 := ⟨(fnOf PP (renS.f 46)).name, by kernel_rfl, by kernel_rfl⟩
 f47 := by kernel_rfl
 f48 := by kernel_rfl
 f49 := ⟨(fnOf PP (renS.f 49)).name, by kernel_rfl, by kernel_rfl⟩
 f50 := ⟨(fnOf PP (renS.f 50)).name, by kernel_rfl, by kernel_rfl⟩
 f57 := ⟨(fnOf PP (renS.f 57)).name, by kernel_rfl, by kernel_rfl⟩
 t0 := by kernel_rfl
 a0 := fun _ => by kernel_rfl
 z0 := fun _ => by kernel_rfl
 v0 := fun _ => by kernel_rfl
 t3 := by kernel_rfl
 a3 := fun _ => by kernel_rfl
 z3 := fun _ => by kernel_rfl
 v3 := fun _ => by kernel_rfl
 t4 := by kernel_rfl
 a4 := fun _ => by kernel_rfl
 z4 := fun _ => by kernel_rfl
 v4 := fun _ => by kernel_rfl
 t5 := by kernel_rfl
 a5 := fun _ => by kernel_rfl
 z5 := fun _ => by kernel_rfl
 v5 := fun _ => by kernel_rfl
 t9 := by kernel_rfl
 a9 := fun _ => by kernel_rfl
 z9 := fun _ => by kernel_rfl
 v9 := fun _ => by kernel_rfl
 t22 := by kernel_rfl
 a22 := fun _ => by kernel_rfl
 z22 := fun _ => by kernel_rfl
 v22 := fun _ => by kernel_rfl
 t25 := by kernel_rfl
 a25 := fun _ => by kernel_rfl
 z25 := fun _ => by kernel_rfl
 v25 := fun _ => by kernel_rfl
 t39 := by kernel_rfl
 a39 := fun _ => by kernel_rfl
 z39 := fun _ => by kernel_rfl
 v39 := fun _ => by kernel_rfl
 t45 := by kernel_rfl
 a45 := fun _ => by kernel_rfl
 z45 := fun _ => by kernel_rfl
 v45 := fun _ => by kernel_rfl
 t46 := by kernel_rfl
 a46 := fun _ => by kernel_rfl
 z46 := fun _ => by kernel_rfl
 v46 := fun _ => by kernel_rfl
 t50 := by kernel_rfl
 a50 := fun _ => by kernel_rfl
 z50 := fun _ => by kernel_rfl
 v50 := fun _ => by kernel_rfl
 t53 := by kernel_rfl
 a53 := fun _ => by kernel_rfl
 z53 := fun _ => by kernel_rfl
 v53 := fun _ => by kernel_rfl
 t55 := by kernel_rfl
 a55 := fun _ => by kernel_rfl
 z55 := fun _ => by kernel_rfl
 v55 := fun _ => by kernel_rfl
 t66 := by kernel_rfl
 a66 := fun _ => by kernel_rfl
 z66 := fun _ => by kernel_rfl
 v66 := fun _ => by kernel_rfl
 t70 := by kernel_rfl
 a70 := fun _ => by kernel_rfl
 z70 := fun _ => by kernel_rfl
 v70 := fun _ => by kernel_rfl
 t76 := by kernel_rfl
 a76 := fun _ => by kernel_rfl
 z76 := fun _ => by kernel_rfl
 v76 := fun _ => by kernel_rfl
 t77 := by kernel_rfl
 a77 := fun _ => by kernel_rfl
 z77 := fun _ => by kernel_rfl
 v77 := fun _ => by kernel_rfl
end Go.Proofs.YthliihpeodohpaaGreatDoor.E
namespace Go.Proofs.YthliihpeodohpaaGreatDoor
set_option maxHeartbeats 1000000
open Go.RowKit
/-- How two numbers compare. -/
def cmpZ (x y : Int) : Int := if x < y then -1 else if y < x then 1 else 0
theorem cmpZ_lt {x y : Int} (h : x < y) : cmpZ x y = -1 := by unfold cmpZ; rw [if_pos h]
theorem cmpZ_gt {x y : Int} (h : y < x) : cmpZ x y = 1 := by unfold cmpZ; rw [if_neg (by omega), if_pos h]
theorem cmpZ_eq {x y : Int} (h : x = y) : cmpZ x y = 0 := by unfold cmpZ; rw [if_neg (by omega), if_neg (by omega)]
theorem cmp_len {a b : List Int} (ha : I.Can a) (hb : I.Can b) (h : a.length ≠ b.length) : cmpZ (a.length : Int) (b.length : Int) = cmpZ (I.val a) (I.val b) := by
 by_cases h1 : a.length < b.length
 ·have h2 : I.val a < I.val b := by
   by_cases h3 : I.val a < I.val b
   ·exact h3
   ·have := I.Can.len hb ha.1 (by omega); omega
  rw [cmpZ_lt (by omega), cmpZ_lt h2]
 ·have h2 : I.val b < I.val a := by
   by_cases h3 : I.val b < I.val a
   ·exact h3
   ·have := I.Can.len ha hb.1 (by omega); omega
  rw [cmpZ_gt (by omega), cmpZ_gt h2]
theorem cmp_at {a b : List Int} (da : I.Dig a) (db : I.Dig b) {k : Nat} {x y : Int} (hx : a[k]? = some x) (hy : b[k]? = some y) (h : a.drop (k + 1) = b.drop (k + 1)) (hne : x ≠ y) : cmpZ x y = cmpZ (I.val a) (I.val b) := by
 have ka := (List.getElem?_eq_some_iff.1 hx).1
 have kb := (List.getElem?_eq_some_iff.1 hy).1
 have e1 := I.val_split a (k := k) (by omega)
 have e2 := I.val_split b (k := k) (by omega)
 rw [I.val_drop_succ hx, h] at e1
 rw [I.val_drop_succ hy] at e2
 have b1 := I.val_lt (da.take k)
 have b2 := I.val_lt (db.take k)
 have c1 := I.val_nonneg (da.take k)
 have c2 := I.val_nonneg (db.take k)
 rw [List.length_take, Nat.min_eq_left (by omega)] at b1 b2
 have hp := I.pw_pos k
 generalize I.pw k = p at *
 generalize I.val (b.drop (k + 1)) = t at *
 by_cases h1 : x < y
 ·rw [cmpZ_lt h1, cmpZ_lt]
  have h2 : p * (x + 1) ≤ p * y := Int.mul_le_mul_of_nonneg_left (by omega) (by omega)
  grind
 ·rw [cmpZ_gt (by omega), cmpZ_gt]
  have h2 : p * (y + 1) ≤ p * x := Int.mul_le_mul_of_nonneg_left (by omega) (by omega)
  grind
end Go.Proofs.YthliihpeodohpaaGreatDoor
namespace Go.Proofs.YthliihpeodohpaaGreatDoor
set_option maxHeartbeats 1000000
open Go.RowKit
theorem sg_neg {ng : Bool} {v : Int} (hv : 0 < v) : decide (sg ng v < 0) = ng ∧ ((sg ng v).natAbs : Int) = v := by
 unfold sg
 cases ng <;> simp <;> omega
end Go.Proofs.YthliihpeodohpaaGreatDoor
namespace Go.Proofs.YthliihpeodohpaaGreatDoor
set_option maxHeartbeats 1000000
open Go.RowKit
attribute [local go_sem] run_store_one
set_option linter.unusedVariables false
/-- The sign of a number. -/
def sgnZ (x : Int) : Int := cmpZ x 0
end Go.Proofs.YthliihpeodohpaaGreatDoor
namespace Go.Proofs.YthliihpeodohpaaGreatDoor
set_option maxHeartbeats 1000000
open Go.RowKit
set_option linter.unusedVariables false
attribute [local go_sem] run_store_one
end Go.Proofs.YthliihpeodohpaaGreatDoor
namespace Go.Proofs.YthliihpeodohpaaGreatDoor
set_option maxHeartbeats 4000000
open Go.RowKit
attribute [local go_sem] run_store_one
set_option linter.unusedVariables false
end Go.Proofs.YthliihpeodohpaaGreatDoor

namespace Go.Proofs.YthliihpeodohpaaGreatDoor
set_option maxHeartbeats 2000000
open Go.RowKit
attribute [local go_sem] run_store_one
set_option linter.unusedVariables false
end Go.Proofs.YthliihpeodohpaaGreatDoor

namespace Go.Proofs.YthliihpeodohpaaGreatDoor
set_option maxHeartbeats 1000000
open Go.RowKit
/-- The first digit less a borrow. -/
def decH (c : Int) : List Int → List Int
 | [] => []
 | d :: t => (d - c) :: t
theorem decH_zero (l : List Int) : decH 0 l = l := by cases l <;> simp [decH]
end Go.Proofs.YthliihpeodohpaaGreatDoor
namespace Go.Proofs.YthliihpeodohpaaGreatDoor
set_option maxHeartbeats 2000000
open Go.RowKit
attribute [local go_sem] run_store_one
set_option linter.unusedVariables false
end Go.Proofs.YthliihpeodohpaaGreatDoor
namespace Go.Proofs.YthliihpeodohpaaGreatDoor
set_option maxHeartbeats 4000000
open Go.RowKit
attribute [local go_sem] run_store_one
set_option linter.unusedVariables false
theorem sg_nat {x : Int} : sg (decide (x < 0)) (x.natAbs : Int) = x := by
 unfold sg
 by_cases h : x < 0 <;> simp [h] <;> omega
theorem sg_not {x : Int} : sg (!decide (x < 0)) (x.natAbs : Int) = -x := by
 unfold sg
 by_cases h : x < 0 <;> simp [h] <;> omega
end Go.Proofs.YthliihpeodohpaaGreatDoor
