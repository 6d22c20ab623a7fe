/-
 A REGION AS A FLOW OF VALUES, where two operations turn memory, one behind the other.
-/
import Derived.Test.YtgdibcgphjmofaaFlow
namespace Go.Proofs.Ytgdibcgphjmofaa
open Go.RowKit
/-- What such a relation is. -/
structure TRel (T : World → World → Prop) : Prop where
 refl : ∀ w, T w w
 trans : ∀ {a b c : World}, T a b → T b c → T a c
 size : ∀ {a b : World}, T a b → a.heap.size ≤ b.heap.size
 of : ∀ {a b : World}, Below a.heap.size a b → T a b
/-- It stays true where memory is only made. -/
def MonoT (T : World → World → Prop) (s : Sp) : Prop := ∀ w w' v, s w v → T w w' → s w' v
def MonoLT (T : World → World → Prop) : List Sp → Prop
 | [] => True
 | s :: r => MonoT T s ∧ MonoLT T r
theorem MonoLT.nth {T : World → World → Prop} : ∀ {l : List Sp}, MonoLT T l → ∀ k, MonoT T (nthS l k)
 | [], _, _ => fun _ _ _ _ _ => trivial
 | _ :: _, h, 0 => h.1
 | _ :: _, h, k + 1 => MonoLT.nth h.2 k
/-- What an operation of such a region does: a value, or a call. -/
def DoesT (T : World → World → Prop) (P : Program) (o : Oper) (s : Sp) (al : Bool) (a : Act) (wx : World) : Prop :=
 (∃ v w', (execOp a.eval o).run P wx = .ok (.value v) w' ∧ T wx w' ∧ s w' v ∧ (al = true → v = .pointer (some ⟨wx.heap.size, 0, none⟩) ∧ wx.heap.size < w'.heap.size)) ∨
 (al = false ∧ ∃ f args, (execOp a.eval o).run P wx = .ok (.enter f args) wx ∧ Calls P f args wx fun e w' => ∃ v, e = .returned v ∧ T wx w' ∧ s w' v)
/-- The same for an operation with a guard: it may be left out. -/
def DoesGT (T : World → World → Prop) (P : Program) (ops : Array Oper) (o : Oper) (s : Sp) (al : Bool) (a : Act) (wx : World) : Prop :=
 (Region.wanted o (yielded ops a.tmps) = true ∧ DoesT T P o s al a wx) ∨ (Region.wanted o (yielded ops a.tmps) = false ∧ al = false ∧ s wx undef)
/-- The words stay true under T, but for the one of operation ks. -/
def MonoLS (T : World → World → Prop) : Nat → List Sp → Prop
 | _, [] => True
 | 0, _ :: r => MonoLT T r
 | k + 1, s :: r => MonoT T s ∧ MonoLS T k r
theorem MonoLS.nth {T : World → World → Prop} : ∀ {l : List Sp} {ks : Nat}, MonoLS T ks l → ∀ {k}, k ≠ ks → MonoT T (nthS l k)
 | [], _, _, _, _ => fun _ _ _ _ _ => trivial
 | _ :: _, 0, _, 0, hk => absurd rfl hk
 | _ :: _, 0, h, k + 1, _ => MonoLT.nth h k
 | _ :: _, _ + 1, h, 0, _ => h.1
 | _ :: _, ks + 1, h, k + 1, hk => MonoLS.nth (ks := ks) h.2 (k := k) (fun e => hk (by rw [e]))
def StepGK (T : World → World → Prop) (ks : Nat) (P : Program) (ops : Array Oper) (o : Oper) (k : Nat) (s : Sp) (al : Bool) (a : Act) (wx : World) : Prop :=
 (k = ks ∧ DoesGT T P ops o s al a wx) ∨ (k ≠ ks ∧ DoesG P ops o s al a wx)
/-- **A region as a flow of values**, guards too. -/
theorem wp_flowGT {T : World → World → Prop} (hT : TRel T) {P : Program} {id : Nat} {ops : Array Oper} {Q : Exit → Act → World → Prop} {F : Act} {w W : World} (dr : Bool) (hW : (if dr = true then w.drew else w) = W) (n : Nat) (specs : List Sp) (al : List Bool) (hm : P.follows .mixedOrders = true)
  (hback : backB ops = true) (hn : n ≤ ops.size) (hfull : (!dr || fullB ops n) = true) (hhead : headG ops n = true) (hsize : ∀ d ∈ dstOf ops n, d < F.tmps.size) (ks : Nat) (hmono : MonoL specs) (hmonoT : MonoLS T ks specs)
  (step : ∀ (k : Nat) (o : Oper), k < n → ops[k]? = some o → ∀ a wx, T W wx → (k = ks → Below W.heap.size W wx) → (∀ j d, j < n → j ∈ predsOf ops k → (dstOf ops n)[j]? = some d → nthS specs j wx (a.eval (.tmp d))) → (∀ s, s ∉ dstOf ops n → a.eval (.tmp s) = F.eval (.tmp s)) →
   StepGK T ks P ops o k (nthS specs k) (al.getD k false) a wx)
  (fin : ∀ (val : Nat → Value) wx, T W wx → (∀ k, k < n → nthS specs k wx (val k)) → (∀ j k, j < n → k < n → j ≠ k → al.getD j false = true → al.getD k false = true → val j ≠ val k) →
   wpList P ops Q (ops.toList.drop n) (puts F (vals (fun _ => true) val (dstOf ops n) 0)) wx) :
  (Code.region id ops dr).wp P Q F w := by
 unfold headG at hhead
 rw [Bool.and_eq_true] at hhead
 obtain ⟨hh1, hh2⟩ := hhead
 have hnod := of_decide_eq_true hh2
 rw [List.all_eq_true] at hh1
 have hop : ∀ k, k < n → ∃ o d, ops[k]? = some o ∧ o.dst = some d ∧ (dstOf ops n)[k]? = some d := by
  intro k hk
  have h1 : ops[k]? = some ops[k] := Array.getElem?_eq_getElem (by omega)
  have h2 := hh1 ops[k] (by
   rw [List.mem_iff_getElem?]
   exact ⟨k, by rw [List.getElem?_take, if_pos hk]; simp⟩)
  rw [Option.isSome_iff_exists] at h2
  obtain ⟨d, hd⟩ := h2
  refine ⟨_, d, h1, hd, ?_⟩
  unfold dstOf
  rw [List.getElem?_map, List.getElem?_take, if_pos hk, Array.getElem?_toList, h1]
  simp [hd]
 have hlen : (dstOf ops n).length = n := by
  unfold dstOf
  simp
  omega
 have hnv : ∀ L val, ((vals L val (dstOf ops n) 0).map (·.2.1)).Nodup := fun L val => by rw [vals_dst]; exact hnod
 refine wp_any_head dr n (fun L a wx => ∃ val : Nat → Value, a = puts F (vals (fun k => L.getD k false) val (dstOf ops n) 0) ∧ (T W wx ∧ (L.getD ks false = false → Below W.heap.size W wx)) ∧ (∀ k, k < n → L.getD k false = true → nthS specs k wx (val k)) ∧
   (∀ k, k < n → L.getD k false = true → al.getD k false = true → ∃ g, val k = .pointer (some ⟨g, 0, none⟩) ∧ g < wx.heap.size) ∧
   (∀ j k, j < n → k < n → j ≠ k → L.getD j false = true → L.getD k false = true → al.getD j false = true → al.getD k false = true → val j ≠ val k)) hm (back_of hback) hn hfull ?_ ?_ ?_
 ·have hfalse : ∀ k, (Array.replicate ops.size false).getD k false = false := fun k => by
   rw [Array.getD_eq_getD_getElem?, Array.getElem?_replicate]
   split <;> rfl
  refine ⟨fun _ => undef, ?_, by rw [← hW]; exact ⟨hT.refl _, fun _ => Below.refl _ _⟩, fun k _ h => absurd ((hfalse k).symm.trans h) (by simp), fun k _ h => absurd ((hfalse k).symm.trans h) (by simp), fun j k _ _ _ h => absurd ((hfalse j).symm.trans h) (by simp)⟩
  rw [vals_congr (L' := fun _ => false) _ _ _ (fun i _ => hfalse _)]
  have : ∀ (l : List Nat) (k : Nat) (t : Array Value), (vals (fun _ => false) (fun _ => undef) l k).foldl (fun t x => if x.1 then t.setIfInBounds x.2.1 x.2.2 else t) t = t := by
   intro l
   induction l with
   | nil => intro _ _; rfl
   | cons d l ih => intro k t; simp [vals, ih]
  unfold puts
  rw [this]
 ·intro L a wx hs hV i hin hf hp
  obtain ⟨val, rfl, hB, hspec, hal, hdis⟩ := hV
  obtain ⟨o, d, ho, hd, hdst⟩ := hop i hin
  have hst := step i o hin ho (puts F (vals (fun k => L.getD k false) val (dstOf ops n) 0)) wx hB.1 (fun e => hB.2 (by rw [← e]; exact hf)) (fun j dj hj hjp hdj => by
   have h1 := vals_get (fun k => L.getD k false) val (dstOf ops n) 0 j dj hdj
   rw [Nat.zero_add] at h1
   have h2 := hp j hjp
   rw [h2] at h1
   rw [puts_eval (hnv _ _) (List.mem_of_getElem? h1) (hsize dj (List.mem_of_getElem? hdj))]
   exact hspec j hj h2) (fun s hs2 => puts_other (fun x hx e => hs2 (by
    have := (List.mem_map (f := fun x : Bool × Nat × Value => x.2.1)).2 ⟨x, hx, e⟩
    rwa [vals_dst] at this)))
  have hput : ∀ v, (puts F (vals (fun k => L.getD k false) val (dstOf ops n) 0)).put o.dst v = puts F (vals (fun k => (L.setIfInBounds i true).getD k false) (fun j => if j = i then v else val j) (dstOf ops n) 0) := fun v => by
   rw [hd]
   have h1 := vals_get (fun k => L.getD k false) val (dstOf ops n) 0 i d hdst
   rw [Nat.zero_add, hf] at h1
   rw [puts_put (hnv _ _) h1, vals_set _ _ v _ _ _ _ hdst]
   congr 1
   simp only [Nat.zero_add]
   refine vals_congr _ _ _ (fun k hk => ?_)
   rw [Nat.zero_add]
   by_cases hki : k = i
   ·subst hki; rw [if_pos rfl, getD_eq (by omega)]
   ·rw [if_neg hki, getD_ne (fun e => hki e.symm)]
  have hkeep : ∀ v w', T wx w' → (i ≠ ks → Below wx.heap.size wx w') → (∀ k v, k ≠ i → nthS specs k wx v → nthS specs k w' v) → nthS specs i w' v → (al.getD i false = true → v = .pointer (some ⟨wx.heap.size, 0, none⟩) ∧ wx.heap.size < w'.heap.size) →
    ∃ val' : Nat → Value, (puts F (vals (fun k => L.getD k false) val (dstOf ops n) 0)).put o.dst v = puts F (vals (fun k => (L.setIfInBounds i true).getD k false) val' (dstOf ops n) 0) ∧ (T W w' ∧ ((L.setIfInBounds i true).getD ks false = false → Below W.heap.size W w')) ∧ (∀ k, k < n → (L.setIfInBounds i true).getD k false = true → nthS specs k w' (val' k)) ∧
    (∀ k, k < n → (L.setIfInBounds i true).getD k false = true → al.getD k false = true → ∃ g, val' k = .pointer (some ⟨g, 0, none⟩) ∧ g < w'.heap.size) ∧
    (∀ j k, j < n → k < n → j ≠ k → (L.setIfInBounds i true).getD j false = true → (L.setIfInBounds i true).getD k false = true → al.getD j false = true → al.getD k false = true → val' j ≠ val' k) := by
   intro v w' hb hbb hmk hsp hsa
   have hold : ∀ k, k ≠ i → (L.setIfInBounds i true).getD k false = true → L.getD k false = true := fun k hk h => by
    rwa [getD_ne (fun e => hk e.symm)] at h
   refine ⟨_, hput v, ⟨hT.trans hB.1 hb, fun h => ?_⟩, fun k hk hL => ?_, fun k hk hL ha => ?_, fun j k hj hk hjk hL1 hL2 ha1 ha2 => ?_⟩
   ·by_cases hki : i = ks
    ·rw [← hki, getD_eq (by omega)] at h; cases h
    ·rw [getD_ne hki] at h
     exact Blw (hB.2 h) (hbb hki)
   ·by_cases hki : k = i
    ·subst hki; simp only [if_pos]; exact hsp
    ·simp only [if_neg hki]
     exact hmk k _ hki (hspec k hk (hold k hki hL))
   ·by_cases hki : k = i
    ·subst hki; simp only [if_pos]; exact ⟨_, hsa ha⟩
    ·simp only [if_neg hki]
     obtain ⟨g, h1, h2⟩ := hal k hk (hold k hki hL) ha
     exact ⟨g, h1, Nat.lt_of_lt_of_le h2 (hT.size hb)⟩
   ·by_cases hji : j = i
    ·subst hji
     have hkj : k ≠ j := fun e => hjk e.symm
     simp only [if_pos, if_neg hkj]
     obtain ⟨g, h1, h2⟩ := hal k hk (hold k hkj hL2) ha2
     rw [h1, (hsa ha1).1]
     intro e
     injection e with e
     injection e with e
     injection e with e
     omega
    ·by_cases hki : k = i
     ·subst hki
      simp only [if_pos, if_neg hji]
      obtain ⟨g, h1, h2⟩ := hal j hj (hold j hji hL1) ha1
      rw [h1, (hsa ha2).1]
      intro e
      injection e with e
      injection e with e
      injection e with e
      omega
     ·simp only [if_neg hji, if_neg hki]
      exact hdis j k hj hk hjk (hold j hji hL1) (hold k hki hL2) ha1 ha2
  rcases hst with ⟨hks, hst⟩ | ⟨hks, hst⟩
  ·have hmk : ∀ w', T wx w' → ∀ k v, k ≠ i → nthS specs k wx v → nthS specs k w' v := fun w' hb k v hki h => hmonoT.nth (by omega) _ _ _ h hb
   rcases hst with ⟨hg, hst⟩ | ⟨hg, hna, hsp⟩
   ·rcases hst with ⟨v, w', hr, hb, hsp, hsa⟩ | ⟨hna, f, args, hr, hc⟩
    ·exact wpOp_valG ho hg hr (hkeep v w' hb (fun h => absurd hks h) (hmk w' hb) hsp hsa)
    ·refine wpOp_callG ho hg hr (hc.mono fun e w' h => ?_)
     obtain ⟨v, he, hb, hsp⟩ := h
     exact ⟨v, he, hkeep v w' hb (fun h => absurd hks h) (hmk w' hb) hsp (fun h => by rw [hna] at h; cases h)⟩
   ·exact wpOp_skipG ho hg (hkeep undef wx (hT.refl _) (fun h => absurd hks h) (hmk wx (hT.refl _)) hsp (fun h => by rw [hna] at h; cases h))
  ·have hmk : ∀ w', Below wx.heap.size wx w' → ∀ k v, k ≠ i → nthS specs k wx v → nthS specs k w' v := fun w' hb k v hki h => hmono.nth k _ _ _ h hb
   rcases hst with ⟨hg, hst⟩ | ⟨hg, hna, hsp⟩
   ·rcases hst with ⟨v, w', hr, hb, hsp, hsa⟩ | ⟨hna, f, args, hr, hc⟩
    ·exact wpOp_valG ho hg hr (hkeep v w' (hT.of hb) (fun _ => hb) (hmk w' hb) hsp hsa)
    ·refine wpOp_callG ho hg hr (hc.mono fun e w' h => ?_)
     obtain ⟨v, he, hb, hsp⟩ := h
     exact ⟨v, he, hkeep v w' (hT.of hb) (fun _ => hb) (hmk w' hb) hsp (fun h => by rw [hna] at h; cases h)⟩
   ·exact wpOp_skipG ho hg (hkeep undef wx (hT.refl _) (fun _ => Below.refl _ _) (hmk wx (Below.refl _ _)) hsp (fun h => by rw [hna] at h; cases h))
 ·intro L a wx hs hall hV
  obtain ⟨val, rfl, hB, hspec, hal, hdis⟩ := hV
  rw [vals_congr (L' := fun _ => true) _ _ _ (fun i hi => by rw [Nat.zero_add]; exact hall i (by omega))]
  exact fin val wx hB.1 (fun k hk => hspec k hk (hall k hk)) (fun j k hj hk hjk h1 h2 => hdis j k hj hk hjk (hall j hj) (hall k hk) h1 h2)
/-- A region as a flow of values, with guards, by a table: for each of the first n operations, its slot and the operations whose values it wants. -/
theorem wp_flow_tabGT {T : World → World → Prop} (hT : TRel T) {P : Program} {id : Nat} {ops : Array Oper} {Q : Exit → Act → World → Prop} {F : Act} {w W : World} (dr : Bool) (hW : (if dr = true then w.drew else w) = W) (n : Nat) (tab : List (Nat × List Nat)) (specs : List Sp) (al : List Bool) (hm : P.follows .mixedOrders = true)
  (hback : backB ops = true) (hfull : (!dr || fullB ops n) = true) (hhead : headG ops n = true) (htab : tabB ops n tab = true) (hsize : ∀ d ∈ tab.map (·.1), d < F.tmps.size) (ks : Nat) (hmono : MonoL specs) (hmonoT : MonoLS T ks specs)
  (step : ∀ (k : Nat), k < n → ∀ a wx, T W wx → (k = ks → Below W.heap.size W wx) → Have specs (tab.map (·.1)) wx a (tab.getD k (0, [])).2 → (∀ s, (tab.map (·.1)).contains s = false → a.eval (.tmp s) = F.eval (.tmp s)) →
   ∃ o, ops[k]? = some o ∧ StepGK T ks P ops o k (nthS specs k) (al.getD k false) a wx)
  (fin : ∀ (val : Nat → Value) wx, T W wx → (∀ k, k < n → nthS specs k wx (val k)) → (∀ j k, j < n → k < n → j ≠ k → al.getD j false = true → al.getD k false = true → val j ≠ val k) →
   wpList P ops Q (ops.toList.drop n) (puts F (vals (fun _ => true) val (tab.map (·.1)) 0)) wx) :
  (Code.region id ops dr).wp P Q F w := by
 unfold tabB at htab
 simp only [Bool.and_eq_true, decide_eq_true_eq, List.all_eq_true] at htab
 obtain ⟨⟨⟨h1, h2⟩, h3⟩, h4⟩ := htab
 refine wp_flowGT hT dr hW n specs al hm hback h1 hfull hhead (by rw [h2]; exact hsize) ks hmono hmonoT ?_ (by rw [h2]; exact fin)
 intro k o hk ho a wx hB hBb hp hs
 rw [h2] at hp hs
 have hx : tab[k]? = some (tab.getD k (0, [])) := by
  rw [List.getD_eq_getElem?_getD, List.getElem?_eq_getElem (by omega)]
  rfl
 obtain ⟨o', ho', hd⟩ := step k hk a wx hB hBb (have_of _ (fun j hj => by
  have h5 := h4 (tab.getD k (0, []), k) (by rw [List.mem_zipIdx_iff_getElem?]; exact hx) j hj
  refine hp j _ h5.1 (by simpa using h5.2) ?_
  rw [List.getD_eq_getElem?_getD, List.getElem?_eq_getElem (by simp; omega)]
  rfl)) (fun s hs2 => hs s (by simpa using hs2))
 rw [ho] at ho'
 injection ho' with ho'
 rw [ho']
 exact hd
theorem Does.up {T : World → World → Prop} (hT : TRel T) {P : Program} {o : Oper} {s : Sp} {al : Bool} {a : Act} {wx : World} (h : Does P o s al a wx) : DoesT T P o s al a wx := by
 rcases h with ⟨v, w', h1, h2, h3, h4⟩ | ⟨h0, f, args, h1, h2⟩
 ·exact .inl ⟨v, w', h1, hT.of h2, h3, h4⟩
 ·exact .inr ⟨h0, f, args, h1, h2.mono fun _ _ ⟨v, g1, g2, g3⟩ => ⟨v, g1, hT.of g2, g3⟩⟩
end Go.Proofs.Ytgdibcgphjmofaa
namespace Go.Proofs.Ytgdibcgphjmofaa
open Go.RowKit
/-- An operation of 'late' stands behind operation ks. -/
def lateB (ops : Array Oper) (ks : Nat) (late : List Nat) : Bool := late.all fun k => (predsOf ops k).any fun j => j == ks || late.contains j
/-- **A region as a flow of values**, guards too. -/
theorem wp_flowGU {T : World → World → Prop} (hT : TRel T) {P : Program} {id : Nat} {ops : Array Oper} {Q : Exit → Act → World → Prop} {F : Act} {w W : World} (dr : Bool) (hW : (if dr = true then w.drew else w) = W) (n : Nat) (specs : List Sp) (al : List Bool) (hm : P.follows .mixedOrders = true)
  (hback : backB ops = true) (hn : n ≤ ops.size) (hfull : (!dr || fullB ops n) = true) (hhead : headG ops n = true) (hsize : ∀ d ∈ dstOf ops n, d < F.tmps.size) (ks : Nat) (dead late : List Nat) (hlate : lateB ops ks late = true) (hmono : MonoL specs) (hmonoT : ∀ k, k ≠ ks → k ∉ dead → k ∉ late → MonoT T (nthS specs k))
  (step : ∀ (k : Nat) (o : Oper), k < n → ops[k]? = some o → ∀ a wx, T W wx → (k = ks → Below W.heap.size W wx) → (∀ j d, j < n → j ∈ predsOf ops k → (j ∈ dead → k = ks ∨ k ∈ predsOf ops ks) → (dstOf ops n)[j]? = some d → nthS specs j wx (a.eval (.tmp d))) → (∀ s, s ∉ dstOf ops n → a.eval (.tmp s) = F.eval (.tmp s)) →
   StepGK T ks P ops o k (nthS specs k) (al.getD k false) a wx)
  (fin : ∀ (val : Nat → Value) wx, T W wx → (∀ k, k < n → k ∉ dead → nthS specs k wx (val k)) → (∀ j k, j < n → k < n → j ≠ k → al.getD j false = true → al.getD k false = true → val j ≠ val k) →
   wpList P ops Q (ops.toList.drop n) (puts F (vals (fun _ => true) val (dstOf ops n) 0)) wx) :
  (Code.region id ops dr).wp P Q F w := by
 unfold headG at hhead
 rw [Bool.and_eq_true] at hhead
 obtain ⟨hh1, hh2⟩ := hhead
 have hnod := of_decide_eq_true hh2
 rw [List.all_eq_true] at hh1
 have hop : ∀ k, k < n → ∃ o d, ops[k]? = some o ∧ o.dst = some d ∧ (dstOf ops n)[k]? = some d := by
  intro k hk
  have h1 : ops[k]? = some ops[k] := Array.getElem?_eq_getElem (by omega)
  have h2 := hh1 ops[k] (by
   rw [List.mem_iff_getElem?]
   exact ⟨k, by rw [List.getElem?_take, if_pos hk]; simp⟩)
  rw [Option.isSome_iff_exists] at h2
  obtain ⟨d, hd⟩ := h2
  refine ⟨_, d, h1, hd, ?_⟩
  unfold dstOf
  rw [List.getElem?_map, List.getElem?_take, if_pos hk, Array.getElem?_toList, h1]
  simp [hd]
 have hlen : (dstOf ops n).length = n := by
  unfold dstOf
  simp
  omega
 have hnv : ∀ L val, ((vals L val (dstOf ops n) 0).map (·.2.1)).Nodup := fun L val => by rw [vals_dst]; exact hnod
 refine wp_any_head dr n (fun L a wx => ∃ val : Nat → Value, a = puts F (vals (fun k => L.getD k false) val (dstOf ops n) 0) ∧ (T W wx ∧ (L.getD ks false = false → Below W.heap.size W wx)) ∧ (∀ k, k < n → L.getD k false = true → (k ∈ dead → L.getD ks false = false) → nthS specs k wx (val k)) ∧ (L.getD ks false = true → ∀ j ∈ predsOf ops ks, L.getD j false = true) ∧ (∀ k ∈ late, L.getD k false = true → L.getD ks false = true) ∧
   (∀ k, k < n → L.getD k false = true → al.getD k false = true → ∃ g, val k = .pointer (some ⟨g, 0, none⟩) ∧ g < wx.heap.size) ∧
   (∀ j k, j < n → k < n → j ≠ k → L.getD j false = true → L.getD k false = true → al.getD j false = true → al.getD k false = true → val j ≠ val k)) hm (back_of hback) hn hfull ?_ ?_ ?_
 ·have hfalse : ∀ k, (Array.replicate ops.size false).getD k false = false := fun k => by
   rw [Array.getD_eq_getD_getElem?, Array.getElem?_replicate]
   split <;> rfl
  refine ⟨fun _ => undef, ?_, by rw [← hW]; exact ⟨hT.refl _, fun _ => Below.refl _ _⟩, fun k _ h => absurd ((hfalse k).symm.trans h) (by simp), fun h => absurd ((hfalse ks).symm.trans h) (by simp), fun k _ h => absurd ((hfalse k).symm.trans h) (by simp), fun k _ h => absurd ((hfalse k).symm.trans h) (by simp), fun j k _ _ _ h => absurd ((hfalse j).symm.trans h) (by simp)⟩
  rw [vals_congr (L' := fun _ => false) _ _ _ (fun i _ => hfalse _)]
  have : ∀ (l : List Nat) (k : Nat) (t : Array Value), (vals (fun _ => false) (fun _ => undef) l k).foldl (fun t x => if x.1 then t.setIfInBounds x.2.1 x.2.2 else t) t = t := by
   intro l
   induction l with
   | nil => intro _ _; rfl
   | cons d l ih => intro k t; simp [vals, ih]
  unfold puts
  rw [this]
 ·intro L a wx hs hV i hin hf hp
  obtain ⟨val, rfl, hB, hspec, hpre, hlt, hal, hdis⟩ := hV
  obtain ⟨o, d, ho, hd, hdst⟩ := hop i hin
  have hst := step i o hin ho (puts F (vals (fun k => L.getD k false) val (dstOf ops n) 0)) wx hB.1 (fun e => hB.2 (by rw [← e]; exact hf)) (fun j dj hj hjp hjd hdj => by
   have h1 := vals_get (fun k => L.getD k false) val (dstOf ops n) 0 j dj hdj
   rw [Nat.zero_add] at h1
   have h2 := hp j hjp
   rw [h2] at h1
   rw [puts_eval (hnv _ _) (List.mem_of_getElem? h1) (hsize dj (List.mem_of_getElem? hdj))]
   exact hspec j hj h2 (fun hd => by
    rcases hjd hd with e | e
    ·rw [← e]; exact hf
    ·by_cases hk : L.getD ks false = true
     ·have := hpre hk i e
      rw [hf] at this; cases this
     ·simpa using hk)) (fun s hs2 => puts_other (fun x hx e => hs2 (by
    have := (List.mem_map (f := fun x : Bool × Nat × Value => x.2.1)).2 ⟨x, hx, e⟩
    rwa [vals_dst] at this)))
  have hput : ∀ v, (puts F (vals (fun k => L.getD k false) val (dstOf ops n) 0)).put o.dst v = puts F (vals (fun k => (L.setIfInBounds i true).getD k false) (fun j => if j = i then v else val j) (dstOf ops n) 0) := fun v => by
   rw [hd]
   have h1 := vals_get (fun k => L.getD k false) val (dstOf ops n) 0 i d hdst
   rw [Nat.zero_add, hf] at h1
   rw [puts_put (hnv _ _) h1, vals_set _ _ v _ _ _ _ hdst]
   congr 1
   simp only [Nat.zero_add]
   refine vals_congr _ _ _ (fun k hk => ?_)
   rw [Nat.zero_add]
   by_cases hki : k = i
   ·subst hki; rw [if_pos rfl, getD_eq (by omega)]
   ·rw [if_neg hki, getD_ne (fun e => hki e.symm)]
  have hkeep : ∀ v w', T wx w' → (i ≠ ks → Below wx.heap.size wx w') → (∀ k v, k ≠ i → (i = ks → k ∉ dead ∧ k ∉ late) → nthS specs k wx v → nthS specs k w' v) → nthS specs i w' v → (al.getD i false = true → v = .pointer (some ⟨wx.heap.size, 0, none⟩) ∧ wx.heap.size < w'.heap.size) →
    ∃ val' : Nat → Value, (puts F (vals (fun k => L.getD k false) val (dstOf ops n) 0)).put o.dst v = puts F (vals (fun k => (L.setIfInBounds i true).getD k false) val' (dstOf ops n) 0) ∧ (T W w' ∧ ((L.setIfInBounds i true).getD ks false = false → Below W.heap.size W w')) ∧ (∀ k, k < n → (L.setIfInBounds i true).getD k false = true → (k ∈ dead → (L.setIfInBounds i true).getD ks false = false) → nthS specs k w' (val' k)) ∧ ((L.setIfInBounds i true).getD ks false = true → ∀ j ∈ predsOf ops ks, (L.setIfInBounds i true).getD j false = true) ∧ (∀ k ∈ late, (L.setIfInBounds i true).getD k false = true → (L.setIfInBounds i true).getD ks false = true) ∧
    (∀ k, k < n → (L.setIfInBounds i true).getD k false = true → al.getD k false = true → ∃ g, val' k = .pointer (some ⟨g, 0, none⟩) ∧ g < w'.heap.size) ∧
    (∀ j k, j < n → k < n → j ≠ k → (L.setIfInBounds i true).getD j false = true → (L.setIfInBounds i true).getD k false = true → al.getD j false = true → al.getD k false = true → val' j ≠ val' k) := by
   intro v w' hb hbb hmk hsp hsa
   have hold : ∀ k, k ≠ i → (L.setIfInBounds i true).getD k false = true → L.getD k false = true := fun k hk h => by
    rwa [getD_ne (fun e => hk e.symm)] at h
   refine ⟨_, hput v, ⟨hT.trans hB.1 hb, fun h => ?_⟩, fun k hk hL hdd => ?_, fun hL j hj => ?_, fun k hk hL => ?_, fun k hk hL ha => ?_, fun j k hj hk hjk hL1 hL2 ha1 ha2 => ?_⟩
   ·by_cases hki : i = ks
    ·rw [← hki, getD_eq (by omega)] at h; cases h
    ·rw [getD_ne hki] at h
     exact Blw (hB.2 h) (hbb hki)
   ·by_cases hki : k = i
    ·subst hki; simp only [if_pos]; exact hsp
    ·simp only [if_neg hki]
     refine hmk k _ hki (fun e => ⟨fun hd => ?_, fun hd => ?_⟩) (hspec k hk (hold k hki hL) (fun hd => ?_))
     ·have := hdd hd
      rw [← e, getD_eq (by omega)] at this; cases this
     ·have := hlt k hd (hold k hki hL)
      rw [← e, hf] at this; cases this
     ·have := hdd hd
      by_cases hik : i = ks
      ·rw [← hik]; exact hf
      ·rwa [getD_ne hik] at this
   ·by_cases hji : j = i
    ·rw [hji]; exact getD_eq (by omega)
    ·rw [getD_ne (fun e => hji e.symm)]
     by_cases hik : i = ks
     ·rw [← hik] at hj
      exact hp j hj
     ·rw [getD_ne hik] at hL
      exact hpre hL j hj
   ·by_cases hik : i = ks
    ·rw [← hik]; exact getD_eq (by omega)
    ·rw [getD_ne hik]
     by_cases hki : k = i
     ·rw [hki] at hk
      unfold lateB at hlate
      rw [List.all_eq_true] at hlate
      have h1 := hlate i hk
      rw [List.any_eq_true] at h1
      obtain ⟨j, hj, h2⟩ := h1
      rw [Bool.or_eq_true] at h2
      rcases h2 with h2 | h2
      ·rw [← eq_of_beq h2]; exact hp j hj
      ·exact hlt j (by simpa using h2) (hp j hj)
     ·rw [getD_ne (fun e => hki e.symm)] at hL
      exact hlt k hk hL
   ·by_cases hki : k = i
    ·subst hki; simp only [if_pos]; exact ⟨_, hsa ha⟩
    ·simp only [if_neg hki]
     obtain ⟨g, h1, h2⟩ := hal k hk (hold k hki hL) ha
     exact ⟨g, h1, Nat.lt_of_lt_of_le h2 (hT.size hb)⟩
   ·by_cases hji : j = i
    ·subst hji
     have hkj : k ≠ j := fun e => hjk e.symm
     simp only [if_pos, if_neg hkj]
     obtain ⟨g, h1, h2⟩ := hal k hk (hold k hkj hL2) ha2
     rw [h1, (hsa ha1).1]
     intro e
     injection e with e
     injection e with e
     injection e with e
     omega
    ·by_cases hki : k = i
     ·subst hki
      simp only [if_pos, if_neg hji]
      obtain ⟨g, h1, h2⟩ := hal j hj (hold j hji hL1) ha1
      rw [h1, (hsa ha2).1]
      intro e
      injection e with e
      injection e with e
      injection e with e
      omega
     ·simp only [if_neg hji, if_neg hki]
      exact hdis j k hj hk hjk (hold j hji hL1) (hold k hki hL2) ha1 ha2
  rcases hst with ⟨hks, hst⟩ | ⟨hks, hst⟩
  ·have hmk : ∀ w', T wx w' → ∀ k v, k ≠ i → (i = ks → k ∉ dead ∧ k ∉ late) → nthS specs k wx v → nthS specs k w' v := fun w' hb k v hki hd h => hmonoT k (by omega) (hd hks).1 (hd hks).2 _ _ _ h hb
   rcases hst with ⟨hg, hst⟩ | ⟨hg, hna, hsp⟩
   ·rcases hst with ⟨v, w', hr, hb, hsp, hsa⟩ | ⟨hna, f, args, hr, hc⟩
    ·exact wpOp_valG ho hg hr (hkeep v w' hb (fun h => absurd hks h) (hmk w' hb) hsp hsa)
    ·refine wpOp_callG ho hg hr (hc.mono fun e w' h => ?_)
     obtain ⟨v, he, hb, hsp⟩ := h
     exact ⟨v, he, hkeep v w' hb (fun h => absurd hks h) (hmk w' hb) hsp (fun h => by rw [hna] at h; cases h)⟩
   ·exact wpOp_skipG ho hg (hkeep undef wx (hT.refl _) (fun h => absurd hks h) (hmk wx (hT.refl _)) hsp (fun h => by rw [hna] at h; cases h))
  ·have hmk : ∀ w', Below wx.heap.size wx w' → ∀ k v, k ≠ i → (i = ks → k ∉ dead ∧ k ∉ late) → nthS specs k wx v → nthS specs k w' v := fun w' hb k v hki hd h => hmono.nth k _ _ _ h hb
   rcases hst with ⟨hg, hst⟩ | ⟨hg, hna, hsp⟩
   ·rcases hst with ⟨v, w', hr, hb, hsp, hsa⟩ | ⟨hna, f, args, hr, hc⟩
    ·exact wpOp_valG ho hg hr (hkeep v w' (hT.of hb) (fun _ => hb) (hmk w' hb) hsp hsa)
    ·refine wpOp_callG ho hg hr (hc.mono fun e w' h => ?_)
     obtain ⟨v, he, hb, hsp⟩ := h
     exact ⟨v, he, hkeep v w' (hT.of hb) (fun _ => hb) (hmk w' hb) hsp (fun h => by rw [hna] at h; cases h)⟩
   ·exact wpOp_skipG ho hg (hkeep undef wx (hT.refl _) (fun _ => Below.refl _ _) (hmk wx (Below.refl _ _)) hsp (fun h => by rw [hna] at h; cases h))
 ·intro L a wx hs hall hV
  obtain ⟨val, rfl, hB, hspec, hpre, hlt, hal, hdis⟩ := hV
  rw [vals_congr (L' := fun _ => true) _ _ _ (fun i hi => by rw [Nat.zero_add]; exact hall i (by omega))]
  exact fin val wx hB.1 (fun k hk hd => hspec k hk (hall k hk) (fun h => absurd h hd)) (fun j k hj hk hjk h1 h2 => hdis j k hj hk hjk (hall j hj) (hall k hk) h1 h2)
/-- An operation that wants a word which may fall stands ahead of operation ks. -/
def deadB (ops : Array Oper) (tab : List (Nat × List Nat)) (ks : Nat) (dead : List Nat) : Bool :=
 tab.zipIdx.all fun x => x.1.2.all fun j => !dead.contains j || x.2 == ks || (predsOf ops ks).contains x.2
/-- A region as a flow of values, with guards, by a table: for each of the first n operations, its slot and the operations whose values it wants. -/
theorem wp_flow_tabGU {T : World → World → Prop} (hT : TRel T) {P : Program} {id : Nat} {ops : Array Oper} {Q : Exit → Act → World → Prop} {F : Act} {w W : World} (dr : Bool) (hW : (if dr = true then w.drew else w) = W) (n : Nat) (tab : List (Nat × List Nat)) (specs : List Sp) (al : List Bool) (hm : P.follows .mixedOrders = true)
  (hback : backB ops = true) (hfull : (!dr || fullB ops n) = true) (hhead : headG ops n = true) (htab : tabB ops n tab = true) (hsize : ∀ d ∈ tab.map (·.1), d < F.tmps.size) (ks : Nat) (dead late : List Nat) (hdead : deadB ops tab ks dead = true) (hlate : lateB ops ks late = true) (hmono : MonoL specs) (hmonoT : ∀ k, k ≠ ks → k ∉ dead → k ∉ late → MonoT T (nthS specs k))
  (step : ∀ (k : Nat), k < n → ∀ a wx, T W wx → (k = ks → Below W.heap.size W wx) → Have specs (tab.map (·.1)) wx a (tab.getD k (0, [])).2 → (∀ s, (tab.map (·.1)).contains s = false → a.eval (.tmp s) = F.eval (.tmp s)) →
   ∃ o, ops[k]? = some o ∧ StepGK T ks P ops o k (nthS specs k) (al.getD k false) a wx)
  (fin : ∀ (val : Nat → Value) wx, T W wx → (∀ k, k < n → k ∉ dead → nthS specs k wx (val k)) → (∀ j k, j < n → k < n → j ≠ k → al.getD j false = true → al.getD k false = true → val j ≠ val k) →
   wpList P ops Q (ops.toList.drop n) (puts F (vals (fun _ => true) val (tab.map (·.1)) 0)) wx) :
  (Code.region id ops dr).wp P Q F w := by
 unfold tabB at htab
 simp only [Bool.and_eq_true, decide_eq_true_eq, List.all_eq_true] at htab
 obtain ⟨⟨⟨h1, h2⟩, h3⟩, h4⟩ := htab
 refine wp_flowGU hT dr hW n specs al hm hback h1 hfull hhead (by rw [h2]; exact hsize) ks dead late hlate hmono hmonoT ?_ (by rw [h2]; exact fin)
 intro k o hk ho a wx hB hBb hp hs
 rw [h2] at hp hs
 have hx : tab[k]? = some (tab.getD k (0, [])) := by
  rw [List.getD_eq_getElem?_getD, List.getElem?_eq_getElem (by omega)]
  rfl
 obtain ⟨o', ho', hd⟩ := step k hk a wx hB hBb (have_of _ (fun j hj => by
  have h5 := h4 (tab.getD k (0, []), k) (by rw [List.mem_zipIdx_iff_getElem?]; exact hx) j hj
  refine hp j _ h5.1 (by simpa using h5.2) (fun hd => ?_) ?_
  ·unfold deadB at hdead
   rw [List.all_eq_true] at hdead
   have h6 := hdead (tab.getD k (0, []), k) (by rw [List.mem_zipIdx_iff_getElem?]; exact hx)
   rw [List.all_eq_true] at h6
   have h7 := h6 j hj
   simp only [Bool.or_eq_true, Bool.not_eq_true', List.contains_eq_mem, decide_eq_false_iff_not, decide_eq_true_eq, beq_iff_eq] at h7
   rcases h7 with (h7 | h7) | h7
   ·exact absurd hd h7
   ·exact .inl h7
   ·exact .inr h7
  rw [List.getD_eq_getElem?_getD, List.getElem?_eq_getElem (by simp; omega)]
  rfl)) (fun s hs2 => hs s (by simpa using hs2))
 rw [ho] at ho'
 injection ho' with ho'
 rw [ho']
 exact hd
/-- What stays below B, and what there was. -/
def TB (B : Nat) (w w' : World) : Prop := Below (min B w.heap.size) w w'
theorem TB.rel (B : Nat) : TRel (TB B) where
 refl w := Below.refl _ _
 trans {a b c} h g := by
  have hs := h.size
  exact h.trans (g.mono (by omega))
 size h := h.size
 of {a b} h := h.mono (Nat.min_le_right _ _)
theorem TB.below {B : Nat} {w w' : World} (h : TB B w w') (hB : B ≤ w.heap.size) : Below B w w' := by
 unfold TB at h
 rwa [Nat.min_eq_left hB] at h
theorem TB.of {B : Nat} {w w' : World} (h : Below B w w') : TB B w w' := h.mono (Nat.min_le_left _ _)
theorem dU {w W wx : World} (hW : w.drew = W) (h : TB w.heap.size W wx) : Below w.heap.size w wx := by
 subst hW
 exact bdDl (h.below (Nat.le_refl _))
theorem SC.monoT (T : World → World → Prop) (c : Value) : MonoT T (SC c) := fun _ _ _ h _ => h
end Go.Proofs.Ytgdibcgphjmofaa
namespace Go.Proofs.Ytgdibcgphjmofaa
open Go.RowKit
/-- What one operation does, where k0 and k1 turn memory. -/
def StepG2 (T : World → World → Prop) (k0 k1 : Nat) (S1 S2 : World → Prop) (P : Program) (ops : Array Oper) (o : Oper) (k : Nat) (s : Sp) (al : Bool) (a : Act) (wx : World) : Prop :=
 (k = k0 ∧ Region.wanted o (yielded ops a.tmps) = true ∧ DoesT (fun x y => T x y ∧ S1 y) P o s al a wx) ∨ (k = k1 ∧ Region.wanted o (yielded ops a.tmps) = true ∧ DoesT (fun x y => T x y ∧ S2 y) P o s al a wx) ∨ (k ≠ k0 ∧ k ≠ k1 ∧ DoesG P ops o s al a wx)
/-- **A region as a flow of values**, guards too. -/
theorem wp_flowG2 {T : World → World → Prop} (hT : TRel T) {P : Program} {id : Nat} {ops : Array Oper} {Q : Exit → Act → World → Prop} {F : Act} {w W : World} (dr : Bool) (hW : (if dr = true then w.drew else w) = W) (n : Nat) (specs : List Sp) (al : List Bool) (hm : P.follows .mixedOrders = true)
  (hback : backB ops = true) (hn : n ≤ ops.size) (hfull : (!dr || fullB ops n) = true) (hhead : headG ops n = true) (hsize : ∀ d ∈ dstOf ops n, d < F.tmps.size) (k0 k1 : Nat) (S1 S2 : World → Prop) (h01 : k0 ∈ predsOf ops k1) (h1n : k1 < n) (h0k : k0 ≠ k1) (hS1 : ∀ x y, S1 x → Below x.heap.size x y → S1 y) (hS2 : ∀ x y, S2 x → Below x.heap.size x y → S2 y) (hmono : MonoL specs) (hmonoT : ∀ k, MonoT T (nthS specs k))
  (step : ∀ (k : Nat) (o : Oper), k < n → ops[k]? = some o → ∀ a wx, T W wx → (k = k0 → Below W.heap.size W wx) → (k = k1 → S1 wx) → (∀ j d, j < n → j ∈ predsOf ops k → (dstOf ops n)[j]? = some d → nthS specs j wx (a.eval (.tmp d))) → (∀ s, s ∉ dstOf ops n → a.eval (.tmp s) = F.eval (.tmp s)) →
   StepG2 T k0 k1 S1 S2 P ops o k (nthS specs k) (al.getD k false) a wx)
  (fin : ∀ (val : Nat → Value) wx, T W wx → S2 wx → (∀ k, k < n → nthS specs k wx (val k)) → (∀ j k, j < n → k < n → j ≠ k → al.getD j false = true → al.getD k false = true → val j ≠ val k) →
   wpList P ops Q (ops.toList.drop n) (puts F (vals (fun _ => true) val (dstOf ops n) 0)) wx) :
  (Code.region id ops dr).wp P Q F w := by
 unfold headG at hhead
 rw [Bool.and_eq_true] at hhead
 obtain ⟨hh1, hh2⟩ := hhead
 have hnod := of_decide_eq_true hh2
 rw [List.all_eq_true] at hh1
 have hop : ∀ k, k < n → ∃ o d, ops[k]? = some o ∧ o.dst = some d ∧ (dstOf ops n)[k]? = some d := by
  intro k hk
  have h1 : ops[k]? = some ops[k] := Array.getElem?_eq_getElem (by omega)
  have h2 := hh1 ops[k] (by
   rw [List.mem_iff_getElem?]
   exact ⟨k, by rw [List.getElem?_take, if_pos hk]; simp⟩)
  rw [Option.isSome_iff_exists] at h2
  obtain ⟨d, hd⟩ := h2
  refine ⟨_, d, h1, hd, ?_⟩
  unfold dstOf
  rw [List.getElem?_map, List.getElem?_take, if_pos hk, Array.getElem?_toList, h1]
  simp [hd]
 have hlen : (dstOf ops n).length = n := by
  unfold dstOf
  simp
  omega
 have hnv : ∀ L val, ((vals L val (dstOf ops n) 0).map (·.2.1)).Nodup := fun L val => by rw [vals_dst]; exact hnod
 refine wp_any_head dr n (fun L a wx => ∃ val : Nat → Value, a = puts F (vals (fun k => L.getD k false) val (dstOf ops n) 0) ∧ T W wx ∧ ((L.getD k0 false = false → Below W.heap.size W wx) ∧ (L.getD k0 false = true → L.getD k1 false = false → S1 wx) ∧ (L.getD k1 false = true → L.getD k0 false = true ∧ S2 wx)) ∧ (∀ k, k < n → L.getD k false = true → nthS specs k wx (val k)) ∧
   (∀ k, k < n → L.getD k false = true → al.getD k false = true → ∃ g, val k = .pointer (some ⟨g, 0, none⟩) ∧ g < wx.heap.size) ∧
   (∀ j k, j < n → k < n → j ≠ k → L.getD j false = true → L.getD k false = true → al.getD j false = true → al.getD k false = true → val j ≠ val k)) hm (back_of hback) hn hfull ?_ ?_ ?_
 ·have hfalse : ∀ k, (Array.replicate ops.size false).getD k false = false := fun k => by
   rw [Array.getD_eq_getD_getElem?, Array.getElem?_replicate]
   split <;> rfl
  refine ⟨fun _ => undef, ?_, by rw [← hW]; exact hT.refl _, ⟨fun _ => by rw [← hW]; exact Below.refl _ _, fun h => absurd ((hfalse k0).symm.trans h) (by simp), fun h => absurd ((hfalse k1).symm.trans h) (by simp)⟩, fun k _ h => absurd ((hfalse k).symm.trans h) (by simp), fun k _ h => absurd ((hfalse k).symm.trans h) (by simp), fun j k _ _ _ h => absurd ((hfalse j).symm.trans h) (by simp)⟩
  rw [vals_congr (L' := fun _ => false) _ _ _ (fun i _ => hfalse _)]
  have : ∀ (l : List Nat) (k : Nat) (t : Array Value), (vals (fun _ => false) (fun _ => undef) l k).foldl (fun t x => if x.1 then t.setIfInBounds x.2.1 x.2.2 else t) t = t := by
   intro l
   induction l with
   | nil => intro _ _; rfl
   | cons d l ih => intro k t; simp [vals, ih]
  unfold puts
  rw [this]
 ·intro L a wx hs hV i hin hf hp
  obtain ⟨val, rfl, hB, ⟨k3, k4, k2⟩, hspec, hal, hdis⟩ := hV
  obtain ⟨o, d, ho, hd, hdst⟩ := hop i hin
  have hst := step i o hin ho (puts F (vals (fun k => L.getD k false) val (dstOf ops n) 0)) wx hB (fun e => k3 (by rw [← e]; exact hf)) (fun e => k4 (hp k0 (by rw [e]; exact h01)) (by rw [← e]; exact hf)) (fun j dj hj hjp hdj => by
   have h1 := vals_get (fun k => L.getD k false) val (dstOf ops n) 0 j dj hdj
   rw [Nat.zero_add] at h1
   have h2 := hp j hjp
   rw [h2] at h1
   rw [puts_eval (hnv _ _) (List.mem_of_getElem? h1) (hsize dj (List.mem_of_getElem? hdj))]
   exact hspec j hj h2) (fun s hs2 => puts_other (fun x hx e => hs2 (by
    have := (List.mem_map (f := fun x : Bool × Nat × Value => x.2.1)).2 ⟨x, hx, e⟩
    rwa [vals_dst] at this)))
  have hput : ∀ v, (puts F (vals (fun k => L.getD k false) val (dstOf ops n) 0)).put o.dst v = puts F (vals (fun k => (L.setIfInBounds i true).getD k false) (fun j => if j = i then v else val j) (dstOf ops n) 0) := fun v => by
   rw [hd]
   have h1 := vals_get (fun k => L.getD k false) val (dstOf ops n) 0 i d hdst
   rw [Nat.zero_add, hf] at h1
   rw [puts_put (hnv _ _) h1, vals_set _ _ v _ _ _ _ hdst]
   congr 1
   simp only [Nat.zero_add]
   refine vals_congr _ _ _ (fun k hk => ?_)
   rw [Nat.zero_add]
   by_cases hki : k = i
   ·subst hki; rw [if_pos rfl, getD_eq (by omega)]
   ·rw [if_neg hki, getD_ne (fun e => hki e.symm)]
  have hkeep : ∀ v w', T wx w' → ((i ≠ k0 ∧ i ≠ k1 ∧ Below wx.heap.size wx w') ∨ (i = k0 ∧ S1 w') ∨ (i = k1 ∧ S2 w')) → (∀ k v, nthS specs k wx v → nthS specs k w' v) → nthS specs i w' v → (al.getD i false = true → v = .pointer (some ⟨wx.heap.size, 0, none⟩) ∧ wx.heap.size < w'.heap.size) →
    ∃ val' : Nat → Value, (puts F (vals (fun k => L.getD k false) val (dstOf ops n) 0)).put o.dst v = puts F (vals (fun k => (L.setIfInBounds i true).getD k false) val' (dstOf ops n) 0) ∧ T W w' ∧ (((L.setIfInBounds i true).getD k0 false = false → Below W.heap.size W w') ∧ ((L.setIfInBounds i true).getD k0 false = true → (L.setIfInBounds i true).getD k1 false = false → S1 w') ∧ ((L.setIfInBounds i true).getD k1 false = true → (L.setIfInBounds i true).getD k0 false = true ∧ S2 w')) ∧ (∀ k, k < n → (L.setIfInBounds i true).getD k false = true → nthS specs k w' (val' k)) ∧
    (∀ k, k < n → (L.setIfInBounds i true).getD k false = true → al.getD k false = true → ∃ g, val' k = .pointer (some ⟨g, 0, none⟩) ∧ g < w'.heap.size) ∧
    (∀ j k, j < n → k < n → j ≠ k → (L.setIfInBounds i true).getD j false = true → (L.setIfInBounds i true).getD k false = true → al.getD j false = true → al.getD k false = true → val' j ≠ val' k) := by
   intro v w' hb hbb hmk hsp hsa
   have hold : ∀ k, k ≠ i → (L.setIfInBounds i true).getD k false = true → L.getD k false = true := fun k hk h => by
    rwa [getD_ne (fun e => hk e.symm)] at h
   refine ⟨_, hput v, hT.trans hB hb, ?_, fun k hk hL => ?_, fun k hk hL ha => ?_, fun j k hj hk hjk hL1 hL2 ha1 ha2 => ?_⟩
   ·rcases hbb with ⟨e0, e1, hbl⟩ | ⟨e0, hs1⟩ | ⟨e1, hs2⟩
    ·rw [getD_ne e0, getD_ne e1]
     exact ⟨fun h => Blw (k3 h) hbl, fun h1 h2 => hS1 _ _ (k4 h1 h2) hbl, fun h => ⟨(k2 h).1, hS2 _ _ (k2 h).2 hbl⟩⟩
    ·have e1 : i ≠ k1 := fun e => h0k (e0.symm.trans e)
     rw [getD_ne e1, ← e0, getD_eq (by omega)]
     refine ⟨fun h => absurd h (by simp), fun _ _ => hs1, fun h => ?_⟩
     have := (k2 h).1
     rw [← e0, hf] at this; cases this
    ·have e0 : i ≠ k0 := fun e => h0k (e.symm.trans e1)
     rw [getD_ne e0, ← e1, getD_eq (by omega)]
     have h0 := hp k0 (by rw [e1]; exact h01)
     exact ⟨fun h => absurd (h0.symm.trans h) (by simp), fun _ h => absurd h (by simp), fun _ => ⟨h0, hs2⟩⟩
   ·by_cases hki : k = i
    ·subst hki; simp only [if_pos]; exact hsp
    ·simp only [if_neg hki]
     exact hmk k _ (hspec k hk (hold k hki hL))
   ·by_cases hki : k = i
    ·subst hki; simp only [if_pos]; exact ⟨_, hsa ha⟩
    ·simp only [if_neg hki]
     obtain ⟨g, h1, h2⟩ := hal k hk (hold k hki hL) ha
     exact ⟨g, h1, Nat.lt_of_lt_of_le h2 (hT.size hb)⟩
   ·by_cases hji : j = i
    ·subst hji
     have hkj : k ≠ j := fun e => hjk e.symm
     simp only [if_pos, if_neg hkj]
     obtain ⟨g, h1, h2⟩ := hal k hk (hold k hkj hL2) ha2
     rw [h1, (hsa ha1).1]
     intro e
     injection e with e
     injection e with e
     injection e with e
     omega
    ·by_cases hki : k = i
     ·subst hki
      simp only [if_pos, if_neg hji]
      obtain ⟨g, h1, h2⟩ := hal j hj (hold j hji hL1) ha1
      rw [h1, (hsa ha2).1]
      intro e
      injection e with e
      injection e with e
      injection e with e
      omega
     ·simp only [if_neg hji, if_neg hki]
      exact hdis j k hj hk hjk (hold j hji hL1) (hold k hki hL2) ha1 ha2
  rcases hst with ⟨hks, hg, hst⟩ | ⟨hks, hg, hst⟩ | ⟨hk0, hk1, hst⟩
  ·have hmk : ∀ w', T wx w' → ∀ k v, nthS specs k wx v → nthS specs k w' v := fun w' hb k v h => hmonoT k _ _ _ h hb
   rcases hst with ⟨v, w', hr, hb, hsp, hsa⟩ | ⟨hna, f, args, hr, hc⟩
   ·exact wpOp_valG ho hg hr (hkeep v w' hb.1 (.inr (.inl ⟨hks, hb.2⟩)) (hmk w' hb.1) hsp hsa)
   ·refine wpOp_callG ho hg hr (hc.mono fun e w' h => ?_)
    obtain ⟨v, he, hb, hsp⟩ := h
    exact ⟨v, he, hkeep v w' hb.1 (.inr (.inl ⟨hks, hb.2⟩)) (hmk w' hb.1) hsp (fun h => by rw [hna] at h; cases h)⟩
  ·have hmk : ∀ w', T wx w' → ∀ k v, nthS specs k wx v → nthS specs k w' v := fun w' hb k v h => hmonoT k _ _ _ h hb
   rcases hst with ⟨v, w', hr, hb, hsp, hsa⟩ | ⟨hna, f, args, hr, hc⟩
   ·exact wpOp_valG ho hg hr (hkeep v w' hb.1 (.inr (.inr ⟨hks, hb.2⟩)) (hmk w' hb.1) hsp hsa)
   ·refine wpOp_callG ho hg hr (hc.mono fun e w' h => ?_)
    obtain ⟨v, he, hb, hsp⟩ := h
    exact ⟨v, he, hkeep v w' hb.1 (.inr (.inr ⟨hks, hb.2⟩)) (hmk w' hb.1) hsp (fun h => by rw [hna] at h; cases h)⟩
  ·have hmk : ∀ w', Below wx.heap.size wx w' → ∀ k v, nthS specs k wx v → nthS specs k w' v := fun w' hb k v h => hmono.nth k _ _ _ h hb
   rcases hst with ⟨hg, hst⟩ | ⟨hg, hna, hsp⟩
   ·rcases hst with ⟨v, w', hr, hb, hsp, hsa⟩ | ⟨hna, f, args, hr, hc⟩
    ·exact wpOp_valG ho hg hr (hkeep v w' (hT.of hb) (.inl ⟨hk0, hk1, hb⟩) (hmk w' hb) hsp hsa)
    ·refine wpOp_callG ho hg hr (hc.mono fun e w' h => ?_)
     obtain ⟨v, he, hb, hsp⟩ := h
     exact ⟨v, he, hkeep v w' (hT.of hb) (.inl ⟨hk0, hk1, hb⟩) (hmk w' hb) hsp (fun h => by rw [hna] at h; cases h)⟩
   ·exact wpOp_skipG ho hg (hkeep undef wx (hT.refl _) (.inl ⟨hk0, hk1, Below.refl _ _⟩) (hmk wx (Below.refl _ _)) hsp (fun h => by rw [hna] at h; cases h))
 ·intro L a wx hs hall hV
  obtain ⟨val, rfl, hB, ⟨k3, k4, k2⟩, hspec, hal, hdis⟩ := hV
  rw [vals_congr (L' := fun _ => true) _ _ _ (fun i hi => by rw [Nat.zero_add]; exact hall i (by omega))]
  exact fin val wx hB (k2 (hall k1 h1n)).2 (fun k hk => hspec k hk (hall k hk)) (fun j k hj hk hjk h1 h2 => hdis j k hj hk hjk (hall j hj) (hall k hk) h1 h2)
/-- A region as a flow of values, with guards, by a table: for each of the first n operations, its slot and the operations whose values it wants. -/
theorem wp_flow_tabG2 {T : World → World → Prop} (hT : TRel T) {P : Program} {id : Nat} {ops : Array Oper} {Q : Exit → Act → World → Prop} {F : Act} {w W : World} (dr : Bool) (hW : (if dr = true then w.drew else w) = W) (n : Nat) (tab : List (Nat × List Nat)) (specs : List Sp) (al : List Bool) (hm : P.follows .mixedOrders = true)
  (hback : backB ops = true) (hfull : (!dr || fullB ops n) = true) (hhead : headG ops n = true) (htab : tabB ops n tab = true) (hsize : ∀ d ∈ tab.map (·.1), d < F.tmps.size) (k0 k1 : Nat) (S1 S2 : World → Prop) (h01 : (decide (k0 < n) && decide (k1 < n) && decide (k0 ≠ k1) && (predsOf ops k1).contains k0) = true) (hS1 : ∀ x y, S1 x → Below x.heap.size x y → S1 y) (hS2 : ∀ x y, S2 x → Below x.heap.size x y → S2 y) (hmono : MonoL specs) (hmonoT : ∀ k, MonoT T (nthS specs k))
  (step : ∀ (k : Nat), k < n → ∀ a wx, T W wx → (k = k0 → Below W.heap.size W wx) → (k = k1 → S1 wx) → Have specs (tab.map (·.1)) wx a (tab.getD k (0, [])).2 → (∀ s, (tab.map (·.1)).contains s = false → a.eval (.tmp s) = F.eval (.tmp s)) →
   ∃ o, ops[k]? = some o ∧ StepG2 T k0 k1 S1 S2 P ops o k (nthS specs k) (al.getD k false) a wx)
  (fin : ∀ (val : Nat → Value) wx, T W wx → S2 wx → (∀ k, k < n → nthS specs k wx (val k)) → (∀ j k, j < n → k < n → j ≠ k → al.getD j false = true → al.getD k false = true → val j ≠ val k) →
   wpList P ops Q (ops.toList.drop n) (puts F (vals (fun _ => true) val (tab.map (·.1)) 0)) wx) :
  (Code.region id ops dr).wp P Q F w := by
 unfold tabB at htab
 simp only [Bool.and_eq_true, decide_eq_true_eq, List.all_eq_true] at htab
 obtain ⟨⟨⟨h1, h2⟩, h3⟩, h4⟩ := htab
 simp only [Bool.and_eq_true, decide_eq_true_eq, List.contains_eq_mem] at h01
 obtain ⟨⟨⟨-, g2⟩, g3⟩, g4⟩ := h01
 refine wp_flowG2 hT dr hW n specs al hm hback h1 hfull hhead (by rw [h2]; exact hsize) k0 k1 S1 S2 g4 g2 g3 hS1 hS2 hmono hmonoT ?_ (by rw [h2]; exact fin)
 intro k o hk ho a wx hB hBb hBc hp hs
 rw [h2] at hp hs
 have hx : tab[k]? = some (tab.getD k (0, [])) := by
  rw [List.getD_eq_getElem?_getD, List.getElem?_eq_getElem (by omega)]
  rfl
 obtain ⟨o', ho', hd⟩ := step k hk a wx hB hBb hBc (have_of _ (fun j hj => by
  have h5 := h4 (tab.getD k (0, []), k) (by rw [List.mem_zipIdx_iff_getElem?]; exact hx) j hj
  refine hp j _ h5.1 (by simpa using h5.2) ?_
  rw [List.getD_eq_getElem?_getD, List.getElem?_eq_getElem (by simp; omega)]
  rfl)) (fun s hs2 => hs s (by simpa using hs2))
 rw [ho] at ho'
 injection ho' with ho'
 rw [ho']
 exact hd
end Go.Proofs.Ytgdibcgphjmofaa
