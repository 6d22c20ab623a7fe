/-
 A REGION THAT DRAWS ITS ORDER, BY AN INVARIANT: each operation is shown once, whatever was done before it; no order is walked.
-/
import Derived.Test.YtgdibcgphjmofaaRows
import Derived.Orders
import Derived.WalkKit
namespace Go.Proofs.Ytgdibcgphjmofaa
open Go.RowKit
/-- How many operations are still to come. -/
def toCome (listed : Array Bool) : Nat := (listed.toList.filter (fun b => !b)).length
theorem toCome_set {listed : Array Bool} {i : Nat} (h : listed[i]? = some false) : toCome (listed.setIfInBounds i true) + 1 = toCome listed := by
 obtain ⟨l⟩ := listed
 simp only [List.getElem?_toArray] at h
 simp only [toCome, List.setIfInBounds_toArray]
 induction l generalizing i with
 | nil => simp at h
 | cons b r ih =>
  cases i with
  | zero =>
   simp at h
   subst h
   simp
  | succ i =>
   simp only [List.getElem?_cons_succ] at h
   have := ih h
   simp only [List.set_cons_succ, List.filter_cons]
   cases b <;> simp <;> omega
theorem ready_of {md : Region.Mode} {ops : Array Oper} {listed : Array Bool} {i : Nat} (h : i ∈ Region.ready md ops listed) :
  i < ops.size ∧ listed.getD i true = false ∧ ∀ o : Oper, ops[i]? = some o → ∀ e ∈ o.after, Region.binds md e = true → listed.getD e.on false = true := by
 unfold Region.ready at h
 simp only [List.mem_filter, List.mem_range, Bool.and_eq_true, Bool.not_eq_true'] at h
 refine ⟨h.1, h.2.1, fun o ho e he hb => ?_⟩
 have h3 := h.2.2
 rw [ho] at h3
 simp only [Option.map_some, Option.getD_some, Array.all_eq_true', Bool.or_eq_true, Bool.not_eq_true'] at h3
 rcases h3 e he with h4 | h4
 ·rw [h4] at hb; cases hb
 ·exact h4
theorem ready_nil {md : Region.Mode} {ops : Array Oper} {listed : Array Bool} (hs : listed.size = ops.size) (hback : ∀ (i : Nat) (o : Oper), ops[i]? = some o → ∀ e ∈ o.after, Region.binds md e = true → e.on < i) (h : Region.ready md ops listed = []) :
  ∀ i, i < ops.size → listed.getD i true = true := by
 intro i
 induction i using Nat.strongRecOn with
 | _ i ih =>
  intro hi
  cases hl : listed.getD i true with
  | true => rfl
  | false =>
   exfalso
   have hm : i ∈ Region.ready md ops listed := by
    unfold Region.ready
    simp only [List.mem_filter, List.mem_range, Bool.and_eq_true, Bool.not_eq_true']
    refine ⟨hi, hl, ?_⟩
    have ho : ops[i]? = some ops[i] := Array.getElem?_eq_getElem hi
    rw [ho]
    simp only [Option.map_some, Option.getD_some, Array.all_eq_true', Bool.or_eq_true, Bool.not_eq_true']
    intro e he
    cases hbd : Region.binds md e with
    | false => exact .inl rfl
    | true =>
    right
    have hlt := hback i _ ho e he hbd
    have := ih e.on hlt (by omega)
    rw [Array.getD_eq_getD_getElem?, Array.getElem?_eq_getElem (by omega)] at this ⊢
    simpa using this
   rw [h] at hm
   cases hm
theorem wpAny_inv {P : Program} {md : Region.Mode} {ops : Array Oper} {Q : Exit → Act → World → Prop} (J : Array Bool → Act → World → Prop)
  (hback : ∀ (i : Nat) (o : Oper), ops[i]? = some o → ∀ e ∈ o.after, Region.binds md e = true → e.on < i)
  (hstep : ∀ listed a w, listed.size = ops.size → J listed a w → ∀ i, i < ops.size → listed.getD i true = false → (∀ o : Oper, ops[i]? = some o → ∀ e ∈ o.after, Region.binds md e = true → listed.getD e.on false = true) → wpOp P ops Q i (J (listed.setIfInBounds i true)) a w)
  (hend : ∀ listed a w, listed.size = ops.size → (∀ i, i < ops.size → listed.getD i true = true) → J listed a w → Q .normal a w) :
  ∀ fuel listed a w, listed.size = ops.size → toCome listed ≤ fuel → J listed a w → wpAny P md ops Q fuel listed a w := by
 intro fuel
 induction fuel with
 | zero =>
  intro listed a w hs hc hJ
  have hall : ∀ i, i < ops.size → listed.getD i true = true := fun i hi => by
   cases hl : listed.getD i true with
   | true => rfl
   | false =>
    have h1 : listed[i]? = some false := by
     rw [Array.getD_eq_getD_getElem?, Array.getElem?_eq_getElem (by omega)] at hl
     rw [Array.getElem?_eq_getElem (by omega)]
     simpa using hl
    have := toCome_set h1
    omega
  refine ⟨?_, hend listed a w hs hall hJ⟩
  cases hr : Region.ready md ops listed with
  | nil => rfl
  | cons i r =>
   have h1 := ready_of (show i ∈ Region.ready md ops listed by rw [hr]; exact List.mem_cons_self ..)
   rw [hall i h1.1] at h1
   cases h1.2.1
 | succ fuel ih =>
  intro listed a w hs hc hJ
  refine ⟨fun hr => hend listed a w hs (ready_nil hs hback hr) hJ, fun i hi => ?_⟩
  obtain ⟨h1, h2, h3⟩ := ready_of hi
  refine wpOp_mono (fun a' w' h => ih _ a' w' (by simpa using hs) ?_ h) (hstep listed a w hs hJ i h1 h2 h3)
  have h4 : listed[i]? = some false := by
   rw [Array.getD_eq_getD_getElem?, Array.getElem?_eq_getElem (by omega)] at h2
   rw [Array.getElem?_eq_getElem (by omega)]
   simpa using h2
  have := toCome_set h4
  omega
theorem wp_region_inv {P : Program} {id : Nat} {ops : Array Oper} {Q : Exit → Act → World → Prop} {a : Act} {w : World} (J : Array Bool → Act → World → Prop) (hm : P.follows .mixedOrders = true)
  (hback : ∀ (i : Nat) (o : Oper), ops[i]? = some o → ∀ e ∈ o.after, Region.binds .any e = true → e.on < i)
  (h0 : J (Array.replicate ops.size false) a w.drew)
  (hstep : ∀ listed a w, listed.size = ops.size → J listed a w → ∀ i, i < ops.size → listed.getD i true = false → (∀ o : Oper, ops[i]? = some o → ∀ e ∈ o.after, Region.binds .any e = true → listed.getD e.on false = true) → wpOp P ops Q i (J (listed.setIfInBounds i true)) a w)
  (hend : ∀ listed a w, listed.size = ops.size → (∀ i, i < ops.size → listed.getD i true = true) → J listed a w → Q .normal a w) :
  (Code.region id ops true).wp P Q a w := by
 refine wp_region_any hm (wpAny_inv J hback hstep hend _ _ _ _ (by simp) ?_ h0)
 unfold toCome
 exact Nat.le_trans (List.length_filter_le _ _) (by simp)
/-- A frame with values put into some slots: (is it done, the slot, the value). -/
def puts (f : Act) (l : List (Bool × Nat × Value)) : Act := { f with tmps := l.foldl (fun t x => if x.1 then t.setIfInBounds x.2.1 x.2.2 else t) f.tmps }
theorem puts_nil (f : Act) : puts f [] = f := rfl
theorem foldl_size : ∀ (l : List (Bool × Nat × Value)) (t : Array Value), (l.foldl (fun t x => if x.1 then t.setIfInBounds x.2.1 x.2.2 else t) t).size = t.size
 | [], _ => rfl
 | x :: r, t => by
  rw [List.foldl_cons, foldl_size r]
  split <;> simp
theorem foldl_other : ∀ (l : List (Bool × Nat × Value)) (t : Array Value) (d : Nat), (∀ x ∈ l, x.2.1 ≠ d) → (l.foldl (fun t x => if x.1 then t.setIfInBounds x.2.1 x.2.2 else t) t)[d]? = t[d]?
 | [], _, _, _ => rfl
 | x :: r, t, d, h => by
  rw [List.foldl_cons, foldl_other r _ d (fun y hy => h y (List.mem_cons_of_mem _ hy))]
  have := h x (List.mem_cons_self ..)
  split
  ·rw [Array.getElem?_setIfInBounds, if_neg this]
  ·rfl
theorem foldl_at : ∀ (l : List (Bool × Nat × Value)) (t : Array Value) (d : Nat) (v : Value), (l.map (·.2.1)).Nodup → (true, d, v) ∈ l → d < t.size → (l.foldl (fun t x => if x.1 then t.setIfInBounds x.2.1 x.2.2 else t) t)[d]? = some v
 | x :: r, t, d, v, hn, hm, hd => by
  rw [List.foldl_cons]
  simp only [List.map_cons, List.nodup_cons] at hn
  rcases List.mem_cons.1 hm with rfl | hm
  ·rw [foldl_other r _ d (fun y hy e => hn.1 (List.mem_map.2 ⟨y, hy, e⟩))]
   simp [hd]
  ·refine foldl_at r _ d v hn.2 hm ?_
   split <;> simpa using hd
theorem foldl_put : ∀ (l : List (Bool × Nat × Value)) (t : Array Value) (i d : Nat) (v u : Value), (l.map (·.2.1)).Nodup → l[i]? = some (false, d, u) →
  (l.foldl (fun t x => if x.1 then t.setIfInBounds x.2.1 x.2.2 else t) t).setIfInBounds d v = (l.set i (true, d, v)).foldl (fun t x => if x.1 then t.setIfInBounds x.2.1 x.2.2 else t) t
 | x :: r, t, 0, d, v, u, hn, h => by
  simp at h
  subst h
  simp only [List.map_cons, List.nodup_cons] at hn
  simp only [List.foldl_cons, List.set_cons_zero, if_true, Bool.false_eq_true, if_false]
  have hne : ∀ y ∈ r, y.2.1 ≠ d := fun y hy e => hn.1 (List.mem_map.2 ⟨y, hy, e⟩)
  clear hn
  induction r generalizing t with
  | nil => rfl
  | cons y r ih =>
   have h1 := hne y (List.mem_cons_self ..)
   simp only [List.foldl_cons]
   rw [ih _ (fun z hz => hne z (List.mem_cons_of_mem _ hz))]
   congr 1
   split
   ·apply Array.ext_getElem?
    intro k
    simp only [Array.getElem?_setIfInBounds]
    by_cases hk : d = k <;> by_cases hk2 : y.2.1 = k <;> simp [hk, hk2]
    omega
   ·rfl
 | x :: r, t, i + 1, d, v, u, hn, h => by
  simp only [List.getElem?_cons_succ] at h
  simp only [List.map_cons, List.nodup_cons] at hn
  simp only [List.foldl_cons, List.set_cons_succ]
  exact foldl_put r _ i d v u hn.2 h
theorem puts_eval {f : Act} {l : List (Bool × Nat × Value)} {d : Nat} {v : Value} (hn : (l.map (·.2.1)).Nodup) (hm : (true, d, v) ∈ l) (hd : d < f.tmps.size) : (puts f l).eval (.tmp d) = v := by
 have := foldl_at l f.tmps d v hn hm hd
 simp [puts, Act.eval, Array.getD_eq_getD_getElem?, this]
theorem puts_other {f : Act} {l : List (Bool × Nat × Value)} {d : Nat} (h : ∀ x ∈ l, x.2.1 ≠ d) : (puts f l).eval (.tmp d) = f.eval (.tmp d) := by
 have := foldl_other l f.tmps d h
 simp [puts, Act.eval, Array.getD_eq_getD_getElem?, this]
theorem puts_put {f : Act} {l : List (Bool × Nat × Value)} {i d : Nat} {v u : Value} (hn : (l.map (·.2.1)).Nodup) (h : l[i]? = some (false, d, u)) : (puts f l).put (some d) v = puts f (l.set i (true, d, v)) := by
 have := foldl_put l f.tmps i d v u hn h
 simp only [puts, Act.put, this]
theorem wpOp_val {P : Program} {ops : Array Oper} {Q : Exit → Act → World → Prop} {i : Nat} {K : Act → World → Prop} {a : Act} {w w' : World} {o : Oper} {v : Value} (ho : ops[i]? = some o) (hg : o.guard = none)
  (hr : (execOp a.eval o).run P w = .ok (.value v) w') (hK : K (a.put o.dst v) w') : wpOp P ops Q i K a w := by
 unfold wpOp
 rw [ho]
 simp only [Region.wanted, hg, if_true]
 refine .inl ?_
 unfold Oper.wp
 rw [hr]
 exact hK
theorem wpOp_skip {P : Program} {ops : Array Oper} {Q : Exit → Act → World → Prop} {i : Nat} {K : Act → World → Prop} {a : Act} {w w' : World} {o : Oper} (ho : ops[i]? = some o) (hg : o.guard = none) (hd : o.dst = none)
  (hr : (execOp a.eval o).run P w = .ok .skip w') (hK : K a w') : wpOp P ops Q i K a w := by
 unfold wpOp
 rw [ho]
 simp only [Region.wanted, hg, if_true]
 refine .inl ?_
 unfold Oper.wp
 rw [hr]
 show K (a.put o.dst undef) w'
 rw [hd]
 exact hK
theorem wpOp_call {P : Program} {ops : Array Oper} {Q : Exit → Act → World → Prop} {i : Nat} {K : Act → World → Prop} {a : Act} {w : World} {o : Oper} {f : FuncId} {args : Array Value} (ho : ops[i]? = some o) (hg : o.guard = none)
  (hr : (execOp a.eval o).run P w = .ok (.enter f args) w) (hc : Calls P f args w fun e w' => ∃ v, e = .returned v ∧ K (a.put o.dst v) w') : wpOp P ops Q i K a w := by
 unfold wpOp
 rw [ho]
 simp only [Region.wanted, hg, if_true]
 refine .inl ?_
 unfold Oper.wp
 rw [hr]
 refine Calls.mono hc fun e w' h => ?_
 obtain ⟨v, rfl, hK⟩ := h
 exact hK
theorem getD_ne {L : Array Bool} {i j : Nat} (h : i ≠ j) : (L.setIfInBounds i true).getD j false = L.getD j false := by
 rw [Array.getD_eq_getD_getElem?, Array.getD_eq_getD_getElem?, Array.getElem?_setIfInBounds, if_neg h]
theorem getD_eq {L : Array Bool} {i : Nat} (h : i < L.size) : (L.setIfInBounds i true).getD i false = true := by
 rw [Array.getD_eq_getD_getElem?, Array.getElem?_setIfInBounds, if_pos rfl, if_pos h]
 rfl
theorem getD_no {L : Array Bool} {i : Nat} (h : L.getD i true = false) : L.getD i false = false := by
 rw [Array.getD_eq_getD_getElem?] at h ⊢
 cases hl : L[i]? with
 | none => rfl
 | some b => rw [hl] at h; simpa using h
theorem getD_yes {L : Array Bool} {i : Nat} (hs : i < L.size) (h : L.getD i true = true) : L.getD i false = true := by
 rw [Array.getD_eq_getD_getElem?, Array.getElem?_eq_getElem hs] at h ⊢
 simpa using h
theorem no_store {b c d : Bool} (h : b = true → c = true ∧ d = true) (hc : c = false) : b = false := by
 cases b with
 | false => rfl
 | true => have := (h rfl).1; rw [hc] at this; cases this
theorem no_store2 {b c d : Bool} (h : b = true → c = true ∧ d = true) (hd : d = false) : b = false := by
 cases b with
 | false => rfl
 | true => have := (h rfl).2; rw [hd] at this; cases this
/-- Every edge goes back. -/
def backB (ops : Array Oper) : Bool := ops.toList.zipIdx.all fun x => x.1.after.all fun e => !Region.binds .any e || decide (e.on < x.2)
theorem back_of {ops : Array Oper} (h : backB ops = true) : ∀ (i : Nat) (o : Oper), ops[i]? = some o → ∀ e ∈ o.after, Region.binds .any e = true → e.on < i := by
 intro i o ho e he hbd
 unfold backB at h
 rw [List.all_eq_true] at h
 have h1 := h (o, i) (by rw [List.mem_zipIdx_iff_getElem?]; simpa using ho)
 rw [Array.all_eq_true'] at h1
 have h2 := h1 e he
 rw [hbd] at h2
 exact of_decide_eq_true (by simpa using h2)
end Go.Proofs.Ytgdibcgphjmofaa
