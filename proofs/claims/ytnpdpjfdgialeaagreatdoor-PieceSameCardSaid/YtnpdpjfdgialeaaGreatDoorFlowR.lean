/-
 THE FLOW THEOREMS inside a round of a range over a function.
-/
import Derived.Test.YtnpdpjfdgialeaaGreatDoorFlow
import Derived.RangeFuncCalls
import Derived.OrdersIn
import Derived.TacticsIn
import Derived.OwnWalkIn
namespace Go.Proofs.YtnpdpjfdgialeaaGreatDoor
open Go.RowKit
set_option linter.unusedVariables false
/-- The wide fence, or a round within it. -/
def WideF (F : Fence) : Prop := F = Fence.wide ∨ ∃ l, F = Fence.wide.inRound l
theorem WideF.wide : WideF Fence.wide := .inl rfl
theorem WideF.round (l : Nat) : WideF (Fence.wide.inRound l) := .inr ⟨l, rfl⟩
theorem WideF.fn {F : Fence} (h : WideF F) (f : FuncId) : F.fn f := by
 rcases h with rfl | ⟨l, rfl⟩ <;> trivial
theorem WideF.depth {F : Fence} (h : WideF F) : F.depth.isSome = false := by
 rcases h with rfl | ⟨l, rfl⟩ <;> rfl
theorem WideF.calls {F : Fence} (h : WideF F) {n : Nat} {P : Program} {f : FuncId} {args : Array Value} {w : World} {R : Ending → World → Prop} (hc : Calls P f args w R) : CallsIn F n P f args w R := by
 rcases h with rfl | ⟨l, rfl⟩
 ·exact callsIn_wide.2 hc
 ·exact CallsIn.inRound l (callsIn_wide.2 hc)
/-- No operation is a 'defer' statement. -/
def nodef (ops : Array Oper) : Bool := ops.toList.all fun o => match o.op with
 | .defer _ => false
 | _ => true
theorem nodef_at {ops : Array Oper} (h : nodef ops = true) {i : Nat} {o : Oper} (ho : ops[i]? = some o) : ∀ c, o.op ≠ .defer c := fun c e => by
 unfold nodef at h
 rw [List.all_eq_true] at h
 have h1 := h o (List.mem_of_getElem? (by simpa using ho))
 rw [e] at h1
 cases h1
theorem wpOpI_valG {Fx : Fence} {nf : Nat} {P : Program} {ops : Array Oper} {Q : Exit → Act → World → Prop} {i : Nat} {K : Act → World → Prop} {a : Act} {w w' : World} {o : Oper} {v : Value} (hFx : WideF Fx) (hnd : nodef ops = true) (ho : ops[i]? = some o) (hg : Region.wanted o (yielded ops a.tmps) = true)
  (hr : (execOp a.eval o).run P w = .ok (.value v) w') (hK : K (a.put o.dst v) w') : wpOpIn Fx nf P ops Q i K a w := by
 unfold wpOpIn
 rw [ho]
 simp only [hg, if_true]
 unfold Oper.wpIn
 refine ⟨fun f _ => hFx.fn f, ?_⟩
 rw [Oper.semAt_plain _ _ _ (nodef_at hnd ho), hr]
 exact hK
theorem wpOpI_callG {Fx : Fence} {nf : Nat} {P : Program} {ops : Array Oper} {Q : Exit → Act → World → Prop} {i : Nat} {K : Act → World → Prop} {a : Act} {w : World} {o : Oper} {f : FuncId} {args : Array Value} (hFx : WideF Fx) (hnd : nodef ops = true) (ho : ops[i]? = some o) (hg : Region.wanted o (yielded ops a.tmps) = true)
  (hr : (execOp a.eval o).run P w = .ok (.enter f args) w) (hc : Calls P f args w fun e w' => ∃ v, e = .returned v ∧ K (a.put o.dst v) w') : wpOpIn Fx nf P ops Q i K a w := by
 unfold wpOpIn
 rw [ho]
 simp only [hg, if_true]
 unfold Oper.wpIn
 refine ⟨fun f _ => hFx.fn f, ?_⟩
 rw [Oper.semAt_plain _ _ _ (nodef_at hnd ho), hr]
 refine ⟨fun h => (by rw [hFx.depth] at h; cases h), hFx.calls (Calls.mono hc fun e w' h => ?_)⟩
 obtain ⟨v, rfl, hK⟩ := h
 exact hK
theorem wpOpI_skipG {Fx : Fence} {nf : Nat} {P : Program} {ops : Array Oper} {Q : Exit → Act → World → Prop} {i : Nat} {K : Act → World → Prop} {a : Act} {w : World} {o : Oper} (hFx : WideF Fx) (ho : ops[i]? = some o) (hg : Region.wanted o (yielded ops a.tmps) = false) (hK : K (a.put o.dst undef) w) : wpOpIn Fx nf P ops Q i K a w := by
 unfold wpOpIn
 rw [ho]
 simp only [hg, Bool.false_eq_true, if_false]
 exact ⟨fun f _ => hFx.fn f, hK⟩
theorem wpAny_invI {Fx : Fence} {nf : Nat} {P : Program} {md : Region.Mode} {ops : Array Oper} {Q : Exit → Act → World → Prop} (J : Array Bool → Act → World → Prop)
  (hback : ∀ (i : Nat) (o : Oper), ops[i]? = some o → ∀ e ∈ o.after, Region.binds md e = true → e.on < i)
  (hstep : ∀ listed a w, listed.size = ops.size → J listed a w → ∀ i, i < ops.size → listed.getD i true = false → (∀ o : Oper, ops[i]? = some o → ∀ e ∈ o.after, Region.binds md e = true → listed.getD e.on false = true) → wpOpIn Fx nf P ops Q i (J (listed.setIfInBounds i true)) a w)
  (hend : ∀ listed a w, listed.size = ops.size → (∀ i, i < ops.size → listed.getD i true = true) → J listed a w → Q .normal a w) :
  ∀ fuel listed a w, listed.size = ops.size → toCome listed ≤ fuel → J listed a w → wpAnyIn Fx nf P md ops Q fuel listed a w := by
 intro fuel
 induction fuel with
 | zero =>
  intro listed a w hs hc hJ
  have hall : ∀ i, i < ops.size → listed.getD i true = true := fun i hi => by
   cases hl : listed.getD i true with
   | true => rfl
   | false =>
    have h1 : listed[i]? = some false := by
     rw [Array.getD_eq_getD_getElem?, Array.getElem?_eq_getElem (by omega)] at hl
     rw [Array.getElem?_eq_getElem (by omega)]
     simpa using hl
    have := toCome_set h1
    omega
  refine ⟨?_, hend listed a w hs hall hJ⟩
  cases hr : Region.ready md ops listed with
  | nil => rfl
  | cons i r =>
   have h1 := ready_of (show i ∈ Region.ready md ops listed by rw [hr]; exact List.mem_cons_self ..)
   rw [hall i h1.1] at h1
   cases h1.2.1
 | succ fuel ih =>
  intro listed a w hs hc hJ
  refine ⟨fun hr => hend listed a w hs (ready_nil hs hback hr) hJ, fun i hi => ?_⟩
  obtain ⟨h1, h2, h3⟩ := ready_of hi
  refine wpOpIn_mono (fun a' w' h => ih _ a' w' (by simpa using hs) ?_ h) (hstep listed a w hs hJ i h1 h2 h3)
  have h4 : listed[i]? = some false := by
   rw [Array.getD_eq_getD_getElem?, Array.getElem?_eq_getElem (by omega)] at h2
   rw [Array.getElem?_eq_getElem (by omega)]
   simpa using h2
  have := toCome_set h4
  omega
theorem wp_region_invI {Fx : Fence} {nf : Nat} {P : Program} {id : Nat} {ops : Array Oper} {Q : Exit → Act → World → Prop} {a : Act} {w : World} (J : Array Bool → Act → World → Prop) (hm : P.follows .mixedOrders = true)
  (hback : ∀ (i : Nat) (o : Oper), ops[i]? = some o → ∀ e ∈ o.after, Region.binds .any e = true → e.on < i)
  (h0 : J (Array.replicate ops.size false) a w.drew)
  (hstep : ∀ listed a w, listed.size = ops.size → J listed a w → ∀ i, i < ops.size → listed.getD i true = false → (∀ o : Oper, ops[i]? = some o → ∀ e ∈ o.after, Region.binds .any e = true → listed.getD e.on false = true) → wpOpIn Fx nf P ops Q i (J (listed.setIfInBounds i true)) a w)
  (hend : ∀ listed a w, listed.size = ops.size → (∀ i, i < ops.size → listed.getD i true = true) → J listed a w → Q .normal a w) :
  (Code.region id ops true).wpIn Fx nf P Q a w := by
 refine wpIn_region_any hm (wpAny_invI J hback hstep hend _ _ _ _ (by simp) ?_ h0)
 unfold toCome
 exact Nat.le_trans (List.length_filter_le _ _) (by simp)
theorem wp_region_headI {Fx : Fence} {nf : Nat} {P : Program} {id : Nat} {ops : Array Oper} {Q : Exit → Act → World → Prop} {a : Act} {w : World} (n : Nat) (V : Array Bool → Act → World → Prop) (hm : P.follows .mixedOrders = true)
  (hback : ∀ (i : Nat) (o : Oper), ops[i]? = some o → ∀ e ∈ o.after, Region.binds .any e = true → e.on < i) (hn : n ≤ ops.size) (hfull : fullB ops n = true)
  (h0 : V (Array.replicate ops.size false) a w.drew)
  (hstep : ∀ L a w, L.size = ops.size → V L a w → ∀ i, i < n → L.getD i false = false → (∀ j ∈ predsOf ops i, L.getD j false = true) → wpOpIn Fx nf P ops Q i (V (L.setIfInBounds i true)) a w)
  (hend : ∀ L a w, L.size = ops.size → (∀ i, i < n → L.getD i false = true) → V L a w → wpListIn Fx nf P ops Q (ops.toList.drop n) a w) :
  (Code.region id ops true).wpIn Fx nf P Q a w := by
 have hdrop : ∀ t, (h : n + t < ops.size) → wpListIn Fx nf P ops Q (ops.toList.drop (n + t)) = wpOpIn Fx nf P ops Q (n + t) (wpListIn Fx nf P ops Q (ops.toList.drop (n + (t + 1)))) := by
  intro t ht
  have h1 : ops.toList.drop (n + t) = ops[n + t] :: ops.toList.drop (n + (t + 1)) := by
   rw [List.drop_eq_getElem_cons (by simpa using ht)]
   rfl
  funext a w
  rw [h1]
  unfold wpOpIn
  rw [Array.getElem?_eq_getElem ht]
  rfl
 refine wp_region_invI (fun L a w => Closed ops L ∧ (((∀ i, n ≤ i → L.getD i false = false) ∧ V L a w) ∨ ∃ t, 0 < t ∧ n + t ≤ ops.size ∧ (∀ i, i < n + t → L.getD i false = true) ∧ (∀ i, n + t ≤ i → L.getD i false = false) ∧ wpListIn Fx nf P ops Q (ops.toList.drop (n + t)) a w)) hm hback ?_ ?_ ?_
 ·refine ⟨fun i hi => ?_, .inl ⟨fun i _ => ?_, h0⟩⟩
  ·rw [Array.getD_eq_getD_getElem?, Array.getElem?_replicate] at hi
   split at hi <;> simp at hi
  ·rw [Array.getD_eq_getD_getElem?, Array.getElem?_replicate]
   split <;> rfl
 ·intro L a w hs hJ i hi hL hpre
  obtain ⟨hc, hJ⟩ := hJ
  have hf := getD_no hL
  have hp : ∀ j ∈ predsOf ops i, L.getD j false = true := fun j hj => by
   obtain ⟨o, ho, e, he, hb, rfl⟩ := mem_predsOf.1 hj
   exact hpre o ho e he hb
  have hc' := closed_set hc hp
  have hset : ∀ k, L.getD k false = true ∨ k = i → k < ops.size → (L.setIfInBounds i true).getD k false = true := fun k hk hk2 => by
   by_cases hki : i = k
   ·subst hki; exact getD_eq (by omega)
   ·rw [getD_ne hki]
    rcases hk with hk | hk
    ·exact hk
    ·exact absurd hk.symm hki
  rcases hJ with ⟨hno, hV⟩ | ⟨t, ht0, htn, hyes, hno, hT⟩
  ·rcases Nat.lt_or_ge i n with hin | hin
   ·refine wpOpIn_mono (fun a' w' h => ⟨hc', .inl ⟨fun k hk => ?_, h⟩⟩) (hstep L a w hs hV i hin hf hp)
    rw [getD_ne (by omega)]; exact hno k hk
   ·have hall := full_done hfull hc hi hin hp
    have hin2 : i = n := by
     rcases Nat.lt_or_ge n i with h | h
     ·have h1 := hall n h
      rw [hno n (Nat.le_refl _)] at h1
      cases h1
     ·omega
    subst hin2
    have h2 := hend L a w hs (fun k hk => hall k hk) hV
    have h3 := hdrop 0 (by simpa using hi)
    rw [Nat.add_zero] at h3
    rw [h3] at h2
    refine wpOpIn_mono (fun a' w' h => ⟨hc', .inr ⟨1, by omega, by omega, fun k hk => hset k ?_ (by omega), fun k hk => ?_, h⟩⟩) h2
    ·rcases Nat.lt_or_ge k i with h4 | h4
     ·exact .inl (hall k h4)
     ·exact .inr (by omega)
    ·rw [getD_ne (by omega)]; exact hno k (by omega)
  ·have hin : n + t ≤ i := by
    rcases Nat.lt_or_ge i (n + t) with h | h
    ·have := hyes i h
     rw [hf] at this
     cases this
    ·exact h
   have hall := full_done hfull hc hi (by omega) hp
   have hin2 : i = n + t := by
    rcases Nat.lt_or_ge (n + t) i with h | h
    ·have h1 := hall (n + t) h
     rw [hno (n + t) (Nat.le_refl _)] at h1
     cases h1
    ·omega
   subst hin2
   rw [hdrop t hi] at hT
   refine wpOpIn_mono (fun a' w' h => ⟨hc', .inr ⟨t + 1, by omega, by omega, fun k hk => hset k ?_ (by omega), fun k hk => ?_, h⟩⟩) hT
   ·rcases Nat.lt_or_ge k (n + t) with h4 | h4
    ·exact .inl (hyes k h4)
    ·exact .inr (by omega)
   ·rw [getD_ne (by omega)]; exact hno k (by omega)
 ·intro L a w hs hall hJ
  obtain ⟨hc, hJ⟩ := hJ
  have hy : ∀ i, i < ops.size → L.getD i false = true := fun i hi => getD_yes (by omega) (hall i hi)
  rcases hJ with ⟨hno, hV⟩ | ⟨t, ht0, htn, hyes, hno, hT⟩
  ·have hnn : n = ops.size := by
    rcases Nat.lt_or_ge n ops.size with h | h
    ·have h1 := hy n h
     rw [hno n (Nat.le_refl _)] at h1
     cases h1
    ·omega
   have h2 := hend L a w hs (fun i hi => hy i (by omega)) hV
   rw [List.drop_of_length_le (by simp [hnn])] at h2
   exact h2
  ·have hnn : n + t = ops.size := by
    rcases Nat.lt_or_ge (n + t) ops.size with h | h
    ·have h1 := hy (n + t) h
     rw [hno (n + t) (Nat.le_refl _)] at h1
     cases h1
    ·omega
   rw [List.drop_of_length_le (by simp [hnn])] at hT
   exact hT
theorem wp_seq_headI {Fx : Fence} {nf : Nat} {P : Program} {id : Nat} {ops : Array Oper} {Q : Exit → Act → World → Prop} {a : Act} {w : World} (n : Nat) (V : Array Bool → Act → World → Prop)
  (hback : ∀ (i : Nat) (o : Oper), ops[i]? = some o → ∀ e ∈ o.after, Region.binds .any e = true → e.on < i) (hn : n ≤ ops.size)
  (h0 : V (Array.replicate ops.size false) a w)
  (hstep : ∀ L a w, L.size = ops.size → V L a w → ∀ i, i < n → L.getD i false = false → (∀ j ∈ predsOf ops i, L.getD j false = true) → wpOpIn Fx nf P ops Q i (V (L.setIfInBounds i true)) a w)
  (hend : ∀ L a w, L.size = ops.size → (∀ i, i < n → L.getD i false = true) → V L a w → wpListIn Fx nf P ops Q (ops.toList.drop n) a w) :
  (Code.region id ops false).wpIn Fx nf P Q a w := by
 refine wpIn_region_list ?_
 have key : ∀ m k, k + m = n → ∀ L a w, L.size = ops.size → (∀ i, i < ops.size → L.getD i false = decide (i < k)) → V L a w → wpListIn Fx nf P ops Q (ops.toList.drop k) a w := by
  intro m
  induction m with
  | zero =>
   intro k hk L a w hs hL hV
   have : k = n := by omega
   subst this
   exact hend L a w hs (fun i hi => by rw [hL i (by omega)]; exact decide_eq_true hi) hV
  | succ m ih =>
   intro k hk L a w hs hL hV
   have hk2 : k < ops.size := by omega
   have h1 : ops.toList.drop k = ops[k] :: ops.toList.drop (k + 1) := by
    rw [List.drop_eq_getElem_cons (by simpa using hk2)]
    rfl
   have h2 : wpListIn Fx nf P ops Q (ops.toList.drop k) = wpOpIn Fx nf P ops Q k (wpListIn Fx nf P ops Q (ops.toList.drop (k + 1))) := by
    funext a w
    rw [h1]
    unfold wpOpIn
    rw [Array.getElem?_eq_getElem hk2]
    rfl
   rw [h2]
   refine wpOpIn_mono (fun a' w' h => ih (k + 1) (by omega) _ a' w' (by simpa using hs) (fun i hi => ?_) h) (hstep L a w hs hV k (by omega) (by rw [hL k hk2]; simp) (fun j hj => ?_))
   ·by_cases hik : k = i
    ·subst hik; rw [getD_eq (by omega)]; simp
    ·rw [getD_ne hik, hL i hi]
     by_cases h3 : i < k
     ·rw [decide_eq_true h3, decide_eq_true (by omega)]
     ·rw [decide_eq_false h3, decide_eq_false (by omega)]
   ·obtain ⟨o, ho, e, he, hbd, rfl⟩ := mem_predsOf.1 hj
    have := hback k o ho e he hbd
    rw [hL _ (by omega)]
    exact decide_eq_true this
 have h := key n 0 (by omega) _ a w (by simp) (fun i hi => by
  rw [Array.getD_eq_getD_getElem?, Array.getElem?_replicate, if_pos hi]
  rfl) h0
 exact h
theorem wp_any_headI {Fx : Fence} {nf : Nat} {P : Program} {id : Nat} {ops : Array Oper} {Q : Exit → Act → World → Prop} {a : Act} {w : World} (dr : Bool) (n : Nat) (V : Array Bool → Act → World → Prop) (hm : P.follows .mixedOrders = true)
  (hback : ∀ (i : Nat) (o : Oper), ops[i]? = some o → ∀ e ∈ o.after, Region.binds .any e = true → e.on < i) (hn : n ≤ ops.size) (hfull : (!dr || fullB ops n) = true)
  (h0 : V (Array.replicate ops.size false) a (if dr = true then w.drew else w))
  (hstep : ∀ L a w, L.size = ops.size → V L a w → ∀ i, i < n → L.getD i false = false → (∀ j ∈ predsOf ops i, L.getD j false = true) → wpOpIn Fx nf P ops Q i (V (L.setIfInBounds i true)) a w)
  (hend : ∀ L a w, L.size = ops.size → (∀ i, i < n → L.getD i false = true) → V L a w → wpListIn Fx nf P ops Q (ops.toList.drop n) a w) :
  (Code.region id ops dr).wpIn Fx nf P Q a w := by
 cases dr with
 | true => exact wp_region_headI n V hm hback hn (by simpa using hfull) (by simpa using h0) hstep hend
 | false => exact wp_seq_headI n V hback hn (by simpa using h0) hstep hend
theorem wp_flowGI {Fx : Fence} {nf : Nat} {P : Program} {id : Nat} {ops : Array Oper} {Q : Exit → Act → World → Prop} {F : Act} {w W : World} (dr : Bool) (hW : (if dr = true then w.drew else w) = W) (n : Nat) (specs : List Sp) (al : List Bool) (hm : P.follows .mixedOrders = true)
  (hFx : WideF Fx) (hnd : nodef ops = true) (hback : backB ops = true) (hn : n ≤ ops.size) (hfull : (!dr || fullB ops n) = true) (hhead : headG ops n = true) (hsize : ∀ d ∈ dstOf ops n, d < F.tmps.size) (hmono : MonoL specs)
  (step : ∀ (k : Nat) (o : Oper), k < n → ops[k]? = some o → ∀ a wx, Below W.heap.size W wx → (∀ j d, j < n → j ∈ predsOf ops k → (dstOf ops n)[j]? = some d → nthS specs j wx (a.eval (.tmp d))) → (∀ s, s ∉ dstOf ops n → a.eval (.tmp s) = F.eval (.tmp s)) →
   DoesG P ops o (nthS specs k) (al.getD k false) a wx)
  (fin : ∀ (val : Nat → Value) wx, Below W.heap.size W wx → (∀ k, k < n → nthS specs k wx (val k)) → (∀ j k, j < n → k < n → j ≠ k → al.getD j false = true → al.getD k false = true → val j ≠ val k) →
   wpListIn Fx nf P ops Q (ops.toList.drop n) (puts F (vals (fun _ => true) val (dstOf ops n) 0)) wx) :
  (Code.region id ops dr).wpIn Fx nf P Q F w := by
 unfold headG at hhead
 rw [Bool.and_eq_true] at hhead
 obtain ⟨hh1, hh2⟩ := hhead
 have hnod := of_decide_eq_true hh2
 rw [List.all_eq_true] at hh1
 have hop : ∀ k, k < n → ∃ o d, ops[k]? = some o ∧ o.dst = some d ∧ (dstOf ops n)[k]? = some d := by
  intro k hk
  have h1 : ops[k]? = some ops[k] := Array.getElem?_eq_getElem (by omega)
  have h2 := hh1 ops[k] (by
   rw [List.mem_iff_getElem?]
   exact ⟨k, by rw [List.getElem?_take, if_pos hk]; simp⟩)
  rw [Option.isSome_iff_exists] at h2
  obtain ⟨d, hd⟩ := h2
  refine ⟨_, d, h1, hd, ?_⟩
  unfold dstOf
  rw [List.getElem?_map, List.getElem?_take, if_pos hk, Array.getElem?_toList, h1]
  simp [hd]
 have hlen : (dstOf ops n).length = n := by
  unfold dstOf
  simp
  omega
 have hnv : ∀ L val, ((vals L val (dstOf ops n) 0).map (·.2.1)).Nodup := fun L val => by rw [vals_dst]; exact hnod
 refine wp_any_headI dr n (fun L a wx => ∃ val : Nat → Value, a = puts F (vals (fun k => L.getD k false) val (dstOf ops n) 0) ∧ Below W.heap.size W wx ∧ (∀ k, k < n → L.getD k false = true → nthS specs k wx (val k)) ∧
   (∀ k, k < n → L.getD k false = true → al.getD k false = true → ∃ g, val k = .pointer (some ⟨g, 0, none⟩) ∧ g < wx.heap.size) ∧
   (∀ j k, j < n → k < n → j ≠ k → L.getD j false = true → L.getD k false = true → al.getD j false = true → al.getD k false = true → val j ≠ val k)) hm (back_of hback) hn hfull ?_ ?_ ?_
 ·have hfalse : ∀ k, (Array.replicate ops.size false).getD k false = false := fun k => by
   rw [Array.getD_eq_getD_getElem?, Array.getElem?_replicate]
   split <;> rfl
  refine ⟨fun _ => undef, ?_, by rw [← hW]; exact Below.refl _ _, fun k _ h => absurd ((hfalse k).symm.trans h) (by simp), fun k _ h => absurd ((hfalse k).symm.trans h) (by simp), fun j k _ _ _ h => absurd ((hfalse j).symm.trans h) (by simp)⟩
  rw [vals_congr (L' := fun _ => false) _ _ _ (fun i _ => hfalse _)]
  have : ∀ (l : List Nat) (k : Nat) (t : Array Value), (vals (fun _ => false) (fun _ => undef) l k).foldl (fun t x => if x.1 then t.setIfInBounds x.2.1 x.2.2 else t) t = t := by
   intro l
   induction l with
   | nil => intro _ _; rfl
   | cons d l ih => intro k t; simp [vals, ih]
  unfold puts
  rw [this]
 ·intro L a wx hs hV i hin hf hp
  obtain ⟨val, rfl, hB, hspec, hal, hdis⟩ := hV
  obtain ⟨o, d, ho, hd, hdst⟩ := hop i hin
  have hst := step i o hin ho (puts F (vals (fun k => L.getD k false) val (dstOf ops n) 0)) wx hB (fun j dj hj hjp hdj => by
   have h1 := vals_get (fun k => L.getD k false) val (dstOf ops n) 0 j dj hdj
   rw [Nat.zero_add] at h1
   have h2 := hp j hjp
   rw [h2] at h1
   rw [puts_eval (hnv _ _) (List.mem_of_getElem? h1) (hsize dj (List.mem_of_getElem? hdj))]
   exact hspec j hj h2) (fun s hs2 => puts_other (fun x hx e => hs2 (by
    have := (List.mem_map (f := fun x : Bool × Nat × Value => x.2.1)).2 ⟨x, hx, e⟩
    rwa [vals_dst] at this)))
  have hput : ∀ v, (puts F (vals (fun k => L.getD k false) val (dstOf ops n) 0)).put o.dst v = puts F (vals (fun k => (L.setIfInBounds i true).getD k false) (fun j => if j = i then v else val j) (dstOf ops n) 0) := fun v => by
   rw [hd]
   have h1 := vals_get (fun k => L.getD k false) val (dstOf ops n) 0 i d hdst
   rw [Nat.zero_add, hf] at h1
   rw [puts_put (hnv _ _) h1, vals_set _ _ v _ _ _ _ hdst]
   congr 1
   simp only [Nat.zero_add]
   refine vals_congr _ _ _ (fun k hk => ?_)
   rw [Nat.zero_add]
   by_cases hki : k = i
   ·subst hki; rw [if_pos rfl, getD_eq (by omega)]
   ·rw [if_neg hki, getD_ne (fun e => hki e.symm)]
  have hkeep : ∀ v w', Below wx.heap.size wx w' → nthS specs i w' v → (al.getD i false = true → v = .pointer (some ⟨wx.heap.size, 0, none⟩) ∧ wx.heap.size < w'.heap.size) →
    ∃ val' : Nat → Value, (puts F (vals (fun k => L.getD k false) val (dstOf ops n) 0)).put o.dst v = puts F (vals (fun k => (L.setIfInBounds i true).getD k false) val' (dstOf ops n) 0) ∧ Below W.heap.size W w' ∧ (∀ k, k < n → (L.setIfInBounds i true).getD k false = true → nthS specs k w' (val' k)) ∧
    (∀ k, k < n → (L.setIfInBounds i true).getD k false = true → al.getD k false = true → ∃ g, val' k = .pointer (some ⟨g, 0, none⟩) ∧ g < w'.heap.size) ∧
    (∀ j k, j < n → k < n → j ≠ k → (L.setIfInBounds i true).getD j false = true → (L.setIfInBounds i true).getD k false = true → al.getD j false = true → al.getD k false = true → val' j ≠ val' k) := by
   intro v w' hb hsp hsa
   have hold : ∀ k, k ≠ i → (L.setIfInBounds i true).getD k false = true → L.getD k false = true := fun k hk h => by
    rwa [getD_ne (fun e => hk e.symm)] at h
   refine ⟨_, hput v, Blw hB hb, fun k hk hL => ?_, fun k hk hL ha => ?_, fun j k hj hk hjk hL1 hL2 ha1 ha2 => ?_⟩
   ·by_cases hki : k = i
    ·subst hki; simp only [if_pos]; exact hsp
    ·simp only [if_neg hki]
     exact hmono.nth k _ _ _ (hspec k hk (hold k hki hL)) hb
   ·by_cases hki : k = i
    ·subst hki; simp only [if_pos]; exact ⟨_, hsa ha⟩
    ·simp only [if_neg hki]
     obtain ⟨g, h1, h2⟩ := hal k hk (hold k hki hL) ha
     exact ⟨g, h1, Nat.lt_of_lt_of_le h2 hb.size⟩
   ·by_cases hji : j = i
    ·subst hji
     have hkj : k ≠ j := fun e => hjk e.symm
     simp only [if_pos, if_neg hkj]
     obtain ⟨g, h1, h2⟩ := hal k hk (hold k hkj hL2) ha2
     rw [h1, (hsa ha1).1]
     intro e
     injection e with e
     injection e with e
     injection e with e
     omega
    ·by_cases hki : k = i
     ·subst hki
      simp only [if_pos, if_neg hji]
      obtain ⟨g, h1, h2⟩ := hal j hj (hold j hji hL1) ha1
      rw [h1, (hsa ha2).1]
      intro e
      injection e with e
      injection e with e
      injection e with e
      omega
     ·simp only [if_neg hji, if_neg hki]
      exact hdis j k hj hk hjk (hold j hji hL1) (hold k hki hL2) ha1 ha2
  rcases hst with ⟨hg, hst⟩ | ⟨hg, hna, hsp⟩
  ·rcases hst with ⟨v, w', hr, hb, hsp, hsa⟩ | ⟨hna, f, args, hr, hc⟩
   ·exact wpOpI_valG hFx hnd ho hg hr (hkeep v w' hb hsp hsa)
   ·refine wpOpI_callG hFx hnd ho hg hr (hc.mono fun e w' h => ?_)
    obtain ⟨v, he, hb, hsp⟩ := h
    exact ⟨v, he, hkeep v w' hb hsp (fun h => by rw [hna] at h; cases h)⟩
  ·exact wpOpI_skipG hFx ho hg (hkeep undef wx (Below.refl _ _) hsp (fun h => by rw [hna] at h; cases h))
 ·intro L a wx hs hall hV
  obtain ⟨val, rfl, hB, hspec, hal, hdis⟩ := hV
  rw [vals_congr (L' := fun _ => true) _ _ _ (fun i hi => by rw [Nat.zero_add]; exact hall i (by omega))]
  exact fin val wx hB (fun k hk => hspec k hk (hall k hk)) (fun j k hj hk hjk h1 h2 => hdis j k hj hk hjk (hall j hj) (hall k hk) h1 h2)
theorem wp_flow_tabGI {Fx : Fence} {nf : Nat} {P : Program} {id : Nat} {ops : Array Oper} {Q : Exit → Act → World → Prop} {F : Act} {w W : World} (dr : Bool) (hW : (if dr = true then w.drew else w) = W) (n : Nat) (tab : List (Nat × List Nat)) (specs : List Sp) (al : List Bool) (hm : P.follows .mixedOrders = true)
  (hFx : WideF Fx) (hnd : nodef ops = true) (hback : backB ops = true) (hfull : (!dr || fullB ops n) = true) (hhead : headG ops n = true) (htab : tabB ops n tab = true) (hsize : ∀ d ∈ tab.map (·.1), d < F.tmps.size) (hmono : MonoL specs)
  (step : ∀ (k : Nat), k < n → ∀ a wx, Below W.heap.size W wx → Have specs (tab.map (·.1)) wx a (tab.getD k (0, [])).2 → (∀ s, (tab.map (·.1)).contains s = false → a.eval (.tmp s) = F.eval (.tmp s)) →
   ∃ o, ops[k]? = some o ∧ DoesG P ops o (nthS specs k) (al.getD k false) a wx)
  (fin : ∀ (val : Nat → Value) wx, Below W.heap.size W wx → (∀ k, k < n → nthS specs k wx (val k)) → (∀ j k, j < n → k < n → j ≠ k → al.getD j false = true → al.getD k false = true → val j ≠ val k) →
   wpListIn Fx nf P ops Q (ops.toList.drop n) (puts F (vals (fun _ => true) val (tab.map (·.1)) 0)) wx) :
  (Code.region id ops dr).wpIn Fx nf P Q F w := by
 unfold tabB at htab
 simp only [Bool.and_eq_true, decide_eq_true_eq, List.all_eq_true] at htab
 obtain ⟨⟨⟨h1, h2⟩, h3⟩, h4⟩ := htab
 refine wp_flowGI dr hW n specs al hm hFx hnd hback h1 hfull hhead (by rw [h2]; exact hsize) hmono ?_ (by rw [h2]; exact fin)
 intro k o hk ho a wx hB hp hs
 rw [h2] at hp hs
 have hx : tab[k]? = some (tab.getD k (0, [])) := by
  rw [List.getD_eq_getElem?_getD, List.getElem?_eq_getElem (by omega)]
  rfl
 obtain ⟨o', ho', hd⟩ := step k hk a wx hB (have_of _ (fun j hj => by
  have h5 := h4 (tab.getD k (0, []), k) (by rw [List.mem_zipIdx_iff_getElem?]; exact hx) j hj
  refine hp j _ h5.1 (by simpa using h5.2) ?_
  rw [List.getD_eq_getElem?_getD, List.getElem?_eq_getElem (by simp; omega)]
  rfl)) (fun s hs2 => hs s (by simpa using hs2))
 rw [ho] at ho'
 injection ho' with ho'
 rw [ho']
 exact hd
theorem gen_actI {Fx : Fence} {nf : Nat} {P : Program} {c : Code} {Q : Exit → Act → World → Prop} {a : Act} {w : World} (h : ∀ F : Act, a = F → c.wpIn Fx nf P Q F w) : c.wpIn Fx nf P Q a w := h a rfl
theorem puts_consT (t : Array Value) (d : List Deferred) (s : Nat) (v : Value) (l : List (Bool × Nat × Value)) : puts (Act.mk t d) (List.cons (true, s, v) l) = puts (Act.mk (Array.setIfInBounds t s v) d) l := rfl
theorem puts_nilm (t : Array Value) (d : List Deferred) : puts (Act.mk t d) List.nil = Act.mk t d := rfl
theorem op_mv {P : Program} {o : Oper} {a : Act} {wx : World} {x : Operand} {s : Sp} (ho : o.op = .move x) (h : s wx (a.eval x)) : Does P o s false a wx := Does.val (by simp only [execOp, ho]; rfl) h
theorem dB {w W wx : World} (hW : w.drew = W) (h : Below W.heap.size W wx) : Below w.heap.size w wx := by subst hW; exact ⟨h.os, h.tape, h.output, h.size, h.block⟩
theorem below_grown0 {w w' : World} (h : Below w.heap.size w w') : w.grownBy w' none := ⟨h.os, h.tape, h.output, h.size, fun k hk _ => h.block k hk⟩
end Go.Proofs.YtnpdpjfdgialeaaGreatDoor
