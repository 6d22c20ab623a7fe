/-
 A REGION THAT DRAWS ITS ORDER, AS A FLOW OF VALUES: each operation says what it yields once its operands are there, whatever else was done; the stores come last.
-/
import Derived.Test.YtcfejkpadcccbaaGreatPlainW
import Derived.Test.YtcfejkpadcccbaaGreatMemR
namespace Go.Proofs.YtcfejkpadcccbaaGreat
open Go.RowKit
/-- The operations that must be done ahead of one. -/
def predsOf (ops : Array Oper) (i : Nat) : List Nat := match ops[i]? with
 | none => []
 | some o => (o.after.toList.filter (fun e => Region.binds .any e)).map (·.on)
def covB (ops : Array Oper) : Nat → List Nat → Bool
 | 0, _ => true
 | j + 1, S => S.contains j && covB ops j (S ++ predsOf ops j)
/-- Every operation from n on waits for all that stand before it. -/
def fullB (ops : Array Oper) (n : Nat) : Bool := (List.range ops.size).all fun i => decide (i < n) || covB ops i (predsOf ops i)
def Closed (ops : Array Oper) (L : Array Bool) : Prop := ∀ i, L.getD i false = true → ∀ j ∈ predsOf ops i, L.getD j false = true
theorem mem_predsOf {ops : Array Oper} {i j : Nat} : j ∈ predsOf ops i ↔ ∃ o, ops[i]? = some o ∧ ∃ e ∈ o.after, Region.binds .any e = true ∧ e.on = j := by
 unfold predsOf
 cases h : ops[i]? with
 | none => simp
 | some o => simp [and_assoc]
theorem cov_done {ops : Array Oper} {L : Array Bool} (hc : Closed ops L) : ∀ (k : Nat) (S : List Nat), covB ops k S = true → (∀ j ∈ S, L.getD j false = true) → ∀ j, j < k → L.getD j false = true
 | 0, _, _, _, _, h => absurd h (Nat.not_lt_zero _)
 | k + 1, S, hb, hS, j, hj => by
  simp only [covB, Bool.and_eq_true] at hb
  have hk : L.getD k false = true := hS k (by simpa using hb.1)
  rcases Nat.lt_or_ge j k with h | h
  ·exact cov_done hc k _ hb.2 (fun x hx => by
    rcases List.mem_append.1 hx with hx | hx
    ·exact hS x hx
    ·exact hc k hk x hx) j h
  ·rw [show j = k by omega]; exact hk
theorem full_done {ops : Array Oper} {n : Nat} (hf : fullB ops n = true) {L : Array Bool} (hc : Closed ops L) {i : Nat} (hi : i < ops.size) (hn : n ≤ i) (hp : ∀ j ∈ predsOf ops i, L.getD j false = true) : ∀ j, j < i → L.getD j false = true := by
 unfold fullB at hf
 rw [List.all_eq_true] at hf
 have h1 := hf i (by simpa using hi)
 simp only [Bool.or_eq_true, decide_eq_true_eq] at h1
 rcases h1 with h1 | h1
 ·omega
 ·exact cov_done hc i _ h1 hp
theorem closed_set {ops : Array Oper} {L : Array Bool} (hc : Closed ops L) {i : Nat} (hp : ∀ j ∈ predsOf ops i, L.getD j false = true) : Closed ops (L.setIfInBounds i true) := by
 intro k hk j hj
 by_cases hij : i = j
 ·subst hij
  by_cases hik : i = k
  ·subst hik
   rw [Array.getD_eq_getD_getElem?, Array.getElem?_setIfInBounds, if_pos rfl]
   split
   ·rfl
   ·have := hp i hj
    rw [Array.getD_eq_getD_getElem?, Array.getElem?_eq_none (by omega)] at this
    exact this
  ·rw [getD_ne hik] at hk
   have h1 := hc k hk i hj
   rw [Array.getD_eq_getD_getElem?, Array.getElem?_setIfInBounds, if_pos rfl]
   split
   ·rfl
   ·rw [Array.getD_eq_getD_getElem?, Array.getElem?_eq_none (by omega)] at h1
    exact h1
 ·rw [getD_ne hij]
  by_cases hik : i = k
  ·subst hik; exact hp j hj
  ·rw [getD_ne hik] at hk
   exact hc k hk j hj
/-- A region: its first n operations by an invariant, whatever the order; the rest, one after the other. -/
theorem wp_region_head {P : Program} {id : Nat} {ops : Array Oper} {Q : Exit → Act → World → Prop} {a : Act} {w : World} (n : Nat) (V : Array Bool → Act → World → Prop) (hm : P.follows .mixedOrders = true)
  (hback : ∀ (i : Nat) (o : Oper), ops[i]? = some o → ∀ e ∈ o.after, Region.binds .any e = true → e.on < i) (hn : n ≤ ops.size) (hfull : fullB ops n = true)
  (h0 : V (Array.replicate ops.size false) a w.drew)
  (hstep : ∀ L a w, L.size = ops.size → V L a w → ∀ i, i < n → L.getD i false = false → (∀ j ∈ predsOf ops i, L.getD j false = true) → wpOp P ops Q i (V (L.setIfInBounds i true)) a w)
  (hend : ∀ L a w, L.size = ops.size → (∀ i, i < n → L.getD i false = true) → V L a w → wpList P ops Q (ops.toList.drop n) a w) :
  (Code.region id ops true).wp P Q a w := by
 have hdrop : ∀ t, (h : n + t < ops.size) → wpList P ops Q (ops.toList.drop (n + t)) = wpOp P ops Q (n + t) (wpList P ops Q (ops.toList.drop (n + (t + 1)))) := by
  intro t ht
  have h1 : ops.toList.drop (n + t) = ops[n + t] :: ops.toList.drop (n + (t + 1)) := by
   rw [List.drop_eq_getElem_cons (by simpa using ht)]
   rfl
  funext a w
  rw [h1]
  unfold wpOp
  rw [Array.getElem?_eq_getElem ht]
  rfl
 refine wp_region_inv (fun L a w => Closed ops L ∧ (((∀ i, n ≤ i → L.getD i false = false) ∧ V L a w) ∨ ∃ t, 0 < t ∧ n + t ≤ ops.size ∧ (∀ i, i < n + t → L.getD i false = true) ∧ (∀ i, n + t ≤ i → L.getD i false = false) ∧ wpList P ops Q (ops.toList.drop (n + t)) a w)) hm hback ?_ ?_ ?_
 ·refine ⟨fun i hi => ?_, .inl ⟨fun i _ => ?_, h0⟩⟩
  ·rw [Array.getD_eq_getD_getElem?, Array.getElem?_replicate] at hi
   split at hi <;> simp at hi
  ·rw [Array.getD_eq_getD_getElem?, Array.getElem?_replicate]
   split <;> rfl
 ·intro L a w hs hJ i hi hL hpre
  obtain ⟨hc, hJ⟩ := hJ
  have hf := getD_no hL
  have hp : ∀ j ∈ predsOf ops i, L.getD j false = true := fun j hj => by
   obtain ⟨o, ho, e, he, hb, rfl⟩ := mem_predsOf.1 hj
   exact hpre o ho e he hb
  have hc' := closed_set hc hp
  have hset : ∀ k, L.getD k false = true ∨ k = i → k < ops.size → (L.setIfInBounds i true).getD k false = true := fun k hk hk2 => by
   by_cases hki : i = k
   ·subst hki; exact getD_eq (by omega)
   ·rw [getD_ne hki]
    rcases hk with hk | hk
    ·exact hk
    ·exact absurd hk.symm hki
  rcases hJ with ⟨hno, hV⟩ | ⟨t, ht0, htn, hyes, hno, hT⟩
  ·rcases Nat.lt_or_ge i n with hin | hin
   ·refine wpOp_mono (fun a' w' h => ⟨hc', .inl ⟨fun k hk => ?_, h⟩⟩) (hstep L a w hs hV i hin hf hp)
    rw [getD_ne (by omega)]; exact hno k hk
   ·have hall := full_done hfull hc hi hin hp
    have hin2 : i = n := by
     rcases Nat.lt_or_ge n i with h | h
     ·have h1 := hall n h
      rw [hno n (Nat.le_refl _)] at h1
      cases h1
     ·omega
    subst hin2
    have h2 := hend L a w hs (fun k hk => hall k hk) hV
    have h3 := hdrop 0 (by simpa using hi)
    rw [Nat.add_zero] at h3
    rw [h3] at h2
    refine wpOp_mono (fun a' w' h => ⟨hc', .inr ⟨1, by omega, by omega, fun k hk => hset k ?_ (by omega), fun k hk => ?_, h⟩⟩) h2
    ·rcases Nat.lt_or_ge k i with h4 | h4
     ·exact .inl (hall k h4)
     ·exact .inr (by omega)
    ·rw [getD_ne (by omega)]; exact hno k (by omega)
  ·have hin : n + t ≤ i := by
    rcases Nat.lt_or_ge i (n + t) with h | h
    ·have := hyes i h
     rw [hf] at this
     cases this
    ·exact h
   have hall := full_done hfull hc hi (by omega) hp
   have hin2 : i = n + t := by
    rcases Nat.lt_or_ge (n + t) i with h | h
    ·have h1 := hall (n + t) h
     rw [hno (n + t) (Nat.le_refl _)] at h1
     cases h1
    ·omega
   subst hin2
   rw [hdrop t hi] at hT
   refine wpOp_mono (fun a' w' h => ⟨hc', .inr ⟨t + 1, by omega, by omega, fun k hk => hset k ?_ (by omega), fun k hk => ?_, h⟩⟩) hT
   ·rcases Nat.lt_or_ge k (n + t) with h4 | h4
    ·exact .inl (hyes k h4)
    ·exact .inr (by omega)
   ·rw [getD_ne (by omega)]; exact hno k (by omega)
 ·intro L a w hs hall hJ
  obtain ⟨hc, hJ⟩ := hJ
  have hy : ∀ i, i < ops.size → L.getD i false = true := fun i hi => getD_yes (by omega) (hall i hi)
  rcases hJ with ⟨hno, hV⟩ | ⟨t, ht0, htn, hyes, hno, hT⟩
  ·have hnn : n = ops.size := by
    rcases Nat.lt_or_ge n ops.size with h | h
    ·have h1 := hy n h
     rw [hno n (Nat.le_refl _)] at h1
     cases h1
    ·omega
   have h2 := hend L a w hs (fun i hi => hy i (by omega)) hV
   rw [List.drop_of_length_le (by simp [hnn])] at h2
   exact h2
  ·have hnn : n + t = ops.size := by
    rcases Nat.lt_or_ge (n + t) ops.size with h | h
    ·have h1 := hy (n + t) h
     rw [hno (n + t) (Nat.le_refl _)] at h1
     cases h1
    ·omega
   rw [List.drop_of_length_le (by simp [hnn])] at hT
   exact hT
/-- The same for a region that keeps the text's order. -/
theorem wp_seq_head {P : Program} {id : Nat} {ops : Array Oper} {Q : Exit → Act → World → Prop} {a : Act} {w : World} (n : Nat) (V : Array Bool → Act → World → Prop)
  (hback : ∀ (i : Nat) (o : Oper), ops[i]? = some o → ∀ e ∈ o.after, Region.binds .any e = true → e.on < i) (hn : n ≤ ops.size)
  (h0 : V (Array.replicate ops.size false) a w)
  (hstep : ∀ L a w, L.size = ops.size → V L a w → ∀ i, i < n → L.getD i false = false → (∀ j ∈ predsOf ops i, L.getD j false = true) → wpOp P ops Q i (V (L.setIfInBounds i true)) a w)
  (hend : ∀ L a w, L.size = ops.size → (∀ i, i < n → L.getD i false = true) → V L a w → wpList P ops Q (ops.toList.drop n) a w) :
  (Code.region id ops false).wp P Q a w := by
 refine wp_region_list ?_
 have key : ∀ m k, k + m = n → ∀ L a w, L.size = ops.size → (∀ i, i < ops.size → L.getD i false = decide (i < k)) → V L a w → wpList P ops Q (ops.toList.drop k) a w := by
  intro m
  induction m with
  | zero =>
   intro k hk L a w hs hL hV
   have : k = n := by omega
   subst this
   exact hend L a w hs (fun i hi => by rw [hL i (by omega)]; exact decide_eq_true hi) hV
  | succ m ih =>
   intro k hk L a w hs hL hV
   have hk2 : k < ops.size := by omega
   have h1 : ops.toList.drop k = ops[k] :: ops.toList.drop (k + 1) := by
    rw [List.drop_eq_getElem_cons (by simpa using hk2)]
    rfl
   have h2 : wpList P ops Q (ops.toList.drop k) = wpOp P ops Q k (wpList P ops Q (ops.toList.drop (k + 1))) := by
    funext a w
    rw [h1]
    unfold wpOp
    rw [Array.getElem?_eq_getElem hk2]
    rfl
   rw [h2]
   refine wpOp_mono (fun a' w' h => ih (k + 1) (by omega) _ a' w' (by simpa using hs) (fun i hi => ?_) h) (hstep L a w hs hV k (by omega) (by rw [hL k hk2]; simp) (fun j hj => ?_))
   ·by_cases hik : k = i
    ·subst hik; rw [getD_eq (by omega)]; simp
    ·rw [getD_ne hik, hL i hi]
     by_cases h3 : i < k
     ·rw [decide_eq_true h3, decide_eq_true (by omega)]
     ·rw [decide_eq_false h3, decide_eq_false (by omega)]
   ·obtain ⟨o, ho, e, he, hbd, rfl⟩ := mem_predsOf.1 hj
    have := hback k o ho e he hbd
    rw [hL _ (by omega)]
    exact decide_eq_true this
 have h := key n 0 (by omega) _ a w (by simp) (fun i hi => by
  rw [Array.getD_eq_getD_getElem?, Array.getElem?_replicate, if_pos hi]
  rfl) h0
 exact h
theorem wp_any_head {P : Program} {id : Nat} {ops : Array Oper} {Q : Exit → Act → World → Prop} {a : Act} {w : World} (dr : Bool) (n : Nat) (V : Array Bool → Act → World → Prop) (hm : P.follows .mixedOrders = true)
  (hback : ∀ (i : Nat) (o : Oper), ops[i]? = some o → ∀ e ∈ o.after, Region.binds .any e = true → e.on < i) (hn : n ≤ ops.size) (hfull : (!dr || fullB ops n) = true)
  (h0 : V (Array.replicate ops.size false) a (if dr = true then w.drew else w))
  (hstep : ∀ L a w, L.size = ops.size → V L a w → ∀ i, i < n → L.getD i false = false → (∀ j ∈ predsOf ops i, L.getD j false = true) → wpOp P ops Q i (V (L.setIfInBounds i true)) a w)
  (hend : ∀ L a w, L.size = ops.size → (∀ i, i < n → L.getD i false = true) → V L a w → wpList P ops Q (ops.toList.drop n) a w) :
  (Code.region id ops dr).wp P Q a w := by
 cases dr with
 | true => exact wp_region_head n V hm hback hn (by simpa using hfull) (by simpa using h0) hstep hend
 | false => exact wp_seq_head n V hback hn (by simpa using h0) hstep hend
/-- The k-th of a list of such words on a value in a world. -/
abbrev Sp := World → Value → Prop
def nthS : List Sp → Nat → Sp
 | [], _ => fun _ _ => True
 | s :: _, 0 => s
 | _ :: r, k + 1 => nthS r k
/-- It stays true where memory is only made. -/
def Mono (s : Sp) : Prop := ∀ w w' v, s w v → Below w.heap.size w w' → s w' v
def MonoL : List Sp → Prop
 | [] => True
 | s :: r => Mono s ∧ MonoL r
theorem MonoL.nth : ∀ {l : List Sp}, MonoL l → ∀ k, Mono (nthS l k)
 | [], _, _ => fun _ _ _ _ _ => trivial
 | _ :: _, h, 0 => h.1
 | _ :: _, h, k + 1 => MonoL.nth h.2 k
/-- What an operation of such a region does: a value, or a call. -/
def Does (P : Program) (o : Oper) (s : Sp) (al : Bool) (a : Act) (wx : World) : Prop :=
 (∃ v w', (execOp a.eval o).run P wx = .ok (.value v) w' ∧ Below wx.heap.size wx w' ∧ s w' v ∧ (al = true → v = .pointer (some ⟨wx.heap.size, 0, none⟩) ∧ wx.heap.size < w'.heap.size)) ∨
 (al = false ∧ ∃ f args, (execOp a.eval o).run P wx = .ok (.enter f args) wx ∧ Calls P f args wx fun e w' => ∃ v, e = .returned v ∧ Below wx.heap.size wx w' ∧ s w' v)
/-- The slots that the first operations write, in order. -/
def dstOf (ops : Array Oper) (n : Nat) : List Nat := (ops.toList.take n).map fun o => o.dst.getD 0
/-- The first n operations have slots, all different, and no guard. -/
def headB (ops : Array Oper) (n : Nat) : Bool := (ops.toList.take n).all (fun o => o.dst.isSome && o.guard.isNone) && decide ((dstOf ops n).Nodup)
/-- The values put into the slots. -/
def vals (L : Nat → Bool) (val : Nat → Value) : List Nat → Nat → List (Bool × Nat × Value)
 | [], _ => []
 | d :: r, k => (L k, d, val k) :: vals L val r (k + 1)
theorem vals_dst (L : Nat → Bool) (val : Nat → Value) : ∀ (l : List Nat) (k : Nat), (vals L val l k).map (·.2.1) = l
 | [], _ => rfl
 | d :: r, k => by simp [vals, vals_dst L val r (k + 1)]
theorem vals_get (L : Nat → Bool) (val : Nat → Value) : ∀ (l : List Nat) (k i : Nat) (d : Nat), l[i]? = some d → (vals L val l k)[i]? = some (L (k + i), d, val (k + i))
 | [], _, _, _, h => by simp at h
 | x :: r, k, 0, d, h => by simp at h; subst h; rfl
 | x :: r, k, i + 1, d, h => by
  simp only [List.getElem?_cons_succ] at h
  simp only [vals, List.getElem?_cons_succ]
  rw [vals_get L val r (k + 1) i d h, show k + 1 + i = k + (i + 1) by omega]
theorem vals_set (L : Nat → Bool) (val : Nat → Value) (v : Value) : ∀ (l : List Nat) (k i d : Nat), l[i]? = some d →
  (vals L val l k).set i (true, d, v) = vals (fun j => if j = k + i then true else L j) (fun j => if j = k + i then v else val j) l k
 | [], _, _, _, h => by simp at h
 | x :: r, k, 0, d, h => by
  simp at h; subst h
  have : ∀ (l : List Nat) (m : Nat), k < m → vals L val l m = vals (fun j => if j = k + 0 then true else L j) (fun j => if j = k + 0 then v else val j) l m := by
   intro l
   induction l with
   | nil => intro _ _; rfl
   | cons y l ih =>
    intro m hm
    simp only [vals]
    rw [ih (m + 1) (by omega), if_neg (by omega), if_neg (by omega)]
  simp only [vals, List.set_cons_zero]
  rw [this r (k + 1) (by omega)]
  simp
 | x :: r, k, i + 1, d, h => by
  simp only [List.getElem?_cons_succ] at h
  simp only [vals, List.set_cons_succ]
  rw [vals_set L val v r (k + 1) i d h, show k + 1 + i = k + (i + 1) by omega, if_neg (by omega), if_neg (by omega)]
theorem vals_congr {L L' : Nat → Bool} (val : Nat → Value) : ∀ (l : List Nat) (k : Nat), (∀ i, i < l.length → L (k + i) = L' (k + i)) → vals L val l k = vals L' val l k
 | [], _, _ => rfl
 | x :: r, k, h => by
  have h1 : L k = L' k := h 0 (by simp)
  have h2 := vals_congr (L := L) (L' := L') val r (k + 1) (fun i hi => by
   have h3 := h (i + 1) (by simpa using hi)
   rw [show k + (i + 1) = k + 1 + i from by omega] at h3
   exact h3)
  simp only [vals]
  rw [h1, h2]
/-- The same for an operation with a guard: it may be left out. -/
def DoesG (P : Program) (ops : Array Oper) (o : Oper) (s : Sp) (al : Bool) (a : Act) (wx : World) : Prop :=
 (Region.wanted o (yielded ops a.tmps) = true ∧ Does P o s al a wx) ∨ (Region.wanted o (yielded ops a.tmps) = false ∧ al = false ∧ s wx undef)
def headG (ops : Array Oper) (n : Nat) : Bool := (ops.toList.take n).all (fun o => o.dst.isSome) && decide ((dstOf ops n).Nodup)
theorem wanted_of {ops : Array Oper} {o : Oper} {a : Act} {j d : Nat} {want b : Bool} (hg : o.guard = some (j, want)) (hd : (ops[j]?).bind (·.dst) = some d) (he : a.eval (.tmp d) = .bool b) : Region.wanted o (yielded ops a.tmps) = (b == want) := by
 have h1 : a.tmps[d]? = some (.bool b) := by
  simp only [Act.eval, Array.getD_eq_getD_getElem?] at he
  cases h : a.tmps[d]? with
  | none => rw [h] at he; cases he
  | some x => rw [h] at he; simp at he; rw [he]
 unfold Region.wanted
 rw [hg]
 simp only [yielded, hd, Option.bind_some, h1]
 cases b <;> cases want <;> rfl
theorem wanted_none {ops : Array Oper} {o : Oper} {a : Act} (hg : o.guard = none) : Region.wanted o (yielded ops a.tmps) = true := by
 unfold Region.wanted
 rw [hg]
theorem wpOp_valG {P : Program} {ops : Array Oper} {Q : Exit → Act → World → Prop} {i : Nat} {K : Act → World → Prop} {a : Act} {w w' : World} {o : Oper} {v : Value} (ho : ops[i]? = some o) (hg : Region.wanted o (yielded ops a.tmps) = true)
  (hr : (execOp a.eval o).run P w = .ok (.value v) w') (hK : K (a.put o.dst v) w') : wpOp P ops Q i K a w := by
 unfold wpOp
 rw [ho]
 simp only [hg, if_true]
 refine .inl ?_
 unfold Oper.wp
 rw [hr]
 exact hK
theorem wpOp_callG {P : Program} {ops : Array Oper} {Q : Exit → Act → World → Prop} {i : Nat} {K : Act → World → Prop} {a : Act} {w : World} {o : Oper} {f : FuncId} {args : Array Value} (ho : ops[i]? = some o) (hg : Region.wanted o (yielded ops a.tmps) = true)
  (hr : (execOp a.eval o).run P w = .ok (.enter f args) w) (hc : Calls P f args w fun e w' => ∃ v, e = .returned v ∧ K (a.put o.dst v) w') : wpOp P ops Q i K a w := by
 unfold wpOp
 rw [ho]
 simp only [hg, if_true]
 refine .inl ?_
 unfold Oper.wp
 rw [hr]
 refine Calls.mono hc fun e w' h => ?_
 obtain ⟨v, rfl, hK⟩ := h
 exact hK
theorem wpOp_skipG {P : Program} {ops : Array Oper} {Q : Exit → Act → World → Prop} {i : Nat} {K : Act → World → Prop} {a : Act} {w : World} {o : Oper} (ho : ops[i]? = some o) (hg : Region.wanted o (yielded ops a.tmps) = false) (hK : K (a.put o.dst undef) w) : wpOp P ops Q i K a w := by
 unfold wpOp
 rw [ho]
 simp only [hg, Bool.false_eq_true, if_false]
 exact hK
/-- **A region as a flow of values**, guards too. -/
theorem wp_flowG {P : Program} {id : Nat} {ops : Array Oper} {Q : Exit → Act → World → Prop} {F : Act} {w W : World} (dr : Bool) (hW : (if dr = true then w.drew else w) = W) (n : Nat) (specs : List Sp) (al : List Bool) (hm : P.follows .mixedOrders = true)
  (hback : backB ops = true) (hn : n ≤ ops.size) (hfull : (!dr || fullB ops n) = true) (hhead : headG ops n = true) (hsize : ∀ d ∈ dstOf ops n, d < F.tmps.size) (hmono : MonoL specs)
  (step : ∀ (k : Nat) (o : Oper), k < n → ops[k]? = some o → ∀ a wx, Below W.heap.size W wx → (∀ j d, j < n → j ∈ predsOf ops k → (dstOf ops n)[j]? = some d → nthS specs j wx (a.eval (.tmp d))) → (∀ s, s ∉ dstOf ops n → a.eval (.tmp s) = F.eval (.tmp s)) →
   DoesG P ops o (nthS specs k) (al.getD k false) a wx)
  (fin : ∀ (val : Nat → Value) wx, Below W.heap.size W wx → (∀ k, k < n → nthS specs k wx (val k)) → (∀ j k, j < n → k < n → j ≠ k → al.getD j false = true → al.getD k false = true → val j ≠ val k) →
   wpList P ops Q (ops.toList.drop n) (puts F (vals (fun _ => true) val (dstOf ops n) 0)) wx) :
  (Code.region id ops dr).wp P Q F w := by
 unfold headG at hhead
 rw [Bool.and_eq_true] at hhead
 obtain ⟨hh1, hh2⟩ := hhead
 have hnod := of_decide_eq_true hh2
 rw [List.all_eq_true] at hh1
 have hop : ∀ k, k < n → ∃ o d, ops[k]? = some o ∧ o.dst = some d ∧ (dstOf ops n)[k]? = some d := by
  intro k hk
  have h1 : ops[k]? = some ops[k] := Array.getElem?_eq_getElem (by omega)
  have h2 := hh1 ops[k] (by
   rw [List.mem_iff_getElem?]
   exact ⟨k, by rw [List.getElem?_take, if_pos hk]; simp⟩)
  rw [Option.isSome_iff_exists] at h2
  obtain ⟨d, hd⟩ := h2
  refine ⟨_, d, h1, hd, ?_⟩
  unfold dstOf
  rw [List.getElem?_map, List.getElem?_take, if_pos hk, Array.getElem?_toList, h1]
  simp [hd]
 have hlen : (dstOf ops n).length = n := by
  unfold dstOf
  simp
  omega
 have hnv : ∀ L val, ((vals L val (dstOf ops n) 0).map (·.2.1)).Nodup := fun L val => by rw [vals_dst]; exact hnod
 refine wp_any_head dr n (fun L a wx => ∃ val : Nat → Value, a = puts F (vals (fun k => L.getD k false) val (dstOf ops n) 0) ∧ Below W.heap.size W wx ∧ (∀ k, k < n → L.getD k false = true → nthS specs k wx (val k)) ∧
   (∀ k, k < n → L.getD k false = true → al.getD k false = true → ∃ g, val k = .pointer (some ⟨g, 0, none⟩) ∧ g < wx.heap.size) ∧
   (∀ j k, j < n → k < n → j ≠ k → L.getD j false = true → L.getD k false = true → al.getD j false = true → al.getD k false = true → val j ≠ val k)) hm (back_of hback) hn hfull ?_ ?_ ?_
 ·have hfalse : ∀ k, (Array.replicate ops.size false).getD k false = false := fun k => by
   rw [Array.getD_eq_getD_getElem?, Array.getElem?_replicate]
   split <;> rfl
  refine ⟨fun _ => undef, ?_, by rw [← hW]; exact Below.refl _ _, fun k _ h => absurd ((hfalse k).symm.trans h) (by simp), fun k _ h => absurd ((hfalse k).symm.trans h) (by simp), fun j k _ _ _ h => absurd ((hfalse j).symm.trans h) (by simp)⟩
  rw [vals_congr (L' := fun _ => false) _ _ _ (fun i _ => hfalse _)]
  have : ∀ (l : List Nat) (k : Nat) (t : Array Value), (vals (fun _ => false) (fun _ => undef) l k).foldl (fun t x => if x.1 then t.setIfInBounds x.2.1 x.2.2 else t) t = t := by
   intro l
   induction l with
   | nil => intro _ _; rfl
   | cons d l ih => intro k t; simp [vals, ih]
  unfold puts
  rw [this]
 ·intro L a wx hs hV i hin hf hp
  obtain ⟨val, rfl, hB, hspec, hal, hdis⟩ := hV
  obtain ⟨o, d, ho, hd, hdst⟩ := hop i hin
  have hst := step i o hin ho (puts F (vals (fun k => L.getD k false) val (dstOf ops n) 0)) wx hB (fun j dj hj hjp hdj => by
   have h1 := vals_get (fun k => L.getD k false) val (dstOf ops n) 0 j dj hdj
   rw [Nat.zero_add] at h1
   have h2 := hp j hjp
   rw [h2] at h1
   rw [puts_eval (hnv _ _) (List.mem_of_getElem? h1) (hsize dj (List.mem_of_getElem? hdj))]
   exact hspec j hj h2) (fun s hs2 => puts_other (fun x hx e => hs2 (by
    have := (List.mem_map (f := fun x : Bool × Nat × Value => x.2.1)).2 ⟨x, hx, e⟩
    rwa [vals_dst] at this)))
  have hput : ∀ v, (puts F (vals (fun k => L.getD k false) val (dstOf ops n) 0)).put o.dst v = puts F (vals (fun k => (L.setIfInBounds i true).getD k false) (fun j => if j = i then v else val j) (dstOf ops n) 0) := fun v => by
   rw [hd]
   have h1 := vals_get (fun k => L.getD k false) val (dstOf ops n) 0 i d hdst
   rw [Nat.zero_add, hf] at h1
   rw [puts_put (hnv _ _) h1, vals_set _ _ v _ _ _ _ hdst]
   congr 1
   simp only [Nat.zero_add]
   refine vals_congr _ _ _ (fun k hk => ?_)
   rw [Nat.zero_add]
   by_cases hki : k = i
   ·subst hki; rw [if_pos rfl, getD_eq (by omega)]
   ·rw [if_neg hki, getD_ne (fun e => hki e.symm)]
  have hkeep : ∀ v w', Below wx.heap.size wx w' → nthS specs i w' v → (al.getD i false = true → v = .pointer (some ⟨wx.heap.size, 0, none⟩) ∧ wx.heap.size < w'.heap.size) →
    ∃ val' : Nat → Value, (puts F (vals (fun k => L.getD k false) val (dstOf ops n) 0)).put o.dst v = puts F (vals (fun k => (L.setIfInBounds i true).getD k false) val' (dstOf ops n) 0) ∧ Below W.heap.size W w' ∧ (∀ k, k < n → (L.setIfInBounds i true).getD k false = true → nthS specs k w' (val' k)) ∧
    (∀ k, k < n → (L.setIfInBounds i true).getD k false = true → al.getD k false = true → ∃ g, val' k = .pointer (some ⟨g, 0, none⟩) ∧ g < w'.heap.size) ∧
    (∀ j k, j < n → k < n → j ≠ k → (L.setIfInBounds i true).getD j false = true → (L.setIfInBounds i true).getD k false = true → al.getD j false = true → al.getD k false = true → val' j ≠ val' k) := by
   intro v w' hb hsp hsa
   have hold : ∀ k, k ≠ i → (L.setIfInBounds i true).getD k false = true → L.getD k false = true := fun k hk h => by
    rwa [getD_ne (fun e => hk e.symm)] at h
   refine ⟨_, hput v, Blw hB hb, fun k hk hL => ?_, fun k hk hL ha => ?_, fun j k hj hk hjk hL1 hL2 ha1 ha2 => ?_⟩
   ·by_cases hki : k = i
    ·subst hki; simp only [if_pos]; exact hsp
    ·simp only [if_neg hki]
     exact hmono.nth k _ _ _ (hspec k hk (hold k hki hL)) hb
   ·by_cases hki : k = i
    ·subst hki; simp only [if_pos]; exact ⟨_, hsa ha⟩
    ·simp only [if_neg hki]
     obtain ⟨g, h1, h2⟩ := hal k hk (hold k hki hL) ha
     exact ⟨g, h1, Nat.lt_of_lt_of_le h2 hb.size⟩
   ·by_cases hji : j = i
    ·subst hji
     have hkj : k ≠ j := fun e => hjk e.symm
     simp only [if_pos, if_neg hkj]
     obtain ⟨g, h1, h2⟩ := hal k hk (hold k hkj hL2) ha2
     rw [h1, (hsa ha1).1]
     intro e
     injection e with e
     injection e with e
     injection e with e
     omega
    ·by_cases hki : k = i
     ·subst hki
      simp only [if_pos, if_neg hji]
      obtain ⟨g, h1, h2⟩ := hal j hj (hold j hji hL1) ha1
      rw [h1, (hsa ha2).1]
      intro e
      injection e with e
      injection e with e
      injection e with e
      omega
     ·simp only [if_neg hji, if_neg hki]
      exact hdis j k hj hk hjk (hold j hji hL1) (hold k hki hL2) ha1 ha2
  rcases hst with ⟨hg, hst⟩ | ⟨hg, hna, hsp⟩
  ·rcases hst with ⟨v, w', hr, hb, hsp, hsa⟩ | ⟨hna, f, args, hr, hc⟩
   ·exact wpOp_valG ho hg hr (hkeep v w' hb hsp hsa)
   ·refine wpOp_callG ho hg hr (hc.mono fun e w' h => ?_)
    obtain ⟨v, he, hb, hsp⟩ := h
    exact ⟨v, he, hkeep v w' hb hsp (fun h => by rw [hna] at h; cases h)⟩
  ·exact wpOp_skipG ho hg (hkeep undef wx (Below.refl _ _) hsp (fun h => by rw [hna] at h; cases h))
 ·intro L a wx hs hall hV
  obtain ⟨val, rfl, hB, hspec, hal, hdis⟩ := hV
  rw [vals_congr (L' := fun _ => true) _ _ _ (fun i hi => by rw [Nat.zero_add]; exact hall i (by omega))]
  exact fin val wx hB (fun k hk => hspec k hk (hall k hk)) (fun j k hj hk hjk h1 h2 => hdis j k hj hk hjk (hall j hj) (hall k hk) h1 h2)
/-- **A region as a flow of values.** -/
theorem wp_flow {P : Program} {id : Nat} {ops : Array Oper} {Q : Exit → Act → World → Prop} {F : Act} {w W : World} (dr : Bool) (hW : (if dr = true then w.drew else w) = W) (n : Nat) (specs : List Sp) (al : List Bool) (hm : P.follows .mixedOrders = true)
  (hback : backB ops = true) (hn : n ≤ ops.size) (hfull : (!dr || fullB ops n) = true) (hhead : headB ops n = true) (hsize : ∀ d ∈ dstOf ops n, d < F.tmps.size) (hmono : MonoL specs)
  (step : ∀ (k : Nat) (o : Oper), k < n → ops[k]? = some o → ∀ a wx, Below W.heap.size W wx → (∀ j d, j < n → j ∈ predsOf ops k → (dstOf ops n)[j]? = some d → nthS specs j wx (a.eval (.tmp d))) → (∀ s, s ∉ dstOf ops n → a.eval (.tmp s) = F.eval (.tmp s)) →
   Does P o (nthS specs k) (al.getD k false) a wx)
  (fin : ∀ (val : Nat → Value) wx, Below W.heap.size W wx → (∀ k, k < n → nthS specs k wx (val k)) → (∀ j k, j < n → k < n → j ≠ k → al.getD j false = true → al.getD k false = true → val j ≠ val k) →
   wpList P ops Q (ops.toList.drop n) (puts F (vals (fun _ => true) val (dstOf ops n) 0)) wx) :
  (Code.region id ops dr).wp P Q F w := by
 unfold headB at hhead
 rw [Bool.and_eq_true] at hhead
 obtain ⟨hh1, hh2⟩ := hhead
 rw [List.all_eq_true] at hh1
 refine wp_flowG dr hW n specs al hm hback hn hfull ?_ hsize hmono ?_ fin
 ·unfold headG
  rw [Bool.and_eq_true, List.all_eq_true]
  refine ⟨fun o ho => ?_, hh2⟩
  have := hh1 o ho
  rw [Bool.and_eq_true] at this
  exact this.1
 ·intro k o hk ho a wx hB hp hs
  refine .inl ⟨wanted_none ?_, step k o hk ho a wx hB hp hs⟩
  have h2 := hh1 o (by
   rw [List.mem_iff_getElem?]
   exact ⟨k, by rw [List.getElem?_take, if_pos hk]; simpa using ho⟩)
  rw [Bool.and_eq_true, Option.isNone_iff_eq_none] at h2
  exact h2.2
/-- What is needed of the slots that were written already. -/
def Have (specs : List Sp) (dsts : List Nat) (wx : World) (a : Act) : List Nat → Prop
 | [] => True
 | j :: r => nthS specs j wx (a.eval (.tmp (dsts.getD j 0))) ∧ Have specs dsts wx a r
/-- The table of slots and of the operands' operations fits. -/
def tabB (ops : Array Oper) (n : Nat) (tab : List (Nat × List Nat)) : Bool :=
 decide (n ≤ ops.size) && decide (dstOf ops n = tab.map (·.1)) && decide (tab.length = n) && tab.zipIdx.all fun x => x.1.2.all fun j => decide (j < n) && (predsOf ops x.2).contains j
theorem have_of {specs : List Sp} {dsts : List Nat} {wx : World} {a : Act} : ∀ (l : List Nat), (∀ j ∈ l, nthS specs j wx (a.eval (.tmp (dsts.getD j 0)))) → Have specs dsts wx a l
 | [], _ => trivial
 | j :: r, h => ⟨h j (by simp), have_of r (fun x hx => h x (List.mem_cons_of_mem _ hx))⟩
/-- A region as a flow of values, by a table: for each of the first n operations, its slot and the operations whose values it wants. -/
theorem wp_flow_tab {P : Program} {id : Nat} {ops : Array Oper} {Q : Exit → Act → World → Prop} {F : Act} {w W : World} (dr : Bool) (hW : (if dr = true then w.drew else w) = W) (n : Nat) (tab : List (Nat × List Nat)) (specs : List Sp) (al : List Bool) (hm : P.follows .mixedOrders = true)
  (hback : backB ops = true) (hfull : (!dr || fullB ops n) = true) (hhead : headB ops n = true) (htab : tabB ops n tab = true) (hsize : ∀ d ∈ tab.map (·.1), d < F.tmps.size) (hmono : MonoL specs)
  (step : ∀ (k : Nat), k < n → ∀ a wx, Below W.heap.size W wx → Have specs (tab.map (·.1)) wx a (tab.getD k (0, [])).2 → (∀ s, (tab.map (·.1)).contains s = false → a.eval (.tmp s) = F.eval (.tmp s)) →
   ∃ o, ops[k]? = some o ∧ Does P o (nthS specs k) (al.getD k false) a wx)
  (fin : ∀ (val : Nat → Value) wx, Below W.heap.size W wx → (∀ k, k < n → nthS specs k wx (val k)) → (∀ j k, j < n → k < n → j ≠ k → al.getD j false = true → al.getD k false = true → val j ≠ val k) →
   wpList P ops Q (ops.toList.drop n) (puts F (vals (fun _ => true) val (tab.map (·.1)) 0)) wx) :
  (Code.region id ops dr).wp P Q F w := by
 unfold tabB at htab
 simp only [Bool.and_eq_true, decide_eq_true_eq, List.all_eq_true] at htab
 obtain ⟨⟨⟨h1, h2⟩, h3⟩, h4⟩ := htab
 refine wp_flow dr hW n specs al hm hback h1 hfull hhead (by rw [h2]; exact hsize) hmono ?_ (by rw [h2]; exact fin)
 intro k o hk ho a wx hB hp hs
 rw [h2] at hp hs
 have hx : tab[k]? = some (tab.getD k (0, [])) := by
  rw [List.getD_eq_getElem?_getD, List.getElem?_eq_getElem (by omega)]
  rfl
 obtain ⟨o', ho', hd⟩ := step k hk a wx hB (have_of _ (fun j hj => by
  have h5 := h4 (tab.getD k (0, []), k) (by rw [List.mem_zipIdx_iff_getElem?]; exact hx) j hj
  refine hp j _ h5.1 (by simpa using h5.2) ?_
  rw [List.getD_eq_getElem?_getD, List.getElem?_eq_getElem (by simp; omega)]
  rfl)) (fun s hs2 => hs s (by simpa using hs2))
 rw [ho] at ho'
 injection ho' with ho'
 rw [ho']
 exact hd
/-- A value that is known. -/
def SC (c : Value) : Sp := fun _ v => v = c
/-- An integer. -/
def SI (x : Int) : Sp := fun w v => ∃ a b, v = .agg #[a, b] ∧ IntV w a b x
/-- A rational. -/
def SR (r : Rat) : Sp := fun w v => ∃ a b c d, v = .agg #[a, b, c, d] ∧ RatV w a b c d r
/-- A new box. -/
def SB (W : World) (T : Nat) (Z : List Value) : Sp := fun w v => ∃ g, v = .pointer (some ⟨g, 0, none⟩) ∧ W.heap.size ≤ g ∧ Bx w g T Z
/-- A slice of ints. -/
def SS (l : List Int) : Sp := fun w v => Sl w v l
theorem SS.mono (l : List Int) : Mono (SS l) := fun _ _ _ h hb => h.below hb
theorem SC.mono (c : Value) : Mono (SC c) := fun _ _ _ h _ => h
theorem SI.mono (x : Int) : Mono (SI x) := fun _ _ _ ⟨a, b, h1, h2⟩ hb => ⟨a, b, h1, h2.below hb⟩
theorem SR.mono (r : Rat) : Mono (SR r) := fun _ _ _ ⟨a, b, c, d, h1, h2⟩ hb => ⟨a, b, c, d, h1, h2.below hb⟩
theorem SB.mono (W : World) (T : Nat) (Z : List Value) : Mono (SB W T Z) := fun _ _ _ ⟨g, h1, h2, h3⟩ hb => ⟨g, h1, h2, h3.below hb⟩
section
variable {P : Program} {o : Oper} {a : Act} {wx : World} {f : FuncId} {args : Array Value}
theorem Does.val {v : Value} {s : Sp} (hr : (execOp a.eval o).run P wx = .ok (.value v) wx) (h : s wx v) : Does P o s false a wx := .inl ⟨v, wx, hr, Below.refl _ _, h, fun h => by cases h⟩
theorem Does.box {W : World} {T : Nat} {Z : List Value} (hr : (execOp a.eval o).run P wx = .ok (.value (.pointer (some ⟨wx.heap.size, 0, none⟩))) (wx.alloc (.cells Z.toArray T))) (hB : Below W.heap.size W wx) : Does P o (SB W T Z) true a wx :=
 .inl ⟨_, _, hr, (Below.refl _ _).alloc (Nat.le_refl _) _, ⟨_, rfl, hB.size, Bx.at_ rfl⟩, fun _ => ⟨rfl, by simp⟩⟩
theorem Does.one {x : Int} (hr : (execOp a.eval o).run P wx = .ok (.value (.slice (some ⟨wx.heap.size, 0, none⟩) 1 1)) (wx.alloc (.cells #[.int .i64 x] 3))) : Does P o (SS [x]) false a wx :=
 .inl ⟨_, _, hr, (Below.refl _ _).alloc (Nat.le_refl _) _, (show Bk (wx.alloc (.cells #[.int .i64 x] 3)) wx.heap.size [x] from heap_alloc_new wx _).sl rfl (Nat.le_refl _) (by decide), fun h => by cases h⟩
theorem Does.rc {v : Value} (hr : (execOp a.eval o).run P wx = .ok (.enter f args) wx) (hc : Calls P f args wx fun e w' => e = .returned v ∧ Below wx.heap.size wx w') : Does P o (SC v) false a wx :=
 .inr ⟨rfl, f, args, hr, hc.mono fun _ _ ⟨h1, h2⟩ => ⟨_, h1, h2, rfl⟩⟩
theorem Does.ri {x : Int} (hr : (execOp a.eval o).run P wx = .ok (.enter f args) wx) (hc : Calls P f args wx (RI x wx)) : Does P o (SI x) false a wx :=
 .inr ⟨rfl, f, args, hr, hc.mono fun _ _ ⟨p, q, h1, h2, h3⟩ => ⟨_, h1, h3, p, q, rfl, h2⟩⟩
theorem Does.rr {x : Rat} (hr : (execOp a.eval o).run P wx = .ok (.enter f args) wx) (hc : Calls P f args wx (RR x wx)) : Does P o (SR x) false a wx :=
 .inr ⟨rfl, f, args, hr, hc.mono fun _ _ ⟨p, q, r, s, h1, h2, h3⟩ => ⟨_, h1, h3, p, q, r, s, rfl, h2⟩⟩
end
end Go.Proofs.YtcfejkpadcccbaaGreat
