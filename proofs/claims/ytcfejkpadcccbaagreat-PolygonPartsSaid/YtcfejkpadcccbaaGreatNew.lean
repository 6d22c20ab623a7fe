/-
 STRUCTS IN BOXES: alloc and store of a whole struct, with a new name for the world behind them.
-/
import Derived.Test.YtcfejkpadcccbaaGreatFlow
import Derived.Test.YtcfejkpadcccbaaGreatEnK
namespace Go.Proofs.YtcfejkpadcccbaaGreat
open Go.RowKit
/-- Of the old blocks, those of S alone may turn; rows of ints stay. -/
structure Tn (S : List Nat) (w w' : World) : Prop where
 os : w'.os = w.os
 tape : w'.tape = w.tape
 output : w'.output = w.output
 size : w.heap.size ≤ w'.heap.size
 block : ∀ k, k < w.heap.size → k ∉ S → w'.heap[k]? = w.heap[k]?
 kp : Kp w w'
/-- Only block g was written. -/
structure Only (g : Nat) (w w' : World) : Prop where
 os : w'.os = w.os
 tape : w'.tape = w.tape
 output : w'.output = w.output
 size : w'.heap.size = w.heap.size
 block : ∀ k, k ≠ g → w'.heap[k]? = w.heap[k]?
section
variable {S : List Nat} {w w' w1 w2 : World} {B g T : Nat} {l : List Value}
theorem Tn.refl (S : List Nat) (w : World) : Tn S w w := ⟨rfl, rfl, rfl, Nat.le_refl _, fun _ _ _ => rfl, Kp.refl _⟩
theorem Tn.of (h : Below w.heap.size w w') : Tn S w w' := ⟨h.os, h.tape, h.output, h.size, fun k hk _ => h.block k hk, .of h⟩
theorem Tn.trans (h : Tn S w w1) (g : Tn S w1 w2) : Tn S w w2 := ⟨g.os.trans h.os, g.tape.trans h.tape, g.output.trans h.output, Nat.le_trans h.size g.size, fun k hk hn => (g.block k (Nat.lt_of_lt_of_le hk h.size) hn).trans (h.block k hk hn), h.kp.trans g.kp⟩
theorem Tn.mono {S' : List Nat} (h : Tn S w w') (hR : ∀ k ∈ S, k ∈ S') : Tn S' w w' := ⟨h.os, h.tape, h.output, h.size, fun k hk hn => h.block k hk (fun e => hn (hR k e)), h.kp⟩
/-- A further step turns what the first may turn, or what is new. -/
theorem Tn.then {S' : List Nat} (h : Tn S w w1) (g : Tn S' w1 w2) (hR : ∀ k ∈ S', k ∈ S ∨ w.heap.size ≤ k) : Tn S w w2 := ⟨g.os.trans h.os, g.tape.trans h.tape, g.output.trans h.output, Nat.le_trans h.size g.size, fun k hk hn => (g.block k (Nat.lt_of_lt_of_le hk h.size) (fun e => by rcases hR k e with h1 | h1; exact hn h1; omega)).trans (h.block k hk hn), h.kp.trans g.kp⟩
theorem Tn.below (h : Below B w w1) (g : Tn S w1 w2) (hR : ∀ k ∈ S, B ≤ k) (hB : B ≤ w.heap.size) : Below B w w2 := ⟨g.os.trans h.os, g.tape.trans h.tape, g.output.trans h.output, Nat.le_trans h.size g.size, fun k hk => (g.block k (by have := h.size; omega) (fun e => by have := hR k e; omega)).trans (h.block k hk)⟩
theorem Tn.drew (h : Tn S w.drew w') : Tn S w w' := ⟨h.os, h.tape, h.output, h.size, h.block, h.kp⟩
theorem Bx.tn (h : Bx w g T l) (t : Tn S w w') (hg : g ∉ S) : Bx w' g T l := (t.block g h.lt hg).trans h
theorem Bx.only (h : Bx w g T l) (t : Only B w w') (hg : g ≠ B) : Bx w' g T l := (t.block g hg).trans h
theorem Only.kp (t : Only g w w') (hx : Bx w g T l) (hT : T ≠ 3) : Kp w w' := by
 refine ⟨by rw [t.size]; exact Nat.le_refl _, fun b cs fr e => (t.block b (fun eq => ?_)).trans e⟩
 subst eq
 unfold Bx at hx
 rw [hx] at e
 injection e with e
 injection e with _ e _
 exact hT e
theorem Only.tn (t : Only g w w') (hx : Bx w g T l) (hT : T ≠ 3) (hg : g ∈ S) : Tn S w w' := ⟨t.os, t.tape, t.output, by rw [t.size]; exact Nat.le_refl _, fun k _ hn => t.block k (fun e => hn (e ▸ hg)), t.kp hx hT⟩
end
/-- The block of a pointer. -/
def blkOf : Value → Nat
 | .pointer (some p) => p.block
 | _ => 0
/-- A box that the region knows: one that stands (al = none: g), or one that operation al makes; its type, what lies in it first, and what lies in it once it was written. -/
structure Sto where
 al : Option Nat
 g : Nat
 T : Nat
 old : List Value
 post : World → List Value → Prop
def Sto.tgt (s : Sto) (val : Nat → Value) : Nat := match s.al with
 | some x => blkOf (val x)
 | none => s.g
def reachB (ops : Array Oper) (k : Nat) : Nat → Nat → Bool
 | 0, _ => false
 | f + 1, s => (predsOf ops s).any fun j => j == k || reachB ops k f j
theorem reach_done {ops : Array Oper} {L : Array Bool} (hc : Closed ops L) {k : Nat} : ∀ f s, reachB ops k f s = true → L.getD s false = true → L.getD k false = true
 | 0, _, h, _ => by cases h
 | f + 1, s, h, hs => by
  unfold reachB at h
  rw [List.any_eq_true] at h
  obtain ⟨j, hj, h⟩ := h
  have hd := hc s hs j hj
  rw [Bool.or_eq_true] at h
  rcases h with h | h
  ·rw [← eq_of_beq h]; exact hd
  ·exact reach_done hc f j h hd
def MonoK (s : Sp) : Prop := ∀ w w' v, s w v → Kp w w' → s w' v
def MonoKL : List Sp → Prop
 | [] => True
 | s :: r => MonoK s ∧ MonoKL r
theorem MonoKL.nth : ∀ {l : List Sp}, MonoKL l → ∀ k, MonoK (nthS l k)
 | [], _, _ => fun _ _ _ _ _ => trivial
 | _ :: _, h, 0 => h.1
 | _ :: _, h, k + 1 => MonoKL.nth h.2 k
theorem MonoK.mono {s : Sp} (h : MonoK s) : Mono s := fun _ _ _ g hb => h _ _ _ g (.of hb)
theorem MonoKL.l : ∀ {l : List Sp}, MonoKL l → MonoL l
 | [], _ => trivial
 | _ :: _, h => ⟨h.1.mono, MonoKL.l h.2⟩
theorem monoA {specs : List Sp} {n m : Nat} (h : MonoKL specs) : MonoL specs ∧ (MonoKL specs ∨ m ≤ n) := ⟨h.l, .inl h⟩
def ImpL : List Sp → List Sp → Prop
 | _, [] => True
 | [], _ :: _ => False
 | d :: r, s :: t => (∀ w v, d w v → s w v) ∧ ImpL r t
theorem ImpL.nth : ∀ {l m : List Sp}, ImpL l m → ∀ k w v, nthS l k w v → nthS m k w v
 | _, [], _, _, _, _, _ => trivial
 | [], _ :: _, h, _, _, _, _ => h.elim
 | _ :: _, _ :: _, h, 0, _, _, g => h.1 _ _ g
 | _ :: _, _ :: _, h, k + 1, _, _, g => ImpL.nth h.2 k _ _ g
theorem ImpL.refl : ∀ (l : List Sp), ImpL l l
 | [] => trivial
 | _ :: r => ⟨fun _ _ h => h, ImpL.refl r⟩
theorem wpOp_sto {P : Program} {ops : Array Oper} {Q : Exit → Act → World → Prop} {i : Nat} {K : Act → World → Prop} {a : Act} {w w' : World} {o : Oper} (ho : ops[i]? = some o) (hg : o.guard = none) (hd : o.dst = none)
  (hr : (execOp a.eval o).run P w = .ok .skip w') (hK : K a w') : wpOp P ops Q i K a w := by
 unfold wpOp
 rw [ho]
 simp only [wanted_none hg, if_true]
 refine .inl ?_
 unfold Oper.wp
 rw [hr]
 show K (a.put o.dst undef) w'
 rw [hd]
 exact hK
/-- Which of the boxes holds what. -/
def StoAt (n : Nat) (L : Nat → Bool) (val : Nat → Value) (wx : World) (r : Nat) (s : Sto) : Prop :=
 (L (n + r) = true → ∃ cs, Bx wx (s.tgt val) s.T cs ∧ s.post wx cs) ∧
 (L (n + r) = false → (s.al = none → Bx wx s.g s.T s.old) ∧ ∀ x, s.al = some x → L x = true → Bx wx (blkOf (val x)) s.T s.old)
/-- The stores' operands stand before them, and each store's own box. -/
def stoB (ops : Array Oper) (n m : Nat) (stos : List Sto) (stab : List (List Nat)) : Bool :=
 decide (m ≤ n + stos.length) && ((List.range (m - n)).all fun r => (stab.getD r []).all fun j => decide (j < n) && (predsOf ops (n + r)).contains j)
/-- What is asked of the list of boxes. -/
structure StoOK (n m : Nat) (W : World) (al : List Bool) (dspecs : List Sp) (stos : List Sto) (stab : List (List Nat)) (Sg : List Nat) : Prop where
 post : ∀ s ∈ stos, ∀ w w' cs, s.post w cs → Kp w w' → s.post w' cs
 T : ∀ s ∈ stos, s.T ≠ 3
 old : ∀ s ∈ stos, s.al = none → s.g ∈ Sg ∧ Bx W s.g s.T s.old
 ne : ∀ (i j : Nat) (s t : Sto), stos[i]? = some s → stos[j]? = some t → i ≠ j → (s.al = none → t.al = none → s.g ≠ t.g) ∧ ∀ x, s.al = some x → t.al = some x → False
 new : ∀ s ∈ stos, ∀ x, s.al = some x → x < n ∧ al.getD x false = true ∧ ∀ w v, nthS dspecs x w v → Bx w (blkOf v) s.T s.old
 tab : ∀ (r : Nat) (s : Sto) (x : Nat), stos[r]? = some s → s.al = some x → n + r < m → x ∈ stab.getD r []
section
variable {ops : Array Oper} {n m : Nat} {W wx w' : World} {al : List Bool} {dspecs specs : List Sp} {stos : List Sto} {stab : List (List Nat)} {Sg : List Nat} {L L' : Nat → Bool} {val : Nat → Value}
/-- A value was made: the boxes are as they were. -/
theorem StoAt.value (hok : StoOK n m W al dspecs stos stab Sg) (hstb : stoB ops n m stos stab = true) {i : Nat} (hi : i < n) {r : Nat} {s : Sto} (hs : stos[r]? = some s) (h : StoAt n L val wx r s) (hb : Below wx.heap.size wx w') {v : Value}
  (hL : ∀ k, L' k = if k = i then true else L k) (hLi : L i = false) (hlt : L (n + r) = true → n + r < m) (hcl : L (n + r) = true → ∀ j ∈ predsOf ops (n + r), L j = true) (hv : nthS dspecs i w' v) :
  StoAt n L' (fun j => if j = i then v else val j) w' r s := by
 have hmem := List.mem_of_getElem? hs
 have hne : n + r ≠ i := by omega
 refine ⟨fun h1 => ?_, fun h1 => ?_⟩
 ·rw [hL, if_neg hne] at h1
  obtain ⟨cs, h2, h3⟩ := h.1 h1
  refine ⟨cs, ?_, hok.post s hmem _ _ _ h3 (.of hb)⟩
  have e : s.tgt (fun j => if j = i then v else val j) = s.tgt val := by
   unfold Sto.tgt
   cases hx : s.al with
   | none => rfl
   | some x =>
    have hp : x ∈ predsOf ops (n + r) := by
     have h4 := hok.tab r s x hs hx (hlt h1)
     unfold stoB at hstb
     rw [Bool.and_eq_true, List.all_eq_true] at hstb
     have h5 := hstb.2 r (by have := hlt h1; simp; omega)
     rw [List.all_eq_true] at h5
     have h6 := h5 x h4
     rw [Bool.and_eq_true] at h6
     simpa using h6.2
    have h7 := hcl h1 x hp
    have : x ≠ i := fun e => by rw [e, hLi] at h7; cases h7
    simp only [if_neg this]
  rw [e]
  exact h2.below hb
 ·rw [hL, if_neg hne] at h1
  obtain ⟨h2, h3⟩ := h.2 h1
  refine ⟨fun hn => (h2 hn).below hb, fun x hx h4 => ?_⟩
  by_cases hxi : x = i
  ·subst hxi
   simp only [if_pos]
   exact (hok.new s hmem x hx).2.2 _ _ hv
  ·rw [hL, if_neg hxi] at h4
   simp only [if_neg hxi]
   exact (h3 x hx h4).below hb
/-- A box was written: the others are as they were. -/
theorem StoAt.store (hok : StoOK n m W al dspecs stos stab Sg) {r0 : Nat} {s0 : Sto} (h0 : stos[r0]? = some s0) (hL0 : L (n + r0) = false) {cs : List Value} (hg : Bx w' (s0.tgt val) s0.T cs) (hp : s0.post w' cs) (ho : Only (s0.tgt val) wx w') (hk : Kp wx w')
  (hL : ∀ k, L' k = if k = n + r0 then true else L k) (hx0 : ∀ x, s0.al = some x → L x = true) (_hW : W.heap.size ≤ wx.heap.size)
  (hal : ∀ k, k < n → L k = true → al.getD k false = true → ∃ g, val k = .pointer (some ⟨g, 0, none⟩) ∧ W.heap.size ≤ g ∧ g < wx.heap.size)
  (hdis : ∀ j k, j < n → k < n → j ≠ k → L j = true → L k = true → al.getD j false = true → al.getD k false = true → val j ≠ val k)
  (hlt : ∀ r s, stos[r]? = some s → L (n + r) = true → ∀ x, s.al = some x → L x = true)
  {r : Nat} {s : Sto} (hs : stos[r]? = some s) (h : StoAt n L val wx r s) : StoAt n L' val w' r s := by
 have hmem := List.mem_of_getElem? hs
 have hmem0 := List.mem_of_getElem? h0
 by_cases hr : r = r0
 ·subst hr
  rw [h0] at hs
  injection hs with hs
  subst hs
  refine ⟨fun _ => ⟨cs, hg, hp⟩, fun h1 => ?_⟩
  rw [hL, if_pos rfl] at h1
  cases h1
 ·have hnr : n + r ≠ n + r0 := by omega
  have key : (∀ x, s.al = some x → L x = true) → s.tgt val ≠ s0.tgt val := fun hx => by
   have hn := hok.ne r r0 s s0 hs h0 hr
   unfold Sto.tgt
   cases hsa : s.al with
   | none =>
    have h1 := (hok.old s hmem hsa).2.lt
    cases hsb : s0.al with
    | none => exact hn.1 hsa hsb
    | some y =>
     obtain ⟨h3, h4, _⟩ := hok.new s0 hmem0 y hsb
     obtain ⟨g, h5, h6, h7⟩ := hal y h3 (hx0 y hsb) h4
     show s.g ≠ blkOf (val y)
     rw [h5]
     show s.g ≠ g
     omega
   | some x =>
    obtain ⟨h3, h4, _⟩ := hok.new s hmem x hsa
    obtain ⟨g, h5, h6, h7⟩ := hal x h3 (hx x hsa) h4
    cases hsb : s0.al with
    | none =>
     have h1 := (hok.old s0 hmem0 hsb).2.lt
     show blkOf (val x) ≠ s0.g
     rw [h5]
     show g ≠ s0.g
     omega
    | some y =>
     obtain ⟨k3, k4, _⟩ := hok.new s0 hmem0 y hsb
     obtain ⟨g2, k5, k6, k7⟩ := hal y k3 (hx0 y hsb) k4
     have hxy : x ≠ y := fun e => hn.2 x hsa (e ▸ hsb)
     have hd := hdis x y h3 k3 hxy (hx x hsa) (hx0 y hsb) h4 k4
     show blkOf (val x) ≠ blkOf (val y)
     rw [h5, k5] at hd ⊢
     show g ≠ g2
     intro e
     exact hd (by rw [e])
  refine ⟨fun h1 => ?_, fun h1 => ?_⟩
  ·rw [hL, if_neg hnr] at h1
   obtain ⟨c2, h2, h3⟩ := h.1 h1
   exact ⟨c2, h2.only ho (key (hlt r s hs h1)), hok.post s hmem _ _ _ h3 hk⟩
  ·rw [hL, if_neg hnr] at h1
   obtain ⟨h2, h3⟩ := h.2 h1
   refine ⟨fun hn => (h2 hn).only ho ?_, fun x hx h4 => ?_⟩
   ·have := key (fun x hx => by rw [hn] at hx; cases hx)
    unfold Sto.tgt at this
    rw [hn] at this
    exact this
   ·have hxn := (hok.new s hmem x hx).1
    rw [hL, if_neg (by omega)] at h4
    refine (h3 x hx h4).only ho ?_
    have := key (fun y hy => by rw [hx] at hy; injection hy with hy; rw [← hy]; exact h4)
    unfold Sto.tgt at this
    rw [hx] at this
    exact this
end
theorem wp_flowS {P : Program} {id : Nat} {ops : Array Oper} {Q : Exit → Act → World → Prop} {F : Act} {w W : World} (dr : Bool) (hW : (if dr = true then w.drew else w) = W) (n m : Nat) (tab : List (Nat × List Nat)) (specs dspecs : List Sp) (al : List Bool) (stos : List Sto) (stab : List (List Nat)) (Sg : List Nat) (hm : P.follows .mixedOrders = true)
  (hback : backB ops = true) (hfull : (!dr || fullB ops m) = true) (hmle : m ≤ ops.size) (hnm : n ≤ m) (hhead : headG ops n = true) (htab : tabB ops n tab = true) (hstb : stoB ops n m stos stab = true) (hsize : ∀ d ∈ tab.map (·.1), d < F.tmps.size) (hmono : MonoL specs ∧ (MonoKL specs ∨ m ≤ n)) (himp : ImpL dspecs specs) (hok : StoOK n m W al dspecs stos stab Sg)
  (step : ∀ (k : Nat), k < n → ∀ a wx, Tn Sg W wx → (∀ r s, stos[r]? = some s → s.al = none → reachB ops k ops.size (n + r) = true → n + r < m → Bx wx s.g s.T s.old) → Have specs (tab.map (·.1)) wx a (tab.getD k (0, [])).2 → (∀ s, (tab.map (·.1)).contains s = false → a.eval (.tmp s) = F.eval (.tmp s)) →
   ∃ o, ops[k]? = some o ∧ DoesG P ops o (nthS dspecs k) (al.getD k false) a wx)
  (stepS : ∀ (r : Nat) (s : Sto), stos[r]? = some s → n + r < m → ∀ a wx g, Tn Sg W wx → Have specs (tab.map (·.1)) wx a (stab.getD r []) → (∀ s, (tab.map (·.1)).contains s = false → a.eval (.tmp s) = F.eval (.tmp s)) → Bx wx g s.T s.old →
   (s.al = none → g = s.g) → (∀ x, s.al = some x → a.eval (.tmp ((tab.map (·.1)).getD x 0)) = .pointer (some ⟨g, 0, none⟩)) →
   ∃ o w' cs, ops[n + r]? = some o ∧ o.guard = none ∧ o.dst = none ∧ (execOp a.eval o).run P wx = .ok .skip w' ∧ Bx w' g s.T cs ∧ s.post w' cs ∧ Only g wx w')
  (fin : ∀ (val : Nat → Value) wx, Tn Sg W wx → (∀ k, k < n → nthS specs k wx (val k)) → (∀ k, k < n → al.getD k false = true → ∃ g, val k = .pointer (some ⟨g, 0, none⟩) ∧ W.heap.size ≤ g ∧ g < wx.heap.size) → (∀ j k, j < n → k < n → j ≠ k → al.getD j false = true → al.getD k false = true → val j ≠ val k) →
   (∀ r s, stos[r]? = some s → (n + r < m → ∃ cs, Bx wx (s.tgt val) s.T cs ∧ s.post wx cs) ∧ (m ≤ n + r → Bx wx (s.tgt val) s.T s.old)) →
   wpList P ops Q (ops.toList.drop m) (puts F (vals (fun _ => true) val (tab.map (·.1)) 0)) wx) :
  (Code.region id ops dr).wp P Q F w := by
 unfold tabB at htab
 simp only [Bool.and_eq_true, decide_eq_true_eq, List.all_eq_true] at htab
 obtain ⟨⟨⟨hn, htd⟩, htl⟩, htp⟩ := htab
 unfold headG at hhead
 rw [Bool.and_eq_true] at hhead
 obtain ⟨hh1, hh2⟩ := hhead
 have hnod := of_decide_eq_true hh2
 rw [List.all_eq_true] at hh1
 have hop : ∀ k, k < n → ∃ o d, ops[k]? = some o ∧ o.dst = some d ∧ (dstOf ops n)[k]? = some d := by
  intro k hk
  have h1 : ops[k]? = some ops[k] := Array.getElem?_eq_getElem (by omega)
  have h2 := hh1 ops[k] (by
   rw [List.mem_iff_getElem?]
   exact ⟨k, by rw [List.getElem?_take, if_pos hk]; simp⟩)
  rw [Option.isSome_iff_exists] at h2
  obtain ⟨d, hd⟩ := h2
  refine ⟨_, d, h1, hd, ?_⟩
  unfold dstOf
  rw [List.getElem?_map, List.getElem?_take, if_pos hk, Array.getElem?_toList, h1]
  simp [hd]
 have hlen : (dstOf ops n).length = n := by
  unfold dstOf
  simp
  omega
 rw [← htd] at step stepS fin hsize
 have hnv : ∀ L val, ((vals L val (dstOf ops n) 0).map (·.2.1)).Nodup := fun L val => by rw [vals_dst]; exact hnod
 have hpredS : ∀ r, n + r < m → ∀ j ∈ stab.getD r [], j < n ∧ j ∈ predsOf ops (n + r) := by
  intro r hr j hj
  have h5 := hstb
  unfold stoB at h5
  rw [Bool.and_eq_true, List.all_eq_true] at h5
  have h6 := h5.2 r (by simp; omega)
  rw [List.all_eq_true] at h6
  have h7 := h6 j hj
  rw [Bool.and_eq_true] at h7
  exact ⟨of_decide_eq_true h7.1, by simpa using h7.2⟩
 have hmany : m ≤ n + stos.length := by
  have h5 := hstb
  unfold stoB at h5
  rw [Bool.and_eq_true] at h5
  exact of_decide_eq_true h5.1
 -- what is known of the slots that were written
 have hfrom : ∀ (L : Array Bool) (val : Nat → Value) (wx : World), (∀ k, k < n → L.getD k false = true → nthS specs k wx (val k)) → ∀ (l : List Nat), (∀ j ∈ l, j < n ∧ L.getD j false = true) →
   Have specs (dstOf ops n) wx (puts F (vals (fun k => L.getD k false) val (dstOf ops n) 0)) l := by
  intro L val wx hspec l hl
  refine have_of l (fun j hj => ?_)
  obtain ⟨h1, h2⟩ := hl j hj
  obtain ⟨o, d, ho, hd, hdst⟩ := hop j h1
  have h3 := vals_get (fun k => L.getD k false) val (dstOf ops n) 0 j d hdst
  rw [Nat.zero_add, h2] at h3
  have h4 : (dstOf ops n).getD j 0 = d := by rw [List.getD_eq_getElem?_getD, hdst]; rfl
  rw [h4, puts_eval (hnv _ _) (List.mem_of_getElem? h3) (hsize d (List.mem_of_getElem? hdst))]
  exact hspec j h1 h2
 have hframe : ∀ (L : Array Bool) (val : Nat → Value) (s : Nat), (dstOf ops n).contains s = false → (puts F (vals (fun k => L.getD k false) val (dstOf ops n) 0)).eval (.tmp s) = F.eval (.tmp s) := by
  intro L val s hs2
  refine puts_other (fun x hx e => ?_)
  have h1 := (List.mem_map (f := fun x : Bool × Nat × Value => x.2.1)).2 ⟨x, hx, e⟩
  rw [vals_dst] at h1
  simp at hs2
  exact hs2 h1
 refine wp_any_head dr m (fun L a wx => (Closed ops L ∧ ∀ i, m ≤ i → L.getD i false = false) ∧ ∃ val : Nat → Value, a = puts F (vals (fun k => L.getD k false) val (dstOf ops n) 0) ∧ Tn Sg W wx ∧ (∀ k, k < n → L.getD k false = true → nthS specs k wx (val k)) ∧
   (∀ k, k < n → L.getD k false = true → al.getD k false = true → ∃ g, val k = .pointer (some ⟨g, 0, none⟩) ∧ W.heap.size ≤ g ∧ g < wx.heap.size) ∧
   (∀ j k, j < n → k < n → j ≠ k → L.getD j false = true → L.getD k false = true → al.getD j false = true → al.getD k false = true → val j ≠ val k) ∧
   (∀ r s, stos[r]? = some s → StoAt n (fun k => L.getD k false) val wx r s)) hm (back_of hback) hmle hfull ?_ ?_ ?_
 ·have hfalse : ∀ k, (Array.replicate ops.size false).getD k false = false := fun k => by
   rw [Array.getD_eq_getD_getElem?, Array.getElem?_replicate]
   split <;> rfl
  refine ⟨⟨fun i h => absurd ((hfalse i).symm.trans h) (by simp), fun i _ => hfalse i⟩, fun _ => undef, ?_, by rw [← hW]; exact Tn.refl _ _, fun k _ h => absurd ((hfalse k).symm.trans h) (by simp), fun k _ h => absurd ((hfalse k).symm.trans h) (by simp), fun j k _ _ _ h => absurd ((hfalse j).symm.trans h) (by simp), fun r s hs => ⟨fun h => absurd ((hfalse _).symm.trans h) (by simp), fun _ => ⟨fun hn => by rw [hW]; exact (hok.old s (List.mem_of_getElem? hs) hn).2, fun x _ h => absurd ((hfalse x).symm.trans h) (by simp)⟩⟩⟩
  rw [vals_congr (L' := fun _ => false) _ _ _ (fun i _ => hfalse _)]
  have : ∀ (l : List Nat) (k : Nat) (t : Array Value), (vals (fun _ => false) (fun _ => undef) l k).foldl (fun t x => if x.1 then t.setIfInBounds x.2.1 x.2.2 else t) t = t := by
   intro l
   induction l with
   | nil => intro _ _; rfl
   | cons d l ih => intro k t; simp [vals, ih]
  unfold puts
  rw [this]
 ·intro L a wx hs hV i hin hf hp
  obtain ⟨⟨hC, hC2⟩, val, rfl, hB, hspec, hal, hdis, hsto⟩ := hV
  have hL : ∀ k, (L.setIfInBounds i true).getD k false = if k = i then true else L.getD k false := fun k => by
   by_cases hki : k = i
   ·subst hki; rw [if_pos rfl, getD_eq (by omega)]
   ·rw [if_neg hki, getD_ne (fun e => hki e.symm)]
  have hin_ : ∀ k, L.getD k false = true → k < m := fun k h => by
   by_cases hk : k < m
   ·exact hk
   ·rw [hC2 k (by omega)] at h; cases h
  have hC3 : ∀ k, m ≤ k → (L.setIfInBounds i true).getD k false = false := fun k hk => by rw [getD_ne (by omega)]; exact hC2 k hk
  by_cases hi : i < n
  ·obtain ⟨o, d, ho, hd, hdst⟩ := hop i hi
   have hx : tab[i]? = some (tab.getD i (0, [])) := by
    rw [List.getD_eq_getElem?_getD, List.getElem?_eq_getElem (by omega)]
    rfl
   obtain ⟨o', ho', hst⟩ := step i hi (puts F (vals (fun k => L.getD k false) val (dstOf ops n) 0)) wx hB (fun r s hrs hn hre _ => ((hsto r s hrs).2 (by
     cases h : L.getD (n + r) false with
     | false => exact h
     | true => rw [reach_done hC _ _ hre h] at hf; cases hf)).1 hn)
    (hfrom L val wx hspec _ (fun j hj => by
     have h5 := htp (tab.getD i (0, []), i) (by rw [List.mem_zipIdx_iff_getElem?]; exact hx) j hj
     exact ⟨h5.1, hp j (by simpa using h5.2)⟩)) (hframe L val)
   rw [ho] at ho'
   injection ho' with ho'
   subst ho'
   have hput : ∀ v, (puts F (vals (fun k => L.getD k false) val (dstOf ops n) 0)).put o.dst v = puts F (vals (fun k => (L.setIfInBounds i true).getD k false) (fun j => if j = i then v else val j) (dstOf ops n) 0) := fun v => by
    rw [hd]
    have h1 := vals_get (fun k => L.getD k false) val (dstOf ops n) 0 i d hdst
    rw [Nat.zero_add, hf] at h1
    rw [puts_put (hnv _ _) h1, vals_set _ _ v _ _ _ _ hdst]
    congr 1
    simp only [Nat.zero_add]
    refine vals_congr _ _ _ (fun k hk => ?_)
    rw [Nat.zero_add, hL]
   have hkeep : ∀ v w', Below wx.heap.size wx w' → nthS dspecs i w' v → (al.getD i false = true → v = .pointer (some ⟨wx.heap.size, 0, none⟩) ∧ wx.heap.size < w'.heap.size) →
     (Closed ops (L.setIfInBounds i true) ∧ ∀ k, m ≤ k → (L.setIfInBounds i true).getD k false = false) ∧ ∃ val' : Nat → Value, (puts F (vals (fun k => L.getD k false) val (dstOf ops n) 0)).put o.dst v = puts F (vals (fun k => (L.setIfInBounds i true).getD k false) val' (dstOf ops n) 0) ∧ Tn Sg W w' ∧ (∀ k, k < n → (L.setIfInBounds i true).getD k false = true → nthS specs k w' (val' k)) ∧
     (∀ k, k < n → (L.setIfInBounds i true).getD k false = true → al.getD k false = true → ∃ g, val' k = .pointer (some ⟨g, 0, none⟩) ∧ W.heap.size ≤ g ∧ g < w'.heap.size) ∧
     (∀ j k, j < n → k < n → j ≠ k → (L.setIfInBounds i true).getD j false = true → (L.setIfInBounds i true).getD k false = true → al.getD j false = true → al.getD k false = true → val' j ≠ val' k) ∧
     (∀ r s, stos[r]? = some s → StoAt n (fun k => (L.setIfInBounds i true).getD k false) val' w' r s) := by
    intro v w' hb hsp hsa
    have hold : ∀ k, k ≠ i → (L.setIfInBounds i true).getD k false = true → L.getD k false = true := fun k hk h => by
     rwa [getD_ne (fun e => hk e.symm)] at h
    refine ⟨⟨closed_set hC hp, hC3⟩, _, hput v, hB.trans (Tn.of hb), fun k hk hLk => ?_, fun k hk hLk ha => ?_, fun j k hj hk hjk hL1 hL2 ha1 ha2 => ?_, fun r s hrs => ?_⟩
    ·by_cases hki : k = i
     ·subst hki; simp only [if_pos]; exact himp.nth _ _ _ hsp
     ·simp only [if_neg hki]
      exact hmono.1.nth k _ _ _ (hspec k hk (hold k hki hLk)) hb
    ·by_cases hki : k = i
     ·subst hki; simp only [if_pos]; exact ⟨_, (hsa ha).1, hB.size, (hsa ha).2⟩
     ·simp only [if_neg hki]
      obtain ⟨g, h1, h2, h3⟩ := hal k hk (hold k hki hLk) ha
      exact ⟨g, h1, h2, Nat.lt_of_lt_of_le h3 hb.size⟩
    ·by_cases hji : j = i
     ·subst hji
      have hkj : k ≠ j := fun e => hjk e.symm
      simp only [if_pos, if_neg hkj]
      obtain ⟨g, h1, _, h2⟩ := hal k hk (hold k hkj hL2) ha2
      rw [h1, (hsa ha1).1]
      intro e
      injection e with e
      injection e with e
      injection e with e
      omega
     ·by_cases hki : k = i
      ·subst hki
       simp only [if_pos, if_neg hji]
       obtain ⟨g, h1, _, h2⟩ := hal j hj (hold j hji hL1) ha1
       rw [h1, (hsa ha2).1]
       intro e
       injection e with e
       injection e with e
       injection e with e
       omega
      ·simp only [if_neg hji, if_neg hki]
       exact hdis j k hj hk hjk (hold j hji hL1) (hold k hki hL2) ha1 ha2
    ·exact StoAt.value hok hstb hi hrs (hsto r s hrs) hb hL hf (fun h => hin_ _ h) (fun h j hj => hC _ h j hj) hsp
   rcases hst with ⟨hg, hst⟩ | ⟨hg, hna, hsp⟩
   ·rcases hst with ⟨v, w', hr, hb, hsp, hsa⟩ | ⟨hna, f, args, hr, hc⟩
    ·exact wpOp_valG ho hg hr (hkeep v w' hb hsp hsa)
    ·refine wpOp_callG ho hg hr (hc.mono fun e w' h => ?_)
     obtain ⟨v, he, hb, hsp⟩ := h
     exact ⟨v, he, hkeep v w' hb hsp (fun h => by rw [hna] at h; cases h)⟩
   ·exact wpOp_skipG ho hg (hkeep undef wx (Below.refl _ _) hsp (fun h => by rw [hna] at h; cases h))
  ·obtain ⟨r0, rfl⟩ : ∃ r0, i = n + r0 := ⟨i - n, by omega⟩
   obtain ⟨s0, hs0⟩ : ∃ s0, stos[r0]? = some s0 := ⟨_, List.getElem?_eq_getElem (by omega)⟩
   have hmem0 := List.mem_of_getElem? hs0
   have hps := hpredS r0 hin
   have hx0 : ∀ x, s0.al = some x → L.getD x false = true := fun x hx => hp x (hps x (hok.tab r0 s0 x hs0 hx hin)).2
   have hbx : Bx wx (s0.tgt val) s0.T s0.old := by
    obtain ⟨h1, h2⟩ := (hsto r0 s0 hs0).2 hf
    unfold Sto.tgt
    cases hsa : s0.al with
    | none => exact h1 hsa
    | some x => exact h2 x hsa (hx0 x hsa)
   obtain ⟨o, w', cs, ho, hog, hod, hr, hb', hpo, hon⟩ := stepS r0 s0 hs0 hin (puts F (vals (fun k => L.getD k false) val (dstOf ops n) 0)) wx (s0.tgt val) hB (hfrom L val wx hspec _ (fun j hj => ⟨(hps j hj).1, hp j (hps j hj).2⟩)) (hframe L val) hbx
    (fun h => by unfold Sto.tgt; rw [h]) (fun x hx => by
     obtain ⟨h1, h2, _⟩ := hok.new s0 hmem0 x hx
     obtain ⟨g, h3, _, _⟩ := hal x h1 (hx0 x hx) h2
     obtain ⟨o1, d, ho1, hd, hdst⟩ := hop x h1
     have h5 := vals_get (fun k => L.getD k false) val (dstOf ops n) 0 x d hdst
     rw [Nat.zero_add, hx0 x hx] at h5
     have h4 : (dstOf ops n).getD x 0 = d := by rw [List.getD_eq_getElem?_getD, hdst]; rfl
     rw [h4, puts_eval (hnv _ _) (List.mem_of_getElem? h5) (hsize d (List.mem_of_getElem? hdst))]
     have e : s0.tgt val = g := by
      unfold Sto.tgt
      rw [hx]
      show blkOf (val x) = g
      rw [h3]
      rfl
     rw [e]
     exact h3)
   have hkp := hon.kp hbx (hok.T s0 hmem0)
   refine wpOp_sto ho hog hod hr ?_
   have hLn : ∀ k, k < n → (L.setIfInBounds (n + r0) true).getD k false = L.getD k false := fun k hk => by rw [hL, if_neg (by omega)]
   refine ⟨⟨closed_set hC hp, hC3⟩, val, ?_, ?_, fun k hk h => ?_, fun k hk h ha => ?_, fun j k hj hk hjk h1 h2 => ?_, fun r s hrs => ?_⟩
   ·congr 1
    exact vals_congr _ _ _ (fun k hk => by rw [Nat.zero_add, hLn k (by omega)])
   ·refine hB.then (S' := [s0.tgt val]) (hon.tn hbx (hok.T s0 hmem0) (by simp)) (fun k hk => ?_)
    rw [List.mem_singleton] at hk
    subst hk
    unfold Sto.tgt
    cases hsa : s0.al with
    | none => exact .inl (hok.old s0 hmem0 hsa).1
    | some x =>
     obtain ⟨h1, h2, _⟩ := hok.new s0 hmem0 x hsa
     obtain ⟨g, h3, h4, _⟩ := hal x h1 (hx0 x hsa) h2
     refine .inr ?_
     show _ ≤ blkOf (val x)
     rw [h3]
     exact h4
   ·rw [hLn k hk] at h
    exact (hmono.2.resolve_right (by omega)).nth k _ _ _ (hspec k hk h) hkp
   ·rw [hLn k hk] at h
    rw [hon.size]
    exact hal k hk h ha
   ·rw [hLn j hj] at h1
    rw [hLn k hk] at h2
    exact hdis j k hj hk hjk h1 h2
   ·exact StoAt.store hok hs0 hf hb' hpo hon hkp hL hx0 hB.size hal hdis (fun r s hrs h x hx => hC _ h x ((hpredS r (hin_ _ h)) x (hok.tab r s x hrs hx (hin_ _ h))).2) hrs (hsto r s hrs)
 ·intro L a wx hs hall hV
  obtain ⟨⟨hC, hC2⟩, val, rfl, hB, hspec, hal, hdis, hsto⟩ := hV
  rw [vals_congr (L' := fun _ => true) _ _ _ (fun i hi => by rw [Nat.zero_add]; exact hall i (by omega))]
  rw [← htd] at *
  refine (fin val wx hB (fun k hk => hspec k hk (hall k (by omega))) (fun k hk ha => hal k hk (hall k (by omega)) ha) (fun j k hj hk hjk h1 h2 => hdis j k hj hk hjk (hall j (by omega)) (hall k (by omega)) h1 h2) (fun r s hrs => ⟨fun hlt => (hsto r s hrs).1 (hall _ hlt), fun hge => ?_⟩))
  have hout : L.getD (n + r) false = false := hC2 _ hge
  obtain ⟨h1, h2⟩ := (hsto r s hrs).2 hout
  unfold Sto.tgt
  cases hsa : s.al with
  | none => exact h1 hsa
  | some x => exact h2 x hsa (hall x (by have := (hok.new s (List.mem_of_getElem? hrs) x hsa).1; omega))
end Go.Proofs.YtcfejkpadcccbaaGreat
namespace Go.Proofs.YtcfejkpadcccbaaGreat
set_option maxHeartbeats 4000000
open Go.RowKit
attribute [local go_sem] run_store_one
set_option linter.unusedSimpArgs false
section
variable {P : Program} {ops : Array Oper} {Q : Exit → Act → World → Prop} {a : Act} {w : World} {rest : List Oper} {o : Oper}
end
end Go.Proofs.YtcfejkpadcccbaaGreat
