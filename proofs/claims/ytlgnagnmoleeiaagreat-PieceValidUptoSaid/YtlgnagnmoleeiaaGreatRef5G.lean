/-
 THE WALKS of the references of packages rat and plane: Compare, Side.
-/
import Derived.Test.YtlgnagnmoleeiaaGreatWalkPlF
import Derived.Test.YtlgnagnmoleeiaaGreatEmL
import Derived.OpenShut
import Derived.Deep.LoopGhost
import Derived.Test.YtlgnagnmoleeiaaGreatFlow
import Derived.Test.YtlgnagnmoleeiaaGreatEmY
import Derived.Test.YtlgnagnmoleeiaaGreatFlowR
namespace Go.Proofs.YtlgnagnmoleeiaaGreat
set_option maxHeartbeats 4000000
open Go.RowKit
attribute [local go_sem] run_store_one
set_option linter.unusedVariables false
section
variable {w w' : World} {a0 a1 a2 a3 a4 a5 a6 a7 a8 a9 a10 a11 a12 a13 a14 a15 : Value} {p : Pl}
theorem PlaceV.kp (H : PlaceV w a0 a1 a2 a3 a4 a5 a6 a7 a8 a9 a10 a11 a12 a13 a14 a15 p) (k : Kp w w') : PlaceV w' a0 a1 a2 a3 a4 a5 a6 a7 a8 a9 a10 a11 a12 a13 a14 a15 p := ⟨H.1.kp k, H.2.kp k⟩
theorem PlaceV.below (H : PlaceV w a0 a1 a2 a3 a4 a5 a6 a7 a8 a9 a10 a11 a12 a13 a14 a15 p) (hb : Below w.heap.size w w') : PlaceV w' a0 a1 a2 a3 a4 a5 a6 a7 a8 a9 a10 a11 a12 a13 a14 a15 p := H.kp (.of hb)
theorem PlaceV.one0 (H : PlaceV w a0 a1 a2 a3 a4 a5 a6 a7 a8 a9 a10 a11 a12 a13 a14 a15 p) : a0.oneCell' = true := H.1.one0
theorem PlaceV.one1 (H : PlaceV w a0 a1 a2 a3 a4 a5 a6 a7 a8 a9 a10 a11 a12 a13 a14 a15 p) : a1.oneCell' = true := H.1.one1
theorem PlaceV.one2 (H : PlaceV w a0 a1 a2 a3 a4 a5 a6 a7 a8 a9 a10 a11 a12 a13 a14 a15 p) : a2.oneCell' = true := H.1.one2
theorem PlaceV.one3 (H : PlaceV w a0 a1 a2 a3 a4 a5 a6 a7 a8 a9 a10 a11 a12 a13 a14 a15 p) : a3.oneCell' = true := H.1.one3
theorem PlaceV.one4 (H : PlaceV w a0 a1 a2 a3 a4 a5 a6 a7 a8 a9 a10 a11 a12 a13 a14 a15 p) : a4.oneCell' = true := H.1.one4
theorem PlaceV.one5 (H : PlaceV w a0 a1 a2 a3 a4 a5 a6 a7 a8 a9 a10 a11 a12 a13 a14 a15 p) : a5.oneCell' = true := H.1.one5
theorem PlaceV.one6 (H : PlaceV w a0 a1 a2 a3 a4 a5 a6 a7 a8 a9 a10 a11 a12 a13 a14 a15 p) : a6.oneCell' = true := H.1.one6
theorem PlaceV.one7 (H : PlaceV w a0 a1 a2 a3 a4 a5 a6 a7 a8 a9 a10 a11 a12 a13 a14 a15 p) : a7.oneCell' = true := H.1.one7
theorem PlaceV.one8 (H : PlaceV w a0 a1 a2 a3 a4 a5 a6 a7 a8 a9 a10 a11 a12 a13 a14 a15 p) : a8.oneCell' = true := H.2.one0
theorem PlaceV.one9 (H : PlaceV w a0 a1 a2 a3 a4 a5 a6 a7 a8 a9 a10 a11 a12 a13 a14 a15 p) : a9.oneCell' = true := H.2.one1
theorem PlaceV.one10 (H : PlaceV w a0 a1 a2 a3 a4 a5 a6 a7 a8 a9 a10 a11 a12 a13 a14 a15 p) : a10.oneCell' = true := H.2.one2
theorem PlaceV.one11 (H : PlaceV w a0 a1 a2 a3 a4 a5 a6 a7 a8 a9 a10 a11 a12 a13 a14 a15 p) : a11.oneCell' = true := H.2.one3
theorem PlaceV.one12 (H : PlaceV w a0 a1 a2 a3 a4 a5 a6 a7 a8 a9 a10 a11 a12 a13 a14 a15 p) : a12.oneCell' = true := H.2.one4
theorem PlaceV.one13 (H : PlaceV w a0 a1 a2 a3 a4 a5 a6 a7 a8 a9 a10 a11 a12 a13 a14 a15 p) : a13.oneCell' = true := H.2.one5
theorem PlaceV.one14 (H : PlaceV w a0 a1 a2 a3 a4 a5 a6 a7 a8 a9 a10 a11 a12 a13 a14 a15 p) : a14.oneCell' = true := H.2.one6
theorem PlaceV.one15 (H : PlaceV w a0 a1 a2 a3 a4 a5 a6 a7 a8 a9 a10 a11 a12 a13 a14 a15 p) : a15.oneCell' = true := H.2.one7
end
theorem PlaceV.ones {w : World} {a0 a1 a2 a3 a4 a5 a6 a7 a8 a9 a10 a11 a12 a13 a14 a15 : Value} {x : Pl} (H : PlaceV w a0 a1 a2 a3 a4 a5 a6 a7 a8 a9 a10 a11 a12 a13 a14 a15 x) : a0.oneCell' = true ∧ a1.oneCell' = true ∧ a2.oneCell' = true ∧ a3.oneCell' = true ∧ a4.oneCell' = true ∧ a5.oneCell' = true ∧ a6.oneCell' = true ∧ a7.oneCell' = true ∧ a8.oneCell' = true ∧ a9.oneCell' = true ∧ a10.oneCell' = true ∧ a11.oneCell' = true ∧ a12.oneCell' = true ∧ a13.oneCell' = true ∧ a14.oneCell' = true ∧ a15.oneCell' = true := ⟨H.one0, H.one1, H.one2, H.one3, H.one4, H.one5, H.one6, H.one7, H.one8, H.one9, H.one10, H.one11, H.one12, H.one13, H.one14, H.one15⟩
def SPl (p : Pl) : Sp := fun w u => ∃ a0 a1 a2 a3 a4 a5 a6 a7 a8 a9 a10 a11 a12 a13 a14 a15, u = .agg #[a0, a1, a2, a3, a4, a5, a6, a7, a8, a9, a10, a11, a12, a13, a14, a15] ∧ PlaceV w a0 a1 a2 a3 a4 a5 a6 a7 a8 a9 a10 a11 a12 a13 a14 a15 p
theorem SPl.mono (p : Pl) : Mono (SPl p) := fun _ _ _ ⟨a0, a1, a2, a3, a4, a5, a6, a7, a8, a9, a10, a11, a12, a13, a14, a15, h1, h2⟩ hb => ⟨a0, a1, a2, a3, a4, a5, a6, a7, a8, a9, a10, a11, a12, a13, a14, a15, h1, h2.below hb⟩
/-- What returns a place. -/
def RPl (p : Pl) (w : World) (e : Ending) (w' : World) : Prop := ∃ a0 a1 a2 a3 a4 a5 a6 a7 a8 a9 a10 a11 a12 a13 a14 a15, e = .returned (.agg #[a0, a1, a2, a3, a4, a5, a6, a7, a8, a9, a10, a11, a12, a13, a14, a15]) ∧ PlaceV w' a0 a1 a2 a3 a4 a5 a6 a7 a8 a9 a10 a11 a12 a13 a14 a15 p ∧ Below w.heap.size w w'
theorem Does.rp {P : Program} {o : Oper} {a : Act} {wx : World} {f : FuncId} {args : Array Value} {p : Pl} (hr : (execOp a.eval o).run P wx = .ok (.enter f args) wx) (hc : Calls P f args wx (RPl p wx)) : Does P o (SPl p) false a wx :=
 .inr ⟨rfl, f, args, hr, hc.mono fun _ _ ⟨a0, a1, a2, a3, a4, a5, a6, a7, a8, a9, a10, a11, a12, a13, a14, a15, h1, h2, h3⟩ => ⟨_, h1, h3, a0, a1, a2, a3, a4, a5, a6, a7, a8, a9, a10, a11, a12, a13, a14, a15, rfl, h2⟩⟩
/-- A closure over a box. -/
def SCl (f : FuncId) (T : Nat) (cs : List Value) : Sp := fun w v => ∃ g, v = .func (.func f) #[] #[.pointer (some ⟨g, 0, none⟩)] ∧ Bx w g T cs
theorem SCl.mono (f : FuncId) (T : Nat) (cs : List Value) : Mono (SCl f T cs) := fun _ _ _ ⟨g, h1, h2⟩ hb => ⟨g, h1, h2.below hb⟩
def vput (p : Pl) (a : Rat × Rat) : Rat × Rat := vadd (vrot p.1 a) p.2
def vside (a b c : Rat × Rat) : Int := sgnZ (vcrs (vsub b a) (vsub c a)).num
end Go.Proofs.YtlgnagnmoleeiaaGreat
namespace Go.Proofs.YtlgnagnmoleeiaaGreat
set_option maxHeartbeats 4000000
open Go.RowKit
attribute [local go_sem] run_store_one
set_option linter.unusedVariables false
/-- Where the rounds of divided stand: k digits are left; r is the rest, qs the digits that were found. -/
structure DivAt (a b : List Int) (k : Nat) (w wr : World) (gq : Nat) (rv : Value) (r qs : List Int) : Prop where
 cr : I.Can r
 dq : I.Dig qs
 lq : k + qs.length = a.length
 e : I.val (a.drop k) = I.val qs * I.val b + I.val r
 lt : I.val r < I.val b
 bq : Bk wr gq (List.replicate k 0 ++ qs)
 sr : Sl wr rv r
 bw : Below w.heap.size w wr
theorem DivAt.len {a b : List Int} {k gq : Nat} {w wr : World} {rv : Value} {r qs : List Int} (h : DivAt a b k w wr gq rv r qs) (db : I.Dig b) : r.length ≤ b.length := h.cr.len db (by have := h.lt; omega)
theorem DivAt.next {a b : List Int} {k gq : Nat} {w wr wx : World} {rv v : Value} {r qs r2 : List Int} {d lo : Int} (h : DivAt a b (k + 1) w wr gq rv r qs) (hd : a[k]? = some d) (l0 : 0 ≤ lo) (l1 : lo < 1000000000) (c2 : I.Can r2)
  (e2 : I.val r2 = I.val (d :: r) - lo * I.val b) (lt : I.val r2 < I.val b) (bq : Bk wx gq (List.replicate k 0 ++ lo :: qs)) (sr : Sl wx v r2) (bw : Below w.heap.size w wx) : DivAt a b k w wx gq v r2 (lo :: qs) := by
 refine ⟨c2, h.dq.cons_ l0 l1, by have := h.lq; simp only [List.length_cons]; omega, ?_, lt, bq, sr, bw⟩
 have h1 := h.e
 rw [I.val_drop_succ hd, h1, e2]
 simp only [I.val]
 grind
end Go.Proofs.YtlgnagnmoleeiaaGreat
namespace Go.Proofs.YtlgnagnmoleeiaaGreat
set_option maxHeartbeats 4000000
open Go.RowKit
attribute [local go_sem] run_store_one
set_option linter.unusedVariables false
theorem bd_sg {k : Nat} {s : Bool} {x : Int} (h : I.Bd k x) : I.Bd k (sg s x) := by
 unfold sg
 cases s
 ·exact h
 ·exact h.neg
theorem bd_val {k : Nat} {a : List Int} {x : Int} (h : I.Bd k x) (hv : I.val a = (x.natAbs : Int)) : I.Bd k (I.val a) := h.of_le (by rw [hv]; simp)
end Go.Proofs.YtlgnagnmoleeiaaGreat
namespace Go.Proofs.YtlgnagnmoleeiaaGreat
set_option maxHeartbeats 4000000
open Go.RowKit
attribute [local go_sem] run_store_one
set_option linter.unusedVariables false
end Go.Proofs.YtlgnagnmoleeiaaGreat
namespace Go.Proofs.YtlgnagnmoleeiaaGreat
set_option maxHeartbeats 4000000
open Go.RowKit
attribute [local go_sem] run_store_one
set_option linter.unusedVariables false
end Go.Proofs.YtlgnagnmoleeiaaGreat
namespace Go.Proofs.YtlgnagnmoleeiaaGreat
open Go.RowKit
/-- Of the old blocks, those of S alone may turn; rows of ints stay. -/
structure Tn (S : List Nat) (w w' : World) : Prop where
 os : w'.os = w.os
 tape : w'.tape = w.tape
 output : w'.output = w.output
 size : w.heap.size ≤ w'.heap.size
 block : ∀ k, k < w.heap.size → k ∉ S → w'.heap[k]? = w.heap[k]?
 kp : Kp w w'
/-- Only block g was written. -/
structure Only (g : Nat) (w w' : World) : Prop where
 os : w'.os = w.os
 tape : w'.tape = w.tape
 output : w'.output = w.output
 size : w'.heap.size = w.heap.size
 block : ∀ k, k ≠ g → w'.heap[k]? = w.heap[k]?
section
variable {S : List Nat} {w w' w1 w2 : World} {B g T : Nat} {l : List Value}
theorem Tn.refl (S : List Nat) (w : World) : Tn S w w := ⟨rfl, rfl, rfl, Nat.le_refl _, fun _ _ _ => rfl, Kp.refl _⟩
theorem Tn.of (h : Below w.heap.size w w') : Tn S w w' := ⟨h.os, h.tape, h.output, h.size, fun k hk _ => h.block k hk, .of h⟩
theorem Tn.trans (h : Tn S w w1) (g : Tn S w1 w2) : Tn S w w2 := ⟨g.os.trans h.os, g.tape.trans h.tape, g.output.trans h.output, Nat.le_trans h.size g.size, fun k hk hn => (g.block k (Nat.lt_of_lt_of_le hk h.size) hn).trans (h.block k hk hn), h.kp.trans g.kp⟩
theorem Tn.mono {S' : List Nat} (h : Tn S w w') (hR : ∀ k ∈ S, k ∈ S') : Tn S' w w' := ⟨h.os, h.tape, h.output, h.size, fun k hk hn => h.block k hk (fun e => hn (hR k e)), h.kp⟩
/-- A further step turns what the first may turn, or what is new. -/
theorem Tn.then {S' : List Nat} (h : Tn S w w1) (g : Tn S' w1 w2) (hR : ∀ k ∈ S', k ∈ S ∨ w.heap.size ≤ k) : Tn S w w2 := ⟨g.os.trans h.os, g.tape.trans h.tape, g.output.trans h.output, Nat.le_trans h.size g.size, fun k hk hn => (g.block k (Nat.lt_of_lt_of_le hk h.size) (fun e => by rcases hR k e with h1 | h1; exact hn h1; omega)).trans (h.block k hk hn), h.kp.trans g.kp⟩
theorem Tn.below (h : Below B w w1) (g : Tn S w1 w2) (hR : ∀ k ∈ S, B ≤ k) (hB : B ≤ w.heap.size) : Below B w w2 := ⟨g.os.trans h.os, g.tape.trans h.tape, g.output.trans h.output, Nat.le_trans h.size g.size, fun k hk => (g.block k (by have := h.size; omega) (fun e => by have := hR k e; omega)).trans (h.block k hk)⟩
theorem Tn.drew (h : Tn S w.drew w') : Tn S w w' := ⟨h.os, h.tape, h.output, h.size, h.block, h.kp⟩
theorem Bx.tn (h : Bx w g T l) (t : Tn S w w') (hg : g ∉ S) : Bx w' g T l := (t.block g h.lt hg).trans h
theorem Bx.only (h : Bx w g T l) (t : Only B w w') (hg : g ≠ B) : Bx w' g T l := (t.block g hg).trans h
theorem Only.kp (t : Only g w w') (hx : Bx w g T l) (hT : T ≠ 3) : Kp w w' := by
 refine ⟨by rw [t.size]; exact Nat.le_refl _, fun b cs fr e => (t.block b (fun eq => ?_)).trans e⟩
 subst eq
 unfold Bx at hx
 rw [hx] at e
 injection e with e
 injection e with _ e _
 exact hT e
theorem Only.tn (t : Only g w w') (hx : Bx w g T l) (hT : T ≠ 3) (hg : g ∈ S) : Tn S w w' := ⟨t.os, t.tape, t.output, by rw [t.size]; exact Nat.le_refl _, fun k _ hn => t.block k (fun e => hn (e ▸ hg)), t.kp hx hT⟩
end
/-- The block of a pointer. -/
def blkOf : Value → Nat
 | .pointer (some p) => p.block
 | _ => 0
/-- A box that the region knows: one that stands (al = none: g), or one that operation al makes; its type, what lies in it first, and what lies in it once it was written. -/
structure Sto where
 al : Option Nat
 g : Nat
 T : Nat
 old : List Value
 post : World → List Value → Prop
def Sto.tgt (s : Sto) (val : Nat → Value) : Nat := match s.al with
 | some x => blkOf (val x)
 | none => s.g
def reachB (ops : Array Oper) (k : Nat) : Nat → Nat → Bool
 | 0, _ => false
 | f + 1, s => (predsOf ops s).any fun j => j == k || reachB ops k f j
def MonoK (s : Sp) : Prop := ∀ w w' v, s w v → Kp w w' → s w' v
def MonoKL : List Sp → Prop
 | [] => True
 | s :: r => MonoK s ∧ MonoKL r
theorem MonoKL.nth : ∀ {l : List Sp}, MonoKL l → ∀ k, MonoK (nthS l k)
 | [], _, _ => fun _ _ _ _ _ => trivial
 | _ :: _, h, 0 => h.1
 | _ :: _, h, k + 1 => MonoKL.nth h.2 k
theorem MonoK.mono {s : Sp} (h : MonoK s) : Mono s := fun _ _ _ g hb => h _ _ _ g (.of hb)
theorem MonoKL.l : ∀ {l : List Sp}, MonoKL l → MonoL l
 | [], _ => trivial
 | _ :: _, h => ⟨h.1.mono, MonoKL.l h.2⟩
theorem monoA {specs : List Sp} {n m : Nat} (h : MonoKL specs) : MonoL specs ∧ (MonoKL specs ∨ m ≤ n) := ⟨h.l, .inl h⟩
def ImpL : List Sp → List Sp → Prop
 | _, [] => True
 | [], _ :: _ => False
 | d :: r, s :: t => (∀ w v, d w v → s w v) ∧ ImpL r t
theorem ImpL.nth : ∀ {l m : List Sp}, ImpL l m → ∀ k w v, nthS l k w v → nthS m k w v
 | _, [], _, _, _, _, _ => trivial
 | [], _ :: _, h, _, _, _, _ => h.elim
 | _ :: _, _ :: _, h, 0, _, _, g => h.1 _ _ g
 | _ :: _, _ :: _, h, k + 1, _, _, g => ImpL.nth h.2 k _ _ g
theorem ImpL.refl : ∀ (l : List Sp), ImpL l l
 | [] => trivial
 | _ :: r => ⟨fun _ _ h => h, ImpL.refl r⟩
/-- Which of the boxes holds what. -/
def StoAt (n : Nat) (L : Nat → Bool) (val : Nat → Value) (wx : World) (r : Nat) (s : Sto) : Prop :=
 (L (n + r) = true → ∃ cs, Bx wx (s.tgt val) s.T cs ∧ s.post wx cs) ∧
 (L (n + r) = false → (s.al = none → Bx wx s.g s.T s.old) ∧ ∀ x, s.al = some x → L x = true → Bx wx (blkOf (val x)) s.T s.old)
/-- The stores' operands stand before them, and each store's own box. -/
def stoB (ops : Array Oper) (n m : Nat) (stos : List Sto) (stab : List (List Nat)) : Bool :=
 decide (m ≤ n + stos.length) && ((List.range (m - n)).all fun r => (stab.getD r []).all fun j => decide (j < n) && (predsOf ops (n + r)).contains j)
/-- What is asked of the list of boxes. -/
structure StoOK (n m : Nat) (W : World) (al : List Bool) (dspecs : List Sp) (stos : List Sto) (stab : List (List Nat)) (Sg : List Nat) : Prop where
 post : ∀ s ∈ stos, ∀ w w' cs, s.post w cs → Kp w w' → s.post w' cs
 T : ∀ s ∈ stos, s.T ≠ 3
 old : ∀ s ∈ stos, s.al = none → s.g ∈ Sg ∧ Bx W s.g s.T s.old
 ne : ∀ (i j : Nat) (s t : Sto), stos[i]? = some s → stos[j]? = some t → i ≠ j → (s.al = none → t.al = none → s.g ≠ t.g) ∧ ∀ x, s.al = some x → t.al = some x → False
 new : ∀ s ∈ stos, ∀ x, s.al = some x → x < n ∧ al.getD x false = true ∧ ∀ w v, nthS dspecs x w v → Bx w (blkOf v) s.T s.old
 tab : ∀ (r : Nat) (s : Sto) (x : Nat), stos[r]? = some s → s.al = some x → n + r < m → x ∈ stab.getD r []
section
variable {ops : Array Oper} {n m : Nat} {W wx w' : World} {al : List Bool} {dspecs specs : List Sp} {stos : List Sto} {stab : List (List Nat)} {Sg : List Nat} {L L' : Nat → Bool} {val : Nat → Value}
/-- A value was made: the boxes are as they were. -/
theorem StoAt.value (hok : StoOK n m W al dspecs stos stab Sg) (hstb : stoB ops n m stos stab = true) {i : Nat} (hi : i < n) {r : Nat} {s : Sto} (hs : stos[r]? = some s) (h : StoAt n L val wx r s) (hb : Below wx.heap.size wx w') {v : Value}
  (hL : ∀ k, L' k = if k = i then true else L k) (hLi : L i = false) (hlt : L (n + r) = true → n + r < m) (hcl : L (n + r) = true → ∀ j ∈ predsOf ops (n + r), L j = true) (hv : nthS dspecs i w' v) :
  StoAt n L' (fun j => if j = i then v else val j) w' r s := by
 have hmem := List.mem_of_getElem? hs
 have hne : n + r ≠ i := by omega
 refine ⟨fun h1 => ?_, fun h1 => ?_⟩
 ·rw [hL, if_neg hne] at h1
  obtain ⟨cs, h2, h3⟩ := h.1 h1
  refine ⟨cs, ?_, hok.post s hmem _ _ _ h3 (.of hb)⟩
  have e : s.tgt (fun j => if j = i then v else val j) = s.tgt val := by
   unfold Sto.tgt
   cases hx : s.al with
   | none => rfl
   | some x =>
    have hp : x ∈ predsOf ops (n + r) := by
     have h4 := hok.tab r s x hs hx (hlt h1)
     unfold stoB at hstb
     rw [Bool.and_eq_true, List.all_eq_true] at hstb
     have h5 := hstb.2 r (by have := hlt h1; simp; omega)
     rw [List.all_eq_true] at h5
     have h6 := h5 x h4
     rw [Bool.and_eq_true] at h6
     simpa using h6.2
    have h7 := hcl h1 x hp
    have : x ≠ i := fun e => by rw [e, hLi] at h7; cases h7
    simp only [if_neg this]
  rw [e]
  exact h2.below hb
 ·rw [hL, if_neg hne] at h1
  obtain ⟨h2, h3⟩ := h.2 h1
  refine ⟨fun hn => (h2 hn).below hb, fun x hx h4 => ?_⟩
  by_cases hxi : x = i
  ·subst hxi
   simp only [if_pos]
   exact (hok.new s hmem x hx).2.2 _ _ hv
  ·rw [hL, if_neg hxi] at h4
   simp only [if_neg hxi]
   exact (h3 x hx h4).below hb
/-- A box was written: the others are as they were. -/
theorem StoAt.store (hok : StoOK n m W al dspecs stos stab Sg) {r0 : Nat} {s0 : Sto} (h0 : stos[r0]? = some s0) (hL0 : L (n + r0) = false) {cs : List Value} (hg : Bx w' (s0.tgt val) s0.T cs) (hp : s0.post w' cs) (ho : Only (s0.tgt val) wx w') (hk : Kp wx w')
  (hL : ∀ k, L' k = if k = n + r0 then true else L k) (hx0 : ∀ x, s0.al = some x → L x = true) (_hW : W.heap.size ≤ wx.heap.size)
  (hal : ∀ k, k < n → L k = true → al.getD k false = true → ∃ g, val k = .pointer (some ⟨g, 0, none⟩) ∧ W.heap.size ≤ g ∧ g < wx.heap.size)
  (hdis : ∀ j k, j < n → k < n → j ≠ k → L j = true → L k = true → al.getD j false = true → al.getD k false = true → val j ≠ val k)
  (hlt : ∀ r s, stos[r]? = some s → L (n + r) = true → ∀ x, s.al = some x → L x = true)
  {r : Nat} {s : Sto} (hs : stos[r]? = some s) (h : StoAt n L val wx r s) : StoAt n L' val w' r s := by
 have hmem := List.mem_of_getElem? hs
 have hmem0 := List.mem_of_getElem? h0
 by_cases hr : r = r0
 ·subst hr
  rw [h0] at hs
  injection hs with hs
  subst hs
  refine ⟨fun _ => ⟨cs, hg, hp⟩, fun h1 => ?_⟩
  rw [hL, if_pos rfl] at h1
  cases h1
 ·have hnr : n + r ≠ n + r0 := by omega
  have key : (∀ x, s.al = some x → L x = true) → s.tgt val ≠ s0.tgt val := fun hx => by
   have hn := hok.ne r r0 s s0 hs h0 hr
   unfold Sto.tgt
   cases hsa : s.al with
   | none =>
    have h1 := (hok.old s hmem hsa).2.lt
    cases hsb : s0.al with
    | none => exact hn.1 hsa hsb
    | some y =>
     obtain ⟨h3, h4, _⟩ := hok.new s0 hmem0 y hsb
     obtain ⟨g, h5, h6, h7⟩ := hal y h3 (hx0 y hsb) h4
     show s.g ≠ blkOf (val y)
     rw [h5]
     show s.g ≠ g
     omega
   | some x =>
    obtain ⟨h3, h4, _⟩ := hok.new s hmem x hsa
    obtain ⟨g, h5, h6, h7⟩ := hal x h3 (hx x hsa) h4
    cases hsb : s0.al with
    | none =>
     have h1 := (hok.old s0 hmem0 hsb).2.lt
     show blkOf (val x) ≠ s0.g
     rw [h5]
     show g ≠ s0.g
     omega
    | some y =>
     obtain ⟨k3, k4, _⟩ := hok.new s0 hmem0 y hsb
     obtain ⟨g2, k5, k6, k7⟩ := hal y k3 (hx0 y hsb) k4
     have hxy : x ≠ y := fun e => hn.2 x hsa (e ▸ hsb)
     have hd := hdis x y h3 k3 hxy (hx x hsa) (hx0 y hsb) h4 k4
     show blkOf (val x) ≠ blkOf (val y)
     rw [h5, k5] at hd ⊢
     show g ≠ g2
     intro e
     exact hd (by rw [e])
  refine ⟨fun h1 => ?_, fun h1 => ?_⟩
  ·rw [hL, if_neg hnr] at h1
   obtain ⟨c2, h2, h3⟩ := h.1 h1
   exact ⟨c2, h2.only ho (key (hlt r s hs h1)), hok.post s hmem _ _ _ h3 hk⟩
  ·rw [hL, if_neg hnr] at h1
   obtain ⟨h2, h3⟩ := h.2 h1
   refine ⟨fun hn => (h2 hn).only ho ?_, fun x hx h4 => ?_⟩
   ·have := key (fun x hx => by rw [hn] at hx; cases hx)
    unfold Sto.tgt at this
    rw [hn] at this
    exact this
   ·have hxn := (hok.new s hmem x hx).1
    rw [hL, if_neg (by omega)] at h4
    refine (h3 x hx h4).only ho ?_
    have := key (fun y hy => by rw [hx] at hy; injection hy with hy; rw [← hy]; exact h4)
    unfold Sto.tgt at this
    rw [hx] at this
    exact this
end
end Go.Proofs.YtlgnagnmoleeiaaGreat
namespace Go.Proofs.YtlgnagnmoleeiaaGreat
set_option maxHeartbeats 4000000
open Go.RowKit
attribute [local go_sem] run_store_one
set_option linter.unusedSimpArgs false
section
variable {P : Program} {ops : Array Oper} {Q : Exit → Act → World → Prop} {a : Act} {w : World} {rest : List Oper} {o : Oper}
end
end Go.Proofs.YtlgnagnmoleeiaaGreat
namespace Go.Proofs.YtlgnagnmoleeiaaGreat
set_option maxHeartbeats 4000000
open Go.RowKit
attribute [local go_sem] run_store_one
set_option linter.unusedSimpArgs false
theorem Only.refl (g : Nat) (w : World) : Only g w w := ⟨rfl, rfl, rfl, rfl, fun _ _ => rfl⟩
theorem Only.set_ {g : Nat} {w w' : World} (h : Only g w w') (j : Nat) (u : Value) : Only g w (w'.setCell ⟨g, j, none⟩ u) :=
 ⟨h.os, h.tape, h.output, by simpa [World.setCell] using h.size, fun k hk => (Below.heap_setCell w' ⟨g, j, none⟩ u k hk).trans (h.block k hk)⟩
theorem Tn.b0 {w w' : World} (h : Tn [] w w') : Below w.heap.size w w' := ⟨h.os, h.tape, h.output, h.size, fun k hk => h.block k hk (by simp)⟩
theorem Tn.dr {S : List Nat} {w W w' : World} (hW : w.drew = W) (h : Tn S W w') : Tn S w w' := by subst hW; exact h.drew
/-- A guarded operation's value: there only if it was wanted. -/
def SG (C : Bool) (S : Sp) : Sp := fun w v => if C = true then S w v else v = undef
theorem SG.on {C : Bool} {S : Sp} {w : World} {v : Value} (hC : C = true) (h : SG C S w v) : S w v := by unfold SG at h; rwa [if_pos hC] at h
theorem SG.monoK {C : Bool} {S : Sp} (h : MonoK S) : MonoK (SG C S) := fun w w' v g k => by
 unfold SG at g ⊢
 split
 ·rename_i hC; rw [if_pos hC] at g; exact h _ _ _ g k
 ·rename_i hC; rw [if_neg hC] at g; exact g
/-- A pointer to a box that the region made. -/
def SA (W : World) : Sp := fun _ v => ∃ g, v = .pointer (some ⟨g, 0, none⟩) ∧ W.heap.size ≤ g
theorem SA.monoK (W : World) : MonoK (SA W) := fun _ _ _ h _ => h
theorem SB.sa {W : World} {T : Nat} {Z : List Value} : ∀ w v, SB W T Z w v → SA W w v := fun _ _ ⟨g, h1, h2, _⟩ => ⟨g, h1, h2⟩
theorem SB.bx {W : World} {T : Nat} {Z : List Value} : ∀ w v, SB W T Z w v → Bx w (blkOf v) T Z := fun _ _ ⟨_, h1, _, h3⟩ => by subst h1; exact h3
theorem SC.monoK (c : Value) : MonoK (SC c) := fun _ _ _ h _ => h
theorem SI.monoK (x : Int) : MonoK (SI x) := fun _ _ _ ⟨a, b, h1, h2⟩ k => ⟨a, b, h1, h2.kp k⟩
theorem SR.monoK (x : Rat) : MonoK (SR x) := fun _ _ _ ⟨a, b, c, d, h1, h2⟩ k => ⟨a, b, c, d, h1, h2.kp k⟩
theorem SS.monoK (l : List Int) : MonoK (SS l) := fun _ _ _ h k => h.kp k
theorem SV.monoK (v : Rat × Rat) : MonoK (SV v) := fun _ _ _ ⟨a, b, c, d, e, f, g, h, h1, h2⟩ k => ⟨a, b, c, d, e, f, g, h, h1, h2.kp k⟩
/-- An element of a row: some cells that lie somewhere in an old block. -/
def Cr (w : World) (b o : Nat) (cs : List Value) : Prop := b < w.heap.size ∧ ∀ j c, cs[j]? = some c → w.cell? ⟨b, o + j, none⟩ = some c
section
variable {w w' : World} {b o : Nat} {cs : List Value} {S : List Nat}
theorem Cr.tn (h : Cr w b o cs) (t : Tn S w w') (hb : b ∉ S) : Cr w' b o cs :=
 ⟨Nat.lt_of_lt_of_le h.1 t.size, fun j c hc => (World.cell?_of_block (a := ⟨b, o + j, none⟩) (t.block b h.1 hb)).trans (h.2 j c hc)⟩
theorem Cr.below (h : Cr w b o cs) (t : Below w.heap.size w w') : Cr w' b o cs :=
 ⟨Nat.lt_of_lt_of_le h.1 t.size, fun j c hc => (World.cell?_of_block (a := ⟨b, o + j, none⟩) (t.block b h.1)).trans (h.2 j c hc)⟩
theorem Bx.cr {g T : Nat} {l : List Value} (h : Bx w g T l) : Cr w g 0 l := ⟨h.lt, fun j c hc => by rw [Nat.zero_add]; exact h.cell hc⟩
end
section
variable {o : Oper} {a : Act} {wx : World} {g off : Nat} {p x : Operand} {l : List Value} {Tb : Nat}
variable {d d1 d2 : Nat}
end
section
variable {n m : Nat} {W : World} {al : List Bool} {dspecs : List Sp} {Sg : List Nat} {s s' : Sto} {t t' : List Nat}
end
end Go.Proofs.YtlgnagnmoleeiaaGreat
namespace Go.Proofs.YtlgnagnmoleeiaaGreat
open Go.RowKit
end Go.Proofs.YtlgnagnmoleeiaaGreat
namespace Go.Proofs.YtlgnagnmoleeiaaGreat
set_option maxHeartbeats 1000000
open Go.RowKit
set_option linter.unusedVariables false
set_option linter.unusedSimpArgs false
attribute [local go_sem] run_store_one
@[reducible] def ni (n : Nat) : Value := .int .i64 (n : Int)
@[reducible] def ags (cs : Nat → Nat → Value) (i : Nat) : List Value := [cs i 0, cs i 1, cs i 2, cs i 3, cs i 4, cs i 5, cs i 6, cs i 7]
theorem hq {p : Prop} (h : p) : Hid p := Lib.hid h
/-- What an operation yields: a known value, an integer, a rational, a vector, a new box, a guarded one, or whatever S says. -/
inductive D where
 | c (v : Value)
 | i (x : Int)
 | r (x : Rat)
 | v (x : Rat × Rat)
 | n (T : Nat) (Z : List Value)
 | g (C : Bool) (d : D)
 | s (S : Sp)
def D.sp (W : World) : D → Sp
 | .c u => SC u
 | .i x => SI x
 | .r x => SR x
 | .v x => SV x
 | .n _ _ => SA W
 | .g C d => SG C (d.sp W)
 | .s S => S
def D.dsp (W : World) : D → Sp
 | .n T Z => SB W T Z
 | .c u => SC u
 | .i x => SI x
 | .r x => SR x
 | .v x => SV x
 | .g C d => SG C (d.sp W)
 | .s S => S
def D.al : D → Bool
 | .n _ _ => true
 | _ => false
def D.plain : D → Bool
 | .s _ => false
 | .g _ d => d.plain
 | _ => true
def D.ok (kb : Bool) : D → Prop
 | .s S => if kb = true then MonoK S else Mono S
 | .g _ d => d.ok kb
 | _ => True
def DOk (kb : Bool) : List D → Prop
 | [] => True
 | d :: t => if d.plain = true then DOk kb t else d.ok kb ∧ DOk kb t
theorem D.ok_of {kb : Bool} : ∀ {d : D}, d.plain = true → d.ok kb
 | .c _, _ => trivial
 | .i _, _ => trivial
 | .r _, _ => trivial
 | .v _, _ => trivial
 | .n _ _, _ => trivial
 | .g _ d, h => D.ok_of (d := d) h
 | .s _, h => by cases h
theorem SG.mono {C : Bool} {S : Sp} (h : Mono S) : Mono (SG C S) := fun w w' v g k => by
 unfold SG at g ⊢
 split
 ·rename_i hC; rw [if_pos hC] at g; exact h _ _ _ g k
 ·rename_i hC; rw [if_neg hC] at g; exact g
theorem D.monoK {W : World} : ∀ {d : D}, d.ok true → MonoK (d.sp W)
 | .c u, _ => SC.monoK u
 | .i x, _ => SI.monoK x
 | .r x, _ => SR.monoK x
 | .v x, _ => SV.monoK x
 | .n _ _, _ => SA.monoK W
 | .g _ d, h => SG.monoK (D.monoK (d := d) h)
 | .s S, h => show MonoK S by simpa [D.ok] using h
theorem D.mono {W : World} : ∀ {d : D}, d.ok false → Mono (d.sp W)
 | .c u, _ => (SC.monoK u).mono
 | .i x, _ => (SI.monoK x).mono
 | .r x, _ => (SR.monoK x).mono
 | .v x, _ => (SV.monoK x).mono
 | .n _ _, _ => (SA.monoK W).mono
 | .g _ d, h => SG.mono (D.mono (d := d) h)
 | .s S, h => show Mono S by simpa [D.ok] using h
theorem DOk.cons {kb : Bool} {d : D} {t : List D} (h : DOk kb (d :: t)) : d.ok kb ∧ DOk kb t := by
 unfold DOk at h
 split at h
 ·rename_i hp; exact ⟨D.ok_of hp, h⟩
 ·exact h
theorem DOk.monoK {W : World} : ∀ {ds : List D}, DOk true ds → MonoKL (ds.map (D.sp W))
 | [], _ => trivial
 | _ :: _, h => ⟨D.monoK h.cons.1, DOk.monoK h.cons.2⟩
theorem DOk.mono {W : World} : ∀ {ds : List D}, DOk false ds → MonoL (ds.map (D.sp W))
 | [], _ => trivial
 | _ :: _, h => ⟨D.mono h.cons.1, DOk.mono h.cons.2⟩
theorem DOk.both {W : World} {kb : Bool} {ds : List D} {n m : Nat} (h : DOk kb ds) (hk : (kb || decide (m ≤ n)) = true) : MonoL (ds.map (D.sp W)) ∧ (MonoKL (ds.map (D.sp W)) ∨ m ≤ n) := by
 cases kb with
 | true => exact monoA h.monoK
 | false => exact ⟨h.mono, .inr (by simpa using hk)⟩
theorem D.imp {W : World} : ∀ d : D, ∀ w v, d.dsp W w v → d.sp W w v
 | .n T Z, w, u, h => SB.sa (T := T) (Z := Z) w u h
 | .c _, _, _, h => h
 | .i _, _, _, h => h
 | .r _, _, _, h => h
 | .v _, _, _, h => h
 | .g _ _, _, _, h => h
 | .s _, _, _, h => h
/-- With what is known of the slots j .., the goal. -/
def HaveC (specs : List Sp) (ts : List Nat) (wx : World) (a : Act) (goal : Prop) : List Nat → Prop
 | [] => goal
 | j :: r => nthS specs j wx (a.eval (.tmp (ts.getD j 0))) → HaveC specs ts wx a goal r
theorem HaveC.of {specs : List Sp} {ts : List Nat} {wx : World} {a : Act} {goal : Prop} : ∀ {l : List Nat}, HaveC specs ts wx a goal l → Have specs ts wx a l → goal
 | [], h, _ => h
 | _ :: _, h, g => HaveC.of (h g.1) g.2
theorem HaveC.map {specs : List Sp} {ts : List Nat} {wx : World} {a : Act} {p q : Prop} (f : p → q) : ∀ {l : List Nat}, HaveC specs ts wx a p l → HaveC specs ts wx a q l
 | [], h => f h
 | _ :: _, h => fun x => HaveC.map f (h x)
section
variable (P : Program) (ops : Array Oper) (n m : Nat) (W : World) (F : Act) (ds : List D) (tab : List (Nat × List Nat)) (stos : List Sto) (Sg : List Nat)
/-- One operation's step. -/
def StepD (k : Nat) (d : D) (need : List Nat) : Prop := ∀ a wx, Tn Sg W wx → (∀ r s, stos[r]? = some s → s.al = none → reachB ops k ops.size (n + r) = true → n + r < m → Bx wx s.g s.T s.old) →
 (∀ s, (tab.map (·.1)).contains s = false → a.eval (.tmp s) = F.eval (.tmp s)) → HaveC (ds.map (D.sp W)) (tab.map (·.1)) wx a (∃ o, ops[k]? = some o ∧ DoesG P ops o (d.dsp W) d.al a wx) need
def StepL : Nat → List D → List (Nat × List Nat) → Prop
 | _, [], _ => True
 | _, _ :: _, [] => False
 | k, d :: t, x :: r => StepD P ops n m W F ds tab stos Sg k d x.2 ∧ StepL (k + 1) t r
end
section
variable {P : Program} {ops : Array Oper} {n m : Nat} {W : World} {F : Act} {ds : List D} {tab : List (Nat × List Nat)} {stos : List Sto} {Sg : List Nat}
theorem StepL.nth : ∀ {k : Nat} {dl : List D} {tl : List (Nat × List Nat)}, StepL P ops n m W F ds tab stos Sg k dl tl → ∀ (i : Nat) (d : D) (x : Nat × List Nat), dl[i]? = some d → tl[i]? = some x → StepD P ops n m W F ds tab stos Sg (k + i) d x.2
 | _, [], _, _, i, d, x, hd, _ => by simp at hd
 | _, _ :: _, [], h, _, _, _, _, _ => h.elim
 | k, e :: t, y :: r, h, 0, d, x, hd, hx => by
  simp at hd hx
  subst hd; subst hx
  exact h.1
 | k, e :: t, y :: r, h, i + 1, d, x, hd, hx => by
  have := StepL.nth h.2 i d x (by simpa using hd) (by simpa using hx)
  rw [show k + 1 + i = k + (i + 1) by omega] at this
  exact this
theorem nth_map (f : D → Sp) : ∀ (l : List D) (k : Nat) (d : D), l[k]? = some d → nthS (l.map f) k = f d
 | [], _, _, h => by simp at h
 | _ :: _, 0, _, h => by simp at h; subst h; rfl
 | _ :: t, k + 1, d, h => nth_map f t k d (by simpa using h)
theorem StepL.step (h : StepL P ops n m W F ds tab stos Sg 0 ds tab) (hl : ds.length = n) (ht : tab.length = n) : ∀ (k : Nat), k < n → ∀ a wx, Tn Sg W wx → (∀ r s, stos[r]? = some s → s.al = none → reachB ops k ops.size (n + r) = true → n + r < m → Bx wx s.g s.T s.old) → Have (ds.map (D.sp W)) (tab.map (·.1)) wx a (tab.getD k (0, [])).2 → (∀ s, (tab.map (·.1)).contains s = false → a.eval (.tmp s) = F.eval (.tmp s)) →
   ∃ o, ops[k]? = some o ∧ DoesG P ops o (nthS (ds.map (D.dsp W)) k) ((ds.map D.al).getD k false) a wx := by
 intro k hk a wx hT hb hp hs
 have h1 : ds[k]? = some ds[k] := List.getElem?_eq_getElem (by omega)
 have h2 : tab[k]? = some tab[k] := List.getElem?_eq_getElem (by omega)
 have h3 := h.nth k _ _ h1 h2 a wx hT (by rw [Nat.zero_add]; exact hb) hs
 rw [Nat.zero_add] at h3
 have h4 : tab.getD k (0, []) = tab[k] := by rw [List.getD_eq_getElem?_getD, h2]; rfl
 rw [h4] at hp
 have h5 := h3.of hp
 rw [nth_map _ _ _ _ h1]
 have h6 : (ds.map D.al).getD k false = ds[k].al := by rw [List.getD_eq_getElem?_getD, List.getElem?_map, h1]; rfl
 rw [h6]
 exact h5
end
section
variable {P : Program} {o : Oper} {a : Act} {wx : World} {x y : Operand} {z m : Int}
end
/-- The cells of a struct's value. -/
def D.cl : D → World → List Value → Prop
 | .v x, w, cs => ∃ a0 a1 a2 a3 a4 a5 a6 a7, cs = [a0, a1, a2, a3, a4, a5, a6, a7] ∧ VecV w a0 a1 a2 a3 a4 a5 a6 a7 x
 | .r x, w, cs => ∃ a0 a1 a2 a3, cs = [a0, a1, a2, a3] ∧ RatV w a0 a1 a2 a3 x
 | .i x, w, cs => ∃ a0 a1, cs = [a0, a1] ∧ IntV w a0 a1 x
 | .c (.agg arr), _, cs => cs = arr.toList
 | _, _, _ => False
/-- The cells that are known, and how many there are. -/
def D.kn : D → List Value
 | .c (.agg arr) => arr.toList
 | _ => []
def D.sz : D → Nat
 | .v _ => 8
 | .r _ => 4
 | .i _ => 2
 | .c (.agg arr) => arr.toList.length
 | _ => 0
def D.str : D → Bool
 | .v _ => true
 | .r _ => true
 | .i _ => true
 | .c (.agg _) => true
 | _ => false
end Go.Proofs.YtlgnagnmoleeiaaGreat
namespace Go.Proofs.YtlgnagnmoleeiaaGreat
set_option maxHeartbeats 4000000
open Go.RowKit
attribute [local go_sem] run_store_one
set_option linter.unusedVariables false
set_option linter.unusedSimpArgs false
end Go.Proofs.YtlgnagnmoleeiaaGreat
namespace Go.Proofs.YtlgnagnmoleeiaaGreat
set_option maxHeartbeats 4000000
open Go.RowKit
attribute [local go_sem] run_store_one
set_option linter.unusedVariables false
end Go.Proofs.YtlgnagnmoleeiaaGreat
namespace Go.Proofs.YtlgnagnmoleeiaaGreat
set_option maxHeartbeats 4000000
open Go.RowKit
attribute [local go_sem] run_store_one
set_option linter.unusedVariables false
end Go.Proofs.YtlgnagnmoleeiaaGreat
