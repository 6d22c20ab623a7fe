/-
 A block of the call's own that is a row of ints; make and its first content; results that are slices of ints.
-/
import Derived.Test.YtgdibcgphjmofaaRows
import Derived.Test.YtgdibcgphjmofaaMemI
import Derived.WalkLawsBesides
import Derived.LoopTactic
import Derived.BigQuiet
import Derived.Deep.QuietTactic
import Derived.Deep.LoopGhost
namespace Go.Proofs.Ytgdibcgphjmofaa
open Go.RowKit
theorem info_i64 : (Try.prog.info? 3).map (fun i => (i.zero, i.size, i.bytes)) = some (some (.int .i64 0), 1, 8) := by kernel_rfl
/-- So many zeros, as cells. -/
def zs (n : Nat) : Array Value := (il (List.replicate n 0)).toArray
theorem zs_made (n : Nat) : madeCells #[.int .i64 0] n = zs n := by
 apply Array.ext
 ·simp [madeCells, zs]
 ·intro i h1 h2
  simp [madeCells, zs, il, Nat.mod_one]
/-- make of so many ints. -/
theorem run_make_il (n : Nat) (hn : n ≤ 1099511627776) (m : Int) (hm : m = (n : Int)) (u : World) :
  (Instr.makeSlice 23 (.int .i64 m) (.int .i64 m)).run Try.prog u = .ok (.slice (some ⟨u.heap.size, 0, none⟩) n n) (u.alloc (.cells (zs n) 3)) := by
 subst hm
 obtain ⟨i0, hi, hz0, hz1, hz2⟩ := info_parts info_i64
 have h := run_make (P := Try.prog) u 23 3 i0 (.int .i64 0) Try.underlying23 hi hz0 .i64 .i64 (n : Int) (n : Int) (by omega) (Int.le_refl _) (by rw [hz2]; omega) (by omega)
 simpa [hz1, Value.cells, zs_made] using h
/-- Block g is the row of these ints. -/
def Bk (w : World) (g : Nat) (l : List Int) : Prop := w.heap[g]? = some (.cells (il l).toArray 3 (0, 0))
section
variable {w w' : World} {g : Nat} {l : List Int}
theorem Bk.lt (h : Bk w g l) : g < w.heap.size := (Array.getElem?_eq_some_iff.1 h).1
theorem Bk.cell (h : Bk w g l) {i : Nat} {x : Int} (hx : l[i]? = some x) : w.cell? ⟨g, i, none⟩ = some (.int .i64 x) := by
 rw [cell_of_row w g i _ _ _ h]
 simpa using il_at l hx
theorem Bk.frozen (h : Bk w g l) (i : Nat) : w.frozen? ⟨g, i, none⟩ = false := by
 unfold Bk at h
 simp [World.frozen?, h]
theorem Bk.set_ (h : Bk w g l) (i : Nat) (x : Int) : Bk (w.setCell ⟨g, i, none⟩ (.int .i64 x)) g (l.set i x) := by
 unfold Bk at h ⊢
 simp [World.setCell, Array.getElem?_modify, h, il, List.map_set]
theorem Bk.drew (h : Bk w g l) : Bk w.drew g l := h
theorem Bk.drewN (h : Bk w g l) (n : Nat) : Bk (w.drewN n) g l := h
theorem Bk.alloc (h : Bk w g l) (o : Obj) : Bk (w.alloc o) g l := (Below.heap_alloc w o g h.lt).trans h
theorem Bk.below (h : Bk w g l) {B : Nat} (hb : Below B w w') (hg : g < B) : Bk w' g l := (hb.block g hg).trans h
theorem Bk.far (h : Bk w g l) {p : Addr} (hp : g ≠ p.block) (u : Value) : Bk (w.setCell p u) g l := (Below.heap_setCell w p u g hp).trans h
theorem Bk.new (w : World) (n : Nat) : Bk (w.alloc (.cells (zs n) 3)) w.heap.size (List.replicate n 0) := heap_alloc_new w _
theorem Bk.rd (h : Bk w g l) : Rd w w.heap.size (some ⟨g, 0, none⟩) (il l) := fun _ => ⟨g, 0, rfl, h.lt, fun j u hu => by
 rw [Nat.zero_add, cell_of_row w g j _ _ _ h]
 simpa using hu⟩
theorem Bk.sl (h : Bk w g l) {n c : Nat} (hn : n = l.length) (hc : n ≤ c) (hm : c ≤ maxLen) : Sl w (.slice (some ⟨g, 0, none⟩) n c) l := ⟨_, _, _, rfl, hn, hc, hm, h.rd, fun _ => ⟨_, _, _, _, rfl, h⟩⟩
end
/-- A contract that leaves the world alone, in a quiet region behind another one. -/
theorem quiet_more {P : Program} {f : FuncId} {args : Array Value} {w : World} {a n : Nat} {v : Value} (h : ∀ W : World, Calls P f args W fun e w' => e = .returned v ∧ W = w') :
  Calls P f args (w.drewN (a + n)) fun e w'' => e = .returned v ∧ ∃ m, w'' = w.drewN (a + m) :=
 (h _).mono fun _ _ ⟨he, hm⟩ => ⟨he, n, hm.symm⟩
/-- Block g is the box, or row, of these cells. -/
def Bx (w : World) (g T : Nat) (l : List Value) : Prop := w.heap[g]? = some (.cells l.toArray T (0, 0))
section
variable {w w' : World} {g T : Nat} {l : List Value}
theorem Bx.lt (h : Bx w g T l) : g < w.heap.size := (Array.getElem?_eq_some_iff.1 h).1
theorem Bx.cell (h : Bx w g T l) {i : Nat} {x : Value} (hx : l[i]? = some x) : w.cell? ⟨g, i, none⟩ = some x := by
 rw [cell_of_row w g i _ _ _ h]
 simpa using hx
theorem Bx.frozen (h : Bx w g T l) (i : Nat) : w.frozen? ⟨g, i, none⟩ = false := by
 unfold Bx at h
 simp [World.frozen?, h]
theorem Bx.set_ (h : Bx w g T l) (i : Nat) (x : Value) : Bx (w.setCell ⟨g, i, none⟩ x) g T (l.set i x) := by
 unfold Bx at h ⊢
 simp [World.setCell, Array.getElem?_modify, h]
theorem Bx.drew (h : Bx w g T l) : Bx w.drew g T l := h
theorem Bx.drewN (h : Bx w g T l) (n : Nat) : Bx (w.drewN n) g T l := h
theorem Bx.alloc (h : Bx w g T l) (o : Obj) : Bx (w.alloc o) g T l := (Below.heap_alloc w o g h.lt).trans h
theorem Bx.below (h : Bx w g T l) (hb : Below w.heap.size w w') : Bx w' g T l := (hb.block g h.lt).trans h
theorem Bx.far (h : Bx w g T l) {p : Addr} (hp : g ≠ p.block) (u : Value) : Bx (w.setCell p u) g T l := (Below.heap_setCell w p u g hp).trans h
theorem Bx.far_ {g' j : Nat} (h : Bx w g T l) (hp : g ≠ g') (u : Value) : Bx (w.setCell ⟨g', j, none⟩ u) g T l := h.far hp u
theorem Bx.at_ {g T : Nat} {w : World} {l : List Value} (h : w.heap.size = g) : Bx (w.alloc (.cells l.toArray T)) g T l := by
 subst h
 exact heap_alloc_new w _
theorem Bx.setAs {i : Nat} {x : Value} {l' : List Value} (h : Bx w g T l) (e : l.set i x = l') : Bx (w.setCell ⟨g, i, none⟩ x) g T l' := e ▸ h.set_ i x
theorem Bx.new (w : World) (T : Nat) (l : List Value) : Bx (w.alloc (.cells l.toArray T)) w.heap.size T l := heap_alloc_new w _
theorem Bx.f2 {z0 z1 : Value} {m : List Value} (h : Bx w g T (z0 :: z1 :: m)) : w.cell? ⟨g, 0, none⟩ = some z0 ∧ w.cell? ⟨g, 1, none⟩ = some z1 ∧ (∀ i, w.frozen? ⟨g, i, none⟩ = false) ∧ g < w.heap.size :=
 ⟨h.cell rfl, h.cell rfl, h.frozen, h.lt⟩
theorem Bx.b2 {z0 z1 : Value} {m : List Value} (h : Bx w g T (z0 :: z1 :: m)) (hb : Below w.heap.size w w') : Bx w' g T (z0 :: z1 :: m) ∧ w'.cell? ⟨g, 0, none⟩ = some z0 ∧ w'.cell? ⟨g, 1, none⟩ = some z1 ∧ (∀ i, w'.frozen? ⟨g, i, none⟩ = false) ∧ g < w'.heap.size :=
 ⟨h.below hb, (h.below hb).f2⟩
theorem Bx.f4 {z0 z1 z2 z3 : Value} {m : List Value} (h : Bx w g T (z0 :: z1 :: z2 :: z3 :: m)) : w.cell? ⟨g, 0, none⟩ = some z0 ∧ w.cell? ⟨g, 1, none⟩ = some z1 ∧ w.cell? ⟨g, 2, none⟩ = some z2 ∧ w.cell? ⟨g, 3, none⟩ = some z3 ∧ (∀ i, w.frozen? ⟨g, i, none⟩ = false) ∧ g < w.heap.size :=
 ⟨h.cell rfl, h.cell rfl, h.cell rfl, h.cell rfl, h.frozen, h.lt⟩
theorem Bx.b4 {z0 z1 z2 z3 : Value} {m : List Value} (h : Bx w g T (z0 :: z1 :: z2 :: z3 :: m)) (hb : Below w.heap.size w w') : Bx w' g T (z0 :: z1 :: z2 :: z3 :: m) ∧ w'.cell? ⟨g, 0, none⟩ = some z0 ∧ w'.cell? ⟨g, 1, none⟩ = some z1 ∧ w'.cell? ⟨g, 2, none⟩ = some z2 ∧ w'.cell? ⟨g, 3, none⟩ = some z3 ∧ (∀ i, w'.frozen? ⟨g, i, none⟩ = false) ∧ g < w'.heap.size :=
 ⟨h.below hb, (h.below hb).f4⟩
theorem Bx.f8 {z0 z1 z2 z3 z4 z5 z6 z7 : Value} {m : List Value} (h : Bx w g T (z0 :: z1 :: z2 :: z3 :: z4 :: z5 :: z6 :: z7 :: m)) : w.cell? ⟨g, 0, none⟩ = some z0 ∧ w.cell? ⟨g, 1, none⟩ = some z1 ∧ w.cell? ⟨g, 2, none⟩ = some z2 ∧ w.cell? ⟨g, 3, none⟩ = some z3 ∧ w.cell? ⟨g, 4, none⟩ = some z4 ∧ w.cell? ⟨g, 5, none⟩ = some z5 ∧ w.cell? ⟨g, 6, none⟩ = some z6 ∧ w.cell? ⟨g, 7, none⟩ = some z7 ∧ (∀ i, w.frozen? ⟨g, i, none⟩ = false) ∧ g < w.heap.size :=
 ⟨h.cell rfl, h.cell rfl, h.cell rfl, h.cell rfl, h.cell rfl, h.cell rfl, h.cell rfl, h.cell rfl, h.frozen, h.lt⟩
theorem Bx.b8 {z0 z1 z2 z3 z4 z5 z6 z7 : Value} {m : List Value} (h : Bx w g T (z0 :: z1 :: z2 :: z3 :: z4 :: z5 :: z6 :: z7 :: m)) (hb : Below w.heap.size w w') : Bx w' g T (z0 :: z1 :: z2 :: z3 :: z4 :: z5 :: z6 :: z7 :: m) ∧ w'.cell? ⟨g, 0, none⟩ = some z0 ∧ w'.cell? ⟨g, 1, none⟩ = some z1 ∧ w'.cell? ⟨g, 2, none⟩ = some z2 ∧ w'.cell? ⟨g, 3, none⟩ = some z3 ∧ w'.cell? ⟨g, 4, none⟩ = some z4 ∧ w'.cell? ⟨g, 5, none⟩ = some z5 ∧ w'.cell? ⟨g, 6, none⟩ = some z6 ∧ w'.cell? ⟨g, 7, none⟩ = some z7 ∧ (∀ i, w'.frozen? ⟨g, i, none⟩ = false) ∧ g < w'.heap.size :=
 ⟨h.below hb, (h.below hb).f8⟩
theorem Bx.f16 {z0 z1 z2 z3 z4 z5 z6 z7 z8 z9 z10 z11 z12 z13 z14 z15 : Value} {m : List Value} (h : Bx w g T (z0 :: z1 :: z2 :: z3 :: z4 :: z5 :: z6 :: z7 :: z8 :: z9 :: z10 :: z11 :: z12 :: z13 :: z14 :: z15 :: m)) : w.cell? ⟨g, 0, none⟩ = some z0 ∧ w.cell? ⟨g, 1, none⟩ = some z1 ∧ w.cell? ⟨g, 2, none⟩ = some z2 ∧ w.cell? ⟨g, 3, none⟩ = some z3 ∧ w.cell? ⟨g, 4, none⟩ = some z4 ∧ w.cell? ⟨g, 5, none⟩ = some z5 ∧ w.cell? ⟨g, 6, none⟩ = some z6 ∧ w.cell? ⟨g, 7, none⟩ = some z7 ∧ w.cell? ⟨g, 8, none⟩ = some z8 ∧ w.cell? ⟨g, 9, none⟩ = some z9 ∧ w.cell? ⟨g, 10, none⟩ = some z10 ∧ w.cell? ⟨g, 11, none⟩ = some z11 ∧ w.cell? ⟨g, 12, none⟩ = some z12 ∧ w.cell? ⟨g, 13, none⟩ = some z13 ∧ w.cell? ⟨g, 14, none⟩ = some z14 ∧ w.cell? ⟨g, 15, none⟩ = some z15 ∧ (∀ i, w.frozen? ⟨g, i, none⟩ = false) ∧ g < w.heap.size :=
 ⟨h.cell rfl, h.cell rfl, h.cell rfl, h.cell rfl, h.cell rfl, h.cell rfl, h.cell rfl, h.cell rfl, h.cell rfl, h.cell rfl, h.cell rfl, h.cell rfl, h.cell rfl, h.cell rfl, h.cell rfl, h.cell rfl, h.frozen, h.lt⟩
theorem Bx.b16 {z0 z1 z2 z3 z4 z5 z6 z7 z8 z9 z10 z11 z12 z13 z14 z15 : Value} {m : List Value} (h : Bx w g T (z0 :: z1 :: z2 :: z3 :: z4 :: z5 :: z6 :: z7 :: z8 :: z9 :: z10 :: z11 :: z12 :: z13 :: z14 :: z15 :: m)) (hb : Below w.heap.size w w') : Bx w' g T (z0 :: z1 :: z2 :: z3 :: z4 :: z5 :: z6 :: z7 :: z8 :: z9 :: z10 :: z11 :: z12 :: z13 :: z14 :: z15 :: m) ∧ w'.cell? ⟨g, 0, none⟩ = some z0 ∧ w'.cell? ⟨g, 1, none⟩ = some z1 ∧ w'.cell? ⟨g, 2, none⟩ = some z2 ∧ w'.cell? ⟨g, 3, none⟩ = some z3 ∧ w'.cell? ⟨g, 4, none⟩ = some z4 ∧ w'.cell? ⟨g, 5, none⟩ = some z5 ∧ w'.cell? ⟨g, 6, none⟩ = some z6 ∧ w'.cell? ⟨g, 7, none⟩ = some z7 ∧ w'.cell? ⟨g, 8, none⟩ = some z8 ∧ w'.cell? ⟨g, 9, none⟩ = some z9 ∧ w'.cell? ⟨g, 10, none⟩ = some z10 ∧ w'.cell? ⟨g, 11, none⟩ = some z11 ∧ w'.cell? ⟨g, 12, none⟩ = some z12 ∧ w'.cell? ⟨g, 13, none⟩ = some z13 ∧ w'.cell? ⟨g, 14, none⟩ = some z14 ∧ w'.cell? ⟨g, 15, none⟩ = some z15 ∧ (∀ i, w'.frozen? ⟨g, i, none⟩ = false) ∧ g < w'.heap.size :=
 ⟨h.below hb, (h.below hb).f16⟩
end
/-- A store of a value of which it is only known that it is one cell. -/
theorem run_store_one (P : Program) (w : World) (a : Addr) (v : Value) (m : Mode) (hv : v.oneCell' = true) : (store a v m).run P w = stored P w a v m := run_store P w a v m hv
/-- What returns a slice of ints of which P holds, and only makes memory. -/
def RS (P : List Int → Prop) (w : World) (e : Ending) (w' : World) : Prop := ∃ v l, e = .returned v ∧ Sl w' v l ∧ P l ∧ Below w.heap.size w w'
/-- A list of which the cell k is set, when what lies before is known. -/
theorem set_mid {r z : List Int} {k : Nat} {y x : Int} (hr : r.length = k) : (r ++ y :: z).set k x = r ++ [x] ++ z := by
 subst hr
 rw [List.set_append_right _ _ (Nat.le_refl _)]
 simp
theorem get_mid {r z : List Int} {k : Nat} {y : Int} (hr : r.length = k) : (r ++ y :: z)[k]? = some y := by
 subst hr
 simp
theorem Bk.mid {w : World} {g k : Nat} {r t : List Int} {y : Int} (h : Bk w g (r ++ y :: t)) (hr : r.length = k) (x : Int) : Bk (w.setCell ⟨g, k, none⟩ (.int .i64 x)) g (r ++ x :: t) := by
 have h1 := h.set_ k x
 rwa [set_mid hr, List.append_assoc, List.singleton_append] at h1
theorem bdN {B : Nat} {a w : World} (h : Below B a w) (n : Nat) : Below B a (w.drewN n) := ⟨h.os, h.tape, h.output, h.size, h.block⟩
theorem bdNl {B : Nat} {a w : World} {n : Nat} (h : Below B (a.drewN n) w) : Below B a w := ⟨h.os, h.tape, h.output, h.size, h.block⟩
theorem bdDl {B : Nat} {a w : World} (h : Below B a.drew w) : Below B a w := ⟨h.os, h.tape, h.output, h.size, h.block⟩
theorem rsD {P : List Int → Prop} {w w' : World} {e : Ending} (h : RS P w.drew e w') : RS P w e w' := by
 obtain ⟨v, l, h1, h2, h3, h4⟩ := h
 exact ⟨v, l, h1, h2, h3, bdDl h4⟩
theorem riD {x : Int} {w w' : World} {e : Ending} (h : RI x w.drew e w') : RI x w e w' := by
 obtain ⟨a, b, h1, h2, h3⟩ := h
 exact ⟨a, b, h1, h2, bdDl h3⟩
theorem rsN {P : List Int → Prop} {w w' : World} {n : Nat} {e : Ending} (h : RS P (w.drewN n) e w') : RS P w e w' := by
 obtain ⟨v, l, h1, h2, h3, h4⟩ := h
 exact ⟨v, l, h1, h2, h3, bdNl h4⟩
theorem riN {x : Int} {w w' : World} {n : Nat} {e : Ending} (h : RI x (w.drewN n) e w') : RI x w e w' := by
 obtain ⟨a, b, h1, h2, h3⟩ := h
 exact ⟨a, b, h1, h2, bdNl h3⟩
/-- A cell behind a store into another block. -/
theorem kset {w : World} {g i g' j : Nat} {u : Option Value} {v : Value} (h : w.cell? ⟨g, i, none⟩ = u) (hg : g ≠ g') : (w.setCell ⟨g', j, none⟩ v).cell? ⟨g, i, none⟩ = u :=
 (World.cell?_setCell_other w ⟨g', j, none⟩ ⟨g, i, none⟩ v (fun e => hg (congrArg Addr.block e).symm)).trans h
/-- A cell behind a new block. -/
theorem kalloc {w : World} {g i : Nat} {u : Option Value} {o : Obj} (h : w.cell? ⟨g, i, none⟩ = u) (hg : g < w.heap.size) : (w.alloc o).cell? ⟨g, i, none⟩ = u :=
 (World.cell?_alloc_lt w o ⟨g, i, none⟩ hg).trans h
/-- A cell, and that it is not frozen, behind what only makes memory. -/
theorem kc {w w' : World} {g i : Nat} {u : Option Value} (h : w.cell? ⟨g, i, none⟩ = u) (hb : Below w.heap.size w w') (hg : g < w.heap.size) : w'.cell? ⟨g, i, none⟩ = u := (hb.cell (p := ⟨g, i, none⟩) hg).trans h
theorem kf {w w' : World} {g : Nat} (h : ∀ i, w.frozen? ⟨g, i, none⟩ = false) (hb : Below w.heap.size w w') (hg : g < w.heap.size) : ∀ i, w'.frozen? ⟨g, i, none⟩ = false := fun i => (hb.frozen (p := ⟨g, i, none⟩) hg).trans (h i)
theorem Kp.alloc {w w' : World} (h : Kp w w') (o : Obj) : Kp w (w'.alloc o) := h.trans (.of ((Below.refl _ _).alloc (Nat.le_refl _) o))
/-- Below, and a block more. -/
theorem bdA {B : Nat} {a w : World} (h : Below B a w) (hB : B ≤ w.heap.size) (o : Obj) : Below B a (w.alloc o) := h.alloc hB o
/-- Two values in two new boxes. -/
def PairAt (V : World → List Value → Prop) (U : World → List Value → Prop) (T : Nat) (W0 : World) (s5 s6 : Value) (wx : World) : Prop :=
 ∃ (g5 g6 : Nat) (l m : List Value), s5 = .pointer (some ⟨g5, 0, none⟩) ∧ s6 = .pointer (some ⟨g6, 0, none⟩) ∧ Bx wx g5 T l ∧ Bx wx g6 T m ∧ g5 ≠ g6 ∧ W0.heap.size ≤ g5 ∧ W0.heap.size ≤ g6 ∧ V wx l ∧ U wx m ∧ Below W0.heap.size W0 wx
/-- What returns two integers, and only makes memory. -/
def RII (x y : Int) (w : World) (e : Ending) (w' : World) : Prop := ∃ a0 a1 b0 b1, e = .returned (.tuple #[.agg #[a0, a1], .agg #[b0, b1]]) ∧ IntV w' a0 a1 x ∧ IntV w' b0 b1 y ∧ Below w.heap.size w w'
theorem riiD {x y : Int} {w w' : World} {e : Ending} (h : RII x y w.drew e w') : RII x y w e w' := by
 obtain ⟨a0, a1, b0, b1, h1, h2, h3, h4⟩ := h
 exact ⟨a0, a1, b0, b1, h1, h2, h3, bdDl h4⟩
theorem box1 {w W : World} {T : Nat} {c : List Value} (h : w.alloc (.cells c.toArray T) = W) : Bx W (w.heap.size) T c ∧ Below w.heap.size w W := by
 subst h
 exact ⟨Bx.at_ rfl, (Below.refl _ _).alloc (by simp) _⟩
theorem box2 {w W : World} {T U : Nat} {c d : List Value} (h : (w.alloc (.cells c.toArray T)).alloc (.cells d.toArray U) = W) : Bx W (w.heap.size) T c ∧ Bx W (w.heap.size + 1) U d ∧ Below w.heap.size w W := by
 subst h
 exact ⟨(Bx.at_ rfl).alloc _, Bx.at_ (by simp), ((Below.refl _ _).alloc (by simp) _).alloc (by simp <;> omega) _⟩
theorem box3 {w W : World} {T U T2 : Nat} {c d c2 : List Value} (h : ((w.alloc (.cells c.toArray T)).alloc (.cells d.toArray U)).alloc (.cells c2.toArray T2) = W) : Bx W (w.heap.size) T c ∧ Bx W (w.heap.size + 1) U d ∧ Bx W (w.heap.size + 1 + 1) T2 c2 ∧ Below w.heap.size w W := by
 subst h
 exact ⟨((Bx.at_ rfl).alloc _).alloc _, (Bx.at_ (by simp)).alloc _, Bx.at_ (by simp), (((Below.refl _ _).alloc (by simp) _).alloc (by simp <;> omega) _).alloc (by simp <;> omega) _⟩
theorem box4 {w W : World} {T U T2 U2 : Nat} {c d c2 d2 : List Value} (h : (((w.alloc (.cells c.toArray T)).alloc (.cells d.toArray U)).alloc (.cells c2.toArray T2)).alloc (.cells d2.toArray U2) = W) : Bx W (w.heap.size) T c ∧ Bx W (w.heap.size + 1) U d ∧ Bx W (w.heap.size + 1 + 1) T2 c2 ∧ Bx W (w.heap.size + 1 + 1 + 1) U2 d2 ∧ Below w.heap.size w W := by
 subst h
 exact ⟨(((Bx.at_ rfl).alloc _).alloc _).alloc _, ((Bx.at_ (by simp)).alloc _).alloc _, (Bx.at_ (by simp)).alloc _, Bx.at_ (by simp), ((((Below.refl _ _).alloc (by simp) _).alloc (by simp <;> omega) _).alloc (by simp <;> omega) _).alloc (by simp <;> omega) _⟩
theorem Kp.t2 {w w' : World} (h : Kp w w') {g T : Nat} {l : List Value} (hg : Bx w' g T l) (x0 x1 : Value) (hT : T ≠ 3 := by decide) : Kp w ((w'.setCell ⟨g, 0, none⟩ x0).setCell ⟨g, 1, none⟩ x1) := ((h).set_ (hg) hT _).set_ (hg.set_ 0 x0) hT _
theorem Kp.t4 {w w' : World} (h : Kp w w') {g T : Nat} {l : List Value} (hg : Bx w' g T l) (x0 x1 x2 x3 : Value) (hT : T ≠ 3 := by decide) : Kp w ((((w'.setCell ⟨g, 0, none⟩ x0).setCell ⟨g, 1, none⟩ x1).setCell ⟨g, 2, none⟩ x2).setCell ⟨g, 3, none⟩ x3) := ((((h).set_ (hg) hT _).set_ (hg.set_ 0 x0) hT _).set_ ((hg.set_ 0 x0).set_ 1 x1) hT _).set_ (((hg.set_ 0 x0).set_ 1 x1).set_ 2 x2) hT _
theorem Kp.t8 {w w' : World} (h : Kp w w') {g T : Nat} {l : List Value} (hg : Bx w' g T l) (x0 x1 x2 x3 x4 x5 x6 x7 : Value) (hT : T ≠ 3 := by decide) : Kp w ((((((((w'.setCell ⟨g, 0, none⟩ x0).setCell ⟨g, 1, none⟩ x1).setCell ⟨g, 2, none⟩ x2).setCell ⟨g, 3, none⟩ x3).setCell ⟨g, 4, none⟩ x4).setCell ⟨g, 5, none⟩ x5).setCell ⟨g, 6, none⟩ x6).setCell ⟨g, 7, none⟩ x7) := ((((((((h).set_ (hg) hT _).set_ (hg.set_ 0 x0) hT _).set_ ((hg.set_ 0 x0).set_ 1 x1) hT _).set_ (((hg.set_ 0 x0).set_ 1 x1).set_ 2 x2) hT _).set_ ((((hg.set_ 0 x0).set_ 1 x1).set_ 2 x2).set_ 3 x3) hT _).set_ (((((hg.set_ 0 x0).set_ 1 x1).set_ 2 x2).set_ 3 x3).set_ 4 x4) hT _).set_ ((((((hg.set_ 0 x0).set_ 1 x1).set_ 2 x2).set_ 3 x3).set_ 4 x4).set_ 5 x5) hT _).set_ (((((((hg.set_ 0 x0).set_ 1 x1).set_ 2 x2).set_ 3 x3).set_ 4 x4).set_ 5 x5).set_ 6 x6) hT _
theorem Kp.t16 {w w' : World} (h : Kp w w') {g T : Nat} {l : List Value} (hg : Bx w' g T l) (x0 x1 x2 x3 x4 x5 x6 x7 x8 x9 x10 x11 x12 x13 x14 x15 : Value) (hT : T ≠ 3 := by decide) : Kp w ((((((((((((((((w'.setCell ⟨g, 0, none⟩ x0).setCell ⟨g, 1, none⟩ x1).setCell ⟨g, 2, none⟩ x2).setCell ⟨g, 3, none⟩ x3).setCell ⟨g, 4, none⟩ x4).setCell ⟨g, 5, none⟩ x5).setCell ⟨g, 6, none⟩ x6).setCell ⟨g, 7, none⟩ x7).setCell ⟨g, 8, none⟩ x8).setCell ⟨g, 9, none⟩ x9).setCell ⟨g, 10, none⟩ x10).setCell ⟨g, 11, none⟩ x11).setCell ⟨g, 12, none⟩ x12).setCell ⟨g, 13, none⟩ x13).setCell ⟨g, 14, none⟩ x14).setCell ⟨g, 15, none⟩ x15) := ((((((((((((((((h).set_ (hg) hT _).set_ (hg.set_ 0 x0) hT _).set_ ((hg.set_ 0 x0).set_ 1 x1) hT _).set_ (((hg.set_ 0 x0).set_ 1 x1).set_ 2 x2) hT _).set_ ((((hg.set_ 0 x0).set_ 1 x1).set_ 2 x2).set_ 3 x3) hT _).set_ (((((hg.set_ 0 x0).set_ 1 x1).set_ 2 x2).set_ 3 x3).set_ 4 x4) hT _).set_ ((((((hg.set_ 0 x0).set_ 1 x1).set_ 2 x2).set_ 3 x3).set_ 4 x4).set_ 5 x5) hT _).set_ (((((((hg.set_ 0 x0).set_ 1 x1).set_ 2 x2).set_ 3 x3).set_ 4 x4).set_ 5 x5).set_ 6 x6) hT _).set_ ((((((((hg.set_ 0 x0).set_ 1 x1).set_ 2 x2).set_ 3 x3).set_ 4 x4).set_ 5 x5).set_ 6 x6).set_ 7 x7) hT _).set_ (((((((((hg.set_ 0 x0).set_ 1 x1).set_ 2 x2).set_ 3 x3).set_ 4 x4).set_ 5 x5).set_ 6 x6).set_ 7 x7).set_ 8 x8) hT _).set_ ((((((((((hg.set_ 0 x0).set_ 1 x1).set_ 2 x2).set_ 3 x3).set_ 4 x4).set_ 5 x5).set_ 6 x6).set_ 7 x7).set_ 8 x8).set_ 9 x9) hT _).set_ (((((((((((hg.set_ 0 x0).set_ 1 x1).set_ 2 x2).set_ 3 x3).set_ 4 x4).set_ 5 x5).set_ 6 x6).set_ 7 x7).set_ 8 x8).set_ 9 x9).set_ 10 x10) hT _).set_ ((((((((((((hg.set_ 0 x0).set_ 1 x1).set_ 2 x2).set_ 3 x3).set_ 4 x4).set_ 5 x5).set_ 6 x6).set_ 7 x7).set_ 8 x8).set_ 9 x9).set_ 10 x10).set_ 11 x11) hT _).set_ (((((((((((((hg.set_ 0 x0).set_ 1 x1).set_ 2 x2).set_ 3 x3).set_ 4 x4).set_ 5 x5).set_ 6 x6).set_ 7 x7).set_ 8 x8).set_ 9 x9).set_ 10 x10).set_ 11 x11).set_ 12 x12) hT _).set_ ((((((((((((((hg.set_ 0 x0).set_ 1 x1).set_ 2 x2).set_ 3 x3).set_ 4 x4).set_ 5 x5).set_ 6 x6).set_ 7 x7).set_ 8 x8).set_ 9 x9).set_ 10 x10).set_ 11 x11).set_ 12 x12).set_ 13 x13) hT _).set_ (((((((((((((((hg.set_ 0 x0).set_ 1 x1).set_ 2 x2).set_ 3 x3).set_ 4 x4).set_ 5 x5).set_ 6 x6).set_ 7 x7).set_ 8 x8).set_ 9 x9).set_ 10 x10).set_ 11 x11).set_ 12 x12).set_ 13 x13).set_ 14 x14) hT _
theorem bel2 {B g j0 j1 : Nat} {w w' : World} {x0 x1 : Value} (h : Below B w w') (hg : B ≤ g) : Below B w ((w'.setCell ⟨g, j0, none⟩ x0).setCell ⟨g, j1, none⟩ x1) := ((h).setCell hg _).setCell hg _
theorem bel4 {B g j0 j1 j2 j3 : Nat} {w w' : World} {x0 x1 x2 x3 : Value} (h : Below B w w') (hg : B ≤ g) : Below B w ((((w'.setCell ⟨g, j0, none⟩ x0).setCell ⟨g, j1, none⟩ x1).setCell ⟨g, j2, none⟩ x2).setCell ⟨g, j3, none⟩ x3) := ((((h).setCell hg _).setCell hg _).setCell hg _).setCell hg _
theorem bel8 {B g j0 j1 j2 j3 j4 j5 j6 j7 : Nat} {w w' : World} {x0 x1 x2 x3 x4 x5 x6 x7 : Value} (h : Below B w w') (hg : B ≤ g) : Below B w ((((((((w'.setCell ⟨g, j0, none⟩ x0).setCell ⟨g, j1, none⟩ x1).setCell ⟨g, j2, none⟩ x2).setCell ⟨g, j3, none⟩ x3).setCell ⟨g, j4, none⟩ x4).setCell ⟨g, j5, none⟩ x5).setCell ⟨g, j6, none⟩ x6).setCell ⟨g, j7, none⟩ x7) := ((((((((h).setCell hg _).setCell hg _).setCell hg _).setCell hg _).setCell hg _).setCell hg _).setCell hg _).setCell hg _
theorem bel16 {B g j0 j1 j2 j3 j4 j5 j6 j7 j8 j9 j10 j11 j12 j13 j14 j15 : Nat} {w w' : World} {x0 x1 x2 x3 x4 x5 x6 x7 x8 x9 x10 x11 x12 x13 x14 x15 : Value} (h : Below B w w') (hg : B ≤ g) : Below B w ((((((((((((((((w'.setCell ⟨g, j0, none⟩ x0).setCell ⟨g, j1, none⟩ x1).setCell ⟨g, j2, none⟩ x2).setCell ⟨g, j3, none⟩ x3).setCell ⟨g, j4, none⟩ x4).setCell ⟨g, j5, none⟩ x5).setCell ⟨g, j6, none⟩ x6).setCell ⟨g, j7, none⟩ x7).setCell ⟨g, j8, none⟩ x8).setCell ⟨g, j9, none⟩ x9).setCell ⟨g, j10, none⟩ x10).setCell ⟨g, j11, none⟩ x11).setCell ⟨g, j12, none⟩ x12).setCell ⟨g, j13, none⟩ x13).setCell ⟨g, j14, none⟩ x14).setCell ⟨g, j15, none⟩ x15) := ((((((((((((((((h).setCell hg _).setCell hg _).setCell hg _).setCell hg _).setCell hg _).setCell hg _).setCell hg _).setCell hg _).setCell hg _).setCell hg _).setCell hg _).setCell hg _).setCell hg _).setCell hg _).setCell hg _).setCell hg _
end Go.Proofs.Ytgdibcgphjmofaa
