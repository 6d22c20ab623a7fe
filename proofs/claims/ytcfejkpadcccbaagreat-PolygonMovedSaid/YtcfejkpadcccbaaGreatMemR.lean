/-
 RATIONAL NUMBERS IN MEMORY: four cells; Lean's own Rat.
-/
import Derived.Test.YtcfejkpadcccbaaGreatPlainW
import Derived.WalkKit
import Derived.WalkSpells
import Derived.Deep.Slices
import Derived.Deep.Draws
import Derived.Lib.Hide
import Derived.Test.YtcfejkpadcccbaaGreatRows
import Derived.Laws.MakeOwn
import Derived.WalkLawsBesides
import Derived.LoopTactic
import Derived.BigQuiet
import Derived.Deep.QuietTactic
import Derived.Deep.LoopGhost
namespace Go.Proofs.YtcfejkpadcccbaaGreat
open Go.RowKit
/-- The cells xs lie at A (where there are any), in a block below B. -/
def Rd (w : World) (B : Nat) (A : Option Addr) (xs : List Value) : Prop :=
 0 < xs.length → ∃ b o, A = some ⟨b, o, none⟩ ∧ b < B ∧ ∀ j u, xs[j]? = some u → w.cell? ⟨b, o + j, none⟩ = some u
section
variable {w w' : World} {B B' : Nat} {A : Option Addr} {xs : List Value}
theorem Rd.nil (w : World) (B : Nat) (A : Option Addr) : Rd w B A [] := fun h => absurd h (by simp)
theorem Rd.keep (h : Rd w B A xs) (hk : ∀ p : Addr, p.block < B → w'.cell? p = w.cell? p) : Rd w' B A xs := fun hn => by
 obtain ⟨b, o, e, hb, hc⟩ := h hn
 exact ⟨b, o, e, hb, fun j u hu => (hk ⟨b, o + j, none⟩ hb).trans (hc j u hu)⟩
theorem Rd.mono (h : Rd w B A xs) (hB : B ≤ B') : Rd w B' A xs := fun hn => by
 obtain ⟨b, o, e, hb, hc⟩ := h hn
 exact ⟨b, o, e, by omega, hc⟩
theorem Rd.below (h : Rd w B A xs) {C : Nat} (hb : Below C w w') (hC : B ≤ C) : Rd w' B A xs := h.keep fun _ hp => hb.cell (by omega)
theorem Rd.alloc (h : Rd w B A xs) (hB : B ≤ w.heap.size) (o : Obj) : Rd (w.alloc o) B A xs := h.below ((Below.refl w.heap.size w).alloc (Nat.le_refl _) o) hB
theorem Rd.drewN (h : Rd w B A xs) (n : Nat) : Rd (w.drewN n) B A xs := h
theorem Rd.take (h : Rd w B A xs) (k : Nat) : Rd w B A (xs.take k) := fun hn => by
 rw [List.length_take] at hn
 obtain ⟨b, o, e, hb, hcell⟩ := h (by omega)
 refine ⟨b, o, e, hb, fun j u hu => hcell j u ?_⟩
 rw [List.getElem?_take] at hu
 split at hu
 ·exact hu
 ·cases hu
theorem Rd.of_own {base e size n c : Nat} (h : w.ownsRow base e size (.slice A n c) n xs) : Rd w w.heap.size A xs := fun hn => by
 rcases h.2 with ⟨_, h0⟩ | ⟨g, cap, cur, hv, _, hg, _⟩
 ·have := h.1
  rw [h0] at this
  omega
 ·have hA : A = some ⟨g, 0, none⟩ := by injection hv
  subst hA
  refine ⟨g, 0, rfl, (Array.getElem?_eq_some_iff.1 hg).1, fun j u hu => ?_⟩
  have := h.cells (g := g) rfl j u hu
  rwa [Addr.add_lit] at this
end
/-- A slice value of its own: its shape. -/
theorem own_form {w : World} {base e size n : Nat} {v : Value} {xs : List Value} (h : w.ownsRow base e size v n xs) : ∃ A c, v = .slice A n c ∧ n ≤ c ∧ c ≤ maxLen ∧ (A = none → n = 0 ∧ c = 0) ∧ ∀ a, A = some a → base ≤ a.block ∧ a.block < w.heap.size := by
 rcases h.2 with ⟨rfl, rfl⟩ | ⟨g, cap, cur, rfl, hb, hg, h1, h2, _⟩
 ·exact ⟨none, 0, rfl, Nat.le_refl _, by decide, fun _ => ⟨rfl, rfl⟩, fun a ha => by cases ha⟩
 ·refine ⟨_, cap, rfl, h1, h2, ?_, fun a ha => ?_⟩
  ·intro h; cases h
  injection ha with ha
  subst ha
  exact ⟨hb, (Array.getElem?_eq_some_iff.1 hg).1⟩
theorem own_pos {w : World} {base e size n : Nat} {v : Value} {xs : List Value} (h : w.ownsRow base e size v n xs) (hn : 0 < n) : ∃ g c, v = .slice (some ⟨g, 0, none⟩) n c ∧ n ≤ c ∧ c ≤ maxLen ∧ base ≤ g ∧ g < w.heap.size := by
 rcases h.2 with ⟨rfl, rfl⟩ | ⟨g, cap, cur, rfl, hb, hg, h1, h2, _⟩
 ·omega
 ·exact ⟨g, cap, rfl, h1, h2, hb, (Array.getElem?_eq_some_iff.1 hg).1⟩
/-- Cells that lie at a slice's address, as the laws on append ask. -/
theorem own_cells {w : World} {base e size n g c : Nat} {xs : List Value} (h : w.ownsRow base e size (.slice (some ⟨g, 0, none⟩) n c) n xs) : ∀ j u, xs[j]? = some u → w.cell? ((⟨g, 0, none⟩ : Addr).add j) = some u := h.cells (g := g) rfl
/-- What is owned stays owned over a call that turns nothing below the heap's size. -/
theorem own_below {w w' : World} {base e size n : Nat} {v : Value} {xs : List Value} (h : w.ownsRow base e size v n xs) (hb : Below w.heap.size w w') : w'.ownsRow base e size v n xs :=
 h.kept (row := none) ⟨hb.os, hb.tape, hb.output, hb.size, fun k hk _ => hb.block k hk⟩ (by cases hv : v.ownBlock <;> simp)
end Go.Proofs.YtcfejkpadcccbaaGreat
namespace Go.Proofs.YtcfejkpadcccbaaGreat
open Go.RowKit
/-- Numbers as cells. -/
def il (l : List Int) : List Value := l.map (Value.int .i64)
@[simp] theorem il_length (l : List Int) : (il l).length = l.length := by simp [il]
theorem il_at (l : List Int) {k : Nat} {x : Int} (h : l[k]? = some x) : (il l)[k]? = some (.int .i64 x) := by simp [il, h]
theorem il_append (a b : List Int) : il (a ++ b) = il a ++ il b := by simp [il]
theorem il_take (l : List Int) (k : Nat) : (il l).take k = il (l.take k) := by simp [il]
theorem il_oneCell (l : List Int) : ∀ u ∈ il l, u.oneCell' = true := by
 intro u hu
 simp only [il, List.mem_map] at hu
 obtain ⟨b, _, rfl⟩ := hu
 rfl
/-- The rows of ints are kept. -/
def Kp (w w' : World) : Prop := w.heap.size ≤ w'.heap.size ∧ ∀ (b : Nat) (cs : Array Value) (fr : Nat × Nat), w.heap[b]? = some (.cells cs 3 fr) → w'.heap[b]? = some (.cells cs 3 fr)
section
variable {w w' w1 w2 : World} {v : Value} {l : List Int}
theorem Kp.refl (w : World) : Kp w w := ⟨Nat.le_refl _, fun _ _ _ h => h⟩
theorem Kp.trans (h : Kp w w1) (g : Kp w1 w2) : Kp w w2 := ⟨Nat.le_trans h.1 g.1, fun b cs fr e => g.2 b cs fr (h.2 b cs fr e)⟩
theorem Kp.of (h : Below w.heap.size w w') : Kp w w' := ⟨h.size, fun b _ _ e => (h.block b (Array.getElem?_eq_some_iff.1 e).1).trans e⟩
theorem Kp.drewN (h : Kp w w') (n : Nat) : Kp w (w'.drewN n) := h
theorem Kp.drew (h : Kp w w') : Kp w w'.drew := h
/-- A store into a block of another type. -/
theorem Kp.set_ (h : Kp w w') {g i T : Nat} {cs : Array Value} {fr : Nat × Nat} (hg : w'.heap[g]? = some (.cells cs T fr)) (hT : T ≠ 3) (u : Value) : Kp w (w'.setCell ⟨g, i, none⟩ u) := by
 refine ⟨by simpa [World.setCell] using h.1, fun b cs' fr' e => ?_⟩
 have h1 := h.2 b cs' fr' e
 have hne : b ≠ g := by
  rintro rfl
  rw [hg] at h1
  injection h1 with h1
  injection h1 with _ h2
  exact hT h2
 exact (Below.heap_setCell w' ⟨g, i, none⟩ u b hne).trans h1
/-- A slice of ints that reads as a list; it lies in a row of ints. -/
def Sl (w : World) (v : Value) (l : List Int) : Prop := ∃ A n c, v = .slice A n c ∧ n = l.length ∧ n ≤ c ∧ c ≤ maxLen ∧ Rd w w.heap.size A (il l) ∧
 (0 < l.length → ∃ b o cs fr, A = some ⟨b, o, none⟩ ∧ w.heap[b]? = some (.cells cs 3 fr))
theorem Sl.kp (h : Sl w v l) (k : Kp w w') : Sl w' v l := by
 obtain ⟨A, n, c, h1, h2, h3, h4, h5, h6⟩ := h
 refine ⟨A, n, c, h1, h2, h3, h4, fun hn => ?_, fun hn => ?_⟩
 ·obtain ⟨b, o, cs, fr, rfl, hb⟩ := h6 (by simpa using hn)
  obtain ⟨b', o', e, hb', hc⟩ := h5 hn
  injection e with e
  injection e with e1 e2
  subst e1; subst e2
  have hk := k.2 b cs fr hb
  refine ⟨b, o, rfl, Nat.lt_of_lt_of_le hb' k.1, fun j u hu => ?_⟩
  rw [← hc j u hu]
  exact World.cell?_of_block (a := ⟨b, o + j, none⟩) (hk.trans hb.symm)
 ·obtain ⟨b, o, cs, fr, h7, hb⟩ := h6 hn
  exact ⟨b, o, cs, fr, h7, k.2 b cs fr hb⟩
theorem Sl.below (h : Sl w v l) (hb : Below w.heap.size w w') : Sl w' v l := h.kp (.of hb)
theorem Sl.nil (w : World) : Sl w (.slice none 0 0) [] := ⟨none, 0, 0, rfl, rfl, Nat.le_refl _, by decide, Rd.nil _ _ _, fun h => by simp at h⟩
theorem Sl.alloc (h : Sl w v l) (o : Obj) : Sl (w.alloc o) v l := h.below ((Below.refl _ _).alloc (Nat.le_refl _) o)
/-- An integer in its canonical form. -/
def IntV (w : World) (a b : Value) (x : Int) : Prop := ∃ l, a = .bool (decide (x < 0)) ∧ Sl w b l ∧ I.Can l ∧ I.val l = (x.natAbs : Int)
theorem IntV.kp {a b : Value} {x : Int} (h : IntV w a b x) (k : Kp w w') : IntV w' a b x := by
 obtain ⟨l, h1, h2, h3⟩ := h
 exact ⟨l, h1, h2.kp k, h3⟩
theorem IntV.below {a b : Value} {x : Int} (h : IntV w a b x) (hb : Below w.heap.size w w') : IntV w' a b x := h.kp (.of hb)
theorem IntV.form {a b : Value} {x : Int} (h : IntV w a b x) : ∃ g A n c, a = .bool g ∧ b = .slice A n c := by
 obtain ⟨l, h1, ⟨A, n, c, h2, _⟩, _⟩ := h
 exact ⟨_, A, n, c, h1, h2⟩
theorem IntV.len {g : Bool} {A : Option Addr} {n c : Nat} {x : Int} (h : IntV w (.bool g) (.slice A n c) x) : g = decide (x < 0) ∧ (n = 0 ↔ x = 0) := by
 obtain ⟨l, h1, ⟨A', n', c', h2, h3, _⟩, h4, h5⟩ := h
 injection h1 with h1
 injection h2 with _ h2 _
 refine ⟨h1, ?_⟩
 subst h2; subst h3
 constructor
 ·intro h
  have := List.eq_nil_of_length_eq_zero h
  subst this
  simp [I.val] at h5
  omega
 ·intro h
  have := h4.zero (by rw [h5, h]; rfl)
  subst this
  rfl
theorem IntV.sl {a b : Value} {x : Int} (h : IntV w a b x) : ∃ l, Sl w b l ∧ I.Can l ∧ I.val l = (x.natAbs : Int) := by
 obtain ⟨l, _, h2, h3, h4⟩ := h
 exact ⟨l, h2, h3, h4⟩
/-- The same digits with another sign. -/
theorem IntV.sign {a b : Value} {x y : Int} (h : IntV w a b x) {g : Bool} (hg : g = decide (y < 0)) (hy : y.natAbs = x.natAbs) : IntV w (.bool g) b y := by
 obtain ⟨l, _, h2, h3, h4⟩ := h
 exact ⟨l, by rw [hg], h2, h3, by rw [h4, hy]⟩
theorem IntV.one0 {a b : Value} {x : Int} (h : IntV w a b x) : a.oneCell' = true := by
 obtain ⟨g, A, n, c, rfl, rfl⟩ := h.form
 rfl
theorem IntV.one1 {a b : Value} {x : Int} (h : IntV w a b x) : b.oneCell' = true := by
 obtain ⟨g, A, n, c, rfl, rfl⟩ := h.form
 rfl
theorem IntV.zero (w : World) : IntV w (.bool false) (.slice none 0 0) 0 := ⟨[], rfl, Sl.nil w, I.Can.nil, rfl⟩
end
/-- A number with a sign. -/
def sg (ng : Bool) (x : Int) : Int := if ng then -x else x
/-- Below, and below again. -/
theorem Blw {w w1 w2 : World} (h : Below w.heap.size w w1) (g : Below w1.heap.size w1 w2) : Below w.heap.size w w2 := h.trans (g.mono h.size)
/-- What returns an integer, and only makes memory. -/
def RI (x : Int) (w : World) (e : Ending) (w' : World) : Prop := ∃ a b, e = .returned (.agg #[a, b]) ∧ IntV w' a b x ∧ Below w.heap.size w w'
theorem IntV.ones {w : World} {a0 a1 : Value} {x : Int} (H : IntV w a0 a1 x) : a0.oneCell' = true ∧ a1.oneCell' = true := ⟨H.one0, H.one1⟩
end Go.Proofs.YtcfejkpadcccbaaGreat
namespace Go.Proofs.YtcfejkpadcccbaaGreat
open Go.RowKit
theorem info_i64 : (Tryz.prog.info? 3).map (fun i => (i.zero, i.size, i.bytes)) = some (some (.int .i64 0), 1, 8) := by kernel_rfl
/-- So many zeros, as cells. -/
def zs (n : Nat) : Array Value := (il (List.replicate n 0)).toArray
theorem zs_made (n : Nat) : madeCells #[.int .i64 0] n = zs n := by
 apply Array.ext
 ·simp [madeCells, zs]
 ·intro i h1 h2
  simp [madeCells, zs, il, Nat.mod_one]
/-- make of so many ints. -/
theorem run_make_il (n : Nat) (hn : n ≤ 1099511627776) (m : Int) (hm : m = (n : Int)) (u : World) :
  (Instr.makeSlice 22 (.int .i64 m) (.int .i64 m)).run Tryz.prog u = .ok (.slice (some ⟨u.heap.size, 0, none⟩) n n) (u.alloc (.cells (zs n) 3)) := by
 subst hm
 obtain ⟨i0, hi, hz0, hz1, hz2⟩ := info_parts info_i64
 have h := run_make (P := Tryz.prog) u 22 3 i0 (.int .i64 0) Tryz.underlying22 hi hz0 .i64 .i64 (n : Int) (n : Int) (by omega) (Int.le_refl _) (by rw [hz2]; omega) (by omega)
 simpa [hz1, Value.cells, zs_made] using h
/-- Block g is the row of these ints. -/
def Bk (w : World) (g : Nat) (l : List Int) : Prop := w.heap[g]? = some (.cells (il l).toArray 3 (0, 0))
section
variable {w w' : World} {g : Nat} {l : List Int}
theorem Bk.lt (h : Bk w g l) : g < w.heap.size := (Array.getElem?_eq_some_iff.1 h).1
theorem Bk.cell (h : Bk w g l) {i : Nat} {x : Int} (hx : l[i]? = some x) : w.cell? ⟨g, i, none⟩ = some (.int .i64 x) := by
 rw [cell_of_row w g i _ _ _ h]
 simpa using il_at l hx
theorem Bk.frozen (h : Bk w g l) (i : Nat) : w.frozen? ⟨g, i, none⟩ = false := by
 unfold Bk at h
 simp [World.frozen?, h]
theorem Bk.set_ (h : Bk w g l) (i : Nat) (x : Int) : Bk (w.setCell ⟨g, i, none⟩ (.int .i64 x)) g (l.set i x) := by
 unfold Bk at h ⊢
 simp [World.setCell, Array.getElem?_modify, h, il, List.map_set]
theorem Bk.drew (h : Bk w g l) : Bk w.drew g l := h
theorem Bk.drewN (h : Bk w g l) (n : Nat) : Bk (w.drewN n) g l := h
theorem Bk.alloc (h : Bk w g l) (o : Obj) : Bk (w.alloc o) g l := (Below.heap_alloc w o g h.lt).trans h
theorem Bk.below (h : Bk w g l) {B : Nat} (hb : Below B w w') (hg : g < B) : Bk w' g l := (hb.block g hg).trans h
theorem Bk.far (h : Bk w g l) {p : Addr} (hp : g ≠ p.block) (u : Value) : Bk (w.setCell p u) g l := (Below.heap_setCell w p u g hp).trans h
theorem Bk.new (w : World) (n : Nat) : Bk (w.alloc (.cells (zs n) 3)) w.heap.size (List.replicate n 0) := heap_alloc_new w _
theorem Bk.rd (h : Bk w g l) : Rd w w.heap.size (some ⟨g, 0, none⟩) (il l) := fun _ => ⟨g, 0, rfl, h.lt, fun j u hu => by
 rw [Nat.zero_add, cell_of_row w g j _ _ _ h]
 simpa using hu⟩
theorem Bk.sl (h : Bk w g l) {n c : Nat} (hn : n = l.length) (hc : n ≤ c) (hm : c ≤ maxLen) : Sl w (.slice (some ⟨g, 0, none⟩) n c) l := ⟨_, _, _, rfl, hn, hc, hm, h.rd, fun _ => ⟨_, _, _, _, rfl, h⟩⟩
end
/-- A contract that leaves the world alone, in a quiet region behind another one. -/
theorem quiet_more {P : Program} {f : FuncId} {args : Array Value} {w : World} {a n : Nat} {v : Value} (h : ∀ W : World, Calls P f args W fun e w' => e = .returned v ∧ W = w') :
  Calls P f args (w.drewN (a + n)) fun e w'' => e = .returned v ∧ ∃ m, w'' = w.drewN (a + m) :=
 (h _).mono fun _ _ ⟨he, hm⟩ => ⟨he, n, hm.symm⟩
/-- Block g is the box, or row, of these cells. -/
def Bx (w : World) (g T : Nat) (l : List Value) : Prop := w.heap[g]? = some (.cells l.toArray T (0, 0))
section
variable {w w' : World} {g T : Nat} {l : List Value}
theorem Bx.lt (h : Bx w g T l) : g < w.heap.size := (Array.getElem?_eq_some_iff.1 h).1
theorem Bx.cell (h : Bx w g T l) {i : Nat} {x : Value} (hx : l[i]? = some x) : w.cell? ⟨g, i, none⟩ = some x := by
 rw [cell_of_row w g i _ _ _ h]
 simpa using hx
theorem Bx.frozen (h : Bx w g T l) (i : Nat) : w.frozen? ⟨g, i, none⟩ = false := by
 unfold Bx at h
 simp [World.frozen?, h]
theorem Bx.set_ (h : Bx w g T l) (i : Nat) (x : Value) : Bx (w.setCell ⟨g, i, none⟩ x) g T (l.set i x) := by
 unfold Bx at h ⊢
 simp [World.setCell, Array.getElem?_modify, h]
theorem Bx.drew (h : Bx w g T l) : Bx w.drew g T l := h
theorem Bx.drewN (h : Bx w g T l) (n : Nat) : Bx (w.drewN n) g T l := h
theorem Bx.alloc (h : Bx w g T l) (o : Obj) : Bx (w.alloc o) g T l := (Below.heap_alloc w o g h.lt).trans h
theorem Bx.below (h : Bx w g T l) (hb : Below w.heap.size w w') : Bx w' g T l := (hb.block g h.lt).trans h
theorem Bx.far (h : Bx w g T l) {p : Addr} (hp : g ≠ p.block) (u : Value) : Bx (w.setCell p u) g T l := (Below.heap_setCell w p u g hp).trans h
theorem Bx.far_ {g' j : Nat} (h : Bx w g T l) (hp : g ≠ g') (u : Value) : Bx (w.setCell ⟨g', j, none⟩ u) g T l := h.far hp u
theorem Bx.at_ {g T : Nat} {w : World} {l : List Value} (h : w.heap.size = g) : Bx (w.alloc (.cells l.toArray T)) g T l := by
 subst h
 exact heap_alloc_new w _
theorem Bx.setAs {i : Nat} {x : Value} {l' : List Value} (h : Bx w g T l) (e : l.set i x = l') : Bx (w.setCell ⟨g, i, none⟩ x) g T l' := e ▸ h.set_ i x
theorem Bx.new (w : World) (T : Nat) (l : List Value) : Bx (w.alloc (.cells l.toArray T)) w.heap.size T l := heap_alloc_new w _
theorem Bx.f2 {z0 z1 : Value} {m : List Value} (h : Bx w g T (z0 :: z1 :: m)) : w.cell? ⟨g, 0, none⟩ = some z0 ∧ w.cell? ⟨g, 1, none⟩ = some z1 ∧ (∀ i, w.frozen? ⟨g, i, none⟩ = false) ∧ g < w.heap.size :=
 ⟨h.cell rfl, h.cell rfl, h.frozen, h.lt⟩
theorem Bx.b2 {z0 z1 : Value} {m : List Value} (h : Bx w g T (z0 :: z1 :: m)) (hb : Below w.heap.size w w') : Bx w' g T (z0 :: z1 :: m) ∧ w'.cell? ⟨g, 0, none⟩ = some z0 ∧ w'.cell? ⟨g, 1, none⟩ = some z1 ∧ (∀ i, w'.frozen? ⟨g, i, none⟩ = false) ∧ g < w'.heap.size :=
 ⟨h.below hb, (h.below hb).f2⟩
theorem Bx.f4 {z0 z1 z2 z3 : Value} {m : List Value} (h : Bx w g T (z0 :: z1 :: z2 :: z3 :: m)) : w.cell? ⟨g, 0, none⟩ = some z0 ∧ w.cell? ⟨g, 1, none⟩ = some z1 ∧ w.cell? ⟨g, 2, none⟩ = some z2 ∧ w.cell? ⟨g, 3, none⟩ = some z3 ∧ (∀ i, w.frozen? ⟨g, i, none⟩ = false) ∧ g < w.heap.size :=
 ⟨h.cell rfl, h.cell rfl, h.cell rfl, h.cell rfl, h.frozen, h.lt⟩
theorem Bx.b4 {z0 z1 z2 z3 : Value} {m : List Value} (h : Bx w g T (z0 :: z1 :: z2 :: z3 :: m)) (hb : Below w.heap.size w w') : Bx w' g T (z0 :: z1 :: z2 :: z3 :: m) ∧ w'.cell? ⟨g, 0, none⟩ = some z0 ∧ w'.cell? ⟨g, 1, none⟩ = some z1 ∧ w'.cell? ⟨g, 2, none⟩ = some z2 ∧ w'.cell? ⟨g, 3, none⟩ = some z3 ∧ (∀ i, w'.frozen? ⟨g, i, none⟩ = false) ∧ g < w'.heap.size :=
 ⟨h.below hb, (h.below hb).f4⟩
end
/-- A store of a value of which it is only known that it is one cell. -/
theorem run_store_one (P : Program) (w : World) (a : Addr) (v : Value) (m : Mode) (hv : v.oneCell' = true) : (store a v m).run P w = stored P w a v m := run_store P w a v m hv
/-- What returns a slice of ints of which P holds, and only makes memory. -/
def RS (P : List Int → Prop) (w : World) (e : Ending) (w' : World) : Prop := ∃ v l, e = .returned v ∧ Sl w' v l ∧ P l ∧ Below w.heap.size w w'
/-- A list of which the cell k is set, when what lies before is known. -/
theorem set_mid {r z : List Int} {k : Nat} {y x : Int} (hr : r.length = k) : (r ++ y :: z).set k x = r ++ [x] ++ z := by
 subst hr
 rw [List.set_append_right _ _ (Nat.le_refl _)]
 simp
theorem get_mid {r z : List Int} {k : Nat} {y : Int} (hr : r.length = k) : (r ++ y :: z)[k]? = some y := by
 subst hr
 simp
theorem Bk.mid {w : World} {g k : Nat} {r t : List Int} {y : Int} (h : Bk w g (r ++ y :: t)) (hr : r.length = k) (x : Int) : Bk (w.setCell ⟨g, k, none⟩ (.int .i64 x)) g (r ++ x :: t) := by
 have h1 := h.set_ k x
 rwa [set_mid hr, List.append_assoc, List.singleton_append] at h1
theorem bdN {B : Nat} {a w : World} (h : Below B a w) (n : Nat) : Below B a (w.drewN n) := ⟨h.os, h.tape, h.output, h.size, h.block⟩
theorem bdDl {B : Nat} {a w : World} (h : Below B a.drew w) : Below B a w := ⟨h.os, h.tape, h.output, h.size, h.block⟩
/-- A cell behind a store into another block. -/
theorem kset {w : World} {g i g' j : Nat} {u : Option Value} {v : Value} (h : w.cell? ⟨g, i, none⟩ = u) (hg : g ≠ g') : (w.setCell ⟨g', j, none⟩ v).cell? ⟨g, i, none⟩ = u :=
 (World.cell?_setCell_other w ⟨g', j, none⟩ ⟨g, i, none⟩ v (fun e => hg (congrArg Addr.block e).symm)).trans h
/-- A cell behind a new block. -/
theorem kalloc {w : World} {g i : Nat} {u : Option Value} {o : Obj} (h : w.cell? ⟨g, i, none⟩ = u) (hg : g < w.heap.size) : (w.alloc o).cell? ⟨g, i, none⟩ = u :=
 (World.cell?_alloc_lt w o ⟨g, i, none⟩ hg).trans h
/-- A cell, and that it is not frozen, behind what only makes memory. -/
theorem kc {w w' : World} {g i : Nat} {u : Option Value} (h : w.cell? ⟨g, i, none⟩ = u) (hb : Below w.heap.size w w') (hg : g < w.heap.size) : w'.cell? ⟨g, i, none⟩ = u := (hb.cell (p := ⟨g, i, none⟩) hg).trans h
theorem kf {w w' : World} {g : Nat} (h : ∀ i, w.frozen? ⟨g, i, none⟩ = false) (hb : Below w.heap.size w w') (hg : g < w.heap.size) : ∀ i, w'.frozen? ⟨g, i, none⟩ = false := fun i => (hb.frozen (p := ⟨g, i, none⟩) hg).trans (h i)
theorem Kp.alloc {w w' : World} (h : Kp w w') (o : Obj) : Kp w (w'.alloc o) := h.trans (.of ((Below.refl _ _).alloc (Nat.le_refl _) o))
/-- Two values in two new boxes. -/
def PairAt (V : World → List Value → Prop) (U : World → List Value → Prop) (T : Nat) (W0 : World) (s5 s6 : Value) (wx : World) : Prop :=
 ∃ (g5 g6 : Nat) (l m : List Value), s5 = .pointer (some ⟨g5, 0, none⟩) ∧ s6 = .pointer (some ⟨g6, 0, none⟩) ∧ Bx wx g5 T l ∧ Bx wx g6 T m ∧ g5 ≠ g6 ∧ W0.heap.size ≤ g5 ∧ W0.heap.size ≤ g6 ∧ V wx l ∧ U wx m ∧ Below W0.heap.size W0 wx
/-- What returns two integers, and only makes memory. -/
def RII (x y : Int) (w : World) (e : Ending) (w' : World) : Prop := ∃ a0 a1 b0 b1, e = .returned (.tuple #[.agg #[a0, a1], .agg #[b0, b1]]) ∧ IntV w' a0 a1 x ∧ IntV w' b0 b1 y ∧ Below w.heap.size w w'
theorem box1 {w W : World} {T : Nat} {c : List Value} (h : w.alloc (.cells c.toArray T) = W) : Bx W (w.heap.size) T c ∧ Below w.heap.size w W := by
 subst h
 exact ⟨Bx.at_ rfl, (Below.refl _ _).alloc (by simp) _⟩
theorem box2 {w W : World} {T U : Nat} {c d : List Value} (h : (w.alloc (.cells c.toArray T)).alloc (.cells d.toArray U) = W) : Bx W (w.heap.size) T c ∧ Bx W (w.heap.size + 1) U d ∧ Below w.heap.size w W := by
 subst h
 exact ⟨(Bx.at_ rfl).alloc _, Bx.at_ (by simp), ((Below.refl _ _).alloc (by simp) _).alloc (by simp <;> omega) _⟩
theorem box3 {w W : World} {T U T2 : Nat} {c d c2 : List Value} (h : ((w.alloc (.cells c.toArray T)).alloc (.cells d.toArray U)).alloc (.cells c2.toArray T2) = W) : Bx W (w.heap.size) T c ∧ Bx W (w.heap.size + 1) U d ∧ Bx W (w.heap.size + 1 + 1) T2 c2 ∧ Below w.heap.size w W := by
 subst h
 exact ⟨((Bx.at_ rfl).alloc _).alloc _, (Bx.at_ (by simp)).alloc _, Bx.at_ (by simp), (((Below.refl _ _).alloc (by simp) _).alloc (by simp <;> omega) _).alloc (by simp <;> omega) _⟩
theorem box4 {w W : World} {T U T2 U2 : Nat} {c d c2 d2 : List Value} (h : (((w.alloc (.cells c.toArray T)).alloc (.cells d.toArray U)).alloc (.cells c2.toArray T2)).alloc (.cells d2.toArray U2) = W) : Bx W (w.heap.size) T c ∧ Bx W (w.heap.size + 1) U d ∧ Bx W (w.heap.size + 1 + 1) T2 c2 ∧ Bx W (w.heap.size + 1 + 1 + 1) U2 d2 ∧ Below w.heap.size w W := by
 subst h
 exact ⟨(((Bx.at_ rfl).alloc _).alloc _).alloc _, ((Bx.at_ (by simp)).alloc _).alloc _, (Bx.at_ (by simp)).alloc _, Bx.at_ (by simp), ((((Below.refl _ _).alloc (by simp) _).alloc (by simp <;> omega) _).alloc (by simp <;> omega) _).alloc (by simp <;> omega) _⟩
theorem Kp.t2 {w w' : World} (h : Kp w w') {g T : Nat} {l : List Value} (hg : Bx w' g T l) (x0 x1 : Value) (hT : T ≠ 3 := by decide) : Kp w ((w'.setCell ⟨g, 0, none⟩ x0).setCell ⟨g, 1, none⟩ x1) := ((h).set_ (hg) hT _).set_ (hg.set_ 0 x0) hT _
theorem bel2 {B g j0 j1 : Nat} {w w' : World} {x0 x1 : Value} (h : Below B w w') (hg : B ≤ g) : Below B w ((w'.setCell ⟨g, j0, none⟩ x0).setCell ⟨g, j1, none⟩ x1) := ((h).setCell hg _).setCell hg _
end Go.Proofs.YtcfejkpadcccbaaGreat
namespace Go.Proofs.YtcfejkpadcccbaaGreat
open Go.RowKit
/-- The denominator as it is kept: 0 where it is 1. -/
def dq (r : Rat) : Int := if r.den = 1 then 0 else r.den
theorem dq_one {r : Rat} (h : r.den = 1) : dq r = 0 := by unfold dq; rw [if_pos h]
theorem dq_more {r : Rat} (h : r.den ≠ 1) : dq r = r.den := by unfold dq; rw [if_neg h]
theorem dq_zero {r : Rat} : dq r = 0 ↔ r.den = 1 := by
 have := r.den_nz
 unfold dq
 split <;> omega
theorem dq_nonneg (r : Rat) : 0 ≤ dq r := by
 unfold dq
 split <;> omega
/-- A rational in its canonical form. -/
def RatV (w : World) (a b c d : Value) (r : Rat) : Prop := IntV w a b r.num ∧ IntV w c d (dq r)
section
variable {w w' : World} {a b c d : Value} {r : Rat}
theorem RatV.kp (h : RatV w a b c d r) (k : Kp w w') : RatV w' a b c d r := ⟨h.1.kp k, h.2.kp k⟩
theorem RatV.below (h : RatV w a b c d r) (hb : Below w.heap.size w w') : RatV w' a b c d r := h.kp (.of hb)
theorem RatV.one0 (h : RatV w a b c d r) : a.oneCell' = true := h.1.one0
theorem RatV.one1 (h : RatV w a b c d r) : b.oneCell' = true := h.1.one1
theorem RatV.one2 (h : RatV w a b c d r) : c.oneCell' = true := h.2.one0
theorem RatV.one3 (h : RatV w a b c d r) : d.oneCell' = true := h.2.one1
end
/-- What returns a rational, and only makes memory. -/
def RR (r : Rat) (w : World) (e : Ending) (w' : World) : Prop := ∃ a b c d, e = .returned (.agg #[a, b, c, d]) ∧ RatV w' a b c d r ∧ Below w.heap.size w w'
/-- Bits of a rational. -/
def Bq (k : Nat) (r : Rat) : Prop := I.Bd k r.num ∧ I.Bd k r.den
theorem RatV.ones {w : World} {a0 a1 a2 a3 : Value} {x : Rat} (H : RatV w a0 a1 a2 a3 x) : a0.oneCell' = true ∧ a1.oneCell' = true ∧ a2.oneCell' = true ∧ a3.oneCell' = true := ⟨H.one0, H.one1, H.one2, H.one3⟩
end Go.Proofs.YtcfejkpadcccbaaGreat
