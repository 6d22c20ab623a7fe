/-
 THE WALKS of New, Waiting, Forged.
-/
import Derived.Test.YtgdibcgphjmofaaLnkM
import Derived.Test.YtgdibcgphjmofaaFlowU
import Derived.Maps.OwnSet
namespace Go.Proofs.Ytgdibcgphjmofaa
open Go.RowKit
open Go.Maps
set_option linter.unusedVariables false
/-- Of the old blocks, those of R alone may turn. -/
structure Tc (R : List Nat) (w w' : World) : Prop where
 os : w'.os = w.os
 tape : w'.tape = w.tape
 output : w'.output = w.output
 size : w.heap.size ≤ w'.heap.size
 block : ∀ k, k < w.heap.size → k ∉ R → w'.heap[k]? = w.heap[k]?
/-- .. and the rows of bytes stay. -/
def TT (R : List Nat) (w w' : World) : Prop := Tc R w w' ∧ KB w w'
section
variable {R R' : List Nat} {w w' w1 w2 : World} {B : Nat}
theorem Tc.refl (R : List Nat) (w : World) : Tc R w w := ⟨rfl, rfl, rfl, Nat.le_refl _, fun _ _ _ => rfl⟩
theorem Tc.of (h : Below w.heap.size w w') : Tc R w w' := ⟨h.os, h.tape, h.output, h.size, fun k hk _ => h.block k hk⟩
theorem Tc.mono (h : Tc R w w') (hR : ∀ k ∈ R, k ∈ R') : Tc R' w w' := ⟨h.os, h.tape, h.output, h.size, fun k hk hn => h.block k hk (fun e => hn (hR k e))⟩
theorem Tc.trans (h : Tc R w w1) (g : Tc R w1 w2) : Tc R w w2 := ⟨g.os.trans h.os, g.tape.trans h.tape, g.output.trans h.output, Nat.le_trans h.size g.size, fun k hk hn => (g.block k (Nat.lt_of_lt_of_le hk h.size) hn).trans (h.block k hk hn)⟩
/-- Two calls, the second of which turns what the first one turned, or what is new. -/
theorem Tc.then (h : Tc R w w1) (g : Tc R' w1 w2) (hR : ∀ k ∈ R', k ∈ R ∨ w.heap.size ≤ k) : Tc R w w2 := ⟨g.os.trans h.os, g.tape.trans h.tape, g.output.trans h.output, Nat.le_trans h.size g.size, fun k hk hn => (g.block k (Nat.lt_of_lt_of_le hk h.size) (fun e => by rcases hR k e with h1 | h1; exact hn h1; omega)).trans (h.block k hk hn)⟩
theorem Tc.below (h : Below B w w1) (g : Tc R w1 w2) (hR : ∀ k ∈ R, B ≤ k) (hB : B ≤ w.heap.size) : Below B w w2 := ⟨g.os.trans h.os, g.tape.trans h.tape, g.output.trans h.output, Nat.le_trans h.size g.size, fun k hk => (g.block k (by have := h.size; omega) (fun e => by have := hR k e; omega)).trans (h.block k hk)⟩
theorem Tc.set_ (h : Tc R w w1) {p : Addr} (hp : p.block ∈ R ∨ w.heap.size ≤ p.block) (u : Value) : Tc R w (w1.setCell p u) := by
 refine ⟨h.os, h.tape, h.output, by simpa [World.setCell] using h.size, fun k hk hn => ?_⟩
 have hne : k ≠ p.block := by
  rintro rfl
  rcases hp with h1 | h1
  ·exact hn h1
  ·omega
 exact (Below.heap_setCell w1 p u k hne).trans (h.block k hk hn)
theorem Tc.grown (h : Tc R w w1) {row : Option Nat} (hg : w1.grownBy w2 row) (hr : ∀ k, row = some k → k ∈ R ∨ w.heap.size ≤ k) : Tc R w w2 := by
 refine ⟨hg.os.trans h.os, hg.tape.trans h.tape, hg.output.trans h.output, Nat.le_trans h.size hg.size, fun k hk hn => ?_⟩
 refine (hg.block k (Nat.lt_of_lt_of_le hk h.size) (fun e => ?_)).trans (h.block k hk hn)
 rcases hr k e.symm with h1 | h1
 ·exact hn h1
 ·omega
theorem TT.rel (R : List Nat) : TRel (TT R) where
 refl w := ⟨Tc.refl R w, KB.refl w⟩
 trans h g := ⟨h.1.trans g.1, h.2.trans g.2⟩
 size h := h.1.size
 of h := ⟨Tc.of h, KB.of h⟩
theorem TT.drew (h : TT R w.drew w') : TT R w w' := ⟨⟨h.1.os, h.1.tape, h.1.output, h.1.size, h.1.block⟩, h.2⟩
theorem Bx.tc {g T : Nat} {l : List Value} (h : Bx w g T l) (t : Tc R w w') (hg : g ∉ R) : Bx w' g T l := (t.block g h.lt hg).trans h
end
/-- The plain state of an end. -/
structure K.E where
 win : Int
 key : Int
 wait : List (List UInt8)
 acked : Int
 del : Int
 held : Int → Option (List UInt8)
 owing : Bool
 forged : Int
 cnt : Nat
/-- Values that read as messages. -/
def Vs (w : World) (vs : List Value) (ls : List (List UInt8)) : Prop := vs.length = ls.length ∧ ∀ (i : Nat) (v : Value) (l : List UInt8), vs[i]? = some v → ls[i]? = some l → BV w v l
section
variable {w w' : World} {vs us : List Value} {ls ms : List (List UInt8)}
theorem Vs.kb (h : Vs w vs ls) (k : KB w w') : Vs w' vs ls := ⟨h.1, fun i v l h1 h2 => (h.2 i v l h1 h2).kb k⟩
theorem Vs.nil (w : World) : Vs w [] [] := ⟨rfl, fun i v l h => by simp at h⟩
theorem Vs.snoc (h : Vs w vs ls) {v : Value} {l : List UInt8} (hv : BV w v l) : Vs w (vs ++ [v]) (ls ++ [l]) := by
 refine ⟨by simp [h.1], fun i u m h1 h2 => ?_⟩
 by_cases hi : i < vs.length
 ·rw [List.getElem?_append_left hi] at h1
  rw [List.getElem?_append_left (by rw [← h.1]; exact hi)] at h2
  exact h.2 i u m h1 h2
 ·rw [List.getElem?_append_right (by omega)] at h1
  rw [List.getElem?_append_right (by rw [← h.1]; omega)] at h2
  rw [h.1] at h1
  generalize i - ls.length = j at h1 h2
  cases j with
  | zero => simp at h1 h2; subst h1; subst h2; exact hv
  | succ j => simp at h1
theorem Vs.drop (h : Vs w vs ls) (k : Nat) : Vs w (vs.drop k) (ls.drop k) := ⟨by simp [h.1], fun i v l h1 h2 => h.2 (k + i) v l (by rw [← List.getElem?_drop]; exact h1) (by rw [← List.getElem?_drop]; exact h2)⟩
theorem Vs.take (h : Vs w vs ls) (k : Nat) : Vs w (vs.take k) (ls.take k) := ⟨by simp [h.1], fun i v l h1 h2 => by
 rw [List.getElem?_take] at h1 h2
 split at h1
 ·rename_i hi
  rw [if_pos hi] at h2
  exact h.2 i v l h1 h2
 ·cases h1⟩
theorem Vs.one (h : Vs w vs ls) : ∀ u ∈ vs, u.oneCell' = true := fun u hu => by
 obtain ⟨i, hi⟩ := List.mem_iff_getElem?.1 hu
 have hl := (List.getElem?_eq_some_iff.1 hi).1
 exact (h.2 i u (ls[i]'(by rw [← h.1]; exact hl)) hi (List.getElem?_eq_getElem _)).one
end
/-- How an entry of the map of held messages reads: as itself. -/
def RV : Value → Option (DataW Value × List MemPlace) := fun v => some (.held v, [])
def zd : DataW Value := .held (.slice none 0 0)
/-- The map holds these messages. -/
def HeldIs (w : World) (D : DataW Value) (f : Int → Option (List UInt8)) : Prop := ∀ k, W.Is64 k → (f k = none → Maps.has D (.int .i64 k) = false) ∧
 ∀ l, f k = some l → Maps.has D (.int .i64 k) = true ∧ ∃ v, D.atKey (.int .i64 k) zd = .held v ∧ BV w v l
theorem HeldIs.kb {w w' : World} {D : DataW Value} {f : Int → Option (List UInt8)} (h : HeldIs w D f) (k : KB w w') : HeldIs w' D f := fun x hx => ⟨(h x hx).1, fun l hl => by
 obtain ⟨h1, v, h2, h3⟩ := (h x hx).2 l hl
 exact ⟨h1, v, h2, h3.kb k⟩⟩
/-- An end lies in memory: its box, its map, its row of waiting messages. -/
def EndAt (w : World) (b : Nat) (own : List Nat) (S : K.E) : Prop := ∃ rv vs bm D,
 Bx w b 65 [.int .i64 S.win, .int .u64 S.key, rv, .int .i64 S.acked, .int .i64 S.del, .map (some bm), .bool S.owing, .int .i64 S.forged] ∧
 w.ownsRow 0 33 1 rv S.wait.length vs ∧ Vs w vs S.wait ∧ w.ownsMap Try.prog 3 RV bm S.cnt D ∧ HeldIs w D S.held ∧ own = b :: bm :: rv.ownBlock.toList
theorem EndAt.keep {w w' : World} {b : Nat} {own : List Nat} {S : K.E} (h : EndAt w b own S) (k : KB w w') (hk : ∀ x ∈ own, w'.heap[x]? = w.heap[x]?) : EndAt w' b own S := by
 obtain ⟨rv, vs, bm, D, h1, h2, h3, h4, h5, h6⟩ := h
 subst h6
 refine ⟨rv, vs, bm, D, (hk b (by simp)).trans h1, ?_, h3.kb k, ?_, h5.kb k, rfl⟩
 ·refine ⟨h2.1, ?_⟩
  rcases h2.2 with h | ⟨g, cap, cur, rfl, hb, hg, r⟩
  ·exact .inl h
  ·exact .inr ⟨g, cap, cur, rfl, hb, (hk g (by simp [Value.ownBlock])).trans hg, r⟩
 ·obtain ⟨es, ck, hb, r⟩ := h4
  exact ⟨es, ck, (hk bm (by simp)).trans hb, r⟩
theorem EndAt.lt {w : World} {b : Nat} {own : List Nat} {S : K.E} (h : EndAt w b own S) : ∀ x ∈ own, x < w.heap.size := by
 obtain ⟨rv, vs, bm, D, h1, h2, h3, h4, h5, h6⟩ := h
 subst h6
 intro x hx
 simp only [List.mem_cons, Option.mem_toList] at hx
 rcases hx with rfl | rfl | hx
 ·exact h1.lt
 ·exact h4.lt
 ·exact (h2.lt x hx).2
theorem EndAt.tt {w w' : World} {b : Nat} {own R : List Nat} {S : K.E} (h : EndAt w b own S) (t : TT R w w') (hd : ∀ x ∈ own, x ∉ R) : EndAt w' b own S := h.keep t.2 (fun x hx => t.1.block x (h.lt x hx) (hd x hx))
theorem EndAt.below {w w' : World} {b : Nat} {own : List Nat} {S : K.E} (h : EndAt w b own S) (t : Below w.heap.size w w') : EndAt w' b own S := h.keep (.of t) (fun x hx => t.block x (h.lt x hx))
/-- None of an end's blocks is a row of bytes; its blocks are three. -/
theorem EndAt.nob {w : World} {b : Nat} {own : List Nat} {S : K.E} (h : EndAt w b own S) : ∀ x ∈ own, ∀ cs fr, w.heap[x]? ≠ some (.cells cs 5 fr) := by
 obtain ⟨rv, vs, bm, D, h1, h2, h3, ⟨es, ck, h4, _⟩, h5, h6⟩ := h
 subst h6
 intro x hx cs fr e
 simp only [List.mem_cons, Option.mem_toList] at hx
 rcases hx with rfl | rfl | hx
 ·unfold Bx at h1
  rw [h1] at e
  injection e with e
  injection e with _ e _
  exact absurd e (by decide)
 ·rw [h4] at e
  injection e with e
  cases e
 ·rcases h2.2 with ⟨rfl, _⟩ | ⟨g, cap, cur, rfl, _, hg, _⟩
  ·simp [Value.ownBlock] at hx
  ·simp [Value.ownBlock] at hx
   subst hx
   rw [hg] at e
   injection e with e
   injection e with _ e _
   exact absurd e (by decide)
/-- What a call of a method does: the end in its new state, and what else may have turned. -/
def EndTo (b : Nat) (own : List Nat) (S : K.E) (w w' : World) : Prop := ∃ own', EndAt w' b own' S ∧ TT own w w' ∧ ∀ x ∈ own', x ∈ own ∨ w.heap.size ≤ x
end Go.Proofs.Ytgdibcgphjmofaa
namespace Go.Proofs.Ytgdibcgphjmofaa
open Go.RowKit
open Go.Maps
set_option linter.unusedVariables false
theorem waiting_any (b : Nat) (own : List Nat) (S : K.E) (w : World) (h : EndAt w b own S) : Calls Try.prog 21 #[.pointer (some ⟨b, 0, none⟩)] w fun e w' => e = .returned (.int .i64 (S.wait.length : Int)) ∧ w = w' := by
 obtain ⟨rv, vs, bm, D, hx, hown, -⟩ := h
 obtain ⟨A, c, rfl, -⟩ := own_form hown
 obtain ⟨c0, c1, c2, c3, c4, c5, c6, c7, z, l⟩ := hx.f8
 clear hown hx
 generalize S.wait.length = N at *
 go_enter Try.func21, Try.ntmps21
 go_wp2
 go_ret
 exact ⟨rfl, rfl⟩
theorem forged_any (b : Nat) (own : List Nat) (S : K.E) (w : World) (h : EndAt w b own S) : Calls Try.prog 22 #[.pointer (some ⟨b, 0, none⟩)] w fun e w' => e = .returned (.int .i64 S.forged) ∧ w = w' := by
 obtain ⟨rv, vs, bm, D, hx, hown, -⟩ := h
 obtain ⟨c0, c1, c2, c3, c4, c5, c6, c7, z, l⟩ := hx.f8
 clear hown hx
 generalize S.forged = N at *
 go_enter Try.func22, Try.ntmps22
 go_wp2
 go_ret
 exact ⟨rfl, rfl⟩
/-- A new end. -/
def K.E0 (win key : Int) : K.E := ⟨win, key, [], 0, 0, fun _ => none, false, 0, 0⟩
theorem new_no (win key : Int) (w : World) (h : win < 1 ∨ 16 < win) : Calls Try.prog 28 #[.int .i64 win, .int .u64 key] w fun e w' => e = .returned (.tuple #[.pointer none, .int .i64 1]) ∧ w = w' := by
 rcases h with h | h
 ·have hd := decide_eq_true h
  go_enter Try.func28, Try.ntmps28
  go_wp2
  go_ret2
  exact ⟨rfl, rfl⟩
 ·have hd := decide_eq_true h
  have hd2 : decide (win < 1) = false := decide_eq_false (by omega)
  go_enter Try.func28, Try.ntmps28
  go_wp2
  go_ret2
  exact ⟨rfl, rfl⟩
/-- What returns a new end. -/
def RNew (win key : Int) (w : World) (e : Ending) (w' : World) : Prop := ∃ b own, e = .returned (.tuple #[.pointer (some ⟨b, 0, none⟩), .int .i64 0]) ∧ EndAt w' b own (K.E0 win key) ∧ Below w.heap.size w w' ∧ ∀ x ∈ own, w.heap.size ≤ x
theorem new_yes (win key : Int) (w : World) (h1 : 1 ≤ win) (h2 : win ≤ 16) : Calls Try.prog 28 #[.int .i64 win, .int .u64 key] w (RNew win key w) := by
 have hmm := @run_makeMap Try.prog
 have hd := decide_eq_false (show ¬ win < 1 by omega)
 have hd2 := decide_eq_false (show ¬ 16 < win by omega)
 go_enter Try.func28, Try.ntmps28
 go_wp2
 go_ret2
 have hb : Below w.heap.size w (w.alloc (.map #[] 0)) := (Below.refl _ _).alloc (Nat.le_refl _) _
 refine ⟨_, [w.heap.size + 1, w.heap.size], rfl, ⟨.slice none 0 0, [], w.heap.size, .map [], Bx.at_ (by simp), World.ownsRow_nil _ _ _ _, Vs.nil _, (World.ownsMap_made w _ _ _).alloc _, ?_, rfl⟩, hb.alloc (by simp) _, ?_⟩
 ·intro k _
  exact ⟨fun _ => rfl, fun l hl => by cases hl⟩
 ·intro x hx
  simp at hx
  omega
end Go.Proofs.Ytgdibcgphjmofaa
