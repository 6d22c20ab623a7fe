/-
 THE WALKS of New, Waiting, Forged.
-/
import Derived.Test.YtgdibcgphjmofaaLnkN
namespace Go.Proofs.Ytgdibcgphjmofaa
open Go.RowKit
open Go.Maps
set_option linter.unusedVariables false
theorem waiting_any (b : Nat) (own : List Nat) (S : K.E) (w : World) (h : EndAt w b own S) : Calls Try.prog 21 #[.pointer (some ⟨b, 0, none⟩)] w fun e w' => e = .returned (.int .i64 (S.wait.length : Int)) ∧ w = w' := by
 obtain ⟨rv, vs, bm, D, hx, hown, -⟩ := h
 obtain ⟨A, c, rfl, -⟩ := own_form hown
 obtain ⟨c0, c1, c2, c3, c4, c5, c6, c7, z, l⟩ := hx.f8
 clear hown hx
 generalize S.wait.length = N at *
 go_enter Try.func21, Try.ntmps21
 go_wp2
 go_ret
 exact ⟨rfl, rfl⟩
theorem forged_any (b : Nat) (own : List Nat) (S : K.E) (w : World) (h : EndAt w b own S) : Calls Try.prog 22 #[.pointer (some ⟨b, 0, none⟩)] w fun e w' => e = .returned (.int .i64 S.forged) ∧ w = w' := by
 obtain ⟨rv, vs, bm, D, hx, hown, -⟩ := h
 obtain ⟨c0, c1, c2, c3, c4, c5, c6, c7, z, l⟩ := hx.f8
 clear hown hx
 generalize S.forged = N at *
 go_enter Try.func22, Try.ntmps22
 go_wp2
 go_ret
 exact ⟨rfl, rfl⟩
/-- A new end. -/
def K.E0 (win key : Int) : K.E := ⟨win, key, [], 0, 0, fun _ => none, false, 0, 0⟩
theorem new_no (win key : Int) (w : World) (h : win < 1 ∨ 16 < win) : Calls Try.prog 28 #[.int .i64 win, .int .u64 key] w fun e w' => e = .returned (.tuple #[.pointer none, .int .i64 1]) ∧ w = w' := by
 rcases h with h | h
 ·have hd := decide_eq_true h
  go_enter Try.func28, Try.ntmps28
  go_wp2
  go_ret2
  exact ⟨rfl, rfl⟩
 ·have hd := decide_eq_true h
  have hd2 : decide (win < 1) = false := decide_eq_false (by omega)
  go_enter Try.func28, Try.ntmps28
  go_wp2
  go_ret2
  exact ⟨rfl, rfl⟩
/-- What returns a new end. -/
def RNew (win key : Int) (w : World) (e : Ending) (w' : World) : Prop := ∃ b own, e = .returned (.tuple #[.pointer (some ⟨b, 0, none⟩), .int .i64 0]) ∧ EndAt w' b own (K.E0 win key) ∧ Below w.heap.size w w' ∧ ∀ x ∈ own, w.heap.size ≤ x
theorem new_yes (win key : Int) (w : World) (h1 : 1 ≤ win) (h2 : win ≤ 16) : Calls Try.prog 28 #[.int .i64 win, .int .u64 key] w (RNew win key w) := by
 have hmm := @run_makeMap Try.prog
 have hd := decide_eq_false (show ¬ win < 1 by omega)
 have hd2 := decide_eq_false (show ¬ 16 < win by omega)
 go_enter Try.func28, Try.ntmps28
 go_wp2
 go_ret2
 have hb : Below w.heap.size w (w.alloc (.map #[] 0)) := (Below.refl _ _).alloc (Nat.le_refl _) _
 refine ⟨_, [w.heap.size + 1, w.heap.size], rfl, ⟨.slice none 0 0, [], w.heap.size, .map [], Bx.at_ (by simp), World.ownsRow_nil _ _ _ _, Vs.nil _, (World.ownsMap_made w _ _ _).alloc _, ?_, rfl⟩, hb.alloc (by simp) _, ?_⟩
 ·intro k _
  exact ⟨fun _ => rfl, fun l hl => by cases hl⟩
 ·intro x hx
  simp at hx
  omega
end Go.Proofs.Ytgdibcgphjmofaa
