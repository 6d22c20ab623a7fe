/-
 THE WALK of wire.GetDigests.
-/
import Derived.Test.YtgdibcgphjmofaaWalkDec
import Derived.Test.YtgdibcgphjmofaaWalkDig
namespace Go.Proofs.Ytgdibcgphjmofaa
set_option maxHeartbeats 1000000
open Go.RowKit
theorem fold_at : ∀ (cs : List Value) (s : Nat) (Z : Array Value) (j : Nat), s + cs.length ≤ Z.size →
  ((cs.zipIdx s).foldl (fun a x => a.setIfInBounds x.2 x.1) Z)[j]? = if s ≤ j ∧ j < s + cs.length then cs[j - s]? else Z[j]?
 | [], s, Z, j, _ => by rw [if_neg (by simp)]; rfl
 | c :: r, s, Z, j, h => by
  simp only [List.length_cons] at h ⊢
  rw [List.zipIdx_cons, List.foldl_cons, fold_at r (s + 1) _ j (by simp; omega)]
  simp only [Array.getElem?_setIfInBounds]
  rcases Nat.lt_trichotomy j s with h1 | rfl | h1
  ·rw [if_neg (by omega), if_neg (by omega), if_neg (by omega)]
  ·rw [if_neg (by omega), if_pos rfl, if_pos (by omega), if_pos (by omega), Nat.sub_self]
   rfl
  ·by_cases h2 : j < s + 1 + r.length
   ·rw [if_pos (by omega), if_pos (by omega), show j - s = (j - (s + 1)) + 1 from by omega]
    rfl
   ·rw [if_neg (by omega), if_neg (by omega), if_neg (by omega)]
theorem cells_fold (w : World) (Z : Array Value) (T : Nat) (cs : List Value) (h : cs.length ≤ Z.size) : ∀ j u, cs[j]? = some u → (w.alloc (.cells (List.foldl (fun cs x => cs.setIfInBounds x.snd x.fst) Z cs.zipIdx) T)).cell? ((⟨w.heap.size, 0, none⟩ : Addr).add j) = some u := fun j u hu => by
 have hj := (List.getElem?_eq_some_iff.1 hu).1
 rw [Addr.add_lit, cell_of_row _ _ _ _ T (0, 0) (heap_alloc_new w _), Nat.zero_add]
 have := fold_at cs 0 Z j (by omega)
 rw [if_pos (by omega), Nat.sub_zero, hu] at this
 exact this
end Go.Proofs.Ytgdibcgphjmofaa
