/-
 THE WALKS over digests: wire.Digests.
-/
import Derived.Test.YtgdibcgphjmofaaWalkEnc
import Derived.Deep.MidRow
namespace Go.Proofs.Ytgdibcgphjmofaa
set_option maxHeartbeats 1000000
open Go.RowKit
/-- 16 bytes out of many. -/
def dig (F : List UInt8) (k : Nat) : List UInt8 := (F.drop (k * 16)).take 16
theorem dig_length {F : List UInt8} {n k : Nat} (h : F.length = n * 16) (hk : k < n) : (dig F k).length = 16 := by
 unfold dig; rw [List.length_take, List.length_drop]; omega
theorem dig_next (F : List UInt8) (k : Nat) : F.take ((k + 1) * 16) = F.take (k * 16) ++ dig F k := by
 unfold dig
 rw [show (k + 1) * 16 = k * 16 + 16 from by omega, List.take_add]
theorem rd_range {w : World} {b o : Nat} {F : List UInt8} (h : ∀ j u, (W.bc F)[j]? = some u → w.cell? ⟨b, o + j, none⟩ = some u) (k : Nat) : w.rangeAt b (o + k * 16) (W.bc (dig F k)) := by
 intro j v hv
 have e : (W.bc (dig F k))[j]? = some v → (W.bc F)[k * 16 + j]? = some v := by
  intro hv
  unfold dig at hv
  rw [← W.bc_take, ← W.bc_drop, List.getElem?_take] at hv
  split at hv
  ·rwa [List.getElem?_drop] at hv
  ·cases hv
 rw [Nat.add_assoc]
 exact h _ v (e hv)
theorem grown_setCells (b : Nat) : ∀ (vs : List Value) (o : Nat) (w : World), w.grownBy (w.setCells b o vs) (some b)
 | [], _, w => World.grownBy.refl w _
 | v :: r, o, w => by
  rw [World.setCells]
  have h := grown_setCells b r (o + 1) (w.setCell ⟨b, o, none⟩ v)
  have h1 : ∀ k, k ≠ b → (w.setCell ⟨b, o, none⟩ v).heap[k]? = w.heap[k]? := fun k hk => Below.heap_setCell w ⟨b, o, none⟩ v k hk
  have hsz : (w.setCell ⟨b, o, none⟩ v).heap.size = w.heap.size := by simp [World.setCell]
  exact ⟨h.os, h.tape, h.output, by rw [← hsz]; exact h.size, fun k hk hne => (h.block k (by rw [hsz]; exact hk) hne).trans (h1 k (fun e => hne (by rw [e])))⟩
theorem there_new (w : World) (C : Array Value) (T n : Nat) (h : n ≤ C.size) : (w.alloc (.cells C T)).there w.heap.size 0 n := by
 intro j hj
 have h1 := heap_alloc_new w (.cells C T)
 refine ⟨?_, ?_⟩
 ·rw [cell_of_row _ _ _ C T (0, 0) h1, Array.getElem?_eq_getElem (by omega)]
  rfl
 ·unfold World.frozen?
  rw [h1]
  simp
theorem own_other {w w' : World} {base e size n b : Nat} {v : Value} {xs : List Value} (h : w.ownsRow base e size v n xs) (hg : w.grownBy w' (some b)) (hb : ∀ k, v.ownBlock = some k → k ≠ b) : w'.ownsRow base e size v n xs :=
 h.kept hg (by
  cases hv : v.ownBlock with
  | none => exact .inl rfl
  | some k => exact .inr (fun e => hb k hv (by injection e)))
theorem own_ne_new {w : World} {base e size n : Nat} {v : Value} {xs : List Value} (h : w.ownsRow base e size v n xs) : ∀ k, v.ownBlock = some k → k ≠ w.heap.size := fun k hk => by have := h.lt k hk; omega
theorem cells_set (w : World) (C : Array Value) (T : Nat) (cs : List Value) (h : cs.length ≤ C.size) : ∀ j u, cs[j]? = some u → ((w.alloc (.cells C T)).setCells w.heap.size 0 cs).cell? ((⟨w.heap.size, 0, none⟩ : Addr).add j) = some u := fun j u hu => by
 rw [Addr.add_lit]
 exact World.rangeAt_setCells_same _ _ _ _ (there_new w C T _ h) j u hu
theorem base_set (w : World) (C : Array Value) (T : Nat) (cs : List Value) {B : Nat} (h : B ≤ w.heap.size) : B ≤ ((w.alloc (.cells C T)).setCells w.heap.size 0 cs).heap.size := by
 have := (grown_setCells w.heap.size cs 0 (w.alloc (.cells C T))).size
 simp at this
 omega
end Go.Proofs.Ytgdibcgphjmofaa
