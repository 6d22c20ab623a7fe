/-
  Arguments as they come in: []string.
-/
import Derived.Test.YthgpgdpndionjaaWalkApp
import Derived.Deep.Strs
import Derived.SizedLaws
namespace Go.Proofs.Ythgpgdpndionjaa
open Go.RowKit

/-- What is told of a slice of strings that came in. -/
def IsS (w : World) (a : Option Addr) (len cap : Nat) (l : List ByteArray) : Prop := Rd w w.heap.size a (sc l) ∧ len = l.length ∧ len ≤ cap ∧ cap ≤ maxLen ∧ ∀ x ∈ l, x.size ≤ maxLen
theorem isS_nil (w : World) : IsS w none 0 0 [] := ⟨fun h => by simp [sc] at h, rfl, Nat.le_refl _, by decide, by simp⟩
theorem isS_of {w : World} {x : Addr} {len cap m : Nat} {Sx : Nat → ByteArray} (hl : len ≤ cap) (hm : cap ≤ maxLen) (hlm : len ≤ m) (hcell : ∀ i, i < m → w.cell? (x.add i) = some (.string (Sx i)) ∧ (Sx i).size ≤ maxLen) :
    ∃ l, IsS w (some x) len cap l ∧ l = (List.range len).map Sx := by
  refine ⟨(List.range len).map Sx, ⟨?_, by simp, hl, hm, ?_⟩, rfl⟩
  · intro hn
    simp [sc] at hn
    obtain ⟨b, off, spot⟩ := x
    have hspot : spot = none := by simpa [Addr.add] using World.cell?_spot (hcell 0 (by omega)).1
    subst hspot
    have hc : ∀ j, j < len → w.cell? ⟨b, off + j, none⟩ = some (.string (Sx j)) := fun j hj => by rw [← Go.WideShapes.add_plain]; exact (hcell j (by omega)).1
    refine ⟨b, off, rfl, World.block_lt_of_cell? w ⟨b, off + 0, none⟩ (hc 0 (by omega)), fun j u hu => ?_⟩
    have hj : j < len := by have := (List.getElem?_eq_some_iff.1 hu).1; simpa [sc] using this
    rw [hc j hj, ← hu]
    simp [sc, hj]
  · intro y hy
    simp at hy
    obtain ⟨i, hi, rfl⟩ := hy
    exact (hcell i (by omega)).2

section
variable {H : Type} {P : Program} {ts : List TypeId} {ds : List (DataW H)}
theorem weightsAll_mem {e : TypeId} : ∀ {l : List (DataW H)} {d : DataW H}, d ∈ l → ∀ n ∈ d.weights P e, n ∈ DataW.weightsAll P e l
  | x :: r, d, hd, n, hn => by
    simp only [DataW.weightsAll]
    rcases List.mem_cons.1 hd with rfl | hd
    · exact List.mem_append_left _ hn
    · exact List.mem_append_right _ (weightsAll_mem hd n hn)
/-- The strings of a slice of strings are within the reach. -/
theorem sized_strs (h : (DataW.weightsEach P ts ds).all (· ≤ reachBytes) = true) {j : Nat} {t e : TypeId} {elems spare : List (DataW H)} (ht : ts[j]? = some t) (hd : ds[j]? = some (.slice elems spare)) (hu : P.underlying t = some (.slice e))
    (s : List UInt8) (hs : DataW.lit (.string s) ∈ elems) : s.length ≤ reachBytes := by
  have h1 : s.length ∈ DataW.weightsEach P ts ds := DataW.weights_mem_each ht hd _ (by
    simp only [DataW.weights, hu]
    exact List.mem_cons_of_mem _ (List.mem_append_left _ (weightsAll_mem hs _ (by simp [DataW.weights]))))
  simpa using List.all_eq_true.1 h _ h1
end
end Go.Proofs.Ythgpgdpndionjaa
