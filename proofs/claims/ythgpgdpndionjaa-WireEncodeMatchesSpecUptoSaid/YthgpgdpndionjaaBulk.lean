/-
  What the bound of an Upto statement gives.
-/
import Derived.Test.YthgpgdpndionjaaRows
namespace Go.Proofs.Ythgpgdpndionjaa
section
variable {H : Type}
theorem bulk_one (d : DataW H) : 1 ≤ Rows.uptoBulk d := by
  cases d with
  | lit l => cases l <;> simp [Rows.uptoBulk]
  | nil => simp [Rows.uptoBulk]
  | ptr d => simp [Rows.uptoBulk]
  | slice elems spare => simp [Rows.uptoBulk]
  | agg parts => simp [Rows.uptoBulk]
  | iface t d => simp [Rows.uptoBulk]
  | map entries => simp [Rows.uptoBulk]
  | held h => simp [Rows.uptoBulk]
theorem bulk_len : ∀ l : List (DataW H), l.length ≤ Rows.uptoBulkAll l
  | [] => by simp
  | x :: r => by
    have h1 := bulk_one x
    have h2 := bulk_len r
    simp only [Rows.uptoBulkAll, List.length_cons]
    omega
theorem bulk_slice (elems spare : List (DataW H)) : elems.length + spare.length + 1 ≤ Rows.uptoBulk (.slice elems spare) := by
  have h1 := bulk_len elems
  have h2 := bulk_len spare
  simp only [Rows.uptoBulk]
  omega
theorem bulk_elems (elems spare : List (DataW H)) : Rows.uptoBulkAll elems ≤ Rows.uptoBulk (.slice elems spare) := by
  simp only [Rows.uptoBulk]
  omega
theorem bulk_string (l : List UInt8) : Rows.uptoBulk (DataW.lit (H := H) (.string l)) = l.length + 1 := by simp [Rows.uptoBulk]
theorem bulk_strs (f : Nat → ByteArray) : ∀ l : List Nat, ((l.map f).map ByteArray.size).sum ≤ Rows.uptoBulkAll (l.map fun i => DataW.lit (H := H) (.string (f i).data.toList))
  | [] => by simp [Rows.uptoBulkAll]
  | i :: r => by
    have h1 := bulk_strs f r
    simp only [List.map_cons, List.sum_cons, Rows.uptoBulkAll, bulk_string]
    have e : (f i).data.toList.length = (f i).size := by rw [Array.length_toList]; rfl
    omega
end
end Go.Proofs.Ythgpgdpndionjaa
