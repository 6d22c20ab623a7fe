/-
 ARGUMENTS: bytes.
-/
import Derived.Test.YtlgnagnmoleeiaaGreatGloN
namespace Go.Proofs.YtlgnagnmoleeiaaGreat.E
open Go.RowKit
set_option linter.unusedVariables false
theorem Fit.bytes {x : V} (h : Fit (.row [.ii .u8]) x) : ∃ l : List UInt8, x = .sl (byL l) := by
 cases h with
 | row e l h0 h1 h2 =>
  clear h0
  suffices h : ∃ l' : List UInt8, l = byL l' by
   obtain ⟨l', rfl⟩ := h
   exact ⟨l', rfl⟩
  induction l with
  | nil => exact ⟨[], rfl⟩
  | cons a r ih =>
   obtain ⟨l', rfl⟩ := ih (fun cs h => h1 cs (List.mem_cons_of_mem _ h)) (fun cs h => h2 cs (List.mem_cons_of_mem _ h))
   have hl := h1 a (List.mem_cons_self ..)
   have hf := h2 a (List.mem_cons_self ..)
   match a, hl with
   | [y], _ =>
    have hy := hf 0 _ y rfl rfl
    cases hy with
    | i _ n hn =>
     have hb : 0 ≤ n ∧ n ≤ 255 := by
      have h3 : IntKind.u8.min ≤ n ∧ n ≤ IntKind.u8.max := by simpa [Lit.wf] using hn
      exact h3
     refine ⟨UInt8.ofNat n.toNat :: l', ?_⟩
     have : ((UInt8.ofNat n.toNat).toNat : Int) = n := by
      rw [UInt8.toNat_ofNat_of_lt' (by show n.toNat < 256; omega)]
      omega
     show [V.k (.int .u8 n)] :: byL l' = [V.k (.int .u8 ((UInt8.ofNat n.toNat).toNat : Int))] :: byL l'
     rw [this]
end Go.Proofs.YtlgnagnmoleeiaaGreat.E
