/-
 PIECE: the law PieceParses: parts.
-/
import Derived.Test.YtlgnagnmoleeiaaGreatEpM
namespace Go.Proofs.YtlgnagnmoleeiaaGreat.E.Pc
open Go.RowKit
set_option linter.unusedVariables false
set_option linter.unusedSimpArgs false
section
variable {E B : List UInt8} {l m : List Int} {k n i : Nat}
theorem zs_take (l : List Int) (k : Nat) : (zs l).take k = zs (l.take k) := by unfold zs; rw [List.map_take]
noncomputable abbrev fTk : Func := fnOf PP 24
theorem e_take1 (l : List Int) (k : Nat) (hk : k ≤ 1000000) : Pure PP 24 [zl l, ni k] (.v (zl (l.take k))) := by
 have hl := zs_len l
 have hs : ((zs l).take (min l.length k)).drop 0 = zs (l.take k) := by
  rw [List.drop_zero, zs_take]
  congr 1
  rcases Nat.le_total l.length k with h | h
  · rw [Nat.min_eq_left h, List.take_of_length_le (Nat.le_refl _), List.take_of_length_le h]
  · rw [Nat.min_eq_right h]
 have hlen : (l.take k).length ≤ k := by rw [List.length_take]; omega
 have e9 : ni ((zs l).length : Int) = ni (l.length : Int) := by rw [hl]
 let q : F_ := .eqv 11 (ni (if (k : Int) < (l.length : Int) then (k : Int) else (l.length : Int))) (ni ((min l.length k : Nat) : Int)) (by
  congr 1
  split <;> omega)
 have hz : ∀ cs ∈ zs l, cs.length = 1 := fun cs h => (zs_z1 l cs h).1
 refine Pure.ro (l := zs (l.take k)) (T := 3) (z := 1) ?_
 refine pf (by kernel_rfl) (.to mo_ [.ow 5 (.rw 3 1 [])] [0, 1, 5] [0] 1 [] (td' := rg fTk 2) (σ' := at_ fTk [(0, zl l), (1, ni k), (5, .ow 0)] [.rw 3 1 []]) ?_ (by kernel_rfl))
 by_cases h : l.take k = []
 · rw [h] at hs ⊢
   exact fi [.eqv 9 _ _ e9, q, .slc (zs l) 0 (min l.length k) 1 [] hs (by rw [hl]; omega) hz, .ape [] rfl] (by kernel_rfl) (by kernel_rfl)
 · exact fi [.eqv 9 _ _ e9, q, .slc (zs l) 0 (min l.length k) 1 (zs (l.take k)) hs (by rw [hl]; omega) hz, .aps [] (zs (l.take k)) (zs (l.take k)) 1000000 1 rfl (by rw [zs_len]; exact List.length_pos_iff.2 h) (by rw [zs_len]; omega) (zs_z1 _)] (by kernel_rfl) (by kernel_rfl)
theorem byL_set (c : UInt8) (h : i < E.length) : (byL E).set i [.k (.int .u8 (c.toNat : Int))] = byL (E.set i c) := by unfold byL; rw [List.map_set]
theorem byL_at (h : i < E.length) : (byL E)[i]? = some [.k (.int .u8 ((E.getD i 0).toNat : Int))] := by
 unfold byL
 rw [List.getElem?_map, List.getD_eq_getElem?_getD, List.getElem?_eq_getElem h]
 rfl
theorem u8_c {a : Int} (h : 0 ≤ a ∧ a < 256) : ∃ c : UInt8, a = (c.toNat : Int) := ⟨UInt8.ofNat a.toNat, by
 rw [UInt8.toNat_ofNat']
 omega⟩
end
end Go.Proofs.YtlgnagnmoleeiaaGreat.E.Pc
