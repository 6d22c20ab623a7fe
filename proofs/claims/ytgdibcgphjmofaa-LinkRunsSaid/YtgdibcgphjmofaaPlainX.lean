/-
 PLAIN: decoding strings and lists.
-/
import Derived.Test.YtgdibcgphjmofaaPlainW
namespace Go.Proofs.Ytgdibcgphjmofaa.W
open Go.RowKit
/-- A length at the beginning, of elements of at least so many bytes. -/
def cnt (l : List UInt8) (size : Nat) : Int × Nat × Int :=
 if (dec l).2.2 ≠ 0 then dec l
 else if (dec l).1 < 0 then ((dec l).1, (dec l).2.1, 2)
 else if ((l.length - (dec l).2.1) / size : Nat) < (dec l).1 then ((dec l).1, (dec l).2.1, 3)
 else dec l
theorem dec_at_le (l : List UInt8) : (dec l).2.1 ≤ l.length := by
 rcases hd : dec l with ⟨n, u, e⟩
 rcases dec_err hd with rfl | ⟨_, rfl, _⟩
 ·exact (dec_ok hd).2.1
 ·simp
theorem dec_at_le9 (l : List UInt8) : (dec l).2.1 ≤ 9 := by
 rcases hd : dec l with ⟨n, u, e⟩
 rcases dec_err hd with rfl | ⟨_, rfl, _⟩
 ·have := (dec_ok hd).2.2.2
  have := (enc_le n).2
  simp; omega
 ·simp
theorem dec_range (l : List UInt8) : Is64 (dec l).1 := by
 rcases hd : dec l with ⟨n, u, e⟩
 rcases dec_err hd with rfl | ⟨rfl, _, _⟩
 ·exact (dec_ok hd).1
 ·unfold Is64; simp
theorem dec_e (l : List UInt8) : (dec l).2.2 = 0 ∨ (dec l).2.2 = 2 ∨ (dec l).2.2 = 3 := by
 rcases hd : dec l with ⟨n, u, e⟩
 rcases dec_err hd with rfl | ⟨_, _, h⟩
 ·exact .inl rfl
 ·simp; omega
theorem cnt_e (l : List UInt8) (size : Nat) : (cnt l size).2.2 = 0 ∨ (cnt l size).2.2 = 2 ∨ (cnt l size).2.2 = 3 := by
 unfold cnt
 have := dec_e l
 split
 ·exact this
 split
 ·simp
 split
 ·simp
 ·exact this
/-- A count that went well. -/
theorem cnt_ok {l : List UInt8} {size : Nat} (h : (cnt l size).2.2 = 0) : cnt l size = dec l ∧ (dec l).2.2 = 0 ∧ 0 ≤ (dec l).1 ∧ (dec l).1 ≤ ((l.length - (dec l).2.1) / size : Nat) := by
 unfold cnt at h ⊢
 by_cases h1 : (dec l).2.2 ≠ 0
 ·rw [if_pos h1] at h; exact absurd h h1
 rw [if_neg h1] at h ⊢
 by_cases h2 : (dec l).1 < 0
 ·rw [if_pos h2] at h; simp at h
 rw [if_neg h2] at h ⊢
 by_cases h3 : ((l.length - (dec l).2.1) / size : Nat) < (dec l).1
 ·rw [if_pos h3] at h; simp at h
 rw [if_neg h3] at h ⊢
 exact ⟨rfl, by simpa using h1, by omega, by omega⟩
/-- Decoding a string. -/
def decB (l : List UInt8) : List UInt8 × Nat × Int :=
 if (cnt l 1).2.2 ≠ 0 then ([], 0, (cnt l 1).2.2)
 else ((l.drop (cnt l 1).2.1).take (cnt l 1).1.toNat, (cnt l 1).2.1 + (cnt l 1).1.toNat, 0)
/-- Decoding so many elements, one after the other. -/
def seqD {α : Type} (d : List UInt8 → α × Nat × Int) (b : List UInt8) : Nat → Nat → List α → List α × Nat × Int
 | 0, at_, acc => (acc, at_, 0)
 | k + 1, at_, acc => if (d (b.drop at_)).2.2 ≠ 0 then ([], 0, (d (b.drop at_)).2.2) else seqD d b k (at_ + (d (b.drop at_)).2.1) (acc ++ [(d (b.drop at_)).1])
def decL {α : Type} (d : List UInt8 → α × Nat × Int) (l : List UInt8) : List α × Nat × Int :=
 if (cnt l 1).2.2 ≠ 0 then ([], 0, (cnt l 1).2.2) else seqD d l (cnt l 1).1.toNat (cnt l 1).2.1 []
def decI (l : List UInt8) : List Int × Nat × Int := decL dec l
def decT (l : List UInt8) : ByteArray × Nat × Int := (⟨(decB l).1.toArray⟩, (decB l).2.1, (decB l).2.2)
def decS (l : List UInt8) : List ByteArray × Nat × Int := decL decT l
/-- Decoding digests: their bytes, one behind the other. -/
def decD (l : List UInt8) : List UInt8 × Nat × Int :=
 if (cnt l 16).2.2 ≠ 0 then ([], 0, (cnt l 16).2.2)
 else ((l.drop (cnt l 16).2.1).take ((cnt l 16).1.toNat * 16), (cnt l 16).2.1 + (cnt l 16).1.toNat * 16, 0)
theorem cnt_bound {l : List UInt8} {size : Nat} (h : (cnt l size).2.2 = 0) : ∃ n : Nat, (cnt l size).1 = (n : Int) ∧ n * size + (cnt l size).2.1 ≤ l.length ∧ (cnt l size).2.1 ≤ 9 := by
 obtain ⟨h1, h2, h3, h4⟩ := cnt_ok h
 rw [h1]
 have h5 := dec_at_le l
 have h9 := dec_at_le9 l
 refine ⟨(dec l).1.toNat, by omega, ?_, h9⟩
 have h6 : (dec l).1.toNat ≤ (l.length - (dec l).2.1) / size := by omega
 have h7 := Nat.mul_le_mul_right size h6
 have h8 := Nat.div_mul_le_self (l.length - (dec l).2.1) size
 omega
theorem decB_le (l : List UInt8) : (decB l).2.1 ≤ l.length := by
 unfold decB
 by_cases h : (cnt l 1).2.2 = 0
 ·rw [if_neg (by simp [h])]
  obtain ⟨n, hn, h2, _⟩ := cnt_bound h
  rw [hn]
  simp
  omega
 ·rw [if_pos h]; simp
theorem decT_le (l : List UInt8) : (decT l).2.1 ≤ l.length := decB_le l
end Go.Proofs.Ytgdibcgphjmofaa.W
