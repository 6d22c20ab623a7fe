/-
 PLAIN: sealed bytes of which one byte is replaced are refused.
-/
import Derived.Test.YtgdibcgphjmofaaLnkW
namespace Go.Proofs.Ytgdibcgphjmofaa
open Go.RowKit
set_option linter.unusedVariables false
namespace K
def F : Nat := 1099511628211
theorem st_nat (h c : Nat) (hh : h < 18446744073709551616) (hc : c < 256) (u : UInt8) (hu : u.toNat = c) : st (h : Int) u = (((h ^^^ c) * F % 18446744073709551616 : Nat) : Int) := by
 unfold st
 have e1 : IntKind.u64.wrap (u.toNat : Int) = ((c : Nat) : Int) := by rw [hu, IntKind.wrap_u64]; omega
 rw [e1, bits_xor_u64_nat h c (by omega) (by omega), IntKind.wrap_u64]
 unfold F
 omega
theorem mulF_inj {a b : Nat} (ha : a < 18446744073709551616) (hb : b < 18446744073709551616) (h : a * F % 18446744073709551616 = b * F % 18446744073709551616) : a = b := by
 -- the inverse of the factor
 have hF : F * 14886173955864302971 % 18446744073709551616 = 1 := by decide
 have h1 : a * F * 14886173955864302971 % 18446744073709551616 = b * F * 14886173955864302971 % 18446744073709551616 := by
  rw [Nat.mul_mod, h, ← Nat.mul_mod]
 rw [Nat.mul_assoc, Nat.mul_assoc, Nat.mul_mod, hF, Nat.mul_mod b, hF] at h1
 simp at h1
 omega
theorem xor_back (a b : Nat) : (a ^^^ b) ^^^ b = a := by rw [Nat.xor_assoc, Nat.xor_self, Nat.xor_zero]
theorem xor_bd {h c : Nat} (hh : h < 18446744073709551616) (hc : c < 256) : h ^^^ c < 18446744073709551616 := Nat.xor_lt_two_pow (n := 64) (by omega) (by omega)
theorem st_injh {h h' : Int} {u : UInt8} (a : 0 ≤ h ∧ h < 18446744073709551616) (b : 0 ≤ h' ∧ h' < 18446744073709551616) (e : st h u = st h' u) : h = h' := by
 obtain ⟨n, rfl⟩ := Int.eq_ofNat_of_zero_le a.1
 obtain ⟨m, rfl⟩ := Int.eq_ofNat_of_zero_le b.1
 have hu := u.toNat_lt
 rw [st_nat n u.toNat (by omega) hu u rfl, st_nat m u.toNat (by omega) hu u rfl] at e
 have hn : n < 18446744073709551616 := by omega
 have hm : m < 18446744073709551616 := by omega
 have e2 : n ^^^ u.toNat = m ^^^ u.toNat := mulF_inj (xor_bd hn hu) (xor_bd hm hu) (Int.ofNat.inj e)
 have e3 := congrArg (· ^^^ u.toNat) e2
 simp only [xor_back] at e3
 omega
theorem st_injc {h : Int} {u v : UInt8} (a : 0 ≤ h ∧ h < 18446744073709551616) (e : st h u = st h v) : u = v := by
 obtain ⟨n, rfl⟩ := Int.eq_ofNat_of_zero_le a.1
 have hu := u.toNat_lt
 have hv := v.toNat_lt
 rw [st_nat n u.toNat (by omega) hu u rfl, st_nat n v.toNat (by omega) hv v rfl] at e
 have hn : n < 18446744073709551616 := by omega
 have e2 : n ^^^ u.toNat = n ^^^ v.toNat := mulF_inj (xor_bd hn hu) (xor_bd hn hv) (Int.ofNat.inj e)
 have e3 : u.toNat = v.toNat := by
  rw [Nat.xor_comm n, Nat.xor_comm n] at e2
  have e4 := congrArg (· ^^^ n) e2
  simpa only [xor_back] using e4
 exact UInt8.toNat_inj.1 e3
theorem fold_rng : ∀ (l : List UInt8) (h : Int), (0 ≤ h ∧ h < 18446744073709551616) → 0 ≤ l.foldl st h ∧ l.foldl st h < 18446744073709551616
 | [], h, a => a
 | c :: l, h, a => fold_rng l (st h c) (st_rng h c)
theorem fold_inj : ∀ (l : List UInt8) (h h' : Int), (0 ≤ h ∧ h < 18446744073709551616) → (0 ≤ h' ∧ h' < 18446744073709551616) → l.foldl st h = l.foldl st h' → h = h'
 | [], h, h', _, _, e => e
 | c :: l, h, h', a, b, e => st_injh a b (fold_inj l _ _ (st_rng h c) (st_rng h' c) e)
theorem hash_set {key : Int} (hk : 0 ≤ key ∧ key < 18446744073709551616) {l : List UInt8} {k : Nat} {c : UInt8} (hl : k < l.length) (hc : c ≠ l[k]) : hash key (l.set k c) ≠ hash key l := by
 intro e
 have e1 : l.set k c = l.take k ++ c :: l.drop (k + 1) := List.set_eq_take_append_cons_drop .. |>.trans (by rw [if_pos hl])
 have e2 : l = l.take k ++ l[k] :: l.drop (k + 1) := by rw [List.getElem_cons_drop, List.take_append_drop]
 rw [e1] at e
 conv at e => rhs; rw [e2]
 unfold hash at e
 rw [List.foldl_append, List.foldl_append, List.foldl_cons, List.foldl_cons] at e
 have e3 := fold_inj _ _ _ (st_rng _ _) (st_rng _ _) e
 exact hc (st_injc (fold_rng _ _ (beg_rng hk)) e3)
theorem sealB_eq {H H' : Int} {i : Nat} (e : sealB H i = sealB H' i) : H / (256 ^ i : Nat) % 256 = H' / (256 ^ i : Nat) % 256 := by
 have h1 := sealB_cell H i
 have h2 := sealB_cell H' i
 rw [e, h2] at h1
 injection h1 with _ h1
 exact h1.symm
theorem seal8_inj {H H' : Int} (a : 0 ≤ H ∧ H < 18446744073709551616) (b : 0 ≤ H' ∧ H' < 18446744073709551616) (e : seal8 H = seal8 H') : H = H' := by
 unfold seal8 at e
 simp only [List.cons.injEq, and_true] at e
 obtain ⟨e0, e1, e2, e3, e4, e5, e6, e7⟩ := e
 have f0 := sealB_eq e0; have f1 := sealB_eq e1; have f2 := sealB_eq e2; have f3 := sealB_eq e3
 have f4 := sealB_eq e4; have f5 := sealB_eq e5; have f6 := sealB_eq e6; have f7 := sealB_eq e7
 simp only [Nat.reducePow] at f0 f1 f2 f3 f4 f5 f6 f7
 clear e0 e1 e2 e3 e4 e5 e6 e7
 have g : ∀ x : Int, 0 ≤ x → x < 18446744073709551616 → x = x % 256 + 256 * (x / 256 % 256) + 65536 * (x / 65536 % 256) + 16777216 * (x / 16777216 % 256) + 4294967296 * (x / 4294967296 % 256) + 1099511627776 * (x / 1099511627776 % 256) + 281474976710656 * (x / 281474976710656 % 256) + 72057594037927936 * (x / 72057594037927936 % 256) := by
  intro x h0 h1
  omega
 rw [g H a.1 a.2, g H' b.1 b.2]
 have h0 : H % 256 = H' % 256 := by simpa using f0
 have h1 : H / 256 % 256 = H' / 256 % 256 := f1
 have h2 : H / 65536 % 256 = H' / 65536 % 256 := f2
 have h3 : H / 16777216 % 256 = H' / 16777216 % 256 := f3
 have h4 : H / 4294967296 % 256 = H' / 4294967296 % 256 := f4
 have h5 : H / 1099511627776 % 256 = H' / 1099511627776 % 256 := f5
 have h6 : H / 281474976710656 % 256 = H' / 281474976710656 % 256 := f6
 have h7 : H / 72057594037927936 % 256 = H' / 72057594037927936 % 256 := f7
 rw [h0, h1, h2, h3, h4, h5, h6, h7]
/-- One byte replaced: the seal is wrong. -/
theorem detect {key : Int} (hk : 0 ≤ key ∧ key < 18446744073709551616) {l : List UInt8} {k : Nat} {c : UInt8} (hl : k < (sealed key l).length) (hc : (sealed key l)[k]? ≠ some c) : K.unseal key ((sealed key l).set k c) = ([], 9) := by
 have hlen : (sealed key l).length = l.length + 8 := by unfold sealed; rw [List.length_append, seal8_len]
 unfold K.unseal
 rw [if_neg (by rw [List.length_set]; omega), List.length_set, if_pos]
 rw [show (sealed key l).length - 8 = l.length by omega]
 by_cases h : k < l.length
 ·have e1 : (sealed key l).set k c = l.set k c ++ seal8 (hash key l) := by unfold sealed; rw [List.set_append_left _ _ h]
  have e2 : l.length = (l.set k c).length := by simp
  have hck : c ≠ l[k] := by
   intro e
   apply hc
   unfold sealed
   rw [List.getElem?_append_left h, List.getElem?_eq_getElem h, e]
  rw [e1, e2, List.take_left, List.drop_left]
  intro e
  exact hash_set hk h hck (seal8_inj (hash_rng hk _) (hash_rng hk _) e)
 ·have e1 : (sealed key l).set k c = l ++ (seal8 (hash key l)).set (k - l.length) c := by unfold sealed; rw [List.set_append_right _ _ (by omega)]
  rw [e1, List.take_left, List.drop_left]
  intro e
  apply hc
  have hk8 : k - l.length < (seal8 (hash key l)).length := by rw [seal8_len]; omega
  have e2 := congrArg (fun r => r[k - l.length]?) e
  simp only [List.getElem?_set_self hk8] at e2
  unfold sealed
  rw [List.getElem?_append_right (by omega), e2]
end K
end Go.Proofs.Ytgdibcgphjmofaa
