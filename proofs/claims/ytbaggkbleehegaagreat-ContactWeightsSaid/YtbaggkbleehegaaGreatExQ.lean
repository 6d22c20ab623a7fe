/-
 CONTACT: classes, sums and boxes of bodies (plain).
-/
import Derived.Test.YtbaggkbleehegaaGreatLawO
namespace Go.Proofs.YtbaggkbleehegaaGreat.E.Ct
open Go.RowKit
set_option linter.unusedVariables false
set_option linter.unusedSimpArgs false
section
variable {ρ : Nat → Nat} {E E' : List (Nat × Nat)} {e : Nat × Nat} {j k n r : Nat}
theorem mrg_le (h : ∀ j, ρ j ≤ j) (j : Nat) : mrg ρ e j ≤ j := by
 have := h j
 unfold mrg
 split
 · omega
 · exact this
theorem foldl_le : ∀ (E : List (Nat × Nat)) (ρ : Nat → Nat), (∀ j, ρ j ≤ j) → ∀ j, E.foldl mrg ρ j ≤ j
 | [], _, h => h
 | e :: E, ρ, h => foldl_le E (mrg ρ e) (mrg_le h)
theorem cls_le (E : List (Nat × Nat)) (j : Nat) : cls E j ≤ j := foldl_le E id (fun _ => Nat.le_refl _) j
theorem foldl_eq : ∀ (E : List (Nat × Nat)) (ρ : Nat → Nat) (a b : Nat), ρ a = ρ b → E.foldl mrg ρ a = E.foldl mrg ρ b
 | [], _, _, _, h => h
 | e :: E, ρ, a, b, h => foldl_eq E (mrg ρ e) a b (by unfold mrg; rw [h])
theorem foldl_edge : ∀ (E : List (Nat × Nat)) (ρ : Nat → Nat), ∀ e ∈ E, E.foldl mrg ρ e.1 = E.foldl mrg ρ e.2
 | [], _, e, h => by cases h
 | x :: E, ρ, e, h => by
  rcases List.mem_cons.1 h with rfl | h
  · refine foldl_eq E _ _ _ ?_
    unfold mrg
    split <;> split <;> omega
  · exact foldl_edge E (mrg ρ x) e h
/-- What is the same along all edges is the same within classes. -/
theorem foldl_inv (f : Nat → Nat) : ∀ (E : List (Nat × Nat)) (ρ : Nat → Nat), (∀ e ∈ E, f e.1 = f e.2) → (∀ j, f (ρ j) = f j) → ∀ j, f (E.foldl mrg ρ j) = f j
 | [], _, _, h => h
 | e :: E, ρ, he, h => foldl_inv f E (mrg ρ e) (fun x hx => he x (List.mem_cons_of_mem _ hx)) fun j => by
  have h1 := he e (List.mem_cons_self ..)
  have h2 := h e.1
  have h3 := h e.2
  have h4 := h j
  unfold mrg
  split
  · rename_i hm
    rcases Nat.le_total (ρ e.1) (ρ e.2) with g | g
    · rw [Nat.min_eq_left g, h2, h1, ← h3, ← h4, hm, Nat.max_eq_right g]
    · rw [Nat.min_eq_right g, h3, ← h1, ← h2, ← h4, hm, Nat.max_eq_left g]
  · exact h4
/-- Fewer edges: more roots. -/
theorem cls_sub (h : ∀ e ∈ E', e ∈ E) (hj : cls E j = j) : cls E' j = j := by
 have h1 : cls E (cls E' j) = cls E j := foldl_inv (cls E) E' id (fun e he => foldl_edge E id e (h e he)) (fun _ => rfl) j
 have h2 := cls_le E (cls E' j)
 have h3 := cls_le E' j
 omega
theorem filter_len {α : Type} {p q : α → Bool} : ∀ (L : List α), (∀ x ∈ L, p x = true → q x = true) → (L.filter p).length ≤ (L.filter q).length
 | [], _ => Nat.le_refl _
 | x :: L, h => by
  have ih := filter_len L fun y hy => h y (List.mem_cons_of_mem _ hy)
  have hx := h x (List.mem_cons_self ..)
  rw [List.filter_cons, List.filter_cons]
  cases hp : p x with
  | true =>
   rw [hx hp]
   simpa using ih
  | false =>
   cases hq : q x
   · simpa using ih
   · simp; omega
end
/-- Bits. -/
theorem fdiv_ (s : Int) (k : Nat) : s.fdiv (2 ^ k) = s / (2 ^ k : Int) := Int.fdiv_eq_ediv_of_nonneg s (Int.le_of_lt (Int.pow_pos (by decide)))
def bt (s : Int) (k : Nat) : Int := s / (2 ^ k : Int) % 2
theorem bitV_bt (s : Int) (k : Nat) (hk : k ≤ 60) : bitV s k = bt s k := by
 unfold bitV bt
 have hm : min (k : Int).toNat IntKind.i64.bits = k := by
  have : IntKind.i64.bits = 64 := rfl
  rw [this, Int.toNat_natCast]
  omega
 rw [hm, fdiv_]
 generalize s / (2 ^ k : Int) = x
 have h : (BitVec.ofInt IntKind.i64.bits x &&& BitVec.ofInt IntKind.i64.bits 1).toNat = (BitVec.ofInt IntKind.i64.bits x).toNat % 2 := by
  rw [BitVec.toNat_and]
  show (BitVec.ofInt 64 x).toNat &&& 1 = _
  exact Nat.and_one_is_mod _
 rw [h]
 have h2 : (BitVec.ofInt IntKind.i64.bits x).toNat = (x % (2 ^ 64 : Int)).toNat := BitVec.toNat_ofInt ..
 rw [h2, IntKind.wrap_i64]
 omega
/-- The conjunction of two sets. -/
def andV (a b : Int) : Int := IntKind.i64.wrap ((BitVec.ofInt IntKind.i64.bits a &&& BitVec.ofInt IntKind.i64.bits b).toNat : Int)
theorem bt_nat (s : Int) (k : Nat) (hk : k ≤ 60) : bt s k = (((s % (2 ^ 64 : Int)).toNat / 2 ^ k % 2 : Nat) : Int) := by
 have h0 : (0 : Int) ≤ s % (2 ^ 64 : Int) := Int.emod_nonneg _ (by decide)
 obtain ⟨m, hm⟩ : ∃ m : Nat, s % (2 ^ 64 : Int) = (m : Int) := ⟨(s % (2 ^ 64 : Int)).toNat, by omega⟩
 have hs : s = (m : Int) + 2 ^ 64 * (s / (2 ^ 64 : Int)) := by have := Int.emod_add_mul_ediv s (2 ^ 64 : Int); omega
 rw [hm, Int.toNat_natCast]
 unfold bt
 generalize s / (2 ^ 64 : Int) = q at hs
 subst hs
 have hp : (2 ^ 64 : Int) = 2 ^ k * (2 * 2 ^ (63 - k)) := by
  rw [show (2 : Int) * 2 ^ (63 - k) = 2 ^ (63 - k + 1) from (by rw [Int.pow_succ]; omega), ← Int.pow_add]
  congr 1
  omega
 have hpos : (2 ^ k : Int) ≠ 0 := Int.ne_of_gt (Int.pow_pos (by decide))
 rw [hp, Int.mul_assoc, Int.add_mul_ediv_left _ _ hpos, Int.mul_assoc, Int.add_mul_emod_self_left]
 have : ((m / 2 ^ k % 2 : Nat) : Int) = (m : Int) / (2 ^ k : Int) % 2 := by
  rw [Int.natCast_emod, Int.natCast_ediv, Int.natCast_pow]
  rfl
 rw [this]
theorem and_bit {a b : Int} {k : Nat} (hk : k ≤ 60) (h : inB (andV a b) k = true) : inB a k = true := by
 unfold inB at h ⊢
 rw [bitV_bt _ _ hk, bt_nat _ _ hk] at h ⊢
 have hx : (BitVec.ofInt IntKind.i64.bits a).toNat = (a % (2 ^ 64 : Int)).toNat := BitVec.toNat_ofInt ..
 have hy : (BitVec.ofInt IntKind.i64.bits b).toNat = (b % (2 ^ 64 : Int)).toNat := BitVec.toNat_ofInt ..
 have hand : ((andV a b) % (2 ^ 64 : Int)).toNat = (a % (2 ^ 64 : Int)).toNat &&& (b % (2 ^ 64 : Int)).toNat := by
  unfold andV
  rw [BitVec.toNat_and, hx, hy, IntKind.wrap_i64]
  have h1 : (a % (2 ^ 64 : Int)).toNat < 2 ^ 64 := by
   have := Int.emod_lt_of_pos a (b := (2 ^ 64 : Int)) (by decide)
   omega
  have h2 := Nat.and_lt_two_pow (y := (b % (2 ^ 64 : Int)).toNat) (x := (a % (2 ^ 64 : Int)).toNat) (n := 64) (by
   have := Int.emod_lt_of_pos b (b := (2 ^ 64 : Int)) (by decide)
   omega)
  generalize (a % (2 ^ 64 : Int)).toNat &&& (b % (2 ^ 64 : Int)).toNat = z at *
  omega
 rw [hand] at h
 generalize (a % (2 ^ 64 : Int)).toNat = x at *
 generalize (b % (2 ^ 64 : Int)).toNat = y at *
 have t1 : ((x &&& y) / 2 ^ k % 2 : Nat) = 1 := by
  have := of_decide_eq_true (show decide ((((x &&& y) / 2 ^ k % 2 : Nat) : Int) = 1) = true from by simpa using h)
  omega
 have t2 : (x &&& y).testBit k = true := by rw [Nat.testBit_eq_decide_div_mod_eq]; exact decide_eq_true t1
 rw [Nat.testBit_and, Bool.and_eq_true] at t2
 have t3 := t2.1
 rw [Nat.testBit_eq_decide_div_mod_eq] at t3
 have t4 := of_decide_eq_true t3
 rw [t4]
 rfl
theorem zero_bit {k : Nat} (hk : k ≤ 60) : inB 0 k = false := by
 unfold inB
 rw [bitV_bt _ _ hk]
 unfold bt
 simp
end Go.Proofs.YtbaggkbleehegaaGreat.E.Ct
