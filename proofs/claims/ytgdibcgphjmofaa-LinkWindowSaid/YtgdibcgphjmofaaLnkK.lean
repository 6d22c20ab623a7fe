/-
 THE WALK of packet.valid.
-/
import Derived.Test.YtgdibcgphjmofaaLnkJ
namespace Go.Proofs.Ytgdibcgphjmofaa
set_option maxHeartbeats 4000000
open Go.RowKit
set_option linter.unusedVariables false
/-- A packet that can have been sent. -/
def K.okP (p q : Int) (n : Nat) : Prop := 0 ≤ p ∧ 0 ≤ q ∧ n ≤ 65536 ∧ (0 < p ∨ n = 0)
set_option maxRecDepth 100000 in
theorem pv1 (p q : Int) (A : Option Addr) (n c : Nat) (w : World) (hp : ¬ ((0 : Int) ≤ p)) :
  Calls Try.prog 48 #[.agg #[.int .i64 p, .int .i64 q, .slice A n c]] w (fun e w' => e = .returned (.bool false) ∧ Below w.heap.size w w') := by
 have hdp := decide_eq_false hp
 go_enter Try.func48, Try.ntmps48
 go_wp2
 go_ret
 exact ⟨rfl, (Below.refl _ _).alloc (Nat.le_refl _) _⟩
set_option maxRecDepth 100000 in
theorem pv2 (p q : Int) (A : Option Addr) (n c : Nat) (w : World) (hp : (0 : Int) ≤ p) (hq : ¬ ((0 : Int) ≤ q)) :
  Calls Try.prog 48 #[.agg #[.int .i64 p, .int .i64 q, .slice A n c]] w (fun e w' => e = .returned (.bool false) ∧ Below w.heap.size w w') := by
 have hdp := decide_eq_true hp
 have hdq := decide_eq_false hq
 go_enter Try.func48, Try.ntmps48
 go_wp2
 go_ret
 exact ⟨rfl, (Below.refl _ _).alloc (Nat.le_refl _) _⟩
set_option maxRecDepth 100000 in
theorem pv3 (p q : Int) (A : Option Addr) (n c : Nat) (w : World) (hp : (0 : Int) ≤ p) (hq : (0 : Int) ≤ q) (hn : ¬ ((n : Int) ≤ 65536)) :
  Calls Try.prog 48 #[.agg #[.int .i64 p, .int .i64 q, .slice A n c]] w (fun e w' => e = .returned (.bool false) ∧ Below w.heap.size w w') := by
 have hdp := decide_eq_true hp
 have hdq := decide_eq_true hq
 have hdn := decide_eq_false hn
 go_enter Try.func48, Try.ntmps48
 go_wp2
 go_ret
 exact ⟨rfl, (Below.refl _ _).alloc (Nat.le_refl _) _⟩
set_option maxRecDepth 100000 in
theorem pv4 (p q : Int) (A : Option Addr) (n c : Nat) (w : World) (hp : (0 : Int) ≤ p) (hq : (0 : Int) ≤ q) (hn : (n : Int) ≤ 65536) (hs : (0 : Int) < p) :
  Calls Try.prog 48 #[.agg #[.int .i64 p, .int .i64 q, .slice A n c]] w (fun e w' => e = .returned (.bool true) ∧ Below w.heap.size w w') := by
 have hdp := decide_eq_true hp
 have hdq := decide_eq_true hq
 have hdn := decide_eq_true hn
 have hds := decide_eq_true hs
 go_enter Try.func48, Try.ntmps48
 go_wp2
 go_ret
 exact ⟨rfl, (Below.refl _ _).alloc (Nat.le_refl _) _⟩
set_option maxRecDepth 100000 in
theorem pv5 (p q : Int) (A : Option Addr) (n c : Nat) (w : World) (hp : (0 : Int) ≤ p) (hq : (0 : Int) ≤ q) (hn : (n : Int) ≤ 65536) (hs : ¬ ((0 : Int) < p)) (hz : n = 0) :
  Calls Try.prog 48 #[.agg #[.int .i64 p, .int .i64 q, .slice A n c]] w (fun e w' => e = .returned (.bool true) ∧ Below w.heap.size w w') := by
 have hdp := decide_eq_true hp
 have hdq := decide_eq_true hq
 have hdn := decide_eq_true hn
 have hds := decide_eq_false hs
 subst hz
 go_enter Try.func48, Try.ntmps48
 go_wp2
 go_ret
 exact ⟨rfl, (Below.refl _ _).alloc (Nat.le_refl _) _⟩
set_option maxRecDepth 100000 in
theorem pv6 (p q : Int) (A : Option Addr) (n c : Nat) (w : World) (hp : (0 : Int) ≤ p) (hq : (0 : Int) ≤ q) (hn : (n : Int) ≤ 65536) (hs : ¬ ((0 : Int) < p)) (hz : n ≠ 0) :
  Calls Try.prog 48 #[.agg #[.int .i64 p, .int .i64 q, .slice A n c]] w (fun e w' => e = .returned (.bool false) ∧ Below w.heap.size w w') := by
 have hdp := decide_eq_true hp
 have hdq := decide_eq_true hq
 have hdn := decide_eq_true hn
 have hds := decide_eq_false hs
 have hzd : ((n : Int) == 0) = false := by rw [beq_eq_false_iff_ne]; omega
 clear hz
 go_enter Try.func48, Try.ntmps48
 go_wp2
 go_ret
 exact ⟨rfl, (Below.refl _ _).alloc (Nat.le_refl _) _⟩
theorem pvalid_yes (p q : Int) (A : Option Addr) (n c : Nat) (w : World) (h : K.okP p q n) :
  Calls Try.prog 48 #[.agg #[.int .i64 p, .int .i64 q, .slice A n c]] w (fun e w' => e = .returned (.bool true) ∧ Below w.heap.size w w') := by
 obtain ⟨h1, h2, h3, h4⟩ := h
 by_cases hs : (0 : Int) < p
 ·exact pv4 p q A n c w h1 h2 (by omega) hs
 ·exact pv5 p q A n c w h1 h2 (by omega) hs (by omega)
theorem pvalid_no (p q : Int) (A : Option Addr) (n c : Nat) (w : World) (h : ¬ K.okP p q n) :
  Calls Try.prog 48 #[.agg #[.int .i64 p, .int .i64 q, .slice A n c]] w (fun e w' => e = .returned (.bool false) ∧ Below w.heap.size w w') := by
 unfold K.okP at h
 by_cases h1 : (0 : Int) ≤ p
 ·by_cases h2 : (0 : Int) ≤ q
  ·by_cases h3 : (n : Int) ≤ 65536
   ·by_cases hs : (0 : Int) < p
    ·omega
    ·exact pv6 p q A n c w h1 h2 h3 hs (by omega)
   ·exact pv3 p q A n c w h1 h2 h3
  ·exact pv2 p q A n c w h1 h2
 ·exact pv1 p q A n c w h1
end Go.Proofs.Ytgdibcgphjmofaa
