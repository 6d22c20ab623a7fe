/-
 THE WALK of link.read, where there is a packet.
-/
import Derived.Test.YtgdibcgphjmofaaLnkJ
namespace Go.Proofs.Ytgdibcgphjmofaa
set_option maxHeartbeats 4000000
open Go.RowKit
set_option linter.unusedVariables false
/-- A packet that can have been sent. -/
def K.okP (p q : Int) (n : Nat) : Prop := 0 ≤ p ∧ 0 ≤ q ∧ n ≤ 65536 ∧ (0 < p ∨ n = 0)
set_option maxRecDepth 100000 in
theorem pv1 (p q : Int) (A : Option Addr) (n c : Nat) (w : World) (hp : ¬ ((0 : Int) ≤ p)) :
  Calls Try.prog 48 #[.agg #[.int .i64 p, .int .i64 q, .slice A n c]] w (fun e w' => e = .returned (.bool false) ∧ Below w.heap.size w w') := by
 have hdp := decide_eq_false hp
 go_enter Try.func48, Try.ntmps48
 go_wp2
 go_ret
 exact ⟨rfl, (Below.refl _ _).alloc (Nat.le_refl _) _⟩
set_option maxRecDepth 100000 in
theorem pv2 (p q : Int) (A : Option Addr) (n c : Nat) (w : World) (hp : (0 : Int) ≤ p) (hq : ¬ ((0 : Int) ≤ q)) :
  Calls Try.prog 48 #[.agg #[.int .i64 p, .int .i64 q, .slice A n c]] w (fun e w' => e = .returned (.bool false) ∧ Below w.heap.size w w') := by
 have hdp := decide_eq_true hp
 have hdq := decide_eq_false hq
 go_enter Try.func48, Try.ntmps48
 go_wp2
 go_ret
 exact ⟨rfl, (Below.refl _ _).alloc (Nat.le_refl _) _⟩
set_option maxRecDepth 100000 in
theorem pv3 (p q : Int) (A : Option Addr) (n c : Nat) (w : World) (hp : (0 : Int) ≤ p) (hq : (0 : Int) ≤ q) (hn : ¬ ((n : Int) ≤ 65536)) :
  Calls Try.prog 48 #[.agg #[.int .i64 p, .int .i64 q, .slice A n c]] w (fun e w' => e = .returned (.bool false) ∧ Below w.heap.size w w') := by
 have hdp := decide_eq_true hp
 have hdq := decide_eq_true hq
 have hdn := decide_eq_false hn
 go_enter Try.func48, Try.ntmps48
 go_wp2
 go_ret
 exact ⟨rfl, (Below.refl _ _).alloc (Nat.le_refl _) _⟩
set_option maxRecDepth 100000 in
theorem pv4 (p q : Int) (A : Option Addr) (n c : Nat) (w : World) (hp : (0 : Int) ≤ p) (hq : (0 : Int) ≤ q) (hn : (n : Int) ≤ 65536) (hs : (0 : Int) < p) :
  Calls Try.prog 48 #[.agg #[.int .i64 p, .int .i64 q, .slice A n c]] w (fun e w' => e = .returned (.bool true) ∧ Below w.heap.size w w') := by
 have hdp := decide_eq_true hp
 have hdq := decide_eq_true hq
 have hdn := decide_eq_true hn
 have hds := decide_eq_true hs
 go_enter Try.func48, Try.ntmps48
 go_wp2
 go_ret
 exact ⟨rfl, (Below.refl _ _).alloc (Nat.le_refl _) _⟩
set_option maxRecDepth 100000 in
theorem pv5 (p q : Int) (A : Option Addr) (n c : Nat) (w : World) (hp : (0 : Int) ≤ p) (hq : (0 : Int) ≤ q) (hn : (n : Int) ≤ 65536) (hs : ¬ ((0 : Int) < p)) (hz : n = 0) :
  Calls Try.prog 48 #[.agg #[.int .i64 p, .int .i64 q, .slice A n c]] w (fun e w' => e = .returned (.bool true) ∧ Below w.heap.size w w') := by
 have hdp := decide_eq_true hp
 have hdq := decide_eq_true hq
 have hdn := decide_eq_true hn
 have hds := decide_eq_false hs
 subst hz
 go_enter Try.func48, Try.ntmps48
 go_wp2
 go_ret
 exact ⟨rfl, (Below.refl _ _).alloc (Nat.le_refl _) _⟩
set_option maxRecDepth 100000 in
theorem pv6 (p q : Int) (A : Option Addr) (n c : Nat) (w : World) (hp : (0 : Int) ≤ p) (hq : (0 : Int) ≤ q) (hn : (n : Int) ≤ 65536) (hs : ¬ ((0 : Int) < p)) (hz : n ≠ 0) :
  Calls Try.prog 48 #[.agg #[.int .i64 p, .int .i64 q, .slice A n c]] w (fun e w' => e = .returned (.bool false) ∧ Below w.heap.size w w') := by
 have hdp := decide_eq_true hp
 have hdq := decide_eq_true hq
 have hdn := decide_eq_true hn
 have hds := decide_eq_false hs
 have hzd : ((n : Int) == 0) = false := by rw [beq_eq_false_iff_ne]; omega
 clear hz
 go_enter Try.func48, Try.ntmps48
 go_wp2
 go_ret
 exact ⟨rfl, (Below.refl _ _).alloc (Nat.le_refl _) _⟩
theorem pvalid_yes (p q : Int) (A : Option Addr) (n c : Nat) (w : World) (h : K.okP p q n) :
  Calls Try.prog 48 #[.agg #[.int .i64 p, .int .i64 q, .slice A n c]] w (fun e w' => e = .returned (.bool true) ∧ Below w.heap.size w w') := by
 obtain ⟨h1, h2, h3, h4⟩ := h
 by_cases hs : (0 : Int) < p
 ·exact pv4 p q A n c w h1 h2 (by omega) hs
 ·exact pv5 p q A n c w h1 h2 (by omega) hs (by omega)
theorem pvalid_no (p q : Int) (A : Option Addr) (n c : Nat) (w : World) (h : ¬ K.okP p q n) :
  Calls Try.prog 48 #[.agg #[.int .i64 p, .int .i64 q, .slice A n c]] w (fun e w' => e = .returned (.bool false) ∧ Below w.heap.size w w') := by
 unfold K.okP at h
 by_cases h1 : (0 : Int) ≤ p
 ·by_cases h2 : (0 : Int) ≤ q
  ·by_cases h3 : (n : Int) ≤ 65536
   ·by_cases hs : (0 : Int) < p
    ·omega
    ·exact pv6 p q A n c w h1 h2 h3 hs (by omega)
   ·exact pv3 p q A n c w h1 h2 h3
  ·exact pv2 p q A n c w h1 h2
 ·exact pv1 p q A n c w h1
end Go.Proofs.Ytgdibcgphjmofaa
namespace Go.Proofs.Ytgdibcgphjmofaa
set_option maxHeartbeats 400000
open Go.RowKit
set_option linter.unusedVariables false
instance (p q : Int) (n : Nat) : Decidable (K.okP p q n) := by unfold K.okP; infer_instance
/-- The packet that bytes are. -/
def K.read (l : List UInt8) : Option (Int × Int × List UInt8) := if (W.decI l).2.2 = 0 then match (W.decI l).1 with
 | [p, q] => if (W.decB (l.drop (W.decI l).2.1)).2.2 = 0 ∧ (W.decI l).2.1 + (W.decB (l.drop (W.decI l).2.1)).2.1 = l.length ∧ K.okP p q (W.decB (l.drop (W.decI l).2.1)).1.length then some (p, q, (W.decB (l.drop (W.decI l).2.1)).1) else none
 | _ => none
 else none
theorem K.read_eq {l : List UInt8} {p q : Int} {nn mm : Nat} {s : List UInt8} {e : Int} (h1 : W.decI l = ([p, q], nn, 0)) (h2 : W.decB (l.drop nn) = (s, mm, e)) : K.read l = if e = 0 ∧ nn + mm = l.length ∧ K.okP p q s.length then some (p, q, s) else none := by
 unfold K.read
 rw [h1]
 simp only [if_true]
 rw [h2]
/-- What returns a packet, and whether there is one. -/
def RRd (r : Option (Int × Int × List UInt8)) (w : World) (e : Ending) (w' : World) : Prop := match r with
 | none => ∃ u0 u1 u2, e = .returned (.tuple #[.agg #[u0, u1, u2], .bool false]) ∧ u0.oneCell' = true ∧ u1.oneCell' = true ∧ u2.oneCell' = true ∧ Below w.heap.size w w'
 | some (p, q, s) => ∃ v, e = .returned (.tuple #[.agg #[.int .i64 p, .int .i64 q, v], .bool true]) ∧ BV w' v s ∧ Below w.heap.size w w'
def RRn (w : World) (e : Ending) (w' : World) : Prop := RRd none w e w'
theorem f3 {w : World} {g T : Nat} {z0 z1 z2 : Value} {m : List Value} (h : Bx w g T (z0 :: z1 :: z2 :: m)) : w.cell? ⟨g, 0, none⟩ = some z0 ∧ w.cell? ⟨g, 1, none⟩ = some z1 ∧ w.cell? ⟨g, 2, none⟩ = some z2 ∧ (∀ i, w.frozen? ⟨g, i, none⟩ = false) ∧ g < w.heap.size := ⟨h.cell rfl, h.cell rfl, h.cell rfl, h.frozen, h.lt⟩
set_option maxRecDepth 100000 in
theorem read_f1 (A : Option Addr) (c L : Nat) (l : List UInt8) (w : World) (hr : Rd w L A (W.bc l)) (hL : L ≤ w.heap.size) (hc : l.length ≤ c) (hm : c ≤ maxLen) (hl : l.length ≤ 4398046511104) (hE : (W.decI l).2.2 ≠ 0) :
  Calls Try.prog 36 #[.slice A l.length c] w (RRn w) := by
 have HR := Lib.hid hr; clear hr
 go_enter Try.func36, Try.ntmps36
 go_wp2_with fail
 generalize hW1 : w.alloc (.cells _ 68) = w1
 obtain ⟨hx, k1⟩ := box1 hW1
 have hR1 := HR.out.below k1 hL
 have hL1 : L ≤ w1.heap.size := Nat.le_trans hL k1.size
 refine (wgetints_any l A l.length c L w1 hR1 hL1 rfl hc hm hl).mono ?_
 rintro e w2 ⟨v1, rfl, hown, k0⟩
 have hx2 := hx.below k0
 have hR2 := Lib.hid (hR1.below k0 hL1)
 have k2 := Lib.hid (Blw k1 k0)
 have hL2 : L ≤ w2.heap.size := Nat.le_trans hL1 k0.size
 clear hW1 hx k1 HR hR1 k0
 generalize (W.decI l).2.2 = er at *
 generalize (W.decI l).2.1 = nn at *
 generalize (W.decI l).1 = li at *
 have hd : (er == 0) = false := beq_eq_false_iff_ne.2 hE
 have hd2 : (er != 0) = true := by rw [bne, hd]; rfl
 clear hE
 obtain ⟨c0, c1, c2, z0, z1⟩ := f3 hx2
 clear hown
 go_wp2
 have hz := ((hx2.set_ 0 (.int .i64 0)).set_ 1 (.int .i64 0)).set_ 2 (.slice none 0 0)
 obtain ⟨d0, d1, d2, -, -⟩ := f3 hz
 refine bodyPost_ret (v := .tuple #[.agg #[.int .i64 0, .int .i64 0, .slice none 0 0], .bool false]) (by simp [results, Try.results36, go_sem, d0, d1, d2]) rfl ⟨_, _, _, rfl, rfl, rfl, rfl, ((k2.out.setCell (Nat.le_refl _) _).setCell (Nat.le_refl _) _).setCell (Nat.le_refl _) _⟩
set_option maxRecDepth 100000 in
theorem read_f1b (A : Option Addr) (c L : Nat) (l : List UInt8) (w : World) (hr : Rd w L A (W.bc l)) (hL : L ≤ w.heap.size) (hc : l.length ≤ c) (hm : c ≤ maxLen) (hl : l.length ≤ 4398046511104) (hE : (W.decI l).2.2 = 0) (hn2 : (W.decI l).1.length ≠ 2) :
  Calls Try.prog 36 #[.slice A l.length c] w (RRn w) := by
 have HR := Lib.hid hr; clear hr
 go_enter Try.func36, Try.ntmps36
 go_wp2_with fail
 generalize hW1 : w.alloc (.cells _ 68) = w1
 obtain ⟨hx, k2⟩ := box1 hW1
 have hR1 := HR.out.below k2 hL
 have hL1 : L ≤ w1.heap.size := Nat.le_trans hL k2.size
 refine (wgetints_any l A l.length c L w1 hR1 hL1 rfl hc hm hl).mono ?_
 rintro e w2 ⟨v1, rfl, hown, k0⟩
 have hx2 := hx.below k0
 have hR2 := Lib.hid (hR1.below k0 hL1)
 have k3 := Lib.hid (Blw k2 k0)
 have hL2 : L ≤ w2.heap.size := Nat.le_trans hL1 k0.size
 clear hW1 hx k2 HR hR1 k0
 rw [hE]
 generalize (W.decI l).2.1 = nn at *
 generalize (W.decI l).1 = li at *
 clear hE
 obtain ⟨A1, k1, rfl, -⟩ := own_form hown
 generalize hN : li.length = N at *
 have hd : ((N : Int) == 2) = false := beq_eq_false_iff_ne.2 (by omega)
 have hd2 : ((N : Int) != 2) = true := by rw [bne, hd]; rfl
 have HN := Lib.hid hN
 clear hn2 hN hown
 obtain ⟨c0, c1, c2, z0, z1⟩ := f3 hx2
 go_wp2
 have hz := ((hx2.set_ 0 (.int .i64 0)).set_ 1 (.int .i64 0)).set_ 2 (.slice none 0 0)
 obtain ⟨d0, d1, d2, -, -⟩ := f3 hz
 refine bodyPost_ret (v := .tuple #[.agg #[.int .i64 0, .int .i64 0, .slice none 0 0], .bool false]) (by simp [results, Try.results36, go_sem, d0, d1, d2]) rfl ⟨_, _, _, rfl, rfl, rfl, rfl, ((k3.out.setCell (Nat.le_refl _) _).setCell (Nat.le_refl _) _).setCell (Nat.le_refl _) _⟩
theorem HR2c {w2 : World} {L c : Nat} {A : Option Addr} {l : List UInt8} (h : Rd w2 L A (W.bc l)) (hL : L ≤ w2.heap.size) (hc : l.length ≤ c) (nn : Nat) : Rd w2 L (if c = nn then A else A.map (·.add nn)) (W.bc (l.drop nn)) := by
 rw [← W.bc_drop]
 exact h.cut (k := nn) (cap := c) (by simpa using hc)
set_option maxRecDepth 100000 in
theorem read_f2 (A : Option Addr) (c L : Nat) (l : List UInt8) (w : World) (hr : Rd w L A (W.bc l)) (hL : L ≤ w.heap.size) (hc : l.length ≤ c) (hm : c ≤ maxLen) (hl : l.length ≤ 4398046511104) (p q : Int) (nn : Nat) (hI : W.decI l = ([p, q], nn, 0)) (hcn : ¬ c = nn) (hE : (W.decB (l.drop nn)).2.2 ≠ 0) :
  Calls Try.prog 36 #[.slice A l.length c] w (RRn w) := by
 have HR := Lib.hid hr; clear hr
 go_enter Try.func36, Try.ntmps36
 go_wp2_with fail
 generalize hW1 : w.alloc (.cells _ 68) = w1
 obtain ⟨hx, k2⟩ := box1 hW1
 have hR1 := HR.out.below k2 hL
 have hL1 : L ≤ w1.heap.size := Nat.le_trans hL k2.size
 refine (wgetints_any l A l.length c L w1 hR1 hL1 rfl hc hm hl).mono ?_
 rintro e w2 ⟨v1, rfl, hown, k0⟩
 have hx2 := hx.below k0
 have hR2 := Lib.hid (hR1.below k0 hL1)
 have k4 := Lib.hid (Blw k2 k0)
 have hL2 : L ≤ w2.heap.size := Nat.le_trans hL1 k0.size
 clear hW1 hx k2 HR hR1 k0
 rw [hI] at hown ⊢
 have hcan := W.decL_canon W.codec_int l (by show (W.decI l).2.2 = 0; rw [hI])
 change (∀ x ∈ (W.decI l).1, W.Is64 x) ∧ (W.decI l).2.1 ≤ l.length ∧ _ at hcan
 rw [hI] at hcan
 have hnl : nn ≤ l.length := hcan.2.1
 clear hcan
 obtain ⟨g, k1, rfl, -⟩ := own_pos hown (by simp)
 have hown2 : w2.ownsRow w1.heap.size 3 1 (.slice (some ⟨g, 0, none⟩) 2 k1) 2 (ic [p, q]) := hown
 have HO := Lib.hid hown2; clear hown hown2
 have hcut := HR2c hR2.out hL2 hc nn
 have HI := Lib.hid hI; clear hI
 simp only [List.length_cons, List.length_nil, Nat.reduceAdd]
 unfold maxLen at hm
 go_wp2_with fail
 refine (wgetbytes_b (l.drop nn) _ _ _ L w2 (by simpa [hcn] using hcut) (by simp) (by omega) (by unfold maxLen; omega) ⟨(W.decB (l.drop nn)).1.toArray⟩ (W.decB (l.drop nn)).2.1 (W.decB (l.drop nn)).2.2 rfl).mono ?_
 rintro e w3 ⟨rfl, k3⟩
 have hx3 := hx2.below k3
 have k5 := Lib.hid (Blw k4.out k3)
 clear k3 hx2 k4 hcut HO
 generalize (W.decB (l.drop nn)).2.2 = er at *
 generalize (W.decB (l.drop nn)).2.1 = mm at *
 generalize (W.decB (l.drop nn)).1 = xx at *
 have hd : (er == 0) = false := beq_eq_false_iff_ne.2 hE
 have hd2 : (er != 0) = true := by rw [bne, hd]; rfl
 clear hE
 obtain ⟨c0, c1, c2, z0, z1⟩ := f3 hx3
 go_wp2
 have hz := ((hx3.set_ 0 (.int .i64 0)).set_ 1 (.int .i64 0)).set_ 2 (.slice none 0 0)
 obtain ⟨d0, d1, d2, -, -⟩ := f3 hz
 refine bodyPost_ret (v := .tuple #[.agg #[.int .i64 0, .int .i64 0, .slice none 0 0], .bool false]) (by simp [results, Try.results36, go_sem, d0, d1, d2]) rfl ⟨_, _, _, rfl, rfl, rfl, rfl, ((k5.out.setCell (Nat.le_refl _) _).setCell (Nat.le_refl _) _).setCell (Nat.le_refl _) _⟩
set_option maxRecDepth 100000 in
theorem read_f2c (A : Option Addr) (N L : Nat) (l : List UInt8) (w : World) (hr : Rd w L A (W.bc l)) (hL : L ≤ w.heap.size) (hN : N = l.length) (hm : N ≤ maxLen) (hl : N ≤ 4398046511104) (p q : Int) (hI : W.decI l = ([p, q], N, 0)) (hE : (W.decB []).2.2 ≠ 0) :
  Calls Try.prog 36 #[.slice A N N] w (RRn w) := by
 have HR := Lib.hid hr; clear hr
 have HN := Lib.hid hN; clear hN
 go_enter Try.func36, Try.ntmps36
 go_wp2_with fail
 generalize hW1 : w.alloc (.cells _ 68) = w1
 obtain ⟨hx, k0⟩ := box1 hW1
 have hR1 := HR.out.below k0 hL
 have hL1 : L ≤ w1.heap.size := Nat.le_trans hL k0.size
 refine (wgetints_any l A N N L w1 hR1 hL1 HN.out (Nat.le_refl _) hm hl).mono ?_
 rintro e w2 ⟨v1, rfl, hown, k2⟩
 have hx2 := hx.below k2
 have k4 := Lib.hid (Blw k0 k2)
 clear hW1 hx k0 HR hR1 k2
 rw [hI] at hown ⊢
 obtain ⟨g, k1, rfl, -⟩ := own_pos hown (by simp)
 have HI := Lib.hid hI; clear hI hown
 simp only [List.length_cons, List.length_nil, Nat.reduceAdd]
 unfold maxLen at hm
 go_wp2_with fail
 refine (wgetbytes_b [] _ _ _ L w2 (Rd.nil _ _ _) (by simp) (by omega) (by decide) ⟨(W.decB []).1.toArray⟩ (W.decB []).2.1 (W.decB []).2.2 rfl).mono ?_
 rintro e w3 ⟨rfl, k3⟩
 have hx3 := hx2.below k3
 have k5 := Lib.hid (Blw k4.out k3)
 clear k3 hx2 k4
 generalize (W.decB []).2.2 = er at *
 generalize (W.decB []).2.1 = mm at *
 generalize (W.decB []).1 = xx at *
 have hd : (er == 0) = false := beq_eq_false_iff_ne.2 hE
 have hd2 : (er != 0) = true := by rw [bne, hd]; rfl
 clear hE
 obtain ⟨c0, c1, c2, z0, z1⟩ := f3 hx3
 go_wp2
 have hz := ((hx3.set_ 0 (.int .i64 0)).set_ 1 (.int .i64 0)).set_ 2 (.slice none 0 0)
 obtain ⟨d0, d1, d2, -, -⟩ := f3 hz
 refine bodyPost_ret (v := .tuple #[.agg #[.int .i64 0, .int .i64 0, .slice none 0 0], .bool false]) (by simp [results, Try.results36, go_sem, d0, d1, d2]) rfl ⟨_, _, _, rfl, rfl, rfl, rfl, ((k5.out.setCell (Nat.le_refl _) _).setCell (Nat.le_refl _) _).setCell (Nat.le_refl _) _⟩
set_option maxRecDepth 100000 in
theorem read_f2b (A : Option Addr) (c L : Nat) (l : List UInt8) (w : World) (hr : Rd w L A (W.bc l)) (hL : L ≤ w.heap.size) (hc : l.length ≤ c) (hm : c ≤ maxLen) (hl : l.length ≤ 4398046511104) (p q : Int) (nn : Nat) (hI : W.decI l = ([p, q], nn, 0)) (s : List UInt8) (mm : Nat) (hJ : W.decB (l.drop nn) = (s, mm, 0)) (hcn : ¬ c = nn) (hE : nn + mm ≠ l.length) :
  Calls Try.prog 36 #[.slice A l.length c] w (RRn w) := by
 have HR := Lib.hid hr; clear hr
 go_enter Try.func36, Try.ntmps36
 go_wp2_with fail
 generalize hW1 : w.alloc (.cells _ 68) = w1
 obtain ⟨hx, k2⟩ := box1 hW1
 have hR1 := HR.out.below k2 hL
 have hL1 : L ≤ w1.heap.size := Nat.le_trans hL k2.size
 refine (wgetints_any l A l.length c L w1 hR1 hL1 rfl hc hm hl).mono ?_
 rintro e w2 ⟨v1, rfl, hown, k0⟩
 have hx2 := hx.below k0
 have hR2 := Lib.hid (hR1.below k0 hL1)
 have k4 := Lib.hid (Blw k2 k0)
 have hL2 : L ≤ w2.heap.size := Nat.le_trans hL1 k0.size
 clear hW1 hx k2 HR hR1 k0
 rw [hI] at hown ⊢
 have hcan := W.decL_canon W.codec_int l (by show (W.decI l).2.2 = 0; rw [hI])
 change (∀ x ∈ (W.decI l).1, W.Is64 x) ∧ (W.decI l).2.1 ≤ l.length ∧ _ at hcan
 rw [hI] at hcan
 have hnl : nn ≤ l.length := hcan.2.1
 clear hcan
 obtain ⟨g, k1, rfl, -⟩ := own_pos hown (by simp)
 have hown2 : w2.ownsRow w1.heap.size 3 1 (.slice (some ⟨g, 0, none⟩) 2 k1) 2 (ic [p, q]) := hown
 have HO := Lib.hid hown2; clear hown hown2
 have hcut := HR2c hR2.out hL2 hc nn
 have HI := Lib.hid hI; clear hI
 simp only [List.length_cons, List.length_nil, Nat.reduceAdd]
 unfold maxLen at hm
 have hcan := W.decB_canon (l.drop nn) (by rw [hJ])
 rw [hJ] at hcan
 have hml : mm ≤ (l.drop nn).length := hcan.2.1
 rw [List.length_drop] at hml
 clear hcan
 have hT : W.decT (l.drop nn) = (⟨s.toArray⟩, mm, 0) := by unfold W.decT; rw [hJ]
 have HT := Lib.hid hT; clear hT
 have HJ := Lib.hid hJ; clear hJ
 go_wp2_with fail
 refine (wgetbytes_b (l.drop nn) _ _ _ L w2 (by simpa [hcn] using hcut) (by simp) (by omega) (by unfold maxLen; omega) _ _ _ HT.out).mono ?_
 rintro e w3 ⟨rfl, k3⟩
 have hx3 := hx2.below k3
 have k5 := Lib.hid (Blw k4.out k3)
 clear k3 hx2 k4 hcut HO
 have hd : ((nn : Int) + (mm : Int) == (l.length : Int)) = false := beq_eq_false_iff_ne.2 (by omega)
 have hd2 : ((nn : Int) + (mm : Int) != (l.length : Int)) = true := by rw [bne, hd]; rfl
 clear hE
 obtain ⟨c0, c1, c2, z0, z1⟩ := f3 hx3
 go_wp2
 have hz := ((hx3.set_ 0 (.int .i64 0)).set_ 1 (.int .i64 0)).set_ 2 (.slice none 0 0)
 obtain ⟨d0, d1, d2, -, -⟩ := f3 hz
 refine bodyPost_ret (v := .tuple #[.agg #[.int .i64 0, .int .i64 0, .slice none 0 0], .bool false]) (by simp [results, Try.results36, go_sem, d0, d1, d2]) rfl ⟨_, _, _, rfl, rfl, rfl, rfl, ((k5.out.setCell (Nat.le_refl _) _).setCell (Nat.le_refl _) _).setCell (Nat.le_refl _) _⟩
end Go.Proofs.Ytgdibcgphjmofaa
namespace Go.Proofs.Ytgdibcgphjmofaa
set_option maxHeartbeats 400000
open Go.RowKit
set_option linter.unusedVariables false
/-- The bytes of a string, as a row of their own. -/
theorem bv_conv (w : World) (s : List UInt8) (cap : Nat) (fr : Nat × Nat) (h1 : s.length ≤ cap) (h2 : cap ≤ maxLen) : BV (w.alloc (.cells (bytesRow ⟨s.toArray⟩ cap) 5 fr)) (.slice (some ⟨w.heap.size, 0, none⟩) s.length cap) s := by
 have hb : (w.alloc (.cells (bytesRow ⟨s.toArray⟩ cap) 5 fr)).heap[w.heap.size]? = some (.cells (bytesRow ⟨s.toArray⟩ cap) 5 fr) := heap_alloc_new w _
 refine ⟨_, cap, rfl, h1, h2, fun _ => ⟨w.heap.size, 0, rfl, by simp, fun j u hu => ?_⟩, fun _ => ⟨w.heap.size, 0, _, _, rfl, hb⟩⟩
 rw [Nat.zero_add, cell_of_row _ _ _ _ _ _ hb]
 have hj := (List.getElem?_eq_some_iff.1 hu).1
 rw [W.bc_length] at hj
 rw [W.bc_get s j hj] at hu
 rw [← hu]
 unfold bytesRow
 rw [Array.getElem?_append_left (by simpa using hj)]
 simp [hj]
section
variable {o : Oper} {a : Act} {wx : World} {x y z : Operand}
theorem op_conv {s : List UInt8} (ho : o.op = .convert 9 33 x) (he : a.eval x = .string ⟨s.toArray⟩) (hs : s.length ≤ 4611686018427387904) : Does Try.prog o (SY s) false a wx := by
 have hr := run_bytes_of_string (P := Try.prog) wx 9 33 5 ⟨s.toArray⟩ Try.underlying9 Try.underlying33 Try.underlying5
 have hz : (⟨s.toArray⟩ : ByteArray).size = s.length := by simp [ByteArray.size]
 rw [hz] at hr
 have hg := grownCap_ge wx s.length 0 5
 have hm := grownCap_le_maxLen wx s.length 0 5 (by unfold maxLen; omega)
 have h : ∀ ρ : Operand → Value, ρ x = .string ⟨s.toArray⟩ → (execOp ρ o).run Try.prog wx = .ok (.value (.slice (some ⟨wx.heap.size, 0, none⟩) s.length (grownCap wx s.length 0 5))) (wx.drew.alloc (.cells (bytesRow ⟨s.toArray⟩ (grownCap wx s.length 0 5)) 5 ((bytesRow ⟨s.toArray⟩ (grownCap wx s.length 0 5)).size, (bytesRow ⟨s.toArray⟩ (grownCap wx s.length 0 5)).size + 1))) := by
  intro ρ e; simp only [execOp, ho, e, Sem.run_bind, hr, Result.andThen_ok, Sem.run_pure]
 exact .inl ⟨_, _, h _ he, (Below.refl _ _).drew.alloc (Nat.le_refl _) _, bv_conv wx.drew s _ _ hg hm, fun h => by cases h⟩
/-- A packet, in a region. -/
def SPk (p q : Int) (s : List UInt8) : Sp := fun w v => ∃ u, v = .agg #[.int .i64 p, .int .i64 q, u] ∧ BV w u s
theorem SPk.mono (p q : Int) (s : List UInt8) : Mono (SPk p q s) := fun _ _ _ ⟨u, h1, h2⟩ hb => ⟨u, h1, h2.below hb⟩
theorem op_pk {p q : Int} {s : List UInt8} (ho : o.op = .build 68 #[(0, x), (1, y), (2, z)]) (hx : a.eval x = .int .i64 p) (hy : a.eval y = .int .i64 q) (hz : SY s wx (a.eval z)) : Does Try.prog o (SPk p q s) false a wx := by
 obtain ⟨A, c, e3, r⟩ := hz
 have h : ∀ ρ : Operand → Value, ρ x = .int .i64 p → ρ y = .int .i64 q → ρ z = .slice A s.length c → (execOp ρ o).run Try.prog wx = .ok (.value (.agg #[.int .i64 p, .int .i64 q, .slice A s.length c])) wx := by
  intro ρ e1 e2 e3; simp [execOp, ho, e1, e2, e3, go_sem]
 exact Does.val (h _ hx hy e3) ⟨_, rfl, A, c, rfl, r⟩
end
/-- What read ends in, where there are numbers and bytes. -/
def RRg (g : Bool) (p q : Int) (s : List UInt8) (w : World) (e : Ending) (w' : World) : Prop := ∃ v, e = .returned (.tuple #[.agg #[.int .i64 p, .int .i64 q, v], .bool g]) ∧ BV w' v s ∧ Below w.heap.size w w'
theorem read_cells {w3 wx : World} {g : Nat} {p q : Int} (hc : ∀ j u, (ic [p, q])[j]? = some u → w3.cell? ((⟨g, 0, none⟩ : Addr).add j) = some u) (hg : g < w3.heap.size) (h : Below w3.heap.size w3 wx) : wx.cell? ⟨g, 0, none⟩ = some (.int .i64 p) ∧ wx.cell? ⟨g, 1, none⟩ = some (.int .i64 q) := by
 have h0 := hc 0 _ rfl
 have h1 := hc 1 _ rfl
 rw [Addr.add_lit] at h0 h1
 exact ⟨(h.cell (p := ⟨g, 0, none⟩) hg).trans h0, (h.cell (p := ⟨g, 1, none⟩) hg).trans h1⟩
set_option maxRecDepth 100000 in
theorem read_g (A : Option Addr) (c L : Nat) (l : List UInt8) (w : World) (hr : Rd w L A (W.bc l)) (hL : L ≤ w.heap.size) (hc : l.length ≤ c) (hm : c ≤ maxLen) (hl : l.length ≤ 4398046511104) (p q : Int) (nn : Nat) (hI : W.decI l = ([p, q], nn, 0)) (s : List UInt8) (mm : Nat) (hJ : W.decB (l.drop nn) = (s, mm, 0)) (hcn : ¬ c = nn) (hE : nn + mm = l.length) (okg : Bool)
  (hV : ∀ (A : Option Addr) (c : Nat) (w : World), Calls Try.prog 48 #[.agg #[.int .i64 p, .int .i64 q, .slice A s.length c]] w (fun e w' => e = .returned (.bool okg) ∧ Below w.heap.size w w')) :
  Calls Try.prog 36 #[.slice A l.length c] w (RRg okg p q s w) := by
 have HR := Lib.hid hr; clear hr
 have HV := Lib.hid hV; clear hV
 go_enter Try.func36, Try.ntmps36
 go_wp2_with fail
 generalize hW1 : w.alloc (.cells _ 68) = w1
 obtain ⟨hx, k6⟩ := box1 hW1
 have hR1 := HR.out.below k6 hL
 have hL1 : L ≤ w1.heap.size := Nat.le_trans hL k6.size
 refine (wgetints_any l A l.length c L w1 hR1 hL1 rfl hc hm hl).mono ?_
 rintro e w2 ⟨v1, rfl, hown, k4⟩
 have hx2 := hx.below k4
 have hR2 := Lib.hid (hR1.below k4 hL1)
 have k8 := Lib.hid (Blw k6 k4)
 have hL2 : L ≤ w2.heap.size := Nat.le_trans hL1 k4.size
 clear hW1 hx k6 HR hR1 k4
 rw [hI] at hown ⊢
 have hcan := W.decL_canon W.codec_int l (by show (W.decI l).2.2 = 0; rw [hI])
 change (∀ x ∈ (W.decI l).1, W.Is64 x) ∧ (W.decI l).2.1 ≤ l.length ∧ _ at hcan
 rw [hI] at hcan
 have hnl : nn ≤ l.length := hcan.2.1
 clear hcan
 obtain ⟨g, k1, rfl, -⟩ := own_pos hown (by simp)
 have hown2 : w2.ownsRow w1.heap.size 3 1 (.slice (some ⟨g, 0, none⟩) 2 k1) 2 (ic [p, q]) := hown
 have HO := Lib.hid hown2; clear hown hown2
 have hcut := HR2c hR2.out hL2 hc nn
 have HI := Lib.hid hI; clear hI
 simp only [List.length_cons, List.length_nil, Nat.reduceAdd]
 unfold maxLen at hm
 have hcan := W.decB_canon (l.drop nn) (by rw [hJ])
 rw [hJ] at hcan
 have hml : mm ≤ (l.drop nn).length := hcan.2.1
 rw [List.length_drop] at hml
 have hsl : s.length ≤ 4611686018427387904 := by
  have h1 := congrArg List.length hcan.2.2
  simp [W.encB] at h1
  omega
 clear hcan
 have hT : W.decT (l.drop nn) = (⟨s.toArray⟩, mm, 0) := by unfold W.decT; rw [hJ]
 have HT := Lib.hid hT; clear hT
 have HJ := Lib.hid hJ; clear hJ
 go_wp2_with fail
 refine (wgetbytes_b (l.drop nn) _ _ _ L w2 (by simpa [hcn] using hcut) (by simp) (by omega) (by unfold maxLen; omega) _ _ _ HT.out).mono ?_
 rintro e w3 ⟨rfl, k5⟩
 have hx3 := hx2.below k5
 have k7 := Lib.hid (Blw k8.out k5)
 have k9 := own_cells (own_below HO.out k5)
 have HC := Lib.hid (fun (wx : World) (h : Below w3.heap.size w3 wx) => read_cells k9 ((own_below HO.out k5).lt g rfl).2 h)
 clear k5 hx2 k8 hcut HO k9
 have hd : ((nn : Int) + (mm : Int) == (l.length : Int)) = true := beq_iff_eq.2 (by omega)
 have hd2 : ((nn : Int) + (mm : Int) != (l.length : Int)) = false := by rw [bne, hd]; rfl
 have HE := Lib.hid hE; clear hE
 go_upto_region 7 with fail
 generalize hW_7 : w3.drew = W_7
 refine gen_act ?_
 intro F_ hF_
 have ev4 : F_.eval (.tmp 4) = .slice (some ⟨g, 0, none⟩) 2 k1 := by rw [← hF_]; rfl
 have ev7 : F_.eval (.tmp 7) = .string ⟨s.toArray⟩ := by rw [← hF_]; rfl
 have hsz_ : ∀ d ∈ ([(43, []), (44, [0]), (45, [1]), (46, []), (47, [3]), (48, [4]), (49, []), (50, [6]), (51, [2, 5, 7]), (9, [])] : List (Nat × List Nat)).map (·.1), d < F_.tmps.size := by rw [← hF_]; simp
 have HF_ := Lib.hid hF_; clear hF_
 refine wp_flow_tab true hW_7 10 [(43, []), (44, [0]), (45, [1]), (46, []), (47, [3]), (48, [4]), (49, []), (50, [6]), (51, [2, 5, 7]), (9, [])] [SC (.slice (some ⟨g, 0, none⟩) 2 k1), SC (.pointer (some ⟨g, 0, none⟩)), SC (.int .i64 p), SC (.slice (some ⟨g, 0, none⟩) 2 k1), SC (.pointer (some ⟨g, 1, none⟩)), SC (.int .i64 q), SC (.string ⟨s.toArray⟩), SY s, SPk p q s, SB W_7 68 [.int .i64 0, .int .i64 0, .slice none 0 0]] [false, false, false, false, false, false, false, false, false, true] (by kernel_rfl) (by kernel_rfl) (by kernel_rfl) (by kernel_rfl) (by kernel_rfl) hsz_ ⟨SC.mono _, SC.mono _, SC.mono _, SC.mono _, SC.mono _, SC.mono _, SC.mono _, SY.mono _, SPk.mono _ _ _, SB.mono _ _ _, trivial⟩ ?_ ?_
 ·intro kq hkq a wx hB hp hs
  have hBo : Below w3.heap.size w3 wx := dB hW_7 hB
  have hcase : kq = 0 ∨ kq = 1 ∨ kq = 2 ∨ kq = 3 ∨ kq = 4 ∨ kq = 5 ∨ kq = 6 ∨ kq = 7 ∨ kq = 8 ∨ kq = 9 := by omega
  rcases hcase with rfl | rfl | rfl | rfl | rfl | rfl | rfl | rfl | rfl | rfl
  ·clear hp
   exact ⟨_, rfl, op_mv (s := SC _) rfl ((hs 4 rfl).trans ev4)⟩
  ·obtain ⟨k2, -⟩ := hp
   have e0 : a.eval (.tmp 43) = .slice (some ⟨g, 0, none⟩) 2 k1 := k2
   simp [Act.eval] at e0
   exact ⟨_, rfl, Does.val (by simp [execOp, Act.eval, e0, go_sem]) rfl⟩
  ·obtain ⟨k2, -⟩ := hp
   obtain ⟨q0, q1⟩ := HC.out wx hBo
   have e0 : a.eval (.tmp 44) = .pointer (some ⟨g, 0, none⟩) := k2
   simp [Act.eval] at e0
   exact ⟨_, rfl, Does.val (by simp [execOp, Act.eval, e0, go_sem, q0]) rfl⟩
  ·clear hp
   exact ⟨_, rfl, op_mv (s := SC _) rfl ((hs 4 rfl).trans ev4)⟩
  ·obtain ⟨k2, -⟩ := hp
   have e0 : a.eval (.tmp 46) = .slice (some ⟨g, 0, none⟩) 2 k1 := k2
   simp [Act.eval] at e0
   exact ⟨_, rfl, Does.val (by simp [execOp, Act.eval, e0, go_sem, Addr.add_lit]) rfl⟩
  ·obtain ⟨k2, -⟩ := hp
   obtain ⟨q0, q1⟩ := HC.out wx hBo
   have e0 : a.eval (.tmp 47) = .pointer (some ⟨g, 1, none⟩) := k2
   simp [Act.eval] at e0
   exact ⟨_, rfl, Does.val (by simp [execOp, Act.eval, e0, go_sem, q1]) rfl⟩
  ·clear hp
   exact ⟨_, rfl, op_mv (s := SC _) rfl ((hs 7 rfl).trans ev7)⟩
  ·obtain ⟨k2, -⟩ := hp
   exact ⟨_, rfl, op_conv rfl k2 hsl⟩
  ·obtain ⟨k2, kc, kd, -⟩ := hp
   exact ⟨_, rfl, op_pk rfl k2 kc kd⟩
  ·clear hp
   exact ⟨_, rfl, Does.box (by simp [execOp, go_sem]) hB⟩
 ·intro val wx hB hsp hdis
  have hBo : Below w3.heap.size w3 wx := dB hW_7 hB
  obtain ⟨u8, e8, h8⟩ := hsp 8 (by omega)
  obtain ⟨g9, e9, hg9, hx9⟩ := hsp 9 (by omega)
  rw [← hW_7] at hg9; replace hg9 : w3.heap.size ≤ g9 := hg9
  rw [← HF_.out]
  change wpList _ _ _ [_] _ _
  simp only [puts_consT, puts_nilm, vals, List.map_cons, List.map_nil, Nat.zero_add, Nat.reduceAdd, e8, e9, List.setIfInBounds_toArray, List.set_cons_succ, List.set_cons_zero]
  clear hsp hdis HF_ hsz_ hB hW_7 e8 e9 ev4 ev7
  have HB := Lib.hid (Blw k7.out hBo)
  have hx0 := hx3.below hBo
  obtain ⟨A8, c8, rfl, hr8⟩ := h8
  have H8 := Lib.hid hr8
  have hgz : w.heap.size ≤ g9 := by have := k7.out.size; omega
  have hg0 := hx0.lt
  have hne : w.heap.size ≠ g9 := by have := hx3.lt; omega
  clear hBo hx3 hr8 k7 HC hg9
  obtain ⟨c0, c1, c2, z0, z1⟩ := f3 hx9
  go_wp2_with fail
  generalize hW9 : ((wx.setCell _ _).setCell _ _).setCell _ _ = W9
  have hk9 : KB wx W9 := by
   rw [← hW9]
   exact (((KB.refl _).set_ hx9 (by decide) _).set_ (hx9.set_ 0 (.int .i64 p)) (by decide) _).set_ ((hx9.set_ 0 (.int .i64 p)).set_ 1 (.int .i64 q)) (by decide) _
  have y9 : Bx W9 g9 68 [.int .i64 p, .int .i64 q, .slice A8 s.length c8] := by
   rw [← hW9]
   exact ((hx9.set_ 0 (.int .i64 p)).set_ 1 (.int .i64 q)).set_ 2 _
  have y0 : Bx W9 w.heap.size 68 [.int .i64 0, .int .i64 0, .slice none 0 0] := by
   rw [← hW9]
   exact ((hx0.far_ hne _).far_ hne _).far_ hne _
  have kf : Hid (Below w.heap.size w W9) := by
   rw [← hW9]
   exact Lib.hid (((HB.out.setCell hgz _).setCell hgz _).setCell hgz _)
  have H9 : Hid (BV W9 (.slice A8 s.length c8) s) := Lib.hid (BV.kb ⟨A8, c8, rfl, H8.out⟩ hk9)
  clear hk9 hW9 hx9 hx0 HB H8 c0 c1 c2 z0 z1
  obtain ⟨c0, c1, c2, z0, z1⟩ := f3 y9
  obtain ⟨d0, d1, d2, z2, z3⟩ := f3 y0
  go_region_with ((go_at_call 48; (with_reducible refine (HV.out _ _ _).mono ?_); rintro e w5 ⟨rfl, k3⟩; have e0 := (k3.cell (p := ⟨g9, 0, none⟩) z1).trans c0; have e1 := (k3.cell (p := ⟨g9, 1, none⟩) z1).trans c1; have e2 := (k3.cell (p := ⟨g9, 2, none⟩) z1).trans c2; have f0 := (k3.cell (p := ⟨w.heap.size, 0, none⟩) z3).trans d0; have f1 := (k3.cell (p := ⟨w.heap.size, 1, none⟩) z3).trans d1; have f2 := (k3.cell (p := ⟨w.heap.size, 2, none⟩) z3).trans d2; have k0 := fun i => (k3.frozen (p := ⟨w.heap.size, i, none⟩) z3).trans (z2 i); have kg := Lib.hid k3; clear k3))
  all_goals
   go_wp2
   have hb := bdDl kg.out
   have yz := y0.below hb
   have hz := ((yz.set_ 0 (.int .i64 p)).set_ 1 (.int .i64 q)).set_ 2 (.slice A8 s.length c8)
   have hk : KB w5 (((w5.setCell ⟨w.heap.size, 0, none⟩ (.int .i64 p)).setCell ⟨w.heap.size, 1, none⟩ (.int .i64 q)).setCell ⟨w.heap.size, 2, none⟩ (.slice A8 s.length c8)) := (((KB.refl _).set_ yz (by decide) _).set_ (yz.set_ 0 (.int .i64 p)) (by decide) _).set_ ((yz.set_ 0 (.int .i64 p)).set_ 1 (.int .i64 q)) (by decide) _
   obtain ⟨r0, r1, r2, -, -⟩ := f3 hz
   refine bodyPost_ret (v := .tuple #[.agg #[.int .i64 p, .int .i64 q, .slice A8 s.length c8], .bool okg]) (by simp [results, Try.results36, go_sem, r0, r1, r2]) rfl ⟨_, rfl, (H9.out.below hb).kb hk, ?_⟩
   exact (((Blw kf.out hb).setCell (Nat.le_refl _) _).setCell (Nat.le_refl _) _).setCell (Nat.le_refl _) _
theorem RRg.yes {p q : Int} {s : List UInt8} {w w' : World} {e : Ending} (h : RRg true p q s w e w') : RRd (some (p, q, s)) w e w' := h
theorem RRg.no {p q : Int} {s : List UInt8} {w w' : World} {e : Ending} (h : RRg false p q s w e w') : RRd none w e w' := by
 obtain ⟨v, h1, h2, h3⟩ := h
 exact ⟨_, _, _, h1, rfl, rfl, h2.one, h3⟩
/-- link.read. -/
theorem read_any (A : Option Addr) (c L : Nat) (l : List UInt8) (w : World) (hr : Rd w L A (W.bc l)) (hL : L ≤ w.heap.size) (hc : l.length ≤ c) (hm : c ≤ maxLen) (hl : l.length ≤ 4398046511104) :
  Calls Try.prog 36 #[.slice A l.length c] w (RRd (K.read l) w) := by
 rcases hI : W.decI l with ⟨li, nn, er⟩
 by_cases h0 : er = 0
 ·subst h0
  by_cases h2 : li.length = 2
  ·obtain ⟨p, q, rfl⟩ : ∃ p q, li = [p, q] := by
    match li, h2 with
    | [p, q], _ => exact ⟨p, q, rfl⟩
   have hcan := W.decL_canon W.codec_int l (by show (W.decI l).2.2 = 0; rw [hI])
   change (∀ x ∈ (W.decI l).1, W.Is64 x) ∧ (W.decI l).2.1 ≤ l.length ∧ _ at hcan
   rw [hI] at hcan
   have hnl : nn ≤ l.length := hcan.2.1
   rcases hJ : W.decB (l.drop nn) with ⟨s, mm, e2⟩
   have hrd := K.read_eq hI hJ
   by_cases h3 : e2 = 0
   ·subst h3
    have hcb := W.decB_canon (l.drop nn) (by rw [hJ])
    rw [hJ] at hcb
    have hcn : ¬ c = nn := by
     intro h
     have h1 : l.drop nn = [] := List.drop_eq_nil_of_le (by omega)
     have h2 := congrArg List.length hcb.2.2
     rw [h1] at h2
     simp [W.encB] at h2
     have := (W.enc_le (s.length : Int)).1
     omega
    by_cases h4 : nn + mm = l.length
    ·by_cases h5 : K.okP p q s.length
     ·rw [hrd, if_pos ⟨rfl, h4, h5⟩]
      exact (read_g A c L l w hr hL hc hm hl p q nn hI s mm hJ hcn h4 true (fun A c w => pvalid_yes p q A s.length c w h5)).mono fun _ _ h => h.yes
     ·rw [hrd, if_neg (fun h => h5 h.2.2)]
      exact (read_g A c L l w hr hL hc hm hl p q nn hI s mm hJ hcn h4 false (fun A c w => pvalid_no p q A s.length c w h5)).mono fun _ _ h => h.no
    ·rw [hrd, if_neg (fun h => h4 h.2.1)]
     exact read_f2b A c L l w hr hL hc hm hl p q nn hI s mm hJ hcn h4
   ·rw [hrd, if_neg (fun h => h3 h.1)]
    by_cases hcn : c = nn
    ·have hN : c = l.length := by omega
     subst hcn
     have h1 : l.drop c = [] := List.drop_eq_nil_of_le (by omega)
     rw [h1] at hJ
     have h6 := read_f2c A c L l w hr hL hN hm (by omega) p q hI (by rw [hJ]; exact h3)
     rw [← hN]
     exact h6
    ·exact read_f2 A c L l w hr hL hc hm hl p q nn hI hcn (by rw [hJ]; exact h3)
  ·have hn : K.read l = none := by
    unfold K.read
    rw [hI, if_pos rfl]
    split
    ·rename_i h; exact absurd (by rw [show li = _ from h]; rfl) h2
    ·rfl
   rw [hn]
   exact read_f1b A c L l w hr hL hc hm hl (by rw [hI]) (by rw [hI]; exact h2)
 ·have hn : K.read l = none := by
   unfold K.read
   rw [hI, if_neg h0]
  rw [hn]
  exact read_f1 A c L l w hr hL hc hm hl (by rw [hI]; exact h0)
end Go.Proofs.Ytgdibcgphjmofaa
