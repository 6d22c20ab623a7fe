/-
 THE WALK of link.read.
-/
import Derived.Test.YtgdibcgphjmofaaLnkK
namespace Go.Proofs.Ytgdibcgphjmofaa
set_option maxHeartbeats 400000
open Go.RowKit
set_option linter.unusedVariables false
instance (p q : Int) (n : Nat) : Decidable (K.okP p q n) := by unfold K.okP; infer_instance
/-- The packet that bytes are. -/
def K.read (l : List UInt8) : Option (Int × Int × List UInt8) := if (W.decI l).2.2 = 0 then match (W.decI l).1 with
 | [p, q] => if (W.decB (l.drop (W.decI l).2.1)).2.2 = 0 ∧ (W.decI l).2.1 + (W.decB (l.drop (W.decI l).2.1)).2.1 = l.length ∧ K.okP p q (W.decB (l.drop (W.decI l).2.1)).1.length then some (p, q, (W.decB (l.drop (W.decI l).2.1)).1) else none
 | _ => none
 else none
theorem K.read_eq {l : List UInt8} {p q : Int} {nn mm : Nat} {s : List UInt8} {e : Int} (h1 : W.decI l = ([p, q], nn, 0)) (h2 : W.decB (l.drop nn) = (s, mm, e)) : K.read l = if e = 0 ∧ nn + mm = l.length ∧ K.okP p q s.length then some (p, q, s) else none := by
 unfold K.read
 rw [h1]
 simp only [if_true]
 rw [h2]
/-- What returns a packet, and whether there is one. -/
def RRd (r : Option (Int × Int × List UInt8)) (w : World) (e : Ending) (w' : World) : Prop := match r with
 | none => ∃ u0 u1 u2, e = .returned (.tuple #[.agg #[u0, u1, u2], .bool false]) ∧ u0.oneCell' = true ∧ u1.oneCell' = true ∧ u2.oneCell' = true ∧ Below w.heap.size w w'
 | some (p, q, s) => ∃ v, e = .returned (.tuple #[.agg #[.int .i64 p, .int .i64 q, v], .bool true]) ∧ BV w' v s ∧ Below w.heap.size w w'
def RRn (w : World) (e : Ending) (w' : World) : Prop := RRd none w e w'
theorem f3 {w : World} {g T : Nat} {z0 z1 z2 : Value} {m : List Value} (h : Bx w g T (z0 :: z1 :: z2 :: m)) : w.cell? ⟨g, 0, none⟩ = some z0 ∧ w.cell? ⟨g, 1, none⟩ = some z1 ∧ w.cell? ⟨g, 2, none⟩ = some z2 ∧ (∀ i, w.frozen? ⟨g, i, none⟩ = false) ∧ g < w.heap.size := ⟨h.cell rfl, h.cell rfl, h.cell rfl, h.frozen, h.lt⟩
set_option maxRecDepth 100000 in
theorem read_f1 (A : Option Addr) (c L : Nat) (l : List UInt8) (w : World) (hr : Rd w L A (W.bc l)) (hL : L ≤ w.heap.size) (hc : l.length ≤ c) (hm : c ≤ maxLen) (hl : l.length ≤ 4398046511104) (hE : (W.decI l).2.2 ≠ 0) :
  Calls Try.prog 36 #[.slice A l.length c] w (RRn w) := by
 have HR := Lib.hid hr; clear hr
 go_enter Try.func36, Try.ntmps36
 go_wp2_with fail
 generalize hW1 : w.alloc (.cells _ 68) = w1
 obtain ⟨hx, k1⟩ := box1 hW1
 have hR1 := HR.out.below k1 hL
 have hL1 : L ≤ w1.heap.size := Nat.le_trans hL k1.size
 refine (wgetints_any l A l.length c L w1 hR1 hL1 rfl hc hm hl).mono ?_
 rintro e w2 ⟨v1, rfl, hown, k0⟩
 have hx2 := hx.below k0
 have hR2 := Lib.hid (hR1.below k0 hL1)
 have k2 := Lib.hid (Blw k1 k0)
 have hL2 : L ≤ w2.heap.size := Nat.le_trans hL1 k0.size
 clear hW1 hx k1 HR hR1 k0
 generalize (W.decI l).2.2 = er at *
 generalize (W.decI l).2.1 = nn at *
 generalize (W.decI l).1 = li at *
 have hd : (er == 0) = false := beq_eq_false_iff_ne.2 hE
 have hd2 : (er != 0) = true := by rw [bne, hd]; rfl
 clear hE
 obtain ⟨c0, c1, c2, z0, z1⟩ := f3 hx2
 clear hown
 go_wp2
 have hz := ((hx2.set_ 0 (.int .i64 0)).set_ 1 (.int .i64 0)).set_ 2 (.slice none 0 0)
 obtain ⟨d0, d1, d2, -, -⟩ := f3 hz
 refine bodyPost_ret (v := .tuple #[.agg #[.int .i64 0, .int .i64 0, .slice none 0 0], .bool false]) (by simp [results, Try.results36, go_sem, d0, d1, d2]) rfl ⟨_, _, _, rfl, rfl, rfl, rfl, ((k2.out.setCell (Nat.le_refl _) _).setCell (Nat.le_refl _) _).setCell (Nat.le_refl _) _⟩
set_option maxRecDepth 100000 in
theorem read_f1b (A : Option Addr) (c L : Nat) (l : List UInt8) (w : World) (hr : Rd w L A (W.bc l)) (hL : L ≤ w.heap.size) (hc : l.length ≤ c) (hm : c ≤ maxLen) (hl : l.length ≤ 4398046511104) (hE : (W.decI l).2.2 = 0) (hn2 : (W.decI l).1.length ≠ 2) :
  Calls Try.prog 36 #[.slice A l.length c] w (RRn w) := by
 have HR := Lib.hid hr; clear hr
 go_enter Try.func36, Try.ntmps36
 go_wp2_with fail
 generalize hW1 : w.alloc (.cells _ 68) = w1
 obtain ⟨hx, k2⟩ := box1 hW1
 have hR1 := HR.out.below k2 hL
 have hL1 : L ≤ w1.heap.size := Nat.le_trans hL k2.size
 refine (wgetints_any l A l.length c L w1 hR1 hL1 rfl hc hm hl).mono ?_
 rintro e w2 ⟨v1, rfl, hown, k0⟩
 have hx2 := hx.below k0
 have hR2 := Lib.hid (hR1.below k0 hL1)
 have k3 := Lib.hid (Blw k2 k0)
 have hL2 : L ≤ w2.heap.size := Nat.le_trans hL1 k0.size
 clear hW1 hx k2 HR hR1 k0
 rw [hE]
 generalize (W.decI l).2.1 = nn at *
 generalize (W.decI l).1 = li at *
 clear hE
 obtain ⟨A1, k1, rfl, -⟩ := own_form hown
 generalize hN : li.length = N at *
 have hd : ((N : Int) == 2) = false := beq_eq_false_iff_ne.2 (by omega)
 have hd2 : ((N : Int) != 2) = true := by rw [bne, hd]; rfl
 have HN := Lib.hid hN
 clear hn2 hN hown
 obtain ⟨c0, c1, c2, z0, z1⟩ := f3 hx2
 go_wp2
 have hz := ((hx2.set_ 0 (.int .i64 0)).set_ 1 (.int .i64 0)).set_ 2 (.slice none 0 0)
 obtain ⟨d0, d1, d2, -, -⟩ := f3 hz
 refine bodyPost_ret (v := .tuple #[.agg #[.int .i64 0, .int .i64 0, .slice none 0 0], .bool false]) (by simp [results, Try.results36, go_sem, d0, d1, d2]) rfl ⟨_, _, _, rfl, rfl, rfl, rfl, ((k3.out.setCell (Nat.le_refl _) _).setCell (Nat.le_refl _) _).setCell (Nat.le_refl _) _⟩
theorem HR2c {w2 : World} {L c : Nat} {A : Option Addr} {l : List UInt8} (h : Rd w2 L A (W.bc l)) (hL : L ≤ w2.heap.size) (hc : l.length ≤ c) (nn : Nat) : Rd w2 L (if c = nn then A else A.map (·.add nn)) (W.bc (l.drop nn)) := by
 rw [← W.bc_drop]
 exact h.cut (k := nn) (cap := c) (by simpa using hc)
set_option maxRecDepth 100000 in
theorem read_f2 (A : Option Addr) (c L : Nat) (l : List UInt8) (w : World) (hr : Rd w L A (W.bc l)) (hL : L ≤ w.heap.size) (hc : l.length ≤ c) (hm : c ≤ maxLen) (hl : l.length ≤ 4398046511104) (p q : Int) (nn : Nat) (hI : W.decI l = ([p, q], nn, 0)) (hcn : ¬ c = nn) (hE : (W.decB (l.drop nn)).2.2 ≠ 0) :
  Calls Try.prog 36 #[.slice A l.length c] w (RRn w) := by
 have HR := Lib.hid hr; clear hr
 go_enter Try.func36, Try.ntmps36
 go_wp2_with fail
 generalize hW1 : w.alloc (.cells _ 68) = w1
 obtain ⟨hx, k2⟩ := box1 hW1
 have hR1 := HR.out.below k2 hL
 have hL1 : L ≤ w1.heap.size := Nat.le_trans hL k2.size
 refine (wgetints_any l A l.length c L w1 hR1 hL1 rfl hc hm hl).mono ?_
 rintro e w2 ⟨v1, rfl, hown, k0⟩
 have hx2 := hx.below k0
 have hR2 := Lib.hid (hR1.below k0 hL1)
 have k4 := Lib.hid (Blw k2 k0)
 have hL2 : L ≤ w2.heap.size := Nat.le_trans hL1 k0.size
 clear hW1 hx k2 HR hR1 k0
 rw [hI] at hown ⊢
 have hcan := W.decL_canon W.codec_int l (by show (W.decI l).2.2 = 0; rw [hI])
 change (∀ x ∈ (W.decI l).1, W.Is64 x) ∧ (W.decI l).2.1 ≤ l.length ∧ _ at hcan
 rw [hI] at hcan
 have hnl : nn ≤ l.length := hcan.2.1
 clear hcan
 obtain ⟨g, k1, rfl, -⟩ := own_pos hown (by simp)
 have hown2 : w2.ownsRow w1.heap.size 3 1 (.slice (some ⟨g, 0, none⟩) 2 k1) 2 (ic [p, q]) := hown
 have HO := Lib.hid hown2; clear hown hown2
 have hcut := HR2c hR2.out hL2 hc nn
 have HI := Lib.hid hI; clear hI
 simp only [List.length_cons, List.length_nil, Nat.reduceAdd]
 unfold maxLen at hm
 go_wp2_with fail
 refine (wgetbytes_b (l.drop nn) _ _ _ L w2 (by simpa [hcn] using hcut) (by simp) (by omega) (by unfold maxLen; omega) ⟨(W.decB (l.drop nn)).1.toArray⟩ (W.decB (l.drop nn)).2.1 (W.decB (l.drop nn)).2.2 rfl).mono ?_
 rintro e w3 ⟨rfl, k3⟩
 have hx3 := hx2.below k3
 have k5 := Lib.hid (Blw k4.out k3)
 clear k3 hx2 k4 hcut HO
 generalize (W.decB (l.drop nn)).2.2 = er at *
 generalize (W.decB (l.drop nn)).2.1 = mm at *
 generalize (W.decB (l.drop nn)).1 = xx at *
 have hd : (er == 0) = false := beq_eq_false_iff_ne.2 hE
 have hd2 : (er != 0) = true := by rw [bne, hd]; rfl
 clear hE
 obtain ⟨c0, c1, c2, z0, z1⟩ := f3 hx3
 go_wp2
 have hz := ((hx3.set_ 0 (.int .i64 0)).set_ 1 (.int .i64 0)).set_ 2 (.slice none 0 0)
 obtain ⟨d0, d1, d2, -, -⟩ := f3 hz
 refine bodyPost_ret (v := .tuple #[.agg #[.int .i64 0, .int .i64 0, .slice none 0 0], .bool false]) (by simp [results, Try.results36, go_sem, d0, d1, d2]) rfl ⟨_, _, _, rfl, rfl, rfl, rfl, ((k5.out.setCell (Nat.le_refl _) _).setCell (Nat.le_refl _) _).setCell (Nat.le_refl _) _⟩
set_option maxRecDepth 100000 in
theorem read_f2c (A : Option Addr) (N L : Nat) (l : List UInt8) (w : World) (hr : Rd w L A (W.bc l)) (hL : L ≤ w.heap.size) (hN : N = l.length) (hm : N ≤ maxLen) (hl : N ≤ 4398046511104) (p q : Int) (hI : W.decI l = ([p, q], N, 0)) (hE : (W.decB []).2.2 ≠ 0) :
  Calls Try.prog 36 #[.slice A N N] w (RRn w) := by
 have HR := Lib.hid hr; clear hr
 have HN := Lib.hid hN; clear hN
 go_enter Try.func36, Try.ntmps36
 go_wp2_with fail
 generalize hW1 : w.alloc (.cells _ 68) = w1
 obtain ⟨hx, k0⟩ := box1 hW1
 have hR1 := HR.out.below k0 hL
 have hL1 : L ≤ w1.heap.size := Nat.le_trans hL k0.size
 refine (wgetints_any l A N N L w1 hR1 hL1 HN.out (Nat.le_refl _) hm hl).mono ?_
 rintro e w2 ⟨v1, rfl, hown, k2⟩
 have hx2 := hx.below k2
 have k4 := Lib.hid (Blw k0 k2)
 clear hW1 hx k0 HR hR1 k2
 rw [hI] at hown ⊢
 obtain ⟨g, k1, rfl, -⟩ := own_pos hown (by simp)
 have HI := Lib.hid hI; clear hI hown
 simp only [List.length_cons, List.length_nil, Nat.reduceAdd]
 unfold maxLen at hm
 go_wp2_with fail
 refine (wgetbytes_b [] _ _ _ L w2 (Rd.nil _ _ _) (by simp) (by omega) (by decide) ⟨(W.decB []).1.toArray⟩ (W.decB []).2.1 (W.decB []).2.2 rfl).mono ?_
 rintro e w3 ⟨rfl, k3⟩
 have hx3 := hx2.below k3
 have k5 := Lib.hid (Blw k4.out k3)
 clear k3 hx2 k4
 generalize (W.decB []).2.2 = er at *
 generalize (W.decB []).2.1 = mm at *
 generalize (W.decB []).1 = xx at *
 have hd : (er == 0) = false := beq_eq_false_iff_ne.2 hE
 have hd2 : (er != 0) = true := by rw [bne, hd]; rfl
 clear hE
 obtain ⟨c0, c1, c2, z0, z1⟩ := f3 hx3
 go_wp2
 have hz := ((hx3.set_ 0 (.int .i64 0)).set_ 1 (.int .i64 0)).set_ 2 (.slice none 0 0)
 obtain ⟨d0, d1, d2, -, -⟩ := f3 hz
 refine bodyPost_ret (v := .tuple #[.agg #[.int .i64 0, .int .i64 0, .slice none 0 0], .bool false]) (by simp [results, Try.results36, go_sem, d0, d1, d2]) rfl ⟨_, _, _, rfl, rfl, rfl, rfl, ((k5.out.setCell (Nat.le_refl _) _).setCell (Nat.le_refl _) _).setCell (Nat.le_refl _) _⟩
set_option maxRecDepth 100000 in
theorem read_f2b (A : Option Addr) (c L : Nat) (l : List UInt8) (w : World) (hr : Rd w L A (W.bc l)) (hL : L ≤ w.heap.size) (hc : l.length ≤ c) (hm : c ≤ maxLen) (hl : l.length ≤ 4398046511104) (p q : Int) (nn : Nat) (hI : W.decI l = ([p, q], nn, 0)) (s : List UInt8) (mm : Nat) (hJ : W.decB (l.drop nn) = (s, mm, 0)) (hcn : ¬ c = nn) (hE : nn + mm ≠ l.length) :
  Calls Try.prog 36 #[.slice A l.length c] w (RRn w) := by
 have HR := Lib.hid hr; clear hr
 go_enter Try.func36, Try.ntmps36
 go_wp2_with fail
 generalize hW1 : w.alloc (.cells _ 68) = w1
 obtain ⟨hx, k2⟩ := box1 hW1
 have hR1 := HR.out.below k2 hL
 have hL1 : L ≤ w1.heap.size := Nat.le_trans hL k2.size
 refine (wgetints_any l A l.length c L w1 hR1 hL1 rfl hc hm hl).mono ?_
 rintro e w2 ⟨v1, rfl, hown, k0⟩
 have hx2 := hx.below k0
 have hR2 := Lib.hid (hR1.below k0 hL1)
 have k4 := Lib.hid (Blw k2 k0)
 have hL2 : L ≤ w2.heap.size := Nat.le_trans hL1 k0.size
 clear hW1 hx k2 HR hR1 k0
 rw [hI] at hown ⊢
 have hcan := W.decL_canon W.codec_int l (by show (W.decI l).2.2 = 0; rw [hI])
 change (∀ x ∈ (W.decI l).1, W.Is64 x) ∧ (W.decI l).2.1 ≤ l.length ∧ _ at hcan
 rw [hI] at hcan
 have hnl : nn ≤ l.length := hcan.2.1
 clear hcan
 obtain ⟨g, k1, rfl, -⟩ := own_pos hown (by simp)
 have hown2 : w2.ownsRow w1.heap.size 3 1 (.slice (some ⟨g, 0, none⟩) 2 k1) 2 (ic [p, q]) := hown
 have HO := Lib.hid hown2; clear hown hown2
 have hcut := HR2c hR2.out hL2 hc nn
 have HI := Lib.hid hI; clear hI
 simp only [List.length_cons, List.length_nil, Nat.reduceAdd]
 unfold maxLen at hm
 have hcan := W.decB_canon (l.drop nn) (by rw [hJ])
 rw [hJ] at hcan
 have hml : mm ≤ (l.drop nn).length := hcan.2.1
 rw [List.length_drop] at hml
 clear hcan
 have hT : W.decT (l.drop nn) = (⟨s.toArray⟩, mm, 0) := by unfold W.decT; rw [hJ]
 have HT := Lib.hid hT; clear hT
 have HJ := Lib.hid hJ; clear hJ
 go_wp2_with fail
 refine (wgetbytes_b (l.drop nn) _ _ _ L w2 (by simpa [hcn] using hcut) (by simp) (by omega) (by unfold maxLen; omega) _ _ _ HT.out).mono ?_
 rintro e w3 ⟨rfl, k3⟩
 have hx3 := hx2.below k3
 have k5 := Lib.hid (Blw k4.out k3)
 clear k3 hx2 k4 hcut HO
 have hd : ((nn : Int) + (mm : Int) == (l.length : Int)) = false := beq_eq_false_iff_ne.2 (by omega)
 have hd2 : ((nn : Int) + (mm : Int) != (l.length : Int)) = true := by rw [bne, hd]; rfl
 clear hE
 obtain ⟨c0, c1, c2, z0, z1⟩ := f3 hx3
 go_wp2
 have hz := ((hx3.set_ 0 (.int .i64 0)).set_ 1 (.int .i64 0)).set_ 2 (.slice none 0 0)
 obtain ⟨d0, d1, d2, -, -⟩ := f3 hz
 refine bodyPost_ret (v := .tuple #[.agg #[.int .i64 0, .int .i64 0, .slice none 0 0], .bool false]) (by simp [results, Try.results36, go_sem, d0, d1, d2]) rfl ⟨_, _, _, rfl, rfl, rfl, rfl, ((k5.out.setCell (Nat.le_refl _) _).setCell (Nat.le_refl _) _).setCell (Nat.le_refl _) _⟩
end Go.Proofs.Ytgdibcgphjmofaa
