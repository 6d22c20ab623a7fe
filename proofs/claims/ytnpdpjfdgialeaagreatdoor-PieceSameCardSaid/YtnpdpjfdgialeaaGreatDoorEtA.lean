/-
 BYTES AND THE WIRE, by the engine: words; wire.Int (printed by gen/eta.py).
-/
import Derived.Test.YtnpdpjfdgialeaaGreatDoorEoR
import Derived.Test.YtnpdpjfdgialeaaGreatDoorPlainX
import Derived.Test.YtnpdpjfdgialeaaGreatDoorCdA
namespace Go.Proofs.YtnpdpjfdgialeaaGreatDoor.E
open Go.RowKit
set_option linter.unusedVariables false
set_option linter.unusedSimpArgs false
def u8v (b : UInt8) : V := .k (.int .u8 (b.toNat : Int))
def u64 (m : Nat) : V := .k (.int .u64 (m : Int))
section
variable {a b l : List UInt8} {i : Nat} {c : UInt8}
theorem byL_app (a b : List UInt8) : byL a ++ byL b = byL (a ++ b) := List.map_append.symm
theorem byL_len (a : List UInt8) : (byL a).length = a.length := List.length_map ..
theorem byL_at (h : l[i]? = some c) : (byL l)[i]? = some [u8v c] := by unfold byL; rw [List.getElem?_map, h]; rfl
theorem byL_take (l : List UInt8) (i : Nat) : (byL l).take i = byL (l.take i) := by unfold byL; rw [List.map_take]
theorem byL_drop (l : List UInt8) (i : Nat) : (byL l).drop i = byL (l.drop i) := by unfold byL; rw [List.map_drop]
theorem byL_ok (a : List UInt8) : ∀ cs ∈ byL a, cs.length = 1 ∧ cs.all one = true := fun cs h => by
 obtain ⟨x, _, rfl⟩ := List.mem_map.1 h
 exact ⟨rfl, rfl⟩
theorem byL_z (a : List UInt8) : ∀ cs ∈ byL a, cs.length = 1 := fun cs h => (byL_ok a cs h).1
theorem byL_k (a : List UInt8) : ∀ cs ∈ byL a, cs.all isK = true := fun cs h => by
 obtain ⟨x, _, rfl⟩ := List.mem_map.1 h
 rfl
theorem by_el (h : i < l.length) : ∃ c, l[i]? = some c := ⟨l[i], List.getElem?_eq_getElem h⟩
/-- A counter told as a whole number of bytes. -/
def lnq {P : Program} (t : Nat) (l : List UInt8) : Fa P := .eqv t (ni ((byL l).length : Int)) (ni (l.length : Int)) (by rw [byL_len])
end
noncomputable abbrev fwI : Func := fnOf PP 61
section
variable {n : Int} {k : Nat} {l : List UInt8}
theorem fdiv_256 (M j : Nat) : (M : Int).fdiv (2 ^ (8 * j)) = ((M / 256 ^ j : Nat) : Int) := by
 rw [Int.fdiv_eq_ediv_of_nonneg _ (by exact Int.le_of_lt (Int.pow_pos (by decide)))]
 exact W.div256 M j
/-- A byte of the number, under the flip. -/
theorem wI_byte (n : Int) (j : Nat) : bits BinOp.xor IntKind.u8 (IntKind.u8.wrap ((W.mag n : Int).fdiv (2 ^ (8 * j)))) (W.fl (W.neg n)) = ((W.fx (W.neg n) (UInt8.ofNat (W.mag n / 256 ^ j))).toNat : Int) := by
 rw [fdiv_256, W.wrap_u8_nat]
 exact W.xor_fl _ _
def bI (n : Int) (j : Nat) : UInt8 := W.fx (W.neg n) (UInt8.ofNat (W.mag n / 256 ^ j))
theorem wI_take {l : List UInt8} {j : Nat} (hk : W.wid (W.mag n) = k) (hj : j + 1 ≤ k) (e : (W.enc n).take (k - (j + 1) + 1) = l) : (W.enc n).take (k - j + 1) = l ++ [bI n j] := by
 have h := W.enc_step n hk (j := j + 1) (by omega) hj
 rw [e] at h
 exact h
theorem take9 (n : Int) (i : Nat) : ((W.enc n).take i).length ≤ 9 := by have := (W.enc_le n).2; rw [List.length_take]; omega
def wIs (n : Int) : List (Nat × V) := [(3, u64 (W.mag n)), (4, .k (.int .u8 (W.fl (W.neg n))))]
theorem wI_t0 (hk : W.wid (W.mag n) = k) (e : (W.enc n).take (k - 0 + 1) = l) : Gd PP 61 (.o 5 1 (byL (W.enc n))) (lp fwI 1) (at_ fwI (wIs n ++ [(6, .ow 0), (7, ni (-1))]) [.rw 5 1 (byL l)]) := by
 rw [Nat.sub_zero, W.enc_all n hk] at e
 subst e
 exact fi [nf] (by kernel_rfl) (by kernel_rfl)
theorem wI_t1 (hk : W.wid (W.mag n) = k) (hj : 1 ≤ k) (e : (W.enc n).take (k - 1 + 1) = l) : Gd PP 61 (.o 5 1 (byL (W.enc n))) (lp fwI 1) (at_ fwI (wIs n ++ [(6, .ow 0), (7, ni (0))]) [.rw 5 1 (byL l)]) := by
 have e2 := wI_take (j := 0) hk hj e
 have h9 := take9 n (k - 0 + 1)
 rw [e2] at h9
 exact .to mo_ [.mv 0 2] [3, 4, 6, 7] [0] 1 [yt, .eqv 43 (.k (.int .u8 (bits BinOp.xor IntKind.u8 (IntKind.u8.wrap ((W.mag n : Int).fdiv (2 ^ (8 * 0)))) (W.fl (W.neg n))))) (u8v (bI n 0)) (by rw [wI_byte n 0]; rfl), .app (byL l) (byL [bI n 0]) (byL (l ++ [bI n 0])) 100 (byL_app _ _) Nat.zero_lt_one (by rw [byL_len]; omega)] (wI_t0 hk e2) (by kernel_rfl)
theorem wI_t2 (hk : W.wid (W.mag n) = k) (hj : 2 ≤ k) (e : (W.enc n).take (k - 2 + 1) = l) : Gd PP 61 (.o 5 1 (byL (W.enc n))) (lp fwI 1) (at_ fwI (wIs n ++ [(6, .ow 0), (7, ni (1))]) [.rw 5 1 (byL l)]) := by
 have e2 := wI_take (j := 1) hk hj e
 have h9 := take9 n (k - 1 + 1)
 rw [e2] at h9
 exact .to mo_ [.mv 0 2] [3, 4, 6, 7] [0] 1 [yt, .eqv 43 (.k (.int .u8 (bits BinOp.xor IntKind.u8 (IntKind.u8.wrap ((W.mag n : Int).fdiv (2 ^ (8 * 1)))) (W.fl (W.neg n))))) (u8v (bI n 1)) (by rw [wI_byte n 1]; rfl), .app (byL l) (byL [bI n 1]) (byL (l ++ [bI n 1])) 100 (byL_app _ _) Nat.zero_lt_one (by rw [byL_len]; omega)] (wI_t1 hk (by omega) e2) (by kernel_rfl)
theorem wI_t3 (hk : W.wid (W.mag n) = k) (hj : 3 ≤ k) (e : (W.enc n).take (k - 3 + 1) = l) : Gd PP 61 (.o 5 1 (byL (W.enc n))) (lp fwI 1) (at_ fwI (wIs n ++ [(6, .ow 0), (7, ni (2))]) [.rw 5 1 (byL l)]) := by
 have e2 := wI_take (j := 2) hk hj e
 have h9 := take9 n (k - 2 + 1)
 rw [e2] at h9
 exact .to mo_ [.mv 0 2] [3, 4, 6, 7] [0] 1 [yt, .eqv 43 (.k (.int .u8 (bits BinOp.xor IntKind.u8 (IntKind.u8.wrap ((W.mag n : Int).fdiv (2 ^ (8 * 2)))) (W.fl (W.neg n))))) (u8v (bI n 2)) (by rw [wI_byte n 2]; rfl), .app (byL l) (byL [bI n 2]) (byL (l ++ [bI n 2])) 100 (byL_app _ _) Nat.zero_lt_one (by rw [byL_len]; omega)] (wI_t2 hk (by omega) e2) (by kernel_rfl)
theorem wI_t4 (hk : W.wid (W.mag n) = k) (hj : 4 ≤ k) (e : (W.enc n).take (k - 4 + 1) = l) : Gd PP 61 (.o 5 1 (byL (W.enc n))) (lp fwI 1) (at_ fwI (wIs n ++ [(6, .ow 0), (7, ni (3))]) [.rw 5 1 (byL l)]) := by
 have e2 := wI_take (j := 3) hk hj e
 have h9 := take9 n (k - 3 + 1)
 rw [e2] at h9
 exact .to mo_ [.mv 0 2] [3, 4, 6, 7] [0] 1 [yt, .eqv 43 (.k (.int .u8 (bits BinOp.xor IntKind.u8 (IntKind.u8.wrap ((W.mag n : Int).fdiv (2 ^ (8 * 3)))) (W.fl (W.neg n))))) (u8v (bI n 3)) (by rw [wI_byte n 3]; rfl), .app (byL l) (byL [bI n 3]) (byL (l ++ [bI n 3])) 100 (byL_app _ _) Nat.zero_lt_one (by rw [byL_len]; omega)] (wI_t3 hk (by omega) e2) (by kernel_rfl)
theorem wI_t5 (hk : W.wid (W.mag n) = k) (hj : 5 ≤ k) (e : (W.enc n).take (k - 5 + 1) = l) : Gd PP 61 (.o 5 1 (byL (W.enc n))) (lp fwI 1) (at_ fwI (wIs n ++ [(6, .ow 0), (7, ni (4))]) [.rw 5 1 (byL l)]) := by
 have e2 := wI_take (j := 4) hk hj e
 have h9 := take9 n (k - 4 + 1)
 rw [e2] at h9
 exact .to mo_ [.mv 0 2] [3, 4, 6, 7] [0] 1 [yt, .eqv 43 (.k (.int .u8 (bits BinOp.xor IntKind.u8 (IntKind.u8.wrap ((W.mag n : Int).fdiv (2 ^ (8 * 4)))) (W.fl (W.neg n))))) (u8v (bI n 4)) (by rw [wI_byte n 4]; rfl), .app (byL l) (byL [bI n 4]) (byL (l ++ [bI n 4])) 100 (byL_app _ _) Nat.zero_lt_one (by rw [byL_len]; omega)] (wI_t4 hk (by omega) e2) (by kernel_rfl)
theorem wI_t6 (hk : W.wid (W.mag n) = k) (hj : 6 ≤ k) (e : (W.enc n).take (k - 6 + 1) = l) : Gd PP 61 (.o 5 1 (byL (W.enc n))) (lp fwI 1) (at_ fwI (wIs n ++ [(6, .ow 0), (7, ni (5))]) [.rw 5 1 (byL l)]) := by
 have e2 := wI_take (j := 5) hk hj e
 have h9 := take9 n (k - 5 + 1)
 rw [e2] at h9
 exact .to mo_ [.mv 0 2] [3, 4, 6, 7] [0] 1 [yt, .eqv 43 (.k (.int .u8 (bits BinOp.xor IntKind.u8 (IntKind.u8.wrap ((W.mag n : Int).fdiv (2 ^ (8 * 5)))) (W.fl (W.neg n))))) (u8v (bI n 5)) (by rw [wI_byte n 5]; rfl), .app (byL l) (byL [bI n 5]) (byL (l ++ [bI n 5])) 100 (byL_app _ _) Nat.zero_lt_one (by rw [byL_len]; omega)] (wI_t5 hk (by omega) e2) (by kernel_rfl)
theorem wI_t7 (hk : W.wid (W.mag n) = k) (hj : 7 ≤ k) (e : (W.enc n).take (k - 7 + 1) = l) : Gd PP 61 (.o 5 1 (byL (W.enc n))) (lp fwI 1) (at_ fwI (wIs n ++ [(6, .ow 0), (7, ni (6))]) [.rw 5 1 (byL l)]) := by
 have e2 := wI_take (j := 6) hk hj e
 have h9 := take9 n (k - 6 + 1)
 rw [e2] at h9
 exact .to mo_ [.mv 0 2] [3, 4, 6, 7] [0] 1 [yt, .eqv 43 (.k (.int .u8 (bits BinOp.xor IntKind.u8 (IntKind.u8.wrap ((W.mag n : Int).fdiv (2 ^ (8 * 6)))) (W.fl (W.neg n))))) (u8v (bI n 6)) (by rw [wI_byte n 6]; rfl), .app (byL l) (byL [bI n 6]) (byL (l ++ [bI n 6])) 100 (byL_app _ _) Nat.zero_lt_one (by rw [byL_len]; omega)] (wI_t6 hk (by omega) e2) (by kernel_rfl)
theorem wI_t8 (hk : W.wid (W.mag n) = k) (hj : 8 ≤ k) (e : (W.enc n).take (k - 8 + 1) = l) : Gd PP 61 (.o 5 1 (byL (W.enc n))) (lp fwI 1) (at_ fwI (wIs n ++ [(6, .ow 0), (7, ni (7))]) [.rw 5 1 (byL l)]) := by
 have e2 := wI_take (j := 7) hk hj e
 have h9 := take9 n (k - 7 + 1)
 rw [e2] at h9
 exact .to mo_ [.mv 0 2] [3, 4, 6, 7] [0] 1 [yt, .eqv 43 (.k (.int .u8 (bits BinOp.xor IntKind.u8 (IntKind.u8.wrap ((W.mag n : Int).fdiv (2 ^ (8 * 7)))) (W.fl (W.neg n))))) (u8v (bI n 7)) (by rw [wI_byte n 7]; rfl), .app (byL l) (byL [bI n 7]) (byL (l ++ [bI n 7])) 100 (byL_app _ _) Nat.zero_lt_one (by rw [byL_len]; omega)] (wI_t7 hk (by omega) e2) (by kernel_rfl)
theorem wI_hd (n : Int) (k : Nat) (hk : W.wid (W.mag n) = k) : bits BinOp.xor IntKind.u8 (IntKind.u8.wrap (128 + (k : Int))) (W.fl (W.neg n)) = ((W.fx (W.neg n) (UInt8.ofNat (128 + k))).toNat : Int) := by
 have e : IntKind.u8.wrap (128 + (k : Int)) = ((UInt8.ofNat (128 + k)).toNat : Int) := by
  have := W.wrap_u8_nat (128 + k)
  rwa [show ((128 + k : Nat) : Int) = 128 + (k : Int) from by omega] at this
 rw [e]
 exact W.xor_fl _ _
theorem wI_no {M j : Nat} (h : ¬ 0 < M / 256 ^ j) : M < 256 ^ j := by
 have hp : 0 < 256 ^ j := Nat.pow_pos (by omega)
 rcases Nat.div_eq_zero_iff.1 (Nat.le_zero.1 (Nat.not_lt.1 h)) with h3 | h3
 · omega
 · exact h3
theorem wI_yes {M j : Nat} (h : 0 < M / 256 ^ j) : 256 ^ j ≤ M := by
 have hp : 0 < 256 ^ j := Nat.pow_pos (by omega)
 rcases Nat.lt_or_ge M (256 ^ j) with h2 | h2
 · rw [Nat.div_eq_of_lt h2] at h; omega
 · exact h2
theorem wI_wid (hn : W.Is64 n) {k : Nat} (h1 : W.mag n < 256 ^ k) (h2 : k = 0 ∨ 256 ^ (k - 1) ≤ W.mag n) : W.wid (W.mag n) = k := by
 have := W.mag_lt hn
 exact W.wid_of (by omega) ⟨h1, h2⟩
theorem wI_h0 (hn : W.Is64 n) (hM : W.mag n < 256 ^ 0) : Gd PP 61 (.o 5 1 (byL (W.enc n))) (lp fwI 0) (at_ fwI (wIs n ++ [(5, ni 0)]) []) := by
 have hk := wI_wid hn (k := 0) hM (.inl rfl)
 exact .to mo_ [] [3, 4, 6, 7] [0] 1 [nf, .eqv 28 (.k (.int .u8 (bits BinOp.xor IntKind.u8 (IntKind.u8.wrap (128 + ((0 : Nat) : Int))) (W.fl (W.neg n))))) (u8v (W.fx (W.neg n) (UInt8.ofNat (128 + 0)))) (by rw [wI_hd n 0 hk]; rfl)] (wI_t0 hk (W.enc_head n hk)) (by kernel_rfl)
theorem wI_h1 (hn : W.Is64 n) (hM : W.mag n < 256 ^ 1) : Gd PP 61 (.o 5 1 (byL (W.enc n))) (lp fwI 0) (at_ fwI (wIs n ++ [(5, ni 1)]) []) := by
 by_cases h : 0 < W.mag n / 256 ^ 0
 · have hk := wI_wid hn (k := 1) hM (.inr (wI_yes h))
   exact .to mo_ [] [3, 4, 6, 7] [0] 1 [yt, ye (t := decide ((W.mag n : Int).fdiv (2 ^ (8 * 0)) > 0)) (by rw [fdiv_256]; exact decide_eq_true (by omega)), .eqv 28 (.k (.int .u8 (bits BinOp.xor IntKind.u8 (IntKind.u8.wrap (128 + ((1 : Nat) : Int))) (W.fl (W.neg n))))) (u8v (W.fx (W.neg n) (UInt8.ofNat (128 + 1)))) (by rw [wI_hd n 1 hk]; rfl)] (wI_t1 hk (by omega) (W.enc_head n hk)) (by kernel_rfl)
 · exact .to mo_ [] [3, 4, 5] [] 0 [yt, na (t := decide ((W.mag n : Int).fdiv (2 ^ (8 * 0)) > 0)) (by rw [fdiv_256]; exact decide_eq_false (by omega))] (wI_h0 hn (wI_no h)) (by kernel_rfl)
theorem wI_h2 (hn : W.Is64 n) (hM : W.mag n < 256 ^ 2) : Gd PP 61 (.o 5 1 (byL (W.enc n))) (lp fwI 0) (at_ fwI (wIs n ++ [(5, ni 2)]) []) := by
 by_cases h : 0 < W.mag n / 256 ^ 1
 · have hk := wI_wid hn (k := 2) hM (.inr (wI_yes h))
   exact .to mo_ [] [3, 4, 6, 7] [0] 1 [yt, ye (t := decide ((W.mag n : Int).fdiv (2 ^ (8 * 1)) > 0)) (by rw [fdiv_256]; exact decide_eq_true (by omega)), .eqv 28 (.k (.int .u8 (bits BinOp.xor IntKind.u8 (IntKind.u8.wrap (128 + ((2 : Nat) : Int))) (W.fl (W.neg n))))) (u8v (W.fx (W.neg n) (UInt8.ofNat (128 + 2)))) (by rw [wI_hd n 2 hk]; rfl)] (wI_t2 hk (by omega) (W.enc_head n hk)) (by kernel_rfl)
 · exact .to mo_ [] [3, 4, 5] [] 0 [yt, na (t := decide ((W.mag n : Int).fdiv (2 ^ (8 * 1)) > 0)) (by rw [fdiv_256]; exact decide_eq_false (by omega))] (wI_h1 hn (wI_no h)) (by kernel_rfl)
theorem wI_h3 (hn : W.Is64 n) (hM : W.mag n < 256 ^ 3) : Gd PP 61 (.o 5 1 (byL (W.enc n))) (lp fwI 0) (at_ fwI (wIs n ++ [(5, ni 3)]) []) := by
 by_cases h : 0 < W.mag n / 256 ^ 2
 · have hk := wI_wid hn (k := 3) hM (.inr (wI_yes h))
   exact .to mo_ [] [3, 4, 6, 7] [0] 1 [yt, ye (t := decide ((W.mag n : Int).fdiv (2 ^ (8 * 2)) > 0)) (by rw [fdiv_256]; exact decide_eq_true (by omega)), .eqv 28 (.k (.int .u8 (bits BinOp.xor IntKind.u8 (IntKind.u8.wrap (128 + ((3 : Nat) : Int))) (W.fl (W.neg n))))) (u8v (W.fx (W.neg n) (UInt8.ofNat (128 + 3)))) (by rw [wI_hd n 3 hk]; rfl)] (wI_t3 hk (by omega) (W.enc_head n hk)) (by kernel_rfl)
 · exact .to mo_ [] [3, 4, 5] [] 0 [yt, na (t := decide ((W.mag n : Int).fdiv (2 ^ (8 * 2)) > 0)) (by rw [fdiv_256]; exact decide_eq_false (by omega))] (wI_h2 hn (wI_no h)) (by kernel_rfl)
theorem wI_h4 (hn : W.Is64 n) (hM : W.mag n < 256 ^ 4) : Gd PP 61 (.o 5 1 (byL (W.enc n))) (lp fwI 0) (at_ fwI (wIs n ++ [(5, ni 4)]) []) := by
 by_cases h : 0 < W.mag n / 256 ^ 3
 · have hk := wI_wid hn (k := 4) hM (.inr (wI_yes h))
   exact .to mo_ [] [3, 4, 6, 7] [0] 1 [yt, ye (t := decide ((W.mag n : Int).fdiv (2 ^ (8 * 3)) > 0)) (by rw [fdiv_256]; exact decide_eq_true (by omega)), .eqv 28 (.k (.int .u8 (bits BinOp.xor IntKind.u8 (IntKind.u8.wrap (128 + ((4 : Nat) : Int))) (W.fl (W.neg n))))) (u8v (W.fx (W.neg n) (UInt8.ofNat (128 + 4)))) (by rw [wI_hd n 4 hk]; rfl)] (wI_t4 hk (by omega) (W.enc_head n hk)) (by kernel_rfl)
 · exact .to mo_ [] [3, 4, 5] [] 0 [yt, na (t := decide ((W.mag n : Int).fdiv (2 ^ (8 * 3)) > 0)) (by rw [fdiv_256]; exact decide_eq_false (by omega))] (wI_h3 hn (wI_no h)) (by kernel_rfl)
theorem wI_h5 (hn : W.Is64 n) (hM : W.mag n < 256 ^ 5) : Gd PP 61 (.o 5 1 (byL (W.enc n))) (lp fwI 0) (at_ fwI (wIs n ++ [(5, ni 5)]) []) := by
 by_cases h : 0 < W.mag n / 256 ^ 4
 · have hk := wI_wid hn (k := 5) hM (.inr (wI_yes h))
   exact .to mo_ [] [3, 4, 6, 7] [0] 1 [yt, ye (t := decide ((W.mag n : Int).fdiv (2 ^ (8 * 4)) > 0)) (by rw [fdiv_256]; exact decide_eq_true (by omega)), .eqv 28 (.k (.int .u8 (bits BinOp.xor IntKind.u8 (IntKind.u8.wrap (128 + ((5 : Nat) : Int))) (W.fl (W.neg n))))) (u8v (W.fx (W.neg n) (UInt8.ofNat (128 + 5)))) (by rw [wI_hd n 5 hk]; rfl)] (wI_t5 hk (by omega) (W.enc_head n hk)) (by kernel_rfl)
 · exact .to mo_ [] [3, 4, 5] [] 0 [yt, na (t := decide ((W.mag n : Int).fdiv (2 ^ (8 * 4)) > 0)) (by rw [fdiv_256]; exact decide_eq_false (by omega))] (wI_h4 hn (wI_no h)) (by kernel_rfl)
theorem wI_h6 (hn : W.Is64 n) (hM : W.mag n < 256 ^ 6) : Gd PP 61 (.o 5 1 (byL (W.enc n))) (lp fwI 0) (at_ fwI (wIs n ++ [(5, ni 6)]) []) := by
 by_cases h : 0 < W.mag n / 256 ^ 5
 · have hk := wI_wid hn (k := 6) hM (.inr (wI_yes h))
   exact .to mo_ [] [3, 4, 6, 7] [0] 1 [yt, ye (t := decide ((W.mag n : Int).fdiv (2 ^ (8 * 5)) > 0)) (by rw [fdiv_256]; exact decide_eq_true (by omega)), .eqv 28 (.k (.int .u8 (bits BinOp.xor IntKind.u8 (IntKind.u8.wrap (128 + ((6 : Nat) : Int))) (W.fl (W.neg n))))) (u8v (W.fx (W.neg n) (UInt8.ofNat (128 + 6)))) (by rw [wI_hd n 6 hk]; rfl)] (wI_t6 hk (by omega) (W.enc_head n hk)) (by kernel_rfl)
 · exact .to mo_ [] [3, 4, 5] [] 0 [yt, na (t := decide ((W.mag n : Int).fdiv (2 ^ (8 * 5)) > 0)) (by rw [fdiv_256]; exact decide_eq_false (by omega))] (wI_h5 hn (wI_no h)) (by kernel_rfl)
theorem wI_h7 (hn : W.Is64 n) (hM : W.mag n < 256 ^ 7) : Gd PP 61 (.o 5 1 (byL (W.enc n))) (lp fwI 0) (at_ fwI (wIs n ++ [(5, ni 7)]) []) := by
 by_cases h : 0 < W.mag n / 256 ^ 6
 · have hk := wI_wid hn (k := 7) hM (.inr (wI_yes h))
   exact .to mo_ [] [3, 4, 6, 7] [0] 1 [yt, ye (t := decide ((W.mag n : Int).fdiv (2 ^ (8 * 6)) > 0)) (by rw [fdiv_256]; exact decide_eq_true (by omega)), .eqv 28 (.k (.int .u8 (bits BinOp.xor IntKind.u8 (IntKind.u8.wrap (128 + ((7 : Nat) : Int))) (W.fl (W.neg n))))) (u8v (W.fx (W.neg n) (UInt8.ofNat (128 + 7)))) (by rw [wI_hd n 7 hk]; rfl)] (wI_t7 hk (by omega) (W.enc_head n hk)) (by kernel_rfl)
 · exact .to mo_ [] [3, 4, 5] [] 0 [yt, na (t := decide ((W.mag n : Int).fdiv (2 ^ (8 * 6)) > 0)) (by rw [fdiv_256]; exact decide_eq_false (by omega))] (wI_h6 hn (wI_no h)) (by kernel_rfl)
theorem wI_h8 (hn : W.Is64 n) (hM : W.mag n < 256 ^ 8) : Gd PP 61 (.o 5 1 (byL (W.enc n))) (lp fwI 0) (at_ fwI (wIs n ++ [(5, ni 8)]) []) := by
 by_cases h : 0 < W.mag n / 256 ^ 7
 · have hk := wI_wid hn (k := 8) hM (.inr (wI_yes h))
   exact .to mo_ [] [3, 4, 6, 7] [0] 1 [yt, ye (t := decide ((W.mag n : Int).fdiv (2 ^ (8 * 7)) > 0)) (by rw [fdiv_256]; exact decide_eq_true (by omega)), .eqv 28 (.k (.int .u8 (bits BinOp.xor IntKind.u8 (IntKind.u8.wrap (128 + ((8 : Nat) : Int))) (W.fl (W.neg n))))) (u8v (W.fx (W.neg n) (UInt8.ofNat (128 + 8)))) (by rw [wI_hd n 8 hk]; rfl)] (wI_t8 hk (by omega) (W.enc_head n hk)) (by kernel_rfl)
 · exact .to mo_ [] [3, 4, 5] [] 0 [yt, na (t := decide ((W.mag n : Int).fdiv (2 ^ (8 * 7)) > 0)) (by rw [fdiv_256]; exact decide_eq_false (by omega))] (wI_h7 hn (wI_no h)) (by kernel_rfl)
theorem e_wint (hn : W.Is64 n) : Pure PP 61 [ni n] (.o 5 1 (byL (W.enc n))) := by
 have hM : W.mag n < 256 ^ 8 := by have := W.mag_lt hn; omega
 by_cases h0 : n < 0
 · have hng : W.neg n = true := by unfold W.neg; simpa using h0
   have hx := W.u64_neg n hn h0
   have g := wI_h8 hn hM
   unfold wIs at g
   rw [hng] at g
   exact pf (by kernel_rfl) (.to mo_ [] [3, 4, 5] [] 0 [ye (t := decide (n < 0)) (decide_eq_true h0), .eqv 13 (.k (.int .u64 (bits BinOp.xor IntKind.u64 IntKind.u64.max (IntKind.u64.wrap n)))) (u64 (W.mag n)) (by rw [hx]; rfl)] g (by kernel_rfl))
 · have hng : W.neg n = false := by unfold W.neg; simpa using h0
   have hx := W.u64_pos n hn h0
   have g := wI_h8 hn hM
   unfold wIs at g
   rw [hng] at g
   exact pf (by kernel_rfl) (.to mo_ [] [3, 4, 5] [] 0 [.eqv 9 (.k (.int .u64 (IntKind.u64.wrap n))) (u64 (W.mag n)) (by rw [hx]; rfl), na (t := decide (n < 0)) (decide_eq_false h0)] g (by kernel_rfl))
end
noncomputable abbrev fwL : Func := fnOf PP 27
theorem encI_take {l : List Int} {i : Nat} {x : Int} (h : l[i]? = some x) : W.enc l.length ++ (l.take (i + 1)).flatMap W.enc = (W.enc l.length ++ (l.take i).flatMap W.enc) ++ W.enc x := by
 rw [W.take_flat W.enc h, List.append_assoc]
theorem e_wints {l : List Int} (hl : ∀ x ∈ l, W.Is64 x) (hb : l.length ≤ 100000) : Pure PP 27 [zl l] (.o 5 1 (byL (W.encI l))) := by
 have hz := zs_len l
 let P : Nat → List UInt8 := fun i => W.enc l.length ++ (l.take i).flatMap W.enc
 let X : Nat → St := fun i => at_ fwL [(3, .ow 0), (9, zl l), (10, ni ((zs l).length : Int)), (11, ni i)] [.rw 5 1 (byL (P i))]
 have h0 : P 0 = W.enc l.length := by simp [P]
 have hn : P l.length = W.encI l := by simp only [P]; rw [List.take_length]; rfl
 have hPl : ∀ i, (P i).length ≤ (W.encI l).length := fun i => by
  have := W.flat_le W.enc l i
  simp only [P, W.encI, List.length_append]; omega
 have hle := W.encI_le l
 have h64 : W.Is64 (l.length : Int) := W.nat64 (by omega)
 refine pf (by kernel_rfl) (.to mo_ [] [3, 9, 10, 11] [0] 1 [.eqv 7 (ni ((zs l).length : Int)) (ni (l.length : Int)) (by rw [hz]), cl (e_wint h64)] (td' := lp fwL 0) (σ' := at_ fwL [(3, .ow 0), (9, zl l), (10, ni ((zs l).length : Int)), (11, ni 0)] [.rw 5 1 (byL (W.enc l.length))]) ?_ (by kernel_rfl))
 rw [← h0]
 refine Gd.loop X (fun i => i ≤ l.length) (fun i => l.length - i) ?_ 0 (Nat.zero_le _)
 intro i hi ih
 by_cases h : i < l.length
 · have e := zs_el h
   have hx := num_el h
   generalize l.getD i 0 = d at e hx
   have hd : W.Is64 d := hl d (List.mem_of_getElem? hx)
   have eP : P (i + 1) = P i ++ W.enc d := encI_take hx
   have h1 := hPl (i + 1)
   have h2 := (W.enc_le d).1
   exact .to mo_ [.mv 0 2] [3, 9, 10, 11] [0] 1 [ye (t := decide ((i : Int) < ((zs l).length : Int))) (decide_eq_true (by omega)), .sel _ _ _ e, cl (e_wint hd), .app (byL (P i)) (byL (W.enc d)) (byL (P (i + 1))) 1000000 (by rw [byL_app, eP]) (by rw [byL_len]; omega) (by rw [byL_len]; omega), inc 19 i (by omega)] (ih (i + 1) h (by omega)) (by kernel_rfl)
 · have hi2 : i = l.length := by omega
   subst hi2
   rw [← hn]
   exact fi [na (t := decide ((l.length : Int) < ((zs l).length : Int))) (decide_eq_false (by omega))] (by kernel_rfl) (by kernel_rfl)
end Go.Proofs.YtnpdpjfdgialeaaGreatDoor.E
