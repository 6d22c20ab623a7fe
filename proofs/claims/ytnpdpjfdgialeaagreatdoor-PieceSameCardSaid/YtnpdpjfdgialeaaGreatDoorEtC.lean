/-
 THE REFERENCE'S WIRE, by the engine: Int, Same, GetInt, count, Ints, GetInts, Few.
-/
import Derived.Test.YtnpdpjfdgialeaaGreatDoorEtA
namespace Go.Proofs.YtnpdpjfdgialeaaGreatDoor.E
open Go.RowKit
set_option linter.unusedVariables false
set_option linter.unusedSimpArgs false
noncomputable abbrev fwG : Func := fnOf PP 185
/-- What a decoder of numbers returns. -/
def tu3 (r : Int × Nat × Int) : V := .tu [ni r.1, ni (r.2.1 : Int), ni r.2.2]
section
variable {hd : UInt8} {t l : List UInt8} {g : Bool} {K : Nat}
theorem wr6 {x : Int} (h : -9223372036854775808 ≤ x ∧ x ≤ 9223372036854775807) : IntKind.i64.wrap x = x := by rw [IntKind.wrap_i64]; omega
theorem xor_hd (hK : (W.fx g hd).toNat = 128 + K) : IntKind.i64.wrap (IntKind.i64.wrap (bits BinOp.xor IntKind.u8 (hd.toNat : Int) (W.fl g)) - 128) = (K : Int) := by
 have := (W.fx g hd).toNat_lt
 have e := wr6 (x := ((128 + K : Nat) : Int)) (by omega)
 rw [W.xor_fl g hd, hK, e, wr6 (by omega)]
 omega
/-- The number under the flip, as the code makes it. -/
theorem val_or (t : List UInt8) (g : Bool) {i : Nat} {b : UInt8} (hb : t[i]? = some b) (hi : i < 8) : bits BinOp.or IntKind.u64 (IntKind.u64.wrap ((W.val ((t.take i).map (W.fx g)) : Int) * 2 ^ 8)) (IntKind.u64.wrap (bits BinOp.xor IntKind.u8 (b.toNat : Int) (W.fl g))) = ((W.val ((t.take (i + 1)).map (W.fx g)) : Nat) : Int) := by
 have h1 := W.val_take_lt t g i
 have h2 : 256 ^ i ≤ 256 ^ 7 := Nat.pow_le_pow_right (by omega) (by omega)
 have h3 := (W.fx g b).toNat_lt
 have e1 : IntKind.u64.wrap ((W.val ((t.take i).map (W.fx g)) : Int) * 2 ^ 8) = (W.val ((t.take i).map (W.fx g)) : Int) * 256 := by rw [IntKind.wrap_u64]; omega
 have e2 : IntKind.u64.wrap (bits BinOp.xor IntKind.u8 (b.toNat : Int) (W.fl g)) = ((W.fx g b).toNat : Int) := by rw [W.xor_fl g b, IntKind.wrap_u64]; omega
 rw [e1, e2, W.val_step t g i b hb, W.or_step _ _ (by omega) h3]
noncomputable def gIs (hd : UInt8) (t : List UInt8) (g : Bool) (K i m : Nat) : St := at_ fwG [(5, .k (.int .u8 (W.fl g))), (6, ni K), (7, u64 m), (46, .sl (byL (t.take K))), (47, ni K), (48, ni i)] []
theorem gI_loop (hg : g = decide (hd.toNat < 128)) (hK : (W.fx g hd).toNat = 128 + K) (h8 : K ≤ 8) (hl : K ≤ t.length) (hz : 0 < K → ∃ b1, t[0]? = some b1 ∧ 0 < (W.fx g b1).toNat) : Gd PP 185 (tu3 (W.dec (hd :: t))) (lp fwG 0) (gIs hd t g K 0 0) := by
 have hv := W.dec_val hd t g K hg hK h8 hl hz
 have h0 : W.val ((t.take 0).map (W.fx g)) = 0 := rfl
 conv => arg 5; rw [← h0]
 refine Gd.loop (fun i => gIs hd t g K i (W.val ((t.take i).map (W.fx g)))) (fun i => i ≤ K) (fun i => K - i) ?_ 0 (Nat.zero_le _)
 intro i hi ih
 by_cases h : i < K
 · obtain ⟨b, hb⟩ := by_el (l := t) (i := i) (by omega)
   have k0 : (t.take K)[i]? = some b := by rw [List.getElem?_take_of_lt h]; exact hb
   exact .to mo_ [] [5, 6, 7, 46, 47, 48] [] 0 [ye (t := decide ((i : Int) < (K : Int))) (decide_eq_true (by omega)), .sel _ _ _ (byL_at k0), .eqv 58 (.k (.int .u64 (bits BinOp.or IntKind.u64 (IntKind.u64.wrap ((W.val ((t.take i).map (W.fx g)) : Int) * 2 ^ 8)) (IntKind.u64.wrap (bits BinOp.xor IntKind.u8 (b.toNat : Int) (W.fl g)))))) (u64 (W.val ((t.take (i + 1)).map (W.fx g)))) (by rw [val_or t g hb (by omega)]; rfl), inc 59 i (by omega)] (ih (i + 1) h (by omega)) (by kernel_rfl)
 · have hi2 : i = K := by omega
   subst hi2
   have hlt := W.val_take_lt t g i
   have hp : 256 ^ i ≤ 256 ^ 8 := Nat.pow_le_pow_right (by omega) (by omega)
   rw [hv]
   clear hv ih hz h0
   generalize W.val ((t.take i).map (W.fx g)) = M at hlt
   have hM : M < 18446744073709551616 := by omega
   have hf : ((M : Int).fdiv (2 ^ 63)) = ((M / 9223372036854775808 : Nat) : Int) := by rw [Int.fdiv_eq_ediv_of_nonneg _ (by decide)]; rfl
   by_cases h63 : 9223372036854775808 ≤ M
   · rw [if_pos h63]
     exact fi [na (t := decide ((i : Int) < (i : Int))) (decide_eq_false (by omega)), ye (t := decide ((M : Int).fdiv (2 ^ 63) > 0)) (by rw [hf]; exact decide_eq_true (by omega))] (by kernel_rfl) (by kernel_rfl)
   · rw [if_neg h63]
     have e1 : IntKind.i64.wrap (bits BinOp.xor IntKind.u64 IntKind.u64.max (M : Int)) = -1 - (M : Int) := by rw [W.u64_not M (by omega), IntKind.wrap_i64]; omega
     cases g with
     | true => exact fi [na (t := decide ((i : Int) < (i : Int))) (decide_eq_false (by omega)), na (t := decide ((M : Int).fdiv (2 ^ 63) > 0)) (by rw [hf]; exact decide_eq_false (by omega)), yt, .eqv 68 (ni (IntKind.i64.wrap (bits BinOp.xor IntKind.u64 IntKind.u64.max (M : Int)))) (ni (-1 - (M : Int))) (by rw [e1]), inc 70 i (by omega)] (by kernel_rfl) (by kernel_rfl)
     | false => exact fi [na (t := decide ((i : Int) < (i : Int))) (decide_eq_false (by omega)), na (t := decide ((M : Int).fdiv (2 ^ 63) > 0)) (by rw [hf]; exact decide_eq_false (by omega)), nf, wq 68 (M : Int) (M : Int) (by omega), inc 70 i (by omega)] (by kernel_rfl) (by kernel_rfl)
theorem gI_body (hg : g = decide (hd.toNat < 128)) : Gd PP 185 (tu3 (W.dec (hd :: t))) (rg fwG 6) (at_ fwG [(0, .sl (byL (hd :: t))), (5, .k (.int .u8 (W.fl g)))] []) := by
 obtain ⟨K, hK⟩ : ∃ K, (W.fx g hd).toNat = 128 + K := by
  refine ⟨(W.fx g hd).toNat - 128, ?_⟩
  rw [W.fx_toNat, hg]
  have := hd.toNat_lt
  by_cases h : hd.toNat < 128 <;> simp [h] <;> omega
 have hKb : K ≤ 127 := by have := (W.fx g hd).toNat_lt; omega
 have x := xor_hd hK
 have hln : (byL (hd :: t)).length = t.length + 1 := byL_len _
 have s0 : (byL (hd :: t))[0]? = some [u8v hd] := rfl
 let q : F_ := .eqv 23 (ni (IntKind.i64.wrap (IntKind.i64.wrap (bits BinOp.xor IntKind.u8 (hd.toNat : Int) (W.fl g)) - 128))) (ni K) (by rw [x])
 by_cases h8 : K ≤ 8
 · by_cases hl : K ≤ t.length
   · have q8 : decide ((K : Int) > 8) = false := decide_eq_false (by omega)
     have ql : decide (((byL (hd :: t)).length : Int) ≤ (K : Int)) = false := decide_eq_false (by rw [hln]; omega)
     have hsl : ((byL (hd :: t)).take (K + 1)).drop 1 = byL (t.take K) := by rw [← byL_take]; rfl
     have hlk : (t.take K).length = K := by rw [List.length_take]; omega
     by_cases h0 : 0 < K
     · obtain ⟨b1, k0⟩ := by_el (l := t) (i := 0) (by omega)
       have s1 : (byL (hd :: t))[1]? = some [u8v b1] := byL_at k0
       have xb := W.xor_fl g b1
       by_cases hz : (W.fx g b1).toNat = 0
       · rw [W.dec_zero hd t g K hg hK h8 hl h0 b1 k0 hz]
         exact fi [.sel _ _ _ s0, q, na q8, na ql, ye (t := decide ((K : Int) > 0)) (decide_eq_true (by omega)), .sel _ _ _ s1, .eqv 41 (bo (bits BinOp.xor IntKind.u8 (b1.toNat : Int) (W.fl g) == 0)) (bo true) (by rw [xb, hz]; rfl), yt] (by kernel_rfl) (by kernel_rfl)
       · have L := gI_loop hg hK h8 hl (fun _ => ⟨b1, k0, by omega⟩)
         exact .to mo_ [] [5, 6, 7, 46, 47, 48] [] 0 [.sel _ _ _ s0, q, na q8, na ql, ye (t := decide ((K : Int) > 0)) (decide_eq_true (by omega)), .sel _ _ _ s1, .eqv 41 (bo (bits BinOp.xor IntKind.u8 (b1.toNat : Int) (W.fl g) == 0)) (bo false) (by rw [xb]; simp [bo]; omega), nf, inc 45 K (by omega), .slc (byL (hd :: t)) 1 (K + 1) 1 (byL (t.take K)) hsl (by rw [hln]; omega) (byL_z _), .eqv 47 (ni ((byL (t.take K)).length : Int)) (ni K) (by rw [byL_len, hlk])] L (by kernel_rfl)
     · have L := gI_loop hg hK h8 hl (fun h => absurd h h0)
       have hK0 : K = 0 := by omega
       subst hK0
       exact .to mo_ [] [5, 6, 7, 46, 47, 48] [] 0 [.sel _ _ _ s0, q, nf, na ql, nf, nf, .slc (byL (hd :: t)) 1 1 1 (byL (t.take 0)) hsl (by rw [hln]; omega) (byL_z _)] L (by kernel_rfl)
   · rw [W.dec_more hd t g K hg hK (by omega) (by omega)]
     exact fi [.sel _ _ _ s0, q, na (t := decide ((K : Int) > 8)) (decide_eq_false (by omega)), ye (t := decide (((byL (hd :: t)).length : Int) ≤ (K : Int))) (decide_eq_true (by rw [hln]; omega))] (by kernel_rfl) (by kernel_rfl)
 · rw [W.dec_big hd t g K hg hK (by omega)]
   exact fi [.sel _ _ _ s0, q, ye (t := decide ((K : Int) > 8)) (decide_eq_true (by omega))] (by kernel_rfl) (by kernel_rfl)
theorem e_wgetint (l : List UInt8) : Pure PP 185 [.sl (byL l)] (tu3 (W.dec l)) := by
 match l with
 | [] => exact tr [yt] (by kernel_rfl)
 | hd :: t =>
   have hln : (byL (hd :: t)).length = t.length + 1 := byL_len _
   have s0 : (byL (hd :: t))[0]? = some [u8v hd] := rfl
   have nz : (((byL (hd :: t)).length : Int) == 0) = false := by rw [hln]; simp; omega
   by_cases h : hd.toNat < 128
   · exact pf (by kernel_rfl) (.to mo_ [] [0, 5] [] 0 [na nz, .sel _ _ _ s0, ye (t := decide ((hd.toNat : Int) < 128)) (decide_eq_true (by omega))] (td' := rg fwG 6) (σ' := at_ fwG [(0, .sl (byL (hd :: t))), (5, .k (.int .u8 (W.fl true)))] []) (gI_body (by simp [h])) (by kernel_rfl))
   · exact pf (by kernel_rfl) (.to mo_ [] [0, 5] [] 0 [na nz, .sel _ _ _ s0, na (t := decide ((hd.toNat : Int) < 128)) (decide_eq_false (by omega))] (td' := rg fwG 6) (σ' := at_ fwG [(0, .sl (byL (hd :: t))), (5, .k (.int .u8 (W.fl false)))] []) (gI_body (by simp [h])) (by kernel_rfl))
theorem e_wcount (l : List UInt8) (s : Nat) (hs : s = 0 ∨ s = 15) (hb : l.length ≤ 4611686018427387904) : Pure PP 165 [.sl (byL l), ni ((s + 1 : Nat) : Int)] (tu3 (W.cnt l (s + 1))) := by
 have c := e_wgetint l
 have h1 := W.dec_at_le l
 unfold W.cnt
 rcases hd : W.dec l with ⟨n, u, e⟩
 rw [hd] at c h1
 simp only at h1 ⊢
 by_cases he : e = 0
 · rw [if_neg (by simp [he])]
   subst he
   by_cases hn : n < 0
   · rw [if_pos hn]
     exact tr [cl c, nf, ye (t := decide (n < 0)) (decide_eq_true hn)] (by kernel_rfl)
   · rw [if_neg hn]
     have hq : ((l.length : Int) - (u : Int)).tdiv ((s + 1 : Nat) : Int) = ((l.length - u) / (s + 1) : Nat) := by
      rw [show (l.length : Int) - (u : Int) = ((l.length - u : Nat) : Int) from by omega]
      rfl
     by_cases hm : (((l.length - u) / (s + 1) : Nat) : Int) < n
     · rw [if_pos hm]
       rcases hs with rfl | rfl
       · exact tr [cl c, nf, na (t := decide (n < 0)) (decide_eq_false hn), lnq 22 l, wq 24 ((l.length : Int) - (u : Int)) ((l.length : Int) - (u : Int)) (by omega), .eqv 26 (ni (IntKind.i64.wrap (((l.length : Int) - (u : Int)).tdiv 1))) (ni ((l.length - u) / (0 + 1) : Nat)) (by rw [show (((l.length : Int) - (u : Int)).tdiv 1) = ((l.length - u) / (0 + 1) : Nat) from hq, wr6 (by omega)]), ye (t := decide (n > (((l.length - u) / (0 + 1) : Nat) : Int))) (decide_eq_true (by omega))] (by kernel_rfl)
       · exact tr [cl c, nf, na (t := decide (n < 0)) (decide_eq_false hn), lnq 22 l, wq 24 ((l.length : Int) - (u : Int)) ((l.length : Int) - (u : Int)) (by omega), .eqv 26 (ni (IntKind.i64.wrap (((l.length : Int) - (u : Int)).tdiv 16))) (ni ((l.length - u) / (15 + 1) : Nat)) (by rw [show (((l.length : Int) - (u : Int)).tdiv 16) = ((l.length - u) / (15 + 1) : Nat) from hq, wr6 (by omega)]), ye (t := decide (n > (((l.length - u) / (15 + 1) : Nat) : Int))) (decide_eq_true (by omega))] (by kernel_rfl)
     · rw [if_neg hm]
       rcases hs with rfl | rfl
       · exact tr [cl c, nf, na (t := decide (n < 0)) (decide_eq_false hn), lnq 22 l, wq 24 ((l.length : Int) - (u : Int)) ((l.length : Int) - (u : Int)) (by omega), .eqv 26 (ni (IntKind.i64.wrap (((l.length : Int) - (u : Int)).tdiv 1))) (ni ((l.length - u) / (0 + 1) : Nat)) (by rw [show (((l.length : Int) - (u : Int)).tdiv 1) = ((l.length - u) / (0 + 1) : Nat) from hq, wr6 (by omega)]), na (t := decide (n > (((l.length - u) / (0 + 1) : Nat) : Int))) (decide_eq_false (by omega))] (by kernel_rfl)
       · exact tr [cl c, nf, na (t := decide (n < 0)) (decide_eq_false hn), lnq 22 l, wq 24 ((l.length : Int) - (u : Int)) ((l.length : Int) - (u : Int)) (by omega), .eqv 26 (ni (IntKind.i64.wrap (((l.length : Int) - (u : Int)).tdiv 16))) (ni ((l.length - u) / (15 + 1) : Nat)) (by rw [show (((l.length : Int) - (u : Int)).tdiv 16) = ((l.length - u) / (15 + 1) : Nat) from hq, wr6 (by omega)]), na (t := decide (n > (((l.length - u) / (15 + 1) : Nat) : Int))) (decide_eq_false (by omega))] (by kernel_rfl)
 · rw [if_pos he]
   exact tr [cl c, ye (t := e != 0) (by simpa using he)] (by kernel_rfl)
/-- What lies behind a place. -/
def slD {P : Program} (l : List UInt8) (p : Nat) (hp : p ≤ l.length) : Fa P := .slc (byL l) p (byL l).length 1 (byL (l.drop p)) (by rw [List.take_of_length_le (Nat.le_refl _), byL_drop]) (by rw [byL_len]; omega) (byL_z _)
/-- The boxes of a reader. -/
def rdB (l : List UInt8) (p : Nat) : List HO := [.bx 39 [.sl (byL l)], .bx 3 [ni p]]
theorem e_reader (l : List UInt8) (p : Nat) : PureT PP 166 [] [.sl (byL l), ni p] (.io 0 (rdB l p) (.cl 186 [.lp 0 0, .lp 1 0])) := trT [] (by kernel_rfl)
theorem e_nextW (l : List UInt8) (p : Nat) (hp : p ≤ l.length) (hb : l.length ≤ 4611686018427387904) : PureT PP 186 (rdB l p) [.lp 0 0, .lp 1 0] (.io 2 (rdB l (p + (W.dec (l.drop p)).2.1)) (.tu [ni (W.dec (l.drop p)).1, ni ((p + (W.dec (l.drop p)).2.1 : Nat) : Int), ni (W.dec (l.drop p)).2.2])) := by
 have c := e_wgetint (l.drop p)
 have h1 := W.dec_at_le (l.drop p)
 rw [List.length_drop] at h1
 rcases hd : W.dec (l.drop p) with ⟨n, u, e⟩
 rw [hd] at c h1
 simp only at h1 ⊢
 exact trT [slD l p hp, cl c, wq 18 ((p : Int) + (u : Int)) ((p + u : Nat) : Int) (by omega)] (by kernel_rfl)
/-- What a decoder of a list of numbers returns. -/
def tuI (r : List Int × Nat × Int) : V := .tu [zl r.1, ni (r.2.1 : Int), ni r.2.2]
noncomputable abbrev fwS : Func := fnOf PP 127
noncomputable def gSs (l : List UInt8) (n : Nat) (x : Nat × List Int × Nat × Nat) : St := at_ fwS [(6, ni x.2.2.2), (8, .cl 186 [.lp 0 0, .lp 1 0]), (9, .ow 2), (25, ni n), (26, ni x.1)] (rdB l x.2.2.1 ++ [.rw 3 1 (zs x.2.1)])
theorem e_wgetints (l : List UInt8) (hb : l.length ≤ 1000000) : Pure PP 127 [.sl (byL l)] (tuI (W.decI l)) := by
 have c := e_wcount l 0 (.inl rfl) (by omega)
 unfold W.decI W.decL
 by_cases hc : (W.cnt l (0 + 1)).2.2 = 0
 · obtain ⟨n, hn, hn2, hn3⟩ := W.cnt_bound hc
   rw [if_neg (by simp [hc])]
   rcases hd : W.cnt l (0 + 1) with ⟨k, p0, e⟩
   rw [hd] at c hc hn hn2 hn3
   simp only at hc hn hn2 hn3
   subst hc
   subst hn
   have hp0 : n + p0 ≤ l.length := by simpa using hn2
   rw [Int.toNat_natCast]
   show Pure PP _ _ (tuI (W.seqD W.dec l n p0 []))
   refine pf (by kernel_rfl) (.to mo_ [.ow 9 (.rw 3 1 [])] [6, 8, 9, 25, 26] [0, 1, 2] 3 [cl c, nf, .lend _ _ _ _ [] (e_reader l p0)] (td' := lp fwS 0) (σ' := gSs l n (0, [], p0, p0)) ?_ (by kernel_rfl))
   refine Gd.loop (gSs l n) (fun x => x.1 ≤ n ∧ x.2.1.length = x.1 ∧ x.2.2.1 = x.2.2.2 ∧ x.2.2.1 ≤ l.length ∧ W.seqD W.dec l n p0 [] = W.seqD W.dec l (n - x.1) x.2.2.1 x.2.1) (fun x => n - x.1) ?_ (0, [], p0, p0) ⟨Nat.zero_le _, rfl, rfl, by simp only; omega, rfl⟩
   rintro ⟨i, acc, p, q⟩ ⟨hi, ha, hpq, hp, hI⟩ ih
   simp only at hi ha hpq hp hI ih
   subst hpq
   by_cases h : i < n
   · have N := e_nextW l p hp (by omega)
     have hle := W.dec_at_le (l.drop p)
     rw [List.length_drop] at hle
     rw [show n - i = (n - (i + 1)) + 1 from by omega] at hI
     simp only [W.seqD] at hI
     rcases hx : W.dec (l.drop p) with ⟨x, u, e⟩
     rw [hx] at N hle hI
     simp only at N hle hI
     by_cases he : e = 0
     · subst he
       rw [if_neg (by simp)] at hI
       exact .to mo_ [.mv 2 4] [6, 8, 9, 25, 26] [0, 1, 2] 3 [ye (t := decide ((i : Int) < (n : Int))) (decide_eq_true (by omega)), .lend _ _ _ _ [0, 1] N, nf, .app (zs acc) (zs [x]) (zs (acc ++ [x])) 1000000 (zs_app _ _).symm Nat.zero_lt_one (by rw [zs_len, List.length_append]; simp; omega), inc 42 i (by omega)] (ih (i + 1, acc ++ [x], p + u, p + u) ⟨h, by simp [ha], rfl, by simp only; omega, hI⟩ (by simp only; omega)) (by kernel_rfl)
     · rw [if_pos he] at hI
       rw [hI]
       exact fi [ye (t := decide ((i : Int) < (n : Int))) (decide_eq_true (by omega)), .lend _ _ _ _ [0, 1] N, ye (t := e != 0) (by simpa using he)] (by kernel_rfl) (by kernel_rfl)
   · have hi2 : i = n := by omega
     subst hi2
     rw [Nat.sub_self] at hI
     rw [hI]
     exact fi [na (t := decide ((i : Int) < (i : Int))) (decide_eq_false (by omega))] (by kernel_rfl) (by kernel_rfl)
 · rw [if_pos hc]
   rcases hd : W.cnt l (0 + 1) with ⟨n, u, e⟩
   rw [hd] at c hc
   simp only at hc ⊢
   exact tr [cl c, ye (t := e != 0) (by simpa using hc)] (by kernel_rfl)
end
end Go.Proofs.YtnpdpjfdgialeaaGreatDoor.E
namespace Go.Proofs.YtnpdpjfdgialeaaGreatDoor.E
open Go.RowKit
set_option linter.unusedVariables false
set_option linter.unusedSimpArgs false
section
variable {α : Type}
theorem tk_step {l m : List α} {i : Nat} {a b : α} (h : l.take i = m.take i) (ha : l[i]? = some a) (hb : m[i]? = some b) (e : a = b) : l.take (i + 1) = m.take (i + 1) := by
 rw [List.take_add_one, List.take_add_one, h, ha, hb, e]
theorem tk_eq {l m : List α} {i : Nat} (h : l.take i = m.take i) (hi : ¬ i < l.length) (hl : l.length = m.length) : l = m := by
 rw [List.take_of_length_le (by omega), List.take_of_length_le (by omega)] at h
 exact h
theorem tk_ne {l m : List α} {i : Nat} {a b : α} (ha : l[i]? = some a) (hb : m[i]? = some b) (e : a ≠ b) : l ≠ m := fun h => by
 subst h
 rw [ha] at hb
 injection hb with hb
 exact e hb
end
noncomputable abbrev fsB : Func := fnOf PP 13
theorem u8_ne {a b : UInt8} : ((a.toNat : Int) != (b.toNat : Int)) = decide (a ≠ b) := by
 by_cases h : a = b
 · subst h; simp
 · have : a.toNat ≠ b.toNat := fun e => h (UInt8.toNat_inj.1 e)
   simp [h]; omega
theorem e_same1 (a b : List UInt8) (hn : a.length ≤ 4611686018427387904) : Pure PP 13 [.sl (byL a), .sl (byL b)] (bo (decide (a = b))) := by
 by_cases hl : a.length = b.length
 · let X : Nat → St := fun i => at_ fsB [(0, .sl (byL a)), (1, .sl (byL b)), (5, ni i)] []
   refine pf (by kernel_rfl) (.to mo_ [] [0, 1, 5] [] 0 [na (t := ((byL a).length : Int) != ((byL b).length : Int)) (by simp [byL_len, hl])] (td' := lp fsB 0) (σ' := X 0) ?_ (by kernel_rfl))
   refine Gd.loop X (fun i => i ≤ a.length ∧ a.take i = b.take i) (fun i => a.length - i) ?_ 0 ⟨Nat.zero_le _, rfl⟩
   intro i ⟨hi, hI⟩ ih
   have hlt : ∀ h : i < a.length, decide ((i : Int) < ((byL a).length : Int)) = true := fun h => decide_eq_true (by rw [byL_len]; omega)
   by_cases h : i < a.length
   · obtain ⟨x, hx⟩ := by_el h
     obtain ⟨y, hy⟩ := by_el (l := b) (i := i) (by omega)
     by_cases e : x = y
     · exact .to mo_ [] [0, 1, 5] [] 0 [ye (hlt h), .sel _ _ _ (byL_at hx), .sel _ _ _ (byL_at hy), na (t := (x.toNat : Int) != (y.toNat : Int)) (by rw [u8_ne]; simp [e]), inc 16 i (by omega)] (ih (i + 1) ⟨h, tk_step hI hx hy e⟩ (by omega)) (by kernel_rfl)
     · rw [show decide (a = b) = false from decide_eq_false (tk_ne hx hy e)]
       exact fi [ye (hlt h), .sel _ _ _ (byL_at hx), .sel _ _ _ (byL_at hy), ye (t := (x.toNat : Int) != (y.toNat : Int)) (by rw [u8_ne]; simp [e])] (by kernel_rfl) (by kernel_rfl)
   · rw [show decide (a = b) = true from decide_eq_true (tk_eq hI h hl)]
     exact fi [na (t := decide ((i : Int) < ((byL a).length : Int))) (decide_eq_false (by rw [byL_len]; omega))] (by kernel_rfl) (by kernel_rfl)
 · rw [show decide (a = b) = false from decide_eq_false fun e => hl (by rw [e])]
   exact tr [ye (t := ((byL a).length : Int) != ((byL b).length : Int)) (by simp [byL_len]; omega)] (by kernel_rfl)
noncomputable abbrev frI : Func := fnOf PP 104
section
variable {n : Int} {k : Nat}
/-- The digits of a number, the least first. -/
def leD (M i : Nat) : List UInt8 := (List.range i).map fun j => UInt8.ofNat (M / 256 ^ j)
theorem leD_succ (M i : Nat) : leD M (i + 1) = leD M i ++ [UInt8.ofNat (M / 256 ^ i)] := by simp [leD, List.range_succ]
theorem leD_len (M i : Nat) : (leD M i).length = i := by simp [leD]
theorem leD_at {M i k : Nat} (h : i < k) : (leD M k)[i]? = some (UInt8.ofNat (M / 256 ^ i)) := by simp [leD, h]
/-- One less, from one to nothing. -/
def dn : Nat → Int
 | 0 => -1
 | i + 1 => (i : Int)
theorem dn_eq (i : Nat) : (i : Int) - 1 = dn i := by cases i <;> simp [dn]
theorem dn_in (i : Nat) (h : i < 1000000) : -9223372036854775808 ≤ dn i ∧ dn i ≤ 9223372036854775807 := by cases i <;> simp [dn]; omega
noncomputable def rI2 (n : Int) (k : Nat) (j : Nat) (l : List UInt8) : St := at_ frI [(0, ni n), (4, .ow 0), (6, .ow 2), (7, ni (dn j))] [.rw 5 1 (byL (leD (W.mag n) k)), .dead, .rw 5 1 (byL l)]
theorem rI_tail (hk : W.wid (W.mag n) = k) (h8 : k ≤ 8) (l0 : List UInt8) (h0 : (W.enc n).take 1 = l0) : Gd PP 104 (.o 5 1 (byL (W.enc n))) (lp frI 1) (rI2 n k k l0) := by
 refine Gd.loop (fun (x : Nat × List UInt8) => rI2 n k x.1 x.2) (fun x => x.1 ≤ k ∧ (W.enc n).take (k - x.1 + 1) = x.2) (fun x => x.1) ?_ (k, l0) ⟨Nat.le_refl _, by simpa using h0⟩
 rintro ⟨j, l⟩ ⟨hj, hl⟩ ih
 simp only at hj hl ih ⊢
 cases j with
 | zero =>
   rw [Nat.sub_zero, W.enc_all n hk] at hl
   subst hl
   exact fi [nf] (by kernel_rfl) (by kernel_rfl)
 | succ i =>
   have e2 := wI_take (j := i) hk hj hl
   have h9 := take9 n (k - i + 1)
   rw [e2] at h9
   have hs : (byL (leD (W.mag n) k))[i]? = some [u8v (UInt8.ofNat (W.mag n / 256 ^ i))] := byL_at (leD_at (by omega))
   have hge : decide ((i : Int) ≥ 0) = true := decide_eq_true (by omega)
   have ap : byL l ++ byL [bI n i] = byL (l ++ [bI n i]) := byL_app _ _
   have hlen : (byL (l ++ [bI n i])).length ≤ 100 := by rw [byL_len]; omega
   have nx := ih (i, l ++ [bI n i]) ⟨by omega, e2⟩ (Nat.lt_succ_self i)
   have hq : (i : Int) - 1 = dn i ∧ -9223372036854775808 ≤ dn i ∧ dn i ≤ 9223372036854775807 := ⟨dn_eq i, dn_in i (by omega)⟩
   by_cases hn : n < 0
   · have hng : W.neg n = true := by unfold W.neg; simpa using hn
     have hb : IntKind.u8.wrap (255 - ((UInt8.ofNat (W.mag n / 256 ^ i)).toNat : Int)) = ((bI n i).toNat : Int) := by
      have := (UInt8.ofNat (W.mag n / 256 ^ i)).toNat_lt
      rw [IntKind.wrap_u8']
      unfold bI
      rw [hng, W.fx_toNat]
      simp only [if_true]
      omega
     exact .to mo_ [.mv 2 4] [0, 4, 6, 7] [0, 2] 3 [ye hge, .sel _ _ _ hs, .sel _ _ _ hs, ye (t := decide (n < 0)) (decide_eq_true hn), .eqv 53 (.k (.int .u8 (IntKind.u8.wrap (255 - ((UInt8.ofNat (W.mag n / 256 ^ i)).toNat : Int))))) (u8v (bI n i)) (by rw [hb]; rfl), .app (byL l) (byL [bI n i]) (byL (l ++ [bI n i])) 100 ap Nat.zero_lt_one hlen, wq 45 ((i : Int) - 1) (dn i) hq] nx (by kernel_rfl)
   · have hng : W.neg n = false := by unfold W.neg; simpa using hn
     have hb : UInt8.ofNat (W.mag n / 256 ^ i) = bI n i := by unfold bI; rw [hng]; rfl
     rw [hb] at hs
     exact .to mo_ [.mv 2 4] [0, 4, 6, 7] [0, 2] 3 [ye hge, .sel _ _ _ hs, .sel _ _ _ hs, na (t := decide (n < 0)) (decide_eq_false hn), .app (byL l) (byL [bI n i]) (byL (l ++ [bI n i])) 100 ap Nat.zero_lt_one hlen, wq 45 ((i : Int) - 1) (dn i) hq] nx (by kernel_rfl)
noncomputable def rI1 (n : Int) (i : Nat) : St := at_ frI [(0, ni n), (3, ni ((W.mag n / 256 ^ i : Nat) : Int)), (4, .ow 0)] [.rw 5 1 (byL (leD (W.mag n) i))]
theorem rI_loop (hn : W.Is64 n) : Gd PP 104 (.o 5 1 (byL (W.enc n))) (lp frI 0) (rI1 n 0) := by
 have hm := W.mag_lt hn
 refine Gd.loop (rI1 n) (fun i => i ≤ 8 ∧ (i = 0 ∨ 256 ^ (i - 1) ≤ W.mag n)) (fun i => 8 - i) ?_ 0 ⟨by omega, .inl rfl⟩
 intro i ⟨hi, hI⟩ ih
 have hd : W.mag n / 256 ^ i ≤ W.mag n := Nat.div_le_self ..
 by_cases h : 0 < W.mag n / 256 ^ i
 · have hle := wI_yes h
   have hi8 : i < 8 := by
    rcases Nat.lt_or_ge i 8 with h1 | h1
    · exact h1
    · have : 256 ^ 8 ≤ 256 ^ i := Nat.pow_le_pow_right (by omega) h1
      omega
   have hx := ih (i + 1) ⟨by omega, .inr (by simpa using hle)⟩ (by omega)
   have hdd : W.mag n / 256 ^ (i + 1) = W.mag n / 256 ^ i / 256 := by rw [Nat.pow_succ, Nat.div_div_eq_div_mul]
   have hsc := leD_succ (W.mag n) i
   have hln := leD_len (W.mag n) (i + 1)
   unfold rI1 at hx
   rw [hdd, hsc] at hx
   rw [hsc] at hln
   unfold rI1
   generalize leD (W.mag n) i = ds at hx hln ⊢
   generalize W.mag n / 256 ^ i = q at h hd hx hln ⊢
   have e1 : IntKind.u8.wrap ((q : Int).tmod 256) = ((UInt8.ofNat q).toNat : Int) := by
    have : (q : Int).tmod 256 = ((q % 256 : Nat) : Int) := rfl
    rw [this, W.wrap_u8_nat]
    congr 1
    apply congrArg
    apply UInt8.toNat_inj.1
    simp
   have e2 : IntKind.i64.wrap ((q : Int).tdiv 256) = ((q / 256 : Nat) : Int) := by
    have : (q : Int).tdiv 256 = ((q / 256 : Nat) : Int) := rfl
    rw [this, wr6 (by omega)]
   exact .to mo_ [.mv 0 2] [0, 3, 4] [0] 1 [ye (t := decide ((q : Int) > 0)) (decide_eq_true (by omega)), .eqv 19 (.k (.int .u8 (IntKind.u8.wrap ((q : Int).tmod 256)))) (u8v (UInt8.ofNat q)) (by rw [e1]; rfl), .app (byL ds) (byL [UInt8.ofNat q]) (byL (ds ++ [UInt8.ofNat q])) 100 (byL_app _ _) Nat.zero_lt_one (by rw [byL_len, hln]; omega), .eqv 23 (ni (IntKind.i64.wrap ((q : Int).tdiv 256))) (ni ((q / 256 : Nat) : Int)) (by rw [e2])] hx (by kernel_rfl)
 · have hk := wI_wid hn (wI_no h) hI
   have T := rI_tail hk hi _ (W.enc_head n hk)
   have hz : W.mag n / 256 ^ i = 0 := Nat.le_zero.1 (Nat.not_lt.1 h)
   have hln := leD_len (W.mag n) i
   unfold rI1
   rw [hz]
   by_cases hneg : n < 0
   · have hng : W.neg n = true := by unfold W.neg; simpa using hneg
     have hb : IntKind.u8.wrap (IntKind.i64.wrap (127 - (i : Int))) = ((W.fx (W.neg n) (UInt8.ofNat (128 + i))).toNat : Int) := by
      rw [wr6 (by omega), IntKind.wrap_u8', hng, W.fx_toNat]
      simp <;> omega
     exact .to mo_ [] [0, 4, 6, 7] [0, 2] 3 [nf, .eqv 25 (ni ((byL (leD (W.mag n) i)).length : Int)) (ni i) (by rw [byL_len, hln]), na (t := decide (n ≥ 0)) (decide_eq_false (by omega)), .eqv 37 (.k (.int .u8 (IntKind.u8.wrap (IntKind.i64.wrap (127 - (i : Int)))))) (u8v (W.fx (W.neg n) (UInt8.ofNat (128 + i)))) (by rw [hb]; rfl), .app [] (byL [W.fx (W.neg n) (UInt8.ofNat (128 + i))]) (byL [W.fx (W.neg n) (UInt8.ofNat (128 + i))]) 100 rfl Nat.zero_lt_one (by show 1 ≤ 100; decide), wq 41 ((i : Int) - 1) (dn i) ⟨dn_eq i, dn_in i (by omega)⟩] T (by kernel_rfl)
   · have hng : W.neg n = false := by unfold W.neg; simpa using hneg
     have hb : IntKind.u8.wrap (IntKind.i64.wrap (128 + (i : Int))) = ((W.fx (W.neg n) (UInt8.ofNat (128 + i))).toNat : Int) := by
      rw [wr6 (by omega), IntKind.wrap_u8', hng, W.fx_toNat]
      simp <;> omega
     exact .to mo_ [] [0, 4, 6, 7] [0, 2] 3 [nf, .eqv 25 (ni ((byL (leD (W.mag n) i)).length : Int)) (ni i) (by rw [byL_len, hln]), ye (t := decide (n ≥ 0)) (decide_eq_true (by omega)), .eqv 31 (.k (.int .u8 (IntKind.u8.wrap (IntKind.i64.wrap (128 + (i : Int)))))) (u8v (W.fx (W.neg n) (UInt8.ofNat (128 + i)))) (by rw [hb]; rfl), .app [] (byL [W.fx (W.neg n) (UInt8.ofNat (128 + i))]) (byL [W.fx (W.neg n) (UInt8.ofNat (128 + i))]) 100 rfl Nat.zero_lt_one (by show 1 ≤ 100; decide), wq 41 ((i : Int) - 1) (dn i) ⟨dn_eq i, dn_in i (by omega)⟩] T (by kernel_rfl)
theorem e_rint (hn : W.Is64 n) : Pure PP 104 [ni n] (.o 5 1 (byL (W.enc n))) := by
 have L := rI_loop hn
 have h0 : W.mag n / 256 ^ 0 = W.mag n := Nat.div_one _
 unfold rI1 at L
 rw [h0] at L
 have hm := W.mag_lt hn
 by_cases h : n < 0
 · have e : -1 - n = (W.mag n : Int) := by unfold W.mag; rw [if_pos h]; omega
   exact pf (by kernel_rfl) (.to mo_ [.ow 4 (.rw 5 1 [])] [0, 3, 4] [0] 1 [ye (t := decide (n < 0)) (decide_eq_true h), wq 13 (-1 - n) (W.mag n) (by rw [e]; omega)] L (by kernel_rfl))
 · have e : n = (W.mag n : Int) := by unfold W.mag; rw [if_neg h]; omega
   exact pf (by kernel_rfl) (.to mo_ [.ow 4 (.rw 5 1 [])] [0, 3, 4] [0] 1 [.eqv 3 (ni n) (ni (W.mag n)) (by rw [← e]), na (t := decide (n < 0)) (decide_eq_false h)] L (by kernel_rfl))
end
noncomputable abbrev frL : Func := fnOf PP 66
theorem e_rints {l : List Int} (hl : ∀ x ∈ l, W.Is64 x) (hb : l.length ≤ 100000) : Pure PP 66 [zl l] (.o 5 1 (byL (W.encI l))) := by
 have hz := zs_len l
 let P : Nat → List UInt8 := fun i => W.enc l.length ++ (l.take i).flatMap W.enc
 let X : Nat → St := fun i => at_ frL [(0, zl l), (3, .ow 0), (4, ni i)] [.rw 5 1 (byL (P i))]
 have h0 : P 0 = W.enc l.length := by simp [P]
 have hn : P l.length = W.encI l := by simp only [P]; rw [List.take_length]; rfl
 have hPl : ∀ i, (P i).length ≤ (W.encI l).length := fun i => by
  have := W.flat_le W.enc l i
  simp only [P, W.encI, List.length_append]; omega
 have hle := W.encI_le l
 have h64 : W.Is64 (l.length : Int) := W.nat64 (by omega)
 refine pf (by kernel_rfl) (.to mo_ [] [0, 3, 4] [0] 1 [.eqv 6 (ni ((zs l).length : Int)) (ni (l.length : Int)) (by rw [hz]), cl (e_rint h64)] (td' := lp frL 0) (σ' := at_ frL [(0, zl l), (3, .ow 0), (4, ni 0)] [.rw 5 1 (byL (W.enc l.length))]) ?_ (by kernel_rfl))
 rw [← h0]
 refine Gd.loop X (fun i => i ≤ l.length) (fun i => l.length - i) ?_ 0 (Nat.zero_le _)
 intro i hi ih
 by_cases h : i < l.length
 · have e := zs_el h
   have hx := num_el h
   generalize l.getD i 0 = d at e hx
   have hd : W.Is64 d := hl d (List.mem_of_getElem? hx)
   have eP : P (i + 1) = P i ++ W.enc d := encI_take hx
   have h1 := hPl (i + 1)
   have h2 := (W.enc_le d).1
   exact .to mo_ [.mv 0 2] [0, 3, 4] [0] 1 [ye (t := decide ((i : Int) < ((zs l).length : Int))) (decide_eq_true (by omega)), .sel _ _ _ e, cl (e_rint hd), .app (byL (P i)) (byL (W.enc d)) (byL (P (i + 1))) 1000000 (by rw [byL_app, eP]) (by rw [byL_len]; omega) (by rw [byL_len]; omega), inc 13 i (by omega)] (ih (i + 1) h (by omega)) (by kernel_rfl)
 · have hi2 : i = l.length := by omega
   subst hi2
   rw [← hn]
   exact fi [na (t := decide ((l.length : Int) < ((zs l).length : Int))) (decide_eq_false (by omega))] (by kernel_rfl) (by kernel_rfl)
section
end
end Go.Proofs.YtnpdpjfdgialeaaGreatDoor.E
