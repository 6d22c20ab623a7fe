/-
 CODES OF NUMBERS, by the engine: lists of the reference, integers and rationals of both.
-/
import Derived.Test.YtmhliomemdhmiaaGreatDoorEtA
import Derived.Test.YtmhliomemdhmiaaGreatDoorWalkMul
import Derived.Lib.SliceRun
import Derived.Test.YtmhliomemdhmiaaGreatDoorEqA
namespace Go.Proofs.YtmhliomemdhmiaaGreatDoor.E
open Go.RowKit
set_option linter.unusedVariables false
set_option linter.unusedSimpArgs false
noncomputable abbrev fwG : Func := fnOf PP 173
/-- What a decoder of numbers returns. -/
def tu3 (r : Int × Nat × Int) : V := .tu [ni r.1, ni (r.2.1 : Int), ni r.2.2]
section
variable {hd : UInt8} {t l : List UInt8} {g : Bool} {K : Nat}
theorem wr6 {x : Int} (h : -9223372036854775808 ≤ x ∧ x ≤ 9223372036854775807) : IntKind.i64.wrap x = x := by rw [IntKind.wrap_i64]; omega
theorem xor_hd (hK : (W.fx g hd).toNat = 128 + K) : IntKind.i64.wrap (IntKind.i64.wrap (bits BinOp.xor IntKind.u8 (hd.toNat : Int) (W.fl g)) - 128) = (K : Int) := by
 have := (W.fx g hd).toNat_lt
 have e := wr6 (x := ((128 + K : Nat) : Int)) (by omega)
 rw [W.xor_fl g hd, hK, e, wr6 (by omega)]
 omega
/-- The number under the flip, as the code makes it. -/
theorem val_or (t : List UInt8) (g : Bool) {i : Nat} {b : UInt8} (hb : t[i]? = some b) (hi : i < 8) : bits BinOp.or IntKind.u64 (IntKind.u64.wrap ((W.val ((t.take i).map (W.fx g)) : Int) * 2 ^ 8)) (IntKind.u64.wrap (bits BinOp.xor IntKind.u8 (b.toNat : Int) (W.fl g))) = ((W.val ((t.take (i + 1)).map (W.fx g)) : Nat) : Int) := by
 have h1 := W.val_take_lt t g i
 have h2 : 256 ^ i ≤ 256 ^ 7 := Nat.pow_le_pow_right (by omega) (by omega)
 have h3 := (W.fx g b).toNat_lt
 have e1 : IntKind.u64.wrap ((W.val ((t.take i).map (W.fx g)) : Int) * 2 ^ 8) = (W.val ((t.take i).map (W.fx g)) : Int) * 256 := by rw [IntKind.wrap_u64]; omega
 have e2 : IntKind.u64.wrap (bits BinOp.xor IntKind.u8 (b.toNat : Int) (W.fl g)) = ((W.fx g b).toNat : Int) := by rw [W.xor_fl g b, IntKind.wrap_u64]; omega
 rw [e1, e2, W.val_step t g i b hb, W.or_step _ _ (by omega) h3]
noncomputable def gIs (hd : UInt8) (t : List UInt8) (g : Bool) (K i m : Nat) : St := at_ fwG [(5, .k (.int .u8 (W.fl g))), (6, ni K), (7, u64 m), (46, .sl (byL (t.take K))), (47, ni K), (48, ni i)] []
theorem gI_loop (hg : g = decide (hd.toNat < 128)) (hK : (W.fx g hd).toNat = 128 + K) (h8 : K ≤ 8) (hl : K ≤ t.length) (hz : 0 < K → ∃ b1, t[0]? = some b1 ∧ 0 < (W.fx g b1).toNat) : Gd PP 173 (tu3 (W.dec (hd :: t))) (lp fwG 0) (gIs hd t g K 0 0) := by
 have hv := W.dec_val hd t g K hg hK h8 hl hz
 have h0 : W.val ((t.take 0).map (W.fx g)) = 0 := rfl
 conv => arg 5; rw [← h0]
 refine Gd.loop (fun i => gIs hd t g K i (W.val ((t.take i).map (W.fx g)))) (fun i => i ≤ K) (fun i => K - i) ?_ 0 (Nat.zero_le _)
 intro i hi ih
 by_cases h : i < K
 · obtain ⟨b, hb⟩ := by_el (l := t) (i := i) (by omega)
   have k0 : (t.take K)[i]? = some b := by rw [List.getElem?_take_of_lt h]; exact hb
   exact .to mo_ [] [5, 6, 7, 46, 47, 48] [] 0 [ye (t := decide ((i : Int) < (K : Int))) (decide_eq_true (by omega)), .sel _ _ _ (byL_at k0), .eqv 58 (.k (.int .u64 (bits BinOp.or IntKind.u64 (IntKind.u64.wrap ((W.val ((t.take i).map (W.fx g)) : Int) * 2 ^ 8)) (IntKind.u64.wrap (bits BinOp.xor IntKind.u8 (b.toNat : Int) (W.fl g)))))) (u64 (W.val ((t.take (i + 1)).map (W.fx g)))) (by rw [val_or t g hb (by omega)]; rfl), inc 59 i (by omega)] (ih (i + 1) h (by omega)) (by kernel_rfl)
 · have hi2 : i = K := by omega
   subst hi2
   have hlt := W.val_take_lt t g i
   have hp : 256 ^ i ≤ 256 ^ 8 := Nat.pow_le_pow_right (by omega) (by omega)
   rw [hv]
   clear hv ih hz h0
   generalize W.val ((t.take i).map (W.fx g)) = M at hlt
   have hM : M < 18446744073709551616 := by omega
   have hf : ((M : Int).fdiv (2 ^ 63)) = ((M / 9223372036854775808 : Nat) : Int) := by rw [Int.fdiv_eq_ediv_of_nonneg _ (by decide)]; rfl
   by_cases h63 : 9223372036854775808 ≤ M
   · rw [if_pos h63]
     exact fi [na (t := decide ((i : Int) < (i : Int))) (decide_eq_false (by omega)), ye (t := decide ((M : Int).fdiv (2 ^ 63) > 0)) (by rw [hf]; exact decide_eq_true (by omega))] (by kernel_rfl) (by kernel_rfl)
   · rw [if_neg h63]
     have e1 : IntKind.i64.wrap (bits BinOp.xor IntKind.u64 IntKind.u64.max (M : Int)) = -1 - (M : Int) := by rw [W.u64_not M (by omega), IntKind.wrap_i64]; omega
     cases g with
     | true => exact fi [na (t := decide ((i : Int) < (i : Int))) (decide_eq_false (by omega)), na (t := decide ((M : Int).fdiv (2 ^ 63) > 0)) (by rw [hf]; exact decide_eq_false (by omega)), yt, .eqv 68 (ni (IntKind.i64.wrap (bits BinOp.xor IntKind.u64 IntKind.u64.max (M : Int)))) (ni (-1 - (M : Int))) (by rw [e1]), inc 70 i (by omega)] (by kernel_rfl) (by kernel_rfl)
     | false => exact fi [na (t := decide ((i : Int) < (i : Int))) (decide_eq_false (by omega)), na (t := decide ((M : Int).fdiv (2 ^ 63) > 0)) (by rw [hf]; exact decide_eq_false (by omega)), nf, wq 68 (M : Int) (M : Int) (by omega), inc 70 i (by omega)] (by kernel_rfl) (by kernel_rfl)
theorem gI_body (hg : g = decide (hd.toNat < 128)) : Gd PP 173 (tu3 (W.dec (hd :: t))) (rg fwG 6) (at_ fwG [(0, .sl (byL (hd :: t))), (5, .k (.int .u8 (W.fl g)))] []) := by
 obtain ⟨K, hK⟩ : ∃ K, (W.fx g hd).toNat = 128 + K := by
  refine ⟨(W.fx g hd).toNat - 128, ?_⟩
  rw [W.fx_toNat, hg]
  have := hd.toNat_lt
  by_cases h : hd.toNat < 128 <;> simp [h] <;> omega
 have hKb : K ≤ 127 := by have := (W.fx g hd).toNat_lt; omega
 have x := xor_hd hK
 have hln : (byL (hd :: t)).length = t.length + 1 := byL_len _
 have s0 : (byL (hd :: t))[0]? = some [u8v hd] := rfl
 let q : F_ := .eqv 23 (ni (IntKind.i64.wrap (IntKind.i64.wrap (bits BinOp.xor IntKind.u8 (hd.toNat : Int) (W.fl g)) - 128))) (ni K) (by rw [x])
 by_cases h8 : K ≤ 8
 · by_cases hl : K ≤ t.length
   · have q8 : decide ((K : Int) > 8) = false := decide_eq_false (by omega)
     have ql : decide (((byL (hd :: t)).length : Int) ≤ (K : Int)) = false := decide_eq_false (by rw [hln]; omega)
     have hsl : ((byL (hd :: t)).take (K + 1)).drop 1 = byL (t.take K) := by rw [← byL_take]; rfl
     have hlk : (t.take K).length = K := by rw [List.length_take]; omega
     by_cases h0 : 0 < K
     · obtain ⟨b1, k0⟩ := by_el (l := t) (i := 0) (by omega)
       have s1 : (byL (hd :: t))[1]? = some [u8v b1] := byL_at k0
       have xb := W.xor_fl g b1
       by_cases hz : (W.fx g b1).toNat = 0
       · rw [W.dec_zero hd t g K hg hK h8 hl h0 b1 k0 hz]
         exact fi [.sel _ _ _ s0, q, na q8, na ql, ye (t := decide ((K : Int) > 0)) (decide_eq_true (by omega)), .sel _ _ _ s1, .eqv 41 (bo (bits BinOp.xor IntKind.u8 (b1.toNat : Int) (W.fl g) == 0)) (bo true) (by rw [xb, hz]; rfl), yt] (by kernel_rfl) (by kernel_rfl)
       · have L := gI_loop hg hK h8 hl (fun _ => ⟨b1, k0, by omega⟩)
         exact .to mo_ [] [5, 6, 7, 46, 47, 48] [] 0 [.sel _ _ _ s0, q, na q8, na ql, ye (t := decide ((K : Int) > 0)) (decide_eq_true (by omega)), .sel _ _ _ s1, .eqv 41 (bo (bits BinOp.xor IntKind.u8 (b1.toNat : Int) (W.fl g) == 0)) (bo false) (by rw [xb]; simp [bo]; omega), nf, inc 45 K (by omega), .slc (byL (hd :: t)) 1 (K + 1) 1 (byL (t.take K)) hsl (by rw [hln]; omega) (byL_z _), .eqv 47 (ni ((byL (t.take K)).length : Int)) (ni K) (by rw [byL_len, hlk])] L (by kernel_rfl)
     · have L := gI_loop hg hK h8 hl (fun h => absurd h h0)
       have hK0 : K = 0 := by omega
       subst hK0
       exact .to mo_ [] [5, 6, 7, 46, 47, 48] [] 0 [.sel _ _ _ s0, q, nf, na ql, nf, nf, .slc (byL (hd :: t)) 1 1 1 (byL (t.take 0)) hsl (by rw [hln]; omega) (byL_z _)] L (by kernel_rfl)
   · rw [W.dec_more hd t g K hg hK (by omega) (by omega)]
     exact fi [.sel _ _ _ s0, q, na (t := decide ((K : Int) > 8)) (decide_eq_false (by omega)), ye (t := decide (((byL (hd :: t)).length : Int) ≤ (K : Int))) (decide_eq_true (by rw [hln]; omega))] (by kernel_rfl) (by kernel_rfl)
 · rw [W.dec_big hd t g K hg hK (by omega)]
   exact fi [.sel _ _ _ s0, q, ye (t := decide ((K : Int) > 8)) (decide_eq_true (by omega))] (by kernel_rfl) (by kernel_rfl)
theorem e_wgetint (l : List UInt8) : Pure PP 173 [.sl (byL l)] (tu3 (W.dec l)) := by
 match l with
 | [] => exact tr [yt] (by kernel_rfl)
 | hd :: t =>
   have hln : (byL (hd :: t)).length = t.length + 1 := byL_len _
   have s0 : (byL (hd :: t))[0]? = some [u8v hd] := rfl
   have nz : (((byL (hd :: t)).length : Int) == 0) = false := by rw [hln]; simp; omega
   by_cases h : hd.toNat < 128
   · exact pf (by kernel_rfl) (.to mo_ [] [0, 5] [] 0 [na nz, .sel _ _ _ s0, ye (t := decide ((hd.toNat : Int) < 128)) (decide_eq_true (by omega))] (td' := rg fwG 6) (σ' := at_ fwG [(0, .sl (byL (hd :: t))), (5, .k (.int .u8 (W.fl true)))] []) (gI_body (by simp [h])) (by kernel_rfl))
   · exact pf (by kernel_rfl) (.to mo_ [] [0, 5] [] 0 [na nz, .sel _ _ _ s0, na (t := decide ((hd.toNat : Int) < 128)) (decide_eq_false (by omega))] (td' := rg fwG 6) (σ' := at_ fwG [(0, .sl (byL (hd :: t))), (5, .k (.int .u8 (W.fl false)))] []) (gI_body (by simp [h])) (by kernel_rfl))
theorem e_wcount (l : List UInt8) (s : Nat) (hs : s = 0 ∨ s = 15) (hb : l.length ≤ 4611686018427387904) : Pure PP 132 [.sl (byL l), ni ((s + 1 : Nat) : Int)] (tu3 (W.cnt l (s + 1))) := by
 have c := e_wgetint l
 have h1 := W.dec_at_le l
 unfold W.cnt
 rcases hd : W.dec l with ⟨n, u, e⟩
 rw [hd] at c h1
 simp only at h1 ⊢
 by_cases he : e = 0
 · rw [if_neg (by simp [he])]
   subst he
   by_cases hn : n < 0
   · rw [if_pos hn]
     exact tr [cl c, nf, ye (t := decide (n < 0)) (decide_eq_true hn)] (by kernel_rfl)
   · rw [if_neg hn]
     have hq : ((l.length : Int) - (u : Int)).tdiv ((s + 1 : Nat) : Int) = ((l.length - u) / (s + 1) : Nat) := by
      rw [show (l.length : Int) - (u : Int) = ((l.length - u : Nat) : Int) from by omega]
      rfl
     by_cases hm : (((l.length - u) / (s + 1) : Nat) : Int) < n
     · rw [if_pos hm]
       rcases hs with rfl | rfl
       · exact tr [cl c, nf, na (t := decide (n < 0)) (decide_eq_false hn), lnq 22 l, wq 24 ((l.length : Int) - (u : Int)) ((l.length : Int) - (u : Int)) (by omega), .eqv 26 (ni (IntKind.i64.wrap (((l.length : Int) - (u : Int)).tdiv 1))) (ni ((l.length - u) / (0 + 1) : Nat)) (by rw [show (((l.length : Int) - (u : Int)).tdiv 1) = ((l.length - u) / (0 + 1) : Nat) from hq, wr6 (by omega)]), ye (t := decide (n > (((l.length - u) / (0 + 1) : Nat) : Int))) (decide_eq_true (by omega))] (by kernel_rfl)
       · exact tr [cl c, nf, na (t := decide (n < 0)) (decide_eq_false hn), lnq 22 l, wq 24 ((l.length : Int) - (u : Int)) ((l.length : Int) - (u : Int)) (by omega), .eqv 26 (ni (IntKind.i64.wrap (((l.length : Int) - (u : Int)).tdiv 16))) (ni ((l.length - u) / (15 + 1) : Nat)) (by rw [show (((l.length : Int) - (u : Int)).tdiv 16) = ((l.length - u) / (15 + 1) : Nat) from hq, wr6 (by omega)]), ye (t := decide (n > (((l.length - u) / (15 + 1) : Nat) : Int))) (decide_eq_true (by omega))] (by kernel_rfl)
     · rw [if_neg hm]
       rcases hs with rfl | rfl
       · exact tr [cl c, nf, na (t := decide (n < 0)) (decide_eq_false hn), lnq 22 l, wq 24 ((l.length : Int) - (u : Int)) ((l.length : Int) - (u : Int)) (by omega), .eqv 26 (ni (IntKind.i64.wrap (((l.length : Int) - (u : Int)).tdiv 1))) (ni ((l.length - u) / (0 + 1) : Nat)) (by rw [show (((l.length : Int) - (u : Int)).tdiv 1) = ((l.length - u) / (0 + 1) : Nat) from hq, wr6 (by omega)]), na (t := decide (n > (((l.length - u) / (0 + 1) : Nat) : Int))) (decide_eq_false (by omega))] (by kernel_rfl)
       · exact tr [cl c, nf, na (t := decide (n < 0)) (decide_eq_false hn), lnq 22 l, wq 24 ((l.length : Int) - (u : Int)) ((l.length : Int) - (u : Int)) (by omega), .eqv 26 (ni (IntKind.i64.wrap (((l.length : Int) - (u : Int)).tdiv 16))) (ni ((l.length - u) / (15 + 1) : Nat)) (by rw [show (((l.length : Int) - (u : Int)).tdiv 16) = ((l.length - u) / (15 + 1) : Nat) from hq, wr6 (by omega)]), na (t := decide (n > (((l.length - u) / (15 + 1) : Nat) : Int))) (decide_eq_false (by omega))] (by kernel_rfl)
 · rw [if_pos he]
   exact tr [cl c, ye (t := e != 0) (by simpa using he)] (by kernel_rfl)
/-- What lies behind a place. -/
def slD {P : Program} (l : List UInt8) (p : Nat) (hp : p ≤ l.length) : Fa P := .slc (byL l) p (byL l).length 1 (byL (l.drop p)) (by rw [List.take_of_length_le (Nat.le_refl _), byL_drop]) (by rw [byL_len]; omega) (byL_z _)
/-- The boxes of a reader. -/
def rdB (l : List UInt8) (p : Nat) : List HO := [.bx 56 [.sl (byL l)], .bx 3 [ni p]]
theorem e_reader (l : List UInt8) (p : Nat) : PureT PP 133 [] [.sl (byL l), ni p] (.io 0 (rdB l p) (.cl 174 [.lp 0 0, .lp 1 0])) := trT [] (by kernel_rfl)
theorem e_next (l : List UInt8) (p : Nat) (hp : p ≤ l.length) (hb : l.length ≤ 4611686018427387904) : PureT PP 174 (rdB l p) [.lp 0 0, .lp 1 0] (.io 2 (rdB l (p + (W.dec (l.drop p)).2.1)) (.tu [ni (W.dec (l.drop p)).1, ni ((p + (W.dec (l.drop p)).2.1 : Nat) : Int), ni (W.dec (l.drop p)).2.2])) := by
 have c := e_wgetint (l.drop p)
 have h1 := W.dec_at_le (l.drop p)
 rw [List.length_drop] at h1
 rcases hd : W.dec (l.drop p) with ⟨n, u, e⟩
 rw [hd] at c h1
 simp only at h1 ⊢
 exact trT [slD l p hp, cl c, wq 18 ((p : Int) + (u : Int)) ((p + u : Nat) : Int) (by omega)] (by kernel_rfl)
/-- What a decoder of a list of numbers returns. -/
def tuI (r : List Int × Nat × Int) : V := .tu [zl r.1, ni (r.2.1 : Int), ni r.2.2]
noncomputable abbrev fwS : Func := fnOf PP 72
noncomputable def gSs (l : List UInt8) (n : Nat) (x : Nat × List Int × Nat × Nat) : St := at_ fwS [(6, ni x.2.2.2), (8, .cl 174 [.lp 0 0, .lp 1 0]), (9, .ow 2), (25, ni n), (26, ni x.1)] (rdB l x.2.2.1 ++ [.rw 3 1 (zs x.2.1)])
theorem e_wgetints (l : List UInt8) (hb : l.length ≤ 1000000) : Pure PP 72 [.sl (byL l)] (tuI (W.decI l)) := by
 have c := e_wcount l 0 (.inl rfl) (by omega)
 unfold W.decI W.decL
 by_cases hc : (W.cnt l (0 + 1)).2.2 = 0
 · obtain ⟨n, hn, hn2, hn3⟩ := W.cnt_bound hc
   rw [if_neg (by simp [hc])]
   rcases hd : W.cnt l (0 + 1) with ⟨k, p0, e⟩
   rw [hd] at c hc hn hn2 hn3
   simp only at hc hn hn2 hn3
   subst hc
   subst hn
   have hp0 : n + p0 ≤ l.length := by simpa using hn2
   rw [Int.toNat_natCast]
   show Pure PP _ _ (tuI (W.seqD W.dec l n p0 []))
   refine pf (by kernel_rfl) (.to mo_ [.ow 9 (.rw 3 1 [])] [6, 8, 9, 25, 26] [0, 1, 2] 3 [cl c, nf, .lend _ _ _ _ [] (e_reader l p0)] (td' := lp fwS 0) (σ' := gSs l n (0, [], p0, p0)) ?_ (by kernel_rfl))
   refine Gd.loop (gSs l n) (fun x => x.1 ≤ n ∧ x.2.1.length = x.1 ∧ x.2.2.1 = x.2.2.2 ∧ x.2.2.1 ≤ l.length ∧ W.seqD W.dec l n p0 [] = W.seqD W.dec l (n - x.1) x.2.2.1 x.2.1) (fun x => n - x.1) ?_ (0, [], p0, p0) ⟨Nat.zero_le _, rfl, rfl, by simp only; omega, rfl⟩
   rintro ⟨i, acc, p, q⟩ ⟨hi, ha, hpq, hp, hI⟩ ih
   simp only at hi ha hpq hp hI ih
   subst hpq
   by_cases h : i < n
   · have N := e_next l p hp (by omega)
     have hle := W.dec_at_le (l.drop p)
     rw [List.length_drop] at hle
     rw [show n - i = (n - (i + 1)) + 1 from by omega] at hI
     simp only [W.seqD] at hI
     rcases hx : W.dec (l.drop p) with ⟨x, u, e⟩
     rw [hx] at N hle hI
     simp only at N hle hI
     by_cases he : e = 0
     · subst he
       rw [if_neg (by simp)] at hI
       exact .to mo_ [.mv 2 4] [6, 8, 9, 25, 26] [0, 1, 2] 3 [ye (t := decide ((i : Int) < (n : Int))) (decide_eq_true (by omega)), .lend _ _ _ _ [0, 1] N, nf, .app (zs acc) (zs [x]) (zs (acc ++ [x])) 1000000 (zs_app _ _).symm Nat.zero_lt_one (by rw [zs_len, List.length_append]; simp; omega), inc 42 i (by omega)] (ih (i + 1, acc ++ [x], p + u, p + u) ⟨h, by simp [ha], rfl, by simp only; omega, hI⟩ (by simp only; omega)) (by kernel_rfl)
     · rw [if_pos he] at hI
       rw [hI]
       exact fi [ye (t := decide ((i : Int) < (n : Int))) (decide_eq_true (by omega)), .lend _ _ _ _ [0, 1] N, ye (t := e != 0) (by simpa using he)] (by kernel_rfl) (by kernel_rfl)
   · have hi2 : i = n := by omega
     subst hi2
     rw [Nat.sub_self] at hI
     rw [hI]
     exact fi [na (t := decide ((i : Int) < (i : Int))) (decide_eq_false (by omega))] (by kernel_rfl) (by kernel_rfl)
 · rw [if_pos hc]
   rcases hd : W.cnt l (0 + 1) with ⟨n, u, e⟩
   rw [hd] at c hc
   simp only at hc ⊢
   exact tr [cl c, ye (t := e != 0) (by simpa using hc)] (by kernel_rfl)
end
end Go.Proofs.YtmhliomemdhmiaaGreatDoor.E
namespace Go.Proofs.YtmhliomemdhmiaaGreatDoor.E
open Go.RowKit
set_option linter.unusedVariables false
set_option linter.unusedSimpArgs false
section
variable {α : Type}
end
section
variable {n : Int} {k : Nat}
end
section
variable {hd : UInt8} {t l : List UInt8} {g : Bool} {K : Nat}
end
end Go.Proofs.YtmhliomemdhmiaaGreatDoor.E
namespace Go.Proofs.YtmhliomemdhmiaaGreatDoor.E
open Go.RowKit
set_option linter.unusedVariables false
set_option linter.unusedSimpArgs false
section
variable {P : Program}
theorem two_of {α : Type} {xs : List α} (h : xs.length = 2) : ∃ x y, xs = [x, y] := by
 match xs, h with
 | [x, y], _ => exact ⟨x, y, rfl⟩
def mkEq (op : BinOp) (T yT : TypeId) (xs : List Operand) : Op := .binOp op T (xs.getD 0 (.tmp 0)) (xs.getD 1 (.tmp 0)) yT
def mkAp (T T2 : TypeId) (xs : List Operand) : Op := .call ⟨.builtin .append, #[xs.getD 0 (.tmp 0), xs.getD 1 (.tmp 0)], #[T, T2]⟩
/-- A row with elements is not nil. -/
theorem x_eqnil {T e yT : TypeId} (hT : P.underlying T = some (.slice e)) (hg : P.eqGuardType P.depth T = false) (c : List V) (l : List (List V)) : Ext P (mkEq .eql T yT) [.sl (c :: l), .k (.slice none 0 0)] [] [] (bo false) := by
 intro B M h m w a o xs ho K hl hr _ _
 obtain ⟨x, y, rfl⟩ := two_of hl
 have hx := hr 0 x _ rfl rfl
 have hy := Rep.k_inv (hr 1 y _ rfl rfl)
 generalize hu : a.eval x = u at hx
 cases hx with
 | sl _ ad b off cc z _ us h1 h2 h3 =>
  obtain ⟨rfl, _⟩ := h3 (by simp)
  have hq := Lib.run_eql_slice_nil (P := P) w T e (some ⟨b, off, none⟩) (c :: l).length cc 0 0 hT
  have hgd : (eqGuard .eql T x y (.slice (some ⟨b, off, none⟩) (c :: l).length cc) (.slice none 0 0)).run P w = .ok () w := by simp [eqGuard, hg]
  refine Exec.val (u := .bool false) (w' := w) ?_ (.same K (.k _ _))
  simp only [mkEq, List.getD_cons_zero, List.getD_cons_succ] at ho
  simp only [Option.isNone] at hq
  simp only [List.length_cons] at hq hgd hu
  simp [execOp, ho, hu, hy, hgd, hq]
/-- Nothing is appended. -/
theorem x_apk {T e : TypeId} (hT : P.underlying T = some (.slice e)) {n0 : Nat} (hs : szT P e = some n0) {b U z : Nat} {l : List (List V)} {X : Option Addr} {c2 : Nat} : Ext P (mkAp T T) [.ow b, .k (.slice X 0 c2)] [(b, .rw U z l)] [] (.ow b) := by
 intro B M h m w a o xs ho K hl hr hrd _
 obtain ⟨x, y, rfl⟩ := two_of hl
 have hx := hr 0 x _ rfl rfl
 have hy := Rep.k_inv (hr 1 y _ rfl rfl)
 have hb : h b = .rw U z l := hrd _ (List.mem_singleton.2 rfl)
 obtain ⟨v1, xs1, h1, h2, h3, h4, h5⟩ := K.rw b U z l hb
 generalize hu : a.eval x = u at hx
 cases hx with
 | ow _ _ ad n c hm =>
  rw [h1] at hm
  injection hm with hm
  subst hm
  have hle : n ≤ c := by
   rcases h3.2 with ⟨e1, e2⟩ | ⟨g, cap, cur, e1, _, _, e2, _⟩
   · injection e1 with e1 e3 e4; omega
   · injection e1 with e1 e3 e4; omega
  simp only [mkAp, List.getD_cons_zero, List.getD_cons_succ] at ho
  refine Exec.val (u := .slice ad n c) (w' := w) ?_ (.same K (.ow _ _ _ _ _ h1))
  simp [execOp, ho, resolve, invoke, builtin, hu, hy, append_none hT hs hle]
/-- A row without elements: whatever it is, nil or not. -/
theorem Pure.em {f : FuncId} {pre post : List V} {D : RD} (h : ∀ ad c, Pure P f (pre ++ .k (.slice ad 0 c) :: post) D) : Pure P f (pre ++ .sl [] :: post) D := by
 refine ⟨(h none 0).1, fun w M args hM ha => ?_⟩
 have h0 := ha.2 pre.length (.sl []) (by simp)
 generalize hu : args.getD pre.length undef = u at h0
 cases h0 with
 | sl _ ad b o c z _ us h1 h2 h3 =>
  refine (h ad c).2 w M args hM ⟨by rw [ha.1]; simp, fun j x hx => ?_, ha.3⟩
  by_cases hj : j = pre.length
  · subst hj
    simp at hx
    subst hx
    rw [hu]
    exact .k _ _
  · refine ha.2 j x ?_
    rcases Nat.lt_or_ge j pre.length with h4 | h4
    · rw [List.getElem?_append_left h4] at hx ⊢
      exact hx
    · rw [List.getElem?_append_right h4] at hx ⊢
      obtain ⟨k, hk⟩ : ∃ k, j - pre.length = k + 1 := ⟨j - pre.length - 1, by omega⟩
      rw [hk] at hx ⊢
      simpa using hx
end
/-- slices.Clone of ints. -/
theorem e_cloneI (l : List Int) (hl : l.length ≤ 1000000) : Pure PP 175 [zl l] (zl l) := by
 cases l with
 | nil =>
   refine Pure.em (pre := []) (post := []) fun ad c => ?_
   cases ad with
   | none => exact tr [yt] (by kernel_rfl)
   | some q => exact tr [nf, .ext (some 7) _ _ _ _ _ (x_apk (T := 22) (e := 3) (n0 := 1) (by kernel_rfl) (by kernel_rfl) (b := 0) (U := 3) (z := 1) (l := []) (X := some q) (c2 := c))] (by kernel_rfl)
 | cons x r => exact tr [.ext (some 4) _ _ _ _ _ (x_eqnil (T := 22) (e := 3) (yT := 22) (by kernel_rfl) (by kernel_rfl) [ni x] (zs r)), nf, .aps [] (zs (x :: r)) (zs (x :: r)) 1000000 1 rfl (by rw [zs_len]; simp) (by rw [zs_len]; exact hl) (zs_z1 _)] (by kernel_rfl)
end Go.Proofs.YtmhliomemdhmiaaGreatDoor.E
namespace Go.Proofs.YtmhliomemdhmiaaGreatDoor.W
open Go.RowKit
theorem decL_le {α : Type} {e : α → List UInt8} {d : List UInt8 → α × Nat × Int} {V : α → Prop} (h : Codec e d V) (b : List UInt8) : (decL d b).1.length ≤ b.length ∧ (decL d b).2.1 ≤ b.length := by
  by_cases he : (decL d b).2.2 = 0
  · have h2 := (decL_canon h b he).2.1
    unfold decL at he h2 ⊢
    by_cases hc : (cnt b 1).2.2 = 0
    · rw [if_neg (by simp [hc])] at he h2 ⊢
      obtain ⟨n, hn, hn2, _⟩ := cnt_bound hc
      rw [hn, Int.toNat_natCast] at he h2 ⊢
      obtain ⟨l', i1, i2, _⟩ := seqD_canon h b n (cnt b 1).2.1 [] (by omega) he
      rw [i1, List.nil_append, i2]
      exact ⟨by omega, h2⟩
    · rw [if_pos hc] at he
      exact absurd he hc
  · unfold decL at he ⊢
    by_cases hc : (cnt b 1).2.2 = 0
    · rw [if_neg (by simp [hc])] at he ⊢
      have key : ∀ (k p : Nat) (acc : List α), (seqD d b k p acc).2.2 ≠ 0 → (seqD d b k p acc).1 = [] ∧ (seqD d b k p acc).2.1 = 0 := by
        intro k
        induction k with
        | zero => intro p acc h; simp [seqD] at h
        | succ k ih =>
          intro p acc h
          simp only [seqD] at h ⊢
          by_cases h0 : (d (b.drop p)).2.2 = 0
          · rw [if_neg (by simp [h0])] at h ⊢
            exact ih _ _ h
          · rw [if_pos h0]
            exact ⟨rfl, rfl⟩
      obtain ⟨k1, k2⟩ := key _ _ _ he
      rw [k1, k2]
      exact ⟨Nat.zero_le _, Nat.zero_le _⟩
    · rw [if_pos hc]
      exact ⟨Nat.zero_le _, Nat.zero_le _⟩
theorem dM_le {α β : Type} [Inhabited β] {d : List UInt8 → α × Nat × Int} {f : α → Option β} {b : List UInt8} (h : (d b).2.1 ≤ b.length) : (dM d f b).2.1 ≤ b.length := by
  unfold dM
  split
  · exact Nat.zero_le _
  · split
    · exact h
    · exact Nat.zero_le _
theorem dP_le {α β : Type} [Inhabited α] [Inhabited β] {d : List UInt8 → α × Nat × Int} {d2 : List UInt8 → β × Nat × Int} (h : ∀ b, (d b).2.1 ≤ b.length) (h2 : ∀ b, (d2 b).2.1 ≤ b.length) (b : List UInt8) : (dP d d2 b).2.1 ≤ b.length := by
  have a := h b
  have c := h2 (b.drop (d b).2.1)
  rw [List.length_drop] at c
  unfold dP
  split
  · exact Nat.zero_le _
  · split
    · exact Nat.zero_le _
    · simp only; omega
end Go.Proofs.YtmhliomemdhmiaaGreatDoor.W
namespace Go.Proofs.YtmhliomemdhmiaaGreatDoor.E
open Go.RowKit
set_option linter.unusedVariables false
set_option linter.unusedSimpArgs false
section
variable {x y : Int} {k : Nat} {r : Rat}
theorem digs_inj {a b : Nat} (h : digs a = digs b) : a = b := by
 have h1 := (digs_ok a).2
 have h2 := (digs_ok b).2
 rw [h, h2] at h1
 exact_mod_cast h1.symm
theorem digs_64 (n : Nat) : ∀ d ∈ digs n, W.Is64 d := fun d hd => by
 obtain ⟨i, hi⟩ := List.getElem?_of_mem hd
 obtain ⟨h1, h2⟩ := (digs_ok n).1.1.get hi
 unfold W.Is64
 omega
theorem sgn_64 (x : Int) : W.Is64 (sgnZ x) := by unfold W.Is64 sgnZ cmpZ; split <;> (try split) <;> omega
/-- The numbers that stand for an integer. -/
def znL (x : Int) : List Int := sgnZ x :: digs x.natAbs
theorem zn_64 (x : Int) : ∀ d ∈ znL x, W.Is64 d := fun d hd => by
 rcases List.mem_cons.1 hd with rfl | hd
 · exact sgn_64 x
 · exact digs_64 _ d hd
def encZ (x : Int) : List UInt8 := W.encI (znL x)
/-- Few digits. -/
def Fz (x : Int) : Prop := (digs x.natAbs).length ≤ 90000
theorem e_ienc (hb : Fz x) : Pure PP 131 [.ag (dI x)] (.o 5 1 (byL (encZ x))) := by
 have hl : (znL x).length ≤ 100000 := by unfold Fz at hb; simp only [znL, List.length_cons]; omega
 have c := e_wints (zn_64 x) hl
 unfold Fz at hb
 unfold encZ
 by_cases h0 : x = 0
 · subst h0
   have hz : digs (0 : Int).natAbs = [] := digs_z rfl
   unfold znL at c ⊢
   rw [hz] at c ⊢
   have s := e_sign 0
   rw [dI_0] at s ⊢
   exact tr [cl s, .ape [] rfl, cl c] (by kernel_rfl)
 · have hnz := digs_nz h0
   exact tr [cl (e_sign x), .aps (zs [sgnZ x]) (zs (digs x.natAbs)) (zs (znL x)) 100000 1 rfl (by rw [zs_len]; omega) (by rw [zs_len]; exact hl) (zs_z1 _), cl c] (by kernel_rfl)
open Classical in
noncomputable def prZ1 (a : Int) (D : List Int) : Option Int := if h : ∃ x : Int, D = digs x.natAbs ∧ sgnZ x = a ∧ (a == -1) = decide (x < 0) then some h.choose else none
/-- The integer for which numbers stand. -/
noncomputable def prZ : List Int → Option Int
 | [] => none
 | a :: D => prZ1 a D
theorem prZ_ok {a : Int} {D : List Int} (h1 : D = digs x.natAbs) (h2 : sgnZ x = a) (h3 : (a == -1) = decide (x < 0)) : prZ (a :: D) = some x := by
 have h : ∃ x : Int, D = digs x.natAbs ∧ sgnZ x = a ∧ (a == -1) = decide (x < 0) := ⟨x, h1, h2, h3⟩
 show prZ1 a D = _
 unfold prZ1
 rw [dif_pos h]
 obtain ⟨q1, q2, q3⟩ := h.choose_spec
 generalize h.choose = y at q1 q2 q3
 have e1 : x.natAbs = y.natAbs := digs_inj (h1.symm.trans q1)
 have e2 : decide (x < 0) = decide (y < 0) := h3.symm.trans q3
 have e3 := decide_eq_decide.1 e2
 congr 1
 omega
theorem prZ_no {a : Int} {D : List Int} (h : ∀ x : Int, D = digs x.natAbs → (a == -1) = decide (x < 0) → sgnZ x ≠ a) : prZ (a :: D) = none := by
 show prZ1 a D = _
 unfold prZ1
 rw [dif_neg]
 rintro ⟨x, h1, h2, h3⟩
 exact h x h1 h3 h2
theorem sgn_neg (x : Int) : (sgnZ x == -1) = decide (x < 0) := by
 unfold sgnZ cmpZ
 by_cases h : x < 0
 · simp [h]
 · by_cases h2 : x = 0
   · subst h2; decide
   · have : 0 < x := by omega
     simp [h, this]
theorem prZ_zn (x : Int) : prZ (znL x) = some x := prZ_ok rfl rfl (sgn_neg x)
noncomputable def decZ : List UInt8 → Int × Nat × Int := W.dM W.decI prZ
def VZ (x : Int) : Prop := W.Is64 ((znL x).length : Int)
theorem codecZ : W.Codec encZ decZ VZ := W.codecM (g := znL) W.codecI (fun x h => ⟨⟨zn_64 x, h⟩, prZ_zn x⟩) fun l x hl hx => by
 cases l with
 | nil => cases hx
 | cons a D =>
  change prZ1 a D = some x at hx
  unfold prZ1 at hx
  split at hx
  · rename_i h
    injection hx with hx
    obtain ⟨q1, q2, q3⟩ := h.choose_spec
    rw [hx] at q1 q2 q3
    have e : znL x = a :: D := by unfold znL; rw [q1, q2]
    exact ⟨e, by unfold VZ; rw [e]; exact hl.2⟩
  · cases hx
theorem decZ_le (l : List UInt8) : (decZ l).2.1 ≤ l.length := W.dM_le (W.decL_le W.codec_int l).2
theorem decZ_few (l : List UInt8) : (digs (decZ l).1.natAbs).length ≤ l.length := by
 have h := (W.decL_le W.codec_int l).1
 unfold decZ W.dM
 split
 · show (digs (0 : Int).natAbs).length ≤ _
   rw [digs_z rfl]; exact Nat.zero_le _
 · cases hp : prZ (W.decI l).1 with
   | none =>
    show (digs (0 : Int).natAbs).length ≤ _
    rw [digs_z rfl]; exact Nat.zero_le _
   | some x =>
    show (digs x.natAbs).length ≤ _
    cases hl : (W.decI l).1 with
    | nil => rw [hl] at hp; cases hp
    | cons a D =>
     rw [hl] at hp
     change prZ1 a D = some x at hp
     unfold prZ1 at hp
     split at hp
     · rename_i hh
       injection hp with hp
       obtain ⟨q1, q2, q3⟩ := hh.choose_spec
       rw [hp] at q1
       have h : (W.decI l).1.length ≤ l.length := h
       rw [hl, List.length_cons] at h
       rw [← q1]
       omega
     · cases hp
def tuZ (r : Int × Nat × Int) : V := .tu [.ag (dI r.1), ni (r.2.1 : Int), ni r.2.2]
theorem tuZ_0 (e : Int) : tuZ (default, 0, e) = .tu [.ag [bo false, .sl []], ni 0, ni e] := by
 show V.tu [.ag (dI 0), _, _] = _
 rw [dI_0]; rfl
theorem zs_sl1 {a : Int} {D : List Int} : ((zs (a :: D)).take (zs (a :: D)).length).drop 1 = zs D := by rw [List.take_of_length_le (Nat.le_refl _)]; rfl
theorem e_idec (l : List UInt8) (hb : l.length ≤ 1000000) : Pure PP 134 [.sl (byL l)] (tuZ (decZ l)) := by
 have c := e_wgetints l hb
 have hlen := (W.decL_le W.codec_int l).1
 unfold decZ W.dM
 change (W.decI l).1.length ≤ l.length at hlen
 rcases hd : W.decI l with ⟨L, n, e⟩
 rw [hd] at c hlen
 simp only at hlen ⊢
 by_cases he : e = 0
 · subst he
   rw [if_neg (by simp)]
   cases L with
   | nil =>
     show Pure PP _ _ (tuZ (default, 0, 2))
     rw [tuZ_0]
     exact tr [cl c, nf, yt] (by kernel_rfl)
   | cons a D =>
     rw [List.length_cons] at hlen
     have nz : (((zs (a :: D)).length : Int) == 0) = false := by rw [zs_len]; simp; omega
     have hcl := e_cloneI D (by omega)
     have s0 : (zs (a :: D))[0]? = some [ni a] := rfl
     let S : F_ := .slc (zs (a :: D)) 1 (zs (a :: D)).length 1 (zs D) zs_sl1 (by rw [zs_len]; simp) (zs_z _)
     generalize hs : (a == -1) = s
     let q : F_ := .eqv 26 (bo (a == -1)) (bo s) (by rw [hs])
     by_cases hv : iok s D
     · obtain ⟨x, h1, h2⟩ := hv
       have v := e_ivalid x
       have g := e_sign x
       unfold dI at v g
       rw [← h1, ← h2] at v g
       by_cases hsg : sgnZ x = a
       · rw [prZ_ok h2 hsg (by rw [hs, h1])]
         show Pure PP _ _ (.tu [.ag [.k (.bool (decide (x < 0))), .sl (zs (digs x.natAbs))], ni n, ni 0])
         rw [← h1, ← h2]
         exact tr [cl c, nf, na nz, .sel _ _ _ s0, q, S, cl hcl, cl v, nf, cl g, .sel _ _ _ s0, na (t := sgnZ x != a) (by simp [hsg])] (by kernel_rfl)
       · rw [prZ_no fun y k1 k2 => by
          have e1 : x.natAbs = y.natAbs := digs_inj (h2.symm.trans k1)
          rw [hs, h1] at k2
          have e3 := decide_eq_decide.1 k2
          rw [show y = x by omega]
          exact hsg]
         show Pure PP _ _ (tuZ (default, 0, 2))
         rw [tuZ_0]
         exact tr [cl c, nf, na nz, .sel _ _ _ s0, q, S, cl hcl, cl v, nf, cl g, .sel _ _ _ s0, ye (t := sgnZ x != a) (by simp [hsg])] (by kernel_rfl)
     · have v := e_ivalid_no hv
       rw [prZ_no fun y k1 k2 _ => hv ⟨y, by rw [← k2, hs], k1⟩]
       show Pure PP _ _ (tuZ (default, 0, 2))
       rw [tuZ_0]
       exact tr [cl c, nf, na nz, .sel _ _ _ s0, q, S, cl hcl, cl v, yt, yt] (by kernel_rfl)
 · rw [if_pos he, tuZ_0]
   exact tr [cl c, ye (t := e != 0) (by simpa using he)] (by kernel_rfl)
end
end Go.Proofs.YtmhliomemdhmiaaGreatDoor.E
