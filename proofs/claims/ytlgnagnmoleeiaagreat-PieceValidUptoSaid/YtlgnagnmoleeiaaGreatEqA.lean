/-
 RAW NUMBERS: Valid of whatever digits, by the engine.
-/
import Derived.Test.YtlgnagnmoleeiaaGreatEtA
import Derived.Test.YtlgnagnmoleeiaaGreatPgO
namespace Go.Proofs.YtlgnagnmoleeiaaGreat.E
open Go.RowKit
set_option linter.unusedVariables false
set_option linter.unusedSimpArgs false
noncomputable abbrev fwG : Func := fnOf PP 216
/-- What a decoder of numbers returns. -/
def tu3 (r : Int × Nat × Int) : V := .tu [ni r.1, ni (r.2.1 : Int), ni r.2.2]
section
variable {hd : UInt8} {t l : List UInt8} {g : Bool} {K : Nat}
theorem wr6 {x : Int} (h : -9223372036854775808 ≤ x ∧ x ≤ 9223372036854775807) : IntKind.i64.wrap x = x := by rw [IntKind.wrap_i64]; omega
theorem xor_hd (hK : (W.fx g hd).toNat = 128 + K) : IntKind.i64.wrap (IntKind.i64.wrap (bits BinOp.xor IntKind.u8 (hd.toNat : Int) (W.fl g)) - 128) = (K : Int) := by
 have := (W.fx g hd).toNat_lt
 have e := wr6 (x := ((128 + K : Nat) : Int)) (by omega)
 rw [W.xor_fl g hd, hK, e, wr6 (by omega)]
 omega
/-- The number under the flip, as the code makes it. -/
theorem val_or (t : List UInt8) (g : Bool) {i : Nat} {b : UInt8} (hb : t[i]? = some b) (hi : i < 8) : bits BinOp.or IntKind.u64 (IntKind.u64.wrap ((W.val ((t.take i).map (W.fx g)) : Int) * 2 ^ 8)) (IntKind.u64.wrap (bits BinOp.xor IntKind.u8 (b.toNat : Int) (W.fl g))) = ((W.val ((t.take (i + 1)).map (W.fx g)) : Nat) : Int) := by
 have h1 := W.val_take_lt t g i
 have h2 : 256 ^ i ≤ 256 ^ 7 := Nat.pow_le_pow_right (by omega) (by omega)
 have h3 := (W.fx g b).toNat_lt
 have e1 : IntKind.u64.wrap ((W.val ((t.take i).map (W.fx g)) : Int) * 2 ^ 8) = (W.val ((t.take i).map (W.fx g)) : Int) * 256 := by rw [IntKind.wrap_u64]; omega
 have e2 : IntKind.u64.wrap (bits BinOp.xor IntKind.u8 (b.toNat : Int) (W.fl g)) = ((W.fx g b).toNat : Int) := by rw [W.xor_fl g b, IntKind.wrap_u64]; omega
 rw [e1, e2, W.val_step t g i b hb, W.or_step _ _ (by omega) h3]
noncomputable def gIs (hd : UInt8) (t : List UInt8) (g : Bool) (K i m : Nat) : St := at_ fwG [(5, .k (.int .u8 (W.fl g))), (6, ni K), (7, u64 m), (46, .sl (byL (t.take K))), (47, ni K), (48, ni i)] []
theorem gI_loop (hg : g = decide (hd.toNat < 128)) (hK : (W.fx g hd).toNat = 128 + K) (h8 : K ≤ 8) (hl : K ≤ t.length) (hz : 0 < K → ∃ b1, t[0]? = some b1 ∧ 0 < (W.fx g b1).toNat) : Gd PP 216 (tu3 (W.dec (hd :: t))) (lp fwG 0) (gIs hd t g K 0 0) := by
 have hv := W.dec_val hd t g K hg hK h8 hl hz
 have h0 : W.val ((t.take 0).map (W.fx g)) = 0 := rfl
 conv => arg 5; rw [← h0]
 refine Gd.loop (fun i => gIs hd t g K i (W.val ((t.take i).map (W.fx g)))) (fun i => i ≤ K) (fun i => K - i) ?_ 0 (Nat.zero_le _)
 intro i hi ih
 by_cases h : i < K
 · obtain ⟨b, hb⟩ := by_el (l := t) (i := i) (by omega)
   have k0 : (t.take K)[i]? = some b := by rw [List.getElem?_take_of_lt h]; exact hb
   exact .to mo_ [] [5, 6, 7, 46, 47, 48] [] 0 [ye (t := decide ((i : Int) < (K : Int))) (decide_eq_true (by omega)), .sel _ _ _ (byL_at k0), .eqv 58 (.k (.int .u64 (bits BinOp.or IntKind.u64 (IntKind.u64.wrap ((W.val ((t.take i).map (W.fx g)) : Int) * 2 ^ 8)) (IntKind.u64.wrap (bits BinOp.xor IntKind.u8 (b.toNat : Int) (W.fl g)))))) (u64 (W.val ((t.take (i + 1)).map (W.fx g)))) (by rw [val_or t g hb (by omega)]; rfl), inc 59 i (by omega)] (ih (i + 1) h (by omega)) (by kernel_rfl)
 · have hi2 : i = K := by omega
   subst hi2
   have hlt := W.val_take_lt t g i
   have hp : 256 ^ i ≤ 256 ^ 8 := Nat.pow_le_pow_right (by omega) (by omega)
   rw [hv]
   clear hv ih hz h0
   generalize W.val ((t.take i).map (W.fx g)) = M at hlt
   have hM : M < 18446744073709551616 := by omega
   have hf : ((M : Int).fdiv (2 ^ 63)) = ((M / 9223372036854775808 : Nat) : Int) := by rw [Int.fdiv_eq_ediv_of_nonneg _ (by decide)]; rfl
   by_cases h63 : 9223372036854775808 ≤ M
   · rw [if_pos h63]
     exact fi [na (t := decide ((i : Int) < (i : Int))) (decide_eq_false (by omega)), ye (t := decide ((M : Int).fdiv (2 ^ 63) > 0)) (by rw [hf]; exact decide_eq_true (by omega))] (by kernel_rfl) (by kernel_rfl)
   · rw [if_neg h63]
     have e1 : IntKind.i64.wrap (bits BinOp.xor IntKind.u64 IntKind.u64.max (M : Int)) = -1 - (M : Int) := by rw [W.u64_not M (by omega), IntKind.wrap_i64]; omega
     cases g with
     | true => exact fi [na (t := decide ((i : Int) < (i : Int))) (decide_eq_false (by omega)), na (t := decide ((M : Int).fdiv (2 ^ 63) > 0)) (by rw [hf]; exact decide_eq_false (by omega)), yt, .eqv 68 (ni (IntKind.i64.wrap (bits BinOp.xor IntKind.u64 IntKind.u64.max (M : Int)))) (ni (-1 - (M : Int))) (by rw [e1]), inc 70 i (by omega)] (by kernel_rfl) (by kernel_rfl)
     | false => exact fi [na (t := decide ((i : Int) < (i : Int))) (decide_eq_false (by omega)), na (t := decide ((M : Int).fdiv (2 ^ 63) > 0)) (by rw [hf]; exact decide_eq_false (by omega)), nf, wq 68 (M : Int) (M : Int) (by omega), inc 70 i (by omega)] (by kernel_rfl) (by kernel_rfl)
theorem gI_body (hg : g = decide (hd.toNat < 128)) : Gd PP 216 (tu3 (W.dec (hd :: t))) (rg fwG 6) (at_ fwG [(0, .sl (byL (hd :: t))), (5, .k (.int .u8 (W.fl g)))] []) := by
 obtain ⟨K, hK⟩ : ∃ K, (W.fx g hd).toNat = 128 + K := by
  refine ⟨(W.fx g hd).toNat - 128, ?_⟩
  rw [W.fx_toNat, hg]
  have := hd.toNat_lt
  by_cases h : hd.toNat < 128 <;> simp [h] <;> omega
 have hKb : K ≤ 127 := by have := (W.fx g hd).toNat_lt; omega
 have x := xor_hd hK
 have hln : (byL (hd :: t)).length = t.length + 1 := byL_len _
 have s0 : (byL (hd :: t))[0]? = some [u8v hd] := rfl
 let q : F_ := .eqv 23 (ni (IntKind.i64.wrap (IntKind.i64.wrap (bits BinOp.xor IntKind.u8 (hd.toNat : Int) (W.fl g)) - 128))) (ni K) (by rw [x])
 by_cases h8 : K ≤ 8
 · by_cases hl : K ≤ t.length
   · have q8 : decide ((K : Int) > 8) = false := decide_eq_false (by omega)
     have ql : decide (((byL (hd :: t)).length : Int) ≤ (K : Int)) = false := decide_eq_false (by rw [hln]; omega)
     have hsl : ((byL (hd :: t)).take (K + 1)).drop 1 = byL (t.take K) := by rw [← byL_take]; rfl
     have hlk : (t.take K).length = K := by rw [List.length_take]; omega
     by_cases h0 : 0 < K
     · obtain ⟨b1, k0⟩ := by_el (l := t) (i := 0) (by omega)
       have s1 : (byL (hd :: t))[1]? = some [u8v b1] := byL_at k0
       have xb := W.xor_fl g b1
       by_cases hz : (W.fx g b1).toNat = 0
       · rw [W.dec_zero hd t g K hg hK h8 hl h0 b1 k0 hz]
         exact fi [.sel _ _ _ s0, q, na q8, na ql, ye (t := decide ((K : Int) > 0)) (decide_eq_true (by omega)), .sel _ _ _ s1, .eqv 41 (bo (bits BinOp.xor IntKind.u8 (b1.toNat : Int) (W.fl g) == 0)) (bo true) (by rw [xb, hz]; rfl), yt] (by kernel_rfl) (by kernel_rfl)
       · have L := gI_loop hg hK h8 hl (fun _ => ⟨b1, k0, by omega⟩)
         exact .to mo_ [] [5, 6, 7, 46, 47, 48] [] 0 [.sel _ _ _ s0, q, na q8, na ql, ye (t := decide ((K : Int) > 0)) (decide_eq_true (by omega)), .sel _ _ _ s1, .eqv 41 (bo (bits BinOp.xor IntKind.u8 (b1.toNat : Int) (W.fl g) == 0)) (bo false) (by rw [xb]; simp [bo]; omega), nf, inc 45 K (by omega), .slc (byL (hd :: t)) 1 (K + 1) 1 (byL (t.take K)) hsl (by rw [hln]; omega) (byL_z _), .eqv 47 (ni ((byL (t.take K)).length : Int)) (ni K) (by rw [byL_len, hlk])] L (by kernel_rfl)
     · have L := gI_loop hg hK h8 hl (fun h => absurd h h0)
       have hK0 : K = 0 := by omega
       subst hK0
       exact .to mo_ [] [5, 6, 7, 46, 47, 48] [] 0 [.sel _ _ _ s0, q, nf, na ql, nf, nf, .slc (byL (hd :: t)) 1 1 1 (byL (t.take 0)) hsl (by rw [hln]; omega) (byL_z _)] L (by kernel_rfl)
   · rw [W.dec_more hd t g K hg hK (by omega) (by omega)]
     exact fi [.sel _ _ _ s0, q, na (t := decide ((K : Int) > 8)) (decide_eq_false (by omega)), ye (t := decide (((byL (hd :: t)).length : Int) ≤ (K : Int))) (decide_eq_true (by rw [hln]; omega))] (by kernel_rfl) (by kernel_rfl)
 · rw [W.dec_big hd t g K hg hK (by omega)]
   exact fi [.sel _ _ _ s0, q, ye (t := decide ((K : Int) > 8)) (decide_eq_true (by omega))] (by kernel_rfl) (by kernel_rfl)
theorem e_wgetint (l : List UInt8) : Pure PP 216 [.sl (byL l)] (tu3 (W.dec l)) := by
 match l with
 | [] => exact tr [yt] (by kernel_rfl)
 | hd :: t =>
   have hln : (byL (hd :: t)).length = t.length + 1 := byL_len _
   have s0 : (byL (hd :: t))[0]? = some [u8v hd] := rfl
   have nz : (((byL (hd :: t)).length : Int) == 0) = false := by rw [hln]; simp; omega
   by_cases h : hd.toNat < 128
   · exact pf (by kernel_rfl) (.to mo_ [] [0, 5] [] 0 [na nz, .sel _ _ _ s0, ye (t := decide ((hd.toNat : Int) < 128)) (decide_eq_true (by omega))] (td' := rg fwG 6) (σ' := at_ fwG [(0, .sl (byL (hd :: t))), (5, .k (.int .u8 (W.fl true)))] []) (gI_body (by simp [h])) (by kernel_rfl))
   · exact pf (by kernel_rfl) (.to mo_ [] [0, 5] [] 0 [na nz, .sel _ _ _ s0, na (t := decide ((hd.toNat : Int) < 128)) (decide_eq_false (by omega))] (td' := rg fwG 6) (σ' := at_ fwG [(0, .sl (byL (hd :: t))), (5, .k (.int .u8 (W.fl false)))] []) (gI_body (by simp [h])) (by kernel_rfl))
theorem e_wcount (l : List UInt8) (s : Nat) (hs : s = 0 ∨ s = 15) (hb : l.length ≤ 4611686018427387904) : Pure PP 193 [.sl (byL l), ni ((s + 1 : Nat) : Int)] (tu3 (W.cnt l (s + 1))) := by
 have c := e_wgetint l
 have h1 := W.dec_at_le l
 unfold W.cnt
 rcases hd : W.dec l with ⟨n, u, e⟩
 rw [hd] at c h1
 simp only at h1 ⊢
 by_cases he : e = 0
 · rw [if_neg (by simp [he])]
   subst he
   by_cases hn : n < 0
   · rw [if_pos hn]
     exact tr [cl c, nf, ye (t := decide (n < 0)) (decide_eq_true hn)] (by kernel_rfl)
   · rw [if_neg hn]
     have hq : ((l.length : Int) - (u : Int)).tdiv ((s + 1 : Nat) : Int) = ((l.length - u) / (s + 1) : Nat) := by
      rw [show (l.length : Int) - (u : Int) = ((l.length - u : Nat) : Int) from by omega]
      rfl
     by_cases hm : (((l.length - u) / (s + 1) : Nat) : Int) < n
     · rw [if_pos hm]
       rcases hs with rfl | rfl
       · exact tr [cl c, nf, na (t := decide (n < 0)) (decide_eq_false hn), lnq 22 l, wq 24 ((l.length : Int) - (u : Int)) ((l.length : Int) - (u : Int)) (by omega), .eqv 26 (ni (IntKind.i64.wrap (((l.length : Int) - (u : Int)).tdiv 1))) (ni ((l.length - u) / (0 + 1) : Nat)) (by rw [show (((l.length : Int) - (u : Int)).tdiv 1) = ((l.length - u) / (0 + 1) : Nat) from hq, wr6 (by omega)]), ye (t := decide (n > (((l.length - u) / (0 + 1) : Nat) : Int))) (decide_eq_true (by omega))] (by kernel_rfl)
       · exact tr [cl c, nf, na (t := decide (n < 0)) (decide_eq_false hn), lnq 22 l, wq 24 ((l.length : Int) - (u : Int)) ((l.length : Int) - (u : Int)) (by omega), .eqv 26 (ni (IntKind.i64.wrap (((l.length : Int) - (u : Int)).tdiv 16))) (ni ((l.length - u) / (15 + 1) : Nat)) (by rw [show (((l.length : Int) - (u : Int)).tdiv 16) = ((l.length - u) / (15 + 1) : Nat) from hq, wr6 (by omega)]), ye (t := decide (n > (((l.length - u) / (15 + 1) : Nat) : Int))) (decide_eq_true (by omega))] (by kernel_rfl)
     · rw [if_neg hm]
       rcases hs with rfl | rfl
       · exact tr [cl c, nf, na (t := decide (n < 0)) (decide_eq_false hn), lnq 22 l, wq 24 ((l.length : Int) - (u : Int)) ((l.length : Int) - (u : Int)) (by omega), .eqv 26 (ni (IntKind.i64.wrap (((l.length : Int) - (u : Int)).tdiv 1))) (ni ((l.length - u) / (0 + 1) : Nat)) (by rw [show (((l.length : Int) - (u : Int)).tdiv 1) = ((l.length - u) / (0 + 1) : Nat) from hq, wr6 (by omega)]), na (t := decide (n > (((l.length - u) / (0 + 1) : Nat) : Int))) (decide_eq_false (by omega))] (by kernel_rfl)
       · exact tr [cl c, nf, na (t := decide (n < 0)) (decide_eq_false hn), lnq 22 l, wq 24 ((l.length : Int) - (u : Int)) ((l.length : Int) - (u : Int)) (by omega), .eqv 26 (ni (IntKind.i64.wrap (((l.length : Int) - (u : Int)).tdiv 16))) (ni ((l.length - u) / (15 + 1) : Nat)) (by rw [show (((l.length : Int) - (u : Int)).tdiv 16) = ((l.length - u) / (15 + 1) : Nat) from hq, wr6 (by omega)]), na (t := decide (n > (((l.length - u) / (15 + 1) : Nat) : Int))) (decide_eq_false (by omega))] (by kernel_rfl)
 · rw [if_pos he]
   exact tr [cl c, ye (t := e != 0) (by simpa using he)] (by kernel_rfl)
/-- What lies behind a place. -/
def slD {P : Program} (l : List UInt8) (p : Nat) (hp : p ≤ l.length) : Fa P := .slc (byL l) p (byL l).length 1 (byL (l.drop p)) (by rw [List.take_of_length_le (Nat.le_refl _), byL_drop]) (by rw [byL_len]; omega) (byL_z _)
/-- The boxes of a reader. -/
def rdB (l : List UInt8) (p : Nat) : List HO := [.bx 39 [.sl (byL l)], .bx 3 [ni p]]
theorem e_reader (l : List UInt8) (p : Nat) : PureT PP 194 [] [.sl (byL l), ni p] (.io 0 (rdB l p) (.cl 217 [.lp 0 0, .lp 1 0])) := trT [] (by kernel_rfl)
theorem e_nextW (l : List UInt8) (p : Nat) (hp : p ≤ l.length) (hb : l.length ≤ 4611686018427387904) : PureT PP 217 (rdB l p) [.lp 0 0, .lp 1 0] (.io 2 (rdB l (p + (W.dec (l.drop p)).2.1)) (.tu [ni (W.dec (l.drop p)).1, ni ((p + (W.dec (l.drop p)).2.1 : Nat) : Int), ni (W.dec (l.drop p)).2.2])) := by
 have c := e_wgetint (l.drop p)
 have h1 := W.dec_at_le (l.drop p)
 rw [List.length_drop] at h1
 rcases hd : W.dec (l.drop p) with ⟨n, u, e⟩
 rw [hd] at c h1
 simp only at h1 ⊢
 exact trT [slD l p hp, cl c, wq 18 ((p : Int) + (u : Int)) ((p + u : Nat) : Int) (by omega)] (by kernel_rfl)
/-- What a decoder of a list of numbers returns. -/
def tuI (r : List Int × Nat × Int) : V := .tu [zl r.1, ni (r.2.1 : Int), ni r.2.2]
noncomputable abbrev fwS : Func := fnOf PP 150
noncomputable def gSs (l : List UInt8) (n : Nat) (x : Nat × List Int × Nat × Nat) : St := at_ fwS [(6, ni x.2.2.2), (8, .cl 217 [.lp 0 0, .lp 1 0]), (9, .ow 2), (25, ni n), (26, ni x.1)] (rdB l x.2.2.1 ++ [.rw 3 1 (zs x.2.1)])
theorem e_wgetints (l : List UInt8) (hb : l.length ≤ 1000000) : Pure PP 150 [.sl (byL l)] (tuI (W.decI l)) := by
 have c := e_wcount l 0 (.inl rfl) (by omega)
 unfold W.decI W.decL
 by_cases hc : (W.cnt l (0 + 1)).2.2 = 0
 · obtain ⟨n, hn, hn2, hn3⟩ := W.cnt_bound hc
   rw [if_neg (by simp [hc])]
   rcases hd : W.cnt l (0 + 1) with ⟨k, p0, e⟩
   rw [hd] at c hc hn hn2 hn3
   simp only at hc hn hn2 hn3
   subst hc
   subst hn
   have hp0 : n + p0 ≤ l.length := by simpa using hn2
   rw [Int.toNat_natCast]
   show Pure PP _ _ (tuI (W.seqD W.dec l n p0 []))
   refine pf (by kernel_rfl) (.to mo_ [.ow 9 (.rw 3 1 [])] [6, 8, 9, 25, 26] [0, 1, 2] 3 [cl c, nf, .lend _ _ _ _ [] (e_reader l p0)] (td' := lp fwS 0) (σ' := gSs l n (0, [], p0, p0)) ?_ (by kernel_rfl))
   refine Gd.loop (gSs l n) (fun x => x.1 ≤ n ∧ x.2.1.length = x.1 ∧ x.2.2.1 = x.2.2.2 ∧ x.2.2.1 ≤ l.length ∧ W.seqD W.dec l n p0 [] = W.seqD W.dec l (n - x.1) x.2.2.1 x.2.1) (fun x => n - x.1) ?_ (0, [], p0, p0) ⟨Nat.zero_le _, rfl, rfl, by simp only; omega, rfl⟩
   rintro ⟨i, acc, p, q⟩ ⟨hi, ha, hpq, hp, hI⟩ ih
   simp only at hi ha hpq hp hI ih
   subst hpq
   by_cases h : i < n
   · have N := e_nextW l p hp (by omega)
     have hle := W.dec_at_le (l.drop p)
     rw [List.length_drop] at hle
     rw [show n - i = (n - (i + 1)) + 1 from by omega] at hI
     simp only [W.seqD] at hI
     rcases hx : W.dec (l.drop p) with ⟨x, u, e⟩
     rw [hx] at N hle hI
     simp only at N hle hI
     by_cases he : e = 0
     · subst he
       rw [if_neg (by simp)] at hI
       exact .to mo_ [.mv 2 4] [6, 8, 9, 25, 26] [0, 1, 2] 3 [ye (t := decide ((i : Int) < (n : Int))) (decide_eq_true (by omega)), .lend _ _ _ _ [0, 1] N, nf, .app (zs acc) (zs [x]) (zs (acc ++ [x])) 1000000 (zs_app _ _).symm Nat.zero_lt_one (by rw [zs_len, List.length_append]; simp; omega), inc 42 i (by omega)] (ih (i + 1, acc ++ [x], p + u, p + u) ⟨h, by simp [ha], rfl, by simp only; omega, hI⟩ (by simp only; omega)) (by kernel_rfl)
     · rw [if_pos he] at hI
       rw [hI]
       exact fi [ye (t := decide ((i : Int) < (n : Int))) (decide_eq_true (by omega)), .lend _ _ _ _ [0, 1] N, ye (t := e != 0) (by simpa using he)] (by kernel_rfl) (by kernel_rfl)
   · have hi2 : i = n := by omega
     subst hi2
     rw [Nat.sub_self] at hI
     rw [hI]
     exact fi [na (t := decide ((i : Int) < (i : Int))) (decide_eq_false (by omega))] (by kernel_rfl) (by kernel_rfl)
 · rw [if_pos hc]
   rcases hd : W.cnt l (0 + 1) with ⟨n, u, e⟩
   rw [hd] at c hc
   simp only at hc ⊢
   exact tr [cl c, ye (t := e != 0) (by simpa using hc)] (by kernel_rfl)
end
end Go.Proofs.YtlgnagnmoleeiaaGreat.E
namespace Go.Proofs.YtlgnagnmoleeiaaGreat.E
open Go.RowKit
set_option linter.unusedVariables false
set_option linter.unusedSimpArgs false
section
variable {α : Type}
theorem tk_step {l m : List α} {i : Nat} {a b : α} (h : l.take i = m.take i) (ha : l[i]? = some a) (hb : m[i]? = some b) (e : a = b) : l.take (i + 1) = m.take (i + 1) := by
 rw [List.take_add_one, List.take_add_one, h, ha, hb, e]
theorem tk_eq {l m : List α} {i : Nat} (h : l.take i = m.take i) (hi : ¬ i < l.length) (hl : l.length = m.length) : l = m := by
 rw [List.take_of_length_le (by omega), List.take_of_length_le (by omega)] at h
 exact h
theorem tk_ne {l m : List α} {i : Nat} {a b : α} (ha : l[i]? = some a) (hb : m[i]? = some b) (e : a ≠ b) : l ≠ m := fun h => by
 subst h
 rw [ha] at hb
 injection hb with hb
 exact e hb
end
noncomputable abbrev fsB : Func := fnOf PP 16
theorem u8_ne {a b : UInt8} : ((a.toNat : Int) != (b.toNat : Int)) = decide (a ≠ b) := by
 by_cases h : a = b
 · subst h; simp
 · have : a.toNat ≠ b.toNat := fun e => h (UInt8.toNat_inj.1 e)
   simp [h]; omega
theorem e_same1 (a b : List UInt8) (hn : a.length ≤ 4611686018427387904) : Pure PP 16 [.sl (byL a), .sl (byL b)] (bo (decide (a = b))) := by
 by_cases hl : a.length = b.length
 · let X : Nat → St := fun i => at_ fsB [(0, .sl (byL a)), (1, .sl (byL b)), (5, ni i)] []
   refine pf (by kernel_rfl) (.to mo_ [] [0, 1, 5] [] 0 [na (t := ((byL a).length : Int) != ((byL b).length : Int)) (by simp [byL_len, hl])] (td' := lp fsB 0) (σ' := X 0) ?_ (by kernel_rfl))
   refine Gd.loop X (fun i => i ≤ a.length ∧ a.take i = b.take i) (fun i => a.length - i) ?_ 0 ⟨Nat.zero_le _, rfl⟩
   intro i ⟨hi, hI⟩ ih
   have hlt : ∀ h : i < a.length, decide ((i : Int) < ((byL a).length : Int)) = true := fun h => decide_eq_true (by rw [byL_len]; omega)
   by_cases h : i < a.length
   · obtain ⟨x, hx⟩ := by_el h
     obtain ⟨y, hy⟩ := by_el (l := b) (i := i) (by omega)
     by_cases e : x = y
     · exact .to mo_ [] [0, 1, 5] [] 0 [ye (hlt h), .sel _ _ _ (byL_at hx), .sel _ _ _ (byL_at hy), na (t := (x.toNat : Int) != (y.toNat : Int)) (by rw [u8_ne]; simp [e]), inc 16 i (by omega)] (ih (i + 1) ⟨h, tk_step hI hx hy e⟩ (by omega)) (by kernel_rfl)
     · rw [show decide (a = b) = false from decide_eq_false (tk_ne hx hy e)]
       exact fi [ye (hlt h), .sel _ _ _ (byL_at hx), .sel _ _ _ (byL_at hy), ye (t := (x.toNat : Int) != (y.toNat : Int)) (by rw [u8_ne]; simp [e])] (by kernel_rfl) (by kernel_rfl)
   · rw [show decide (a = b) = true from decide_eq_true (tk_eq hI h hl)]
     exact fi [na (t := decide ((i : Int) < ((byL a).length : Int))) (decide_eq_false (by rw [byL_len]; omega))] (by kernel_rfl) (by kernel_rfl)
 · rw [show decide (a = b) = false from decide_eq_false fun e => hl (by rw [e])]
   exact tr [ye (t := ((byL a).length : Int) != ((byL b).length : Int)) (by simp [byL_len]; omega)] (by kernel_rfl)
section
variable {n : Int} {k : Nat}
/-- One less, from one to nothing. -/
def dn : Nat → Int
 | 0 => -1
 | i + 1 => (i : Int)
end
section
variable {hd : UInt8} {t l : List UInt8} {g : Bool} {K : Nat}
end
end Go.Proofs.YtlgnagnmoleeiaaGreat.E
namespace Go.Proofs.YtlgnagnmoleeiaaGreat.E
open Go.RowKit
set_option linter.unusedVariables false
/-- A raw rational number: signs and digits. -/
structure RN where
 s : Bool
 l : List Int
 t : Bool
 m : List Int
def cN (n : RN) : List V := [bo n.s, zl n.l, bo n.t, zl n.m]
/-- An integer's digits, as they should be. -/
def iok (s : Bool) (l : List Int) : Prop := ∃ x : Int, s = decide (x < 0) ∧ l = digs x.natAbs
def ofR (r : Rat) : RN := ⟨decide (r.num < 0), digs r.num.natAbs, decide (dq r < 0), digs (dq r).natAbs⟩
def rok (n : RN) : Prop := ∃ r : Rat, n = ofR r
theorem cN_ofR (r : Rat) : cN (ofR r) = dR r := rfl
/-- Few digits. -/
def Bn (k : Nat) (n : RN) : Prop := (I.Can n.l → I.Bd k (I.val n.l)) ∧ (I.Can n.m → I.Bd k (I.val n.m))
theorem Pure.lenA {P : Program} {f : FuncId} {ds : List V} {D : RD} (i j : Nat) {xs : List V} {l : List (List V)} (hok : okB P f = true) (hi : ds[i]? = some (.ag xs)) (hj : xs[j]? = some (.sl l)) (h : l.length ≤ maxLen → Pure P f ds D) : Pure P f ds D :=
 ⟨okF_of hok, fun w M args hM ha cs => by
  have h1 := ha.2 i _ hi
  have h2 : l.length ≤ maxLen := by
   generalize args.getD i undef = u at h1
   cases h1 with
   | ag _ us _ h3 h4 =>
     have h5 := h4 j _ hj
     generalize us.getD j undef = u at h5
     cases h5 with
     | sl _ ad b off c zz _ us h1 h2' => omega
  exact (h h2).2 w M args hM ha cs⟩
section
variable {s t : Bool} {l m : List Int} {k : Nat} {n : RN}
theorem can_val0 (h : I.Can l) : 0 ≤ I.val l := by
 by_cases e : l = []
 · subst e; exact Int.le_refl _
 · have := h.pos e
   have h2 : 0 ≤ I.pw (l.length - 1) := by unfold I.pw; exact Int.natCast_nonneg _
   omega
theorem iok_of (h : I.Can l) (h2 : l = [] → s = false) : iok s l := by
 have h0 := can_val0 h
 refine ⟨sg s (I.val l), ?_, ?_⟩
 · cases s with
   | false => unfold sg; simp; exact h0
   | true =>
     have hl : l ≠ [] := fun e => by have := h2 e; cases this
     have h3 : I.val l ≠ 0 := fun e => hl (h.zero e)
     unfold sg; simp; omega
 · have h3 : (sg s (I.val l)).natAbs = (I.val l).natAbs := by unfold sg; cases s <;> simp
   rw [h3]
   exact h.uniq (digs_ok _).1 (by rw [(digs_ok _).2]; omega)
theorem dig_first : ∀ {l : List Int}, ¬ I.Dig l → ∃ (i : Nat) (d : Int), l[i]? = some d ∧ (d < 0 ∨ d ≥ 1000000000) ∧ ∀ t e, t < i → l[t]? = some e → 0 ≤ e ∧ e < 1000000000
 | [], h => absurd I.Dig.nil h
 | a :: r, h => by
  by_cases ha : a < 0 ∨ a ≥ 1000000000
  · exact ⟨0, a, rfl, ha, fun t e ht => absurd ht (Nat.not_lt_zero t)⟩
  · obtain ⟨i, d, h1, h2, h3⟩ := dig_first (l := r) (fun g => h (I.Dig.cons (by omega) (by omega) g))
    refine ⟨i + 1, d, h1, h2, fun t e ht he => ?_⟩
    cases t with
    | zero => simp at he; subst he; omega
    | succ t => exact h3 t e (by omega) (by simpa using he)
theorem e_index_no (hd : ¬ I.Dig l) : ∃ i : Nat, Pure PP 213 [zl l, .cl 185 []] (ni i) := by
 obtain ⟨i0, d0, h1, h2, h3⟩ := dig_first hd
 have hi0 := (List.getElem?_eq_some_iff.1 h1).1
 refine ⟨i0, .len 0 (l := zs l) (by kernel_rfl) rfl fun hm => ?_⟩
 rw [zs_len] at hm
 unfold maxLen at hm
 let X : Nat → St := fun i => at_ fix [(0, zl l), (1, .cl 185 []), (7, ni l.length), (8, ni i)] []
 refine pf (by kernel_rfl) (.to mo_ [] [0, 1, 7, 8] [] 0 [.eqv 7 (ni ((zs l).length : Int)) (ni l.length) (by rw [zs_len])] (td' := lp fix 0) (σ' := X 0) ?_ (by kernel_rfl))
 refine Gd.loop X (fun i => i ≤ i0) (fun i => l.length - i) ?_ 0 (Nat.zero_le _)
 intro i hi ih
 have hlt : decide ((i : Int) < (l.length : Int)) = true := decide_eq_true (by omega)
 by_cases h : i = i0
 · subst h
   have c := e_bad d0
   rw [decide_eq_true h2] at c
   exact fi [ye hlt, .sel _ _ _ (zs_at h1), cl c, yt] (by kernel_rfl) (by kernel_rfl)
 · have e := num_el (l := l) (i := i) (by omega)
   generalize l.getD i 0 = d at e
   obtain ⟨d0, d1⟩ := h3 i d (by omega) e
   exact .to mo_ [] [0, 1, 7, 8] [] 0 [ye hlt, .sel _ _ _ (zs_at e), cl (e_good d0 d1), nf, inc 18 i (by omega)] (ih (i + 1) (by omega) (by omega)) (by kernel_rfl)
theorem e_contains_no (hd : ¬ I.Dig l) : Pure PP 184 [zl l, .cl 185 []] (bo true) := by
 obtain ⟨i, h⟩ := e_index_no hd
 exact tr [cl h, .eqv 8 (bo (decide ((i : Int) ≥ 0))) (bo true) (by rw [decide_eq_true (by omega)])] (by kernel_rfl)
theorem last_of (h : l ≠ []) : ∃ d, l[l.length - 1]? = some d ∧ l.getLast? = some d := by
 have hl : 0 < l.length := List.length_pos_iff.2 h
 have e := num_el (l := l) (i := l.length - 1) (by omega)
 exact ⟨_, e, by rw [List.getLast?_eq_getElem?]; exact e⟩
theorem iok_zero (hd : I.Dig l) (h : ¬ iok s l) (hl : l ≠ []) : l[l.length - 1]? = some 0 := by
 obtain ⟨d, h1, h2⟩ := last_of hl
 by_cases h0 : d = 0
 · rw [h1, h0]
 · exact absurd (iok_of ⟨hd, fun e he => by rw [h2] at he; injection he with he; subst he; exact h0⟩ fun e => absurd e hl) h
theorem e_ivalid_no (h : ¬ iok s l) : Pure PP 124 [.ag [bo s, zl l]] (bo false) := by
 refine .lenA 0 1 (l := zs l) (by kernel_rfl) rfl rfl fun hm => ?_
 rw [zs_len] at hm
 unfold maxLen at hm
 by_cases hd : I.Dig l
 · have hc := e_contains hd
   by_cases hl : l = []
   · subst hl
     have hs : s = true := by
      cases s with
      | true => rfl
      | false => exact absurd (iok_of I.Can.nil fun _ => rfl) h
     subst hs
     rw [show zl [] = .sl [] from rfl] at hc ⊢
     exact tr [cl hc, nf, yt, nf, nf] (by kernel_rfl)
   · have e := iok_zero hd h hl
     have hp : 0 < l.length := List.length_pos_iff.2 hl
     exact tr [cl hc, nf, na (t := ((zs l).length : Int) == 0) (by rw [zs_len]; simpa using hl), nf, ye (t := decide (((zs l).length : Int) > 0)) (by rw [zs_len]; exact decide_eq_true (by omega)), .eqv 25 (ni ((zs l).length : Int)) (ni l.length) (by rw [zs_len]), wq 26 ((l.length : Int) - 1) ((l.length - 1 : Nat) : Int) (by omega), .sel _ _ _ (zs_at e)] (by kernel_rfl)
 · exact tr [cl (e_contains_no hd), yt] (by kernel_rfl)
theorem e_ivalid3_no (h : ¬ iok s l) : Pure PP 137 [.ag [bo s, zl l]] (bo false) := by
 refine .lenA 0 1 (l := zs l) (by kernel_rfl) rfl rfl fun hm => ?_
 rw [zs_len] at hm
 unfold maxLen at hm
 let X : Nat → St := fun i => at_ fv3 [(1, .lp 0 0), (3, ni i)] [.bx 26 [bo s, zl l]]
 have start : Gd PP 137 (bo false) (lp fv3 0) (X 0) → Pure PP 137 [.ag [bo s, zl l]] (bo false) := fun g => pf (by kernel_rfl) (.to mo_ [] [1, 3] [0] 1 [] (td' := lp fv3 0) (σ' := X 0) g (by kernel_rfl))
 refine start ?_
 by_cases hd : I.Dig l
 · refine Gd.loop X (fun i => i ≤ l.length) (fun i => l.length - i) ?_ 0 (Nat.zero_le _)
   intro i hi ih
   by_cases hlt : i < l.length
   · have e := num_el hlt
     generalize l.getD i 0 = d at e
     obtain ⟨d0, d1⟩ := hd.get e
     exact .to mo_ [] [1, 3] [0] 1 [ye (t := decide ((i : Int) < ((zs l).length : Int))) (decide_eq_true (by rw [zs_len]; omega)), .sel _ _ _ (zs_at e), na (t := decide (d < 0)) (decide_eq_false (by omega)), .sel _ _ _ (zs_at e), na (t := decide (d ≥ 1000000000)) (decide_eq_false (by omega)), inc 10 i (by omega)] (ih (i + 1) hlt (by omega)) (by kernel_rfl)
   · by_cases hl : l = []
     · subst hl
       have hs : s = true := by
        cases s with
        | true => rfl
        | false => exact absurd (iok_of I.Can.nil fun _ => rfl) h
       subst hs
       have hx : X i = at_ fv3 [(1, .lp 0 0), (3, ni i)] [.bx 26 [bo true, .sl []]] := rfl
       rw [hx]
       exact fi [na (t := decide ((i : Int) < ((([] : List (List V))).length : Int))) (decide_eq_false (by simp)), yt] (by kernel_rfl) (by kernel_rfl)
     · have e := iok_zero hd h hl
       have hp : 0 < l.length := List.length_pos_iff.2 hl
       exact fi [na (t := decide ((i : Int) < ((zs l).length : Int))) (decide_eq_false (by rw [zs_len]; omega)), na (t := ((zs l).length : Int) == 0) (by rw [zs_len]; simpa using hl), .eqv 36 (ni ((zs l).length : Int)) (ni l.length) (by rw [zs_len]), wq 37 ((l.length : Int) - 1) ((l.length - 1 : Nat) : Int) (by omega), .sel _ _ _ (zs_at e)] (by kernel_rfl) (by kernel_rfl)
 · obtain ⟨i0, d0, h1, h2, h3⟩ := dig_first hd
   have hi0 := (List.getElem?_eq_some_iff.1 h1).1
   refine Gd.loop X (fun i => i ≤ i0) (fun i => l.length - i) ?_ 0 (Nat.zero_le _)
   intro i hi ih
   have hlt : decide ((i : Int) < ((zs l).length : Int)) = true := decide_eq_true (by rw [zs_len]; omega)
   by_cases hii : i = i0
   · subst hii
     by_cases hneg : d0 < 0
     · exact fi [ye hlt, .sel _ _ _ (zs_at h1), ye (t := decide (d0 < 0)) (decide_eq_true hneg), yt] (by kernel_rfl) (by kernel_rfl)
     · exact fi [ye hlt, .sel _ _ _ (zs_at h1), na (t := decide (d0 < 0)) (decide_eq_false hneg), .sel _ _ _ (zs_at h1), ye (t := decide (d0 ≥ 1000000000)) (decide_eq_true (by omega))] (by kernel_rfl) (by kernel_rfl)
   · have e := num_el (l := l) (i := i) (by omega)
     generalize l.getD i 0 = d at e
     obtain ⟨d0, d1⟩ := h3 i d (by omega) e
     exact .to mo_ [] [1, 3] [0] 1 [ye hlt, .sel _ _ _ (zs_at e), na (t := decide (d < 0)) (decide_eq_false (by omega)), .sel _ _ _ (zs_at e), na (t := decide (d ≥ 1000000000)) (decide_eq_false (by omega)), inc 10 i (by omega)] (ih (i + 1) (by omega) (by omega)) (by kernel_rfl)
/-- What makes a raw number one. -/
theorem rok_whole {x : Int} (h1 : n.s = decide (x < 0)) (h2 : n.l = digs x.natAbs) (h3 : n.t = false) (h4 : n.m = []) : rok n := by
 refine ⟨(x : Rat), ?_⟩
 obtain ⟨s, l, t, m⟩ := n
 simp only at h1 h2 h3 h4
 subst h1; subst h2; subst h3; subst h4
 unfold ofR
 rw [dq_one (r := (x : Rat)) rfl, show (x : Rat).num = x from rfl, show digs (0 : Int).natAbs = [] from digs_z rfl]
 rfl
theorem rok_frac {x y : Int} (h1 : n.s = decide (x < 0)) (h2 : n.l = digs x.natAbs) (h3 : n.t = decide (y < 0)) (h4 : n.m = digs y.natAbs) (hy : 1 < y) (hg : Int.gcd x y = 1) : rok n := by
 refine ⟨Rat.divInt x y, ?_⟩
 obtain ⟨e1, e2⟩ := divInt_pos (p := x) (q := y) (by omega) hg
 obtain ⟨s, l, t, m⟩ := n
 simp only at h1 h2 h3 h4
 subst h1; subst h2; subst h3; subst h4
 unfold ofR
 rw [dq_more (r := Rat.divInt x y) (by omega), e1, e2]
theorem iok_bd {x : Int} (h : l = digs x.natAbs) (hb : I.Can l → I.Bd k (I.val l)) : I.Bd k x := by
 subst h
 have := hb (digs_ok _).1
 rw [(digs_ok _).2] at this
 unfold I.Bd at *
 simpa using this
theorem e_rvalid_no (h : ¬ rok n) (hb : Bn k n) (hk : k ≤ 1000000000000) : Pure PP 63 [.ag (cN n)] (bo false) := by
 by_cases h1 : iok n.s n.l
 · obtain ⟨x, hx1, hx2⟩ := h1
   have vx := e_ivalid x
   have bx := iok_bd hx2 hb.1
   by_cases h2 : iok n.t n.m
   · obtain ⟨y, hy1, hy2⟩ := h2
     have vy := e_ivalid y
     have by_ := iok_bd hy2 hb.2
     have hc : cN n = [bo (decide (x < 0)), .sl (zs (digs x.natAbs)), bo (decide (y < 0)), .sl (zs (digs y.natAbs))] := by unfold cN; rw [hx1, hx2, hy1, hy2]; rfl
     rw [hc]
     by_cases y0 : y < 0
     · exact tr [cl vx, nf, cl vy, nf, ye (t := decide (y < 0)) (decide_eq_true y0), yt] (by kernel_rfl)
     · by_cases y1 : y = 1
       · exact tr [cl vx, nf, cl vy, nf, na (t := decide (y < 0)) (decide_eq_false y0), cl (e_unit y), ye (t := decide (y = 1)) (decide_eq_true y1)] (by kernel_rfl)
       · by_cases yz : y = 0
         · subst yz
           exact absurd (rok_whole hx1 hx2 hy1 (hy2.trans (digs_z rfl))) h
         · have hg := e_gcd bx by_ hk
           have hu := e_unit (Int.gcd x y : Int)
           rw [decide_eq_false (show ¬ (Int.gcd x y : Int) = 1 from fun e => h (rok_frac hx1 hx2 hy1 hy2 (by omega) (by omega)))] at hu
           exact tr [cl vx, nf, cl vy, nf, na (t := decide (y < 0)) (decide_eq_false y0), cl (e_unit y), na (t := decide (y = 1)) (decide_eq_false y1), na (lz_nz yz), cl hg, cl hu] (by kernel_rfl)
   · have hc : cN n = [bo (decide (x < 0)), .sl (zs (digs x.natAbs)), bo n.t, zl n.m] := by unfold cN; rw [hx1, hx2]; rfl
     rw [hc]
     exact tr [cl vx, nf, cl (e_ivalid_no h2), yt, yt, yt] (by kernel_rfl)
 · exact tr [cl (e_ivalid_no h1), yt, yt, yt, yt] (by kernel_rfl)
theorem e_valid4_no (h : ¬ rok n) (hb : Bn k n) (hk : k ≤ 800000000000) : Pure PP 71 [.ag (cN n)] (bo false) := by
 by_cases h1 : iok n.s n.l
 · obtain ⟨x, hx1, hx2⟩ := h1
   have vx := e_ivalid3 x
   have bx := iok_bd hx2 hb.1
   by_cases h2 : iok n.t n.m
   · obtain ⟨y, hy1, hy2⟩ := h2
     have vy := e_ivalid3 y
     have by_ := iok_bd hy2 hb.2
     have hc : cN n = [bo (decide (x < 0)), .sl (zs (digs x.natAbs)), bo (decide (y < 0)), .sl (zs (digs y.natAbs))] := by unfold cN; rw [hx1, hx2, hy1, hy2]; rfl
     rw [hc]
     by_cases y0 : y < 0
     · exact tr [cl vx, nf, cl vy, nf, ye (t := decide (y < 0)) (decide_eq_true y0), yt] (by kernel_rfl)
     · by_cases y1 : y = 1
       · exact tr [cl vx, nf, cl vy, nf, na (t := decide (y < 0)) (decide_eq_false y0), cl (e_one4 y), ye (t := decide (y = 1)) (decide_eq_true y1)] (by kernel_rfl)
       · by_cases yz : y = 0
         · subst yz
           exact absurd (rok_whole hx1 hx2 hy1 (hy2.trans (digs_z rfl))) h
         · have hg := e_gcd3 bx by_ hk
           have hu := e_one4 (Int.gcd x y : Int)
           rw [decide_eq_false (show ¬ (Int.gcd x y : Int) = 1 from fun e => h (rok_frac hx1 hx2 hy1 hy2 (by omega) (by omega)))] at hu
           exact tr [cl vx, nf, cl vy, nf, na (t := decide (y < 0)) (decide_eq_false y0), cl (e_one4 y), na (t := decide (y = 1)) (decide_eq_false y1), na (lz_nz yz), cl hg, cl hu] (by kernel_rfl)
   · have hc : cN n = [bo (decide (x < 0)), .sl (zs (digs x.natAbs)), bo n.t, zl n.m] := by unfold cN; rw [hx1, hx2]; rfl
     rw [hc]
     exact tr [cl vx, nf, cl (e_ivalid3_no h2), yt, yt, yt] (by kernel_rfl)
 · exact tr [cl (e_ivalid3_no h1), yt, yt, yt, yt] (by kernel_rfl)
/-- A raw number that is one. -/
theorem Bn.bq {r : Rat} (h : Bn k (ofR r)) (hk : 1 ≤ k) : Bq k r := by
 have h1 := iok_bd (l := (ofR r).l) (x := r.num) rfl h.1
 have h2 := iok_bd (l := (ofR r).m) (x := dq r) rfl h.2
 refine ⟨h1, ?_⟩
 by_cases e : r.den = 1
 · rw [e]
   unfold I.Bd
   have : 2 ^ 1 ≤ 2 ^ k := Nat.pow_le_pow_right (by omega) hk
   simp; omega
 · rw [← dq_more e]; exact h2
end
end Go.Proofs.YtlgnagnmoleeiaaGreat.E
