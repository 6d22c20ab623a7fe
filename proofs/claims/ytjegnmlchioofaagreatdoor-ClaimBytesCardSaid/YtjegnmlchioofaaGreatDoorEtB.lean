/-
 THE WIRE, by the engine: wire.GetInt, count, reader, GetInts.
-/
import Derived.Test.YtjegnmlchioofaaGreatDoorEtA
namespace Go.Proofs.YtjegnmlchioofaaGreatDoor.E
open Go.RowKit
set_option linter.unusedVariables false
set_option linter.unusedSimpArgs false
noncomputable abbrev fwG : Func := fnOf PP 96
/-- What a decoder of numbers returns. -/
def tu3 (r : Int × Nat × Int) : V := .tu [ni r.1, ni (r.2.1 : Int), ni r.2.2]
section
variable {hd : UInt8} {t l : List UInt8} {g : Bool} {K : Nat}
theorem wr6 {x : Int} (h : -9223372036854775808 ≤ x ∧ x ≤ 9223372036854775807) : IntKind.i64.wrap x = x := by rw [IntKind.wrap_i64]; omega
theorem xor_hd (hK : (W.fx g hd).toNat = 128 + K) : IntKind.i64.wrap (IntKind.i64.wrap (bits BinOp.xor IntKind.u8 (hd.toNat : Int) (W.fl g)) - 128) = (K : Int) := by
 have := (W.fx g hd).toNat_lt
 have e := wr6 (x := ((128 + K : Nat) : Int)) (by omega)
 rw [W.xor_fl g hd, hK, e, wr6 (by omega)]
 omega
/-- The number under the flip, as the code makes it. -/
theorem val_or (t : List UInt8) (g : Bool) {i : Nat} {b : UInt8} (hb : t[i]? = some b) (hi : i < 8) : bits BinOp.or IntKind.u64 (IntKind.u64.wrap ((W.val ((t.take i).map (W.fx g)) : Int) * 2 ^ 8)) (IntKind.u64.wrap (bits BinOp.xor IntKind.u8 (b.toNat : Int) (W.fl g))) = ((W.val ((t.take (i + 1)).map (W.fx g)) : Nat) : Int) := by
 have h1 := W.val_take_lt t g i
 have h2 : 256 ^ i ≤ 256 ^ 7 := Nat.pow_le_pow_right (by omega) (by omega)
 have h3 := (W.fx g b).toNat_lt
 have e1 : IntKind.u64.wrap ((W.val ((t.take i).map (W.fx g)) : Int) * 2 ^ 8) = (W.val ((t.take i).map (W.fx g)) : Int) * 256 := by rw [IntKind.wrap_u64]; omega
 have e2 : IntKind.u64.wrap (bits BinOp.xor IntKind.u8 (b.toNat : Int) (W.fl g)) = ((W.fx g b).toNat : Int) := by rw [W.xor_fl g b, IntKind.wrap_u64]; omega
 rw [e1, e2, W.val_step t g i b hb, W.or_step _ _ (by omega) h3]
noncomputable def gIs (hd : UInt8) (t : List UInt8) (g : Bool) (K i m : Nat) : St := at_ fwG [(5, .k (.int .u8 (W.fl g))), (6, ni K), (7, u64 m), (46, .sl (byL (t.take K))), (47, ni K), (48, ni i)] []
theorem gI_loop (hg : g = decide (hd.toNat < 128)) (hK : (W.fx g hd).toNat = 128 + K) (h8 : K ≤ 8) (hl : K ≤ t.length) (hz : 0 < K → ∃ b1, t[0]? = some b1 ∧ 0 < (W.fx g b1).toNat) : Gd PP 96 (tu3 (W.dec (hd :: t))) (lp fwG 0) (gIs hd t g K 0 0) := by
 have hv := W.dec_val hd t g K hg hK h8 hl hz
 have h0 : W.val ((t.take 0).map (W.fx g)) = 0 := rfl
 conv => arg 5; rw [← h0]
 refine Gd.loop (fun i => gIs hd t g K i (W.val ((t.take i).map (W.fx g)))) (fun i => i ≤ K) (fun i => K - i) ?_ 0 (Nat.zero_le _)
 intro i hi ih
 by_cases h : i < K
 · obtain ⟨b, hb⟩ := by_el (l := t) (i := i) (by omega)
   have k0 : (t.take K)[i]? = some b := by rw [List.getElem?_take_of_lt h]; exact hb
   exact .to mo_ [] [5, 6, 7, 46, 47, 48] [] 0 [ye (t := decide ((i : Int) < (K : Int))) (decide_eq_true (by omega)), .sel _ _ _ (byL_at k0), .eqv 58 (.k (.int .u64 (bits BinOp.or IntKind.u64 (IntKind.u64.wrap ((W.val ((t.take i).map (W.fx g)) : Int) * 2 ^ 8)) (IntKind.u64.wrap (bits BinOp.xor IntKind.u8 (b.toNat : Int) (W.fl g)))))) (u64 (W.val ((t.take (i + 1)).map (W.fx g)))) (by rw [val_or t g hb (by omega)]; rfl), inc 59 i (by omega)] (ih (i + 1) h (by omega)) (by kernel_rfl)
 · have hi2 : i = K := by omega
   subst hi2
   have hlt := W.val_take_lt t g i
   have hp : 256 ^ i ≤ 256 ^ 8 := Nat.pow_le_pow_right (by omega) (by omega)
   rw [hv]
   clear hv ih hz h0
   generalize W.val ((t.take i).map (W.fx g)) = M at hlt
   have hM : M < 18446744073709551616 := by omega
   have hf : ((M : Int).fdiv (2 ^ 63)) = ((M / 9223372036854775808 : Nat) : Int) := by rw [Int.fdiv_eq_ediv_of_nonneg _ (by decide)]; rfl
   by_cases h63 : 9223372036854775808 ≤ M
   · rw [if_pos h63]
     exact fi [na (t := decide ((i : Int) < (i : Int))) (decide_eq_false (by omega)), ye (t := decide ((M : Int).fdiv (2 ^ 63) > 0)) (by rw [hf]; exact decide_eq_true (by omega))] (by kernel_rfl) (by kernel_rfl)
   · rw [if_neg h63]
     have e1 : IntKind.i64.wrap (bits BinOp.xor IntKind.u64 IntKind.u64.max (M : Int)) = -1 - (M : Int) := by rw [W.u64_not M (by omega), IntKind.wrap_i64]; omega
     cases g with
     | true => exact fi [na (t := decide ((i : Int) < (i : Int))) (decide_eq_false (by omega)), na (t := decide ((M : Int).fdiv (2 ^ 63) > 0)) (by rw [hf]; exact decide_eq_false (by omega)), yt, .eqv 68 (ni (IntKind.i64.wrap (bits BinOp.xor IntKind.u64 IntKind.u64.max (M : Int)))) (ni (-1 - (M : Int))) (by rw [e1]), inc 70 i (by omega)] (by kernel_rfl) (by kernel_rfl)
     | false => exact fi [na (t := decide ((i : Int) < (i : Int))) (decide_eq_false (by omega)), na (t := decide ((M : Int).fdiv (2 ^ 63) > 0)) (by rw [hf]; exact decide_eq_false (by omega)), nf, wq 68 (M : Int) (M : Int) (by omega), inc 70 i (by omega)] (by kernel_rfl) (by kernel_rfl)
theorem gI_body (hg : g = decide (hd.toNat < 128)) : Gd PP 96 (tu3 (W.dec (hd :: t))) (rg fwG 6) (at_ fwG [(0, .sl (byL (hd :: t))), (5, .k (.int .u8 (W.fl g)))] []) := by
 obtain ⟨K, hK⟩ : ∃ K, (W.fx g hd).toNat = 128 + K := by
  refine ⟨(W.fx g hd).toNat - 128, ?_⟩
  rw [W.fx_toNat, hg]
  have := hd.toNat_lt
  by_cases h : hd.toNat < 128 <;> simp [h] <;> omega
 have hKb : K ≤ 127 := by have := (W.fx g hd).toNat_lt; omega
 have x := xor_hd hK
 have hln : (byL (hd :: t)).length = t.length + 1 := byL_len _
 have s0 : (byL (hd :: t))[0]? = some [u8v hd] := rfl
 let q : F_ := .eqv 23 (ni (IntKind.i64.wrap (IntKind.i64.wrap (bits BinOp.xor IntKind.u8 (hd.toNat : Int) (W.fl g)) - 128))) (ni K) (by rw [x])
 by_cases h8 : K ≤ 8
 · by_cases hl : K ≤ t.length
   · have q8 : decide ((K : Int) > 8) = false := decide_eq_false (by omega)
     have ql : decide (((byL (hd :: t)).length : Int) ≤ (K : Int)) = false := decide_eq_false (by rw [hln]; omega)
     have hsl : ((byL (hd :: t)).take (K + 1)).drop 1 = byL (t.take K) := by rw [← byL_take]; rfl
     have hlk : (t.take K).length = K := by rw [List.length_take]; omega
     by_cases h0 : 0 < K
     · obtain ⟨b1, k0⟩ := by_el (l := t) (i := 0) (by omega)
       have s1 : (byL (hd :: t))[1]? = some [u8v b1] := byL_at k0
       have xb := W.xor_fl g b1
       by_cases hz : (W.fx g b1).toNat = 0
       · rw [W.dec_zero hd t g K hg hK h8 hl h0 b1 k0 hz]
         exact fi [.sel _ _ _ s0, q, na q8, na ql, ye (t := decide ((K : Int) > 0)) (decide_eq_true (by omega)), .sel _ _ _ s1, .eqv 41 (bo (bits BinOp.xor IntKind.u8 (b1.toNat : Int) (W.fl g) == 0)) (bo true) (by rw [xb, hz]; rfl), yt] (by kernel_rfl) (by kernel_rfl)
       · have L := gI_loop hg hK h8 hl (fun _ => ⟨b1, k0, by omega⟩)
         exact .to mo_ [] [5, 6, 7, 46, 47, 48] [] 0 [.sel _ _ _ s0, q, na q8, na ql, ye (t := decide ((K : Int) > 0)) (decide_eq_true (by omega)), .sel _ _ _ s1, .eqv 41 (bo (bits BinOp.xor IntKind.u8 (b1.toNat : Int) (W.fl g) == 0)) (bo false) (by rw [xb]; simp [bo]; omega), nf, inc 45 K (by omega), .slc (byL (hd :: t)) 1 (K + 1) 1 (byL (t.take K)) hsl (by rw [hln]; omega) (byL_z _), .eqv 47 (ni ((byL (t.take K)).length : Int)) (ni K) (by rw [byL_len, hlk])] L (by kernel_rfl)
     · have L := gI_loop hg hK h8 hl (fun h => absurd h h0)
       have hK0 : K = 0 := by omega
       subst hK0
       exact .to mo_ [] [5, 6, 7, 46, 47, 48] [] 0 [.sel _ _ _ s0, q, nf, na ql, nf, nf, .slc (byL (hd :: t)) 1 1 1 (byL (t.take 0)) hsl (by rw [hln]; omega) (byL_z _)] L (by kernel_rfl)
   · rw [W.dec_more hd t g K hg hK (by omega) (by omega)]
     exact fi [.sel _ _ _ s0, q, na (t := decide ((K : Int) > 8)) (decide_eq_false (by omega)), ye (t := decide (((byL (hd :: t)).length : Int) ≤ (K : Int))) (decide_eq_true (by rw [hln]; omega))] (by kernel_rfl) (by kernel_rfl)
 · rw [W.dec_big hd t g K hg hK (by omega)]
   exact fi [.sel _ _ _ s0, q, ye (t := decide ((K : Int) > 8)) (decide_eq_true (by omega))] (by kernel_rfl) (by kernel_rfl)
theorem e_wgetint (l : List UInt8) : Pure PP 96 [.sl (byL l)] (tu3 (W.dec l)) := by
 match l with
 | [] => exact tr [yt] (by kernel_rfl)
 | hd :: t =>
   have hln : (byL (hd :: t)).length = t.length + 1 := byL_len _
   have s0 : (byL (hd :: t))[0]? = some [u8v hd] := rfl
   have nz : (((byL (hd :: t)).length : Int) == 0) = false := by rw [hln]; simp; omega
   by_cases h : hd.toNat < 128
   · exact pf (by kernel_rfl) (.to mo_ [] [0, 5] [] 0 [na nz, .sel _ _ _ s0, ye (t := decide ((hd.toNat : Int) < 128)) (decide_eq_true (by omega))] (td' := rg fwG 6) (σ' := at_ fwG [(0, .sl (byL (hd :: t))), (5, .k (.int .u8 (W.fl true)))] []) (gI_body (by simp [h])) (by kernel_rfl))
   · exact pf (by kernel_rfl) (.to mo_ [] [0, 5] [] 0 [na nz, .sel _ _ _ s0, na (t := decide ((hd.toNat : Int) < 128)) (decide_eq_false (by omega))] (td' := rg fwG 6) (σ' := at_ fwG [(0, .sl (byL (hd :: t))), (5, .k (.int .u8 (W.fl false)))] []) (gI_body (by simp [h])) (by kernel_rfl))
theorem e_wcount (l : List UInt8) (s : Nat) (hs : s = 0 ∨ s = 15) (hb : l.length ≤ 4611686018427387904) : Pure PP 64 [.sl (byL l), ni ((s + 1 : Nat) : Int)] (tu3 (W.cnt l (s + 1))) := by
 have c := e_wgetint l
 have h1 := W.dec_at_le l
 unfold W.cnt
 rcases hd : W.dec l with ⟨n, u, e⟩
 rw [hd] at c h1
 simp only at h1 ⊢
 by_cases he : e = 0
 · rw [if_neg (by simp [he])]
   subst he
   by_cases hn : n < 0
   · rw [if_pos hn]
     exact tr [cl c, nf, ye (t := decide (n < 0)) (decide_eq_true hn)] (by kernel_rfl)
   · rw [if_neg hn]
     have hq : ((l.length : Int) - (u : Int)).tdiv ((s + 1 : Nat) : Int) = ((l.length - u) / (s + 1) : Nat) := by
      rw [show (l.length : Int) - (u : Int) = ((l.length - u : Nat) : Int) from by omega]
      rfl
     by_cases hm : (((l.length - u) / (s + 1) : Nat) : Int) < n
     · rw [if_pos hm]
       rcases hs with rfl | rfl
       · exact tr [cl c, nf, na (t := decide (n < 0)) (decide_eq_false hn), lnq 22 l, wq 24 ((l.length : Int) - (u : Int)) ((l.length : Int) - (u : Int)) (by omega), .eqv 26 (ni (IntKind.i64.wrap (((l.length : Int) - (u : Int)).tdiv 1))) (ni ((l.length - u) / (0 + 1) : Nat)) (by rw [show (((l.length : Int) - (u : Int)).tdiv 1) = ((l.length - u) / (0 + 1) : Nat) from hq, wr6 (by omega)]), ye (t := decide (n > (((l.length - u) / (0 + 1) : Nat) : Int))) (decide_eq_true (by omega))] (by kernel_rfl)
       · exact tr [cl c, nf, na (t := decide (n < 0)) (decide_eq_false hn), lnq 22 l, wq 24 ((l.length : Int) - (u : Int)) ((l.length : Int) - (u : Int)) (by omega), .eqv 26 (ni (IntKind.i64.wrap (((l.length : Int) - (u : Int)).tdiv 16))) (ni ((l.length - u) / (15 + 1) : Nat)) (by rw [show (((l.length : Int) - (u : Int)).tdiv 16) = ((l.length - u) / (15 + 1) : Nat) from hq, wr6 (by omega)]), ye (t := decide (n > (((l.length - u) / (15 + 1) : Nat) : Int))) (decide_eq_true (by omega))] (by kernel_rfl)
     · rw [if_neg hm]
       rcases hs with rfl | rfl
       · exact tr [cl c, nf, na (t := decide (n < 0)) (decide_eq_false hn), lnq 22 l, wq 24 ((l.length : Int) - (u : Int)) ((l.length : Int) - (u : Int)) (by omega), .eqv 26 (ni (IntKind.i64.wrap (((l.length : Int) - (u : Int)).tdiv 1))) (ni ((l.length - u) / (0 + 1) : Nat)) (by rw [show (((l.length : Int) - (u : Int)).tdiv 1) = ((l.length - u) / (0 + 1) : Nat) from hq, wr6 (by omega)]), na (t := decide (n > (((l.length - u) / (0 + 1) : Nat) : Int))) (decide_eq_false (by omega))] (by kernel_rfl)
       · exact tr [cl c, nf, na (t := decide (n < 0)) (decide_eq_false hn), lnq 22 l, wq 24 ((l.length : Int) - (u : Int)) ((l.length : Int) - (u : Int)) (by omega), .eqv 26 (ni (IntKind.i64.wrap (((l.length : Int) - (u : Int)).tdiv 16))) (ni ((l.length - u) / (15 + 1) : Nat)) (by rw [show (((l.length : Int) - (u : Int)).tdiv 16) = ((l.length - u) / (15 + 1) : Nat) from hq, wr6 (by omega)]), na (t := decide (n > (((l.length - u) / (15 + 1) : Nat) : Int))) (decide_eq_false (by omega))] (by kernel_rfl)
 · rw [if_pos he]
   exact tr [cl c, ye (t := e != 0) (by simpa using he)] (by kernel_rfl)
/-- What lies behind a place. -/
def slD {P : Program} (l : List UInt8) (p : Nat) (hp : p ≤ l.length) : Fa P := .slc (byL l) p (byL l).length 1 (byL (l.drop p)) (by rw [List.take_of_length_le (Nat.le_refl _), byL_drop]) (by rw [byL_len]; omega) (byL_z _)
/-- The boxes of a reader. -/
def rdB (l : List UInt8) (p : Nat) : List HO := [.bx 23 [.sl (byL l)], .bx 3 [ni p]]
theorem e_reader (l : List UInt8) (p : Nat) : PureT PP 65 [] [.sl (byL l), ni p] (.io 0 (rdB l p) (.cl 97 [.lp 0 0, .lp 1 0])) := trT [] (by kernel_rfl)
theorem e_nextW (l : List UInt8) (p : Nat) (hp : p ≤ l.length) (hb : l.length ≤ 4611686018427387904) : PureT PP 97 (rdB l p) [.lp 0 0, .lp 1 0] (.io 2 (rdB l (p + (W.dec (l.drop p)).2.1)) (.tu [ni (W.dec (l.drop p)).1, ni ((p + (W.dec (l.drop p)).2.1 : Nat) : Int), ni (W.dec (l.drop p)).2.2])) := by
 have c := e_wgetint (l.drop p)
 have h1 := W.dec_at_le (l.drop p)
 rw [List.length_drop] at h1
 rcases hd : W.dec (l.drop p) with ⟨n, u, e⟩
 rw [hd] at c h1
 simp only at h1 ⊢
 exact trT [slD l p hp, cl c, wq 18 ((p : Int) + (u : Int)) ((p + u : Nat) : Int) (by omega)] (by kernel_rfl)
/-- What a decoder of a list of numbers returns. -/
def tuI (r : List Int × Nat × Int) : V := .tu [zl r.1, ni (r.2.1 : Int), ni r.2.2]
noncomputable abbrev fwS : Func := fnOf PP 35
noncomputable def gSs (l : List UInt8) (n : Nat) (x : Nat × List Int × Nat × Nat) : St := at_ fwS [(6, ni x.2.2.2), (8, .cl 97 [.lp 0 0, .lp 1 0]), (9, .ow 2), (25, ni n), (26, ni x.1)] (rdB l x.2.2.1 ++ [.rw 3 1 (zs x.2.1)])
theorem e_wgetints (l : List UInt8) (hb : l.length ≤ 1000000) : Pure PP 35 [.sl (byL l)] (tuI (W.decI l)) := by
 have c := e_wcount l 0 (.inl rfl) (by omega)
 unfold W.decI W.decL
 by_cases hc : (W.cnt l (0 + 1)).2.2 = 0
 · obtain ⟨n, hn, hn2, hn3⟩ := W.cnt_bound hc
   rw [if_neg (by simp [hc])]
   rcases hd : W.cnt l (0 + 1) with ⟨k, p0, e⟩
   rw [hd] at c hc hn hn2 hn3
   simp only at hc hn hn2 hn3
   subst hc
   subst hn
   have hp0 : n + p0 ≤ l.length := by simpa using hn2
   rw [Int.toNat_natCast]
   show Pure PP _ _ (tuI (W.seqD W.dec l n p0 []))
   refine pf (by kernel_rfl) (.to mo_ [.ow 9 (.rw 3 1 [])] [6, 8, 9, 25, 26] [0, 1, 2] 3 [cl c, nf, .lend _ _ _ _ [] (e_reader l p0)] (td' := lp fwS 0) (σ' := gSs l n (0, [], p0, p0)) ?_ (by kernel_rfl))
   refine Gd.loop (gSs l n) (fun x => x.1 ≤ n ∧ x.2.1.length = x.1 ∧ x.2.2.1 = x.2.2.2 ∧ x.2.2.1 ≤ l.length ∧ W.seqD W.dec l n p0 [] = W.seqD W.dec l (n - x.1) x.2.2.1 x.2.1) (fun x => n - x.1) ?_ (0, [], p0, p0) ⟨Nat.zero_le _, rfl, rfl, by simp only; omega, rfl⟩
   rintro ⟨i, acc, p, q⟩ ⟨hi, ha, hpq, hp, hI⟩ ih
   simp only at hi ha hpq hp hI ih
   subst hpq
   by_cases h : i < n
   · have N := e_nextW l p hp (by omega)
     have hle := W.dec_at_le (l.drop p)
     rw [List.length_drop] at hle
     rw [show n - i = (n - (i + 1)) + 1 from by omega] at hI
     simp only [W.seqD] at hI
     rcases hx : W.dec (l.drop p) with ⟨x, u, e⟩
     rw [hx] at N hle hI
     simp only at N hle hI
     by_cases he : e = 0
     · subst he
       rw [if_neg (by simp)] at hI
       exact .to mo_ [.mv 2 4] [6, 8, 9, 25, 26] [0, 1, 2] 3 [ye (t := decide ((i : Int) < (n : Int))) (decide_eq_true (by omega)), .lend _ _ _ _ [0, 1] N, nf, .app (zs acc) (zs [x]) (zs (acc ++ [x])) 1000000 (zs_app _ _).symm Nat.zero_lt_one (by rw [zs_len, List.length_append]; simp; omega), inc 42 i (by omega)] (ih (i + 1, acc ++ [x], p + u, p + u) ⟨h, by simp [ha], rfl, by simp only; omega, hI⟩ (by simp only; omega)) (by kernel_rfl)
     · rw [if_pos he] at hI
       rw [hI]
       exact fi [ye (t := decide ((i : Int) < (n : Int))) (decide_eq_true (by omega)), .lend _ _ _ _ [0, 1] N, ye (t := e != 0) (by simpa using he)] (by kernel_rfl) (by kernel_rfl)
   · have hi2 : i = n := by omega
     subst hi2
     rw [Nat.sub_self] at hI
     rw [hI]
     exact fi [na (t := decide ((i : Int) < (i : Int))) (decide_eq_false (by omega))] (by kernel_rfl) (by kernel_rfl)
 · rw [if_pos hc]
   rcases hd : W.cnt l (0 + 1) with ⟨n, u, e⟩
   rw [hd] at c hc
   simp only at hc ⊢
   exact tr [cl c, ye (t := e != 0) (by simpa using hc)] (by kernel_rfl)
end
end Go.Proofs.YtjegnmlchioofaaGreatDoor.E
