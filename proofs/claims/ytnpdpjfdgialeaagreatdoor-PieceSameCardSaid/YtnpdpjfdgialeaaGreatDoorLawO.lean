/-
 THE LAWS by the engine, their arguments as they come in.
-/
import Derived.Test.YtnpdpjfdgialeaaGreatDoorShS
import Derived.Test.YtnpdpjfdgialeaaGreatDoorEtC
import Derived.Test.YtnpdpjfdgialeaaGreatDoorPlainX
import Derived.Test.YtnpdpjfdgialeaaGreatDoorFaJ
import Derived.Test.YtnpdpjfdgialeaaGreatDoorShC
import Derived.Test.YtnpdpjfdgialeaaGreatDoorFaI
import Derived.Test.YtnpdpjfdgialeaaGreatDoorFlow
import Derived.OpenShut
import Derived.Test.YtnpdpjfdgialeaaGreatDoorEpN
namespace Go.Proofs.YtnpdpjfdgialeaaGreatDoor.E.Hs
open Go.RowKit Sh Ct
set_option linter.unusedVariables false
set_option linter.unusedSimpArgs false
section
variable {B b M : List UInt8} {x y z u : Wd} {s r : S8} {n i j k t : Nat}
theorem st8_get (h : i < 8) : (st8 s)[i]? = some (wv (S8.wd s i)) := by
 match i, h with
 | 0, _ => rfl
 | 1, _ => rfl
 | 2, _ => rfl
 | 3, _ => rfl
 | 4, _ => rfl
 | 5, _ => rfl
 | 6, _ => rfl
 | 7, _ => rfl
theorem rs_out (s : S8) (i : Nat) (hi : i < 32) {D : List V} (h : Gd PP 102 (.ag D) (lp fRs 2) (rsZ s (i + 1))) : Gd PP 102 (.ag D) (lp fRs 2) (rsZ s i) := by
 have e53 : V.k (.int .u32 ((wi (S8.wd s (i / 4))).fdiv (2 ^ (min (((24 - 8 * (i % 4) : Nat) : Int)).toNat IntKind.u32.bits)))) = wv ((S8.wd s (i / 4)) >>> (24 - 8 * (i % 4))) := by rw [shr_v (by omega)]; rfl
 have ld : Ext PP (mkLd T32) [.lp 1 (0 + i / 4 * 1)] [(1, .bx T8 (st8 s))] [] (wv (S8.wd s (i / 4))) := lT8 1 T8 (st8_get (by omega))
 have st : Ext PP (mkSt T8b) [.lp 2 (0 + i * 1), bv (outU s i)] [(2, .bx T32b (w32 (wP s i)))] [(2, .bx T32b (w32 (wP s (i + 1))))] .un := sT32 2 T32b (by rw [w32_len]; exact hi) wP_put
 exact .to mo_ [] [2, 3, 18, 19] [0, 1, 2] 3 [ye (t := decide ((i : Int) < 32)) (decide_eq_true (by omega)), .eqv 153 _ _ (quo_i (i := i) (by omega)), .ext (some 154) _ _ _ _ _ (aT8 (i := i / 4) (by omega) 1), .ext (some 155) _ _ _ _ _ ld, .eqv 157 _ _ (rem_i (i := i) (by omega)), .eqv 158 _ _ (mul_i (i := i % 4) (j := 8) (by omega) (by omega)), .eqv 159 _ _ (sub_i (i := 24) (j := 8 * (i % 4)) (by omega) (by omega)), .eqv 160 _ _ e53, .eqv 161 _ _ (u8_w ((S8.wd s (i / 4)) >>> (24 - 8 * (i % 4))).toNat), .ext (some 162) _ _ _ _ _ (aT32 hi 2), .ext none _ _ _ _ _ st, inc 150 i (by omega)] h (by kernel_rfl)
theorem byL_blk : ((byL M).take (64 * i + 64)).drop (64 * i) = byL ((M.drop (64 * i)).take 64) := by
 unfold byL
 rw [List.drop_take, show 64 * i + 64 - 64 * i = 64 by omega, ← List.map_drop, List.map_take]
theorem rs_block (M : List UInt8) (s : S8) (i N : Nat) (hM : M.length = 64 * N) (hN : M.length ≤ 200000000000) (hi : i < N) {D : List V} (h : Gd PP 102 (.ag D) (lp fRs 0) (rsX M (s.block KW ((M.drop (64 * i)).take 64)) (i + 1))) : Gd PP 102 (.ag D) (lp fRs 0) (rsX M s i) := by
 have e25 : ni ((byL M).length : Int) = ni ((64 * N : Nat) : Int) := by rw [byL_len, hM]
 have hB : ((M.drop (64 * i)).take 64).length = 64 := by rw [List.length_take, List.length_drop]; omega
 have hsl := byL_blk (M := M) (i := i)
 generalize hq : (M.drop (64 * i)).take 64 = B at *
 have hz : ∀ cs ∈ byL M, cs.length = 1 := fun cs h => (b1z cs h).1
 let R : Nat → S8 := S8.rounds KW (wordsU B 64) s
 refine .to mo_ [] [2, 3, 4, 5, 6, 7, 8, 9, 10, 11, 12, 13, 14, 15] [0, 1, 2] 3 [.eqv 25 _ _ e25, ye (t := decide (((64 * i : Nat) : Int) < ((64 * N : Nat) : Int))) (decide_eq_true (by omega)), .eqv 32 _ _ (add_i (i := 64 * i) (j := 64) (by omega) (by omega)), .slc (byL M) (64 * i) (64 * i + 64) 1 (byL B) hsl (by rw [byL_len]; omega) hz, cl (e_words B hB)] (td' := lp fRs 1) (σ' := rsY M B s s i 0) ?_ (by kernel_rfl)
 refine Gd.loop (fun t => rsY M B s (R t) i t) (fun t => t ≤ 64) (fun t => 64 - t) ?_ 0 (Nat.zero_le _)
 intro t ht ih
 by_cases g : t < 64
 · exact rs_step M B s (R t) i t g (ih (t + 1) g (by omega))
 have ht : t = 64 := by omega
 subst ht
 have hh : Gd PP 102 (.ag D) (lp fRs 0) (rsX M (s.add (R 64)) (i + 1)) := h
 show Gd PP 102 (.ag D) (lp fRs 1) (rsY M B s (R 64) i 64)
 generalize R 64 = r at *
 exact .to mo_ [] [2, 3, 4, 5] [0, 1] 2 [na (t := decide (((64 : Nat) : Int) < 64)) (decide_eq_false (by omega)), fa 117 s.a r.a, fa 121 s.b r.b, fa 125 s.c r.c, fa 129 s.d r.d, fa 133 s.e r.e, fa 137 s.f r.f, fa 141 s.g r.g, fa 145 s.h r.h, .eqv 28 _ _ (add_i (i := 64 * i) (j := 64) (by omega) (by omega))] hh (by kernel_rfl)
/-- The reference's hash. -/
theorem e_rsum (b : List UInt8) (h0 : 0 < b.length) (hn : b.length ≤ 100000000000) : Pure PP 102 [.sl (byL b)] (.ag (w32 (outU (shaS KW IV b)))) := by
 have hp := padU_len b.length
 have hpl : (padU b.length).length = 9 + zerosN b.length := by rw [← padW_8, padW_len]; omega
 have hz := zerosN_lt b.length
 have hpd := (e_padded b h0 hn).ro
 obtain ⟨N, hN⟩ : ∃ N, (b ++ padU b.length).length = 64 * N := ⟨(b ++ padU b.length).length / 64, by rw [List.length_append]; omega⟩
 have hle : (b ++ padU b.length).length ≤ 200000000000 := by rw [List.length_append]; omega
 have hS : shaS KW IV b = S8.blocks KW IV (b ++ padU b.length) N := by
  show S8.blocks KW IV (b ++ padU b.length) ((b ++ padU b.length).length / 64) = _
  rw [hN, show 64 * N / 64 = N by omega]
 rw [hS]
 generalize b ++ padU b.length = M at *
 refine pf (by kernel_rfl) (.to mo_ [] [2, 3, 4, 5] [0, 1] 2 [cl hpd] (td' := lp fRs 0) (σ' := rsX M IV 0) ?_ (by kernel_rfl))
 refine Gd.loop (fun i => rsX M (S8.blocks KW IV M i) i) (fun i => i ≤ N) (fun i => N - i) ?_ 0 (Nat.zero_le _)
 intro i hi ih
 by_cases g : i < N
 · exact rs_block M _ i N hN hle g (ih (i + 1) g (by omega))
 have hiN : i = N := by omega
 subst hiN
 have e25 : ni ((byL M).length : Int) = ni ((64 * i : Nat) : Int) := by rw [byL_len, hN]
 generalize S8.blocks KW IV M i = S
 refine .to mo_ [] [2, 3, 18, 19] [0, 1, 2] 3 [.eqv 25 _ _ e25, na (t := decide (((64 * i : Nat) : Int) < ((64 * i : Nat) : Int))) (decide_eq_false (by omega))] (td' := lp fRs 2) (σ' := rsZ S 0) ?_ (by kernel_rfl)
 refine Gd.loop (rsZ S) (fun j => j ≤ 32) (fun j => 32 - j) ?_ 0 (Nat.zero_le _)
 intro j hj ih
 by_cases g : j < 32
 · exact rs_out S j g (ih (j + 1) g (by omega))
 have h9 : j = 32 := by omega
 subst h9
 rw [← wP_end]
 exact fi [na (t := decide (((32 : Nat) : Int) < 32)) (decide_eq_false (by omega))] (by kernel_rfl) (by kernel_rfl)
end
end Go.Proofs.YtnpdpjfdgialeaaGreatDoor.E.Hs
namespace Go.Proofs.YtnpdpjfdgialeaaGreatDoor.E.Hs
open Go.RowKit Sh Ct
set_option linter.unusedVariables false
set_option linter.unusedSimpArgs false
section
variable {s b : List UInt8} {ps : List (List UInt8)} {W W' : Nat → UInt8} {n i j k t tag : Nat} {v : UInt8}
theorem w16_len : (w16 W).length = 16 := by unfold w16; simp
theorem w16_put (h1 : W' i = v) (h2 : ∀ j, j ≠ i → W' j = W j) : (w16 W).set i (bv v) = w16 W' := by
 apply List.ext_getElem?
 intro j
 rw [List.getElem?_set, w16_len]
 unfold w16
 by_cases e : i = j
 · subst e
   rw [if_pos rfl]
   by_cases g : i < 16
   · rw [if_pos g, List.getElem?_map, List.getElem?_range g]; show _ = some (bv (W' i)); rw [h1]
   · rw [if_neg g, List.getElem?_eq_none (by simp; omega)]
 · rw [if_neg e]
   by_cases g : j < 16
   · rw [List.getElem?_map, List.getElem?_map, List.getElem?_range g]; show some (bv (W j)) = some (bv (W' j)); rw [h2 j fun q => e q.symm]
   · rw [List.getElem?_eq_none (by simp; omega), List.getElem?_eq_none (by simp; omega)]
def cP (W : Nat → UInt8) (i j : Nat) : UInt8 := if j < i then W j else 0
theorem cP_put : (w16 (cP W i)).set i (bv (W i)) = w16 (cP W (i + 1)) := w16_put (if_pos (Nat.lt_succ_self i)) fun j h => by
 unfold cP
 by_cases g : j < i
 · rw [if_pos g, if_pos (by omega)]
 · rw [if_neg g, if_neg (by omega)]
theorem cP_end : w16 (cP W 16) = w16 W := by
 unfold w16
 refine List.map_congr_left fun i hi => ?_
 unfold cP
 rw [if_pos (List.mem_range.1 hi)]
theorem w32_at (h : i < 32) : (w32 W)[i]? = some (bv (W i)) := by
 unfold w32
 rw [List.getElem?_map, List.getElem?_range h]; rfl
noncomputable abbrev fSt : Func := fnOf PP 64
noncomputable def shX (W : Nat → UInt8) (i : Nat) : St := at_ fSt [(2, .lp 0 0), (3, .lp 1 0), (4, .lp 2 0), (5, ni (i : Int))] [.bx TD (w16 fun _ => 0), .bx T32b (w32 W), .bx TD (w16 (cP W i))]
theorem aTD (h : i < 16) (b : Nat) : Ext PP (mkIa TD) [.lp b 0, ni (i : Int)] [] [] (.lp b (0 + i * 1)) := x_ia (n := 16) (e := T8b) (by kernel_rfl) (by kernel_rfl) h
theorem e_short (b : List UInt8) (h0 : 0 < b.length) (hn : b.length ≤ 100000000000) : Pure PP 64 [.sl (byL b)] (.ag (w16 (outU (shaS KW IV b)))) := by
 have hs := e_rsum b h0 hn
 generalize outU (shaS KW IV b) = W at *
 refine pf (by kernel_rfl) (.to mo_ [] [2, 3, 4, 5] [0, 1, 2] 3 [cl hs] (td' := lp fSt 0) (σ' := shX W 0) ?_ (by kernel_rfl))
 refine Gd.loop (shX W) (fun j => j ≤ 16) (fun j => 16 - j) ?_ 0 (Nat.zero_le _)
 intro j hj ih
 by_cases g : j < 16
 · have ld : Ext PP (mkLd T8b) [.lp 1 (0 + j * 1)] [(1, .bx T32b (w32 W))] [] (bv (W j)) := x_ld (by kernel_rfl) (by rw [Nat.zero_add, Nat.mul_one]; exact w32_at (by omega))
   have st : Ext PP (mkSt T8b) [.lp 2 (0 + j * 1), bv (W j)] [(2, .bx TD (w16 (cP W j)))] [(2, .bx TD (w16 (cP W (j + 1))))] .un := sT32 2 TD (by rw [w16_len]; exact g) cP_put
   exact .to mo_ [] [2, 3, 4, 5] [0, 1, 2] 3 [ye (t := decide ((j : Int) < 16)) (decide_eq_true (by omega)), .ext (some 15) _ _ _ _ _ (aT32 (i := j) (by omega) 1), .ext (some 16) _ _ _ _ _ ld, .ext (some 17) _ _ _ _ _ (aTD g 2), .ext none _ _ _ _ _ st, inc 12 j (by omega)] (ih (j + 1) g (by omega)) (by kernel_rfl)
 have h9 : j = 16 := by omega
 subst h9
 rw [← cP_end]
 exact fi [na (t := decide (((16 : Nat) : Int) < 16)) (decide_eq_false (by omega))] (by kernel_rfl) (by kernel_rfl)
theorem e_rbytes (s : List UInt8) (h0 : 0 < s.length) (hn : s.length ≤ 100000000000) : Pure PP 103 [sV s] (.o 5 1 (byL (bsE s))) := by
 have h64 : W.Is64 (s.length : Int) := by unfold W.Is64; omega
 have he := W.enc_le (s.length : Int)
 have e4 : ni ((⟨s.toArray⟩ : ByteArray).size : Int) = ni (s.length : Int) := rfl
 have cv : Ext PP (mkCv 9 TB) [sV s] [] [] (.sl (byL s)) := x_s2b (by kernel_rfl) (e := T8b) (by kernel_rfl) (by kernel_rfl) (by omega)
 exact tr [.eqv 4 _ _ e4, cl (e_rint h64), .ext (some 7) _ _ _ _ _ cv, .aps (byL (W.enc (s.length : Int))) (byL s) (byL (bsE s)) 200000000000 1 (byL_app _ _) (by rw [byL_len]; exact h0) (by rw [byL_len]; have := bsE_len s; omega) b1z] (by kernel_rfl)
noncomputable abbrev fIn : Func := fnOf PP 65
noncomputable def inX (tag : Nat) (ps : List (List UInt8)) (i : Nat) : St := at_ fIn [(1, .sl (stL ps)), (5, .ow 0), (6, ni (i : Int))] [.rw T8b 1 (byL (inU tag (ps.take i)))]
theorem e_input (tag : Nat) (ps : List (List UInt8)) (hn : ps.length ≤ 1000000) (hps : ∀ p ∈ ps, 0 < p.length ∧ p.length ≤ 100000000) (hl : (inU tag ps).length ≤ 100000000000) : Pure PP 65 [ni (tag : Int), .sl (stL ps)] (.o T8b 1 (byL (inU tag ps))) := by
 have e12 : ni ((stL ps).length : Int) = ni (ps.length : Int) := by unfold stL; rw [List.length_map]
 refine pf (by kernel_rfl) (.to mo_ [] [1, 5, 6] [0] 1 [.eqv 8 _ _ (u8_w tag)] (td' := lp fIn 0) (σ' := inX tag ps 0) ?_ (by kernel_rfl))
 refine Gd.loop (inX tag ps) (fun j => j ≤ ps.length) (fun j => ps.length - j) ?_ 0 (Nat.zero_le _)
 intro i hi ih
 by_cases g : i < ps.length
 · have hp := hps _ (List.mem_of_getElem? (getD_lt (d := []) g))
   have hbl := bsE_len (ps.getD i [])
   have hw := (e_rbytes (ps.getD i []) hp.1 (by omega)).ro
   have hle := inU_le (ps := ps) tag (i + 1)
   have hnx : byL (inU tag (ps.take i)) ++ byL (bsE (ps.getD i [])) = byL (inU tag (ps.take (i + 1))) := by rw [byL_app, inU_next tag g]
   have nx := ih (i + 1) g (by omega)
   generalize hq : ps.getD i [] = q at *
   have hat : (stL ps)[i]? = some [sV q] := by rw [stL_at g, hq]
   exact .to mo_ [.mv 0 1] [1, 5, 6] [0] 1 [.eqv 12 _ _ e12, ye (t := decide ((i : Int) < (ps.length : Int))) (decide_eq_true (by omega)), .sel _ _ _ hat, cl hw, .aps (byL (inU tag (ps.take i))) (byL (bsE q)) (byL (inU tag (ps.take (i + 1)))) 200000000000 1 hnx (by rw [byL_len]; omega) (by rw [byL_len]; omega) b1z, inc 15 i (by omega)] nx (by kernel_rfl)
 · have hh : i = ps.length := by omega
   subst hh
   unfold inX
   rw [List.take_length]
   exact fi [.eqv 12 _ _ e12, na (t := decide ((ps.length : Int) < (ps.length : Int))) (decide_eq_false (by omega))] (by kernel_rfl) (by kernel_rfl)
theorem inU_pos (tag : Nat) (ps : List (List UInt8)) : 0 < (inU tag ps).length := by unfold inU; simp
/-- The reference's Of is the program's. -/
theorem e_rof (tag : Nat) (ps : List (List UInt8)) (hn : ps.length ≤ 1000000) (hps : ∀ p ∈ ps, 0 < p.length ∧ p.length ≤ 100000000) (hl : (inU tag ps).length ≤ 100000000000) : Pure PP 30 [ni (tag : Int), .sl (stL ps)] (.ag (w16 (dgW tag ps))) := by
 have h1 := (e_input tag ps hn hps hl).ro
 have h2 := e_short (inU tag ps) (inU_pos tag ps) hl
 exact tr [cl h1, cl h2] (by kernel_rfl)
end
end Go.Proofs.YtnpdpjfdgialeaaGreatDoor.E.Hs
namespace Go.Proofs.YtnpdpjfdgialeaaGreatDoor.E
open Go.RowKit
set_option linter.unusedVariables false
section
variable {P : Program} {w : World}
def ib (x : Int) : V := .k (.int .u8 x)
def bT (P : Program) (t : TypeId) : Bool := match P.underlying t with
 | some (.int .u8) => true
 | _ => false
theorem bT_of {t : TypeId} (h : bT P t = true) : P.underlying t = some (.int .u8) := by
 unfold bT at h
 split at h
 · assumption
 · cases h
theorem part_b {t : TypeId} (he : P.underlying t = some (.int .u8)) {xs : Array Value} {off : Nat} {v : Value} (hx : xs[off]? = some v) : (part t xs off).run P w = .ok v w := by simp [part, isAgg, run_under he, hx]
theorem eqItems_b (d : Nat) {e : TypeId} (he : P.underlying e = some (.int .u8)) : ∀ (n o : Nat) (xs ys : List Int) (pre pre' : List Value), xs.length = n → ys.length = n → pre.length = o → pre'.length = o → (Op.eqItems (d + 1) e 1 (pre ++ xs.map (Value.int .u8)).toArray (pre' ++ ys.map (Value.int .u8)).toArray (List.range' o n)).run P w = .ok (decide (xs = ys)) w
 | 0, o, xs, ys, pre, pre', hx, hy, _, _ => by
  have hx : xs = [] := List.length_eq_zero_iff.1 hx
  have hy : ys = [] := List.length_eq_zero_iff.1 hy
  subst hx; subst hy
  simp [Op.eqItems]
 | n + 1, o, x :: xs, y :: ys, pre, pre', hx, hy, hp, hp' => by
  have ih := eqItems_b d he n (o + 1) xs ys (pre ++ [.int .u8 x]) (pre' ++ [.int .u8 y]) (by simpa using hx) (by simpa using hy) (by simp [hp]) (by simp [hp'])
  rw [List.append_assoc, List.append_assoc] at ih
  have e1 := part_b (w := w) he (xs := (pre ++ .int .u8 x :: xs.map (Value.int .u8)).toArray) (off := o * 1) (at_end (by omega))
  have e2 := part_b (w := w) he (xs := (pre' ++ .int .u8 y :: ys.map (Value.int .u8)).toArray) (off := o * 1) (at_end (by omega))
  have e3 := run_equalIn_int (P := P) w d e .u8 .u8 x y he
  simp only [List.range'_succ, List.map_cons, Op.eqItems, Sem.run_bind, e1, e2, e3, Result.andThen_ok]
  by_cases hxy : x = y
  · subst hxy
    rw [if_neg (by simp)]
    simpa using ih
  · rw [if_pos (by simp [hxy])]
    simp [hxy]
 | n + 1, o, [], ys, pre, pre', hx, _, _, _ => by simp at hx
 | n + 1, o, x :: xs, [], pre, pre', _, hy, _, _ => by simp at hy
def bOk (P : Program) (T : TypeId) (n : Nat) : Bool := match P.underlying T with
 | some (.array k e) => Nat.beq k n && (bT P e && (Nat.beq (P.cellsOf e) 1 && (P.info? e).isSome))
 | _ => false
theorem kv_ib (l : List Int) : (l.map ib).map kv = l.map (Value.int .u8) := by rw [List.map_map]; rfl
theorem EqA.arrB {T : TypeId} {n : Nat} (h : bOk P T n = true) {xs ys : List Int} (hx : xs.length = n) (hy : ys.length = n) : EqA P T (xs.map ib) (ys.map ib) (decide (xs = ys)) := fun w => by
 unfold bOk at h
 split at h
 · rename_i k e hu
   simp only [Bool.and_eq_true] at h
   obtain ⟨h1, h2, h3, h4⟩ := h
   have h1 := Nat.eq_of_beq_eq_true h1
   have h3 := Nat.eq_of_beq_eq_true h3
   subst h1
   obtain ⟨i, hi⟩ := Option.isSome_iff_exists.1 h4
   rw [kv_ib, kv_ib]
   show (Op.equalIn 10000 T _ _).run P w = _
   rw [run_equalIn_array w 9999 _ _ hu hi, h3, List.range_eq_range']
   exact eqItems_b 9998 (bT_of h2) k 0 xs ys [] [] hx hy rfl rfl
 · cases h
end
namespace Hs
/-- Two digests are compared. -/
def dgE (W W' : Nat → UInt8) : Bool := decide ((List.range 16).map (fun i => ((W i).toNat : Int)) = (List.range 16).map (fun i => ((W' i).toNat : Int)))
theorem dgE_refl (W : Nat → UInt8) : dgE W W = true := decide_eq_true rfl
theorem w16_ib (W : Nat → UInt8) : w16 W = ((List.range 16).map (fun i => ((W i).toNat : Int))).map ib := by
 unfold w16
 rw [List.map_map]
 rfl
theorem e_eqD (W W' : Nat → UInt8) : EqA PP TD (w16 W) (w16 W') (dgE W W') := by
 rw [w16_ib, w16_ib]
 exact EqA.arrB (n := 16) (by kernel_rfl) (by simp) (by simp)
end Hs
end Go.Proofs.YtnpdpjfdgialeaaGreatDoor.E
namespace Go.Proofs.YtnpdpjfdgialeaaGreatDoor.E.Pc
open Go.RowKit Hs
set_option linter.unusedVariables false
set_option linter.unusedSimpArgs false
section
variable {p q : Ct.Pi} {E : List UInt8} {n i : Nat}
noncomputable def dgB (E : List UInt8) : Nat → UInt8 := dgW 1 [E]
theorem inU_one (tag : Nat) (E : List UInt8) : (inU tag [E]).length ≤ E.length + 10 := by
 have := bsE_len E
 unfold inU
 simp
 omega
theorem e_of1 (h : E.length ≤ 10000) : Pure PP 8 [ni ((1 : Nat) : Int), .sl [[sV E]]] (.ag (w16 (dgB E))) := by
 have hi := inU_one 1 E
 exact Hs.e_of 1 [E] (by omega) (by simp) (fun p hp => by rw [List.mem_singleton.1 hp]; omega) (by omega)
theorem e_rof1 (h0 : 0 < E.length) (h : E.length ≤ 10000) : Pure PP 30 [ni ((1 : Nat) : Int), .sl [[sV E]]] (.ag (w16 (dgB E))) := by
 have hi := inU_one 1 E
 exact Hs.e_rof 1 [E] (by simp) (fun p hp => by rw [List.mem_singleton.1 hp]; omega) (by omega)
theorem encP_pos (p : Ct.Pi) : 0 < (encP p).length := by
 have e : encP p = W.encI [p.id, p.home] ++ (W.encI (crn p.rim) ++ (W.encI (wnI p.worn) ++ (W.encI p.marks ++ (encQ p.tol ++ (encQ p.light ++ (encQ p.heavy ++ (encQ p.str ++ encQ p.rough))))))) := by simp [encP, hdP, numP]
 rw [e, List.length_append]
 have h2 := (W.enc_le (([p.id, p.home] : List Int).length : Int)).1
 have h3 : (W.enc (([p.id, p.home] : List Int).length : Int)).length ≤ (W.encI [p.id, p.home]).length := by
  unfold W.encI
  rw [List.length_append]
  omega
 omega
theorem e_pdig (en : En p) (hl : (encP p).length ≤ 10000) : Pure PP 7 [.ag p.v] (.ag (w16 (dgB (encP p)))) := by
 have h := (e_penc en).ro
 have o := e_of1 hl
 have hv : p.v = pvv p.id p.home (Ct.ptR p.rim) (Ct.wnR p.worn) (zs p.marks) p.tol p.light p.heavy p.str p.rough := rfl
 rw [hv] at h ⊢
 generalize encP p = E at *
 generalize Ct.ptR p.rim = PR at *
 generalize Ct.wnR p.worn = WR at *
 exact tr [cl h, .str (byL E) E rfl, .ro, cl o] (by kernel_rfl)
theorem e_pdig12 (en : En p) (hl : (encP p).length ≤ 10000) : Pure PP 10 [.ag p.v] (.ag (w16 (dgB (encP p)))) := by
 have h := (e_penc12 en).ro
 have o := e_rof1 (encP_pos p) hl
 have hv : p.v = pvv p.id p.home (Ct.ptR p.rim) (Ct.wnR p.worn) (zs p.marks) p.tol p.light p.heavy p.str p.rough := rfl
 rw [hv] at h ⊢
 generalize encP p = E at *
 generalize Ct.ptR p.rim = PR at *
 generalize Ct.wnR p.worn = WR at *
 exact tr [cl h, .str (byL E) E rfl, .ro, cl o] (by kernel_rfl)
/-- What the law wants of a piece. -/
def GdP (x : Pr) : Prop := ∃ b : Bool, Pure PP 6 [.ag x.v] (bo b) ∧ (b = true → ∃ p : Ct.Pi, x.v = p.v ∧ En p ∧ (encP p).length ≤ 3700)
theorem gdP_of {x : Pr} (ok : x.Ok) (le : x.Le 7) : GdP x := by
 obtain ⟨b, num, hb⟩ := e_numbers12 ok
 refine ⟨b, num, fun h => ?_⟩
 obtain ⟨⟨r1, e1⟩, ⟨r2, e2⟩, ⟨r3, e3⟩, ⟨r4, e4⟩, ⟨r5, e5⟩⟩ := hb h
 obtain ⟨id, home, rim, worn, marks, a, b, c, d, e⟩ := x
 simp only at e1 e2 e3 e4 e5
 subst e1; subst e2; subst e3; subst e4; subst e5
 obtain ⟨enx, k1⟩ := en_pr7 (p := ⟨id, home, rim, worn, marks, r1, r2, r3, r4, r5⟩) ok le
 refine ⟨⟨id, home, rim, worn, marks, r1, r2, r3, r4, r5⟩, ?_, enx, k1⟩
 show anyP id home rim worn marks (ofR r1) (ofR r2) (ofR r3) (ofR r4) (ofR r5) = _
 unfold anyP
 simp only [cN_ofR]
 rfl
theorem enc_eq (h1 : En p) (h2 : En q) : encP p = encP q ↔ p = q := by
 refine ⟨fun h => ?_, fun h => by rw [h]⟩
 have h3 := vt_en h1
 have h4 := vt_en h2
 rw [← encT_p, ← encT_p] at h
 exact tupP_inj (codecT.inj h3 h4 h)
end
end Go.Proofs.YtnpdpjfdgialeaaGreatDoor.E.Pc
namespace Go.Proofs.YtnpdpjfdgialeaaGreatDoor.E.Pc
open Go.RowKit Hs
set_option linter.unusedVariables false
set_option linter.unusedSimpArgs false
noncomputable abbrev fPS : Func := fnOf PP 3
noncomputable abbrev GPS (td : List Item) (σ : St) : Prop := Gd PP 3 (.v (bo true)) td σ
def vL (L : List Pr) : List (List V) := L.map Pr.v
noncomputable def psX (L : List Pr) (i : Nat) : St := at_ fPS [(11, .sl (vL L)), (12, ni (i : Int))] []
noncomputable def psY (L : List Pr) (i k : Nat) : St := at_ fPS [(11, .sl (vL L)), (12, ni (i : Int)), (13, ni (k : Int))] []
def pz : Ct.Pi := ⟨0, 0, [], [], [], 0, 0, 0, 0, 0⟩
section
variable {p q : Ct.Pi} {x y : Pr} {L : List Pr} {i k : Nat} {l m : List Int} {how by_ : Int}
theorem same_enc (h1 : En p) (h2 : En q) (hl : (encP p).length ≤ 10000) : Pure PP 13 [.sl (byL (encP p)), .sl (byL (encP q))] (bo (eqPi p q)) := by
 have h := Go.Proofs.YtnpdpjfdgialeaaGreatDoor.E.e_same1 (encP p) (encP q) (by omega)
 have e : decide (encP p = encP q) = eqPi p q := by
  rw [Bool.eq_iff_iff, decide_eq_true_iff, eqPi_iff]
  exact enc_eq h1 h2
 rw [e] at h
 exact h
theorem ps_no (h5 : L.length = 5) (hi : i < 5) (hx : (vL L)[i]? = some x.v) (num : Pure PP 6 [.ag x.v] (bo false)) (nx : GPS (lp fPS 0) (psX L (i + 1))) : GPS (lp fPS 0) (psX L i) := by
 have e36 : ni ((vL L).length : Int) = ni 5 := by unfold vL; rw [List.length_map, h5]; rfl
 have lt : decide ((i : Int) < 5) = true := decide_eq_true (by omega)
 unfold psX at nx ⊢
 exact .to mo_ [] [11, 12] [] 0 [.eqv 36 _ _ e36, ye lt, .sel _ _ _ hx, cl num, yt, inc 39 i (by omega)] nx (by kernel_rfl)
theorem ps_yes (h5 : L.length = 5) (hi : i < 5) (hx : (vL L)[i]? = some p.v) (en : En p) (hl : (encP p).length ≤ 3700) (num : Pure PP 6 [.ag p.v] (bo true)) (nx : GPS (lp fPS 1) (psY L i 0)) : GPS (lp fPS 0) (psX L i) := by
 have e36 : ni ((vL L).length : Int) = ni 5 := by unfold vL; rw [List.length_map, h5]; rfl
 have lt : decide ((i : Int) < 5) = true := decide_eq_true (by omega)
 have d := e_pdig en (by omega)
 have d12 := e_pdig12 en (by omega)
 have ec := (e_penc en).ro
 have o := e_of1 (E := encP p) (by omega)
 have eq := e_eqD (dgB (encP p)) (dgB (encP p))
 have nd : (!dgE (dgB (encP p)) (dgB (encP p))) = false := by rw [dgE_refl]; rfl
 have hv : p.v = pvv p.id p.home (Ct.ptR p.rim) (Ct.wnR p.worn) (zs p.marks) p.tol p.light p.heavy p.str p.rough := rfl
 rw [hv] at hx num d d12 ec
 generalize encP p = E at *
 generalize Ct.ptR p.rim = PR at *
 generalize Ct.wnR p.worn = WR at *
 unfold psX
 unfold psY at nx
 exact .to mo_ [] [11, 12, 13] [] 0 [.eqv 36 _ _ e36, ye lt, .sel _ _ _ hx, cl num, nf, .sel _ _ _ hx, cl d, .sel _ _ _ hx, cl ec, .str (byL E) E rfl, .ro, cl o, .eqa _ _ _ _ eq, na nd, .sel _ _ _ hx, cl d, .sel _ _ _ hx, cl d12, .eqa _ _ _ _ eq, na nd] nx (by kernel_rfl)
theorem ps_no2 (h5 : L.length = 5) (hk : k < 5) (hx : (vL L)[k]? = some x.v) (num : Pure PP 6 [.ag x.v] (bo false)) (nx : GPS (lp fPS 1) (psY L i (k + 1))) : GPS (lp fPS 1) (psY L i k) := by
 have e75 : ni ((vL L).length : Int) = ni 5 := by unfold vL; rw [List.length_map, h5]; rfl
 have lt : decide ((k : Int) < 5) = true := decide_eq_true (by omega)
 unfold psY at nx ⊢
 exact .to mo_ [] [11, 12, 13] [] 0 [.eqv 75 _ _ e75, ye lt, .sel _ _ _ hx, cl num, yt, inc 78 k (by omega)] nx (by kernel_rfl)
theorem ps_yes2 (h5 : L.length = 5) (hk : k < 5) (hx : (vL L)[i]? = some p.v) (hy : (vL L)[k]? = some q.v) (en : En p) (hl : (encP p).length ≤ 3700) (en2 : En q) (hl2 : (encP q).length ≤ 3700) (num : Pure PP 6 [.ag q.v] (bo true)) (nx : GPS (lp fPS 1) (psY L i (k + 1))) : GPS (lp fPS 1) (psY L i k) := by
 have e75 : ni ((vL L).length : Int) = ni 5 := by unfold vL; rw [List.length_map, h5]; rfl
 have lt : decide ((k : Int) < 5) = true := decide_eq_true (by omega)
 have s := e_sameG p q
 have s12 := e_same12G p q (by have := en.nr; omega) (by have := en.nw; omega) (by have := en.nm; omega)
 have s01 := same_enc en en2 (by omega)
 have d := e_pdig en (by omega)
 have d2 := e_pdig en2 (by omega)
 have ec := (e_penc en).ro
 have ec2 := (e_penc en2).ro
 have hc : eqPi p q = true → p = q := eqPi_iff.1
 have eq := e_eqD (dgB (encP p)) (dgB (encP p))
 have nd : (!dgE (dgB (encP p)) (dgB (encP p))) = false := by rw [dgE_refl]; rfl
 have hE : eqPi p q = true → encP q = encP p := fun h => by rw [hc h]
 have hv : p.v = pvv p.id p.home (Ct.ptR p.rim) (Ct.wnR p.worn) (zs p.marks) p.tol p.light p.heavy p.str p.rough := rfl
 have hv2 : q.v = pvv q.id q.home (Ct.ptR q.rim) (Ct.wnR q.worn) (zs q.marks) q.tol q.light q.heavy q.str q.rough := rfl
 rw [hv] at hx d ec
 rw [hv2] at hy num d2 ec2
 rw [hv, hv2] at s s12
 generalize encP p = E at *
 generalize encP q = F at *
 generalize Ct.ptR p.rim = PR at *
 generalize Ct.wnR p.worn = WR at *
 generalize Ct.ptR q.rim = PR2 at *
 generalize Ct.wnR q.worn = WR2 at *
 unfold psY at nx ⊢
 cases h : eqPi p q with
 | true =>
  have e := hE h
  subst e
  rw [h] at s s12 s01
  exact .to mo_ [] [11, 12, 13] [] 0 [.eqv 75 _ _ e75, ye lt, .sel _ _ _ hy, cl num, nf, .sel _ _ _ hx, .sel _ _ _ hy, cl s, .sel _ _ _ hx, .sel _ _ _ hy, cl s12, nf, .sel _ _ _ hx, cl ec, .sel _ _ _ hy, cl ec2, cl s01, nf, yt, .sel _ _ _ hx, cl d, .sel _ _ _ hy, cl d2, .eqa _ _ _ _ eq, na nd, inc 78 k (by omega)] nx (by kernel_rfl)
 | false =>
  rw [h] at s s12 s01
  exact .to mo_ [] [11, 12, 13] [] 0 [.eqv 75 _ _ e75, ye lt, .sel _ _ _ hy, cl num, nf, .sel _ _ _ hx, .sel _ _ _ hy, cl s, .sel _ _ _ hx, .sel _ _ _ hy, cl s12, nf, .sel _ _ _ hx, cl ec, .sel _ _ _ hy, cl ec2, cl s01, nf, nf, nf, inc 78 k (by omega)] nx (by kernel_rfl)
theorem ps_all (h5 : L.length = 5) (hg : ∀ x ∈ L, GdP x) : GPS (lp fPS 0) (psX L 0) := by
 have hat : ∀ i : Nat, i < 5 → ∃ x, x ∈ L ∧ (vL L)[i]? = some x.v := fun i hi => by
  have hlt : i < L.length := by rw [h5]; exact hi
  have h : L[i]? = some (L[i]'hlt) := List.getElem?_eq_getElem _
  refine ⟨_, List.getElem_mem hlt, ?_⟩
  unfold vL
  rw [List.getElem?_map, h]
  rfl
 refine Gd.loop (psX L) (fun i => i ≤ 5) (fun i => 5 - i) ?_ 0 (Nat.zero_le _)
 intro i hi ih
 by_cases g : i < 5
 · obtain ⟨x, hm, hx⟩ := hat i g
   obtain ⟨b, num, hb⟩ := hg x hm
   have nx := ih (i + 1) g (by omega)
   cases b with
   | false => exact ps_no h5 g hx num nx
   | true =>
    obtain ⟨p, hv, en, hl⟩ := hb rfl
    rw [hv] at hx num
    refine ps_yes h5 g hx en hl num ?_
    refine Gd.loop (psY L i) (fun k => k ≤ 5) (fun k => 5 - k) ?_ 0 (Nat.zero_le _)
    intro k hk ihk
    by_cases f : k < 5
    · obtain ⟨y, hm2, hy⟩ := hat k f
      obtain ⟨b2, num2, k0⟩ := hg y hm2
      have nx2 := ihk (k + 1) f (by omega)
      cases b2 with
      | false => exact ps_no2 h5 f hy num2 nx2
      | true =>
       obtain ⟨q, hv2, en2, hl2⟩ := k0 rfl
       rw [hv2] at hy num2
       exact ps_yes2 h5 f hx hy en hl en2 hl2 num2 nx2
    · have hk5 : k = 5 := by omega
      subst hk5
      have e75 : ni ((vL L).length : Int) = ni 5 := by unfold vL; rw [List.length_map, h5]; rfl
      unfold psY
      unfold psX at nx
      exact .to mo_ [] [11, 12] [] 0 [.eqv 75 _ _ e75, na (t := decide (((5 : Nat) : Int) < 5)) (decide_eq_false (by omega)), inc 39 i (by omega)] nx (by kernel_rfl)
 · have hi5 : i = 5 := by omega
   subst hi5
   have e36 : ni ((vL L).length : Int) = ni 5 := by unfold vL; rw [List.length_map, h5]; rfl
   unfold psX
   exact fi [.eqv 36 _ _ e36, na (t := decide (((5 : Nat) : Int) < 5)) (decide_eq_false (by omega)), cl e_lives] (by kernel_rfl) (by kernel_rfl)
theorem pz_ok : (prOf pz).Ok ∧ (prOf pz).Le 7 := by
 have hq : Bq 8 (Rat.divInt 0 1) := bq8 (by omega) (by omega)
 have hb : Bn 1000 (ofR 0) := bn_gen ((show Bq 8 (0 : Rat) from hq).mono (by omega))
 have e1 : ∀ {α : Type} {P : α → Prop}, ∀ x ∈ ([] : List α), P x := fun x hx => absurd hx List.not_mem_nil
 exact ⟨⟨⟨by decide, by decide⟩, ⟨by decide, by decide⟩, e1, e1, Nat.zero_le _, Nat.zero_le _, Nat.zero_le _, hb, hb, hb, hb, hb⟩, ⟨Nat.zero_le _, Nat.zero_le _, Nat.zero_le _⟩⟩
theorem Pr.Le.mono {n m : Nat} (h : x.Le n) (hm : n ≤ m) : x.Le m := ⟨Nat.le_trans h.r hm, Nat.le_trans h.w hm, Nat.le_trans h.m hm⟩
theorem l_psame (hl : ∀ x ∈ l, W.Is64 x) (hm : ∀ x ∈ m, W.Is64 x) (hw : W.Is64 how) (hy : W.Is64 by_) : Pure PP 3 [zl l, zl m, ni how, ni by_] (bo true) := by
 have cp := Ct.e_piece12 hl
 have cq := Ct.e_piece12 hm
 obtain ⟨okp, lep, _⟩ := p12_pr l
 obtain ⟨okq, leq, _⟩ := p12_pr m
 generalize Ct.p12 l = p at *
 generalize Ct.p12 m = q at *
 obtain ⟨s1, ok1, le1, c1⟩ := e_spoiltP okp lep (by omega) hw hy
 obtain ⟨s2, ok2, le2, c2⟩ := e_spoiltP ok1 le1 (by omega) hy hw
 have hg : ∀ x ∈ [prOf p, prOf q, s1, s2, prOf pz], GdP x := fun x hx => by
  simp only [List.mem_cons, List.not_mem_nil, or_false] at hx
  rcases hx with rfl | rfl | rfl | rfl | rfl
  · exact gdP_of okp (lep.mono (by omega))
  · exact gdP_of okq (leq.mono (by omega))
  · exact gdP_of ok1 (le1.mono (by omega))
  · exact gdP_of ok2 (le2.mono (by omega))
  · exact gdP_of pz_ok.1 pz_ok.2
 have nx := ps_all rfl hg
 unfold psX at nx
 exact pf (by kernel_rfl) (.to mo_ [] [11, 12] [] 0 [cl cp, cl cq, cl c1, cl c1, cl c2, .ro] nx (by kernel_rfl))
end
end Go.Proofs.YtnpdpjfdgialeaaGreatDoor.E.Pc
namespace Go.Proofs.YtnpdpjfdgialeaaGreatDoor
open Go.RowKit
theorem is64_of {n : Int} (h : (Lit.int .i64 n).wf = true) : W.Is64 n := by
 have := bounds_i64 h
 unfold W.Is64
 omega
end Go.Proofs.YtnpdpjfdgialeaaGreatDoor
namespace Go.Proofs.YtnpdpjfdgialeaaGreatDoor.E
open Go.RowKit
set_option linter.unusedVariables false
theorem cb_of {w : World} {b o : Nat} {v : Value} (h : w.cell? ⟨b, o, none⟩ = some v) : CB w b := by
 unfold World.cell? at h
 split at h
 · rename_i cs T fr hb
   exact ⟨cs, T, fr, hb⟩
 · cases h
def Rt (X : World → Value → Prop) (w : World) (e : Ending) (w' : World) : Prop := ∃ v, e = .returned v ∧ X w' v ∧ Below w.heap.size w w'
theorem back {P : Program} {f : FuncId} {ds : List V} {d : V} (h : Pure P f ds d) {w : World} {args : Array Value} (ha : Reps w (fun _ => False) no args ds) : Calls P f args w (Rt (fun w v => Rep w (fun _ => False) no v d) w) :=
 (h.2 w (fun _ => False) args (fun _ h => h.elim) ha).mono fun e w' h => h
theorem to_tt {w w' : World} {e : Ending} (h : Rt (fun w v => Rep w (fun _ => False) no v (bo true)) w e w') : e = .returned (.bool true) ∧ Below w.heap.size w w' := by
 obtain ⟨v, rfl, h1, h2⟩ := h
 exact ⟨by rw [Rep.k_inv h1], h2⟩
/-- A law of any arguments. -/
theorem lawG {f : FuncId} {us : List Value} {ds : List V} {w : World} (h : Pure PP f ds (bo true)) (hg : Glo w (fun _ => False)) (hl : us.length = ds.length) (hr : ∀ j, j < ds.length → Rep w (fun _ => False) no (us.getD j undef) (ds.getD j .un)) :
    Calls PP f us.toArray w fun e w' => e = .returned (.bool true) ∧ Below w.heap.size w w' :=
 (back h (reps_of hl hg hr)).mono fun _ _ => to_tt
theorem all4 {p : Nat → Prop} (h0 : p 0) (h1 : p 1) (h2 : p 2) (h3 : p 3) : ∀ j, j < 4 → p j := fun j hj => by
 match j, hj with
 | 0, _ => exact h0
 | 1, _ => exact h1
 | 2, _ => exact h2
 | 3, _ => exact h3
end Go.Proofs.YtnpdpjfdgialeaaGreatDoor.E
