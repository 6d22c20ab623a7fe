/-
 SHA: Sum of a stream, walked.
-/
import Derived.Test.YtnpdpjfdgialeaaGreatDoorShG
namespace Go.Proofs.YtnpdpjfdgialeaaGreatDoor.E.Hs
open Go.RowKit Sh
set_option linter.unusedVariables false
set_option linter.unusedSimpArgs false
section
variable {B b : List UInt8} {W : Nat → Wd} {x y z u : Wd} {n i j t : Nat}
theorem e_sched (B : List UInt8) (hB : B.length = 64) : Pure PP 99 [.sl (byL B)] (.ag (w64 (wS B 64 0))) := by
 refine pf (by kernel_rfl) (.to mo_ [] [0, 2, 3, 11] [0, 1] 2 [] (td' := lp fSc 0) (σ' := scX B 0) ?_ (by kernel_rfl))
 refine Gd.loop (scX B) (fun t => t ≤ 64) (fun t => 64 - t) ?_ 0 (Nat.zero_le _)
 intro t ht ih
 by_cases g : t < 64
 · by_cases g2 : t < 16
   · have hz : ∀ cs ∈ byL B, cs.length = 1 := fun cs h => by
      obtain ⟨c, _, rfl⟩ := List.mem_map.1 h
      rfl
     have hbl : (byL B).length = 64 := by unfold byL; rw [List.length_map, hB]
     refine .to mo_ [] [0, 2, 3, 4, 11, 22, 23, 24] [0, 1] 2 [ye (t := decide ((t : Int) < 64)) (decide_eq_true (by omega)), ye (t := decide ((t : Int) < 16)) (decide_eq_true (by omega)), .eqv 18 _ _ (mul_i (i := t) (j := 4) (by omega) (by omega)), .eqv 20 _ _ (mul_i (i := t) (j := 4) (by omega) (by omega)), .eqv 21 _ _ (add_i (i := 4 * t) (j := 4) (by omega) (by omega)), .slc (byL B) (4 * t) (4 * t + 4) 1 (four B t) (byL_four (by omega)) (by omega) hz] (td' := lp fSc 1) (σ' := scY B t 0 0) ?_ (by kernel_rfl)
     have step : ∀ (j : Nat) (c : UInt8) (x : Wd) (h : (four B t)[j]? = some [bv c]) (hj : j < 4), Gd PP 99 (.ag (w64 (wS B 64 0))) (lp fSc 1) (scY B t (j + 1) ((x <<< 8) ||| BitVec.ofNat 32 c.toNat)) → Gd PP 99 (.ag (w64 (wS B 64 0))) (lp fSc 1) (scY B t j x) := fun j c x h hj k =>
      .to mo_ [] [0, 2, 3, 4, 11, 22, 23, 24] [0, 1] 2 [ye (t := decide ((j : Int) < 4)) (decide_eq_true (by omega)), .sel _ _ _ h, .ext (some 30) _ _ _ _ _ (a64 g 1), .ext (some 31) _ _ _ _ _ (ldE (B := B) (x := x) 1 g), .eqv 32 _ _ (shl_k (x := x) (n := 8) (by omega)), .eqv 34 _ _ (u8_v c), fo 35 (x <<< 8) (BitVec.ofNat 32 c.toNat), .ext (some 36) _ _ _ _ _ (a64 g 1), .ext none _ _ _ _ _ (stS (B := B) (x := x) 1 g ((x <<< 8) ||| BitVec.ofNat 32 c.toNat)), inc 37 j (by omega)] k (by kernel_rfl)
     refine step 0 _ _ rfl (by omega) (step 1 _ _ rfl (by omega) (step 2 _ _ rfl (by omega) (step 3 _ _ rfl (by omega) ?_)))
     have e : ((((((((0 : Wd) <<< 8) ||| BitVec.ofNat 32 (B.getD (4 * t) 0).toNat) <<< 8) ||| BitVec.ofNat 32 (B.getD (4 * t + 1) 0).toNat) <<< 8) ||| BitVec.ofNat 32 (B.getD (4 * t + 2) 0).toNat) <<< 8) ||| BitVec.ofNat 32 (B.getD (4 * t + 3) 0).toNat = wU B t := by
      rw [wU_lo B g2]
      exact or_fold _ _ _ _
     rw [e]
     have nx := ih (t + 1) g (by omega)
     unfold scX at nx
     rw [← wS_next (b := B) (t := t)] at nx
     exact .to mo_ [] [0, 2, 3, 11] [0, 1] 2 [na (t := decide (((4 : Nat) : Int) < 4)) (decide_eq_false (by omega)), inc 77 t (by omega)] nx (by kernel_rfl)
   · have nx := ih (t + 1) g (by omega)
     unfold scX at nx
     rw [← wS_next (b := B) (t := t)] at nx
     have h1 : t - 15 < 64 := by omega
     have h2 : t - 2 < 64 := by omega
     have h3 : t - 16 < 64 := by omega
     have h4 : t - 7 < 64 := by omega
     have qh1 : t - 15 < t := by omega
     have qh2 : t - 2 < t := by omega
     have qh3 : t - 16 < t := by omega
     have qh4 : t - 7 < t := by omega
     have z1 := sub_i (i := t) (j := 15) (by omega) (by omega)
     have z2 := sub_i (i := t) (j := 2) (by omega) (by omega)
     have z3 := sub_i (i := t) (j := 16) (by omega) (by omega)
     have z4 := sub_i (i := t) (j := 7) (by omega) (by omega)
     have s0 : V.k (.int .u32 (bits .xor .u32 (wi (rr 7 (wU B (t - 15)) ^^^ rr 18 (wU B (t - 15)))) (wi (wU B (t - 15) >>> 3)))) = wv (ss0 (wU B (t - 15))) := xor_v _ _
     have s1 : V.k (.int .u32 (bits .xor .u32 (wi (rr 17 (wU B (t - 2)) ^^^ rr 19 (wU B (t - 2)))) (wi (wU B (t - 2) >>> 10)))) = wv (ss1 (wU B (t - 2))) := xor_v _ _
     have s2 : V.k (.int .u32 (IntKind.u32.wrap (wi (wU B (t - 16) + ss0 (wU B (t - 15)) + wU B (t - 7)) + wi (ss1 (wU B (t - 2)))))) = wv (wU B t) := by rw [wU_hi (t := t) B (by omega)]; exact add_v _ _
     exact .to mo_ [] [0, 2, 3, 11] [0, 1] 2 [ye (t := decide ((t : Int) < 64)) (decide_eq_true (by omega)), na (t := decide ((t : Int) < 16)) (decide_eq_false (by omega)),
      .eqv 39 _ _ z1, .ext (some 40) _ _ _ _ _ (a64 h1 1), .ext (some 41) _ _ _ _ _ (ldS (B := B) (t := t) (x := 0) 1 (qh1) h1),
      .eqv 43 _ _ z2, .ext (some 44) _ _ _ _ _ (a64 h2 1), .ext (some 45) _ _ _ _ _ (ldS (B := B) (t := t) (x := 0) 1 (qh2) h2),
      cl (e_rotl (wU B (t - 15)) 7 (by omega)), cl (e_rotl (wU B (t - 15)) 18 (by omega)), fx 50 (rr 7 (wU B (t - 15))) (rr 18 (wU B (t - 15))), .eqv 52 _ _ (shr_k (x := wU B (t - 15)) (n := 3) (by omega)), .eqv 53 _ _ s0,
      cl (e_rotl (wU B (t - 2)) 17 (by omega)), cl (e_rotl (wU B (t - 2)) 19 (by omega)), fx 58 (rr 17 (wU B (t - 2))) (rr 19 (wU B (t - 2))), .eqv 60 _ _ (shr_k (x := wU B (t - 2)) (n := 10) (by omega)), .eqv 61 _ _ s1,
      .eqv 64 _ _ z3, .ext (some 65) _ _ _ _ _ (a64 h3 1), .ext (some 66) _ _ _ _ _ (ldS (B := B) (t := t) (x := 0) 1 (qh3) h3), fa 68 (wU B (t - 16)) (ss0 (wU B (t - 15))),
      .eqv 70 _ _ z4, .ext (some 71) _ _ _ _ _ (a64 h4 1), .ext (some 72) _ _ _ _ _ (ldS (B := B) (t := t) (x := 0) 1 (qh4) h4), fa 73 (wU B (t - 16) + ss0 (wU B (t - 15))) (wU B (t - 7)), .eqv 75 _ _ s2,
      .ext (some 76) _ _ _ _ _ (a64 g 1), .ext none _ _ _ _ _ (stS (B := B) (x := 0) 1 g (wU B t)), inc 77 t (by omega)] nx (by kernel_rfl)
 · have h : t = 64 := by omega
   subst h
   exact fi [na (t := decide (((64 : Nat) : Int) < 64)) (decide_eq_false (by omega))] (by kernel_rfl) (by kernel_rfl)
end
end Go.Proofs.YtnpdpjfdgialeaaGreatDoor.E.Hs
namespace Go.Proofs.YtnpdpjfdgialeaaGreatDoor.E.Hs
open Go.RowKit Sh
set_option linter.unusedVariables false
set_option linter.unusedSimpArgs false
def KW : List Wd := shaK.map fun x => BitVec.ofNat 32 x.toNat
theorem kw_wi : KW.map wi = shaK := by decide +kernel
theorem kw_gl : shaK.map gW = KW.map wv := by
 rw [← kw_wi, List.map_map]
 rfl
section
variable {B b : List UInt8} {W : Nat → Wd} {x y z u : Wd} {s r : S8} {l : List V} {n i j t : Nat}
theorem kw_at (h : t < 64) : (shaK.map gW)[t]? = some (wv (KW.getD t 0)) := by
 rw [kw_gl, List.getElem?_map, getD_lt (l := KW) (d := 0) (by exact h)]
 rfl
theorem and_v (x y : Wd) : V.k (.int .u32 (bits .and .u32 (wi x) (wi y))) = wv (x &&& y) := by rw [w_and]; rfl
noncomputable def fn_ (t : Nat) (x y : Wd) : F_ := .eqv t _ _ (and_v x y)
noncomputable abbrev fCp : Func := fnOf PP 60
abbrev T8 : Nat := 57
abbrev T4 : Nat := 143
def v4 (r : S8) : List V := [wv r.a, wv r.b, wv r.c, wv r.d]
def e4 (r : S8) : List V := [wv r.e, wv r.f, wv r.g, wv r.h]
def z8 : List V := List.replicate 8 (wv 0)
noncomputable def cpX (B : List UInt8) (s r : S8) (t : Nat) : St := at_ fCp [(2, .lp 0 0), (4, .lp 1 0), (5, .lp 2 0), (6, .lp 3 0), (7, .lp 4 0), (21, .ag (shaK.map gW)), (22, ni (t : Int))] [.bx T8 (st8 s), .bx T8 z8, .bx T64 (w64 (wS B 64 0)), .bx T4 (v4 r), .bx T4 (e4 r)]
noncomputable def cpZ (l : List V) (r : S8) (i : Nat) : St := at_ fCp [(2, .lp 0 0), (4, .lp 1 0), (6, .lp 3 0), (7, .lp 4 0), (94, ni (i : Int))] [.bx T8 l, .bx T8 z8, .dead, .bx T4 (v4 r), .bx T4 (e4 r)]
theorem b04 : Ext PP (mkSb2 T8) [.lp 0 0, ni ((4 : Nat) : Int)] [] [] (.bs 0 0 4 8) := x_bs2 (e := T32) (by kernel_rfl) (by kernel_rfl) (by omega) (by omega)
theorem b48 : Ext PP (mkSb1 T8) [.lp 0 0, ni ((4 : Nat) : Int)] [] [] (.bs 0 (0 + 4) (8 - 4) (8 - 4)) := x_bs1 (e := T32) (by kernel_rfl) (by kernel_rfl) (by omega)
theorem p04 : Ext PP (mkSa T4) [.bs 0 0 4 8] [] [] (.lp 0 0) := x_s2p (n := 4) (e := T32) (by kernel_rfl) (by omega)
theorem p48 : Ext PP (mkSa T4) [.bs 0 (0 + 4) (8 - 4) (8 - 4)] [] [] (.lp 0 (0 + 4)) := x_s2p (n := 4) (e := T32) (by kernel_rfl) (by omega)
theorem kwX (h : t < 64) : Ext PP (mkIx T64) [.ag (shaK.map gW), ni (t : Int)] [] [] (wv (KW.getD t 0)) := x_ix (n := 64) (e := T32) (by kernel_rfl) (by kernel_rfl) h (by kernel_rfl) (kw_at h)
end
end Go.Proofs.YtnpdpjfdgialeaaGreatDoor.E.Hs
namespace Go.Proofs.YtnpdpjfdgialeaaGreatDoor.E.Hs
open Go.RowKit Sh
set_option linter.unusedVariables false
set_option linter.unusedSimpArgs false
section
variable {B b : List UInt8} {W : Nat → Wd} {x y z u : Wd} {s r : S8} {l : List V} {n i j t : Nat}
theorem cp_step (B : List UInt8) (s r : S8) (t : Nat) (g : t < 64) {D : List V} (h : Gd PP 60 (.ag D) (lp fCp 0) (cpX B s (r.round (KW.getD t 0) (wU B t)) (t + 1))) : Gd PP 60 (.ag D) (lp fCp 0) (cpX B s r t) := by
 have c1 := e_mix r.e 6 11 25 (by omega) (by omega) (by omega)
 have c2 := e_mix r.a 2 13 22 (by omega) (by omega) (by omega)
 have n1 : V.k (.int .u32 (bits .xor .u32 IntKind.u32.max (wi r.e))) = wv (~~~r.e) := by
  rw [show IntKind.u32.max = wi 0xffffffff#32 from by decide, w_xor, BitVec.xor_comm, w_not]
  rfl
 have ld : Ext PP (mkLd T32) [.lp 2 (0 + t * 1)] [(2, .bx T64 (w64 (wS B 64 0)))] [] (wv (wU B t)) := ldS 2 g g
 let X := r.h + bs1 r.e + chW r.e r.f r.g + KW.getD t 0 + wU B t
 let Y := bs0 r.a + maW r.a r.b r.c
 exact .to mo_ [] [2, 4, 5, 6, 7, 21, 22] [0, 1, 2, 3, 4] 5 [ye (t := decide ((t : Int) < 64)) (decide_eq_true (by omega)), .ext (some 25) _ _ _ _ _ (kwX g), cl c1, fa 31 r.h (bs1 r.e), fn_ 36 r.e r.f, .eqv 39 _ _ n1, fn_ 42 (~~~r.e) r.g, fx 43 (r.e &&& r.f) (~~~r.e &&& r.g), fa 44 (r.h + bs1 r.e) (chW r.e r.f r.g), fa 46 (r.h + bs1 r.e + chW r.e r.f r.g) (KW.getD t 0), .ext (some 48) _ _ _ _ _ (a64 g 2), .ext (some 49) _ _ _ _ _ ld, fa 50 (r.h + bs1 r.e + chW r.e r.f r.g + KW.getD t 0) (wU B t),
  cl c2, fn_ 58 r.a r.b, fn_ 63 r.a r.c, fx 64 (r.a &&& r.b) (r.a &&& r.c), fn_ 69 r.b r.c, fx 70 ((r.a &&& r.b) ^^^ (r.a &&& r.c)) (r.b &&& r.c), fa 71 (bs0 r.a) (maW r.a r.b r.c), fa 75 r.d X, fa 85 X Y, inc 93 t (by omega)] h (by kernel_rfl)
theorem e_comp (s : S8) (B : List UInt8) (hB : B.length = 64) : Pure PP 60 [.ag (st8 s), .sl (byL B)] (.ag (st8 (s.block KW B))) := by
 let R : Nat → S8 := S8.rounds KW (wordsU B 64) s
 refine pf (by kernel_rfl) (.to mo_ [] [2, 4, 5, 6, 7, 21, 22] [0, 1, 2, 3, 4] 5 [cl (e_sched B hB), .ext (some 15) _ _ _ _ _ b04, .ext (some 16) _ _ _ _ _ p04, .ext (some 18) _ _ _ _ _ b48, .ext (some 19) _ _ _ _ _ p48] (td' := lp fCp 0) (σ' := cpX B s s 0) ?_ (by kernel_rfl))
 refine Gd.loop (fun t => cpX B s (R t) t) (fun t => t ≤ 64) (fun t => 64 - t) ?_ 0 (Nat.zero_le _)
 intro t ht ih
 by_cases g : t < 64
 · exact cp_step B s (R t) t g (ih (t + 1) g (by omega))
 · have h : t = 64 := by omega
   subst h
   show Gd PP 60 (.ag (st8 (s.add (R 64)))) (lp fCp 0) (cpX B s (R 64) 64)
   generalize R 64 = r
   refine .to mo_ [] [2, 4, 6, 7, 94] [0, 1, 3, 4] 5 [na (t := decide (((64 : Nat) : Int) < 64)) (decide_eq_false (by omega))] (td' := lp fCp 1) (σ' := cpZ (st8 s) r 0) ?_ (by kernel_rfl)
   refine .to mo_ [] [2, 4, 6, 7, 94] [0, 1, 3, 4] 5 [yt, fa 103 s.a r.a, fa 112 s.e r.e] (td' := lp fCp 1) (σ' := cpZ [wv (s.a + r.a), wv s.b, wv s.c, wv s.d, wv (s.e + r.e), wv s.f, wv s.g, wv s.h] r 1) ?_ (by kernel_rfl)
   refine .to mo_ [] [2, 4, 6, 7, 94] [0, 1, 3, 4] 5 [yt, fa 103 s.b r.b, fa 112 s.f r.f] (td' := lp fCp 1) (σ' := cpZ [wv (s.a + r.a), wv (s.b + r.b), wv s.c, wv s.d, wv (s.e + r.e), wv (s.f + r.f), wv s.g, wv s.h] r 2) ?_ (by kernel_rfl)
   refine .to mo_ [] [2, 4, 6, 7, 94] [0, 1, 3, 4] 5 [yt, fa 103 s.c r.c, fa 112 s.g r.g] (td' := lp fCp 1) (σ' := cpZ [wv (s.a + r.a), wv (s.b + r.b), wv (s.c + r.c), wv s.d, wv (s.e + r.e), wv (s.f + r.f), wv (s.g + r.g), wv s.h] r 3) ?_ (by kernel_rfl)
   refine .to mo_ [] [2, 4, 6, 7, 94] [0, 1, 3, 4] 5 [yt, fa 103 s.d r.d, fa 112 s.h r.h] (td' := lp fCp 1) (σ' := cpZ (st8 (s.add r)) r 4) ?_ (by kernel_rfl)
   exact fi [nf] (by kernel_rfl) (by kernel_rfl)
end
end Go.Proofs.YtnpdpjfdgialeaaGreatDoor.E.Hs
namespace Go.Proofs.YtnpdpjfdgialeaaGreatDoor.E.Hs
open Go.RowKit Sh Ct
set_option linter.unusedVariables false
set_option linter.unusedSimpArgs false
section
variable {P : Program} {w : World}
def mkSs (T : TypeId) (xs : List Operand) : Op := .slice T (xs.getD 0 (.tmp 0)) (some (xs.getD 1 (.tmp 0))) none none
/-- The end of a string. -/
theorem x_ssl {T k : Nat} {s : List UInt8} (hd : P.underlying T = some .string) (hk : k ≤ s.length) : Ext P (mkSs T) [sV s, ni (k : Int)] [] [] (sV (s.drop k)) := by
 intro B M h m w a op xs ho K hl hr hrd _
 obtain ⟨x, y, rfl⟩ := ops2 hl
 have hx := Rep.k_inv (hr 0 x _ rfl rfl)
 have hy := Rep.k_inv (hr 1 y _ rfl rfl)
 simp only [mkSs, List.getD_cons_zero, List.getD_cons_succ] at ho
 have he : (⟨s.toArray⟩ : ByteArray).extract k s.length = ⟨(s.drop k).toArray⟩ := by
  apply ByteArray.ext
  rw [ByteArray.data_extract]
  simp
  rw [List.take_of_length_le (by rw [List.length_drop]; exact Nat.le_refl _)]
 have hsz : (⟨s.toArray⟩ : ByteArray).size = s.length := by simp [ByteArray.size]
 refine Exec.val (u := .string ⟨(s.drop k).toArray⟩) (w' := w) ?_ (.same K (.k _ _))
 simp [execOp, ho, Instr.sliceAt, Instr.slice, Instr.sliceBounds, Instr.sliceBound, asIntOf, hx, hy, run_under hd, hsz, hk, he]
end
section
variable {B b : List UInt8} {W : Nat → Wd} {x y z u : Wd} {s r : S8} {l : List V} {n i j t : Nat} {q : SU}
noncomputable abbrev fAd : Func := fnOf PP 23
abbrev TS : Nat := 61
def z_ : S8 := ⟨0, 0, 0, 0, 0, 0, 0, 0⟩
noncomputable def adX (q : SU) : St := at_ fAd [(1, sV q.t), (2, .lp 0 0), (4, .lp 1 0)] [.bx TS (strm q.st q.blk q.n), .bx TS (strm z_ [] 0)]
end
end Go.Proofs.YtnpdpjfdgialeaaGreatDoor.E.Hs
namespace Go.Proofs.YtnpdpjfdgialeaaGreatDoor.E.Hs
open Go.RowKit Sh Ct
set_option linter.unusedVariables false
set_option linter.unusedSimpArgs false
section
variable {B b m t : List UInt8} {W : Nat → Wd} {x y z u : Wd} {iv s r : S8} {l : List V} {n i j k : Nat} {q : SU}
def neB (t : List UInt8) : Bool := !((⟨t.toArray⟩ : ByteArray).toList == (⟨#[]⟩ : ByteArray).toList)
theorem neB_eq (t : List UInt8) : neB t = decide (t ≠ []) := by
 unfold neB
 rw [ByteArray.toList_eq, ByteArray.toList_eq]
 cases t <;> simp
theorem rem_u (n : Nat) (h : n ≤ 4000000000000) : ni (IntKind.i64.wrap ((n : Int).tmod 64)) = ni ((n % 64 : Nat) : Int) := by
 rw [Int.tmod_eq_emod_of_nonneg (by omega), IntKind.wrap_i64, show ((n : Int) % 64 + 9223372036854775808) % 18446744073709551616 - 9223372036854775808 = ((n % 64 : Nat) : Int) by omega]
theorem cv_u (n : Nat) (h : n ≤ 4000000000000) : V.k (.int .u64 (IntKind.u64.wrap (n : Int))) = uv n := by
 rw [IntKind.wrap_u64, show (n : Int) % 18446744073709551616 = (n : Int) by omega]; rfl
theorem add_u (h : n ≤ 4000000000000) (h2 : k ≤ 4000000000000) : V.k (.int .u64 (IntKind.u64.wrap ((n : Int) + (k : Int)))) = uv (n + k) := by
 rw [IntKind.wrap_u64, show ((n : Int) + (k : Int)) % 18446744073709551616 = ((n + k : Nat) : Int) by omega]; rfl
abbrev TB : Nat := 39
abbrev TA : Nat := 58
theorem bs64 (h : i < 64) : Ext PP (mkSb1 TA) [.lp 0 8, ni (i : Int)] [] [] (.bs 0 (8 + i) (64 - i) (64 - i)) := x_bs1 (e := 5) (by kernel_rfl) (by kernel_rfl) h
theorem bsl0 : Ext PP (mkSb0 TA) [.lp 0 8] [] [] (.bs 0 8 64 64) := x_bs0 (e := 5) (by kernel_rfl) (by kernel_rfl) (by omega)
theorem cp64 (q : SU) (hb : q.blk.length = 64) : Ext PP (mkCp #[TB, 9]) [.bs 0 (8 + q.n % 64) (64 - q.n % 64) (64 - q.n % 64), sV q.t] [(0, .bx TS (strm q.st q.blk q.n))] [(0, .bx TS (strm q.st q.bb q.n))] (ni (q.kk : Int)) := by
 have h1 : q.kk ≤ q.t.length := Nat.min_le_left ..
 have h2 : q.n % 64 + q.kk ≤ 64 := by
  have : q.kk ≤ 64 - q.n % 64 := Nat.min_le_right ..
  have := Nat.mod_lt q.n (show 0 < 64 by omega)
  omega
 have h3 := Nat.mod_lt q.n (show 0 < 64 by omega)
 exact x_cpy (t := TB) (t' := 9) (el := 5) rfl (by kernel_rfl) (by kernel_rfl) rfl (by rw [strm_len]; omega) (by rw [strm_len, strm_len]) (strm_cpy hb h1 h2)
theorem ss64 (h : k ≤ t.length) : Ext PP (mkSs 9) [sV t, ni (k : Int)] [] [] (sV (t.drop k)) := x_ssl (by kernel_rfl) h
theorem cb64 (s : S8) (b : List UInt8) (n : Nat) (hb : b.length = 64) : Ext PP (mkC2 #[T8, TB]) [.cl 60 [], .ag (st8 s), .bs 0 8 64 64] [(0, .bx TS (strm s b n))] [] (.ag (st8 (s.block KW b))) := by
 have hl : (byL b).length = 64 := by unfold byL; rw [List.length_map, hb]
 refine x_cbs (e_comp s b hb) rfl rfl rfl hl (by omega) (by decide) (fun cs h => ?_) (fun i cs x h1 h2 => ?_)
 · obtain ⟨c, _, rfl⟩ := List.mem_map.1 h
   rfl
 · have hi : i < 64 := by rw [← hl]; exact (List.getElem?_eq_some_iff.1 h1).1
   unfold byL at h1
   rw [List.getElem?_map, getD_lt (d := 0) (by rw [hb]; exact hi)] at h1
   injection h1 with h1
   subst h1
   injection h2 with h2
   subst h2
   exact ⟨rfl, strm_at hi⟩
theorem ad_step (q : SU) (hb : q.blk.length = 64) (hn : q.n + q.t.length ≤ 1000000000000) (ht : q.t ≠ []) {D : List V} (h : Gd PP 23 (.ag D) (lp fAd 0) (adX (q.step KW))) : Gd PP 23 (.ag D) (lp fAd 0) (adX q) := by
 have h1 : q.kk ≤ q.t.length := Nat.min_le_left ..
 have h2 : q.kk ≤ 64 - q.n % 64 := Nat.min_le_right ..
 have h3 := Nat.mod_lt q.n (show 0 < 64 by omega)
 have hbb : q.bb.length = 64 := blkU_len hb (by omega) h1
 have c0 : neB q.t = true := by rw [neB_eq]; exact decide_eq_true ht
 by_cases g : q.n % 64 + q.kk = 64
 · have e : q.step KW = ⟨q.st.block KW q.bb, q.bb, q.n + q.kk, q.t.drop q.kk⟩ := by unfold SU.step; rw [if_pos g]
   rw [e] at h
   exact .to mo_ [] [1, 2, 4] [0, 1] 2 [ye c0, .eqv 12 _ _ (rem_u q.n (by omega)), .ext (some 15) _ _ _ _ _ (bs64 h3), .ext (some 17) _ _ _ _ _ (cp64 q hb), .ext (some 20) _ _ _ _ _ (ss64 h1), .eqv 24 _ _ (cv_u q.kk (by omega)), .eqv 25 _ _ (add_u (n := q.n) (k := q.kk) (by omega) (by omega)), .eqv 29 _ _ (add_i (i := q.n % 64) (j := q.kk) (by omega) (by omega)), ye (t := (((q.n % 64 + q.kk : Nat) : Int) == 64)) (by rw [g]; rfl), .ext (some 34) _ _ _ _ _ bsl0, .ext (some 35) _ _ _ _ _ (cb64 q.st q.bb (q.n + q.kk) hbb)] h (by kernel_rfl)
 · have e : q.step KW = ⟨q.st, q.bb, q.n + q.kk, q.t.drop q.kk⟩ := by unfold SU.step; rw [if_neg g]
   rw [e] at h
   exact .to mo_ [] [1, 2, 4] [0, 1] 2 [ye c0, .eqv 12 _ _ (rem_u q.n (by omega)), .ext (some 15) _ _ _ _ _ (bs64 h3), .ext (some 17) _ _ _ _ _ (cp64 q hb), .ext (some 20) _ _ _ _ _ (ss64 h1), .eqv 24 _ _ (cv_u q.kk (by omega)), .eqv 25 _ _ (add_u (n := q.n) (k := q.kk) (by omega) (by omega)), .eqv 29 _ _ (add_i (i := q.n % 64) (j := q.kk) (by omega) (by omega)), na (t := (((q.n % 64 + q.kk : Nat) : Int) == 64)) (by simp; omega)] h (by kernel_rfl)
theorem e_add {q : SU} (H : Str KW iv m q.st q.blk) (hn : q.n = m.length) (hsz : q.n + q.t.length ≤ 1000000000000) : ∃ st blk, Str KW iv (m ++ q.t) st blk ∧ Pure PP 23 [.ag (strm q.st q.blk q.n), sV q.t] (.ag (strm st blk (m ++ q.t).length)) := by
 obtain ⟨f1, f2, f3⟩ := SU.fin H hn
 refine ⟨_, _, f3, ?_⟩
 have f4 : (m ++ q.t).length = (q.it KW q.t.length).n := by rw [f1, List.length_append]
 rw [f4]
 refine pf (by kernel_rfl) (.to mo_ [] [1, 2, 4] [0, 1] 2 [] (td' := lp fAd 0) (σ' := adX q) ?_ (by kernel_rfl))
 refine Gd.loop (fun i => adX (q.it KW i)) (fun i => i ≤ q.t.length) (fun i => q.t.length - i) ?_ 0 (Nat.zero_le _)
 intro i hi ih
 obtain ⟨c, h1, h2, h3, h4, h5⟩ := SU.inv H hn i
 by_cases g : (q.it KW i).t = []
 · have e := SU.same g h4.len (q.t.length - i)
   rw [show i + (q.t.length - i) = q.t.length by omega] at e
   rw [e]
   generalize q.it KW i = r at *
   have c0 : neB r.t = false := by rw [neB_eq, g]; rfl
   exact fi [na c0] (by kernel_rfl) (by kernel_rfl)
 · have hc : c < q.t.length := by
    rcases Nat.lt_or_ge c q.t.length with h | h
    · exact h
    · exact absurd (by rw [h3, List.drop_of_length_le h]) g
   have hd : (q.it KW i).t.length = q.t.length - c := by rw [h3, List.length_drop]
   exact ad_step _ h4.len (by rw [h2, hd]; omega) g (ih (i + 1) (by omega) (by omega))
end
end Go.Proofs.YtnpdpjfdgialeaaGreatDoor.E.Hs
namespace Go.Proofs.YtnpdpjfdgialeaaGreatDoor.E.Hs
open Go.RowKit Sh Ct
set_option linter.unusedVariables false
set_option linter.unusedSimpArgs false
def IV : S8 := ⟨0x6a09e667#32, 0xbb67ae85#32, 0x3c6ef372#32, 0xa54ff53a#32, 0x510e527f#32, 0x9b05688c#32, 0x1f83d9ab#32, 0x5be0cd19#32⟩
def S8.wd (s : S8) (i : Nat) : Wd := [s.a, s.b, s.c, s.d, s.e, s.f, s.g, s.h].getD i 0
def outU (s : S8) (i : Nat) : UInt8 := UInt8.ofNat ((S8.wd s (i / 4)) >>> (24 - 8 * (i % 4))).toNat
def w32 (W : Nat → UInt8) : List V := (List.range 32).map fun i => bv (W i)
def lenB (n i : Nat) : UInt8 := UInt8.ofNat (8 * n / 2 ^ (56 - 8 * i))
def padW (n i : Nat) : List UInt8 := 128 :: (List.replicate (zerosN n) 0 ++ (List.range i).map (lenB n))
def padZ (j : Nat) : List UInt8 := 128 :: List.replicate j 0
theorem padW_0 (n : Nat) : padW n 0 = padZ (zerosN n) := by unfold padW padZ; simp
theorem padW_8 (n : Nat) : padW n 8 = padU n := rfl
section
variable {B b m t blk : List UInt8} {W W' : Nat → UInt8} {x y z u : Wd} {iv s r : S8} {l : List V} {n i j k : Nat}
theorem padZ_len : (padZ j).length = j + 1 := by unfold padZ; simp
theorem padW_len : (padW n i).length = 1 + zerosN n + i := by unfold padW; simp; omega
theorem zerosN_lt (n : Nat) : zerosN n < 64 := Nat.mod_lt _ (by decide)
theorem byL_app (a b : List UInt8) : byL a ++ byL b = byL (a ++ b) := by unfold byL; rw [List.map_append]
theorem byL_len (a : List UInt8) : (byL a).length = a.length := by unfold byL; rw [List.length_map]
theorem padZ_next : byL (padZ j) ++ [[bv 0]] = byL (padZ (j + 1)) := by
 show byL (padZ j) ++ byL [0] = _
 rw [byL_app]
 unfold padZ
 rw [List.cons_append, ← List.replicate_succ']
theorem padW_next : byL (padW n i) ++ [[bv (lenB n i)]] = byL (padW n (i + 1)) := by
 show byL (padW n i) ++ byL [lenB n i] = _
 rw [byL_app]
 unfold padW
 rw [List.cons_append, List.append_assoc, List.range_succ, List.map_append]
 rfl
theorem w32_len : (w32 W).length = 32 := by unfold w32; simp
theorem w32_put {v : UInt8} (h1 : W' i = v) (h2 : ∀ j, j ≠ i → W' j = W j) : (w32 W).set i (bv v) = w32 W' := by
 apply List.ext_getElem?
 intro j
 rw [List.getElem?_set, w32_len]
 unfold w32
 by_cases e : i = j
 · subst e
   rw [if_pos rfl]
   by_cases g : i < 32
   · rw [if_pos g, List.getElem?_map, List.getElem?_range g]; show _ = some (bv (W' i)); rw [h1]
   · rw [if_neg g, List.getElem?_eq_none (by simp; omega)]
 · rw [if_neg e]
   by_cases g : j < 32
   · rw [List.getElem?_map, List.getElem?_map, List.getElem?_range g]; show some (bv (W j)) = some (bv (W' j)); rw [h2 j fun q => e q.symm]
   · rw [List.getElem?_eq_none (by simp; omega), List.getElem?_eq_none (by simp; omega)]
def wP (s : S8) (i j : Nat) : UInt8 := if j < i then outU s j else 0
theorem wP_put : (w32 (wP s i)).set i (bv (outU s i)) = w32 (wP s (i + 1)) := w32_put (if_pos (Nat.lt_succ_self i)) fun j h => by
 unfold wP
 by_cases g : j < i
 · rw [if_pos g, if_pos (by omega)]
 · rw [if_neg g, if_neg (by omega)]
theorem wP_end : w32 (wP s 32) = w32 (outU s) := by
 unfold w32
 refine List.map_congr_left fun i hi => ?_
 unfold wP
 rw [if_pos (List.mem_range.1 hi)]
theorem u8_w (n : Nat) : V.k (.int .u8 (IntKind.u8.wrap (n : Int))) = bv (UInt8.ofNat n) := by
 unfold bv
 rw [IntKind.wrap_u8, UInt8.toNat_ofNat']
 rfl
theorem quo_i (h : i < 1000) : ni (IntKind.i64.wrap ((i : Int).tdiv 4)) = ni ((i / 4 : Nat) : Int) := by
 rw [Int.tdiv_eq_ediv_of_nonneg (by omega), IntKind.wrap_i64, show ((i : Int) / 4 + 9223372036854775808) % 18446744073709551616 - 9223372036854775808 = ((i / 4 : Nat) : Int) by omega]
theorem rem_i (h : i < 1000) : ni ((i : Int).tmod 4) = ni ((i % 4 : Nat) : Int) := by
 rw [Int.tmod_eq_emod_of_nonneg (by omega), show ((i : Int) % 4) = ((i % 4 : Nat) : Int) by omega]
theorem shr_u (m n : Nat) (h : n < 64) : V.k (.int .u64 ((m : Int).fdiv (2 ^ (min ((n : Int)).toNat IntKind.u64.bits)))) = uv (m / 2 ^ n) := by
 rw [Int.toNat_natCast, show IntKind.u64.bits = 64 from rfl, Nat.min_eq_left (by omega), show ((2 : Int) ^ n) = ((2 ^ n : Nat) : Int) by rw [Int.natCast_pow]; rfl, Int.fdiv_eq_ediv_of_nonneg _ (Int.natCast_nonneg _)]
 rfl
theorem mul_u (h : n ≤ 1000000000000) : V.k (.int .u64 (IntKind.u64.wrap (8 * (n : Int)))) = uv (8 * n) := by
 rw [IntKind.wrap_u64, show (8 * (n : Int)) % 18446744073709551616 = ((8 * n : Nat) : Int) by omega]; rfl
theorem cv_i (h : n ≤ 1000000000000) : ni (IntKind.i64.wrap (n : Int)) = ni (n : Int) := by
 rw [IntKind.wrap_i64, show ((n : Int) + 9223372036854775808) % 18446744073709551616 - 9223372036854775808 = (n : Int) by omega]
theorem rem_n (h : n ≤ 4000000000000) : ni ((n : Int).tmod 64) = ni ((n % 64 : Nat) : Int) := by
 rw [Int.tmod_eq_emod_of_nonneg (by omega), show ((n : Int) % 64) = ((n % 64 : Nat) : Int) by omega]
theorem st8_at (h : i < 8) : (strm s b n)[i]? = some (wv (S8.wd s i)) := by
 match i, h with
 | 0, _ => rfl
 | 1, _ => rfl
 | 2, _ => rfl
 | 3, _ => rfl
 | 4, _ => rfl
 | 5, _ => rfl
 | 6, _ => rfl
 | 7, _ => rfl
noncomputable abbrev fSm : Func := fnOf PP 25
abbrev T32b : Nat := 65
abbrev T8b : Nat := 5
theorem e_begin : Pure PP 22 [] (.ag (strm IV (List.replicate 64 0) 0)) := tr [] (by kernel_rfl)
noncomputable def smX (s : S8) (b : List UInt8) (n j : Nat) : St := at_ fSm [(1, .lp 0 0), (2, .lp 1 0), (3, uv (8 * n)), (4, .ow 2)] [.bx TS (strm s b n), .bx T32b (w32 fun _ => 0), .rw T8b 1 (byL (padZ j))]
noncomputable def smY (s : S8) (b : List UInt8) (n i : Nat) : St := at_ fSm [(1, .lp 0 0), (2, .lp 1 0), (3, uv (8 * n)), (4, .ow 2), (23, ni (i : Int))] [.bx TS (strm s b n), .bx T32b (w32 fun _ => 0), .rw T8b 1 (byL (padW n i))]
noncomputable def smZ (s : S8) (b : List UInt8) (n i : Nat) : St := at_ fSm [(1, .lp 0 0), (2, .lp 1 0), (6, .lp 2 0), (40, ni (i : Int))] [.bx TS (strm s b n), .bx T32b (w32 fun _ => 0), .bx T32b (w32 (wP s i))]
end
end Go.Proofs.YtnpdpjfdgialeaaGreatDoor.E.Hs
namespace Go.Proofs.YtnpdpjfdgialeaaGreatDoor.E.Hs
open Go.RowKit Sh Ct
set_option linter.unusedVariables false
set_option linter.unusedSimpArgs false
section
variable {B b m t blk : List UInt8} {W W' : Nat → UInt8} {x y z u : Wd} {iv s r : S8} {l : List V} {n i j k : Nat}
theorem sm_one (s : S8) (b : List UInt8) (n j : Nat) (hn : n ≤ 100000000000) (hj : j < zerosN n) {D : List V} (h : Gd PP 25 (.ag D) (lp fSm 0) (smX s b n (j + 1))) : Gd PP 25 (.ag D) (lp fSm 0) (smX s b n j) := by
 have hz := zerosN_lt n
 have e16 : ni ((byL (padZ j)).length : Int) = ni ((j + 1 : Nat) : Int) := by rw [byL_len, padZ_len]
 have c : (((n + (j + 1)) % 64 : Nat) : Int) != 56 := by
  unfold zerosN at hj
  simp
  omega
 exact .to mo_ [.mv 2 4] [1, 2, 3, 4] [0, 1, 2] 3 [.eqv 14 _ _ (cv_i (n := n) (by omega)), .eqv 16 _ _ e16, .eqv 17 _ _ (add_i (i := n) (j := j + 1) (by omega) (by omega)), .eqv 18 _ _ (rem_n (n := n + (j + 1)) (by omega)), ye c, .app (byL (padZ j)) [[bv 0]] (byL (padZ (j + 1))) 1000 padZ_next Nat.zero_lt_one (by rw [byL_len, padZ_len]; omega)] h (by kernel_rfl)
theorem sm_two (s : S8) (b : List UInt8) (n i : Nat) (hn : n ≤ 100000000000) (hi : i < 8) {D : List V} (h : Gd PP 25 (.ag D) (lp fSm 1) (smY s b n (i + 1))) : Gd PP 25 (.ag D) (lp fSm 1) (smY s b n i) := by
 have hz := zerosN_lt n
 exact .to mo_ [.mv 2 4] [1, 2, 3, 4, 23] [0, 1, 2] 3 [ye (t := decide ((i : Int) < 8)) (decide_eq_true (by omega)), .eqv 29 _ _ (mul_i (i := i) (j := 8) (by omega) (by omega)), .eqv 30 _ _ (sub_i (i := 56) (j := 8 * i) (by omega) (by omega)), .eqv 31 _ _ (shr_u (8 * n) (56 - 8 * i) (by omega)), .eqv 32 _ _ (u8_w (8 * n / 2 ^ (56 - 8 * i))), .app (byL (padW n i)) [[bv (lenB n i)]] (byL (padW n (i + 1))) 1000 padW_next Nat.zero_lt_one (by rw [byL_len, padW_len]; omega), inc 35 i (by omega)] h (by kernel_rfl)
theorem aT8 (h : i < 8) (b : Nat) : Ext PP (mkIa T8) [.lp b 0, ni (i : Int)] [] [] (.lp b (0 + i * 1)) := x_ia (n := 8) (e := T32) (by kernel_rfl) (by kernel_rfl) h
theorem lT8 {l : List V} {d : Wd} (c U : Nat) (h : l[i]? = some (wv d)) : Ext PP (mkLd T32) [.lp c (0 + i * 1)] [(c, .bx U l)] [] (wv d) := x_ld (by kernel_rfl) (by rw [Nat.zero_add, Nat.mul_one]; exact h)
theorem aT32 (h : i < 32) (b : Nat) : Ext PP (mkIa T32b) [.lp b 0, ni (i : Int)] [] [] (.lp b (0 + i * 1)) := x_ia (n := 32) (e := T8b) (by kernel_rfl) (by kernel_rfl) h
theorem sT32 {l l' : List V} {d : UInt8} (c U : Nat) (h : i < l.length) (h2 : l.set i (bv d) = l') : Ext PP (mkSt T8b) [.lp c (0 + i * 1), bv d] [(c, .bx U l)] [(c, .bx U l')] .un := x_st (by kernel_rfl) rfl rfl (by omega) (by rw [Nat.zero_add, Nat.mul_one]; exact h2)
theorem sm_three (s : S8) (b : List UInt8) (n i : Nat) (hi : i < 32) {D : List V} (h : Gd PP 25 (.ag D) (lp fSm 2) (smZ s b n (i + 1))) : Gd PP 25 (.ag D) (lp fSm 2) (smZ s b n i) := by
 have e53 : V.k (.int .u32 ((wi (S8.wd s (i / 4))).fdiv (2 ^ (min (((24 - 8 * (i % 4) : Nat) : Int)).toNat IntKind.u32.bits)))) = wv ((S8.wd s (i / 4)) >>> (24 - 8 * (i % 4))) := by rw [shr_v (by omega)]; rfl
 have ld : Ext PP (mkLd T32) [.lp 0 (0 + i / 4 * 1)] [(0, .bx TS (strm s b n))] [] (wv (S8.wd s (i / 4))) := lT8 0 TS (st8_at (by omega))
 have st : Ext PP (mkSt T8b) [.lp 2 (0 + i * 1), bv (outU s i)] [(2, .bx T32b (w32 (wP s i)))] [(2, .bx T32b (w32 (wP s (i + 1))))] .un := sT32 2 T32b (by rw [w32_len]; exact hi) wP_put
 exact .to mo_ [] [1, 2, 6, 40] [0, 1, 2] 3 [ye (t := decide ((i : Int) < 32)) (decide_eq_true (by omega)), .eqv 45 _ _ (quo_i (i := i) (by omega)), .ext (some 47) _ _ _ _ _ (aT8 (i := i / 4) (by omega) 0), .ext (some 48) _ _ _ _ _ ld, .eqv 50 _ _ (rem_i (i := i) (by omega)), .eqv 51 _ _ (mul_i (i := i % 4) (j := 8) (by omega) (by omega)), .eqv 52 _ _ (sub_i (i := 24) (j := 8 * (i % 4)) (by omega) (by omega)), .eqv 53 _ _ e53, .eqv 54 _ _ (u8_w ((S8.wd s (i / 4)) >>> (24 - 8 * (i % 4))).toNat), .ext (some 55) _ _ _ _ _ (aT32 hi 2), .ext none _ _ _ _ _ st, inc 56 i (by omega)] h (by kernel_rfl)
/-- The hash of a stream. -/
theorem e_sum (H : Str KW iv m s b) (hn : m.length ≤ 100000000000) : Pure PP 25 [.ag (strm s b m.length)] (.ag (w32 (outU (shaS KW iv m)))) := by
 have hp := padU_len m.length
 have hpl : (padU m.length).length = 9 + zerosN m.length := by rw [← padW_8, padW_len]; omega
 have hz := zerosN_lt m.length
 obtain ⟨st, blk, h1, h2⟩ := e_add (q := ⟨s, b, m.length, padU m.length⟩) H rfl (by simp only; omega)
 simp only at h1 h2
 have hst : st = shaS KW iv m := h1.st
 subst hst
 generalize hN : (m ++ padU m.length).length = N at h2
 generalize shaS KW iv m = S at *
 generalize hk : m.length = n at *
 refine pf (by kernel_rfl) (.to mo_ [] [1, 2, 3, 4] [0, 1, 2] 3 [.eqv 10 _ _ (mul_u (n := n) (by omega))] (td' := lp fSm 0) (σ' := smX s b n 0) ?_ (by kernel_rfl))
 refine Gd.loop (smX s b n) (fun j => j ≤ zerosN n) (fun j => zerosN n - j) ?_ 0 (Nat.zero_le _)
 intro j hj ih
 by_cases g : j < zerosN n
 · exact sm_one s b n j hn g (ih (j + 1) g (by omega))
 have hjz : j = zerosN n := by omega
 subst hjz
 have e16 : ni ((byL (padW n 0)).length : Int) = ni ((zerosN n + 1 : Nat) : Int) := by rw [byL_len, padW_len, Nat.add_zero, Nat.add_comm]
 have c : ((((n + (zerosN n + 1)) % 64 : Nat) : Int) != 56) = false := by
  have : (n + (zerosN n + 1)) % 64 = 56 := by unfold zerosN; omega
  rw [this]
  rfl
 have e0 : smX s b n (zerosN n) = at_ fSm [(1, .lp 0 0), (2, .lp 1 0), (3, uv (8 * n)), (4, .ow 2)] [.bx TS (strm s b n), .bx T32b (w32 fun _ => 0), .rw T8b 1 (byL (padW n 0))] := by unfold smX; rw [padW_0]
 rw [e0]
 refine .to mo_ [] [1, 2, 3, 4, 23] [0, 1, 2] 3 [.eqv 14 _ _ (cv_i (n := n) (by omega)), .eqv 16 _ _ e16, .eqv 17 _ _ (add_i (i := n) (j := zerosN n + 1) (by omega) (by omega)), .eqv 18 _ _ (rem_n (n := n + (zerosN n + 1)) (by omega)), na c] (td' := lp fSm 1) (σ' := smY s b n 0) ?_ (by kernel_rfl)
 refine Gd.loop (smY s b n) (fun j => j ≤ 8) (fun j => 8 - j) ?_ 0 (Nat.zero_le _)
 intro j hj ih
 by_cases g : j < 8
 · exact sm_two s b n j hn g (ih (j + 1) g (by omega))
 have h8 : j = 8 := by omega
 subst h8
 refine .to mo_ [.fz 4] [1, 2, 4] [0, 1] 2 [na (t := decide (((8 : Nat) : Int) < 8)) (decide_eq_false (by omega))] (td' := rg fSm 10) (σ' := at_ fSm [(1, .lp 0 0), (2, .lp 1 0), (4, .sl (byL (padU n)))] [.bx TS (strm s b n), .bx T32b (w32 fun _ => 0)]) ?_ (by kernel_rfl)
 refine .to mo_ [] [1, 2, 6, 40] [0, 1, 2] 3 [.str (byL (padU n)) (padU n) rfl, cl h2] (td' := lp fSm 2) (σ' := smZ S blk N 0) ?_ (by kernel_rfl)
 refine Gd.loop (smZ S blk N) (fun j => j ≤ 32) (fun j => 32 - j) ?_ 0 (Nat.zero_le _)
 intro j hj ih
 by_cases g : j < 32
 · exact sm_three S blk N j g (ih (j + 1) g (by omega))
 have h9 : j = 32 := by omega
 subst h9
 rw [← wP_end]
 exact fi [na (t := decide (((32 : Nat) : Int) < 32)) (decide_eq_false (by omega))] (by kernel_rfl) (by kernel_rfl)
end
end Go.Proofs.YtnpdpjfdgialeaaGreatDoor.E.Hs
