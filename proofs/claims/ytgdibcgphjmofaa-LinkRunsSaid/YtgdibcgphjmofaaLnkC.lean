/-
 THE WALK of the reference's Seal.
-/
import Derived.Test.YtgdibcgphjmofaaRows
import Derived.Test.YtgdibcgphjmofaaMem
import Derived.Test.YtgdibcgphjmofaaRowI
import Derived.WalkLawsBesides
import Derived.LoopTactic
import Derived.LoopN
import Derived.BigQuiet
import Derived.Deep.LoopGhost
import Derived.Test.YtgdibcgphjmofaaWalkInt
import Derived.Lib.SliceRun
import Derived.Laws.Bits64
namespace Go.Proofs.Ytgdibcgphjmofaa
set_option maxHeartbeats 2000000
open Go.RowKit
set_option linter.unusedVariables false
namespace K
/-- The hash: its beginning, a step, the whole. -/
def beg (key : Int) : Int := bits BinOp.xor IntKind.u64 14695981039346656037 key
def st (h : Int) (c : UInt8) : Int := IntKind.u64.wrap (bits BinOp.xor IntKind.u64 h (IntKind.u64.wrap (c.toNat : Int)) * 1099511628211)
def hash (key : Int) (l : List UInt8) : Int := l.foldl st (beg key)
theorem hash_take {key : Int} {l : List UInt8} {k : Nat} (h : k < l.length) : hash key (l.take (k + 1)) = st (hash key (l.take k)) l[k] := by
 unfold hash
 rw [List.take_succ_eq_append_getElem h, List.foldl_append]
 rfl
end K
set_option maxRecDepth 100000 in
theorem seal_any (key : Int) (l : List UInt8) (A : Option Addr) (c : Nat) (w : World) (hr : Rd w w.heap.size A (W.bc l)) (hc : l.length ≤ c) (hm : c ≤ maxLen) :
  Calls Try.prog 41 #[.int .u64 key, .slice A l.length c] w fun e w' => e = .returned (.agg #[.int .u8 (K.hash key l % 256), .int .u8 (K.hash key l / 256 % 256), .int .u8 (K.hash key l / 65536 % 256), .int .u8 (K.hash key l / 16777216 % 256), .int .u8 (K.hash key l / 4294967296 % 256), .int .u8 (K.hash key l / 1099511627776 % 256), .int .u8 (K.hash key l / 281474976710656 % 256), .int .u8 (K.hash key l / 72057594037927936 % 256)]) ∧ Below w.heap.size w w' := by
 unfold maxLen at hm
 have HR := Lib.hid hr; clear hr
 go_enter Try.func41, Try.ntmps41
 go_wp2_with fail
 obtain ⟨W1, hW⟩ : ∃ W, W = w.alloc (.cells #[.int .u8 0, .int .u8 0, .int .u8 0, .int .u8 0, .int .u8 0, .int .u8 0, .int .u8 0, .int .u8 0] 79) := ⟨_, rfl⟩
 rw [← hW]
 have hB : Below w.heap.size w W1 := by rw [hW]; exact (Below.refl _ _).alloc (Nat.le_refl _) _
 have hx : Bx W1 w.heap.size 79 [.int .u8 0, .int .u8 0, .int .u8 0, .int .u8 0, .int .u8 0, .int .u8 0, .int .u8 0, .int .u8 0] := by rw [hW]; exact Bx.at_ rfl
 have k0 := Lib.hid hB; clear hB hW
 obtain ⟨c0, c1, c2, c3, c4, c5, c6, c7, z0, l0⟩ := hx.f8
 go_loopw [5, 14] (fun s5 s14 wr => ∃ k : Nat, k ≤ l.length ∧ s14 = .int .i64 (k : Int) ∧ s5 = .int .u64 (K.hash key (l.take k)) ∧ W1 = wr) (fun _ ix _ => (l.length - (intOf ix).toNat))
 case atStart => exact ⟨0, by omega, rfl, rfl, rfl⟩
 case round =>
  obtain ⟨k, hk2, rfl, rfl, rfl⟩ := hrel
  by_cases hk3 : k < l.length
  ·obtain ⟨b, o, rfl, hb, hcell⟩ := HR.out (by simp; omega)
   have f1 : W1.cell? ⟨b, o + k, none⟩ = some (.int .u8 ((l[k]'hk3).toNat : Int)) := (k0.out.cell (p := ⟨b, o + k, none⟩) hb).trans (hcell k _ (W.bc_get l k hk3))
   have hkd := decide_eq_true hk3
   have hk4 : (k : Int) < (l.length : Int) := by omega
   clear hcell
   go_wp2
   exact ⟨⟨k + 1, by omega, by go_num, by rw [K.hash_take hk3]; rfl, trivial⟩, by simp [intOf]; omega⟩
  ·have hkd := decide_eq_false hk3
   have hall : l.take k = l := by rw [show k = l.length by omega]; exact List.take_length
   rw [hall]
   obtain ⟨H, hH⟩ : ∃ H, H = K.hash key l := ⟨_, rfl⟩
   have HH := Lib.hid hH
   rw [← hH]
   clear hH
   have hlt := hx.lt
   go_wp2_with fail
   refine wp_loop_rounds 9 ?_
   iterate 8 (rw [rounds_succ]; go_wp2_with fail)
   rw [rounds_succ]
   go_wp2_with fail
   have hz := (((((((((hx).set_ 0 (.int .u8 (H % 256))).set_ 1 (.int .u8 (H / 256 % 256))).set_ 2 (.int .u8 (H / 65536 % 256))).set_ 3 (.int .u8 (H / 16777216 % 256))).set_ 4 (.int .u8 (H / 4294967296 % 256))).set_ 5 (.int .u8 (H / 1099511627776 % 256))).set_ 6 (.int .u8 (H / 281474976710656 % 256))).set_ 7 (.int .u8 (H / 72057594037927936 % 256))).alloc (.cells #[.int .u8 (H % 256), .int .u8 (H / 256 % 256), .int .u8 (H / 65536 % 256), .int .u8 (H / 16777216 % 256), .int .u8 (H / 4294967296 % 256), .int .u8 (H / 1099511627776 % 256), .int .u8 (H / 281474976710656 % 256), .int .u8 (H / 72057594037927936 % 256)] 79)
   obtain ⟨d0, d1, d2, d3, d4, d5, d6, d7, -, -⟩ := hz.f8
   refine bodyPost_ret (v := .agg #[.int .u8 (H % 256), .int .u8 (H / 256 % 256), .int .u8 (H / 65536 % 256), .int .u8 (H / 16777216 % 256), .int .u8 (H / 4294967296 % 256), .int .u8 (H / 1099511627776 % 256), .int .u8 (H / 281474976710656 % 256), .int .u8 (H / 72057594037927936 % 256)]) (by simp [results, Try.results41, go_sem, d0, d1, d2, d3, d4, d5, d6, d7]) rfl ⟨?_, (bel8 k0.out (Nat.le_refl _)).alloc (by simp; omega) _⟩
   rw [← HH.out]
end Go.Proofs.Ytgdibcgphjmofaa
namespace Go.Proofs.Ytgdibcgphjmofaa
set_option maxHeartbeats 2000000
open Go.RowKit
set_option linter.unusedVariables false
/-- What returns bytes of its own. -/
def RB_ (l : List UInt8) (w : World) (e : Ending) (w' : World) : Prop := ∃ v, e = .returned v ∧ w'.ownsRow w.heap.size 5 1 v l.length (W.bc l) ∧ Below w.heap.size w w'
set_option maxRecDepth 100000 in
theorem clone_nil (w : World) : Calls Try.prog 32 #[.slice none 0 0] w (RB_ [] w) := by
 have hq := Lib.run_eql_slice_nil (P := Try.prog) w 33 5 none 0 0 0 0 Try.underlying33
 simp only [Option.isNone] at hq
 go_enter Try.func32, Try.ntmps32
 go_wp2
 go_ret
 exact ⟨_, rfl, World.ownsRow_nil _ _ _ _, Below.refl _ _⟩
set_option maxRecDepth 100000 in
theorem clone_any (b o c : Nat) (l : List UInt8) (w : World) (hb : b < w.heap.size) (hr : ∀ j u, (W.bc l)[j]? = some u → w.cell? ⟨b, o + j, none⟩ = some u) (hc : l.length ≤ c) (hm : c ≤ maxLen) (hl : l.length ≤ 140737488355328) :
  Calls Try.prog 32 #[.slice (some ⟨b, o, none⟩) l.length c] w (RB_ l w) := by
 unfold maxLen at hm
 obtain ⟨i0, hi, hz0, hz1, hz2⟩ := info_parts info_u8
 have HR := Lib.hid hr; clear hr
 have hq := Lib.run_eql_slice_nil (P := Try.prog) w 33 5 (some ⟨b, o, none⟩) l.length c 0 0 Try.underlying33
 simp only [Option.isNone] at hq
 go_enter Try.func32, Try.ntmps32
 go_wp2_with (at_builtin; refine wpList_append_own _ rfl (.tmp 5) (.tmp 6) _ rfl w.heap.size 5 i0 _ 1 1 Try.underlying33 hi hz0 hz1 hz2 rfl (by decide) _ _ _ rfl (World.ownsRow_made w #[] 0 (Nat.le_refl _) (by decide) rfl) ⟨b, o, none⟩ _ _ (W.bc l) rfl (by simp) (fun j u hu => by rcases j with _ | j; exact (World.cell?_alloc_lt w _ ⟨b, o, none⟩ hb).trans (HR.out 0 u hu); simpa [Addr.add] using (World.cell?_alloc_lt w _ ⟨b, o + (j + 1), none⟩ hb).trans (HR.out (j + 1) u hu)) (W.bc_oneCell l) (by unfold maxLen; omega) (by omega) (by simp) ?_)
 intro v' w2 hown hgrow _
 have hB : Below w.heap.size w w2 := ((Below.refl _ _).alloc (Nat.le_refl _) _).grown hgrow (by simp) (fun k hk => by simp [Value.ownBlock] at hk; omega)
 have HOWN := Lib.hid hown; have HB := Lib.hid hB
 clear hown hB hgrow
 go_wp2
 go_ret
 exact ⟨_, rfl, by simpa using HOWN.out, HB.out⟩
end Go.Proofs.Ytgdibcgphjmofaa
namespace Go.Proofs.Ytgdibcgphjmofaa
open Go.RowKit
set_option linter.unusedVariables false
namespace K
def sealB (H : Int) (i : Nat) : UInt8 := UInt8.ofNat ((H / (256 ^ i : Nat)) % 256).toNat
def seal8 (H : Int) : List UInt8 := [sealB H 0, sealB H 1, sealB H 2, sealB H 3, sealB H 4, sealB H 5, sealB H 6, sealB H 7]
theorem sealB_cell (H : Int) (i : Nat) : W.bcell (sealB H i) = .int .u8 ((H / (256 ^ i : Nat)) % 256) := by
 unfold W.bcell sealB
 congr 1
 have h0 : 0 ≤ H / (256 ^ i : Nat) % 256 := Int.emod_nonneg _ (by omega)
 have h1 : H / (256 ^ i : Nat) % 256 < 256 := Int.emod_lt_of_pos _ (by omega)
 generalize H / (256 ^ i : Nat) % 256 = x at h0 h1
 obtain ⟨n, rfl⟩ := Int.eq_ofNat_of_zero_le h0
 simp
 omega
theorem st_rng (h : Int) (c : UInt8) : 0 ≤ st h c ∧ st h c < 18446744073709551616 := by
 unfold st
 generalize bits BinOp.xor IntKind.u64 h (IntKind.u64.wrap (c.toNat : Int)) * 1099511628211 = x
 rw [IntKind.wrap_u64]
 omega
theorem beg_rng {key : Int} (h : 0 ≤ key ∧ key < 18446744073709551616) : 0 ≤ beg key ∧ beg key < 18446744073709551616 := by
 obtain ⟨n, rfl⟩ := Int.eq_ofNat_of_zero_le h.1
 have e := bits_xor_u64_nat 14695981039346656037 n (by omega) (by omega)
 have hx : 14695981039346656037 ^^^ n < 2 ^ 64 := Nat.xor_lt_two_pow (by omega) (by omega)
 show 0 ≤ bits .xor .u64 ((14695981039346656037 : Nat) : Int) (n : Int) ∧ _
 unfold beg
 rw [show (14695981039346656037 : Int) = ((14695981039346656037 : Nat) : Int) from rfl, e]
 omega
theorem hash_rng {key : Int} (h : 0 ≤ key ∧ key < 18446744073709551616) (l : List UInt8) : 0 ≤ hash key l ∧ hash key l < 18446744073709551616 := by
 unfold hash
 generalize beg key = b, beg_rng h = hb
 induction l generalizing b with
 | nil => exact hb
 | cons c l ih => exact ih _ (st_rng b c)
end K
end Go.Proofs.Ytgdibcgphjmofaa
