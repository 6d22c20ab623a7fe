/-
 THE WALK of the reference's Seal.
-/
import Derived.Test.YtgdibcgphjmofaaLnkC
namespace Go.Proofs.Ytgdibcgphjmofaa
set_option maxHeartbeats 4000000
open Go.RowKit
set_option linter.unusedVariables false
set_option maxRecDepth 100000 in
theorem rseal_any (key : Int) (b o c : Nat) (l : List UInt8) (w : World) (hk : 0 ≤ key ∧ key < 18446744073709551616) (hb : b < w.heap.size) (hr : ∀ j u, (W.bc l)[j]? = some u → w.cell? ⟨b, o + j, none⟩ = some u) (hc : l.length ≤ c) (hm : c ≤ maxLen) (hl : l.length ≤ 1000000000000) :
  Calls Try.prog 17 #[.int .u64 key, .slice (some ⟨b, o, none⟩) l.length c] w (RB_ (l ++ K.seal8 (K.hash key l)) w) := by
 unfold maxLen at hm
 obtain ⟨i0, hi, hz0, hz1, hz2⟩ := info_parts info_u8
 have HR := Lib.hid hr; have HK := Lib.hid hk
 clear hr hk
 go_enter Try.func17, Try.ntmps17
 go_wp2_with fail
 go_loopw [5, 6] (fun s5 s6 wr => ∃ k : Nat, k ≤ l.length ∧ s6 = .int .i64 (k : Int) ∧ s5 = .int .u64 (K.hash key (l.take k)) ∧ w = wr) (fun _ ix _ => (l.length - (intOf ix).toNat))
 case atStart => exact ⟨0, by omega, rfl, rfl, rfl⟩
 case round =>
  obtain ⟨k, hk2, rfl, rfl, rfl⟩ := hrel
  by_cases hk3 : k < l.length
  ·have f1 : w.cell? ⟨b, o + k, none⟩ = some (.int .u8 ((l[k]'hk3).toNat : Int)) := HR.out k _ (W.bc_get l k hk3)
   have hkd := decide_eq_true hk3
   have hk4 : (k : Int) < (l.length : Int) := by omega
   go_wp2
   exact ⟨⟨k + 1, by omega, by go_num, by rw [K.hash_take hk3]; rfl, trivial⟩, by simp [intOf]; omega⟩
  ·have hkd := decide_eq_false hk3
   have hall : l.take k = l := by rw [show k = l.length by omega]; exact List.take_length
   rw [hall]
   obtain ⟨H, hH⟩ : ∃ H, H = K.hash key l := ⟨_, rfl⟩
   have HH := Lib.hid hH
   have hrng := K.hash_rng HK.out l
   rw [← hH] at hrng ⊢
   clear hH
   go_wp2_with (at_builtin; refine wpList_append_own _ rfl (.tmp 25) (.tmp 26) _ rfl w.heap.size 5 i0 _ 1 1 Try.underlying33 hi hz0 hz1 hz2 rfl (by decide) _ _ _ rfl (World.ownsRow_made w #[] 0 (Nat.le_refl _) (by decide) rfl) ⟨b, o, none⟩ _ _ (W.bc l) rfl (by simp) (fun j u hu => by rcases j with _ | j; exact (World.cell?_alloc_lt w _ ⟨b, o, none⟩ hb).trans (HR.out 0 u hu); simpa [Addr.add] using (World.cell?_alloc_lt w _ ⟨b, o + (j + 1), none⟩ hb).trans (HR.out (j + 1) u hu)) (W.bc_oneCell l) (by unfold maxLen; omega) (by omega) (by simp) ?_)
   intro v' w2 hown hgrow _
   have hB : Below w.heap.size w w2 := ((Below.refl _ _).alloc (Nat.le_refl _) _).grown hgrow (by simp) (fun k hk => by simp [Value.ownBlock] at hk; omega)
   have HOWN : Hid (w2.ownsRow w.heap.size 5 1 v' l.length (W.bc l)) := Lib.hid (by simpa using hown)
   have HB := Lib.hid hB
   clear hown hB hgrow
   go_wp2_with fail
   go_loopw [5, 7, 8] (fun s5 s7 s8 wr => ∃ (i : Nat) (sv : Value), i ≤ 8 ∧ s8 = .int .i64 (i : Int) ∧ s5 = .int .u64 (H / ((256 ^ i : Nat) : Int)) ∧ s7 = sv ∧ Hid (wr.ownsRow w.heap.size 5 1 sv (l.length + i) (W.bc (l ++ (K.seal8 H).take i))) ∧ Hid (Below w.heap.size w wr)) (fun _ _ ix _ => (8 - (intOf ix).toNat))
   case atStart => exact ⟨0, _, by omega, rfl, by simp, rfl, Lib.hid (by simpa using HOWN.out), HB⟩
   case round =>
    clear HOWN HB
    obtain ⟨i, sv, hi8, rfl, rfl, rfl, HOWN, HB⟩ := hrel
    obtain ⟨wo, rfl⟩ : ∃ wo : World, wo = wr := ⟨_, rfl⟩
    have hge := HB.out.size
    by_cases hlt : i < 8
    ·have hkd := decide_eq_true hlt
     have k1 : (i : Int) < 8 := by omega
     have hq0 : 0 ≤ H / ((256 ^ i : Nat) : Int) := Int.ediv_nonneg hrng.1 (Int.natCast_nonneg _)
     have hdiv : H / ((256 ^ i : Nat) : Int) / 256 = H / ((256 ^ (i + 1) : Nat) : Int) := by
      rw [Int.ediv_ediv_of_nonneg (Int.natCast_nonneg _)]; congr 1
     have hcell := K.sealB_cell H i
     have hle : H / ((256 ^ i : Nat) : Int) ≤ H := Int.ediv_le_self _ hrng.1
     generalize hX : H / ((256 ^ i : Nat) : Int) = X at *
     have hx0 : 0 ≤ X % 256 ∧ X % 256 < 256 := by omega
     go_wp2_with (at_builtin; refine wpList_append_own _ rfl (.tmp 32) (.tmp 36) _ rfl w.heap.size 5 i0 _ 1 1 Try.underlying33 hi hz0 hz1 hz2 rfl (by decide) _ _ _ rfl (HOWN.out.alloc _) ⟨wo.heap.size, 0, none⟩ 1 1 [.int .u8 (X % 256)] rfl rfl (cell_one_new _ _ _) (fun u hu => by simp at hu; subst hu; rfl) (by unfold maxLen; omega) (by omega) (by simp; omega) ?_)
     intro v2 w3 hown3 hgrow _
     have hB3 : Below w.heap.size w w3 := (HB.out.alloc hge _).grown hgrow (by simp; omega) (fun k hk => (HOWN.out.lt k hk).1)
     have HOWN3 := Lib.hid hown3; have k0 := Lib.hid hB3
     clear hown3 hB3 hgrow
     go_wp2
     have hst : (K.seal8 H).take (i + 1) = (K.seal8 H).take i ++ [K.sealB H i] := by
      have : ∀ j, j < 8 → (K.seal8 H).take (j + 1) = (K.seal8 H).take j ++ [K.sealB H j] := by
       intro j hj
       have hc : j = 0 ∨ j = 1 ∨ j = 2 ∨ j = 3 ∨ j = 4 ∨ j = 5 ∨ j = 6 ∨ j = 7 := by omega
       rcases hc with rfl | rfl | rfl | rfl | rfl | rfl | rfl | rfl <;> rfl
      exact this i hlt
     refine ⟨⟨i + 1, v2, by omega, by go_num, by rw [← hdiv], rfl, Lib.hid ?_, k0⟩, by simp [intOf]; omega⟩
     have h := HOWN3.out
     rw [hst, ← List.append_assoc, W.bc_append]
     rw [show W.bc [K.sealB H i] = [.int .u8 (X % 256)] from by simp only [W.bc, List.map_cons, List.map_nil]; rw [hcell]]
     exact h
    ·obtain rfl : i = 8 := by omega
     have hkd := decide_eq_false hlt
     go_wp2
     go_ret
     refine ⟨_, rfl, ?_, HB.out⟩
     rw [← HH.out]
     have h := HOWN.out
     simpa [K.seal8] using h
end Go.Proofs.Ytgdibcgphjmofaa
