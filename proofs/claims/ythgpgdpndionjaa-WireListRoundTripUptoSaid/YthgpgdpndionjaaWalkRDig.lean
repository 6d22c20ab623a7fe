/-
  THE WALK of the reference's Digests.
-/
import Derived.Test.YthgpgdpndionjaaWalkRInt
import Derived.Test.YthgpgdpndionjaaWalkDig
namespace Go.Proofs.Ythgpgdpndionjaa
open Go.RowKit

set_option maxRecDepth 100000 in
set_option maxHeartbeats 1000000 in
theorem rdigests_any (F : List UInt8) (A : Option Addr) (n c L : Nat) (w : World) (hr : Rd w L A (W.bc F)) (hL : L ≤ w.heap.size) (hF : F.length = n * 16) (hlen : n ≤ 4398046511104) :
    Calls Try.prog 23 #[.slice A n c] w (Mk 5 1 (W.bc (W.enc n ++ F)) (W.enc n ++ F).length w) := by
  obtain ⟨i0, hi, hz0, hz1, hz2⟩ := info_parts info_u8
  have hI : W.Is64 (n : Int) := by unfold W.Is64; omega
  have hle := W.enc_le (n : Int)
  have HR := Lib.hid hr; have HF := Lib.hid hF; clear hr hF
  go_enter Try.func23, Try.ntmps23
  go_wp2_with fail
  refine (rint_any _ _ hI).mono ?_
  rintro e w1 ⟨v1, rfl, hown1, hb1⟩
  obtain ⟨h, hh⟩ : ∃ h, h = W.enc (n : Int) := ⟨_, rfl⟩
  rw [← hh] at hown1 hle
  have HH := Lib.hid hh; clear hh
  go_wp2_with fail
  go_loopw [4, 3] (fun ix v wr => ∃ k : Nat, k ≤ n ∧ ix = .int .i64 k ∧ wr.ownsRow w.heap.size 5 1 v (h.length + k * 16) (W.bc (h ++ F.take (k * 16))) ∧ Below w.heap.size w wr) (fun ix _ _ => n - (intOf ix).toNat)
  case atStart => exact ⟨0, by omega, rfl, by simpa using hown1, hb1⟩
  case round =>
    obtain ⟨k, hk, rfl, hown, hnx⟩ := hrel
    obtain ⟨wo, rfl⟩ : ∃ wo : World, wo = wr := ⟨_, rfl⟩
    by_cases hlt : k < n
    · obtain ⟨b, o, rfl, hbL, hcell⟩ := HR.out (by rw [W.bc_length, HF.out]; omega)
      have HC := Lib.hid hcell; clear hcell
      go_wp2_with fail
      go_loopw [5, 3] (fun ix v wi => ∃ i : Nat, i ≤ 16 ∧ ix = .int .i64 i ∧ wi.ownsRow w.heap.size 5 1 v (h.length + (k * 16 + i)) (W.bc (h ++ F.take (k * 16 + i))) ∧ Below w.heap.size w wi) (fun ix _ _ => 16 - (intOf ix).toNat)
      case atStart => exact ⟨0, by omega, rfl, hown, hnx⟩
      case round =>
        obtain ⟨i, hi16, rfl, hown', hnx'⟩ := hrel
        have hzr := hnx'.size
        by_cases hlt2 : i < 16
        · obtain ⟨y, hy⟩ : ∃ y, F[k * 16 + i]? = some y := ⟨_, List.getElem?_eq_getElem (by rw [HF.out]; omega)⟩
          have f1 : wr.cell? ⟨b, o + k * 16 + i, none⟩ = some (.int .u8 (y.toNat : Int)) := by
            have h1 := HC.out (k * 16 + i) _ (bc_at F hy)
            rw [← Nat.add_assoc] at h1
            rw [← h1]
            exact hnx'.cell (p := ⟨b, o + k * 16 + i, none⟩) (Nat.lt_of_lt_of_le hbL hL)
          have htk : F.take (k * 16 + (i + 1)) = F.take (k * 16 + i) ++ [y] := by
            have h2 := List.getElem?_eq_some_iff.1 hy
            rw [← Nat.add_assoc, List.take_succ_eq_append_getElem h2.1, h2.2]
          have HTK := Lib.hid htk; clear htk hy
          go_wp2_with (at_builtin; refine wpList_append_own _ rfl (.tmp 19) (.tmp 26) _ rfl w.heap.size 5 i0 _ 1 1 Try.underlying28 hi hz0 hz1 hz2 rfl (by decide) _ _ _ rfl (hown'.alloc _) ⟨wr.heap.size, 0, none⟩ 1 1 [.int .u8 (y.toNat : Int)] rfl rfl (cell_one_new _ _ _) (W.bc_oneCell [_]) (by unfold maxLen; omega) (by omega) (by simp; omega) ?_)
          intro v' w3 hown3 hgrow _
          have hB : Below w.heap.size w w3 := (hnx'.alloc hnx'.size _).grown hgrow (by simp; omega) (fun g hg => (hown'.lt g hg).1)
          have HO3 := Lib.hid hown3
          clear hgrow hown' hown3 f1
          go_wp2
          go_roundw
          case rel =>
            refine ⟨i + 1, by omega, by go_num, ?_, hB⟩
            rw [HTK.out, ← List.append_assoc, W.bc_append]
            exact HO3.out
          case measure => simp [intOf]; omega
        · obtain rfl : i = 16 := by omega
          have HO3 := Lib.hid hown'
          clear hown'
          go_wp2
          go_roundw
          case rel =>
            refine ⟨k + 1, by omega, by go_num, ?_, hnx'⟩
            have e1 : (k + 1) * 16 = k * 16 + 16 := by omega
            rw [e1]
            exact HO3.out
          case measure => simp [intOf]; omega
    · obtain rfl : k = n := by omega
      go_wp2
      go_ret
      refine ⟨_, rfl, ?_, hnx⟩
      rw [List.length_append, ← HH.out, HF.out]
      rw [← HF.out, List.take_of_length_le (Nat.le_refl _), HF.out] at hown
      exact hown
end Go.Proofs.Ythgpgdpndionjaa
