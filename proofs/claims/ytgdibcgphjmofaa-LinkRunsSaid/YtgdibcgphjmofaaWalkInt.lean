/-
  THE WALK of wire.Int: it returns new bytes, the encoding, and changes nothing that was there.
-/
import Derived.Test.YtgdibcgphjmofaaRows
import Derived.Test.YtgdibcgphjmofaaPlainW
import Derived.WalkKit
import Derived.WalkSpells
import Derived.WalkLawsBesides
import Derived.Deep.LoopGhost
import Derived.Lib.Hide
namespace Go.Proofs.Ytgdibcgphjmofaa
set_option maxHeartbeats 1000000
open Go.RowKit
theorem info_u8 : (Try.prog.info? 5).map (fun i => (i.zero, i.size, i.bytes)) = some (some (.int .u8 0), 1, 1) := by kernel_rfl
/-- What a function that makes a slice of its own returns. -/
def Mk (T size : Nat) (xs : List Value) (n : Nat) (w : World) (e : Ending) (w' : World) : Prop := ∃ v, e = .returned v ∧ w'.ownsRow w.heap.size T size v n xs ∧ Below w.heap.size w w'
theorem wint_neg (n : Int) (w : World) (hn : W.Is64 n) (h0 : n < 0) :
    Calls Try.prog 43 #[.int .i64 n] w (Mk 5 1 (W.bc (W.enc n)) (W.enc n).length w) := by
  obtain ⟨i0, hi, hz0, hz1, hz2⟩ := info_parts info_u8
  have hlo := hn.1
  have hhi := hn.2
  have hng : W.neg n = true := by unfold W.neg; simp; omega
  obtain ⟨M, hM⟩ : ∃ M, M = W.mag n := ⟨_, rfl⟩
  have hM9 : M < 9223372036854775808 := by rw [hM]; exact W.mag_lt hn
  have hx : bits BinOp.xor IntKind.u64 IntKind.u64.max (IntKind.u64.wrap n) = (M : Int) := by rw [hM]; exact W.u64_neg n hn h0
  have HM := Lib.hid hM; clear hM
  have HNG := Lib.hid hng; clear hng
  have HN := Lib.hid hn; clear hn
  go_enter Try.func43, Try.ntmps43
  go_wp2
  go_step3
  go_wp2
  go_step3
  go_wp2
  go_loopg [5] 9 (fun g ks wr => ∃ k : Nat, k < g ∧ k ≤ 8 ∧ ks = .int .i64 k ∧ M < 256 ^ k ∧ w = wr)
  case atStart => exact ⟨8, by omega, by omega, rfl, by omega, rfl⟩
  case round =>
    obtain ⟨k, hkg, hk8, rfl, hMk, rfl⟩ := hrel
    have HMk := Lib.hid hMk; clear hMk
    by_cases hk : 0 < k
    by_cases h1 : 0 < (M : Int) / 2 ^ (8 * (k - 1))
    rotate_left
    · go_wp2
      go_roundg k
      case measure => exact hkg
      case rel =>
        refine ⟨k - 1, by omega, by omega, by go_num, ?_, rfl⟩
        rw [W.div256] at h1
        have hp : 0 < 256 ^ (k - 1) := Nat.pow_pos (by omega)
        have h2 : M / 256 ^ (k - 1) = 0 := Nat.le_zero.1 (Int.ofNat_le.1 h1)
        rcases Nat.div_eq_zero_iff.1 h2 with h3 | h3
        · omega
        · exact h3
    all_goals
      have hw : W.wid (W.mag n) = k := by
        rw [← HM.out]
        refine W.wid_of (by omega) ⟨HMk.out, ?_⟩
        first
        | (rw [W.div256] at h1
           exact .inr (by
             have hp : 0 < 256 ^ (k - 1) := Nat.pow_pos (by omega)
             rcases Nat.lt_or_ge M (256 ^ (k - 1)) with h2 | h2
             · rw [Nat.div_eq_of_lt h2] at h1; omega
             · exact h2))
        | exact .inl (by omega)
      have HW := Lib.hid hw; clear hw
      go_wp2
      have hhd : bits BinOp.xor IntKind.u8 (128 + (k : Int)) 255 = ((W.fx (W.neg n) (UInt8.ofNat (128 + k))).toNat : Int) := by
        have e1 : (128 + (k : Int)) = (((UInt8.ofNat (128 + k)).toNat : Nat) : Int) := by rw [W.ofNat_toNat]; omega
        rw [e1, HNG.out]
        exact W.xor_fl true _
      have HHD := Lib.hid hhd; clear hhd
      go_loopw [6, 7] (fun v i wr => ∃ j : Nat, j ≤ k ∧ i = .int .i64 ((j : Int) - 1) ∧ wr.ownsRow w.heap.size 5 1 v (k - j + 1) (W.bc ((W.enc n).take (k - j + 1))) ∧ Below w.heap.size w wr) (fun _ i _ => (intOf i + 1).toNat)
      case atStart =>
        refine ⟨k, Nat.le_refl _, rfl, ?_, (Below.refl _ _).alloc (Nat.le_refl _) _⟩
        rw [Nat.sub_self, W.enc_head n HW.out]
        refine ⟨rfl, .inr ⟨_, 1, _, rfl, Nat.le_refl _, heap_alloc_new w _, Nat.le_refl _, by decide, rfl, ?_⟩⟩
        have e := HHD.out
        show [Value.int IntKind.u8 (bits BinOp.xor IntKind.u8 (128 + (k : Int)) 255)] = _
        rw [e]
        rfl
      case round =>
        obtain ⟨j, hjk, rfl, hown, hnx⟩ := hrel
        by_cases hj : 0 < j
        · first
          | (exfalso; omega)
          | (
              have hstep := W.enc_step n HW.out hj hjk
              have hxb : bits BinOp.xor IntKind.u8 ((M : Int) / 2 ^ (8 * (j - 1)) % 256) 255 = ((W.fx (W.neg n) (UInt8.ofNat (W.mag n / 256 ^ (j - 1)))).toNat : Int) := by
                rw [← IntKind.wrap_u8', W.div256, W.wrap_u8_nat, HNG.out, ← HM.out]
                exact W.xor_fl true _
              have HS := Lib.hid hstep; clear hstep
              have hnz := hnx.size
              go_wp2_with (at_builtin; refine wpList_append_own _ rfl (.tmp 36) (.tmp 44) _ rfl w.heap.size 5 i0 _ 1 1 Try.underlying33 hi hz0 hz1 hz2 rfl (by decide) _ _ _ rfl (hown.alloc _) ⟨wr.heap.size, 0, none⟩ 1 1 [.int .u8 ((W.fx (W.neg n) (UInt8.ofNat (W.mag n / 256 ^ (j - 1)))).toNat : Int)] rfl rfl (cell_one_new _ _ _) (W.bc_oneCell [_]) (by unfold maxLen; omega) (by omega) (by simp; omega) ?_)
              intro v' w1 hown' hgrow _
              have hB : Below w.heap.size w w1 := (hnx.alloc hnx.size _).grown hgrow (by simp; omega) (fun g hg => (hown.lt g hg).1)
              clear hxb hgrow
              go_wp2
              go_roundw
              case rel =>
                refine ⟨j - 1, by omega, by go_num, ?_, hB⟩
                rw [HS.out, W.bc_append, show k - (j - 1) + 1 = k - j + 1 + 1 from by omega]
                exact hown'
              case measure => simp [intOf]; omega)
        · obtain rfl : j = 0 := by omega
          go_wp2
          rw [Exit.noGoto_ret]
          go_ret
          refine ⟨_, rfl, ?_, hnx⟩
          have h2 := W.enc_all n HW.out
          have h3 := W.enc_length n
          rw [h3, HW.out]
          rw [Nat.sub_zero, h2] at hown
          exact hown
theorem wint_pos (n : Int) (w : World) (hn : W.Is64 n) (h0 : ¬ n < 0) :
    Calls Try.prog 43 #[.int .i64 n] w (Mk 5 1 (W.bc (W.enc n)) (W.enc n).length w) := by
  obtain ⟨i0, hi, hz0, hz1, hz2⟩ := info_parts info_u8
  have hlo := hn.1
  have hhi := hn.2
  have hng : W.neg n = false := by unfold W.neg; simp; omega
  obtain ⟨M, hM⟩ : ∃ M, M = W.mag n := ⟨_, rfl⟩
  have hM9 : M < 9223372036854775808 := by rw [hM]; exact W.mag_lt hn
  have hx : IntKind.u64.wrap n = (M : Int) := by rw [hM]; exact W.u64_pos n hn h0
  have HM := Lib.hid hM; clear hM
  have HNG := Lib.hid hng; clear hng
  have HN := Lib.hid hn; clear hn
  go_enter Try.func43, Try.ntmps43
  go_wp2
  go_step3
  go_wp2
  go_step3
  go_wp2
  go_loopg [5] 9 (fun g ks wr => ∃ k : Nat, k < g ∧ k ≤ 8 ∧ ks = .int .i64 k ∧ M < 256 ^ k ∧ w = wr)
  case atStart => exact ⟨8, by omega, by omega, rfl, by omega, rfl⟩
  case round =>
    obtain ⟨k, hkg, hk8, rfl, hMk, rfl⟩ := hrel
    have HMk := Lib.hid hMk; clear hMk
    by_cases hk : 0 < k
    by_cases h1 : 0 < (M : Int) / 2 ^ (8 * (k - 1))
    rotate_left
    · go_wp2
      go_roundg k
      case measure => exact hkg
      case rel =>
        refine ⟨k - 1, by omega, by omega, by go_num, ?_, rfl⟩
        rw [W.div256] at h1
        have hp : 0 < 256 ^ (k - 1) := Nat.pow_pos (by omega)
        have h2 : M / 256 ^ (k - 1) = 0 := Nat.le_zero.1 (Int.ofNat_le.1 h1)
        rcases Nat.div_eq_zero_iff.1 h2 with h3 | h3
        · omega
        · exact h3
    all_goals
      have hw : W.wid (W.mag n) = k := by
        rw [← HM.out]
        refine W.wid_of (by omega) ⟨HMk.out, ?_⟩
        first
        | (rw [W.div256] at h1
           exact .inr (by
             have hp : 0 < 256 ^ (k - 1) := Nat.pow_pos (by omega)
             rcases Nat.lt_or_ge M (256 ^ (k - 1)) with h2 | h2
             · rw [Nat.div_eq_of_lt h2] at h1; omega
             · exact h2))
        | exact .inl (by omega)
      have HW := Lib.hid hw; clear hw
      go_wp2
      have hhd : bits BinOp.xor IntKind.u8 (128 + (k : Int)) 0 = ((W.fx (W.neg n) (UInt8.ofNat (128 + k))).toNat : Int) := by
        have e1 : (128 + (k : Int)) = (((UInt8.ofNat (128 + k)).toNat : Nat) : Int) := by rw [W.ofNat_toNat]; omega
        rw [e1, HNG.out]
        exact W.xor_fl false _
      have HHD := Lib.hid hhd; clear hhd
      go_loopw [6, 7] (fun v i wr => ∃ j : Nat, j ≤ k ∧ i = .int .i64 ((j : Int) - 1) ∧ wr.ownsRow w.heap.size 5 1 v (k - j + 1) (W.bc ((W.enc n).take (k - j + 1))) ∧ Below w.heap.size w wr) (fun _ i _ => (intOf i + 1).toNat)
      case atStart =>
        refine ⟨k, Nat.le_refl _, rfl, ?_, (Below.refl _ _).alloc (Nat.le_refl _) _⟩
        rw [Nat.sub_self, W.enc_head n HW.out]
        refine ⟨rfl, .inr ⟨_, 1, _, rfl, Nat.le_refl _, heap_alloc_new w _, Nat.le_refl _, by decide, rfl, ?_⟩⟩
        have e := HHD.out
        show [Value.int IntKind.u8 (bits BinOp.xor IntKind.u8 (128 + (k : Int)) 0)] = _
        rw [e]
        rfl
      case round =>
        obtain ⟨j, hjk, rfl, hown, hnx⟩ := hrel
        by_cases hj : 0 < j
        · first
          | (exfalso; omega)
          | (
              have hstep := W.enc_step n HW.out hj hjk
              have hxb : bits BinOp.xor IntKind.u8 ((M : Int) / 2 ^ (8 * (j - 1)) % 256) 0 = ((W.fx (W.neg n) (UInt8.ofNat (W.mag n / 256 ^ (j - 1)))).toNat : Int) := by
                rw [← IntKind.wrap_u8', W.div256, W.wrap_u8_nat, HNG.out, ← HM.out]
                exact W.xor_fl false _
              have HS := Lib.hid hstep; clear hstep
              have hnz := hnx.size
              go_wp2_with (at_builtin; refine wpList_append_own _ rfl (.tmp 36) (.tmp 44) _ rfl w.heap.size 5 i0 _ 1 1 Try.underlying33 hi hz0 hz1 hz2 rfl (by decide) _ _ _ rfl (hown.alloc _) ⟨wr.heap.size, 0, none⟩ 1 1 [.int .u8 ((W.fx (W.neg n) (UInt8.ofNat (W.mag n / 256 ^ (j - 1)))).toNat : Int)] rfl rfl (cell_one_new _ _ _) (W.bc_oneCell [_]) (by unfold maxLen; omega) (by omega) (by simp; omega) ?_)
              intro v' w1 hown' hgrow _
              have hB : Below w.heap.size w w1 := (hnx.alloc hnx.size _).grown hgrow (by simp; omega) (fun g hg => (hown.lt g hg).1)
              clear hxb hgrow
              go_wp2
              go_roundw
              case rel =>
                refine ⟨j - 1, by omega, by go_num, ?_, hB⟩
                rw [HS.out, W.bc_append, show k - (j - 1) + 1 = k - j + 1 + 1 from by omega]
                exact hown'
              case measure => simp [intOf]; omega)
        · obtain rfl : j = 0 := by omega
          go_wp2
          rw [Exit.noGoto_ret]
          go_ret
          refine ⟨_, rfl, ?_, hnx⟩
          have h2 := W.enc_all n HW.out
          have h3 := W.enc_length n
          rw [h3, HW.out]
          rw [Nat.sub_zero, h2] at hown
          exact hown
theorem wint_any (n : Int) (w : World) (hn : W.Is64 n) : Calls Try.prog 43 #[.int .i64 n] w (Mk 5 1 (W.bc (W.enc n)) (W.enc n).length w) := by
  by_cases h0 : n < 0
  · exact wint_neg n w hn h0
  · exact wint_pos n w hn h0
end Go.Proofs.Ytgdibcgphjmofaa
