/-
 THE WALK of the reference's Int.
-/
import Derived.Test.YtgdibcgphjmofaaWalkInt
import Derived.Test.YtgdibcgphjmofaaMem
namespace Go.Proofs.Ytgdibcgphjmofaa
set_option maxHeartbeats 1000000
open Go.RowKit
set_option maxRecDepth 100000 in
theorem rint_neg (n : Int) (w : World) (hn : W.Is64 n) (h0 : n < 0) :
  Calls Try.prog 45 #[.int .i64 n] w (Mk 5 1 (W.bc (W.enc n)) (W.enc n).length w) := by
 obtain ⟨i0, hi, hz0, hz1, hz2⟩ := info_parts info_u8
 have hlo := hn.1
 have hhi := hn.2
 have hng : W.neg n = true := by unfold W.neg; simp; omega
 obtain ⟨M, hM⟩ : ∃ M, M = W.mag n := ⟨_, rfl⟩
 have hM9 : M < 9223372036854775808 := by rw [hM]; exact W.mag_lt hn
 have hx : -1 - n = (M : Int) := by rw [hM]; unfold W.mag; split <;> omega
 have HM := Lib.hid hM; clear hM
 have HNG := Lib.hid hng; clear hng
 have HN := Lib.hid hn; clear hn
 go_enter Try.func45, Try.ntmps45
 go_wp2
 go_loopw [3, 4] (fun m v wr => ∃ i q : Nat, m = .int .i64 q ∧ q ≤ M ∧ Hid (q = M / 256 ^ i ∧ (i = 0 ∨ 256 ^ (i - 1) ≤ M)) ∧ i ≤ 8 ∧ wr.ownsRow w.heap.size 5 1 v i (W.bc (W.le i M)) ∧ Below w.heap.size w wr) (fun m _ _ => (intOf m).toNat)
 case atStart => exact ⟨0, M, rfl, Nat.le_refl _, ⟨by simp, .inl rfl⟩, by omega, World.ownsRow_nil _ _ _ _, Below.refl _ _⟩
 case round =>
  obtain ⟨i, q, rfl, hqM, HQ, hi8, hown, hnx⟩ := hrel
  have hzr := hnx.size
  by_cases hq : 0 < q
  ·obtain ⟨y, hy⟩ : ∃ y : UInt8, y = UInt8.ofNat q := ⟨_, rfl⟩
   have hb : (q : Int) % 256 = (y.toNat : Int) := by rw [hy]; exact W.byte_of q
   have HY := Lib.hid hy; clear hy
   have hyb := y.toNat_lt
   have hi7 : i < 8 := by
    have h1 := HQ.out.1
    rcases Nat.lt_or_ge i 8 with h2 | h2
    ·exact h2
    ·have h3 : 256 ^ 8 ≤ 256 ^ i := Nat.pow_le_pow_right (by omega) h2
     rw [Nat.div_eq_of_lt (by omega)] at h1
     omega
   go_wp2_with (at_builtin; refine wpList_append_own _ rfl (.tmp 16) (.tmp 20) _ rfl w.heap.size 5 i0 _ 1 1 Try.underlying33 hi hz0 hz1 hz2 rfl (by decide) _ _ _ rfl (hown.alloc _) ⟨wr.heap.size, 0, none⟩ 1 1 [.int .u8 (y.toNat : Int)] rfl rfl (cell_one_new _ _ _) (W.bc_oneCell [_]) (by unfold maxLen; omega) (by omega) (by simp; omega) ?_)
   intro v' w1 hown' hgrow _
   have hB : Below w.heap.size w w1 := (hnx.alloc hnx.size _).grown hgrow (by simp; omega) (fun g hg => (hown.lt g hg).1)
   clear hb hgrow hown
   go_wp2
   go_roundw
   case rel =>
    refine ⟨i + 1, q / 256, by go_num, by omega, ⟨?_, .inr ?_⟩, by omega, ?_, hB⟩
    ·rw [HQ.out.1, Nat.div_div_eq_div_mul, Nat.pow_succ]
    ·have h1 := HQ.out.1
     rw [Nat.add_sub_cancel]
     rcases Nat.lt_or_ge M (256 ^ i) with h2 | h2
     ·rw [Nat.div_eq_of_lt h2] at h1; omega
     ·exact h2
    ·rw [W.le_succ, W.bc_append, ← HQ.out.1, ← HY.out]
     exact hown'
   case measure => simp [intOf]; omega
  ·obtain rfl : q = 0 := by omega
   have hw : W.wid (W.mag n) = i := by
    rw [← HM.out]
    refine W.wid_of (by omega) ⟨?_, HQ.out.2⟩
    have h1 := HQ.out.1
    have hp : 0 < 256 ^ i := Nat.pow_pos (by omega)
    rcases Nat.lt_or_ge M (256 ^ i) with h2 | h2
    ·exact h2
    ·have := Nat.div_pos h2 hp; omega
   have HW := Lib.hid hw; clear hw
   obtain ⟨A, c, rfl, hic, hcm, hAn, hAl⟩ := own_form hown
   clear hAn
   have hrd := Rd.of_own hown
   have HRD := Lib.hid hrd; clear hrd
   obtain ⟨hd, hhd0⟩ : ∃ hd : UInt8, hd = W.fx (W.neg n) (UInt8.ofNat (128 + i)) := ⟨_, rfl⟩
   have hhd : (127 - (i : Int)) = (hd.toNat : Int) := by
    rw [hhd0, HNG.out, W.fx_toNat, W.ofNat_toNat]
    simp
    omega
   have HHD := Lib.hid hhd0; clear hhd0
   have hhdb := hd.toNat_lt
   have hnilo : wr.ownsRow wr.heap.size 5 1 (.slice none 0 0) 0 [] := World.ownsRow_nil _ _ _ _
   go_wp2_with (at_builtin; refine wpList_append_own _ rfl (.tmp 34) (.tmp 38) _ rfl wr.heap.size 5 i0 _ 1 1 Try.underlying33 hi hz0 hz1 hz2 rfl (by decide) _ _ _ rfl (hnilo.alloc _) ⟨wr.heap.size, 0, none⟩ 1 1 [.int .u8 (hd.toNat : Int)] rfl rfl (cell_one_new _ _ _) (W.bc_oneCell [_]) (by unfold maxLen; omega) (by omega) (by simp) ?_)
   intro v1 w1 hown1 hgrow1 _
   have hB1 : Below wr.heap.size wr w1 := ((Below.refl _ _).alloc (Nat.le_refl _) _).grown hgrow1 (by simp) (fun g hg => by simp [Value.ownBlock] at hg)
   clear hhd hnilo hgrow1 hown
   obtain ⟨wo, rfl⟩ : ∃ wo : World, wo = wr := ⟨_, rfl⟩
   go_wp2
   go_loopw [6, 7, 8] (fun v ix _ wq => ∃ j : Nat, j ≤ i ∧ ix = .int .i64 ((j : Int) - 1) ∧ wq.ownsRow wo.heap.size 5 1 v (i - j + 1) (W.bc ((W.enc n).take (i - j + 1))) ∧ Below wo.heap.size wo wq) (fun _ ix _ _ => (intOf ix + 1).toNat)
   case atStart =>
    refine ⟨i, Nat.le_refl _, rfl, ?_, hB1⟩
    rw [Nat.sub_self, W.enc_head n HW.out, ← HHD.out]
    exact hown1
   case round =>
    obtain ⟨j, hji, rfl, hown2, hnx2⟩ := hrel
    have hzq := hnx2.size
    by_cases hj : 0 < j
    ·obtain ⟨b, o, rfl, hbL, hcell⟩ := HRD.out (by simp; omega)
     have f1 : wr.cell? ⟨b, o + (j - 1), none⟩ = some (.int .u8 ((UInt8.ofNat (M / 256 ^ (j - 1))).toNat : Int)) := by
      have h1 := hcell (j - 1) (.int .u8 ((UInt8.ofNat (M / 256 ^ (j - 1))).toNat : Int)) (by simp [W.bc, W.bcell, W.le_get _ _ _ (show j - 1 < i by omega)])
      exact (hnx2.cell (p := ⟨b, o + (j - 1), none⟩) hbL).trans h1
     clear hcell
     have hstep := W.enc_step n HW.out hj hji
     rw [← HM.out] at hstep
     obtain ⟨y, hy⟩ : ∃ y, y = UInt8.ofNat (M / 256 ^ (j - 1)) := ⟨_, rfl⟩
     rw [← hy] at f1 hstep
     have hyb := y.toNat_lt
     have HS := Lib.hid hstep; clear hstep
     have HY := Lib.hid hy; clear hy
     have hsb := W.sub255_u8 y
     have hfx : ((W.fx true y).toNat : Int) = ((255 - y : UInt8).toNat : Int) := rfl
     rw [← hfx] at hsb
     clear hfx
     go_wp2_with (at_builtin; refine wpList_append_own _ rfl (.tmp 54) (.tmp 56) _ rfl wo.heap.size 5 i0 _ 1 1 Try.underlying33 hi hz0 hz1 hz2 rfl (by decide) _ _ _ rfl (hown2.alloc _) ⟨wr.heap.size, 0, none⟩ 1 1 [.int .u8 ((W.fx true y).toNat : Int)] rfl rfl (cell_one_new _ _ _) (W.bc_oneCell [_]) (by unfold maxLen; omega) (by omega) (by simp; omega) ?_)
     intro v' w2 hown' hgrow _
     have hB : Below wo.heap.size wo w2 := (hnx2.alloc hnx2.size _).grown hgrow (by simp; omega) (fun g hg => (hown2.lt g hg).1)
     clear hgrow hown2
     go_wp2
     go_roundw
     case rel =>
      refine ⟨j - 1, by omega, by go_num, ?_, hB⟩
      rw [HS.out, W.bc_append, show i - (j - 1) + 1 = i - j + 1 + 1 from by omega, HNG.out]
      first | exact hown' | (rw [hx]; exact hown')
     case measure => simp [intOf]; omega
    ·obtain rfl : j = 0 := by omega
     go_wp2
     go_ret
     refine ⟨_, rfl, ?_, hnx.trans (hnx2.mono hzr)⟩
     have h2 := W.enc_all n HW.out
     have h3 := W.enc_length n
     rw [h3, HW.out]
     rw [Nat.sub_zero, h2] at hown2
     exact own_base hown2 hzr
set_option maxRecDepth 100000 in
theorem rint_pos (n : Int) (w : World) (hn : W.Is64 n) (h0 : ¬ n < 0) :
  Calls Try.prog 45 #[.int .i64 n] w (Mk 5 1 (W.bc (W.enc n)) (W.enc n).length w) := by
 obtain ⟨i0, hi, hz0, hz1, hz2⟩ := info_parts info_u8
 have hlo := hn.1
 have hhi := hn.2
 have hng : W.neg n = false := by unfold W.neg; simp; omega
 obtain ⟨M, hM⟩ : ∃ M, M = W.mag n := ⟨_, rfl⟩
 have hM9 : M < 9223372036854775808 := by rw [hM]; exact W.mag_lt hn
 have hx : n = (M : Int) := by rw [hM]; unfold W.mag; split <;> omega
 have HM := Lib.hid hM; clear hM
 have HNG := Lib.hid hng; clear hng
 have HN := Lib.hid hn; clear hn
 go_enter Try.func45, Try.ntmps45
 go_wp2
 go_loopw [3, 4] (fun m v wr => ∃ i q : Nat, m = .int .i64 q ∧ q ≤ M ∧ Hid (q = M / 256 ^ i ∧ (i = 0 ∨ 256 ^ (i - 1) ≤ M)) ∧ i ≤ 8 ∧ wr.ownsRow w.heap.size 5 1 v i (W.bc (W.le i M)) ∧ Below w.heap.size w wr) (fun m _ _ => (intOf m).toNat)
 case atStart => exact ⟨0, M, rfl, Nat.le_refl _, ⟨by simp, .inl rfl⟩, by omega, World.ownsRow_nil _ _ _ _, Below.refl _ _⟩
 case round =>
  obtain ⟨i, q, rfl, hqM, HQ, hi8, hown, hnx⟩ := hrel
  have hzr := hnx.size
  by_cases hq : 0 < q
  ·obtain ⟨y, hy⟩ : ∃ y : UInt8, y = UInt8.ofNat q := ⟨_, rfl⟩
   have hb : (q : Int) % 256 = (y.toNat : Int) := by rw [hy]; exact W.byte_of q
   have HY := Lib.hid hy; clear hy
   have hyb := y.toNat_lt
   have hi7 : i < 8 := by
    have h1 := HQ.out.1
    rcases Nat.lt_or_ge i 8 with h2 | h2
    ·exact h2
    ·have h3 : 256 ^ 8 ≤ 256 ^ i := Nat.pow_le_pow_right (by omega) h2
     rw [Nat.div_eq_of_lt (by omega)] at h1
     omega
   go_wp2_with (at_builtin; refine wpList_append_own _ rfl (.tmp 16) (.tmp 20) _ rfl w.heap.size 5 i0 _ 1 1 Try.underlying33 hi hz0 hz1 hz2 rfl (by decide) _ _ _ rfl (hown.alloc _) ⟨wr.heap.size, 0, none⟩ 1 1 [.int .u8 (y.toNat : Int)] rfl rfl (cell_one_new _ _ _) (W.bc_oneCell [_]) (by unfold maxLen; omega) (by omega) (by simp; omega) ?_)
   intro v' w1 hown' hgrow _
   have hB : Below w.heap.size w w1 := (hnx.alloc hnx.size _).grown hgrow (by simp; omega) (fun g hg => (hown.lt g hg).1)
   clear hb hgrow hown
   go_wp2
   go_roundw
   case rel =>
    refine ⟨i + 1, q / 256, by go_num, by omega, ⟨?_, .inr ?_⟩, by omega, ?_, hB⟩
    ·rw [HQ.out.1, Nat.div_div_eq_div_mul, Nat.pow_succ]
    ·have h1 := HQ.out.1
     rw [Nat.add_sub_cancel]
     rcases Nat.lt_or_ge M (256 ^ i) with h2 | h2
     ·rw [Nat.div_eq_of_lt h2] at h1; omega
     ·exact h2
    ·rw [W.le_succ, W.bc_append, ← HQ.out.1, ← HY.out]
     exact hown'
   case measure => simp [intOf]; omega
  ·obtain rfl : q = 0 := by omega
   have hw : W.wid (W.mag n) = i := by
    rw [← HM.out]
    refine W.wid_of (by omega) ⟨?_, HQ.out.2⟩
    have h1 := HQ.out.1
    have hp : 0 < 256 ^ i := Nat.pow_pos (by omega)
    rcases Nat.lt_or_ge M (256 ^ i) with h2 | h2
    ·exact h2
    ·have := Nat.div_pos h2 hp; omega
   have HW := Lib.hid hw; clear hw
   obtain ⟨A, c, rfl, hic, hcm, hAn, hAl⟩ := own_form hown
   clear hAn
   have hrd := Rd.of_own hown
   have HRD := Lib.hid hrd; clear hrd
   obtain ⟨hd, hhd0⟩ : ∃ hd : UInt8, hd = W.fx (W.neg n) (UInt8.ofNat (128 + i)) := ⟨_, rfl⟩
   have hhd : (128 + (i : Int)) = (hd.toNat : Int) := by
    rw [hhd0, HNG.out, W.fx_toNat, W.ofNat_toNat]
    simp
    omega
   have HHD := Lib.hid hhd0; clear hhd0
   have hhdb := hd.toNat_lt
   have hnilo : wr.ownsRow wr.heap.size 5 1 (.slice none 0 0) 0 [] := World.ownsRow_nil _ _ _ _
   go_wp2_with (at_builtin; refine wpList_append_own _ rfl (.tmp 28) (.tmp 32) _ rfl wr.heap.size 5 i0 _ 1 1 Try.underlying33 hi hz0 hz1 hz2 rfl (by decide) _ _ _ rfl (hnilo.alloc _) ⟨wr.heap.size, 0, none⟩ 1 1 [.int .u8 (hd.toNat : Int)] rfl rfl (cell_one_new _ _ _) (W.bc_oneCell [_]) (by unfold maxLen; omega) (by omega) (by simp) ?_)
   intro v1 w1 hown1 hgrow1 _
   have hB1 : Below wr.heap.size wr w1 := ((Below.refl _ _).alloc (Nat.le_refl _) _).grown hgrow1 (by simp) (fun g hg => by simp [Value.ownBlock] at hg)
   clear hhd hnilo hgrow1 hown
   obtain ⟨wo, rfl⟩ : ∃ wo : World, wo = wr := ⟨_, rfl⟩
   go_wp2
   go_loopw [6, 7, 8] (fun v ix _ wq => ∃ j : Nat, j ≤ i ∧ ix = .int .i64 ((j : Int) - 1) ∧ wq.ownsRow wo.heap.size 5 1 v (i - j + 1) (W.bc ((W.enc n).take (i - j + 1))) ∧ Below wo.heap.size wo wq) (fun _ ix _ _ => (intOf ix + 1).toNat)
   case atStart =>
    refine ⟨i, Nat.le_refl _, rfl, ?_, hB1⟩
    rw [Nat.sub_self, W.enc_head n HW.out, ← HHD.out]
    exact hown1
   case round =>
    obtain ⟨j, hji, rfl, hown2, hnx2⟩ := hrel
    have hzq := hnx2.size
    by_cases hj : 0 < j
    ·obtain ⟨b, o, rfl, hbL, hcell⟩ := HRD.out (by simp; omega)
     have f1 : wr.cell? ⟨b, o + (j - 1), none⟩ = some (.int .u8 ((UInt8.ofNat (M / 256 ^ (j - 1))).toNat : Int)) := by
      have h1 := hcell (j - 1) (.int .u8 ((UInt8.ofNat (M / 256 ^ (j - 1))).toNat : Int)) (by simp [W.bc, W.bcell, W.le_get _ _ _ (show j - 1 < i by omega)])
      exact (hnx2.cell (p := ⟨b, o + (j - 1), none⟩) hbL).trans h1
     clear hcell
     have hstep := W.enc_step n HW.out hj hji
     rw [← HM.out] at hstep
     obtain ⟨y, hy⟩ : ∃ y, y = UInt8.ofNat (M / 256 ^ (j - 1)) := ⟨_, rfl⟩
     rw [← hy] at f1 hstep
     have hyb := y.toNat_lt
     have HS := Lib.hid hstep; clear hstep
     have HY := Lib.hid hy; clear hy
     have hfx : ((W.fx false y).toNat : Int) = (y.toNat : Int) := rfl
     go_wp2_with (at_builtin; refine wpList_append_own _ rfl (.tmp 54) (.tmp 56) _ rfl wo.heap.size 5 i0 _ 1 1 Try.underlying33 hi hz0 hz1 hz2 rfl (by decide) _ _ _ rfl (hown2.alloc _) ⟨wr.heap.size, 0, none⟩ 1 1 [.int .u8 ((W.fx false y).toNat : Int)] rfl rfl (cell_one_new _ _ _) (W.bc_oneCell [_]) (by unfold maxLen; omega) (by omega) (by simp; omega) ?_)
     intro v' w2 hown' hgrow _
     have hB : Below wo.heap.size wo w2 := (hnx2.alloc hnx2.size _).grown hgrow (by simp; omega) (fun g hg => (hown2.lt g hg).1)
     clear hgrow hown2
     go_wp2
     go_roundw
     case rel =>
      refine ⟨j - 1, by omega, by go_num, ?_, hB⟩
      rw [HS.out, W.bc_append, show i - (j - 1) + 1 = i - j + 1 + 1 from by omega, HNG.out]
      first | exact hown' | (rw [hx]; exact hown')
     case measure => simp [intOf]; omega
    ·obtain rfl : j = 0 := by omega
     go_wp2
     go_ret
     refine ⟨_, rfl, ?_, hnx.trans (hnx2.mono hzr)⟩
     have h2 := W.enc_all n HW.out
     have h3 := W.enc_length n
     rw [h3, HW.out]
     rw [Nat.sub_zero, h2] at hown2
     exact own_base hown2 hzr
theorem rint_any (n : Int) (w : World) (hn : W.Is64 n) : Calls Try.prog 45 #[.int .i64 n] w (Mk 5 1 (W.bc (W.enc n)) (W.enc n).length w) := by
 by_cases h0 : n < 0
 ·exact rint_neg n w hn h0
 ·exact rint_pos n w hn h0
end Go.Proofs.Ytgdibcgphjmofaa
