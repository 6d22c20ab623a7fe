/-
  THE WALK of sanity: it returns true, and turns nothing that was there.
-/
import Derived.Test.YthgpgdpndionjaaWalkSanL
namespace Go.Proofs.Ythgpgdpndionjaa
open Go.RowKit

set_option maxRecDepth 100000 in
set_option maxHeartbeats 1000000 in
theorem sanity_any (w : World) : Calls Try.prog 12 #[] w fun e w' => e = .returned (.bool true) ∧ Below w.heap.size w w' := by
  go_enter Try.func12, Try.ntmps12
  go_wp2_with fail
  refine (san_getint [130, 1, 0, 9] _ 256 3 0 3 rfl (by decide +kernel) rfl 4 _ _ rfl (by omega) rfl).mono ?_
  rintro e w1 ⟨rfl, hb1⟩
  have hz1 := hb1.size
  go_wp2_with fail
  refine (san_getint [130, 1] _ 0 0 3 0 rfl (by decide +kernel) rfl 2 _ _ rfl (by omega) rfl).mono ?_
  rintro e w2 ⟨rfl, hb2⟩
  have hz2 := hb2.size
  go_wp2_with fail
  refine (san_getint [129, 0] _ 0 0 2 0 rfl (by decide +kernel) rfl 2 _ _ rfl (by omega) rfl).mono ?_
  rintro e w3 ⟨rfl, hb3⟩
  have hz3 := hb3.size
  go_wp2_with fail
  refine (san_getbytes [129, 2, 97, 98, 7] _ ⟨#[97, 98]⟩ 4 0 4 rfl (by decide +kernel) rfl 5 _ _ rfl (by omega) rfl).mono ?_
  rintro e w4 ⟨rfl, hb4⟩
  have hz4 := hb4.size
  go_wp2_with fail
  refine (san_getints [129, 2, 129, 1, 127] _ [1, -1] 5 0 5 rfl (by decide +kernel) rfl 5 _ 2 _ rfl (by omega) rfl rfl (by omega)).mono ?_
  rintro e w5 ⟨g5, c5, rfl, H5, hb5⟩
  have hz5 := hb5.size
  go_wp2_with fail
  have hB5 := Bl (Bl (Bl (Bl hb1 hb2) hb3) hb4) hb5
  clear hb1 hb2 hb3 hb4 hb5 hz1 hz2 hz3 hz4 hz5
  refine (san_digests dg _ (129 :: 1 :: dg) 1 _ 18 _ rfl rfl (by simp) (by omega) (by decide +kernel) rfl).mono ?_
  rintro e w6 ⟨g6, c6, rfl, H6, hb6⟩
  have hb65 := below_new _ _ _ hb6
  have hz65 : w5.heap.size + 1 ≤ w6.heap.size := by have := hb6.size; simpa using this
  have hD6 := Lib.hid (range_below (range_new w5 _ 57 (W.bc dg) rfl) (by simp) hb6)
  have H56 := Hc H5 hb65
  have hB6 := Bl hB5 hb65
  clear H5 hB5 hb65 hb6
  go_wp2_with fail
  refine (san_getdigests (129 :: 1 :: dg) dg 18 0 18 g6 18 c6 1 _ w6 H6 (by decide +kernel) rfl rfl (by omega) (by decide) (by omega)).mono ?_
  rintro e w7 ⟨g7, c7, rfl, H7, hb7⟩
  have H57 := Hc H56 hb7
  have hB7 := Bl hB6 hb7
  have hz56 := Nat.lt_of_lt_of_le (Nat.lt_succ_self w5.heap.size) hz65
  have hD7 := Lib.hid (range_below hD6.out hz56 hb7)
  have hz57 := Nat.lt_of_lt_of_le hz56 hb7.size
  clear H56 hB6 hb7 H6 hD6 hz65 hz56
  go_wp2_with fail
  refine (san_getstrings [129, 2, 128, 129, 1, 97, 5] _ [⟨#[]⟩, ⟨#[97]⟩] 6 0 6 rfl (by decide +kernel) rfl 7 _ 2 _ rfl (by omega) rfl rfl (by omega)).mono ?_
  rintro e w8 ⟨g8, c8, rfl, H8, hb8⟩
  have H58 := Hc H57 hb8
  have H78 := Hc H7 hb8
  have hB8 := Bl hB7 hb8
  have hD8 := Lib.hid (range_below hD7.out hz57 hb8)
  have hz58 := Nat.lt_of_lt_of_le hz57 hb8.size
  clear H57 hB7 hb8 H7 hD7 hz57
  go_wp2_with fail
  refine (san_sametexts [⟨#[]⟩, ⟨#[97]⟩] _ g8 2 c8 _ _ w8 H8 rfl rfl (by omega) rfl).mono ?_
  rintro e w9 ⟨rfl, hb9⟩
  have H5_9 := Hc H58 hb9
  have H7_9 := Hc H78 hb9
  have hD_9 := Lib.hid (range_below hD8.out hz58 hb9)
  have hz_9 := Nat.lt_of_lt_of_le hz58 hb9.size
  have hB_9 := Bl hB8 hb9
  clear H58 H78 hD8 hz58 hB8 hb9
  clear H8
  go_wp2_with fail
  refine (san_strings [⟨#[]⟩, ⟨#[97]⟩] _ [129, 2, 128, 129, 1, 97] 2 _ 6 w9 rfl rfl rfl (by decide +kernel) (by omega) (by decide +kernel) rfl (by omega)).mono ?_
  rintro e w10 ⟨g10, c10, rfl, H10, hb10⟩
  have H5_10 := Hc H5_9 hb10
  have H7_10 := Hc H7_9 hb10
  have hD_10 := Lib.hid (range_below hD_9.out hz_9 hb10)
  have hz_10 := Nat.lt_of_lt_of_le hz_9 hb10.size
  have hB_10 := Bl hB_9 hb10
  clear H5_9 H7_9 hD_9 hz_9 hB_9 hb10
  go_wp2_with fail
  refine (san_same [129, 2, 128, 129, 1, 97] _ g10 6 c10 _ _ w10 H10 rfl rfl (by omega) rfl).mono ?_
  rintro e w11 ⟨rfl, hb11⟩
  have H5_11 := Hc H5_10 hb11
  have H7_11 := Hc H7_10 hb11
  have hD_11 := Lib.hid (range_below hD_10.out hz_10 hb11)
  have hz_11 := Nat.lt_of_lt_of_le hz_10 hb11.size
  have hB_11 := Bl hB_10 hb11
  clear H5_10 H7_10 hD_10 hz_10 hB_10 hb11
  clear H10
  go_wp2_with fail
  refine (san_int (-257) [125, 254, 255] 3 w11 (by unfold W.Is64; omega) (by decide +kernel) rfl).mono ?_
  rintro e w12 ⟨g12, c12, rfl, H12, hb12⟩
  have H5_12 := Hc H5_11 hb12
  have H7_12 := Hc H7_11 hb12
  have hD_12 := Lib.hid (range_below hD_11.out hz_11 hb12)
  have hz_12 := Nat.lt_of_lt_of_le hz_11 hb12.size
  have hB_12 := Bl hB_11 hb12
  clear H5_11 H7_11 hD_11 hz_11 hB_11 hb12
  go_wp2_with fail
  refine (san_same [125, 254, 255] _ g12 3 c12 _ _ w12 H12 rfl rfl (by omega) rfl).mono ?_
  rintro e w13 ⟨rfl, hb13⟩
  have H5_13 := Hc H5_12 hb13
  have H7_13 := Hc H7_12 hb13
  have hD_13 := Lib.hid (range_below hD_12.out hz_12 hb13)
  have hz_13 := Nat.lt_of_lt_of_le hz_12 hb13.size
  have hB_13 := Bl hB_12 hb13
  clear H5_12 H7_12 hD_12 hz_12 hB_12 hb13
  clear H12
  go_wp2_with fail
  refine (san_sameints [1, -1] _ g5 2 c5 _ _ w13 H5_13 rfl rfl (by omega) rfl).mono ?_
  rintro e w14 ⟨rfl, hb14⟩
  have H7_14 := Hc H7_13 hb14
  have hD_14 := Lib.hid (range_below hD_13.out hz_13 hb14)
  have hz_14 := Nat.lt_of_lt_of_le hz_13 hb14.size
  have hB_14 := Bl hB_13 hb14
  clear H7_13 hD_13 hz_13 hB_13 hb14
  clear H5_13
  go_wp2_with fail
  refine (san_bytes ⟨#[97, 98]⟩ [129, 2, 97, 98] 4 w14 (by decide) (by decide +kernel) rfl).mono ?_
  rintro e w15 ⟨g15, c15, rfl, H15, hb15⟩
  have H7_15 := Hc H7_14 hb15
  have hD_15 := Lib.hid (range_below hD_14.out hz_14 hb15)
  have hz_15 := Nat.lt_of_lt_of_le hz_14 hb15.size
  have hB_15 := Bl hB_14 hb15
  clear H7_14 hD_14 hz_14 hB_14 hb15
  go_wp2_with fail
  refine (san_same [129, 2, 97, 98] _ g15 4 c15 _ _ w15 H15 rfl rfl (by omega) rfl).mono ?_
  rintro e w16 ⟨rfl, hb16⟩
  have H7_16 := Hc H7_15 hb16
  have hD_16 := Lib.hid (range_below hD_15.out hz_15 hb16)
  have hz_16 := Nat.lt_of_lt_of_le hz_15 hb16.size
  have hB_16 := Bl hB_15 hb16
  clear H7_15 hD_15 hz_15 hB_15 hb16
  clear H15
  go_wp2_with fail
  refine (san_ints [1, -1] _ [129, 2, 129, 1, 127] 2 _ 5 w16 rfl rfl rfl (by unfold W.Is64; simp) (by omega) (by decide +kernel) rfl).mono ?_
  rintro e w17 ⟨g17, c17, rfl, H17, hb17⟩
  have H7_17 := Hc H7_16 hb17
  have hD_17 := Lib.hid (range_below hD_16.out hz_16 hb17)
  have hz_17 := Nat.lt_of_lt_of_le hz_16 hb17.size
  have hB_17 := Bl hB_16 hb17
  clear H7_16 hD_16 hz_16 hB_16 hb17
  go_wp2_with fail
  refine (san_same [129, 2, 129, 1, 127] _ g17 5 c17 _ _ w17 H17 rfl rfl (by omega) rfl).mono ?_
  rintro e w18 ⟨rfl, hb18⟩
  have H7_18 := Hc H7_17 hb18
  have hD_18 := Lib.hid (range_below hD_17.out hz_17 hb18)
  have hz_18 := Nat.lt_of_lt_of_le hz_17 hb18.size
  have hB_18 := Bl hB_17 hb18
  clear H7_17 hD_17 hz_17 hB_17 hb18
  clear H17
  have f0 := hD_18.out 0 _ rfl
  have f1 := hD_18.out 1 _ rfl
  have f2 := hD_18.out 2 _ rfl
  have f3 := hD_18.out 3 _ rfl
  have f4 := hD_18.out 4 _ rfl
  have f5 := hD_18.out 5 _ rfl
  have f6 := hD_18.out 6 _ rfl
  have f7 := hD_18.out 7 _ rfl
  have f8 := hD_18.out 8 _ rfl
  have f9 := hD_18.out 9 _ rfl
  have f10 := hD_18.out 10 _ rfl
  have f11 := hD_18.out 11 _ rfl
  have f12 := hD_18.out 12 _ rfl
  have f13 := hD_18.out 13 _ rfl
  have f14 := hD_18.out 14 _ rfl
  have f15 := hD_18.out 15 _ rfl
  simp only [Nat.zero_add] at f0 f1 f2 f3 f4 f5 f6 f7 f8 f9 f10 f11 f12 f13 f14 f15
  go_wp2_with fail
  refine (san_samedigests dg _ g7 1 c7 _ _ w18 H7_18 rfl rfl (by omega) rfl).mono ?_
  rintro e w19 ⟨rfl, hb19⟩
  have hB_19 := Bl hB_18 hb19
  clear f0 f1 f2 f3 f4 f5 f6 f7 f8 f9 f10 f11 f12 f13 f14 f15 hb19 hB_18
  go_wp2_with fail
  go_ret
  exact ⟨rfl, hB_19⟩
end Go.Proofs.Ythgpgdpndionjaa
