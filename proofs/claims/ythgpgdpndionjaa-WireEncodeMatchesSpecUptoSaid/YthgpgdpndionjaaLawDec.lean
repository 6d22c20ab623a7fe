/-
  THE WALK of the law WireDecodeMatchesSpec.
-/
import Derived.Test.YthgpgdpndionjaaLawCan
import Derived.Test.YthgpgdpndionjaaWalkRDecD
import Derived.Test.YthgpgdpndionjaaWalkSameD
namespace Go.Proofs.Ythgpgdpndionjaa
open Go.RowKit

theorem q_below {f : FuncId} {args : Array Value} {v : Value} {w : World} (h : Calls Try.prog f args w (Quiet v w)) : Calls Try.prog f args w fun e w' => e = .returned v ∧ Below w.heap.size w w' :=
  h.mono fun e w' h1 => by
    obtain ⟨rfl, nq, rfl⟩ := h1
    have hb := Below.refl w.heap.size w
    exact ⟨rfl, ⟨hb.os, hb.tape, hb.output, hb.size, hb.block⟩⟩

set_option maxRecDepth 100000 in
set_option maxHeartbeats 2000000 in
theorem law_dec (A : Option Addr) (len cap : Nat) (l : List UInt8) (w : World) (hb : IsB w A len cap l) :
    Calls Try.prog 4 #[.slice A len cap] w fun e w' => e = .returned (.bool true) ∧ Below w.heap.size w w' := by
  obtain ⟨hr, rfl, hc, hm⟩ := hb
  have HR := Lib.hid hr; clear hr
  have hm2 := hm
  unfold maxLen at hm
  by_cases hbig : 2000 < l.length
  · go_enter Try.func4, Try.ntmps4
    go_wp2_with fail
    refine (sanity_step w _ (Below.refl _ _)).mono ?_
    rintro e w1 ⟨rfl, hb1⟩
    go_wp2_with fail
    go_ret
    exact ⟨rfl, hb1⟩
  · have hl : l.length ≤ 2000 := by omega
    have hrd : ∀ wk, Below w.heap.size w wk → Rd wk w.heap.size A (W.bc l) := fun wk h => HR.out.below h (Nat.le_refl _)
    have HRD := Lib.hid hrd; clear hrd
    obtain ⟨n1, u1, e1, hd1⟩ : ∃ n u e, W.dec l = (n, u, e) := ⟨_, _, _, rfl⟩
    obtain ⟨n2, u2, e2, hd2⟩ : ∃ n u e, W.decT l = (n, u, e) := ⟨_, _, _, rfl⟩
    obtain ⟨n3, u3, e3, hd3⟩ : ∃ n u e, W.decI l = (n, u, e) := ⟨_, _, _, rfl⟩
    obtain ⟨n4, u4, e4, hd4⟩ : ∃ n u e, W.decS l = (n, u, e) := ⟨_, _, _, rfl⟩
    obtain ⟨n5, u5, e5, hd5⟩ : ∃ n u e, W.decD l = (n, u, e) := ⟨_, _, _, rfl⟩
    have k3 := W.can_list W.codec_int l hl
    have k4 := W.can_list W.codec_str l hl
    have k5 := W.can_dig l hl
    rw [show W.decL W.dec l = (n3, u3, e3) from hd3] at k3
    rw [show W.decL W.decT l = (n4, u4, e4) from hd4] at k4
    rw [hd5] at k5
    have K3 := Lib.hid k3; have K4 := Lib.hid k4; have K5 := Lib.hid k5
    have HD1 := Lib.hid hd1; have HD2 := Lib.hid hd2; have HD3 := Lib.hid hd3; have HD4 := Lib.hid hd4; have HD5 := Lib.hid hd5
    clear k3 k4 k5 hd1 hd2 hd3 hd4 hd5
    have HB0 := Lib.hid (show Below w.heap.size w w from Below.refl _ _)
    go_enter Try.func4, Try.ntmps4
    go_wp2_with fail
    with_reducible refine (getint_any l A l.length cap _ w (HRD.out _ HB0.out) rfl hc hm2).mono ?_
    rintro e w0 ⟨rfl, rfl⟩
    rw [HD1.out]
    go_wp2_with fail
    with_reducible refine (rgetint_b l A l.length cap _ w (HRD.out _ HB0.out) HB0.out.size rfl hc hm2 (by omega) _ _ _ HD1.out).mono ?_
    rintro e w1 ⟨rfl, hb1⟩
    have HB1 := Lib.hid (Bl HB0.out hb1)
    clear hb1
    go_wp2_with fail
    with_reducible refine (wgetbytes_b l A l.length cap _ w1 (HRD.out _ HB1.out) rfl hc hm2 _ _ _ HD2.out).mono ?_
    rintro e w2 ⟨rfl, hb2⟩
    have HB2 := Lib.hid (Bl HB1.out hb2)
    clear hb2
    go_wp2_with fail
    with_reducible refine (rgetbytes_b l A l.length cap _ w2 (HRD.out _ HB2.out) HB2.out.size rfl hc hm2 (by omega) _ _ _ HD2.out).mono ?_
    rintro e w3 ⟨rfl, hb3⟩
    have HB3 := Lib.hid (Bl HB2.out hb3)
    clear hb3
    go_wp2_with fail
    with_reducible refine (wgetints_any l A l.length cap _ w3 (HRD.out _ HB3.out) HB3.out.size rfl hc hm2 (by omega)).mono ?_
    rw [HD3.out]
    rintro e w4 ⟨v4, rfl, hown4, hb4⟩
    have HB4 := Lib.hid (Bl HB3.out hb4)
    obtain ⟨A4, c4, rfl, h41, h42, _, _⟩ := own_form hown4
    have HO4 := Lib.hid hown4
    clear hb4 hown4
    go_wp2_with fail
    with_reducible refine (rgetints_any l A l.length cap _ w4 (HRD.out _ HB4.out) HB4.out.size rfl hc hm2 (by omega)).mono ?_
    rw [HD3.out]
    rintro e w5 ⟨v5, rfl, hown5, hb5⟩
    have HB5 := Lib.hid (Bl HB4.out hb5)
    obtain ⟨A5, c5, rfl, h51, h52, _, _⟩ := own_form hown5
    have HO5 := Lib.hid hown5
    replace HO4 := Lib.hid (own_below HO4.out hb5)
    clear hb5 hown5
    go_wp2_with fail
    have hs := q_below (sameints_any n3 n3 A4 A5 n3.length n3.length c4 c5 _ _ w5 (Rd.of_own HO4.out) (Rd.of_own HO5.out) rfl rfl (by have := K3.out.2.2.1; unfold maxLen; omega))
    rw [decide_eq_true rfl] at hs
    have HS := Lib.hid hs; clear hs
    with_reducible refine HS.out.mono ?_
    rintro e w6 ⟨rfl, hb6⟩
    have HB6 := Lib.hid (Bl HB5.out hb6)
    clear hb6 HS HO4 HO5
    go_wp2_with fail
    with_reducible refine (wgetstrings_any l A l.length cap _ w6 (HRD.out _ HB6.out) HB6.out.size rfl hc hm2 (by omega)).mono ?_
    rw [HD4.out]
    rintro e w7 ⟨v7, rfl, hown7, hb7⟩
    have HB7 := Lib.hid (Bl HB6.out hb7)
    obtain ⟨A7, c7, rfl, h71, h72, _, _⟩ := own_form hown7
    have HO7 := Lib.hid hown7
    clear hb7 hown7
    go_wp2_with fail
    with_reducible refine (rgetstrings_any l A l.length cap _ w7 (HRD.out _ HB7.out) HB7.out.size rfl hc hm2 (by omega)).mono ?_
    rw [HD4.out]
    rintro e w8 ⟨v8, rfl, hown8, hb8⟩
    have HB8 := Lib.hid (Bl HB7.out hb8)
    obtain ⟨A8, c8, rfl, h81, h82, _, _⟩ := own_form hown8
    have HO8 := Lib.hid hown8
    replace HO7 := Lib.hid (own_below HO7.out hb8)
    clear hb8 hown8
    go_wp2_with fail
    have hs := q_below (sametexts_any n4 n4 A7 A8 n4.length n4.length c7 c8 _ _ w8 (Rd.of_own HO7.out) (Rd.of_own HO8.out) rfl rfl (by have := K4.out.2.2.1; unfold maxLen; omega))
    rw [decide_eq_true rfl] at hs
    have HS := Lib.hid hs; clear hs
    with_reducible refine HS.out.mono ?_
    rintro e w9 ⟨rfl, hb9⟩
    have HB9 := Lib.hid (Bl HB8.out hb9)
    clear hb9 HS HO7 HO8
    go_wp2_with fail
    with_reducible refine (wgetdigests_any l A l.length cap _ w9 (HRD.out _ HB9.out) HB9.out.size rfl hc hm2 (by omega)).mono ?_
    rw [HD5.out]
    rintro e w10 ⟨v10, rfl, hown10, hb10⟩
    have HB10 := Lib.hid (Bl HB9.out hb10)
    obtain ⟨A10, c10, rfl, h101, h102, _, _⟩ := own_form hown10
    have HO10 := Lib.hid hown10
    clear hb10 hown10
    go_wp2_with fail
    with_reducible refine (rgetdigests_any l A l.length cap _ w10 (HRD.out _ HB10.out) HB10.out.size rfl hc hm2 (by omega)).mono ?_
    rw [HD5.out]
    rintro e w11 ⟨v11, rfl, hown11, hb11⟩
    have HB11 := Lib.hid (Bl HB10.out hb11)
    obtain ⟨A11, c11, rfl, h111, h112, _, _⟩ := own_form hown11
    have HO11 := Lib.hid hown11
    replace HO10 := Lib.hid (own_below HO10.out hb11)
    clear hb11 hown11
    go_wp2_with fail
    with_reducible refine (sanity_any w11).mono ?_
    rintro e w12 ⟨rfl, hb12⟩
    have HB12 := Lib.hid (Bl HB11.out hb12)
    replace HO10 := Lib.hid (own_below HO10.out hb12)
    replace HO11 := Lib.hid (own_below HO11.out hb12)
    clear hb12
    go_wp2_with fail
    have hs := q_below (samedigests_true n5 A10 A11 (n5.length / 16) c10 c11 _ _ w12 (Rd.of_own HO10.out) (Rd.of_own HO11.out) K5.out.1 (by have := K5.out.2.1; omega))
    have HS := Lib.hid hs; clear hs
    with_reducible refine HS.out.mono ?_
    rintro e w13 ⟨rfl, hb13⟩
    have HB13 := Lib.hid (Bl HB12.out hb13)
    clear hb13 HS HO10 HO11
    go_wp2_with fail
    go_ret
    exact ⟨rfl, HB13.out⟩
end Go.Proofs.Ythgpgdpndionjaa
