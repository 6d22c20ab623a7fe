/-
  THE WALK of the law WireEncodeMatchesSpec.
-/
import Derived.Test.YthgpgdpndionjaaLawIRT
import Derived.Test.YthgpgdpndionjaaLawDec
import Derived.Test.YthgpgdpndionjaaWalkFew
import Derived.Test.YthgpgdpndionjaaWalkAppD
import Derived.Test.YthgpgdpndionjaaWalkRDig
import Derived.Test.YthgpgdpndionjaaWalkREnc
namespace Go.Proofs.Ythgpgdpndionjaa
open Go.RowKit

theorem tot_mem2 : ∀ (l : List ByteArray) (x : ByteArray), x ∈ l → x.size ≤ tot l
  | y :: r, x, h => by
    have h0 : tot (y :: r) = y.size + tot r := by unfold tot; simp
    rcases List.mem_cons.1 h with rfl | h
    · omega
    · have := tot_mem2 r x h
      omega
theorem encS_len2 : ∀ l : List ByteArray, (l.flatMap fun s => W.encB s.data.toList).length ≤ 9 * l.length + tot l
  | [] => by simp
  | x :: r => by
    have h1 := encS_len2 r
    have h2 := (W.enc_le x.data.toList.length).2
    have e1 : x.data.toList.length = x.size := rfl
    unfold tot at *
    simp only [List.flatMap_cons, List.length_append, List.length_cons, List.map_cons, List.sum_cons, W.encB_length]
    rw [e1] at h2 ⊢
    omega
/-- Encodings that are one list of bytes are the same. -/
theorem same_own {w : World} {b1 b2 : Nat} {v1 v2 : Value} {E : List UInt8} (h1 : w.ownsRow b1 5 1 v1 E.length (W.bc E)) (h2 : w.ownsRow b2 5 1 v2 E.length (W.bc E)) (hl : E.length ≤ maxLen) :
    Calls Try.prog 13 #[v1, v2] w fun e w' => e = .returned (.bool true) ∧ Below w.heap.size w w' := by
  obtain ⟨A1, c1, rfl, _⟩ := own_form h1
  obtain ⟨A2, c2, rfl, _⟩ := own_form h2
  have h := same_any E E A1 A2 _ _ c1 c2 _ _ w (Rd.of_own h1) (Rd.of_own h2) rfl rfl hl
  rw [decide_eq_true rfl] at h
  exact q_below h

set_option maxRecDepth 100000 in
set_option maxHeartbeats 4000000 in
theorem law_enc (n : Int) (s : ByteArray) (A2 : Option Addr) (len2 cap2 : Nat) (z2 : List Int) (A3 : Option Addr) (len3 cap3 : Nat) (z3 : List ByteArray) (A4 : Option Addr) (len4 cap4 : Nat) (z4 : List UInt8) (w : World)
    (hn : W.Is64 n) (hs : s.size ≤ 1048576) (h2 : IsI w A2 len2 cap2 z2) (r2 : cap2 ≤ 1048576) (h3 : IsS w A3 len3 cap3 z3) (r3 : cap3 ≤ 1048576 ∧ tot z3 ≤ 1048576) (h4 : IsD w A4 len4 cap4 z4) (r4 : cap4 ≤ 1048576) :
    Calls Try.prog 3 #[.int .i64 n, .string s, .slice A2 len2 cap2, .slice A3 len3 cap3, .slice A4 len4 cap4] w fun e w' => e = .returned (.bool true) ∧ Below w.heap.size w w' := by
  obtain ⟨d2, rfl, c2, m2, q2⟩ := h2
  obtain ⟨d3, rfl, c3, m3, _⟩ := h3
  obtain ⟨d4, l4, c4, m4⟩ := h4
  have D2 := Lib.hid d2; have D3 := Lib.hid d3; have D4 := Lib.hid d4; have Q2 := Lib.hid q2; have L4 := Lib.hid l4
  clear d2 d3 d4 q2 l4
  unfold maxLen at m2 m3 m4
  by_cases P1 : 2000 < (s.size : Int) + (z2.length : Int) + (len4 : Int)
  · go_enter Try.func3, Try.ntmps3
    go_wp2_with fail
    refine (sanity_step w _ (Below.refl _ _)).mono ?_
    rintro e w1 ⟨rfl, hb1⟩
    go_wp2_with fail
    go_ret
    exact ⟨rfl, hb1⟩
  have hf := few_any z3 A3 z3.length cap3 _ w D3.out rfl (by omega)
  by_cases P3 : z3.length + tot z3 ≤ 2000
  rotate_left
  · rw [decide_eq_false P3] at hf
    have HF := Lib.hid hf; clear hf P3
    go_enter Try.func3, Try.ntmps3
    go_wp2_with fail
    with_reducible refine HF.out.mono ?_
    rintro e w0 ⟨rfl, rfl⟩
    go_wp2_with fail
    refine (sanity_step w _ (Below.refl _ _)).mono ?_
    rintro e w1 ⟨rfl, hb1⟩
    go_wp2_with fail
    go_ret
    exact ⟨rfl, hb1⟩
  rw [decide_eq_true P3] at hf
  have HF := Lib.hid hf; clear hf
  have hv3 : ∀ x ∈ z3, W.Is64 (x.data.toList.length : Int) := fun x hx => by
    have h1 := tot_mem2 z3 x hx
    have e1 : x.data.toList.length = x.size := rfl
    unfold W.Is64
    omega
  have HV3 := Lib.hid hv3; clear hv3
  have b1 : (W.encB s.data.toList).length ≤ 3000 := by
    rw [W.encB_length]
    have := (W.enc_le s.data.toList.length).2
    have e1 : s.data.toList.length = s.size := rfl
    omega
  have b2 : (W.encI z2).length ≤ 30000 := by
    have h1 := W.encI_le z2
    omega
  have b3 : (W.encS z3).length ≤ 30000 := by
    unfold W.encS
    rw [List.length_append]
    have h1 := W.enc_le z3.length
    have h2 := encS_len2 z3
    omega
  have b4 : (W.enc len4 ++ z4).length ≤ 40000 := by
    rw [List.length_append, L4.out]
    have h1 := W.enc_le len4
    omega
  have t0 := fun W0 : World => wint_any n W0 hn
  have t1 := fun W0 : World => wbytes_any s W0 (by omega)
  have t2 := fun (W0 : World) (h : Below w.heap.size w W0) => wints_any z2 A2 z2.length cap2 w.heap.size W0 (D2.out.below h (Nat.le_refl _)) h.size rfl Q2.out (by omega) (by omega)
  have t3 := fun (W0 : World) (h : Below w.heap.size w W0) => wstrings_any z3 A3 z3.length cap3 w.heap.size W0 (D3.out.below h (Nat.le_refl _)) h.size rfl (fun x hx => by have := tot_mem2 z3 x hx; omega) (by omega) (by omega)
  have t4 := fun (W0 : World) (h : Below w.heap.size w W0) => wdigests_any z4 A4 len4 cap4 w.heap.size W0 (D4.out.below h (Nat.le_refl _)) h.size L4.out (by omega)
  have u0 := fun W0 : World => rint_any n W0 hn
  have u1 := fun W0 : World => rbytes_any s W0 (by omega)
  have u2 := fun (W0 : World) (h : Below w.heap.size w W0) => rints_any z2 A2 z2.length cap2 w.heap.size W0 (D2.out.below h (Nat.le_refl _)) h.size rfl Q2.out (by omega) (by omega)
  have u3 := fun (W0 : World) (h : Below w.heap.size w W0) => rstrings_any z3 A3 z3.length cap3 w.heap.size W0 (D3.out.below h (Nat.le_refl _)) h.size rfl (fun x hx => by have := tot_mem2 z3 x hx; omega) (by omega) (by omega)
  have u4 := fun (W0 : World) (h : Below w.heap.size w W0) => rdigests_any z4 A4 len4 cap4 w.heap.size W0 (D4.out.below h (Nat.le_refl _)) h.size L4.out (by omega)
  obtain ⟨E0, hE0⟩ : ∃ E, E = W.enc n := ⟨_, rfl⟩
  rw [← hE0] at t0 u0
  have b0 : E0.length ≤ 9 := by rw [hE0]; exact (W.enc_le n).2
  have T0 := Lib.hid t0; have U0 := Lib.hid u0; clear hE0 t0 u0
  obtain ⟨E1, hE1⟩ : ∃ E, E = W.encB s.data.toList := ⟨_, rfl⟩
  rw [← hE1] at t1 u1 b1
  have T1 := Lib.hid t1; have U1 := Lib.hid u1; clear hE1 t1 u1
  obtain ⟨E2, hE2⟩ : ∃ E, E = W.encI z2 := ⟨_, rfl⟩
  rw [← hE2] at t2 u2 b2
  have T2 := Lib.hid t2; have U2 := Lib.hid u2; clear hE2 t2 u2
  obtain ⟨E3, hE3⟩ : ∃ E, E = W.encS z3 := ⟨_, rfl⟩
  rw [← hE3] at t3 u3 b3
  have T3 := Lib.hid t3; have U3 := Lib.hid u3; clear hE3 t3 u3
  obtain ⟨E4, hE4⟩ : ∃ E, E = W.enc len4 ++ z4 := ⟨_, rfl⟩
  rw [← hE4] at t4 u4 b4
  have T4 := Lib.hid t4; have U4 := Lib.hid u4; clear hE4 t4 u4
  go_enter Try.func3, Try.ntmps3
  go_wp2_with fail
  with_reducible refine HF.out.mono ?_
  rintro e w0 ⟨rfl, rfl⟩
  go_wp2_with fail
  with_reducible refine (sanity_step w _ (Below.refl _ _)).mono ?_
  rintro e w1 ⟨rfl, hb1⟩
  have HB1 := Lib.hid hb1; clear hb1
  go_wp2_with fail
  with_reducible refine (T0.out w1).mono ?_
  rintro e w2 ⟨v2, rfl, hown, hb⟩
  have HB2 := Lib.hid (Bl HB1.out hb); have HO := Lib.hid hown; clear hb hown
  go_wp2_with fail
  with_reducible refine (U0.out w2).mono ?_
  rintro e w3 ⟨v3, rfl, hown, hb⟩
  have hsame := same_own (own_below HO.out hb) hown (by unfold maxLen; omega)
  have HS := Lib.hid hsame
  have HB3 := Lib.hid (Bl HB2.out hb); clear hb hown hsame HO
  go_wp2_with fail
  with_reducible refine HS.out.mono ?_
  rintro e w4 ⟨rfl, hb⟩
  have HB4 := Lib.hid (Bl HB3.out hb); clear hb HS
  go_wp2_with fail
  with_reducible refine (T1.out w4).mono ?_
  rintro e w5 ⟨v5, rfl, hown, hb⟩
  have HB5 := Lib.hid (Bl HB4.out hb); have HO := Lib.hid hown; clear hb hown
  go_wp2_with fail
  with_reducible refine (U1.out w5).mono ?_
  rintro e w6 ⟨v6, rfl, hown, hb⟩
  have hsame := same_own (own_below HO.out hb) hown (by unfold maxLen; omega)
  have HS := Lib.hid hsame
  have HB6 := Lib.hid (Bl HB5.out hb); clear hb hown hsame HO
  go_wp2_with fail
  with_reducible refine HS.out.mono ?_
  rintro e w7 ⟨rfl, hb⟩
  have HB7 := Lib.hid (Bl HB6.out hb); clear hb HS
  go_wp2_with fail
  with_reducible refine (T2.out w7 HB7.out).mono ?_
  rintro e w8 ⟨v8, rfl, hown, hb⟩
  have HB8 := Lib.hid (Bl HB7.out hb); have HO := Lib.hid hown; clear hb hown
  go_wp2_with fail
  with_reducible refine (U2.out w8 HB8.out).mono ?_
  rintro e w9 ⟨v9, rfl, hown, hb⟩
  have hsame := same_own (own_below HO.out hb) hown (by unfold maxLen; omega)
  have HS := Lib.hid hsame
  have HB9 := Lib.hid (Bl HB8.out hb); clear hb hown hsame HO
  go_wp2_with fail
  with_reducible refine HS.out.mono ?_
  rintro e w10 ⟨rfl, hb⟩
  have HB10 := Lib.hid (Bl HB9.out hb); clear hb HS
  go_wp2_with fail
  with_reducible refine (T3.out w10 HB10.out).mono ?_
  rintro e w11 ⟨v11, rfl, hown, hb⟩
  have HB11 := Lib.hid (Bl HB10.out hb); have HO := Lib.hid hown; clear hb hown
  go_wp2_with fail
  with_reducible refine (U3.out w11 HB11.out).mono ?_
  rintro e w12 ⟨v12, rfl, hown, hb⟩
  have hsame := same_own (own_below HO.out hb) hown (by unfold maxLen; omega)
  have HS := Lib.hid hsame
  have HB12 := Lib.hid (Bl HB11.out hb); clear hb hown hsame HO
  go_wp2_with fail
  with_reducible refine HS.out.mono ?_
  rintro e w13 ⟨rfl, hb⟩
  have HB13 := Lib.hid (Bl HB12.out hb); clear hb HS
  go_wp2_with fail
  with_reducible refine (T4.out w13 HB13.out).mono ?_
  rintro e w14 ⟨v14, rfl, hown, hb⟩
  have HB14 := Lib.hid (Bl HB13.out hb); have HO := Lib.hid hown; clear hb hown
  go_wp2_with fail
  with_reducible refine (U4.out w14 HB14.out).mono ?_
  rintro e w15 ⟨v15, rfl, hown, hb⟩
  have hsame := same_own (own_below HO.out hb) hown (by unfold maxLen; omega)
  have HS := Lib.hid hsame
  have HB15 := Lib.hid (Bl HB14.out hb); clear hb hown hsame HO
  go_wp2_with fail
  with_reducible refine HS.out.mono ?_
  rintro e w16 ⟨rfl, hb⟩
  have HB16 := Lib.hid (Bl HB15.out hb); clear hb HS
  go_wp2_with fail
  go_ret
  exact ⟨rfl, HB16.out⟩
end Go.Proofs.Ythgpgdpndionjaa
