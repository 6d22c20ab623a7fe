/-
  THE WALK of the law WireListRoundTrip.
-/
import Derived.Test.YthgpgdpndionjaaLawEnc
import Derived.Test.YthgpgdpndionjaaWalkDecD
import Derived.Test.YthgpgdpndionjaaLawCon
namespace Go.Proofs.Ythgpgdpndionjaa
open Go.RowKit

theorem texts_own {w : World} {b L c2 : Nat} {v : Value} {A2 : Option Addr} {l : List ByteArray} (h : w.ownsRow b 9 1 v l.length (sc l)) (h2 : Rd w L A2 (sc l)) (hl : l.length ≤ maxLen) :
    Calls Try.prog 33 #[v, .slice A2 l.length c2] w fun e w' => e = .returned (.bool true) ∧ Below w.heap.size w w' := by
  obtain ⟨A1, c1, rfl, _⟩ := own_form h
  have h := sametexts_any l l A1 A2 _ _ c1 c2 _ _ w (Rd.of_own h) h2 rfl rfl hl
  rw [decide_eq_true rfl] at h
  exact q_below h
theorem ints_own {w : World} {b L c2 : Nat} {v : Value} {A2 : Option Addr} {l : List Int} (h : w.ownsRow b 3 1 v l.length (ic l)) (h2 : Rd w L A2 (ic l)) (hl : l.length ≤ maxLen) :
    Calls Try.prog 30 #[v, .slice A2 l.length c2] w fun e w' => e = .returned (.bool true) ∧ Below w.heap.size w w' := by
  obtain ⟨A1, c1, rfl, _⟩ := own_form h
  have h := sameints_any l l A1 A2 _ _ c1 c2 _ _ w (Rd.of_own h) h2 rfl rfl hl
  rw [decide_eq_true rfl] at h
  exact q_below h
theorem digs_own {w : World} {b L n c2 : Nat} {v : Value} {A2 : Option Addr} {l : List UInt8} (h : w.ownsRow b 57 16 v n (W.bc l)) (h2 : Rd w L A2 (W.bc l)) (hl : l.length = n * 16) (hn : n ≤ 4398046511104) :
    Calls Try.prog 36 #[v, .slice A2 n c2] w fun e w' => e = .returned (.bool true) ∧ Below w.heap.size w w' := by
  obtain ⟨A1, c1, rfl, _⟩ := own_form h
  exact q_below (samedigests_true l A1 A2 n c1 c2 _ _ w (Rd.of_own h) h2 hl hn)

set_option maxRecDepth 100000 in
set_option maxHeartbeats 4000000 in
theorem law_lst (s : ByteArray) (A2 : Option Addr) (len2 cap2 : Nat) (z2 : List Int) (A3 : Option Addr) (len3 cap3 : Nat) (z3 : List ByteArray) (A4 : Option Addr) (len4 cap4 : Nat) (z4 : List UInt8) (A5 : Option Addr) (len5 cap5 : Nat) (z5 : List UInt8) (w : World)
    (hs : s.size ≤ 1048576) (h2 : IsI w A2 len2 cap2 z2) (r2 : cap2 ≤ 1048576) (h3 : IsS w A3 len3 cap3 z3) (r3 : cap3 ≤ 1048576 ∧ tot z3 ≤ 1048576) (h4 : IsD w A4 len4 cap4 z4) (r4 : cap4 ≤ 1048576) (h5 : IsB w A5 len5 cap5 z5) (r5 : cap5 ≤ 1048576) :
    Calls Try.prog 8 #[.string s, .slice A2 len2 cap2, .slice A3 len3 cap3, .slice A4 len4 cap4, .slice A5 len5 cap5] w fun e w' => e = .returned (.bool true) ∧ Below w.heap.size w w' := by
  obtain ⟨d5, rfl, c5, m5⟩ := h5
  have D5 := Lib.hid d5; clear d5
  unfold maxLen at m5
  obtain ⟨i0, hi, hz0, hz1, hz2⟩ := info_parts info_u8
  obtain ⟨d2, rfl, c2, m2, q2⟩ := h2
  obtain ⟨d3, rfl, c3, m3, _⟩ := h3
  obtain ⟨d4, l4, c4, m4⟩ := h4
  have D2 := Lib.hid d2; have D3 := Lib.hid d3; have D4 := Lib.hid d4; have Q2 := Lib.hid q2; have L4 := Lib.hid l4
  clear d2 d3 d4 q2 l4
  unfold maxLen at m2 m3 m4
  by_cases P1 : 2000 < (s.size : Int) + (z2.length : Int) + (len4 : Int) + (z5.length : Int)
  · go_enter Try.func8, Try.ntmps8
    go_wp2_with fail
    refine (sanity_step w _ (Below.refl _ _)).mono ?_
    rintro e w1 ⟨rfl, hb1⟩
    go_wp2_with fail
    go_ret
    exact ⟨rfl, hb1⟩
  have hf := few_any z3 A3 z3.length cap3 _ w D3.out rfl (by omega)
  by_cases P3 : z3.length + tot z3 ≤ 2000
  rotate_left
  · rw [decide_eq_false P3] at hf
    have HF := Lib.hid hf; clear hf P3
    go_enter Try.func8, Try.ntmps8
    go_wp2_with fail
    with_reducible refine HF.out.mono ?_
    rintro e w0 ⟨rfl, rfl⟩
    go_wp2_with fail
    refine (sanity_step w _ (Below.refl _ _)).mono ?_
    rintro e w1 ⟨rfl, hb1⟩
    go_wp2_with fail
    go_ret
    exact ⟨rfl, hb1⟩
  rw [decide_eq_true P3] at hf
  have HF := Lib.hid hf; clear hf
  have hv3 : ∀ x ∈ z3, W.Is64 (x.data.toList.length : Int) := fun x hx => by
    have h1 := tot_mem2 z3 x hx
    have e1 : x.data.toList.length = x.size := rfl
    unfold W.Is64
    omega
  have HV3 := Lib.hid hv3; clear hv3
  have b1 : (W.encB s.data.toList).length ≤ 3000 := by
    rw [W.encB_length]
    have := (W.enc_le s.data.toList.length).2
    have e1 : s.data.toList.length = s.size := rfl
    omega
  have b2 : (W.encI z2).length ≤ 30000 := by
    have h1 := W.encI_le z2
    omega
  have b3 : (W.encS z3).length ≤ 30000 := by
    unfold W.encS
    rw [List.length_append]
    have h1 := W.enc_le z3.length
    have h2 := encS_len2 z3
    omega
  have b4 : (W.enc len4 ++ z4).length ≤ 40000 := by
    rw [List.length_append, L4.out]
    have h1 := W.enc_le len4
    omega
  have t1 := fun W0 : World => wbytes_any s W0 (by omega)
  have t2 := fun (W0 : World) (h : Below w.heap.size w W0) => wints_any z2 A2 z2.length cap2 w.heap.size W0 (D2.out.below h (Nat.le_refl _)) h.size rfl Q2.out (by omega) (by omega)
  have t3 := fun (W0 : World) (h : Below w.heap.size w W0) => wstrings_any z3 A3 z3.length cap3 w.heap.size W0 (D3.out.below h (Nat.le_refl _)) h.size rfl (fun x hx => by have := tot_mem2 z3 x hx; omega) (by omega) (by omega)
  have t4 := fun (W0 : World) (h : Below w.heap.size w W0) => wdigests_any z4 A4 len4 cap4 w.heap.size W0 (D4.out.below h (Nat.le_refl _)) h.size L4.out (by omega)
  have hi1 : W.Is64 (s.size : Int) := by unfold W.Is64; omega
  have x1 := decT_enc s z5 hi1
  have x2 := decI_enc z2 z5 Q2.out (by unfold W.Is64; omega)
  have x3 : W.decS (W.encS z3 ++ z5) = (z3, (W.encS z3).length, 0) := W.decL_back W.codec_str z3 z5 HV3.out (by unfold W.Is64; omega)
  have x4 := W.decD_back z4 z5 len4 L4.out (by unfold W.Is64; omega)
  have p1 : 0 < (W.encB s.data.toList).length := W.encB_pos _
  have p2 : 0 < (W.encI z2).length := by unfold W.encI; rw [List.length_append]; have := (W.enc_le z2.length).1; omega
  have p3 : 0 < (W.encS z3).length := by unfold W.encS; rw [List.length_append]; have := (W.enc_le z3.length).1; omega
  have p4 : 0 < (W.enc len4 ++ z4).length := by rw [List.length_append]; have := (W.enc_le len4).1; omega
  obtain ⟨E1, hE1⟩ : ∃ E, E = W.encB s.data.toList := ⟨_, rfl⟩
  rw [← hE1] at t1 b1 x1 p1
  have T1 := Lib.hid t1; have X1 := Lib.hid x1; clear hE1 t1 x1
  obtain ⟨E2, hE2⟩ : ∃ E, E = W.encI z2 := ⟨_, rfl⟩
  rw [← hE2] at t2 b2 x2 p2
  have T2 := Lib.hid t2; have X2 := Lib.hid x2; clear hE2 t2 x2
  obtain ⟨E3, hE3⟩ : ∃ E, E = W.encS z3 := ⟨_, rfl⟩
  rw [← hE3] at t3 b3 x3 p3
  have T3 := Lib.hid t3; have X3 := Lib.hid x3; clear hE3 t3 x3
  obtain ⟨E4, hE4⟩ : ∃ E, E = W.enc len4 ++ z4 := ⟨_, rfl⟩
  rw [← hE4] at t4 b4 x4 p4
  have T4 := Lib.hid t4; have X4 := Lib.hid x4; clear hE4 t4 x4
  go_enter Try.func8, Try.ntmps8
  go_wp2_with fail
  with_reducible refine HF.out.mono ?_
  rintro e w0 ⟨rfl, rfl⟩
  go_wp2_with fail
  with_reducible refine (T1.out w).mono ?_
  rintro e u1 ⟨v1, rfl, hown, hb⟩
  have HBu1 := Lib.hid (hb)
  obtain ⟨g1, y1, rfl, h11, h12, _, _⟩ := own_pos hown p1
  have HO1 := Lib.hid hown
  clear hb hown
  go_wp2_with fail
  with_reducible refine (T2.out u1 HBu1.out).mono ?_
  rintro e u2 ⟨v2, rfl, hown, hb⟩
  have HBu2 := Lib.hid (Bl HBu1.out hb)
  obtain ⟨g2, y2, rfl, h21, h22, _, _⟩ := own_pos hown p2
  have HO2 := Lib.hid hown
  replace HO1 := Lib.hid (own_below HO1.out hb)
  clear hb hown
  go_wp2_with fail
  with_reducible refine (T4.out u2 HBu2.out).mono ?_
  rintro e u4 ⟨v4, rfl, hown, hb⟩
  have HBu4 := Lib.hid (Bl HBu2.out hb)
  obtain ⟨g4, y4, rfl, h41, h42, _, _⟩ := own_pos hown p4
  have HO4 := Lib.hid hown
  replace HO1 := Lib.hid (own_below HO1.out hb)
  replace HO2 := Lib.hid (own_below HO2.out hb)
  clear hb hown
  go_wp2_with fail
  with_reducible refine (T3.out u4 HBu4.out).mono ?_
  rintro e u3 ⟨v3, rfl, hown, hb⟩
  have HBu3 := Lib.hid (Bl HBu4.out hb)
  obtain ⟨g3, y3, rfl, h31, h32, _, _⟩ := own_pos hown p3
  have HO3 := Lib.hid hown
  replace HO1 := Lib.hid (own_below HO1.out hb)
  replace HO2 := Lib.hid (own_below HO2.out hb)
  replace HO4 := Lib.hid (own_below HO4.out hb)
  clear hb hown
  go_wp2_with (at_builtin; refine wpList_append_full _ rfl (.tmp 59) (.tmp 60) _ rfl 5 i0 _ 1 Try.underlying28 hi hz0 hz1 hz2 rfl (some ⟨g1, 0, none⟩) _ u3.heap.size (W.bc E1) rfl (Rd.of_own HO1.out) (Nat.le_refl _) (by simp) (by omega) A5 z5.length cap5 w.heap.size (W.bc z5) rfl (D5.out.below HBu3.out (Nat.le_refl _)) (by simp) (W.bc_oneCell _) (by unfold maxLen; omega) (by omega) ?_)
  intro A7 c7 a1 hr7 hc7 hm7 hb7
  rw [← W.bc_append] at hr7
  have HBa1 := Lib.hid (Bl HBu3.out hb7)
  replace HO1 := Lib.hid (own_below HO1.out hb7)
  replace HO2 := Lib.hid (own_below HO2.out hb7)
  replace HO4 := Lib.hid (own_below HO4.out hb7)
  replace HO3 := Lib.hid (own_below HO3.out hb7)
  have hg := wgetbytes_b (E1 ++ z5) A7 (E1.length + z5.length) c7 _ a1 hr7 (by simp) hc7 hm7 s E1.length 0 X1.out
  have HG := Lib.hid hg; clear hg hr7 hb7
  go_wp2_with fail
  with_reducible refine HG.out.mono ?_
  rintro e r1 ⟨rfl, hb⟩
  have HBr1 := Lib.hid (Bl HBa1.out hb)
  replace HO1 := Lib.hid (own_below HO1.out hb)
  replace HO2 := Lib.hid (own_below HO2.out hb)
  replace HO4 := Lib.hid (own_below HO4.out hb)
  replace HO3 := Lib.hid (own_below HO3.out hb)
  clear hb HG
  go_wp2_with (at_builtin; refine wpList_append_full _ rfl (.tmp 72) (.tmp 73) _ rfl 5 i0 _ 1 Try.underlying28 hi hz0 hz1 hz2 rfl (some ⟨g2, 0, none⟩) _ r1.heap.size (W.bc E2) rfl (Rd.of_own HO2.out) (Nat.le_refl _) (by simp) (by omega) A5 z5.length cap5 w.heap.size (W.bc z5) rfl (D5.out.below HBr1.out (Nat.le_refl _)) (by simp) (W.bc_oneCell _) (by unfold maxLen; omega) (by omega) ?_)
  intro A7 c7 a2 hr7 hc7 hm7 hb7
  rw [← W.bc_append] at hr7
  have HBa2 := Lib.hid (Bl HBr1.out hb7)
  replace HO1 := Lib.hid (own_below HO1.out hb7)
  replace HO2 := Lib.hid (own_below HO2.out hb7)
  replace HO4 := Lib.hid (own_below HO4.out hb7)
  replace HO3 := Lib.hid (own_below HO3.out hb7)
  have hg := wgetints_any (E2 ++ z5) A7 (E2.length + z5.length) c7 _ a2 hr7 (Nat.le_refl _) (by simp) hc7 hm7 (by omega)
  rw [X2.out] at hg
  have HG := Lib.hid hg; clear hg hr7 hb7
  go_wp2_with fail
  with_reducible refine HG.out.mono ?_
  rintro e r2 ⟨z2v, rfl, hown, hb⟩
  have HZ2 := Lib.hid hown; clear hown
  have HBr2 := Lib.hid (Bl HBa2.out hb)
  replace HO1 := Lib.hid (own_below HO1.out hb)
  replace HO2 := Lib.hid (own_below HO2.out hb)
  replace HO4 := Lib.hid (own_below HO4.out hb)
  replace HO3 := Lib.hid (own_below HO3.out hb)
  clear hb HG
  go_wp2_with (at_builtin; refine wpList_append_full _ rfl (.tmp 85) (.tmp 86) _ rfl 5 i0 _ 1 Try.underlying28 hi hz0 hz1 hz2 rfl (some ⟨g4, 0, none⟩) _ r2.heap.size (W.bc E4) rfl (Rd.of_own HO4.out) (Nat.le_refl _) (by simp) (by omega) A5 z5.length cap5 w.heap.size (W.bc z5) rfl (D5.out.below HBr2.out (Nat.le_refl _)) (by simp) (W.bc_oneCell _) (by unfold maxLen; omega) (by omega) ?_)
  intro A7 c7 a4 hr7 hc7 hm7 hb7
  rw [← W.bc_append] at hr7
  have HBa4 := Lib.hid (Bl HBr2.out hb7)
  replace HO1 := Lib.hid (own_below HO1.out hb7)
  replace HO2 := Lib.hid (own_below HO2.out hb7)
  replace HO4 := Lib.hid (own_below HO4.out hb7)
  replace HO3 := Lib.hid (own_below HO3.out hb7)
  replace HZ2 := Lib.hid (own_below HZ2.out hb7)
  have hg := wgetdigests_any (E4 ++ z5) A7 (E4.length + z5.length) c7 _ a4 hr7 (Nat.le_refl _) (by simp) hc7 hm7 (by omega)
  rw [X4.out] at hg
  simp only at hg
  rw [show z4.length / 16 = len4 from by rw [L4.out]; omega] at hg
  have HG := Lib.hid hg; clear hg hr7 hb7
  go_wp2_with fail
  with_reducible refine HG.out.mono ?_
  rintro e r4 ⟨z4v, rfl, hown, hb⟩
  have HZ4 := Lib.hid hown; clear hown
  have HBr4 := Lib.hid (Bl HBa4.out hb)
  replace HO1 := Lib.hid (own_below HO1.out hb)
  replace HO2 := Lib.hid (own_below HO2.out hb)
  replace HO4 := Lib.hid (own_below HO4.out hb)
  replace HO3 := Lib.hid (own_below HO3.out hb)
  replace HZ2 := Lib.hid (own_below HZ2.out hb)
  clear hb HG
  go_wp2_with (at_builtin; refine wpList_append_full _ rfl (.tmp 98) (.tmp 99) _ rfl 5 i0 _ 1 Try.underlying28 hi hz0 hz1 hz2 rfl (some ⟨g3, 0, none⟩) _ r4.heap.size (W.bc E3) rfl (Rd.of_own HO3.out) (Nat.le_refl _) (by simp) (by omega) A5 z5.length cap5 w.heap.size (W.bc z5) rfl (D5.out.below HBr4.out (Nat.le_refl _)) (by simp) (W.bc_oneCell _) (by unfold maxLen; omega) (by omega) ?_)
  intro A7 c7 a3 hr7 hc7 hm7 hb7
  rw [← W.bc_append] at hr7
  have HBa3 := Lib.hid (Bl HBr4.out hb7)
  replace HO1 := Lib.hid (own_below HO1.out hb7)
  replace HO2 := Lib.hid (own_below HO2.out hb7)
  replace HO4 := Lib.hid (own_below HO4.out hb7)
  replace HO3 := Lib.hid (own_below HO3.out hb7)
  replace HZ2 := Lib.hid (own_below HZ2.out hb7)
  replace HZ4 := Lib.hid (own_below HZ4.out hb7)
  have hg := wgetstrings_any (E3 ++ z5) A7 (E3.length + z5.length) c7 _ a3 hr7 (Nat.le_refl _) (by simp) hc7 hm7 (by omega)
  rw [X3.out] at hg
  have HG := Lib.hid hg; clear hg hr7 hb7
  go_wp2_with fail
  with_reducible refine HG.out.mono ?_
  rintro e r3 ⟨z3v, rfl, hown, hb⟩
  have HZ3 := Lib.hid hown; clear hown
  have HBr3 := Lib.hid (Bl HBa3.out hb)
  replace HO1 := Lib.hid (own_below HO1.out hb)
  replace HO2 := Lib.hid (own_below HO2.out hb)
  replace HO4 := Lib.hid (own_below HO4.out hb)
  replace HO3 := Lib.hid (own_below HO3.out hb)
  replace HZ2 := Lib.hid (own_below HZ2.out hb)
  replace HZ4 := Lib.hid (own_below HZ4.out hb)
  clear hb HG
  go_wp2_with fail
  with_reducible refine (sanity_any r3).mono ?_
  rintro e q1 ⟨rfl, hb⟩
  have HBq1 := Lib.hid (Bl HBr3.out hb)
  replace HZ2 := Lib.hid (own_below HZ2.out hb)
  replace HZ3 := Lib.hid (own_below HZ3.out hb)
  replace HZ4 := Lib.hid (own_below HZ4.out hb)
  clear hb
  have hsm := texts_own (c2 := cap3) HZ3.out (D3.out.below HBq1.out (Nat.le_refl _)) (by unfold maxLen; omega)
  have HS := Lib.hid hsm; clear hsm
  go_wp2_with fail
  with_reducible refine HS.out.mono ?_
  rintro e q2 ⟨rfl, hb⟩
  have HBq2 := Lib.hid (Bl HBq1.out hb)
  replace HZ2 := Lib.hid (own_below HZ2.out hb)
  replace HZ4 := Lib.hid (own_below HZ4.out hb)
  clear hb HS
  have hsm := ints_own (c2 := cap2) HZ2.out (D2.out.below HBq2.out (Nat.le_refl _)) (by unfold maxLen; omega)
  have HS := Lib.hid hsm; clear hsm
  go_wp2_with fail
  with_reducible refine HS.out.mono ?_
  rintro e q3 ⟨rfl, hb⟩
  have HBq3 := Lib.hid (Bl HBq2.out hb)
  replace HZ4 := Lib.hid (own_below HZ4.out hb)
  clear hb HS
  have hsm := digs_own (c2 := cap4) HZ4.out (D4.out.below HBq3.out (Nat.le_refl _)) L4.out (by omega)
  have HS := Lib.hid hsm; clear hsm
  go_wp2_with fail
  with_reducible refine HS.out.mono ?_
  rintro e q4 ⟨rfl, hb⟩
  have HBq4 := Lib.hid (Bl HBq3.out hb)
  clear hb HS
  go_wp2_with fail
  go_ret
  exact ⟨rfl, HBq4.out⟩
end Go.Proofs.Ythgpgdpndionjaa
