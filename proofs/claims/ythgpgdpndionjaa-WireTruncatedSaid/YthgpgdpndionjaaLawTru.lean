/-
  THE WALK of the law WireTruncated.
-/
import Derived.Test.YthgpgdpndionjaaLawDec
import Derived.Test.YthgpgdpndionjaaWalkFew
import Derived.Test.YthgpgdpndionjaaWalkAppD
namespace Go.Proofs.Ythgpgdpndionjaa
open Go.RowKit

/-- What the law knows of one of its encodings: where its bytes lie in every later world. -/
def Enc (W1 : World) (g : Nat) (E : List UInt8) : Prop := ∀ wk, Below W1.heap.size W1 wk → Rd wk W1.heap.size (some ⟨g, 0, none⟩) (W.bc E)
theorem Enc.take {W1 : World} {g : Nat} {E : List UInt8} (h : Enc W1 g E) (wk : World) (hb : Below W1.heap.size W1 wk) (i : Nat) : Rd wk W1.heap.size (some ⟨g, 0, none⟩) (W.bc (E.take i)) := by
  rw [← W.bc_take]
  exact (h wk hb).take i

theorem tot_mem : ∀ (l : List ByteArray) (x : ByteArray), x ∈ l → x.size ≤ tot l
  | y :: r, x, h => by
    have h0 : tot (y :: r) = y.size + tot r := by unfold tot; simp
    rcases List.mem_cons.1 h with rfl | h
    · omega
    · have := tot_mem r x h
      omega
theorem sh0 (E : List UInt8) (i g y : Nat) (W1 wk : World) (hE : Enc W1 g E) (hb : Below W1.heap.size W1 wk) (hi : i < E.length) (_hl : E.length ≤ 4000) (hy : E.length ≤ y) (hm : y ≤ maxLen) (h3 : (W.dec (E.take i)).2.2 = 3) :
    Calls Try.prog 24 #[.slice (some ⟨g, 0, none⟩) i y] wk fun e w' => ∃ v u, e = .returned (.tuple #[v, u, .int .i64 3]) ∧ Below wk.heap.size wk w' := by
  have hR := hE.take wk hb i
  have hln : i = (E.take i).length := by rw [List.length_take]; omega
  refine (getint_any (E.take i) _ i y _ wk hR hln (by omega) hm).mono ?_
  rintro e w' ⟨rfl, rfl⟩
  rw [h3]
  exact ⟨_, _, rfl, Below.refl _ _⟩
theorem sh1 (E : List UInt8) (i g y : Nat) (W1 wk : World) (hE : Enc W1 g E) (hb : Below W1.heap.size W1 wk) (hi : i < E.length) (_hl : E.length ≤ 4000) (hy : E.length ≤ y) (hm : y ≤ maxLen) (h3 : (W.decT (E.take i)).2.2 = 3) :
    Calls Try.prog 26 #[.slice (some ⟨g, 0, none⟩) i y] wk fun e w' => ∃ v u, e = .returned (.tuple #[v, u, .int .i64 3]) ∧ Below wk.heap.size wk w' := by
  have hR := hE.take wk hb i
  have hln : i = (E.take i).length := by rw [List.length_take]; omega
  obtain ⟨x, u, er, hd⟩ : ∃ x u er, W.decT (E.take i) = (x, u, er) := ⟨_, _, _, rfl⟩
  refine (wgetbytes_b (E.take i) _ i y _ wk hR hln (by omega) hm x u er hd).mono ?_
  rintro e w' ⟨rfl, hb'⟩
  rw [hd] at h3
  simp only at h3
  subst h3
  exact ⟨_, _, rfl, hb'⟩
theorem sh2 (E : List UInt8) (i g y : Nat) (W1 wk : World) (hE : Enc W1 g E) (hb : Below W1.heap.size W1 wk) (hi : i < E.length) (hl : E.length ≤ 4000) (hy : E.length ≤ y) (hm : y ≤ maxLen) (h3 : (W.decI (E.take i)).2.2 = 3) :
    Calls Try.prog 28 #[.slice (some ⟨g, 0, none⟩) i y] wk fun e w' => ∃ v u, e = .returned (.tuple #[v, u, .int .i64 3]) ∧ Below wk.heap.size wk w' := by
  have hR := hE.take wk hb i
  have hln : i = (E.take i).length := by rw [List.length_take]; omega
  refine (wgetints_any (E.take i) _ i y _ wk hR hb.size hln (by omega) hm (by omega)).mono ?_
  rintro e w' ⟨v, rfl, _, hb'⟩
  rw [h3]
  exact ⟨_, _, rfl, hb'⟩
theorem sh3 (E : List UInt8) (i g y : Nat) (W1 wk : World) (hE : Enc W1 g E) (hb : Below W1.heap.size W1 wk) (hi : i < E.length) (hl : E.length ≤ 4000) (hy : E.length ≤ y) (hm : y ≤ maxLen) (h3 : (W.decS (E.take i)).2.2 = 3) :
    Calls Try.prog 31 #[.slice (some ⟨g, 0, none⟩) i y] wk fun e w' => ∃ v u, e = .returned (.tuple #[v, u, .int .i64 3]) ∧ Below wk.heap.size wk w' := by
  have hR := hE.take wk hb i
  have hln : i = (E.take i).length := by rw [List.length_take]; omega
  refine (wgetstrings_any (E.take i) _ i y _ wk hR hb.size hln (by omega) hm (by omega)).mono ?_
  rintro e w' ⟨v, rfl, _, hb'⟩
  rw [h3]
  exact ⟨_, _, rfl, hb'⟩
theorem sh4 (E : List UInt8) (i g y : Nat) (W1 wk : World) (hE : Enc W1 g E) (hb : Below W1.heap.size W1 wk) (hi : i < E.length) (hl : E.length ≤ 4000) (hy : E.length ≤ y) (hm : y ≤ maxLen) (h3 : (W.decD (E.take i)).2.2 = 3) :
    Calls Try.prog 34 #[.slice (some ⟨g, 0, none⟩) i y] wk fun e w' => ∃ v u, e = .returned (.tuple #[v, u, .int .i64 3]) ∧ Below wk.heap.size wk w' := by
  have hR := hE.take wk hb i
  have hln : i = (E.take i).length := by rw [List.length_take]; omega
  refine (wgetdigests_any (E.take i) _ i y _ wk hR hb.size hln (by omega) hm (by omega)).mono ?_
  rintro e w' ⟨v, rfl, _, hb'⟩
  rw [h3]
  exact ⟨_, _, rfl, hb'⟩
theorem encS_len : ∀ l : List ByteArray, (l.flatMap fun s => W.encB s.data.toList).length ≤ 9 * l.length + tot l
  | [] => by simp
  | x :: r => by
    have h1 := encS_len r
    have h2 := (W.enc_le x.data.toList.length).2
    have e1 : x.data.toList.length = x.size := rfl
    unfold tot at *
    simp only [List.flatMap_cons, List.length_append, List.length_cons, List.map_cons, List.sum_cons, W.encB_length]
    rw [e1] at h2 ⊢
    omega

set_option maxRecDepth 100000 in
set_option maxHeartbeats 4000000 in
theorem law_tru (n : Int) (s : ByteArray) (A2 : Option Addr) (len2 cap2 : Nat) (z2 : List Int) (A3 : Option Addr) (len3 cap3 : Nat) (z3 : List ByteArray) (A4 : Option Addr) (len4 cap4 : Nat) (z4 : List UInt8) (w : World)
    (hn : W.Is64 n) (_hs : s.size ≤ maxLen) (hs2 : s.data.toList.length ≤ reachBytes) (h2 : IsI w A2 len2 cap2 z2) (r2 : cap2 * 8 ≤ reachBytes) (h3 : IsS w A3 len3 cap3 z3) (r3 : cap3 * 16 ≤ reachBytes ∧ ∀ y ∈ z3, y.size ≤ reachBytes) (h4 : IsD w A4 len4 cap4 z4) (r4 : cap4 * 16 ≤ reachBytes) :
    Calls Try.prog 9 #[.int .i64 n, .string s, .slice A2 len2 cap2, .slice A3 len3 cap3, .slice A4 len4 cap4] w fun e w' => e = .returned (.bool true) ∧ Below w.heap.size w w' := by
  obtain ⟨d2, rfl, c2, m2, q2⟩ := h2
  obtain ⟨d3, rfl, c3, m3, _⟩ := h3
  obtain ⟨d4, l4, c4, m4⟩ := h4
  obtain ⟨r3, y3⟩ := r3
  have D2 := Lib.hid d2; have D3 := Lib.hid d3; have D4 := Lib.hid d4; have Q2 := Lib.hid q2; have L4 := Lib.hid l4; have Y3 := Lib.hid y3
  clear d2 d3 d4 q2 l4 y3
  have hs : s.size ≤ 140737488351232 := hs2
  replace r2 : cap2 * 8 ≤ 140737488351232 := r2
  replace r3 : cap3 * 16 ≤ 140737488351232 := r3
  replace r4 : cap4 * 16 ≤ 140737488351232 := r4
  clear hs2
  unfold maxLen at m2 m3 m4
  by_cases P1 : 400 < (s.size : Int) + 9 * (z2.length : Int) + 16 * (len4 : Int)
  · go_enter Try.func9, Try.ntmps9
    go_wp2_with fail
    refine (sanity_step w _ (Below.refl _ _)).mono ?_
    rintro e w1 ⟨rfl, hb1⟩
    go_wp2_with fail
    go_ret
    exact ⟨rfl, hb1⟩
  by_cases P2 : 40 < (z3.length : Int)
  · go_enter Try.func9, Try.ntmps9
    go_wp2_with fail
    refine (sanity_step w _ (Below.refl _ _)).mono ?_
    rintro e w1 ⟨rfl, hb1⟩
    go_wp2_with fail
    go_ret
    exact ⟨rfl, hb1⟩
  have ht : tot z3 ≤ 40 * 140737488351232 := Nat.le_trans (tot_bound z3 140737488351232 Y3.out) (Nat.mul_le_mul_right _ (by omega))
  have hf := few_any z3 A3 z3.length cap3 _ w D3.out rfl (by omega)
  by_cases P3 : z3.length + tot z3 ≤ 2000
  rotate_left
  · rw [decide_eq_false P3] at hf
    have HF := Lib.hid hf; clear hf P3
    go_enter Try.func9, Try.ntmps9
    go_wp2_with fail
    with_reducible refine HF.out.mono ?_
    rintro e w0 ⟨rfl, rfl⟩
    go_wp2_with fail
    refine (sanity_step w _ (Below.refl _ _)).mono ?_
    rintro e w1 ⟨rfl, hb1⟩
    go_wp2_with fail
    go_ret
    exact ⟨rfl, hb1⟩
  rw [decide_eq_true P3] at hf
  have HF := Lib.hid hf; clear hf
  have hv3 : ∀ x ∈ z3, W.Is64 (x.data.toList.length : Int) := fun x hx => by
    have h1 := Y3.out x hx
    have e1 : x.data.toList.length = x.size := rfl
    unfold reachBytes at h1
    unfold W.Is64
    omega
  have HV3 := Lib.hid hv3; clear hv3
  obtain ⟨E0, hE0⟩ : ∃ E, E = W.enc n := ⟨_, rfl⟩
  obtain ⟨E1, hE1⟩ : ∃ E, E = W.encB s.data.toList := ⟨_, rfl⟩
  obtain ⟨E2, hE2⟩ : ∃ E, E = W.encI z2 := ⟨_, rfl⟩
  obtain ⟨E3, hE3⟩ : ∃ E, E = W.encS z3 := ⟨_, rfl⟩
  obtain ⟨E4, hE4⟩ : ∃ E, E = W.enc len4 ++ z4 := ⟨_, rfl⟩
  have s0 : ∀ i, i < E0.length → (W.dec (E0.take i)).2.2 = 3 := fun i hi => by rw [hE0] at hi ⊢; rw [W.dec_short hn i hi]
  have s1 : ∀ i, i < E1.length → (W.decT (E1.take i)).2.2 = 3 := fun i hi => by rw [hE1] at hi ⊢; exact W.decB_short _ (by have e1 : s.data.toList.length = s.size := rfl; unfold W.Is64; omega) i hi
  have s2 : ∀ i, i < E2.length → (W.decI (E2.take i)).2.2 = 3 := fun i hi => by rw [hE2] at hi ⊢; exact W.decL_short W.codec_int z2 Q2.out (by unfold W.Is64; omega) i hi
  have s3 : ∀ i, i < E3.length → (W.decS (E3.take i)).2.2 = 3 := fun i hi => by rw [hE3] at hi ⊢; exact W.decL_short W.codec_str z3 HV3.out (by unfold W.Is64; omega) i hi
  have s4 : ∀ i, i < E4.length → (W.decD (E4.take i)).2.2 = 3 := fun i hi => by rw [hE4] at hi ⊢; exact W.decD_short z4 len4 L4.out (by unfold W.Is64; omega) i hi
  have b0 : 0 < E0.length ∧ E0.length ≤ 9 := by rw [hE0]; have := W.enc_le n; omega
  have b1 : 0 < E1.length ∧ E1.length ≤ 409 := by
    rw [hE1]
    refine ⟨W.encB_pos _, ?_⟩
    rw [W.encB_length]
    have := (W.enc_le s.data.toList.length).2
    have e1 : s.data.toList.length = s.size := rfl
    omega
  have b2 : 0 < E2.length ∧ E2.length ≤ 490 := by
    rw [hE2]
    have h1 := W.encI_le z2
    have h2 : 0 < (W.encI z2).length := by unfold W.encI; rw [List.length_append]; have := (W.enc_le z2.length).1; omega
    omega
  have b3 : 0 < E3.length ∧ E3.length ≤ 4000 := by
    rw [hE3]
    unfold W.encS
    rw [List.length_append]
    have h1 := W.enc_le z3.length
    have h2 := encS_len z3
    omega
  have b4 : 0 < E4.length ∧ E4.length ≤ 409 := by
    rw [hE4, List.length_append, L4.out]
    have h1 := W.enc_le len4
    omega
  have t0 := fun W0 : World => wint_any n W0 hn
  have t1 := fun W0 : World => wbytes_any s W0 (by omega)
  have t2 := fun (W0 : World) (h : Below w.heap.size w W0) => wints_any z2 A2 z2.length cap2 w.heap.size W0 (D2.out.below h (Nat.le_refl _)) h.size rfl Q2.out (by omega) (by rw [← hE2]; omega)
  have t3 := fun (W0 : World) (h : Below w.heap.size w W0) => wstrings_any z3 A3 z3.length cap3 w.heap.size W0 (D3.out.below h (Nat.le_refl _)) h.size rfl (fun x hx => by have := tot_mem z3 x hx; omega) (by omega) (by rw [← hE3]; omega)
  have t4 := fun (W0 : World) (h : Below w.heap.size w W0) => wdigests_any z4 A4 len4 cap4 w.heap.size W0 (D4.out.below h (Nat.le_refl _)) h.size L4.out (by omega)
  rw [← hE0] at t0
  rw [← hE1] at t1
  rw [← hE2] at t2
  rw [← hE3] at t3
  rw [← hE4] at t4
  have T0 := Lib.hid t0; have T1 := Lib.hid t1; have T2 := Lib.hid t2; have T3 := Lib.hid t3; have T4 := Lib.hid t4
  have S0 := Lib.hid s0; have S1 := Lib.hid s1; have S2 := Lib.hid s2; have S3 := Lib.hid s3; have S4 := Lib.hid s4
  clear t0 t1 t2 t3 t4 s0 s1 s2 s3 s4 hE0 hE1 hE2 hE3 hE4
  obtain ⟨p0, b0⟩ := b0; obtain ⟨p1, b1⟩ := b1; obtain ⟨p2, b2⟩ := b2; obtain ⟨p3, b3⟩ := b3; obtain ⟨p4, b4⟩ := b4
  go_enter Try.func9, Try.ntmps9
  go_wp2_with fail
  with_reducible refine HF.out.mono ?_
  rintro e w0 ⟨rfl, rfl⟩
  go_wp2_with fail
  with_reducible refine (T0.out w).mono ?_
  rintro e w1 ⟨v1, rfl, hown1, hb1⟩
  have HB1 := Lib.hid (hb1)
  obtain ⟨g0, y0, rfl, h01, h02, _, _⟩ := own_pos hown1 p0
  have HO0 := Lib.hid hown1
  clear hb1 hown1
  go_wp2_with fail
  with_reducible refine (T1.out w1).mono ?_
  rintro e w2 ⟨v2, rfl, hown2, hb2⟩
  have HB2 := Lib.hid (Bl HB1.out hb2)
  obtain ⟨g1, y1, rfl, h11, h12, _, _⟩ := own_pos hown2 p1
  have HO1 := Lib.hid hown2
  replace HO0 := Lib.hid (own_below HO0.out hb2)
  clear hb2 hown2
  go_wp2_with fail
  with_reducible refine (T2.out w2 HB2.out).mono ?_
  rintro e w3 ⟨v3, rfl, hown3, hb3⟩
  have HB3 := Lib.hid (Bl HB2.out hb3)
  obtain ⟨g2, y2, rfl, h21, h22, _, _⟩ := own_pos hown3 p2
  have HO2 := Lib.hid hown3
  replace HO0 := Lib.hid (own_below HO0.out hb3)
  replace HO1 := Lib.hid (own_below HO1.out hb3)
  clear hb3 hown3
  go_wp2_with fail
  with_reducible refine (T3.out w3 HB3.out).mono ?_
  rintro e w4 ⟨v4, rfl, hown4, hb4⟩
  have HB4 := Lib.hid (Bl HB3.out hb4)
  obtain ⟨g3, y3, rfl, h31, h32, _, _⟩ := own_pos hown4 p3
  have HO3 := Lib.hid hown4
  replace HO0 := Lib.hid (own_below HO0.out hb4)
  replace HO1 := Lib.hid (own_below HO1.out hb4)
  replace HO2 := Lib.hid (own_below HO2.out hb4)
  clear hb4 hown4
  go_wp2_with fail
  with_reducible refine (T4.out w4 HB4.out).mono ?_
  rintro e w5 ⟨v5, rfl, hown5, hb5⟩
  have HB5 := Lib.hid (Bl HB4.out hb5)
  obtain ⟨g4, y4, rfl, h41, h42, _, _⟩ := own_pos hown5 p4
  have HO4 := Lib.hid hown5
  replace HO0 := Lib.hid (own_below HO0.out hb5)
  replace HO1 := Lib.hid (own_below HO1.out hb5)
  replace HO2 := Lib.hid (own_below HO2.out hb5)
  replace HO3 := Lib.hid (own_below HO3.out hb5)
  clear hb5 hown5
  go_wp2_with fail
  obtain ⟨W1, hW1⟩ : ∃ W1, W1 = w5.alloc (.cells #[.slice (some ⟨g0, 0, none⟩) E0.length y0, .slice (some ⟨g1, 0, none⟩) E1.length y1, .slice (some ⟨g2, 0, none⟩) E2.length y2, .slice (some ⟨g3, 0, none⟩) E3.length y3, .slice (some ⟨g4, 0, none⟩) E4.length y4] 28) := ⟨_, rfl⟩
  have hz1 : W1.heap.size = w5.heap.size + 1 := by rw [hW1]; simp
  have hin : ∀ wk, Below W1.heap.size W1 wk → Below w.heap.size w wk := fun wk h => by
    have h5 : Below w.heap.size w W1 := by rw [hW1]; exact HB5.out.alloc HB5.out.size _
    exact Bl h5 h
  have HIN := Lib.hid hin; clear hin
  have hc0 : ∀ wk, Below W1.heap.size W1 wk → wk.cell? ⟨w5.heap.size, 0, none⟩ = some (.slice (some ⟨g0, 0, none⟩) E0.length y0) := fun wk h => by
    rw [h.cell (by simp only; omega), hW1]
    simp
  have C0 := Lib.hid hc0; clear hc0
  have he0 : Enc W1 g0 E0 := fun wk h => by
    have h1 := HO0.out.alloc (.cells #[.slice (some ⟨g0, 0, none⟩) E0.length y0, .slice (some ⟨g1, 0, none⟩) E1.length y1, .slice (some ⟨g2, 0, none⟩) E2.length y2, .slice (some ⟨g3, 0, none⟩) E3.length y3, .slice (some ⟨g4, 0, none⟩) E4.length y4] 28)
    rw [← hW1] at h1
    exact (Rd.of_own h1).below h (Nat.le_refl _)
  have X0 := Lib.hid he0; clear he0 HO0
  have hc1 : ∀ wk, Below W1.heap.size W1 wk → wk.cell? ⟨w5.heap.size, 1, none⟩ = some (.slice (some ⟨g1, 0, none⟩) E1.length y1) := fun wk h => by
    rw [h.cell (by simp only; omega), hW1]
    simp
  have C1 := Lib.hid hc1; clear hc1
  have he1 : Enc W1 g1 E1 := fun wk h => by
    have h1 := HO1.out.alloc (.cells #[.slice (some ⟨g0, 0, none⟩) E0.length y0, .slice (some ⟨g1, 0, none⟩) E1.length y1, .slice (some ⟨g2, 0, none⟩) E2.length y2, .slice (some ⟨g3, 0, none⟩) E3.length y3, .slice (some ⟨g4, 0, none⟩) E4.length y4] 28)
    rw [← hW1] at h1
    exact (Rd.of_own h1).below h (Nat.le_refl _)
  have X1 := Lib.hid he1; clear he1 HO1
  have hc2 : ∀ wk, Below W1.heap.size W1 wk → wk.cell? ⟨w5.heap.size, 2, none⟩ = some (.slice (some ⟨g2, 0, none⟩) E2.length y2) := fun wk h => by
    rw [h.cell (by simp only; omega), hW1]
    simp
  have C2 := Lib.hid hc2; clear hc2
  have he2 : Enc W1 g2 E2 := fun wk h => by
    have h1 := HO2.out.alloc (.cells #[.slice (some ⟨g0, 0, none⟩) E0.length y0, .slice (some ⟨g1, 0, none⟩) E1.length y1, .slice (some ⟨g2, 0, none⟩) E2.length y2, .slice (some ⟨g3, 0, none⟩) E3.length y3, .slice (some ⟨g4, 0, none⟩) E4.length y4] 28)
    rw [← hW1] at h1
    exact (Rd.of_own h1).below h (Nat.le_refl _)
  have X2 := Lib.hid he2; clear he2 HO2
  have hc3 : ∀ wk, Below W1.heap.size W1 wk → wk.cell? ⟨w5.heap.size, 3, none⟩ = some (.slice (some ⟨g3, 0, none⟩) E3.length y3) := fun wk h => by
    rw [h.cell (by simp only; omega), hW1]
    simp
  have C3 := Lib.hid hc3; clear hc3
  have he3 : Enc W1 g3 E3 := fun wk h => by
    have h1 := HO3.out.alloc (.cells #[.slice (some ⟨g0, 0, none⟩) E0.length y0, .slice (some ⟨g1, 0, none⟩) E1.length y1, .slice (some ⟨g2, 0, none⟩) E2.length y2, .slice (some ⟨g3, 0, none⟩) E3.length y3, .slice (some ⟨g4, 0, none⟩) E4.length y4] 28)
    rw [← hW1] at h1
    exact (Rd.of_own h1).below h (Nat.le_refl _)
  have X3 := Lib.hid he3; clear he3 HO3
  have hc4 : ∀ wk, Below W1.heap.size W1 wk → wk.cell? ⟨w5.heap.size, 4, none⟩ = some (.slice (some ⟨g4, 0, none⟩) E4.length y4) := fun wk h => by
    rw [h.cell (by simp only; omega), hW1]
    simp
  have C4 := Lib.hid hc4; clear hc4
  have he4 : Enc W1 g4 E4 := fun wk h => by
    have h1 := HO4.out.alloc (.cells #[.slice (some ⟨g0, 0, none⟩) E0.length y0, .slice (some ⟨g1, 0, none⟩) E1.length y1, .slice (some ⟨g2, 0, none⟩) E2.length y2, .slice (some ⟨g3, 0, none⟩) E3.length y3, .slice (some ⟨g4, 0, none⟩) E4.length y4] 28)
    rw [← hW1] at h1
    exact (Rd.of_own h1).below h (Nat.le_refl _)
  have X4 := Lib.hid he4; clear he4 HO4
  have HW1 := Lib.hid hW1; clear hW1
  go_loopw [49] (fun ix wr => ∃ k : Nat, k ≤ 5 ∧ ix = .int .i64 k ∧ Below W1.heap.size W1 wr) (fun ix _ => 5 - (intOf ix).toNat)
  case atStart => exact ⟨0, by omega, rfl, by rw [HW1.out]; exact Below.refl _ _⟩
  case round =>
    obtain ⟨k, hk, rfl, hb⟩ := hrel
    by_cases hlt : k < 5
    · have hk5 : k = 0 ∨ k = 1 ∨ k = 2 ∨ k = 3 ∨ k = 4 := by omega
      rcases hk5 with rfl | rfl | rfl | rfl | rfl
      · have hcell := C0.out wr hb
        go_wp2_with fail
        go_loopw [57] (fun ix wi => ∃ i : Nat, i ≤ E0.length ∧ ix = .int .i64 i ∧ Hid (Below W1.heap.size W1 wi)) (fun ix _ => E0.length - (intOf ix).toNat)
        case atStart => exact ⟨0, by omega, rfl, hb⟩
        case round =>
          obtain ⟨i, hi, rfl, HBI⟩ := hrel
          by_cases hil : i < E0.length
          · have hcall := sh0 E0 i g0 y0 W1 wr X0.out HBI.out (by omega) (by omega) h01 h02 (S0.out i (by omega))
            have HCALL := Lib.hid hcall; clear hcall
            have hiy : (i : Int) ≤ (y0 : Int) := by omega
            go_wp2_with fail
            with_reducible refine HCALL.out.mono ?_
            rintro e w8 ⟨v8, u8, rfl, hb8⟩
            have HB8 := Lib.hid (Bl HBI.out hb8)
            clear hb8
            go_wp2_with fail
            go_roundw
            case rel => ((repeat apply Exists.intro); exact ⟨⟨i + 1, by omega, by go_num, HB8.out⟩, rfl⟩)
            case measure => simp [intOf]; omega
          · obtain rfl : i = E0.length := by omega
            have hbw := HBI.out
            go_wp2_with fail
            go_roundw
            case rel => exact ⟨0 + 1, by omega, by go_num, hbw⟩
            case measure => simp [intOf]
      · have hcell := C1.out wr hb
        go_wp2_with fail
        go_loopw [57] (fun ix wi => ∃ i : Nat, i ≤ E1.length ∧ ix = .int .i64 i ∧ Hid (Below W1.heap.size W1 wi)) (fun ix _ => E1.length - (intOf ix).toNat)
        case atStart => exact ⟨0, by omega, rfl, hb⟩
        case round =>
          obtain ⟨i, hi, rfl, HBI⟩ := hrel
          by_cases hil : i < E1.length
          · have hcall := sh1 E1 i g1 y1 W1 wr X1.out HBI.out (by omega) (by omega) h11 h12 (S1.out i (by omega))
            have HCALL := Lib.hid hcall; clear hcall
            have hiy : (i : Int) ≤ (y1 : Int) := by omega
            go_wp2_with fail
            with_reducible refine HCALL.out.mono ?_
            rintro e w8 ⟨v8, u8, rfl, hb8⟩
            have HB8 := Lib.hid (Bl HBI.out hb8)
            clear hb8
            go_wp2_with fail
            go_roundw
            case rel => ((repeat apply Exists.intro); exact ⟨⟨i + 1, by omega, by go_num, HB8.out⟩, rfl⟩)
            case measure => simp [intOf]; omega
          · obtain rfl : i = E1.length := by omega
            have hbw := HBI.out
            go_wp2_with fail
            go_roundw
            case rel => exact ⟨1 + 1, by omega, by go_num, hbw⟩
            case measure => simp [intOf]
      · have hcell := C2.out wr hb
        go_wp2_with fail
        go_loopw [57] (fun ix wi => ∃ i : Nat, i ≤ E2.length ∧ ix = .int .i64 i ∧ Hid (Below W1.heap.size W1 wi)) (fun ix _ => E2.length - (intOf ix).toNat)
        case atStart => exact ⟨0, by omega, rfl, hb⟩
        case round =>
          obtain ⟨i, hi, rfl, HBI⟩ := hrel
          by_cases hil : i < E2.length
          · have hcall := sh2 E2 i g2 y2 W1 wr X2.out HBI.out (by omega) (by omega) h21 h22 (S2.out i (by omega))
            have HCALL := Lib.hid hcall; clear hcall
            have hiy : (i : Int) ≤ (y2 : Int) := by omega
            go_wp2_with fail
            with_reducible refine HCALL.out.mono ?_
            rintro e w8 ⟨v8, u8, rfl, hb8⟩
            have HB8 := Lib.hid (Bl HBI.out hb8)
            clear hb8
            go_wp2_with fail
            go_roundw
            case rel => ((repeat apply Exists.intro); exact ⟨⟨i + 1, by omega, by go_num, HB8.out⟩, rfl⟩)
            case measure => simp [intOf]; omega
          · obtain rfl : i = E2.length := by omega
            have hbw := HBI.out
            go_wp2_with fail
            go_roundw
            case rel => exact ⟨2 + 1, by omega, by go_num, hbw⟩
            case measure => simp [intOf]
      · have hcell := C3.out wr hb
        by_cases h500 : E3.length ≤ 500
        · have hx : (E3.length : Int) ≤ 500 := by omega
          go_wp2_with fail
          go_loopw [57] (fun ix wi => ∃ i : Nat, i ≤ E3.length ∧ ix = .int .i64 i ∧ Hid (Below W1.heap.size W1 wi)) (fun ix _ => E3.length - (intOf ix).toNat)
          case atStart => exact ⟨0, by omega, rfl, hb⟩
          case round =>
            obtain ⟨i, hi, rfl, HBI⟩ := hrel
            by_cases hil : i < E3.length
            · have hcall := sh3 E3 i g3 y3 W1 wr X3.out HBI.out (by omega) (by omega) h31 h32 (S3.out i (by omega))
              have HCALL := Lib.hid hcall; clear hcall
              have hiy : (i : Int) ≤ (y3 : Int) := by omega
              go_wp2_with fail
              with_reducible refine HCALL.out.mono ?_
              rintro e w8 ⟨v8, u8, rfl, hb8⟩
              have HB8 := Lib.hid (Bl HBI.out hb8)
              clear hb8
              go_wp2_with fail
              go_roundw
              case rel => ((repeat apply Exists.intro); exact ⟨⟨i + 1, by omega, by go_num, HB8.out⟩, rfl⟩)
              case measure => simp [intOf]; omega
            · obtain rfl : i = E3.length := by omega
              have hbw := HBI.out
              go_wp2_with fail
              go_roundw
              case rel => exact ⟨3 + 1, by omega, by go_num, hbw⟩
              case measure => simp [intOf]
        · have hx : (500 : Int) < (E3.length : Int) := by omega
          go_wp2_with fail
          go_loopw [57] (fun ix wi => ∃ i : Nat, i ≤ 500 ∧ ix = .int .i64 i ∧ Hid (Below W1.heap.size W1 wi)) (fun ix _ => 500 - (intOf ix).toNat)
          case atStart => exact ⟨0, by omega, rfl, hb⟩
          case round =>
            obtain ⟨i, hi, rfl, HBI⟩ := hrel
            by_cases hil : i < 500
            · have hcall := sh3 E3 i g3 y3 W1 wr X3.out HBI.out (by omega) (by omega) h31 h32 (S3.out i (by omega))
              have HCALL := Lib.hid hcall; clear hcall
              have hiy : (i : Int) ≤ (y3 : Int) := by omega
              go_wp2_with fail
              with_reducible refine HCALL.out.mono ?_
              rintro e w8 ⟨v8, u8, rfl, hb8⟩
              have HB8 := Lib.hid (Bl HBI.out hb8)
              clear hb8
              go_wp2_with fail
              go_roundw
              case rel => ((repeat apply Exists.intro); exact ⟨⟨i + 1, by omega, by go_num, HB8.out⟩, rfl⟩)
              case measure => simp [intOf]; omega
            · obtain rfl : i = 500 := by omega
              have hbw := HBI.out
              go_wp2_with fail
              go_roundw
              case rel => exact ⟨3 + 1, by omega, by go_num, hbw⟩
              case measure => simp [intOf]
      · have hcell := C4.out wr hb
        go_wp2_with fail
        go_loopw [57] (fun ix wi => ∃ i : Nat, i ≤ E4.length ∧ ix = .int .i64 i ∧ Hid (Below W1.heap.size W1 wi)) (fun ix _ => E4.length - (intOf ix).toNat)
        case atStart => exact ⟨0, by omega, rfl, hb⟩
        case round =>
          obtain ⟨i, hi, rfl, HBI⟩ := hrel
          by_cases hil : i < E4.length
          · have hcall := sh4 E4 i g4 y4 W1 wr X4.out HBI.out (by omega) (by omega) h41 h42 (S4.out i (by omega))
            have HCALL := Lib.hid hcall; clear hcall
            have hiy : (i : Int) ≤ (y4 : Int) := by omega
            go_wp2_with fail
            with_reducible refine HCALL.out.mono ?_
            rintro e w8 ⟨v8, u8, rfl, hb8⟩
            have HB8 := Lib.hid (Bl HBI.out hb8)
            clear hb8
            go_wp2_with fail
            go_roundw
            case rel => ((repeat apply Exists.intro); exact ⟨⟨i + 1, by omega, by go_num, HB8.out⟩, rfl⟩)
            case measure => simp [intOf]; omega
          · obtain rfl : i = E4.length := by omega
            have hbw := HBI.out
            go_wp2_with fail
            go_roundw
            case rel => exact ⟨4 + 1, by omega, by go_num, hbw⟩
            case measure => simp [intOf]
    · obtain rfl : k = 5 := by omega
      go_wp2_with fail
      refine (sanity_any wr).mono ?_
      rintro e w9 ⟨rfl, hb9⟩
      go_wp2_with fail
      go_ret
      exact ⟨rfl, HIN.out _ (Bl hb hb9)⟩
end Go.Proofs.Ythgpgdpndionjaa
