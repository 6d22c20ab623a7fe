/-
  THE WALK of the law WireCanonical.
-/
import Derived.Test.YthgpgdpndionjaaLawIRT
import Derived.Test.YthgpgdpndionjaaPlainY
import Derived.Test.YthgpgdpndionjaaWalkDecD
import Derived.Test.YthgpgdpndionjaaWalkDecI
namespace Go.Proofs.Ythgpgdpndionjaa
open Go.RowKit

/-- What the law's closure answers: where the error is none, the bytes are the consumed ones. -/
theorem is_any (l cs : List UInt8) (A A1 : Option Addr) (cap n1 c1 g L1 : Nat) (u : Nat) (er : Int) (w w0 : World) (hB : Below w0.heap.size w0 w) (hr : Rd w w.heap.size A (W.bc l)) (hc : l.length ≤ cap) (_hm : cap ≤ maxLen) (hcell : w.cell? ⟨g, 0, none⟩ = some (.slice A l.length cap))
    (hr1 : Rd w L1 A1 (W.bc cs)) (hn1 : n1 = cs.length) (hle : n1 ≤ 1000000) (hok : er = 0 → u ≤ l.length ∧ l.take u = cs) :
    Calls Try.prog 37 #[.slice A1 n1 c1, .int .i64 (u : Int), .int .i64 er, .pointer (some ⟨g, 0, none⟩)] w fun e w' => e = .returned (.bool true) ∧ Below w0.heap.size w0 w' ∧ w.grownBy w' none := by
  subst hn1
  by_cases he : er = 0
  · subst he
    obtain ⟨h1, h2⟩ := hok rfl
    have hS := same_any cs (l.take u) A1 A cs.length u c1 cap _ _ w hr1 (by rw [← W.bc_take]; exact hr.take u) rfl (by rw [List.length_take]; omega) (by unfold maxLen; omega)
    rw [decide_eq_true h2.symm] at hS
    have HS := Lib.hid hS
    clear hS h2 hok
    rcases Nat.eq_zero_or_pos u with rfl | hu0
    · go_enter Try.func37, Try.ntmps37
      go_wp2_with fail
      all_goals
        with_reducible refine HS.out.mono ?_
        rintro e w2 ⟨rfl, nq, rfl⟩
        go_wp2_with fail
        go_ret
        exact ⟨rfl, ⟨hB.os, hB.tape, hB.output, hB.size, hB.block⟩, ⟨rfl, rfl, rfl, Nat.le_refl _, fun _ _ _ => rfl⟩⟩
    · have hu1 : (0 : Int) < (u : Int) := by omega
      go_enter Try.func37, Try.ntmps37
      go_wp2_with fail
      all_goals
        with_reducible refine HS.out.mono ?_
        rintro e w2 ⟨rfl, nq, rfl⟩
        go_wp2_with fail
        go_ret
        exact ⟨rfl, ⟨hB.os, hB.tape, hB.output, hB.size, hB.block⟩, ⟨rfl, rfl, rfl, Nat.le_refl _, fun _ _ _ => rfl⟩⟩
  · have hne : (er != 0) = true := by simp [he]
    go_enter Try.func37, Try.ntmps37
    go_wp2_with fail
    go_ret
    exact ⟨rfl, hB, World.grownBy.refl _ _⟩

theorem own_grown {w w' : World} {base e size n : Nat} {v : Value} {xs : List Value} (h : w.ownsRow base e size v n xs) (hg : w.grownBy w' none) : w'.ownsRow base e size v n xs := h.kept (row := none) hg (by cases hv : v.ownBlock <;> simp)

namespace W
theorem seqD_err {α : Type} (d : List UInt8 → α × Nat × Int) (b : List UInt8) : ∀ (k p : Nat) (acc : List α), (seqD d b k p acc).2.2 ≠ 0 → (seqD d b k p acc).1 = []
  | 0, p, acc, h => by simp [seqD] at h
  | k + 1, p, acc, h => by
    simp only [seqD] at h ⊢
    by_cases h0 : (d (b.drop p)).2.2 = 0
    · rw [if_neg (by simp [h0])] at h ⊢
      exact seqD_err d b k _ _ h
    · rw [if_pos h0]
theorem decL_err {α : Type} {d : List UInt8 → α × Nat × Int} {b : List UInt8} (h : (decL d b).2.2 ≠ 0) : (decL d b).1 = [] := by
  unfold decL at h ⊢
  by_cases hc : (cnt b 1).2.2 = 0
  · rw [if_neg (by simp [hc])] at h ⊢
    exact seqD_err d b _ _ _ h
  · rw [if_pos hc]
theorem mem_flat {α : Type} (f : α → List UInt8) : ∀ (l : List α) (x : α), x ∈ l → (f x).length ≤ (l.flatMap f).length
  | y :: r, x, h => by
    simp only [List.flatMap_cons, List.length_append]
    rcases List.mem_cons.1 h with rfl | h
    · omega
    · have := mem_flat f r x h
      omega
theorem can_list {α : Type} {e : α → List UInt8} {d : List UInt8 → α × Nat × Int} {V : α → Prop} (h : Codec e d V) (b : List UInt8) (hb : b.length ≤ 2000) :
    (∀ x ∈ (decL d b).1, V x) ∧ (enc (decL d b).1.length ++ (decL d b).1.flatMap e).length ≤ 2009 ∧ (decL d b).1.length ≤ 2009 ∧ ((decL d b).2.2 = 0 → (decL d b).2.1 ≤ b.length ∧ b.take (decL d b).2.1 = enc (decL d b).1.length ++ (decL d b).1.flatMap e) := by
  by_cases h0 : (decL d b).2.2 = 0
  · obtain ⟨h1, h2, h3⟩ := decL_canon h b h0
    have h4 := flat_len h _ h1
    have h5 : (enc (decL d b).1.length ++ (decL d b).1.flatMap e).length ≤ 2009 := by rw [← h3, List.length_take]; omega
    refine ⟨h1, h5, ?_, fun _ => ⟨h2, h3⟩⟩
    rw [List.length_append] at h5
    omega
  · rw [decL_err h0]
    refine ⟨by simp, ?_, by simp, fun h => absurd h h0⟩
    have := (enc_le ((0 : Nat) : Int)).2
    simp only [List.length_nil, List.flatMap_nil, List.append_nil]
    omega
theorem can_int (b : List UInt8) : Is64 (dec b).1 ∧ ((dec b).2.2 = 0 → (dec b).2.1 ≤ b.length ∧ b.take (dec b).2.1 = enc (dec b).1) := by
  refine ⟨dec_range b, fun h => ?_⟩
  obtain ⟨_, h2, h3⟩ := codec_int.canon b h
  exact ⟨h2, h3⟩
theorem can_str (b : List UInt8) (hb : b.length ≤ 2000) : (decT b).1.size ≤ 2009 ∧ (encB (decT b).1.data.toList).length ≤ 2020 ∧ ((decT b).2.2 = 0 → (decT b).2.1 ≤ b.length ∧ b.take (decT b).2.1 = encB (decT b).1.data.toList) := by
  have hs : (decT b).1.size = (decB b).1.length := rfl
  have ht : (decT b).1.data.toList = (decB b).1 := rfl
  rw [hs, ht]
  have hl : (decB b).1.length ≤ 2000 := by
    unfold decB
    split
    · simp
    · simp only [List.length_take, List.length_drop]; omega
  refine ⟨by omega, ?_, fun h => ?_⟩
  · rw [encB_length]
    have := (enc_le (decB b).1.length).2
    omega
  · exact (decB_canon b h).2
theorem can_dig (b : List UInt8) (hb : b.length ≤ 2000) : (decD b).1.length = (decD b).1.length / 16 * 16 ∧ (decD b).1.length ≤ 2009 ∧ ((decD b).2.2 = 0 → (decD b).2.1 ≤ b.length ∧ b.take (decD b).2.1 = enc ((decD b).1.length / 16 : Nat) ++ (decD b).1) := by
  by_cases h0 : (decD b).2.2 = 0
  · obtain ⟨n, h1, h2, h3, h4⟩ := decD_canon b h0
    have h5 : (decD b).1.length / 16 = n := by omega
    rw [h5]
    refine ⟨h1, ?_, fun _ => ⟨h3, h4⟩⟩
    have h6 := congrArg List.length h4
    rw [List.length_take, List.length_append] at h6
    omega
  · have h1 : (decD b).1 = [] := by
      unfold decD at h0 ⊢
      by_cases hc : (cnt b 16).2.2 = 0
      · rw [if_neg (by simp [hc])] at h0
        exact absurd rfl h0
      · rw [if_pos hc]
    rw [h1]
    exact ⟨rfl, by simp, fun h => absurd h h0⟩
end W

set_option maxRecDepth 100000 in
set_option maxHeartbeats 2000000 in
theorem law_can (A : Option Addr) (len cap : Nat) (l : List UInt8) (w : World) (hb : IsB w A len cap l) :
    Calls Try.prog 7 #[.slice A len cap] w fun e w' => e = .returned (.bool true) ∧ Below w.heap.size w w' := by
  obtain ⟨hr, rfl, hc, hm⟩ := hb
  have HR := Lib.hid hr; clear hr
  have hm2 := hm
  unfold maxLen at hm
  by_cases hbig : 2000 < l.length
  · go_enter Try.func7, Try.ntmps7
    go_wp2_with fail
    refine (sanity_step w _ ((Below.refl _ _).alloc (Nat.le_refl _) _)).mono ?_
    rintro e w1 ⟨rfl, hb1⟩
    go_wp2_with fail
    go_ret
    exact ⟨rfl, hb1⟩
  · have hl : l.length ≤ 2000 := by omega
    obtain ⟨W0, hW0⟩ : ∃ W0, W0 = w.alloc (.cells #[.slice A l.length cap] 28) := ⟨_, rfl⟩
    have h0 : Below w.heap.size w W0 := by rw [hW0]; exact (Below.refl _ _).alloc (Nat.le_refl _) _
    have hz0 : W0.heap.size = w.heap.size + 1 := by rw [hW0]; simp
    have hc0 : W0.cell? ⟨w.heap.size, 0, none⟩ = some (.slice A l.length cap) := by rw [hW0]; simp
    have hin : ∀ wk, Below W0.heap.size W0 wk → Below w.heap.size w wk := fun wk h => h0.trans (h.mono (by omega))
    have hcel : ∀ wk, Below W0.heap.size W0 wk → wk.cell? ⟨w.heap.size, 0, none⟩ = some (.slice A l.length cap) := fun wk h => by rw [← hc0]; exact h.cell (by simp only; omega)
    have hrd : ∀ wk, Below W0.heap.size W0 wk → Rd wk wk.heap.size A (W.bc l) := fun wk h => (HR.out.below (hin wk h) (Nat.le_refl _)).mono (by have := h.size; omega)
    have HW0 := Lib.hid hW0; clear hW0
    have HIN := Lib.hid hin; have HCEL := Lib.hid hcel; have HRD := Lib.hid hrd
    clear hin hcel hrd
    obtain ⟨n1, u1, e1, hd1⟩ : ∃ n u e, W.dec l = (n, u, e) := ⟨_, _, _, rfl⟩
    obtain ⟨n2, u2, e2, hd2⟩ : ∃ n u e, W.decT l = (n, u, e) := ⟨_, _, _, rfl⟩
    obtain ⟨n3, u3, e3, hd3⟩ : ∃ n u e, W.decI l = (n, u, e) := ⟨_, _, _, rfl⟩
    obtain ⟨n4, u4, e4, hd4⟩ : ∃ n u e, W.decS l = (n, u, e) := ⟨_, _, _, rfl⟩
    obtain ⟨n5, u5, e5, hd5⟩ : ∃ n u e, W.decD l = (n, u, e) := ⟨_, _, _, rfl⟩
    have k1 := W.can_int l
    have k2 := W.can_str l hl
    have k3 := W.can_list W.codec_int l hl
    have k4 := W.can_list W.codec_str l hl
    have k5 := W.can_dig l hl
    rw [hd1] at k1
    rw [hd2] at k2
    rw [show W.decL W.dec l = (n3, u3, e3) from hd3] at k3
    rw [show W.decL W.decT l = (n4, u4, e4) from hd4] at k4
    rw [hd5] at k5
    have K1 := Lib.hid k1; have K2 := Lib.hid k2; have K3 := Lib.hid k3; have K4 := Lib.hid k4; have K5 := Lib.hid k5
    have HD1 := Lib.hid hd1; have HD2 := Lib.hid hd2; have HD3 := Lib.hid hd3; have HD4 := Lib.hid hd4; have HD5 := Lib.hid hd5
    clear k1 k2 k3 k4 k5 hd1 hd2 hd3 hd4 hd5
    have HB := Lib.hid (show Below W0.heap.size W0 W0 from Below.refl _ _)
    go_enter Try.func7, Try.ntmps7
    go_wp2_with fail
    rw [← HW0.out]
    with_reducible refine (getint_any l A l.length cap _ W0 (HRD.out _ HB.out) rfl hc hm2).mono ?_
    rintro e w1 ⟨rfl, rfl⟩
    rw [HD1.out]
    have hc1 := hc0
    go_wp2_with fail
    with_reducible refine (wgetbytes_b l A l.length cap _ W0 (HRD.out _ HB.out) rfl hc hm2 n2 u2 e2 HD2.out).mono ?_
    rintro e w2 ⟨rfl, hb2⟩
    have HB2 := Lib.hid (Bl HB.out hb2)
    clear hb2 hc0 hc1
    have hc2 := HCEL.out _ HB2.out
    go_wp2_with fail
    with_reducible refine (wgetints_any l A l.length cap _ w2 (HRD.out _ HB2.out) (Nat.le_refl _) rfl hc hm2 (by omega)).mono ?_
    rw [HD3.out]
    rintro e w3 ⟨v3, rfl, hown3, hb3⟩
    have HB3 := Lib.hid (Bl HB2.out hb3)
    obtain ⟨A3, c3, rfl, h31, h32, _, _⟩ := own_form hown3
    have HO3 := Lib.hid hown3
    clear hb3 hc2 hown3
    have hc3 := HCEL.out _ HB3.out
    go_wp2_with fail
    with_reducible refine (wgetstrings_any l A l.length cap _ w3 (HRD.out _ HB3.out) (Nat.le_refl _) rfl hc hm2 (by omega)).mono ?_
    rw [HD4.out]
    rintro e w4 ⟨v4, rfl, hown4, hb4⟩
    have HB4 := Lib.hid (Bl HB3.out hb4)
    obtain ⟨A4, c4, rfl, h41, h42, _, _⟩ := own_form hown4
    have HO4 := Lib.hid hown4
    replace HO3 := Lib.hid (own_below HO3.out hb4)
    clear hb4 hc3 hown4
    have hc4 := HCEL.out _ HB4.out
    go_wp2_with fail
    with_reducible refine (wgetdigests_any l A l.length cap _ w4 (HRD.out _ HB4.out) (Nat.le_refl _) rfl hc hm2 (by omega)).mono ?_
    rw [HD5.out]
    rintro e w5 ⟨v5, rfl, hown5, hb5⟩
    have HB5 := Lib.hid (Bl HB4.out hb5)
    obtain ⟨A5, c5, rfl, h51, h52, _, _⟩ := own_form hown5
    have HO5 := Lib.hid hown5
    replace HO3 := Lib.hid (own_below HO3.out hb5)
    replace HO4 := Lib.hid (own_below HO4.out hb5)
    clear hb5 hc4 hown5
    have hc5 := HCEL.out _ HB5.out
    go_wp2_with fail
    with_reducible refine (sanity_any w5).mono ?_
    rintro e w6 ⟨rfl, hb6⟩
    have HB6 := Lib.hid (Bl HB5.out hb6)
    replace HO3 := Lib.hid (own_below HO3.out hb6)
    replace HO4 := Lib.hid (own_below HO4.out hb6)
    replace HO5 := Lib.hid (own_below HO5.out hb6)
    clear hb6 hc5
    go_wp2_with fail
    with_reducible refine (wint_any n1 w6 K1.out.1).mono ?_
    rintro e w7 ⟨v7, rfl, hown7, hb7⟩
    have HB7 := Lib.hid (Bl HB6.out hb7)
    obtain ⟨A7, c7, rfl, h71, h72, _, _⟩ := own_form hown7
    replace HO3 := Lib.hid (own_below HO3.out hb7)
    replace HO4 := Lib.hid (own_below HO4.out hb7)
    replace HO5 := Lib.hid (own_below HO5.out hb7)
    have HIS := Lib.hid (is_any l (W.enc n1) A A7 cap _ c7 w.heap.size _ u1 e1 w7 W0 HB7.out (HRD.out _ HB7.out) hc hm2 (HCEL.out _ HB7.out) (Rd.of_own hown7) rfl (by have := (W.enc_le n1).2; omega) (K1.out.2))
    clear hb7 hown7
    go_wp2_with fail
    with_reducible refine HIS.out.mono ?_
    rintro e w8 ⟨rfl, hb8, hg8⟩
    have HB8 := Lib.hid hb8
    replace HO3 := Lib.hid (own_grown HO3.out hg8)
    replace HO4 := Lib.hid (own_grown HO4.out hg8)
    replace HO5 := Lib.hid (own_grown HO5.out hg8)
    clear hb8 hg8 HIS
    go_wp2_with fail
    with_reducible refine (wbytes_any n2 w8 (by have := K2.out.1; omega)).mono ?_
    rintro e w9 ⟨v9, rfl, hown9, hb9⟩
    have HB9 := Lib.hid (Bl HB8.out hb9)
    obtain ⟨A9, c9, rfl, h91, h92, _, _⟩ := own_form hown9
    replace HO3 := Lib.hid (own_below HO3.out hb9)
    replace HO4 := Lib.hid (own_below HO4.out hb9)
    replace HO5 := Lib.hid (own_below HO5.out hb9)
    have HIS := Lib.hid (is_any l (W.encB n2.data.toList) A A9 cap _ c9 w.heap.size _ u2 e2 w9 W0 HB9.out (HRD.out _ HB9.out) hc hm2 (HCEL.out _ HB9.out) (Rd.of_own hown9) rfl (by have := K2.out.2.1; omega) (K2.out.2.2))
    clear hb9 hown9
    go_wp2_with fail
    with_reducible refine HIS.out.mono ?_
    rintro e w10 ⟨rfl, hb10, hg10⟩
    have HB10 := Lib.hid hb10
    replace HO3 := Lib.hid (own_grown HO3.out hg10)
    replace HO4 := Lib.hid (own_grown HO4.out hg10)
    replace HO5 := Lib.hid (own_grown HO5.out hg10)
    clear hb10 hg10 HIS
    go_wp2_with fail
    with_reducible refine (wints_any n3 A3 n3.length c3 _ w10 (Rd.of_own HO3.out) (Nat.le_refl _) rfl K3.out.1 (by have := K3.out.2.2.1; omega) (by have := K3.out.2.1; unfold W.encI; omega)).mono ?_
    rintro e w11 ⟨v11, rfl, hown11, hb11⟩
    have HB11 := Lib.hid (Bl HB10.out hb11)
    obtain ⟨A11, c11, rfl, h111, h112, _, _⟩ := own_form hown11
    replace HO4 := Lib.hid (own_below HO4.out hb11)
    replace HO5 := Lib.hid (own_below HO5.out hb11)
    have HIS := Lib.hid (is_any l (W.encI n3) A A11 cap _ c11 w.heap.size _ u3 e3 w11 W0 HB11.out (HRD.out _ HB11.out) hc hm2 (HCEL.out _ HB11.out) (Rd.of_own hown11) rfl (by have := K3.out.2.1; unfold W.encI; omega) (K3.out.2.2.2))
    clear hb11 hown11
    go_wp2_with fail
    with_reducible refine HIS.out.mono ?_
    rintro e w12 ⟨rfl, hb12, hg12⟩
    have HB12 := Lib.hid hb12
    replace HO4 := Lib.hid (own_grown HO4.out hg12)
    replace HO5 := Lib.hid (own_grown HO5.out hg12)
    clear hb12 hg12 HIS
    go_wp2_with fail
    with_reducible refine (wstrings_any n4 A4 n4.length c4 _ w12 (Rd.of_own HO4.out) (Nat.le_refl _) rfl (by intro x hx; have h1 := W.mem_flat (fun s : ByteArray => W.encB s.data.toList) n4 x hx; have h2 := K4.out.2.1; rw [List.length_append] at h2; rw [W.encB_length] at h1; have h3 : x.data.toList.length = x.size := rfl; omega) (by have := K4.out.2.2.1; omega) (by have := K4.out.2.1; unfold W.encS; omega)).mono ?_
    rintro e w13 ⟨v13, rfl, hown13, hb13⟩
    have HB13 := Lib.hid (Bl HB12.out hb13)
    obtain ⟨A13, c13, rfl, h131, h132, _, _⟩ := own_form hown13
    replace HO5 := Lib.hid (own_below HO5.out hb13)
    have HIS := Lib.hid (is_any l (W.encS n4) A A13 cap _ c13 w.heap.size _ u4 e4 w13 W0 HB13.out (HRD.out _ HB13.out) hc hm2 (HCEL.out _ HB13.out) (Rd.of_own hown13) rfl (by have := K4.out.2.1; unfold W.encS; omega) (K4.out.2.2.2))
    clear hb13 hown13
    go_wp2_with fail
    with_reducible refine HIS.out.mono ?_
    rintro e w14 ⟨rfl, hb14, hg14⟩
    have HB14 := Lib.hid hb14
    replace HO5 := Lib.hid (own_grown HO5.out hg14)
    clear hb14 hg14 HIS
    go_wp2_with fail
    have hcon := (wdigests_any n5 A5 (n5.length / 16) c5 _ w14 (Rd.of_own HO5.out) (Nat.le_refl _) K5.out.1 (by have := K5.out.2.1; omega))
    obtain ⟨E5, hE5⟩ : ∃ E, E = W.enc ((n5.length / 16 : Nat) : Int) ++ n5 := ⟨_, rfl⟩
    rw [← hE5] at hcon
    have hle5 : E5.length ≤ 1000000 := by rw [hE5]; have := K5.out.2.1; have := (W.enc_le (n5.length / 16 : Nat)).2; rw [List.length_append]; omega
    have hok5 : e5 = 0 → u5 ≤ l.length ∧ l.take u5 = E5 := by rw [hE5]; exact K5.out.2.2
    clear hE5
    with_reducible refine hcon.mono ?_
    clear hcon
    rintro e w15 ⟨v15, rfl, hown15, hb15⟩
    have HB15 := Lib.hid (Bl HB14.out hb15)
    obtain ⟨A15, c15, rfl, h151, h152, _, _⟩ := own_form hown15
    have HIS := Lib.hid (is_any l E5 A A15 cap _ c15 w.heap.size _ u5 e5 w15 W0 HB15.out (HRD.out _ HB15.out) hc hm2 (HCEL.out _ HB15.out) (Rd.of_own hown15) rfl hle5 hok5)
    clear hb15 hown15
    go_wp2_with fail
    with_reducible refine HIS.out.mono ?_
    rintro e w16 ⟨rfl, hb16, hg16⟩
    have HB16 := Lib.hid hb16
    clear hb16 hg16 HIS
    go_wp2_with fail
    go_ret
    exact ⟨rfl, HIN.out _ HB16.out⟩
end Go.Proofs.Ythgpgdpndionjaa
