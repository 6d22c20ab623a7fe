/-
  THE WALKS of the reference's count and GetBytes.
-/
import Derived.Test.YtgdibcgphjmofaaWalkRGet
import Derived.Test.YtgdibcgphjmofaaPlainX
import Derived.Test.YtgdibcgphjmofaaWalkCnt
namespace Go.Proofs.Ytgdibcgphjmofaa
set_option maxHeartbeats 400000
open Go.RowKit
/-- What the reference's count returns: nothing where it errs. -/
def rc (r : Int × Nat × Int) : Int × Nat × Int := if r.2.2 ≠ 0 then (0, 0, r.2.2) else r
theorem rcount1_any (l : List UInt8) (A : Option Addr) (n c L : Nat) (w : World) (hr : Rd w L A (W.bc l)) (hL : L ≤ w.heap.size) (hn : n = l.length) (hc : n ≤ c) (hm : c ≤ maxLen) (hlen : n ≤ 4398046511104) :
    Calls Try.prog 54 #[.slice A n c, .int .i64 1] w (DecEndsB (rc (W.cnt l 1)) w) := by
  have hat := W.dec_at_le l
  have hrg := W.dec_range l
  have hcon := rgetint_any l A n c L w hr hL hn hc hm
  have hcd : W.cnt l 1 = if (W.dec l).2.2 ≠ 0 then W.dec l
      else if (W.dec l).1 < 0 then ((W.dec l).1, (W.dec l).2.1, 2)
      else if ((l.length - (W.dec l).2.1) / 1 : Nat) < (W.dec l).1 then ((W.dec l).1, (W.dec l).2.1, 3)
      else W.dec l := rfl
  obtain ⟨d1, d2, d3, hd⟩ : ∃ d1 d2 d3, W.dec l = (d1, d2, d3) := ⟨_, _, _, rfl⟩
  rw [hd] at hat hrg hcon hcd
  simp only at hat hrg hcd
  have HCON := Lib.hid hcon; clear hcon hd
  have hlo := hrg.1
  have hhi := hrg.2
  clear hrg
  subst hn
  unfold maxLen at hm
  by_cases he : d3 = 0
  · subst he
    by_cases hneg : d1 < 0
    · rw [if_neg (by simp), if_pos hneg] at hcd
      have HCD := Lib.hid hcd; clear hcd
      go_enter Try.func54, Try.ntmps54
      go_wp2_with (go_at_call 55; (with_reducible refine HCON.out.mono ?_); rintro e w' ⟨rfl, hb⟩)
      go_ret3
      rw [HCD.out]
      exact ⟨rfl, ‹Below w.heap.size w _›⟩
    · obtain ⟨k, rfl⟩ : ∃ k : Nat, d1 = (k : Int) := ⟨d1.toNat, by omega⟩
      rw [if_neg (by simp), if_neg hneg] at hcd
      by_cases hbig : (l.length - d2) / 1 < k
      · rw [if_pos (by omega)] at hcd
        have HCD := Lib.hid hcd; clear hcd
        have hx : l.length - d2 < k * 1 := by omega
        go_enter Try.func54, Try.ntmps54
        go_wp2_with (go_at_call 55; (with_reducible refine HCON.out.mono ?_); rintro e w' ⟨rfl, hb⟩)
        all_goals first
          | (exfalso; omega)
          | (go_ret3
             rw [HCD.out]
             exact ⟨rfl, ‹Below w.heap.size w _›⟩)
      · rw [if_neg (by omega)] at hcd
        have HCD := Lib.hid hcd; clear hcd
        have hx : k * 1 ≤ l.length - d2 := by omega
        have hx2 : k ≤ l.length := by omega
        go_enter Try.func54, Try.ntmps54
        go_wp2_with (go_at_call 55; (with_reducible refine HCON.out.mono ?_); rintro e w' ⟨rfl, hb⟩)
        all_goals first
          | (exfalso; omega)
          | (go_ret3
             rw [HCD.out]
             exact ⟨rfl, ‹Below w.heap.size w _›⟩)
  · have hne : (d3 != 0) = true := by simp [he]
    rw [if_pos he] at hcd
    have HCD := Lib.hid (show rc (W.cnt l 1) = (0, 0, d3) from by rw [hcd]; simp [rc, he]); clear hcd
    go_enter Try.func54, Try.ntmps54
    go_wp2_with (go_at_call 55; (with_reducible refine HCON.out.mono ?_); rintro e w' ⟨rfl, hb⟩)
    go_ret3
    rw [HCD.out]
    exact ⟨rfl, ‹Below w.heap.size w _›⟩
theorem rcnt1_ok (l : List UInt8) (A : Option Addr) (n c L : Nat) (K d2 : Nat) (w : World) (hr : Rd w L A (W.bc l)) (hL : L ≤ w.heap.size) (hn : n = l.length) (hc : n ≤ c) (hm : c ≤ maxLen) (hlen : n ≤ 4398046511104) (h : W.cnt l 1 = ((K : Int), d2, 0)) :
    Calls Try.prog 54 #[.slice A n c, .int .i64 1] w fun e w' => e = .returned (.tuple #[.int .i64 (K : Int), .int .i64 (d2 : Int), .int .i64 0]) ∧ Below w.heap.size w w' :=
  (rcount1_any l A n c L w hr hL hn hc hm hlen).mono fun e w' h1 => by
    obtain ⟨rfl, h2⟩ := h1
    rw [h]
    exact ⟨rfl, h2⟩
theorem rcnt1_err (l : List UInt8) (A : Option Addr) (n c L : Nat) (er : Int) (w : World) (hr : Rd w L A (W.bc l)) (hL : L ≤ w.heap.size) (hn : n = l.length) (hc : n ≤ c) (hm : c ≤ maxLen) (hlen : n ≤ 4398046511104) (h : (W.cnt l 1).2.2 = er) (h0 : er ≠ 0) :
    Calls Try.prog 54 #[.slice A n c, .int .i64 1] w fun e w' => e = .returned (.tuple #[.int .i64 0, .int .i64 0, .int .i64 er]) ∧ Below w.heap.size w w' :=
  (rcount1_any l A n c L w hr hL hn hc hm hlen).mono fun e w' h1 => by
    obtain ⟨rfl, h2⟩ := h1
    unfold rc
    rw [h, if_pos h0]
    exact ⟨rfl, h2⟩
theorem rcount16_any (l : List UInt8) (A : Option Addr) (n c L : Nat) (w : World) (hr : Rd w L A (W.bc l)) (hL : L ≤ w.heap.size) (hn : n = l.length) (hc : n ≤ c) (hm : c ≤ maxLen) (hlen : n ≤ 4398046511104) :
    Calls Try.prog 54 #[.slice A n c, .int .i64 16] w (DecEndsB (rc (W.cnt l 16)) w) := by
  have hat := W.dec_at_le l
  have hrg := W.dec_range l
  have hcon := rgetint_any l A n c L w hr hL hn hc hm
  have hcd : W.cnt l 16 = if (W.dec l).2.2 ≠ 0 then W.dec l
      else if (W.dec l).1 < 0 then ((W.dec l).1, (W.dec l).2.1, 2)
      else if ((l.length - (W.dec l).2.1) / 16 : Nat) < (W.dec l).1 then ((W.dec l).1, (W.dec l).2.1, 3)
      else W.dec l := rfl
  obtain ⟨d1, d2, d3, hd⟩ : ∃ d1 d2 d3, W.dec l = (d1, d2, d3) := ⟨_, _, _, rfl⟩
  rw [hd] at hat hrg hcon hcd
  simp only at hat hrg hcd
  have HCON := Lib.hid hcon; clear hcon hd
  have hlo := hrg.1
  have hhi := hrg.2
  clear hrg
  subst hn
  unfold maxLen at hm
  by_cases he : d3 = 0
  · subst he
    by_cases hneg : d1 < 0
    · rw [if_neg (by simp), if_pos hneg] at hcd
      have HCD := Lib.hid hcd; clear hcd
      go_enter Try.func54, Try.ntmps54
      go_wp2_with (go_at_call 55; (with_reducible refine HCON.out.mono ?_); rintro e w' ⟨rfl, hb⟩)
      go_ret3
      rw [HCD.out]
      exact ⟨rfl, ‹Below w.heap.size w _›⟩
    · obtain ⟨k, rfl⟩ : ∃ k : Nat, d1 = (k : Int) := ⟨d1.toNat, by omega⟩
      rw [if_neg (by simp), if_neg hneg] at hcd
      by_cases hbig : (l.length - d2) / 16 < k
      · rw [if_pos (by omega)] at hcd
        have HCD := Lib.hid hcd; clear hcd
        have hx : l.length - d2 < k * 16 := by omega
        go_enter Try.func54, Try.ntmps54
        go_wp2_with (go_at_call 55; (with_reducible refine HCON.out.mono ?_); rintro e w' ⟨rfl, hb⟩)
        all_goals first
          | (exfalso; omega)
          | (go_ret3
             rw [HCD.out]
             exact ⟨rfl, ‹Below w.heap.size w _›⟩)
      · rw [if_neg (by omega)] at hcd
        have HCD := Lib.hid hcd; clear hcd
        have hx : k * 16 ≤ l.length - d2 := by omega
        have hx2 : k ≤ l.length := by omega
        go_enter Try.func54, Try.ntmps54
        go_wp2_with (go_at_call 55; (with_reducible refine HCON.out.mono ?_); rintro e w' ⟨rfl, hb⟩)
        all_goals first
          | (exfalso; omega)
          | (go_ret3
             rw [HCD.out]
             exact ⟨rfl, ‹Below w.heap.size w _›⟩)
  · have hne : (d3 != 0) = true := by simp [he]
    rw [if_pos he] at hcd
    have HCD := Lib.hid (show rc (W.cnt l 16) = (0, 0, d3) from by rw [hcd]; simp [rc, he]); clear hcd
    go_enter Try.func54, Try.ntmps54
    go_wp2_with (go_at_call 55; (with_reducible refine HCON.out.mono ?_); rintro e w' ⟨rfl, hb⟩)
    go_ret3
    rw [HCD.out]
    exact ⟨rfl, ‹Below w.heap.size w _›⟩
theorem rcnt16_ok (l : List UInt8) (A : Option Addr) (n c L : Nat) (K d2 : Nat) (w : World) (hr : Rd w L A (W.bc l)) (hL : L ≤ w.heap.size) (hn : n = l.length) (hc : n ≤ c) (hm : c ≤ maxLen) (hlen : n ≤ 4398046511104) (h : W.cnt l 16 = ((K : Int), d2, 0)) :
    Calls Try.prog 54 #[.slice A n c, .int .i64 16] w fun e w' => e = .returned (.tuple #[.int .i64 (K : Int), .int .i64 (d2 : Int), .int .i64 0]) ∧ Below w.heap.size w w' :=
  (rcount16_any l A n c L w hr hL hn hc hm hlen).mono fun e w' h1 => by
    obtain ⟨rfl, h2⟩ := h1
    rw [h]
    exact ⟨rfl, h2⟩
theorem rcnt16_err (l : List UInt8) (A : Option Addr) (n c L : Nat) (er : Int) (w : World) (hr : Rd w L A (W.bc l)) (hL : L ≤ w.heap.size) (hn : n = l.length) (hc : n ≤ c) (hm : c ≤ maxLen) (hlen : n ≤ 4398046511104) (h : (W.cnt l 16).2.2 = er) (h0 : er ≠ 0) :
    Calls Try.prog 54 #[.slice A n c, .int .i64 16] w fun e w' => e = .returned (.tuple #[.int .i64 0, .int .i64 0, .int .i64 er]) ∧ Below w.heap.size w w' :=
  (rcount16_any l A n c L w hr hL hn hc hm hlen).mono fun e w' h1 => by
    obtain ⟨rfl, h2⟩ := h1
    unfold rc
    rw [h, if_pos h0]
    exact ⟨rfl, h2⟩
theorem rgetbytes_b (l : List UInt8) (A : Option Addr) (n c L : Nat) (w : World) (hr : Rd w L A (W.bc l)) (hL : L ≤ w.heap.size) (hn : n = l.length) (hc : n ≤ c) (hm : c ≤ maxLen) (hlen : n ≤ 4398046511104) (x : ByteArray) (u : Nat) (er : Int) (hd : W.decT l = (x, u, er)) :
    Calls Try.prog 50 #[.slice A n c] w fun e w' => e = .returned (.tuple #[.string x, .int .i64 (u : Int), .int .i64 er]) ∧ Below w.heap.size w w' := by
  have hdb : W.decB l = if (W.cnt l 1).2.2 ≠ 0 then ([], 0, (W.cnt l 1).2.2) else ((l.drop (W.cnt l 1).2.1).take (W.cnt l 1).1.toNat, (W.cnt l 1).2.1 + (W.cnt l 1).1.toNat, 0) := rfl
  have hdd : x = ⟨(W.decB l).1.toArray⟩ ∧ u = (W.decB l).2.1 ∧ er = (W.decB l).2.2 := by
    unfold W.decT at hd
    injection hd with h1 h2
    injection h2 with h2 h3
    exact ⟨h1.symm, h2.symm, h3.symm⟩
  obtain ⟨rfl, rfl, rfl⟩ := hdd
  clear hd
  by_cases he : (W.cnt l 1).2.2 = 0
  · obtain ⟨k, hk1, hk, _⟩ := W.cnt_bound he
    obtain ⟨d2, hd2⟩ : ∃ d2, d2 = (W.cnt l 1).2.1 := ⟨_, rfl⟩
    have hcnt : W.cnt l 1 = ((k : Int), d2, 0) := by rw [← hk1, hd2, ← he]
    rw [if_neg (by simp [he]), hk1, ← hd2, Int.toNat_natCast] at hdb
    rw [← hd2, Nat.mul_one] at hk
    have HCON := Lib.hid (rcnt1_ok l A n c L k d2 w hr hL hn hc hm hlen hcnt)
    clear hcnt hd2 hk1 he
    subst hn
    rw [hdb]
    clear hdb
    unfold maxLen at hm
    have hr1 := fun (w1 : World) (hb : Below w.heap.size w w1) => ((hr.below hb hL).cut (k := d2) (cap := c) (by simp; omega))
    have hcv : ∀ w1, Below w.heap.size w w1 → (convert 33 9 (.slice (if c = d2 then A else A.map (·.add d2)) k (c - d2))).run Try.prog w1 = .ok (.string ⟨((l.drop d2).take k).toArray⟩) w1 := by
      intro w1 hb
      have h1 := hr1 w1 hb
      rw [W.bc_drop] at h1
      have h2 := h1.take k
      rw [W.bc_take] at h2
      exact run_string_rd h2 k (c - d2) (by simp; omega)
    have HCV := Lib.hid hcv
    clear hr1 hcv
    go_enter Try.func50, Try.ntmps50
    go_wp2_with (go_at_call 54; (with_reducible refine HCON.out.mono ?_); rintro e w' ⟨rfl, hb⟩; have hcv := HCV.out _ hb)
    all_goals
      go_ret3
      exact ⟨rfl, ‹Below w.heap.size w _›⟩
  · rw [if_pos he] at hdb
    obtain ⟨er, her⟩ : ∃ er, er = (W.cnt l 1).2.2 := ⟨_, rfl⟩
    have HCON := Lib.hid (rcnt1_err l A n c L er w hr hL hn hc hm hlen her.symm (by rw [her]; exact he))
    rw [hdb, ← her]
    rw [← her] at he
    have hne : (er != 0) = true := by simp [he]
    clear hdb her
    subst hn
    unfold maxLen at hm
    go_enter Try.func50, Try.ntmps50
    go_wp2_with (go_at_call 54; (with_reducible refine HCON.out.mono ?_); rintro e w' ⟨rfl, hb⟩)
    go_ret3
    exact ⟨rfl, ‹Below w.heap.size w _›⟩
theorem rgetint_b (l : List UInt8) (A : Option Addr) (n c L : Nat) (w : World) (hr : Rd w L A (W.bc l)) (hL : L ≤ w.heap.size) (hn : n = l.length) (hc : n ≤ c) (hm : c ≤ maxLen) (_hlen : n ≤ 4398046511104) (x : Int) (u : Nat) (er : Int) (hd : W.dec l = (x, u, er)) :
    Calls Try.prog 55 #[.slice A n c] w fun e w' => e = .returned (.tuple #[.int .i64 x, .int .i64 (u : Int), .int .i64 er]) ∧ Below w.heap.size w w' :=
  (rgetint_any l A n c L w hr hL hn hc hm).mono fun e w' h1 => by
    rw [hd] at h1
    exact h1
end Go.Proofs.Ytgdibcgphjmofaa
