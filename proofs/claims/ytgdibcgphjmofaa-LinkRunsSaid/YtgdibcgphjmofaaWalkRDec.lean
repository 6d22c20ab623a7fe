/-
 THE WALKS of the reference's GetInts and GetStrings.
-/
import Derived.Test.YtgdibcgphjmofaaWalkRCnt
import Derived.Test.YtgdibcgphjmofaaWalkDecI
namespace Go.Proofs.Ytgdibcgphjmofaa
set_option maxHeartbeats 1000000
open Go.RowKit
set_option maxRecDepth 100000 in
theorem rgetints_any (l : List UInt8) (A : Option Addr) (n c L : Nat) (w : World) (hr : Rd w L A (W.bc l)) (hL : L ≤ w.heap.size) (hn : n = l.length) (hc : n ≤ c) (hm : c ≤ maxLen) (hlen : n ≤ 4398046511104) :
  Calls Try.prog 49 #[.slice A n c] w (DecLEnds 3 1 (ic (W.decI l).1) (W.decI l).1.length (W.decI l).2.1 (W.decI l).2.2 w) := by
 subst hn
 obtain ⟨i0, hi, hz0, hz1, hz2⟩ := info_parts info_int
 have hdl : W.decI l = if (W.cnt l 1).2.2 ≠ 0 then ([], 0, (W.cnt l 1).2.2) else W.seqD W.dec l (W.cnt l 1).1.toNat (W.cnt l 1).2.1 [] := rfl
 by_cases he : (W.cnt l 1).2.2 = 0
 rotate_left
 ·rw [if_pos he] at hdl
  have HCON := Lib.hid (rcnt1_err l A l.length c L (W.cnt l 1).2.2 w hr hL rfl hc hm hlen rfl he)
  obtain ⟨er, her⟩ : ∃ er, er = (W.cnt l 1).2.2 := ⟨_, rfl⟩
  rw [← her] at HCON hdl he
  have hne : (er != 0) = true := by simp [he]
  have HDL := Lib.hid hdl; clear hdl her
  go_enter Try.func49, Try.ntmps49
  go_wp2_with (go_at_call 54; (with_reducible refine HCON.out.mono ?_); rintro e w' ⟨rfl, hb⟩)
  go_ret3
  rw [HDL.out]
  exact ⟨_, rfl, World.ownsRow_nil _ _ _ _, ‹Below w.heap.size w _›⟩
 rw [if_neg (by simp [he])] at hdl
 obtain ⟨K, hK, hKl, _⟩ := W.cnt_bound he
 obtain ⟨d2, hd2⟩ : ∃ d2, d2 = (W.cnt l 1).2.1 := ⟨_, rfl⟩
 have hcnt : W.cnt l 1 = ((K : Int), d2, 0) := by rw [← hK, hd2, ← he]
 rw [hK, ← hd2, Int.toNat_natCast] at hdl
 rw [← hd2, Nat.mul_one] at hKl
 have HCON := Lib.hid (rcnt1_ok l A l.length c L K d2 w hr hL rfl hc hm hlen hcnt)
 have HDL := Lib.hid hdl
 clear hdl hd2 hK hcnt he
 have HR := Lib.hid hr; clear hr
 have HM := Lib.hid hm; clear hm
 go_enter Try.func49, Try.ntmps49
 go_wp2_with (go_at_call 54; (with_reducible refine HCON.out.mono ?_); rintro e w1 ⟨rfl, k1⟩)
 have k1 : Below w.heap.size w w1 := by assumption
 go_loopw [9, 8, 6] (fun ix v at_ wr => ∃ (k p : Nat) (acc : List Int), k ≤ K ∧ ix = .int .i64 k ∧ at_ = .int .i64 p ∧ p ≤ l.length ∧ Hid (acc.length = k ∧ W.decI l = W.seqD W.dec l (K - k) p acc) ∧ wr.ownsRow w.heap.size 3 1 v k (ic acc) ∧ Below w.heap.size w wr) (fun ix _ _ _ => K - (intOf ix).toNat)
 case atStart => exact ⟨0, d2, [], by omega, rfl, rfl, by omega, ⟨rfl, HDL.out⟩, World.ownsRow_nil _ _ _ _, k1⟩
 case round =>
  obtain ⟨k, p, acc, hk, rfl, rfl, hp, HS, hown, hnx⟩ := hrel
  by_cases hlt : k < K
  ·have hcm2 := HM.out
   have hr1 := (HR.out.below hnx hL).cut (k := p) (cap := c) (by rw [W.bc_length]; omega)
   rw [W.bc_drop] at hr1
   have hat := W.dec_at_le (l.drop p)
   rw [List.length_drop] at hat
   have hseq := HS.out.2
   rw [show K - k = (K - (k + 1)) + 1 from by omega] at hseq
   simp only [W.seqD] at hseq
   obtain ⟨x, u, er, hd⟩ : ∃ x u er, W.dec (l.drop p) = (x, u, er) := ⟨_, _, _, rfl⟩
   have HC2 := Lib.hid (rgetint_b (l.drop p) (if c = p then A else A.map (·.add p)) (l.length - p) (c - p) L _ hr1 (Nat.le_trans hL hnx.size) (by simp) (by omega) (by omega) (by omega) x u er hd)
   rw [hd] at hseq hat
   simp only at hseq hat
   have HSEQ := Lib.hid hseq
   have hempty : er = 0 → p < l.length := by
    intro h0
    rcases Nat.lt_or_ge p l.length with h1 | h1
    ·exact h1
    ·rw [List.drop_eq_nil_of_le h1] at hd
     have h2 : (W.dec []).2.2 = 3 := rfl
     rw [hd] at h2
     simp only at h2
     omega
   clear hcm2 hr1 hd hseq
   have hzr := hnx.size
   by_cases he2 : er = 0
   ·subst he2
    have hpl := hempty rfl
    have hcp : ¬ c = p := by omega
    clear hempty
    rw [if_neg hcp] at HC2
    go_wp2_with (first
     | (go_at_call 55; (with_reducible refine HC2.out.mono ?_); rintro e w2 ⟨rfl, k0⟩)
     | (at_builtin; have hb2z := Below.size (by assumption : Below wr.heap.size wr w2); refine wpList_append_own _ rfl (.tmp 38) (.tmp 40) _ rfl w.heap.size 3 i0 _ 1 8 Try.underlying23 hi hz0 hz1 hz2 rfl (by decide) _ _ _ rfl ((own_below hown (by assumption)).alloc _) ⟨_, 0, none⟩ 1 1 [.int .i64 x] rfl rfl (cell_one_new _ _ _) (ic_oneCell [x]) (by unfold maxLen; omega) (by omega) (by simp; omega) ?_))
    all_goals
     intro v' w3 hown3 hgrow _
     have k0 : Below wr.heap.size wr w2 := by assumption
     have hB : Below w.heap.size w w3 := ((hnx.trans (k0.mono hzr)).alloc (Nat.le_trans hzr k0.size) _).grown hgrow (by have := k0.size; simp; omega) (fun g hg => (hown.lt g hg).1)
     clear hgrow hown
     go_wp2
     go_roundw
     case rel =>
      refine ⟨k + 1, p + u, acc ++ [x], by omega, by go_num, by go_num, by omega, ⟨by rw [List.length_append, HS.out.1]; rfl, ?_⟩, ?_, hB⟩
      ·have h1 := HSEQ.out
       rw [if_neg (by simp)] at h1
       exact h1
      ·rw [ic_snoc]
       exact hown3
     case measure => simp [intOf]; omega
   ·have hne2 : (er != 0) = true := by simp [he2]
    clear hempty
    go_wp2_with (go_at_call 55; (with_reducible refine HC2.out.mono ?_); rintro e w2 ⟨rfl, k0⟩)
    all_goals
     go_ret3
     have h1 := HSEQ.out
     rw [if_pos he2] at h1
     rw [h1]
     have k0 : Below wr.heap.size wr w2 := by assumption
     exact ⟨_, rfl, World.ownsRow_nil _ _ _ _, hnx.trans (k0.mono hzr)⟩
  ·obtain rfl : k = K := by omega
   have hseq := HS.out.2
   rw [Nat.sub_self] at hseq
   simp only [W.seqD] at hseq
   have HSEQ := Lib.hid hseq; clear hseq
   go_wp2
   go_ret3
   rw [HSEQ.out]
   refine ⟨_, rfl, ?_, hnx⟩
   rw [HS.out.1]
   exact hown
end Go.Proofs.Ytgdibcgphjmofaa
