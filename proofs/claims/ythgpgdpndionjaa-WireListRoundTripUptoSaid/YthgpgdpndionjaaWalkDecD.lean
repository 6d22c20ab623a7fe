/-
  THE WALK of wire.GetDigests.
-/
import Derived.Test.YthgpgdpndionjaaWalkDec
import Derived.Test.YthgpgdpndionjaaWalkDig
namespace Go.Proofs.Ythgpgdpndionjaa
open Go.RowKit

theorem fold_at : ∀ (cs : List Value) (s : Nat) (Z : Array Value) (j : Nat), s + cs.length ≤ Z.size →
    ((cs.zipIdx s).foldl (fun a x => a.setIfInBounds x.2 x.1) Z)[j]? = if s ≤ j ∧ j < s + cs.length then cs[j - s]? else Z[j]?
  | [], s, Z, j, _ => by rw [if_neg (by simp)]; rfl
  | c :: r, s, Z, j, h => by
    simp only [List.length_cons] at h ⊢
    rw [List.zipIdx_cons, List.foldl_cons, fold_at r (s + 1) _ j (by simp; omega)]
    simp only [Array.getElem?_setIfInBounds]
    rcases Nat.lt_trichotomy j s with h1 | rfl | h1
    · rw [if_neg (by omega), if_neg (by omega), if_neg (by omega)]
    · rw [if_neg (by omega), if_pos rfl, if_pos (by omega), if_pos (by omega), Nat.sub_self]
      rfl
    · by_cases h2 : j < s + 1 + r.length
      · rw [if_pos (by omega), if_pos (by omega), show j - s = (j - (s + 1)) + 1 from by omega]
        rfl
      · rw [if_neg (by omega), if_neg (by omega), if_neg (by omega)]
theorem cells_fold (w : World) (Z : Array Value) (T : Nat) (cs : List Value) (h : cs.length ≤ Z.size) : ∀ j u, cs[j]? = some u → (w.alloc (.cells (List.foldl (fun cs x => cs.setIfInBounds x.snd x.fst) Z cs.zipIdx) T)).cell? ((⟨w.heap.size, 0, none⟩ : Addr).add j) = some u := fun j u hu => by
  have hj := (List.getElem?_eq_some_iff.1 hu).1
  rw [Addr.add_lit, cell_of_row _ _ _ _ T (0, 0) (heap_alloc_new w _), Nat.zero_add]
  have := fold_at cs 0 Z j (by omega)
  rw [if_pos (by omega), Nat.sub_zero, hu] at this
  exact this

set_option maxRecDepth 100000 in
set_option maxHeartbeats 1000000 in
theorem wgetdigests_any (l : List UInt8) (A : Option Addr) (n c L : Nat) (w : World) (hr : Rd w L A (W.bc l)) (hL : L ≤ w.heap.size) (hn : n = l.length) (hc : n ≤ c) (hm : c ≤ maxLen) (hlen : n ≤ 4398046511104) :
    Calls Try.prog 34 #[.slice A n c] w (DecLEnds 57 16 (W.bc (W.decD l).1) ((W.decD l).1.length / 16) (W.decD l).2.1 (W.decD l).2.2 w) := by
  subst hn
  obtain ⟨i0, hi, hz0, hz1, hz2⟩ := info_parts info_digest
  have hdl : W.decD l = if (W.cnt l 16).2.2 ≠ 0 then ([], 0, (W.cnt l 16).2.2) else ((l.drop (W.cnt l 16).2.1).take ((W.cnt l 16).1.toNat * 16), (W.cnt l 16).2.1 + (W.cnt l 16).1.toNat * 16, 0) := rfl
  by_cases he : (W.cnt l 16).2.2 = 0
  rotate_left
  · rw [if_pos he] at hdl
    have HCON := Lib.hid (wcnt_err l A l.length c L 16 (W.cnt l 16).2.2 w hr rfl hc hm (by omega) (by omega) 16 rfl rfl)
    obtain ⟨er, her⟩ : ∃ er, er = (W.cnt l 16).2.2 := ⟨_, rfl⟩
    rw [← her] at HCON hdl he
    have hne : (er != 0) = true := by simp [he]
    have HDL := Lib.hid hdl; clear hdl her
    go_enter Try.func34, Try.ntmps34
    go_wp2_with (go_at_call 38; (with_reducible refine HCON.out.mono ?_); rintro e w' ⟨x, y, rfl, hb⟩)
    go_ret3
    rw [HDL.out]
    refine ⟨_, rfl, ?_, ‹Below w.heap.size w _›⟩
    have h0 : ∀ V : World, V.ownsRow w.heap.size 57 16 (.slice none 0 0) (([] : List UInt8).length / 16) (W.bc []) := fun V => World.ownsRow_nil V _ _ _
    exact h0 _
  rw [if_neg (by simp [he])] at hdl
  obtain ⟨K, hK, hKl, hd9⟩ := W.cnt_bound he
  obtain ⟨d2, hd2⟩ : ∃ d2, d2 = (W.cnt l 16).2.1 := ⟨_, rfl⟩
  have hcnt : W.cnt l 16 = ((K : Int), d2, 0) := by rw [← hK, hd2, ← he]
  rw [hK, ← hd2, Int.toNat_natCast] at hdl
  rw [← hd2] at hKl
  have HCON := Lib.hid (wcnt_ok l A l.length c L 16 K d2 w hr rfl hc hm (by omega) (by omega) 16 rfl hcnt)
  have HDL := Lib.hid hdl
  clear hdl hd2 hK hcnt he hd9
  have HR := Lib.hid hr; clear hr
  have HM := Lib.hid hm; clear hm
  go_enter Try.func34, Try.ntmps34
  go_wp2_with (go_at_call 38; (with_reducible refine HCON.out.mono ?_); rintro e w1 ⟨rfl, hb1⟩)
  have hb1 : Below w.heap.size w w1 := by assumption
  go_loopw [19, 8, 6] (fun ix v at_ wr => ∃ k : Nat, k ≤ K ∧ ix = .int .i64 k ∧ at_ = .int .i64 ((d2 + k * 16 : Nat) : Int) ∧ wr.ownsRow w.heap.size 57 16 v k (W.bc ((l.drop d2).take (k * 16))) ∧ Below w.heap.size w wr) (fun ix _ _ _ => K - (intOf ix).toNat)
  case atStart => exact ⟨0, by omega, rfl, rfl, World.ownsRow_nil _ _ _ _, hb1⟩
  case round =>
    obtain ⟨k, hk, rfl, rfl, hown, hnx⟩ := hrel
    by_cases hlt : k < K
    · obtain ⟨b, o, rfl, hbL, hcell⟩ := HR.out (by simp; omega)
      obtain ⟨p, hp⟩ : ∃ p, p = d2 + k * 16 := ⟨_, rfl⟩
      have hpl : p + 16 ≤ l.length := by omega
      have hg16 : ((l.drop p).take 16).length = 16 := by rw [List.length_take, List.length_drop]; omega
      have hrg : wr.rangeAt b (o + p) (W.bc ((l.drop p).take 16)) := by
        intro j v hv
        have hj : j < 16 := by have := (List.getElem?_eq_some_iff.1 hv).1; rw [W.bc_length, hg16] at this; exact this
        have hv2 : (W.bc l)[p + j]? = some v := by
          rw [← W.bc_take, ← W.bc_drop, List.getElem?_take, if_pos hj, List.getElem?_drop] at hv
          exact hv
        rw [Nat.add_assoc]
        exact (hnx.cell (p := ⟨b, o + (p + j), none⟩) (Nat.lt_of_lt_of_le hbL hL)).trans (hcell _ v hv2)
      have hnext : (l.drop d2).take ((k + 1) * 16) = (l.drop d2).take (k * 16) ++ (l.drop p).take 16 := by
        rw [show (k + 1) * 16 = k * 16 + 16 from by omega, List.take_add, List.drop_drop, hp]
      have HNEXT := Lib.hid hnext; clear hnext
      rw [← hp]
      have HP := Lib.hid hp; clear hp
      have HRG := Lib.hid hrg; clear hrg hcell
      have HG16 := Lib.hid hg16; clear hg16
      have hzr := hnx.size
      have hcp : ¬ c = p := by omega
      have hM := HM.out
      unfold maxLen at hM
      have hap : ∀ W : World, (Instr.arrayAt 57 (.slice (some ⟨b, o + p, none⟩) 16 (c - p))).run Try.prog W = .ok (.pointer (some ⟨b, o + p, none⟩)) W := fun W => run_arrayAt W 57 _ 16 _ 16 (c - p) Try.underlying57 (Nat.le_refl _)
      go_wp2_with (first
        | (refine wpList_load_mid rfl 57 (.tmp 27) rfl b (o + p) rfl (W.bc ((l.drop p).take 16)) _ HRG.out Try.underlying57 rfl (by rw [size_digest, W.bc_length, HG16.out]) ?_)
        | (at_builtin; refine wpList_append_own _ rfl (.tmp 21) (.tmp 29) _ rfl w.heap.size 57 i0 _ 16 16 Try.underlying24 hi hz0 hz1 hz2 rfl (by decide) _ _ _ rfl (hown.alloc _) ⟨wr.heap.size, 0, none⟩ 1 1 (W.bc ((l.drop p).take 16)) rfl (by rw [W.bc_length, HG16.out]) (cells_fold _ _ _ _ (by rw [W.bc_length, HG16.out]; exact Nat.le_refl _)) (W.bc_oneCell _) (by unfold maxLen; omega) (by omega) (by simp; omega) ?_))
      intro v' w3 hown3 hgrow _
      have hB : Below w.heap.size w w3 := (hnx.alloc hzr _).grown hgrow (by simp; omega) (fun g hg => (hown.lt g hg).1)
      clear hgrow hown
      go_wp2
      go_roundw
      case rel =>
        refine ⟨k + 1, by omega, by go_num, ?_, ?_, hB⟩
        · rw [show d2 + (k + 1) * 16 = p + 16 from by rw [HP.out]; omega]
          rfl
        · rw [HNEXT.out, W.bc_append]
          exact hown3
      case measure => simp [intOf]; omega
    · obtain rfl : k = K := by omega
      go_wp2
      go_ret3
      rw [HDL.out]
      have hll : ((l.drop d2).take (k * 16)).length = k * 16 := by rw [List.length_take, List.length_drop]; omega
      refine ⟨_, rfl, ?_, hnx⟩
      simp only [hll, Nat.mul_div_cancel k (show 0 < 16 by omega)]
      exact hown
end Go.Proofs.Ythgpgdpndionjaa
