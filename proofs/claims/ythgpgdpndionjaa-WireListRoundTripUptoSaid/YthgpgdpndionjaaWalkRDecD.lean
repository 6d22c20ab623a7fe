/-
  THE WALK of the reference's GetDigests.
-/
import Derived.Test.YthgpgdpndionjaaWalkRDec
import Derived.Test.YthgpgdpndionjaaWalkDecD
namespace Go.Proofs.Ythgpgdpndionjaa
open Go.RowKit

theorem there_setCell {w : World} {b o n : Nat} (h : w.there b o n) (i : Nat) (v : Value) : (w.setCell ⟨b, i, none⟩ v).there b o n := World.there_setCells h b i [v]
theorem range_snoc {w : World} {b n : Nat} {cs : List Value} (hr : w.rangeAt b 0 cs) (ht : w.there b 0 n) (hi : cs.length < n) (v : Value) : (w.setCell ⟨b, cs.length, none⟩ v).rangeAt b 0 (cs ++ [v]) := fun j u hu => by
  rcases Nat.lt_or_ge j cs.length with h1 | h1
  · rw [List.getElem?_append_left h1] at hu
    exact World.rangeAt_setCells_apart hr b cs.length [v] (.inr (.inl (by omega))) j u hu
  · have hj := (List.getElem?_eq_some_iff.1 hu).1
    rw [List.length_append, List.length_singleton] at hj
    obtain rfl : j = cs.length := by omega
    have h2 : w.there b cs.length [v].length := fun k hk => by
      have h3 := ht (cs.length + k) (by simp at hk; omega)
      rwa [Nat.zero_add] at h3
    have h4 := World.rangeAt_setCells_same w b cs.length [v] h2 0 u (by simpa using hu)
    rw [Nat.zero_add]
    exact h4

set_option maxRecDepth 100000 in
set_option maxHeartbeats 1000000 in
theorem rgetdigests_any (l : List UInt8) (A : Option Addr) (n c L : Nat) (w : World) (hr : Rd w L A (W.bc l)) (hL : L ≤ w.heap.size) (hn : n = l.length) (hc : n ≤ c) (hm : c ≤ maxLen) (hlen : n ≤ 4398046511104) :
    Calls Try.prog 35 #[.slice A n c] w (DecLEnds 57 16 (W.bc (W.decD l).1) ((W.decD l).1.length / 16) (W.decD l).2.1 (W.decD l).2.2 w) := by
  subst hn
  obtain ⟨i0, hi, hz0, hz1, hz2⟩ := info_parts info_digest
  have hdl : W.decD l = if (W.cnt l 16).2.2 ≠ 0 then ([], 0, (W.cnt l 16).2.2) else ((l.drop (W.cnt l 16).2.1).take ((W.cnt l 16).1.toNat * 16), (W.cnt l 16).2.1 + (W.cnt l 16).1.toNat * 16, 0) := rfl
  by_cases he : (W.cnt l 16).2.2 = 0
  rotate_left
  · rw [if_pos he] at hdl
    have HCON := Lib.hid (rcnt16_err l A l.length c L (W.cnt l 16).2.2 w hr hL rfl hc hm hlen rfl he)
    obtain ⟨er, her⟩ : ∃ er, er = (W.cnt l 16).2.2 := ⟨_, rfl⟩
    rw [← her] at HCON hdl he
    have hne : (er != 0) = true := by simp [he]
    have HDL := Lib.hid hdl; clear hdl her
    go_enter Try.func35, Try.ntmps35
    go_wp2_with (go_at_call 39; (with_reducible refine HCON.out.mono ?_); rintro e w' ⟨rfl, hb⟩)
    go_ret3
    rw [HDL.out]
    refine ⟨_, rfl, ?_, ‹Below w.heap.size w _›⟩
    have h0 : ∀ V : World, V.ownsRow w.heap.size 57 16 (.slice none 0 0) (([] : List UInt8).length / 16) (W.bc []) := fun V => World.ownsRow_nil V _ _ _
    exact h0 _
  rw [if_neg (by simp [he])] at hdl
  obtain ⟨K, hK, hKl, hd9⟩ := W.cnt_bound he
  obtain ⟨d2, hd2⟩ : ∃ d2, d2 = (W.cnt l 16).2.1 := ⟨_, rfl⟩
  have hcnt : W.cnt l 16 = ((K : Int), d2, 0) := by rw [← hK, hd2, ← he]
  rw [hK, ← hd2, Int.toNat_natCast] at hdl
  rw [← hd2] at hKl
  have HCON := Lib.hid (rcnt16_ok l A l.length c L K d2 w hr hL rfl hc hm hlen hcnt)
  have HDL := Lib.hid hdl
  clear hdl hd2 hK hcnt he hd9
  have HR := Lib.hid hr; clear hr
  have HM := Lib.hid hm; clear hm
  go_enter Try.func35, Try.ntmps35
  go_wp2_with (go_at_call 39; (with_reducible refine HCON.out.mono ?_); rintro e w1 ⟨rfl, hb1⟩)
  have hb1 : Below w.heap.size w w1 := by assumption
  go_loopw [9, 8, 6] (fun ix v at_ wr => ∃ k : Nat, k ≤ K ∧ ix = .int .i64 k ∧ at_ = .int .i64 ((d2 + k * 16 : Nat) : Int) ∧ wr.ownsRow w.heap.size 57 16 v k (W.bc ((l.drop d2).take (k * 16))) ∧ Below w.heap.size w wr) (fun ix _ _ _ => K - (intOf ix).toNat)
  case atStart => exact ⟨0, by omega, rfl, rfl, World.ownsRow_nil _ _ _ _, hb1⟩
  case round =>
    obtain ⟨k, hk, rfl, rfl, hown, hnx⟩ := hrel
    by_cases hlt : k < K
    · obtain ⟨b, o, rfl, hbL, hcell⟩ := HR.out (by simp; omega)
      obtain ⟨p, hp⟩ : ∃ p, p = d2 + k * 16 := ⟨_, rfl⟩
      have hpl : p + 16 ≤ l.length := by omega
      have hg16 : ((l.drop p).take 16).length = 16 := by rw [List.length_take, List.length_drop]; omega
      have hnext : (l.drop d2).take ((k + 1) * 16) = (l.drop d2).take (k * 16) ++ (l.drop p).take 16 := by
        rw [show (k + 1) * 16 = k * 16 + 16 from by omega, List.take_add, List.drop_drop, hp]
      have HNEXT := Lib.hid hnext; clear hnext
      rw [← hp]
      have HP := Lib.hid hp; clear hp
      have HCELL := Lib.hid hcell; clear hcell
      have HG16 := Lib.hid hg16; clear hg16
      obtain ⟨w2, rfl⟩ : ∃ w2, w2 = wr := ⟨_, rfl⟩
      have hzr := hnx.size
      have hM := HM.out
      unfold maxLen at hM
      go_wp2_with fail
      go_loopw [11] (fun ix wi => ∃ i : Nat, i ≤ 16 ∧ ix = .int .i64 i ∧ Hid (wi.there w2.heap.size 0 16 ∧ wi.rangeAt w2.heap.size 0 (W.bc ((l.drop p).take i)) ∧ wi.heap.size = w2.heap.size + 1 ∧ Below w2.heap.size w2 wi)) (fun ix _ => 16 - (intOf ix).toNat)
      case atStart => exact ⟨0, by omega, rfl, there_new _ _ _ _ (by simp), fun j u hu => by simp [W.bc] at hu, by simp, (Below.refl _ _).alloc (Nat.le_refl _) _⟩
      case round =>
        obtain ⟨i, hi16, rfl, HI⟩ := hrel
        by_cases hil : i < 16
        · obtain ⟨b2, hb2⟩ : ∃ b2 : UInt8, l[p + i]? = some b2 := ⟨l[p + i]'(by omega), List.getElem?_eq_getElem (by omega)⟩
          have hld : wr.cell? ⟨b, o + (p + i), none⟩ = some (.int .u8 (b2.toNat : Int)) := by
            have h1 := HCELL.out (p + i) (.int .u8 (b2.toNat : Int)) (by simp [W.bc, W.bcell, hb2])
            have h2 := hnx.cell (p := ⟨b, o + (p + i), none⟩) (Nat.lt_of_lt_of_le hbL hL)
            have h3 := HI.out.2.2.2.cell (p := ⟨b, o + (p + i), none⟩) (Nat.lt_of_lt_of_le hbL (Nat.le_trans hL hzr))
            rw [h3, h2, h1]
          obtain ⟨h4, hfz⟩ := HI.out.1 i hil
          rw [Nat.zero_add] at h4 hfz
          obtain ⟨v0, hv0⟩ := Option.isSome_iff_exists.1 h4
          clear h4
          have hcs : (W.bc ((l.drop p).take i)).length = i := by rw [W.bc_length, List.length_take, List.length_drop]; omega
          have hsn := range_snoc HI.out.2.1 HI.out.1 (by omega) (.int .u8 (b2.toNat : Int))
          rw [hcs] at hsn
          have hnx2 : W.bc ((l.drop p).take i) ++ [.int .u8 (b2.toNat : Int)] = W.bc ((l.drop p).take (i + 1)) := by
            rw [List.take_add_one, List.getElem?_drop, hb2, W.bc_append]
            rfl
          rw [hnx2] at hsn
          have HSN := Lib.hid hsn
          have HT := Lib.hid (there_setCell HI.out.1 i (.int .u8 (b2.toNat : Int)))
          clear hsn hnx2 hcs hb2
          go_wp2_with fail
          go_roundw
          case rel => exact ⟨i + 1, by omega, by go_num, HT.out, HSN.out, by rw [← HI.out.2.2.1]; simp [World.setCell], HI.out.2.2.2.setCell (Nat.le_refl _) _⟩
          case measure => simp [intOf]; omega
        · obtain rfl : i = 16 := by omega
          have hrg := Lib.hid HI.out.2.1
          have hwb := HI.out.2.2.2
          have hwz : w2.heap.size < wr.heap.size := by have := HI.out.2.2.1; omega
          have hnw : Below w.heap.size w wr := hnx.trans (hwb.mono hzr)
          have hown2 := own_below hown hwb
          clear HI
          go_wp2_with (first
            | (refine wpList_load_mid rfl 57 (.tmp 10) rfl w2.heap.size 0 rfl (W.bc ((l.drop p).take 16)) _ hrg.out Try.underlying57 rfl (by rw [size_digest, W.bc_length, HG16.out]) ?_)
            | (at_builtin; refine wpList_append_own _ rfl (.tmp 38) (.tmp 40) _ rfl w.heap.size 57 i0 _ 16 16 Try.underlying24 hi hz0 hz1 hz2 rfl (by decide) _ _ _ rfl (hown2.alloc _) ⟨wr.heap.size, 0, none⟩ 1 1 (W.bc ((l.drop p).take 16)) rfl (by rw [W.bc_length, HG16.out]) (cells_fold _ _ _ _ (by rw [W.bc_length, HG16.out]; exact Nat.le_refl _)) (W.bc_oneCell _) (by unfold maxLen; omega) (by omega) (by simp; omega) ?_))
          intro v' w3 hown3 hgrow _
          have hB : Below w.heap.size w w3 := (hnw.alloc (by omega) _).grown hgrow (by simp; omega) (fun g hg => (hown.lt g hg).1)
          clear hgrow hown hown2
          go_wp2
          go_roundw
          case rel =>
            refine ⟨k + 1, by omega, by go_num, ?_, ?_, hB⟩
            · rw [show d2 + (k + 1) * 16 = p + 16 from by rw [HP.out]; omega]
              rfl
            · rw [HNEXT.out, W.bc_append]
              exact hown3
          case measure => simp [intOf]; omega
    · obtain rfl : k = K := by omega
      go_wp2
      go_ret3
      rw [HDL.out]
      have hll : ((l.drop d2).take (k * 16)).length = k * 16 := by rw [List.length_take, List.length_drop]; omega
      refine ⟨_, rfl, ?_, hnx⟩
      simp only [hll, Nat.mul_div_cancel k (show 0 < 16 by omega)]
      exact hown
end Go.Proofs.Ythgpgdpndionjaa
