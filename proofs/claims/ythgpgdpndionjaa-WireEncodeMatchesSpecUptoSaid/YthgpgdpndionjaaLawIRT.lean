/-
  THE WALK of the law WireIntRoundTrip.
-/
import Derived.Test.YthgpgdpndionjaaWalkSan
import Derived.Test.YthgpgdpndionjaaWalkApp
namespace Go.Proofs.Ythgpgdpndionjaa
open Go.RowKit

theorem sanity_step (w W0 : World) (h : Below w.heap.size w W0) : Calls Try.prog 12 #[] W0 fun e w' => e = .returned (.bool true) ∧ Below w.heap.size w w' :=
  (sanity_any W0).mono fun _ _ h1 => ⟨h1.1, Bl h h1.2⟩

set_option maxRecDepth 100000 in
set_option maxHeartbeats 400000 in
theorem law_irt (n : Int) (A : Option Addr) (len cap : Nat) (l : List UInt8) (w : World) (hn : W.Is64 n) (hb : IsB w A len cap l) :
    Calls Try.prog 6 #[.int .i64 n, .slice A len cap] w fun e w' => e = .returned (.bool true) ∧ Below w.heap.size w w' := by
  obtain ⟨hr, rfl, hc, hm⟩ := hb
  have HR := Lib.hid hr; clear hr
  unfold maxLen at hm
  by_cases hbig : 2000 < l.length
  · go_enter Try.func6, Try.ntmps6
    go_wp2_with fail
    refine (sanity_step w _ (Below.refl _ _)).mono ?_
    rintro e w1 ⟨rfl, hb1⟩
    go_wp2_with fail
    go_ret
    exact ⟨rfl, hb1⟩
  · obtain ⟨i0, hi, hz0, hz1, hz2⟩ := info_parts info_u8
    obtain ⟨hel1, hel2⟩ := W.enc_le n
    have hdec := W.dec_enc hn l
    have HD := Lib.hid hdec; clear hdec
    go_enter Try.func6, Try.ntmps6
    go_wp2_with fail
    refine (wint_any n _ hn).mono ?_
    rintro e w1 ⟨v1, rfl, hown1, hb1⟩
    obtain ⟨g1, c1, rfl, h1, h2, _, hg1⟩ := own_pos hown1 (by omega)
    have hz := hb1.size
    unfold maxLen at h2
    go_wp2_with (at_builtin; refine wpList_append_full _ rfl (.tmp 21) (.tmp 22) _ rfl 5 i0 _ 1 Try.underlying28 hi hz0 hz1 hz2 rfl (some ⟨g1, 0, none⟩) _ w1.heap.size (W.bc (W.enc n)) rfl (Rd.of_own hown1) (Nat.le_refl _) (by simp) (by omega) A l.length cap w.heap.size (W.bc l) rfl (HR.out.below hb1 (Nat.le_refl _)) (by simp) (W.bc_oneCell _) (by unfold maxLen; omega) (by omega) ?_)
    intro A2 c2 w2 hr2 hc2 hm2 hb2
    have HR2 := Lib.hid hr2
    rw [← W.bc_append] at hr2
    have hcon := getint_any (W.enc n ++ l) A2 ((W.enc n).length + l.length) c2 _ w2 hr2 (by simp) hc2 hm2
    rw [HD.out] at hcon
    have HCON := Lib.hid hcon
    have hB2 := Bl hb1 hb2
    clear hcon hr2 hown1 hb2
    go_wp2_with fail
    refine HCON.out.mono ?_
    rintro e w3 ⟨rfl, rfl⟩
    go_wp2_with fail
    refine (sanity_step w _ hB2).mono ?_
    rintro e w4 ⟨rfl, hb4⟩
    go_wp2_with fail
    go_ret
    have hd9 : decide (((W.enc n).length : Int) ≤ 9) = true := by simp; omega
    refine ⟨?_, hb4⟩
    show Ending.returned (.bool (decide (((W.enc n).length : Int) ≤ 9))) = _
    rw [hd9]
end Go.Proofs.Ythgpgdpndionjaa
