/-
 THE WALKS of package integer: of.
-/
import Derived.Test.YtonkbckgbfcnkaaRows
import Derived.Test.YtonkbckgbfcnkaaMemI
import Derived.WalkLawsBesides
import Derived.LoopTactic
import Derived.BigQuiet
import Derived.Deep.QuietTactic
namespace Go.Proofs.Ytonkbckgbfcnkaa
set_option maxHeartbeats 1000000
open Go.RowKit
theorem sg_neg {ng : Bool} {v : Int} (hv : 0 < v) : decide (sg ng v < 0) = ng ∧ ((sg ng v).natAbs : Int) = v := by
 unfold sg
 cases ng <;> simp <;> omega
theorem of_any (ng : Bool) (v : Value) (l : List Int) (w : World) (hs : Sl w v l) (hd : I.Dig l) :
  Calls Try.prog 94 #[.bool ng, v] w (RI (sg ng (I.val l)) w) := by
 obtain ⟨A, len, c, rfl, rfl, hc, hm, hr, hty⟩ := hs
 have HD := Lib.hid hd; clear hd
 have HR := Lib.hid hr; have HTY := Lib.hid hty; clear hr hty
 unfold maxLen at hm
 go_enter Try.func94, Try.ntmps94
 go_wp2
 go_loop [5] (fun n => ∃ k : Nat, k ≤ l.length ∧ n = .int .i64 k ∧ Hid (∀ j, k ≤ j → j < l.length → l[j]? = some 0)) (fun n => (intOf n).toNat)
 case atStart => exact ⟨l.length, Nat.le_refl _, rfl, fun j h1 h2 => by omega⟩
 case round =>
  obtain ⟨k, hk, rfl, HZ⟩ := hrel
  cases k with
  | zero =>
   go_wp2
   refine bodyPost_ret (v := .agg #[.bool false, .slice none 0 0]) (by simp [results, Try.results94, go_sem]) rfl ⟨_, _, rfl, ?_, (Below.refl _ _).alloc (Nat.le_refl _) _⟩
   have hv : I.val l = 0 := by
    have h1 := I.val_take_zeros (l := l) (n := 0) HZ.out
    rw [← h1]; rfl
   rw [hv]
   have h0 : sg ng 0 = 0 := by unfold sg; cases ng <;> rfl
   rw [h0]
   exact IntV.zero _
  | succ m =>
   obtain ⟨d, hdm⟩ : ∃ d, l[m]? = some d := ⟨_, List.getElem?_eq_getElem (by omega)⟩
   obtain ⟨b, o, rfl, hb, hcell⟩ := HR.out (by simp; omega)
   have hld : w.cell? ⟨b, o + m, none⟩ = some (.int .i64 d) := hcell m _ (il_at l hdm)
   have HM := Lib.hid hdm; clear hdm hcell
   by_cases h0 : d = 0
   ·subst h0
    go_wp2
    go_round
    case rel =>
     refine ⟨m, by omega, rfl, fun j h1 h2 => ?_⟩
     by_cases hj : j = m
     ·rw [hj]; exact HM.out
     ·exact HZ.out j (by omega) h2
    case measure => simp [intOf]
   ·have hne : (d == 0) = false := by simpa using h0
    go_wp2
    refine bodyPost_ret (v := .agg #[.bool ng, .slice (some ⟨b, o, none⟩) (m + 1) (m + 1)]) (by simp [results, Try.results94, go_sem]) rfl ⟨_, _, rfl, ?_, (Below.refl _ _).alloc (Nat.le_refl _) _⟩
    have hcan : I.Can (l.take (m + 1)) := I.can_take HD.out hk (.inr ⟨d, HM.out, h0⟩)
    have hval : I.val (l.take (m + 1)) = I.val l := I.val_take_zeros HZ.out
    have hpos : 0 < I.val l := by
     have h1 := hcan.pos (List.ne_nil_of_length_pos (by rw [List.length_take]; omega))
     have h2 := I.pw_pos ((l.take (m + 1)).length - 1)
     omega
    have hsg := sg_neg (ng := ng) hpos
    refine ⟨l.take (m + 1), by rw [hsg.1], Sl.alloc (w := w) ⟨_, _, _, rfl, by simp; omega, Nat.le_refl _, by unfold maxLen; omega, ?_, fun _ => ?_⟩ _, hcan, by rw [hval, hsg.2]⟩
    ·have h1 := HR.out.take (m + 1)
     rw [il_take] at h1
     exact h1
    ·obtain ⟨b', o', cs, fr, h1, h2⟩ := HTY.out (by omega)
     exact ⟨b', o', cs, fr, h1, h2⟩
end Go.Proofs.Ytonkbckgbfcnkaa
