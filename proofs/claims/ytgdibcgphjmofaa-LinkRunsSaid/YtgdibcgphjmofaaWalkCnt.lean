/-
 THE WALKS of wire's count and GetBytes.
-/
import Derived.Test.YtgdibcgphjmofaaWalkGet
import Derived.Test.YtgdibcgphjmofaaPlainX
namespace Go.Proofs.Ytgdibcgphjmofaa
set_option maxHeartbeats 400000
open Go.RowKit
theorem wcount_any (l : List UInt8) (A : Option Addr) (n c L size : Nat) (w : World) (hr : Rd w L A (W.bc l)) (hn : n = l.length) (hc : n ≤ c) (hm : c ≤ maxLen) (hs : 1 ≤ size) (hs2 : size ≤ 100) (sz : Int) (hsz : sz = (size : Int)) :
  Calls Try.prog 52 #[.slice A n c, .int .i64 sz] w (DecEnds (W.cnt l size) w) := by
 subst hsz
 have hat := W.dec_at_le l
 have hrg := W.dec_range l
 have he3 := W.dec_e l
 have hcon := getint_any l A n c L w hr hn hc hm
 have hcd : W.cnt l size = if (W.dec l).2.2 ≠ 0 then W.dec l
   else if (W.dec l).1 < 0 then ((W.dec l).1, (W.dec l).2.1, 2)
   else if ((l.length - (W.dec l).2.1) / size : Nat) < (W.dec l).1 then ((W.dec l).1, (W.dec l).2.1, 3)
   else W.dec l := rfl
 obtain ⟨d1, d2, d3, hd⟩ : ∃ d1 d2 d3, W.dec l = (d1, d2, d3) := ⟨_, _, _, rfl⟩
 rw [hd] at hat hrg he3 hcon hcd
 simp only at hat hrg he3 hcd
 have HCD := Lib.hid hcd; clear hcd
 have HCON := Lib.hid hcon; clear hcon hd
 have hlo := hrg.1
 have hhi := hrg.2
 clear hrg
 subst hn
 unfold maxLen at hm
 by_cases he : d3 = 0
 ·subst he
  clear he3
  by_cases hneg : d1 < 0
  ·go_enter Try.func52, Try.ntmps52
   go_wp2_with (go_at_call 56; (with_reducible refine HCON.out.mono ?_); rintro e w' ⟨rfl, rfl⟩)
   go_ret3
   rw [HCD.out, if_neg (by simp), if_pos hneg]
   exact ⟨rfl, rfl⟩
  ·have hcast : (((l.length - d2) / size : Nat) : Int) = ((l.length : Int) - (d2 : Int)) / (size : Int) := by rw [Int.natCast_ediv, Int.ofNat_sub hat]
   have HCAST := Lib.hid hcast; clear hcast
   go_enter Try.func52, Try.ntmps52
   go_wp2_with (go_at_call 56; (with_reducible refine HCON.out.mono ?_); rintro e w' ⟨rfl, rfl⟩)
   ·have hb : ((l.length : Int) - (d2 : Int)) / (size : Int) < d1 := by assumption
    go_ret3
    rw [HCD.out, if_neg (by simp), if_neg (by omega), if_pos (by rw [HCAST.out]; exact hb)]
    exact ⟨rfl, rfl⟩
   ·have hb : d1 ≤ ((l.length : Int) - (d2 : Int)) / (size : Int) := by assumption
    go_ret3
    rw [HCD.out, if_neg (by simp), if_neg (by omega), if_neg (by rw [HCAST.out]; omega)]
    exact ⟨rfl, rfl⟩
 ·have hne : (d3 != 0) = true := by simp [he]
  go_enter Try.func52, Try.ntmps52
  go_wp2_with (go_at_call 56; (with_reducible refine HCON.out.mono ?_); rintro e w' ⟨rfl, rfl⟩)
  go_ret3
  rw [HCD.out, if_pos he]
  exact ⟨rfl, rfl⟩
/-- 'string(b)' where b reads as the bytes l. -/
theorem run_string_rd {w : World} {L : Nat} {A : Option Addr} {l : List UInt8} (h : Rd w L A (W.bc l)) (n c : Nat) (hn : n = l.length) :
  (convert 33 9 (.slice A n c)).run Try.prog w = .ok (.string ⟨l.toArray⟩) w := by
 subst hn
 rcases Nat.eq_zero_or_pos l.length with h0 | h0
 ·have : l = [] := List.eq_nil_of_length_eq_zero h0
  subst this
  cases A with
  | none => exact (run_convert_bytes_string w 33 9 5 none 0 c Try.underlying33 Try.underlying5 Try.underlying9).trans (by simp [Conv.bytesToString]; rfl)
  | some a => exact run_convert_bytes_back w 33 9 5 a c [] Try.underlying33 Try.underlying5 Try.underlying9 (fun j hj => absurd hj (by simp))
 ·obtain ⟨b, o, rfl, _, hc⟩ := h (by simpa using h0)
  refine run_convert_bytes_back w 33 9 5 ⟨b, o, none⟩ c l Try.underlying33 Try.underlying5 Try.underlying9 (fun j hj => ?_)
  rw [Addr.add_lit]
  exact hc j _ (W.bc_get l j hj)
/-- What a decoder of a string returns. -/
def DecBEnds (r : List UInt8 × Nat × Int) (w : World) (e : Ending) (w' : World) : Prop := e = .returned (.tuple #[.string ⟨r.1.toArray⟩, .int .i64 (r.2.1 : Int), .int .i64 r.2.2]) ∧ w = w'
theorem wgetbytes_any (l : List UInt8) (A : Option Addr) (n c L : Nat) (w : World) (hr : Rd w L A (W.bc l)) (hn : n = l.length) (hc : n ≤ c) (hm : c ≤ maxLen) :
  Calls Try.prog 47 #[.slice A n c] w (DecBEnds (W.decB l) w) := by
 subst hn
 have hcon := wcount_any l A l.length c L 1 w hr rfl hc hm (by omega) (by omega) 1 rfl
 have hdb : W.decB l = if (W.cnt l 1).2.2 ≠ 0 then ([], 0, (W.cnt l 1).2.2) else ((l.drop (W.cnt l 1).2.1).take (W.cnt l 1).1.toNat, (W.cnt l 1).2.1 + (W.cnt l 1).1.toNat, 0) := rfl
 have hbd := W.cnt_bound (l := l) (size := 1)
 obtain ⟨d1, d2, d3, hd⟩ : ∃ d1 d2 d3, W.cnt l 1 = (d1, d2, d3) := ⟨_, _, _, rfl⟩
 rw [hd] at hcon hdb hbd
 simp only at hdb hbd
 have HCON := Lib.hid hcon; clear hcon hd
 unfold maxLen at hm
 by_cases he : d3 = 0
 ·subst he
  obtain ⟨k, rfl, hk, _⟩ := hbd rfl
  clear hbd
  rw [Nat.mul_one] at hk
  rw [if_neg (by simp), Int.toNat_natCast] at hdb
  have HDB := Lib.hid hdb; clear hdb
  have hr1 := hr.cut (k := d2) (cap := c) (by simp; omega)
  rw [W.bc_drop] at hr1
  have hr2 := hr1.take k
  rw [W.bc_take] at hr2
  have hcv := run_string_rd hr2 k (c - d2) (by simp; omega)
  clear hr1 hr2
  go_enter Try.func47, Try.ntmps47
  go_wp2_with (go_at_call 52; (with_reducible refine HCON.out.mono ?_); rintro e w' ⟨rfl, rfl⟩)
  all_goals
   go_ret3
   rw [HDB.out]
   exact ⟨rfl, rfl⟩
 ·have hne : (d3 != 0) = true := by simp [he]
  clear hbd
  rw [if_pos he] at hdb
  have HDB := Lib.hid hdb; clear hdb
  go_enter Try.func47, Try.ntmps47
  go_wp2_with (go_at_call 52; (with_reducible refine HCON.out.mono ?_); rintro e w' ⟨rfl, rfl⟩)
  go_ret3
  rw [HDB.out]
  exact ⟨rfl, rfl⟩
end Go.Proofs.Ytgdibcgphjmofaa
