/-
 THE WALKS of Same, SameInts, SameTexts: they read, and answer whether the lists are equal.
-/
import Derived.Test.YtgdibcgphjmofaaRows
import Derived.Test.YtgdibcgphjmofaaMem
import Derived.Deep.QuietTactic
import Derived.BigQuiet
import Derived.WalkLawsBesides
import Derived.WideShapes
namespace Go.Proofs.Ytgdibcgphjmofaa
set_option maxHeartbeats 400000
open Go.RowKit
/-- What a function that only reads, in an order left open, returns. -/
def Quiet (v : Value) (w : World) (e : Ending) (w' : World) : Prop := e = .returned v ∧ ∃ n, w' = w.drewN n
/-- Numbers as cells; strings as cells. -/
def ic (l : List Int) : List Value := l.map (Value.int .i64)
def sc (l : List ByteArray) : List Value := l.map Value.string
@[simp] theorem ic_length (l : List Int) : (ic l).length = l.length := by simp [ic]
@[simp] theorem sc_length (l : List ByteArray) : (sc l).length = l.length := by simp [sc]
theorem bc_at (l : List UInt8) {k : Nat} {x : UInt8} (h : l[k]? = some x) : (W.bc l)[k]? = some (.int .u8 (x.toNat : Int)) := by simp [W.bc, W.bcell, h]
theorem ic_at (l : List Int) {k : Nat} {x : Int} (h : l[k]? = some x) : (ic l)[k]? = some (.int .i64 x) := by simp [ic, h]
theorem sc_at (l : List ByteArray) {k : Nat} {x : ByteArray} (h : l[k]? = some x) : (sc l)[k]? = some (.string x) := by simp [sc, h]
theorem str_eq {x y : ByteArray} (h : x.toList = y.toList) : x = y := by
 rw [ByteArray.toList_eq, ByteArray.toList_eq] at h
 exact WideShapes.bytes_inj h
theorem take_more {α : Type} {a b : List α} {k : Nat} {x : α} (h : a.take k = b.take k) (ha : a[k]? = some x) (hb : b[k]? = some x) : a.take (k + 1) = b.take (k + 1) := by
 have h1 := (List.getElem?_eq_some_iff.1 ha)
 have h2 := (List.getElem?_eq_some_iff.1 hb)
 rw [List.take_succ_eq_append_getElem h1.1, List.take_succ_eq_append_getElem h2.1, h, h1.2, h2.2]
theorem take_all {α : Type} {a b : List α} (h : a.take a.length = b.take a.length) (hl : a.length = b.length) : a = b := by
 rw [List.take_of_length_le (Nat.le_refl _), hl, List.take_of_length_le (Nat.le_refl _)] at h
 exact h
theorem at_ne {α : Type} {a b : List α} {k : Nat} {x y : α} (ha : a[k]? = some x) (hb : b[k]? = some y) (h : x ≠ y) : a ≠ b := by
 rintro rfl
 rw [ha] at hb
 exact h (by injection hb)
theorem same_len (a b : List UInt8) (A B : Option Addr) (n m c d : Nat) (w : World) (hn : n = a.length) (hm : m = b.length) (hne : a.length ≠ b.length) :
  Calls Try.prog 29 #[.slice A n c, .slice B m d] w (Quiet (.bool (decide (a = b))) w) := by
 have hd : decide (a = b) = false := by simp; intro h; exact hne (by rw [h])
 rw [hd]
 subst hn
 subst hm
 go_enter Try.func29, Try.ntmps29
 go_wp2
 go_ret
 exact ⟨rfl, 0, rfl⟩
theorem same_eqlen (a b : List UInt8) (A B : Option Addr) (n m c d : Nat) (L M : Nat) (w : World) (hA : Rd w L A (W.bc a)) (hB : Rd w M B (W.bc b)) (hn : n = a.length) (hm : m = b.length) (hne : a.length = b.length) (hmx : a.length ≤ maxLen) :
  Calls Try.prog 29 #[.slice A n c, .slice B m d] w (Quiet (.bool (decide (a = b))) w) := by
 subst hn
 subst hm
 rw [← hne]
 unfold maxLen at hmx
 have HNE := Lib.hid hne; clear hne
 have HA := Lib.hid hA; clear hA
 have HB := Lib.hid hB; clear hB
 go_enter Try.func29, Try.ntmps29
 go_wp2
 go_loopw [5] (fun i wr => ∃ k : Nat, k ≤ a.length ∧ i = .int .i64 k ∧ a.take k = b.take k ∧ ∃ n, wr = w.drewN n) (fun i _ => a.length - (intOf i).toNat)
 case atStart => exact ⟨0, by omega, rfl, rfl, 0, rfl⟩
 case round =>
  obtain ⟨k, hk, rfl, htake, nn, rfl⟩ := hrel
  have HT := Lib.hid htake; clear htake
  by_cases hlt : k < a.length
  ·obtain ⟨x, hx⟩ : ∃ x : UInt8, a[k]? = some x := ⟨a[k], List.getElem?_eq_getElem hlt⟩
   obtain ⟨y, hy⟩ : ∃ y : UInt8, b[k]? = some y := ⟨b[k]'(by rw [← HNE.out]; exact hlt), List.getElem?_eq_getElem _⟩
   obtain ⟨g1, o1, rfl, _, k0⟩ := HA.out (by simp; omega)
   obtain ⟨g2, o2, rfl, _, k1⟩ := HB.out (by rw [W.bc_length, ← HNE.out]; omega)
   have f1 : w.cell? ⟨g1, o1 + k, none⟩ = some (.int .u8 (x.toNat : Int)) := k0 k _ (bc_at a hx)
   have f2 : w.cell? ⟨g2, o2 + k, none⟩ = some (.int .u8 (y.toNat : Int)) := k1 k _ (bc_at b hy)
   clear k0 k1
   have HX := Lib.hid hx; clear hx
   have HY := Lib.hid hy; clear hy
   have hi1 : (k : Int) < (a.length : Int) := by omega
   go_wp2
   go_quiet (fail)
   go_wp2
   ·have hxy : ((x.toNat : Int) != (y.toNat : Int)) = true := by assumption
    have hne : a ≠ b := at_ne HX.out HY.out (by rintro rfl; simp at hxy)
    go_ret
    exact ⟨by rw [decide_eq_false hne]; rfl, _, World.drewN_drewN ..⟩
   ·have hxy : ((x.toNat : Int) != (y.toNat : Int)) = false := by assumption
    have e : x = y := UInt8.toNat_inj.1 (Int.ofNat.inj (by simpa using hxy))
    go_roundw
    case rel => exact ⟨k + 1, by omega, by go_num, take_more HT.out HX.out (by rw [e]; exact HY.out), _, rfl⟩
    case measure => simp [intOf]; omega
  ·obtain rfl : k = a.length := by omega
   go_wp2
   go_ret
   exact ⟨by rw [decide_eq_true (take_all HT.out HNE.out)]; rfl, _, rfl⟩
theorem same_any (a b : List UInt8) (A B : Option Addr) (n m c d : Nat) (L M : Nat) (w : World) (hA : Rd w L A (W.bc a)) (hB : Rd w M B (W.bc b)) (hn : n = a.length) (hm : m = b.length) (hmx : a.length ≤ maxLen) :
  Calls Try.prog 29 #[.slice A n c, .slice B m d] w (Quiet (.bool (decide (a = b))) w) := by
 by_cases hne : a.length = b.length
 ·exact same_eqlen a b A B n m c d L M w hA hB hn hm hne hmx
 ·exact same_len a b A B n m c d w hn hm hne
end Go.Proofs.Ytgdibcgphjmofaa
