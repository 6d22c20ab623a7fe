/-
  THE WALKS of Same, SameInts, SameTexts: they read, and answer whether the lists are equal.
-/
import Derived.Test.YthgpgdpndionjaaRows
import Derived.Test.YthgpgdpndionjaaMem
import Derived.Deep.QuietTactic
import Derived.BigQuiet
import Derived.WalkLawsBesides
import Derived.WideShapes
namespace Go.Proofs.Ythgpgdpndionjaa
open Go.RowKit

/-- What a function that only reads, in an order left open, returns. -/
def Quiet (v : Value) (w : World) (e : Ending) (w' : World) : Prop := e = .returned v ∧ ∃ n, w' = w.drewN n

/-- Numbers as cells; strings as cells. -/
def ic (l : List Int) : List Value := l.map (Value.int .i64)
def sc (l : List ByteArray) : List Value := l.map Value.string
@[simp] theorem ic_length (l : List Int) : (ic l).length = l.length := by simp [ic]
@[simp] theorem sc_length (l : List ByteArray) : (sc l).length = l.length := by simp [sc]
theorem bc_at (l : List UInt8) {k : Nat} {x : UInt8} (h : l[k]? = some x) : (W.bc l)[k]? = some (.int .u8 (x.toNat : Int)) := by simp [W.bc, W.bcell, h]
theorem ic_at (l : List Int) {k : Nat} {x : Int} (h : l[k]? = some x) : (ic l)[k]? = some (.int .i64 x) := by simp [ic, h]
theorem sc_at (l : List ByteArray) {k : Nat} {x : ByteArray} (h : l[k]? = some x) : (sc l)[k]? = some (.string x) := by simp [sc, h]
theorem str_eq {x y : ByteArray} (h : x.toList = y.toList) : x = y := by
  rw [ByteArray.toList_eq, ByteArray.toList_eq] at h
  exact WideShapes.bytes_inj h
theorem take_more {α : Type} {a b : List α} {k : Nat} {x : α} (h : a.take k = b.take k) (ha : a[k]? = some x) (hb : b[k]? = some x) : a.take (k + 1) = b.take (k + 1) := by
  have h1 := (List.getElem?_eq_some_iff.1 ha)
  have h2 := (List.getElem?_eq_some_iff.1 hb)
  rw [List.take_succ_eq_append_getElem h1.1, List.take_succ_eq_append_getElem h2.1, h, h1.2, h2.2]
theorem take_all {α : Type} {a b : List α} (h : a.take a.length = b.take a.length) (hl : a.length = b.length) : a = b := by
  rw [List.take_of_length_le (Nat.le_refl _), hl, List.take_of_length_le (Nat.le_refl _)] at h
  exact h
theorem at_ne {α : Type} {a b : List α} {k : Nat} {x y : α} (ha : a[k]? = some x) (hb : b[k]? = some y) (h : x ≠ y) : a ≠ b := by
  rintro rfl
  rw [ha] at hb
  exact h (by injection hb)

set_option maxHeartbeats 400000 in
theorem same_len (a b : List UInt8) (A B : Option Addr) (n m c d : Nat) (w : World) (hn : n = a.length) (hm : m = b.length) (hne : a.length ≠ b.length) :
    Calls Try.prog 13 #[.slice A n c, .slice B m d] w (Quiet (.bool (decide (a = b))) w) := by
  have hd : decide (a = b) = false := by simp; intro h; exact hne (by rw [h])
  rw [hd]
  subst hn
  subst hm
  go_enter Try.func13, Try.ntmps13
  go_wp2
  go_ret
  exact ⟨rfl, 0, rfl⟩

set_option maxHeartbeats 400000 in
theorem same_eqlen (a b : List UInt8) (A B : Option Addr) (n m c d : Nat) (L M : Nat) (w : World) (hA : Rd w L A (W.bc a)) (hB : Rd w M B (W.bc b)) (hn : n = a.length) (hm : m = b.length) (hne : a.length = b.length) (hmx : a.length ≤ maxLen) :
    Calls Try.prog 13 #[.slice A n c, .slice B m d] w (Quiet (.bool (decide (a = b))) w) := by
  subst hn
  subst hm
  rw [← hne]
  unfold maxLen at hmx
  have HNE := Lib.hid hne; clear hne
  have HA := Lib.hid hA; clear hA
  have HB := Lib.hid hB; clear hB
  go_enter Try.func13, Try.ntmps13
  go_wp2
  go_loopw [5] (fun i wr => ∃ k : Nat, k ≤ a.length ∧ i = .int .i64 k ∧ a.take k = b.take k ∧ ∃ n, wr = w.drewN n) (fun i _ => a.length - (intOf i).toNat)
  case atStart => exact ⟨0, by omega, rfl, rfl, 0, rfl⟩
  case round =>
    obtain ⟨k, hk, rfl, htake, nn, rfl⟩ := hrel
    have HT := Lib.hid htake; clear htake
    by_cases hlt : k < a.length
    · obtain ⟨x, hx⟩ : ∃ x : UInt8, a[k]? = some x := ⟨a[k], List.getElem?_eq_getElem hlt⟩
      obtain ⟨y, hy⟩ : ∃ y : UInt8, b[k]? = some y := ⟨b[k]'(by rw [← HNE.out]; exact hlt), List.getElem?_eq_getElem _⟩
      obtain ⟨g1, o1, rfl, _, hc1⟩ := HA.out (by simp; omega)
      obtain ⟨g2, o2, rfl, _, hc2⟩ := HB.out (by rw [W.bc_length, ← HNE.out]; omega)
      have f1 : w.cell? ⟨g1, o1 + k, none⟩ = some (.int .u8 (x.toNat : Int)) := hc1 k _ (bc_at a hx)
      have f2 : w.cell? ⟨g2, o2 + k, none⟩ = some (.int .u8 (y.toNat : Int)) := hc2 k _ (bc_at b hy)
      clear hc1 hc2
      have HX := Lib.hid hx; clear hx
      have HY := Lib.hid hy; clear hy
      have hi1 : (k : Int) < (a.length : Int) := by omega
      go_wp2
      go_quiet (fail)
      go_wp2
      · have hxy : ((x.toNat : Int) != (y.toNat : Int)) = true := by assumption
        have hne : a ≠ b := at_ne HX.out HY.out (by rintro rfl; simp at hxy)
        go_ret
        exact ⟨by rw [decide_eq_false hne]; rfl, _, World.drewN_drewN ..⟩
      · have hxy : ((x.toNat : Int) != (y.toNat : Int)) = false := by assumption
        have e : x = y := UInt8.toNat_inj.1 (Int.ofNat.inj (by simpa using hxy))
        go_roundw
        case rel => exact ⟨k + 1, by omega, by go_num, take_more HT.out HX.out (by rw [e]; exact HY.out), _, rfl⟩
        case measure => simp [intOf]; omega
    · obtain rfl : k = a.length := by omega
      go_wp2
      go_ret
      exact ⟨by rw [decide_eq_true (take_all HT.out HNE.out)]; rfl, _, rfl⟩

theorem same_any (a b : List UInt8) (A B : Option Addr) (n m c d : Nat) (L M : Nat) (w : World) (hA : Rd w L A (W.bc a)) (hB : Rd w M B (W.bc b)) (hn : n = a.length) (hm : m = b.length) (hmx : a.length ≤ maxLen) :
    Calls Try.prog 13 #[.slice A n c, .slice B m d] w (Quiet (.bool (decide (a = b))) w) := by
  by_cases hne : a.length = b.length
  · exact same_eqlen a b A B n m c d L M w hA hB hn hm hne hmx
  · exact same_len a b A B n m c d w hn hm hne

set_option maxHeartbeats 400000 in
theorem sameints_len (a b : List Int) (A B : Option Addr) (n m c d : Nat) (w : World) (hn : n = a.length) (hm : m = b.length) (hne : a.length ≠ b.length) :
    Calls Try.prog 30 #[.slice A n c, .slice B m d] w (Quiet (.bool (decide (a = b))) w) := by
  have hd : decide (a = b) = false := by simp; intro h; exact hne (by rw [h])
  rw [hd]
  subst hn
  subst hm
  go_enter Try.func30, Try.ntmps30
  go_wp2
  go_ret
  exact ⟨rfl, 0, rfl⟩

set_option maxHeartbeats 400000 in
theorem sameints_eqlen (a b : List Int) (A B : Option Addr) (n m c d : Nat) (L M : Nat) (w : World) (hA : Rd w L A (ic a)) (hB : Rd w M B (ic b)) (hn : n = a.length) (hm : m = b.length) (hne : a.length = b.length) (hmx : a.length ≤ maxLen) :
    Calls Try.prog 30 #[.slice A n c, .slice B m d] w (Quiet (.bool (decide (a = b))) w) := by
  subst hn
  subst hm
  rw [← hne]
  unfold maxLen at hmx
  have HNE := Lib.hid hne; clear hne
  have HA := Lib.hid hA; clear hA
  have HB := Lib.hid hB; clear hB
  go_enter Try.func30, Try.ntmps30
  go_wp2
  go_loopw [5] (fun i wr => ∃ k : Nat, k ≤ a.length ∧ i = .int .i64 k ∧ a.take k = b.take k ∧ ∃ n, wr = w.drewN n) (fun i _ => a.length - (intOf i).toNat)
  case atStart => exact ⟨0, by omega, rfl, rfl, 0, rfl⟩
  case round =>
    obtain ⟨k, hk, rfl, htake, nn, rfl⟩ := hrel
    have HT := Lib.hid htake; clear htake
    by_cases hlt : k < a.length
    · obtain ⟨x, hx⟩ : ∃ x : Int, a[k]? = some x := ⟨a[k], List.getElem?_eq_getElem hlt⟩
      obtain ⟨y, hy⟩ : ∃ y : Int, b[k]? = some y := ⟨b[k]'(by rw [← HNE.out]; exact hlt), List.getElem?_eq_getElem _⟩
      obtain ⟨g1, o1, rfl, _, hc1⟩ := HA.out (by simp; omega)
      obtain ⟨g2, o2, rfl, _, hc2⟩ := HB.out (by rw [ic_length, ← HNE.out]; omega)
      have f1 : w.cell? ⟨g1, o1 + k, none⟩ = some (.int .i64 x) := hc1 k _ (ic_at a hx)
      have f2 : w.cell? ⟨g2, o2 + k, none⟩ = some (.int .i64 y) := hc2 k _ (ic_at b hy)
      clear hc1 hc2
      have HX := Lib.hid hx; clear hx
      have HY := Lib.hid hy; clear hy
      have hi1 : (k : Int) < (a.length : Int) := by omega
      go_wp2
      go_quiet (fail)
      go_wp2
      · have hxy : (x != y) = true := by assumption
        have hne : a ≠ b := at_ne HX.out HY.out (by rintro rfl; simp at hxy)
        go_ret
        exact ⟨by rw [decide_eq_false hne]; rfl, _, World.drewN_drewN ..⟩
      · have hxy : (x != y) = false := by assumption
        have e : x = y := by simpa using hxy
        go_roundw
        case rel => exact ⟨k + 1, by omega, by go_num, take_more HT.out HX.out (by rw [e]; exact HY.out), _, rfl⟩
        case measure => simp [intOf]; omega
    · obtain rfl : k = a.length := by omega
      go_wp2
      go_ret
      exact ⟨by rw [decide_eq_true (take_all HT.out HNE.out)]; rfl, _, rfl⟩

theorem sameints_any (a b : List Int) (A B : Option Addr) (n m c d : Nat) (L M : Nat) (w : World) (hA : Rd w L A (ic a)) (hB : Rd w M B (ic b)) (hn : n = a.length) (hm : m = b.length) (hmx : a.length ≤ maxLen) :
    Calls Try.prog 30 #[.slice A n c, .slice B m d] w (Quiet (.bool (decide (a = b))) w) := by
  by_cases hne : a.length = b.length
  · exact sameints_eqlen a b A B n m c d L M w hA hB hn hm hne hmx
  · exact sameints_len a b A B n m c d w hn hm hne

set_option maxHeartbeats 400000 in
theorem sametexts_len (a b : List ByteArray) (A B : Option Addr) (n m c d : Nat) (w : World) (hn : n = a.length) (hm : m = b.length) (hne : a.length ≠ b.length) :
    Calls Try.prog 33 #[.slice A n c, .slice B m d] w (Quiet (.bool (decide (a = b))) w) := by
  have hd : decide (a = b) = false := by simp; intro h; exact hne (by rw [h])
  rw [hd]
  subst hn
  subst hm
  go_enter Try.func33, Try.ntmps33
  go_wp2
  go_ret
  exact ⟨rfl, 0, rfl⟩

set_option maxHeartbeats 400000 in
theorem sametexts_eqlen (a b : List ByteArray) (A B : Option Addr) (n m c d : Nat) (L M : Nat) (w : World) (hA : Rd w L A (sc a)) (hB : Rd w M B (sc b)) (hn : n = a.length) (hm : m = b.length) (hne : a.length = b.length) (hmx : a.length ≤ maxLen) :
    Calls Try.prog 33 #[.slice A n c, .slice B m d] w (Quiet (.bool (decide (a = b))) w) := by
  subst hn
  subst hm
  rw [← hne]
  unfold maxLen at hmx
  have HNE := Lib.hid hne; clear hne
  have HA := Lib.hid hA; clear hA
  have HB := Lib.hid hB; clear hB
  go_enter Try.func33, Try.ntmps33
  go_wp2
  go_loopw [5] (fun i wr => ∃ k : Nat, k ≤ a.length ∧ i = .int .i64 k ∧ a.take k = b.take k ∧ ∃ n, wr = w.drewN n) (fun i _ => a.length - (intOf i).toNat)
  case atStart => exact ⟨0, by omega, rfl, rfl, 0, rfl⟩
  case round =>
    obtain ⟨k, hk, rfl, htake, nn, rfl⟩ := hrel
    have HT := Lib.hid htake; clear htake
    by_cases hlt : k < a.length
    · obtain ⟨x, hx⟩ : ∃ x : ByteArray, a[k]? = some x := ⟨a[k], List.getElem?_eq_getElem hlt⟩
      obtain ⟨y, hy⟩ : ∃ y : ByteArray, b[k]? = some y := ⟨b[k]'(by rw [← HNE.out]; exact hlt), List.getElem?_eq_getElem _⟩
      obtain ⟨g1, o1, rfl, _, hc1⟩ := HA.out (by simp; omega)
      obtain ⟨g2, o2, rfl, _, hc2⟩ := HB.out (by rw [sc_length, ← HNE.out]; omega)
      have f1 : w.cell? ⟨g1, o1 + k, none⟩ = some (.string x) := hc1 k _ (sc_at a hx)
      have f2 : w.cell? ⟨g2, o2 + k, none⟩ = some (.string y) := hc2 k _ (sc_at b hy)
      clear hc1 hc2
      have HX := Lib.hid hx; clear hx
      have HY := Lib.hid hy; clear hy
      have hi1 : (k : Int) < (a.length : Int) := by omega
      go_wp2
      go_quiet (fail)
      go_wp2
      · have hxy : (!(x.toList == y.toList)) = true := by assumption
        have hne : a ≠ b := at_ne HX.out HY.out (by rintro rfl; simp at hxy)
        go_ret
        exact ⟨by rw [decide_eq_false hne]; rfl, _, World.drewN_drewN ..⟩
      · have hxy : (!(x.toList == y.toList)) = false := by assumption
        have e : x = y := str_eq (by simpa using hxy)
        go_roundw
        case rel => exact ⟨k + 1, by omega, by go_num, take_more HT.out HX.out (by rw [e]; exact HY.out), _, rfl⟩
        case measure => simp [intOf]; omega
    · obtain rfl : k = a.length := by omega
      go_wp2
      go_ret
      exact ⟨by rw [decide_eq_true (take_all HT.out HNE.out)]; rfl, _, rfl⟩

theorem sametexts_any (a b : List ByteArray) (A B : Option Addr) (n m c d : Nat) (L M : Nat) (w : World) (hA : Rd w L A (sc a)) (hB : Rd w M B (sc b)) (hn : n = a.length) (hm : m = b.length) (hmx : a.length ≤ maxLen) :
    Calls Try.prog 33 #[.slice A n c, .slice B m d] w (Quiet (.bool (decide (a = b))) w) := by
  by_cases hne : a.length = b.length
  · exact sametexts_eqlen a b A B n m c d L M w hA hB hn hm hne hmx
  · exact sametexts_len a b A B n m c d w hn hm hne

end Go.Proofs.Ythgpgdpndionjaa
