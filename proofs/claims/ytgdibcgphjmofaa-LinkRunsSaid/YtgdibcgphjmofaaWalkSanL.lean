/-
 The contracts of wire at the examples of sanity.
-/
import Derived.Test.YtgdibcgphjmofaaWalkDecI
import Derived.Test.YtgdibcgphjmofaaWalkDecD
import Derived.Test.YtgdibcgphjmofaaWalkSameD
namespace Go.Proofs.Ytgdibcgphjmofaa
open Go.RowKit
theorem rd_new (w : World) (C : Array Value) (T : Nat) (xs : List Value) (h : C.toList = xs) : Rd (w.alloc (.cells C T)) (w.heap.size + 1) (some ⟨w.heap.size, 0, none⟩) xs := fun _ => by
 subst h
 refine ⟨w.heap.size, 0, rfl, by omega, fun j u hu => ?_⟩
 rw [cell_of_row _ _ _ C T (0, 0) (heap_alloc_new w _), Nat.zero_add]
 simpa using hu
theorem below_new (w : World) (C : Array Value) (T : Nat) {w' : World} (h : Below (w.alloc (.cells C T)).heap.size (w.alloc (.cells C T)) w') : Below w.heap.size w w' :=
 ((Below.refl w.heap.size w).alloc (Nat.le_refl _) _).trans (h.mono (by simp))
/-- A decoder of a list at new bytes. -/
def LitL (T size : Nat) (xs : List Value) (n : Nat) (at_ er : Int) (w : World) (e : Ending) (w' : World) : Prop :=
 ∃ g c, e = .returned (.tuple #[.slice (some ⟨g, 0, none⟩) n c, .int .i64 at_, .int .i64 er]) ∧ Hid (w'.ownsRow w.heap.size T size (.slice (some ⟨g, 0, none⟩) n c) n xs ∧ n ≤ c ∧ c ≤ maxLen) ∧ Below w.heap.size w w'
theorem litL {T size : Nat} {xs : List Value} {n : Nat} {at_ : Nat} {er : Int} {w w' : World} {e : Ending} {w0 : World} {C : Array Value} {T0 : Nat} (hw : w = w0.alloc (.cells C T0)) (hn : 0 < n) (h : DecLEnds T size xs n at_ er w e w') : LitL T size xs n (at_ : Int) er w0 e w' := by
 obtain ⟨v, rfl, hown, hb⟩ := h
 obtain ⟨g, c, rfl, h1, h2, _, _⟩ := own_pos hown hn
 subst hw
 exact ⟨g, c, rfl, ⟨own_base hown (by simp), h1, h2⟩, below_new _ _ _ hb⟩
theorem san_getint (l : List UInt8) (C : Array Value) (n u er : Int) (d : Nat) (hC : C.toList = W.bc l) (hd : W.dec l = (n, d, er)) (hu : u = (d : Int)) (k s : Nat) (w0 : World) (hk : k = l.length) (hk2 : k ≤ 100) (hs : s = w0.heap.size) :
  Calls Try.prog 56 #[.slice (some ⟨s, 0, none⟩) k k] (w0.alloc (.cells C 5)) fun e w' => e = .returned (.tuple #[.int .i64 n, .int .i64 u, .int .i64 er]) ∧ Below w0.heap.size w0 w' := by
 subst hs
 refine (getint_any l _ k k (w0.heap.size + 1) _ (rd_new w0 C _ _ hC) hk (Nat.le_refl _) (by unfold maxLen; omega)).mono fun e w' h => ?_
 obtain ⟨h1, rfl⟩ := h
 rw [hd] at h1
 exact ⟨by rw [hu]; exact h1, (Below.refl _ _).alloc (Nat.le_refl _) _⟩
theorem san_getbytes (l : List UInt8) (C : Array Value) (x : ByteArray) (u er : Int) (d : Nat) (hC : C.toList = W.bc l) (hd : W.decT l = (x, d, er)) (hu : u = (d : Int)) (k s : Nat) (w0 : World) (hk : k = l.length) (hk2 : k ≤ 100) (hs : s = w0.heap.size) :
  Calls Try.prog 47 #[.slice (some ⟨s, 0, none⟩) k k] (w0.alloc (.cells C 5)) fun e w' => e = .returned (.tuple #[.string x, .int .i64 u, .int .i64 er]) ∧ Below w0.heap.size w0 w' := by
 subst hs
 refine (wgetbytes_b l _ k k (w0.heap.size + 1) _ (rd_new w0 C _ _ hC) hk (Nat.le_refl _) (by unfold maxLen; omega) x d er hd).mono fun e w' h => ?_
 exact ⟨by rw [hu]; exact h.1, below_new _ _ _ h.2⟩
theorem san_getints (l : List UInt8) (C : Array Value) (xs : List Int) (u er : Int) (d : Nat) (hC : C.toList = W.bc l) (hd : W.decI l = (xs, d, er)) (hu : u = (d : Int)) (k s n : Nat) (w0 : World) (hk : k = l.length) (hk2 : k ≤ 100) (hs : s = w0.heap.size) (hn : n = xs.length) (hn0 : 0 < n) :
  Calls Try.prog 46 #[.slice (some ⟨s, 0, none⟩) k k] (w0.alloc (.cells C 5)) (LitL 3 1 (ic xs) n u er w0) := by
 subst hs hn hu
 refine (wgetints_any l _ k k (w0.heap.size + 1) _ (rd_new w0 C _ _ hC) (by simp) hk (Nat.le_refl _) (by unfold maxLen; omega) (by omega)).mono fun e w' h => ?_
 rw [hd] at h
 exact litL rfl hn0 h
theorem Bl {w a b : World} (h : Below w.heap.size w a) (k : Below a.heap.size a b) : Below w.heap.size w b := h.trans (k.mono h.size)
theorem Hc {w w' : World} {B T size n : Nat} {v : Value} {xs : List Value} {p : Prop} (h : Hid (w.ownsRow B T size v n xs ∧ p)) (k : Below w.heap.size w w') : Hid (w'.ownsRow B T size v n xs ∧ p) := ⟨own_below h.out.1 k, h.out.2⟩
/-- A maker of a slice that is not empty. -/
def LitS (T size : Nat) (xs : List Value) (n : Nat) (w : World) (e : Ending) (w' : World) : Prop :=
 ∃ g c, e = .returned (.slice (some ⟨g, 0, none⟩) n c) ∧ Hid (w'.ownsRow w.heap.size T size (.slice (some ⟨g, 0, none⟩) n c) n xs ∧ n ≤ c ∧ c ≤ maxLen) ∧ Below w.heap.size w w'
theorem litS {T size : Nat} {xs : List Value} {n : Nat} {w w' : World} {e : Ending} (hn : 0 < n) (h : Mk T size xs n w e w') : LitS T size xs n w e w' := by
 obtain ⟨v, rfl, hown, hb⟩ := h
 obtain ⟨g, c, rfl, h1, h2, _, _⟩ := own_pos hown hn
 exact ⟨g, c, rfl, ⟨hown, h1, h2⟩, hb⟩
theorem litS_new {T size : Nat} {xs : List Value} {n : Nat} {w w' : World} {e : Ending} {w0 : World} {C : Array Value} {T0 : Nat} (hw : w = w0.alloc (.cells C T0)) (hn : 0 < n) (h : Mk T size xs n w e w') : LitS T size xs n w0 e w' := by
 obtain ⟨g, c, h1, h2, h3⟩ := litS hn h
 subst hw
 exact ⟨g, c, h1, ⟨own_base h2.out.1 (by simp), h2.out.2⟩, below_new _ _ _ h3⟩
theorem san_int (i : Int) (l : List UInt8) (n : Nat) (w : World) (hi : W.Is64 i) (hl : W.enc i = l) (hn : n = l.length) : Calls Try.prog 43 #[.int .i64 i] w (LitS 5 1 (W.bc l) n w) := by
 subst hl hn
 exact (wint_any i w hi).mono fun e w' h => litS (by have := (W.enc_le i).1; omega) h
theorem san_bytes (s : ByteArray) (l : List UInt8) (n : Nat) (w : World) (hs : s.size ≤ 100) (hl : W.encB s.data.toList = l) (hn : n = l.length) : Calls Try.prog 27 #[.string s] w (LitS 5 1 (W.bc l) n w) := by
 subst hl hn
 exact (wbytes_any s w (by omega)).mono fun e w' h => litS (W.encB_pos _) h
theorem san_ints (xs : List Int) (C : Array Value) (l : List UInt8) (k s n : Nat) (w0 : World) (hC : C.toList = ic xs) (hk : k = xs.length) (hs : s = w0.heap.size) (hall : ∀ x ∈ xs, W.Is64 x) (hk2 : k ≤ 100) (hl : W.encI xs = l) (hn : n = l.length) :
  Calls Try.prog 26 #[.slice (some ⟨s, 0, none⟩) k k] (w0.alloc (.cells C 3)) (LitS 5 1 (W.bc l) n w0) := by
 subst hl hn hs
 have h1 := W.encI_le xs
 refine (wints_any xs _ k k (w0.heap.size + 1) _ (rd_new w0 C _ _ hC) (by simp) hk hall (by omega) (by omega)).mono fun e w' h => litS_new rfl ?_ h
 unfold W.encI
 have := (W.enc_le xs.length).1
 rw [List.length_append]
 omega
theorem quiet_below {v : Value} {w w' : World} {e : Ending} {w0 : World} {C : Array Value} {T0 : Nat} (hw : w = w0.alloc (.cells C T0)) (h : Quiet v w e w') : e = .returned v ∧ Below w0.heap.size w0 w' := by
 obtain ⟨h1, n, rfl⟩ := h
 subst hw
 exact ⟨h1, ⟨rfl, rfl, rfl, by simp [World.drewN], fun k hk => Below.heap_alloc _ _ _ hk⟩⟩
theorem own_new {w : World} {B T size n : Nat} {v : Value} {xs : List Value} {p : Prop} (h : Hid (w.ownsRow B T size v n xs ∧ p)) (o : Obj) : (w.alloc o).ownsRow B T size v n xs := h.out.1.alloc o
theorem san_same (l : List UInt8) (C : Array Value) (g k c s B : Nat) (w0 : World) {p : Prop} (H : Hid (w0.ownsRow B 5 1 (.slice (some ⟨g, 0, none⟩) k c) k (W.bc l) ∧ p)) (hC : C.toList = W.bc l) (hk : k = l.length) (hk2 : k ≤ 100) (hs : s = w0.heap.size) :
  Calls Try.prog 29 #[.slice (some ⟨g, 0, none⟩) k c, .slice (some ⟨s, 0, none⟩) k k] (w0.alloc (.cells C 5)) fun e w' => e = .returned (.bool true) ∧ Below w0.heap.size w0 w' := by
 subst hs
 refine (same_any l l _ _ k k c k _ _ _ (Rd.of_own (own_new H _)) (rd_new w0 C _ _ hC) hk hk (by unfold maxLen; omega)).mono fun e w' h => ?_
 rw [decide_eq_true rfl] at h
 exact quiet_below rfl h
/-- The digest of the examples. -/
def dg : List UInt8 := [1, 2, 0, 0, 0, 0, 0, 0, 0, 0, 0, 0, 0, 0, 0, 0]
theorem range_new (w : World) (C : Array Value) (T : Nat) (xs : List Value) (h : C.toList = xs) : (w.alloc (.cells C T)).rangeAt w.heap.size 0 xs := by
 obtain ⟨b, o, e, _, hc⟩ | h0 := (Decidable.em (0 < xs.length)).imp (rd_new w C T xs h) id
 ·injection e with e
  injection e with e1 e2
  subst e1 e2
  exact hc
 ·intro j v hv
  have := (List.getElem?_eq_some_iff.1 hv).1
  omega
theorem range_below {w w' : World} {b o : Nat} {cs : List Value} (h : w.rangeAt b o cs) (hb : b < w.heap.size) (k : Below w.heap.size w w') : w'.rangeAt b o cs := fun j v hv => (k.cell (p := ⟨b, o + j, none⟩) hb).trans (h j v hv)
end Go.Proofs.Ytgdibcgphjmofaa
