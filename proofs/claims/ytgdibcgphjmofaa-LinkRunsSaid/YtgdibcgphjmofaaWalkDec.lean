/-
 THE WALKS of the decoders of lists: GetStrings (wire).
-/
import Derived.Test.YtgdibcgphjmofaaWalkEnc
import Derived.Test.YtgdibcgphjmofaaWalkCnt
namespace Go.Proofs.Ytgdibcgphjmofaa
set_option maxHeartbeats 1000000
open Go.RowKit
theorem info_string : (Try.prog.info? 9).map (fun i => (i.zero, i.size, i.bytes)) = some (some (.string ByteArray.empty), 1, 16) := by kernel_rfl
theorem info_int : (Try.prog.info? 3).map (fun i => (i.zero, i.size, i.bytes)) = some (some (.int .i64 0), 1, 8) := by kernel_rfl
/-- What a decoder of a list returns: a slice of its own, the number of bytes, the error. -/
def DecLEnds (T size : Nat) (xs : List Value) (n at_ : Nat) (er : Int) (w : World) (e : Ending) (w' : World) : Prop :=
 ∃ v, e = .returned (.tuple #[v, .int .i64 (at_ : Int), .int .i64 er]) ∧ w'.ownsRow w.heap.size T size v n xs ∧ Below w.heap.size w w'
theorem sc_snoc (l : List ByteArray) (x : ByteArray) : sc (l ++ [x]) = sc l ++ [.string x] := by simp [sc]
theorem ic_snoc (l : List Int) (x : Int) : ic (l ++ [x]) = ic l ++ [.int .i64 x] := by simp [ic]
theorem sc_oneCell (l : List ByteArray) : ∀ u ∈ sc l, u.oneCell' = true := by
 intro u hu
 simp only [sc, List.mem_map] at hu
 obtain ⟨b, _, rfl⟩ := hu
 rfl
theorem ic_oneCell (l : List Int) : ∀ u ∈ ic l, u.oneCell' = true := by
 intro u hu
 simp only [ic, List.mem_map] at hu
 obtain ⟨b, _, rfl⟩ := hu
 rfl
/-- A count that goes well; one that does not. -/
theorem wcnt_ok (l : List UInt8) (A : Option Addr) (n c L size k d2 : Nat) (w : World) (hr : Rd w L A (W.bc l)) (hn : n = l.length) (hc : n ≤ c) (hm : c ≤ maxLen) (hs : 1 ≤ size) (hs2 : size ≤ 100) (sz : Int) (hsz : sz = (size : Int)) (hd : W.cnt l size = ((k : Int), d2, 0)) :
  Calls Try.prog 52 #[.slice A n c, .int .i64 sz] w fun e w' => e = .returned (.tuple #[.int .i64 (k : Int), .int .i64 (d2 : Int), .int .i64 0]) ∧ Below w.heap.size w w' :=
 (wcount_any l A n c L size w hr hn hc hm hs hs2 sz hsz).mono fun e w' h => by
  obtain ⟨h1, rfl⟩ := h
  rw [hd] at h1
  exact ⟨h1, Below.refl _ _⟩
theorem wcnt_err (l : List UInt8) (A : Option Addr) (n c L size : Nat) (er : Int) (w : World) (hr : Rd w L A (W.bc l)) (hn : n = l.length) (hc : n ≤ c) (hm : c ≤ maxLen) (hs : 1 ≤ size) (hs2 : size ≤ 100) (sz : Int) (hsz : sz = (size : Int)) (hd : (W.cnt l size).2.2 = er) :
  Calls Try.prog 52 #[.slice A n c, .int .i64 sz] w fun e w' => ∃ x y : Int, e = .returned (.tuple #[.int .i64 x, .int .i64 y, .int .i64 er]) ∧ Below w.heap.size w w' :=
 (wcount_any l A n c L size w hr hn hc hm hs hs2 sz hsz).mono fun e w' h => by
  obtain ⟨h1, rfl⟩ := h
  rw [hd] at h1
  exact ⟨_, _, h1, Below.refl _ _⟩
theorem wgetbytes_b (l : List UInt8) (A : Option Addr) (n c L : Nat) (w : World) (hr : Rd w L A (W.bc l)) (hn : n = l.length) (hc : n ≤ c) (hm : c ≤ maxLen) (x : ByteArray) (u : Nat) (er : Int) (hd : W.decT l = (x, u, er)) :
  Calls Try.prog 47 #[.slice A n c] w fun e w' => e = .returned (.tuple #[.string x, .int .i64 (u : Int), .int .i64 er]) ∧ Below w.heap.size w w' :=
 (wgetbytes_any l A n c L w hr hn hc hm).mono fun e w' h => by
  obtain ⟨h1, rfl⟩ := h
  have e1 : x = ⟨(W.decB l).1.toArray⟩ := by rw [show x = (W.decT l).1 from by rw [hd]]; rfl
  have e2 : u = (W.decB l).2.1 := by rw [show u = (W.decT l).2.1 from by rw [hd]]; rfl
  have e3 : er = (W.decB l).2.2 := by rw [show er = (W.decT l).2.2 from by rw [hd]]; rfl
  rw [e1, e2, e3]
  exact ⟨h1, Below.refl _ _⟩
end Go.Proofs.Ytgdibcgphjmofaa
