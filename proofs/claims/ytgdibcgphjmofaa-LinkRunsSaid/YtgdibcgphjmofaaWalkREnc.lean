/-
 THE WALKS of the reference's encoders (Bytes, Ints, Strings).
-/
import Derived.Test.YtgdibcgphjmofaaWalkRInt
import Derived.Test.YtgdibcgphjmofaaWalkEnc
import Derived.Test.YtgdibcgphjmofaaWalkSame
import Derived.Lib.AppendStr
namespace Go.Proofs.Ytgdibcgphjmofaa
set_option maxHeartbeats 1000000
open Go.RowKit
theorem rbytes_any (s : ByteArray) (w : World) (hs : s.size ≤ 70368744177664) :
  Calls Try.prog 35 #[.string s] w (Mk 5 1 (W.bc (W.encB s.data.toList)) (W.encB s.data.toList).length w) := by
 obtain ⟨i0, hi, hz0, hz1, hz2⟩ := info_parts info_u8
 have hI : W.Is64 (s.size : Int) := by unfold W.Is64; omega
 go_enter Try.func35, Try.ntmps35
 go_wp2_with fail
 refine (rint_any _ _ hI).mono ?_
 rintro e w1 ⟨v1, rfl, hown1, k0⟩
 have hl := W.enc_le (s.size : Int)
 obtain ⟨g1, c1, rfl, hgc1, hcm1, hg1, hgs1⟩ := own_pos hown1 (by omega)
 have hz := k0.size
 have hcv := run_bytes_of_string (P := Try.prog) w1 9 33 5 s Try.underlying9 Try.underlying33 Try.underlying5
 go_wp2_with (at_builtin; refine wpList_append_own _ rfl (.tmp 5) (.tmp 7) _ rfl w.heap.size 5 i0 _ 1 1 Try.underlying33 hi hz0 hz1 hz2 rfl (by decide) _ _ _ rfl (hown1.drew.alloc _) ⟨w1.heap.size, 0, none⟩ s.size _ (Lib.strCells s) rfl (by rw [Lib.strCells_length]; simp) ?_ (Lib.strCells_oneCell s) (by unfold maxLen; omega) (by omega) (by simp; omega) ?_)
 ·intro j u hu
  have hj : j < s.data.size := by
   have := (List.getElem?_eq_some_iff.1 hu).1
   rw [Lib.strCells_length] at this
   exact this
  rw [Addr.add_lit, Nat.zero_add]
  have h1 := World.cell?_alloc_mark w1.drew (bytesRow s (grownCap w1 s.size 0 5)) 5 ((bytesRow s (grownCap w1 s.size 0 5)).size, (bytesRow s (grownCap w1 s.size 0 5)).size + 1) j
  rw [bytesRow_at s _ j hj] at h1
  have e2 : u = .int .u8 (s.data[j].toNat : Int) := by
   simp [Lib.strCells] at hu
   obtain ⟨a, ha, rfl⟩ := hu
   rw [Array.getElem?_eq_getElem hj] at ha
   injection ha with ha
   rw [ha]
  rw [e2]
  exact h1
 intro v2 w2 hown2 hgrow _
 have hB : Below w.heap.size w w2 := (k0.drew.alloc (by simpa using hz) _).grown hgrow (by simp; omega) (fun k hk => (hown1.lt k hk).1)
 clear hgrow hcv
 go_wp2
 go_ret
 refine ⟨_, rfl, ?_, hB⟩
 rw [W.encB_length]
 unfold W.encB
 rw [W.bc_append]
 exact hown2
theorem rints_any (l : List Int) (A : Option Addr) (n c L : Nat) (w : World) (hr : Rd w L A (ic l)) (hL : L ≤ w.heap.size) (hn : n = l.length) (hall : ∀ x ∈ l, W.Is64 x) (hlen : l.length ≤ 70368744177664) (htot : (W.encI l).length ≤ 70368744177664) :
  Calls Try.prog 34 #[.slice A n c] w (Mk 5 1 (W.bc (W.encI l)) (W.encI l).length w) := by
 subst hn
 obtain ⟨i0, hi, hz0, hz1, hz2⟩ := info_parts info_u8
 have hI : W.Is64 (l.length : Int) := by unfold W.Is64; omega
 have HR := Lib.hid hr; clear hr
 have HPRE := Lib.hid hall; clear hall
 have HTOT := Lib.hid htot; clear htot
 go_enter Try.func34, Try.ntmps34
 go_wp2_with fail
 refine (rint_any _ _ hI).mono ?_
 rintro e w1 ⟨v1, rfl, hown1, k2⟩
 have hl := W.enc_le (l.length : Int)
 go_wp2_with fail
 go_loopw [4, 3] (fun ix v wr => ∃ k : Nat, k ≤ l.length ∧ ix = .int .i64 k ∧ wr.ownsRow w.heap.size 5 1 v (W.enc l.length ++ (l.take k).flatMap W.enc).length (W.bc (W.enc l.length ++ (l.take k).flatMap W.enc)) ∧ Below w.heap.size w wr) (fun ix _ _ => l.length - (intOf ix).toNat)
 case atStart => exact ⟨0, by omega, rfl, by simpa using hown1, k2⟩
 case round =>
  obtain ⟨k, hk, rfl, hown, hnx⟩ := hrel
  have hbd := W.flat_le W.enc l k
  have k3 : (W.enc l.length ++ (l.take k).flatMap W.enc).length ≤ (W.encI l).length := by unfold W.encI; rw [List.length_append, List.length_append]; omega
  by_cases hlt : k < l.length
  ·obtain ⟨x, hx⟩ : ∃ x : Int, l[k]? = some x := ⟨l[k], List.getElem?_eq_getElem hlt⟩
   obtain ⟨b, o, rfl, hbL, hcell⟩ := HR.out (by simp; omega)
   have f1 : wr.cell? ⟨b, o + k, none⟩ = some (.int .i64 x) := (hnx.cell (p := ⟨b, o + k, none⟩) (Nat.lt_of_lt_of_le hbL hL)).trans (hcell k _ (ic_at l hx))
   clear hcell
   have hxm : x ∈ l := List.mem_of_getElem? hx
   have k4 : W.Is64 x := HPRE.out x hxm
   have hflat := W.take_flat W.enc hx
   have hbd2 := W.flat_le W.enc l (k + 1)
   have k0 : (W.enc l.length ++ (l.take (k + 1)).flatMap W.enc).length ≤ 70368744177664 := by
    have h2 := HTOT.out
    unfold W.encI at h2
    rw [List.length_append] at h2 ⊢
    omega
   have e3 : W.enc l.length ++ (l.take (k + 1)).flatMap W.enc = (W.enc l.length ++ (l.take k).flatMap W.enc) ++ W.enc x := by rw [hflat, List.append_assoc]
   rw [e3] at k0
   have E3 := Lib.hid e3; clear e3 hflat hx hbd hbd2
   rw [List.length_append] at k0
   obtain ⟨N, hN⟩ : ∃ N, N = (W.enc l.length ++ (l.take k).flatMap W.enc).length := ⟨_, rfl⟩
   rw [← hN] at k0 hown k3
   have HN := Lib.hid hN; clear hN
   have hzr := hnx.size
   go_wp2_with fail
   refine (rint_any x _ k4).mono ?_
   rintro e w2 ⟨v2, rfl, hown2, k1⟩
   have hp : 0 < (W.enc x).length := by have := (W.enc_le x).1; omega
   obtain ⟨g2, c2, rfl, hgc2, hcm2, hg2, hgs2⟩ := own_pos hown2 hp
   have hz2r := k1.size
   go_wp2_with (at_builtin; refine wpList_append_own w2 rfl (.tmp 14) (.tmp 19) _ rfl w.heap.size 5 i0 _ 1 1 Try.underlying33 hi hz0 hz1 hz2 rfl (by decide) _ _ _ rfl (own_below hown k1) ⟨g2, 0, none⟩ _ _ (W.bc (W.enc x)) rfl (by simp) (own_cells hown2) (W.bc_oneCell _) (by unfold maxLen; omega) (by omega) (by omega) ?_)
   intro v' w3 hown3 hgrow _
   have hB : Below w.heap.size w w3 := below_grown hnx k1 hgrow hzr (fun g hg => (hown.lt g hg).1)
   clear hgrow hown hown2
   go_wp2
   go_roundw
   case rel =>
    refine ⟨k + 1, by omega, by go_num, ?_, hB⟩
    rw [E3.out, List.length_append, W.bc_append, ← HN.out]
    exact hown3
   case measure => simp [intOf]; omega
  ·obtain rfl : k = l.length := by omega
   go_wp2
   go_ret
   refine ⟨_, rfl, ?_, hnx⟩
   rw [List.take_of_length_le (Nat.le_refl _)] at hown
   exact hown
end Go.Proofs.Ytgdibcgphjmofaa
