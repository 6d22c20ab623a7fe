/-
  THE WALKS of the reference's encoders (Bytes, Ints, Strings).
-/
import Derived.Test.YthgpgdpndionjaaWalkRInt
import Derived.Test.YthgpgdpndionjaaWalkEnc
import Derived.Test.YthgpgdpndionjaaWalkSame
import Derived.Lib.AppendStr
namespace Go.Proofs.Ythgpgdpndionjaa
open Go.RowKit


set_option maxHeartbeats 400000 in
theorem rbytes_any (s : ByteArray) (w : World) (hs : s.size ≤ 70368744177664) :
    Calls Try.prog 17 #[.string s] w (Mk 5 1 (W.bc (W.encB s.data.toList)) (W.encB s.data.toList).length w) := by
  obtain ⟨i0, hi, hz0, hz1, hz2⟩ := info_parts info_u8
  have hI : W.Is64 (s.size : Int) := by unfold W.Is64; omega
  go_enter Try.func17, Try.ntmps17
  go_wp2_with fail
  refine (rint_any _ _ hI).mono ?_
  rintro e w1 ⟨v1, rfl, hown1, hb1⟩
  have hl := W.enc_le (s.size : Int)
  obtain ⟨g1, c1, rfl, hgc1, hcm1, hg1, hgs1⟩ := own_pos hown1 (by omega)
  have hz := hb1.size
  have hcv := run_bytes_of_string (P := Try.prog) w1 9 28 5 s Try.underlying9 Try.underlying28 Try.underlying5
  go_wp2_with (at_builtin; refine wpList_append_own _ rfl (.tmp 5) (.tmp 7) _ rfl w.heap.size 5 i0 _ 1 1 Try.underlying28 hi hz0 hz1 hz2 rfl (by decide) _ _ _ rfl (hown1.drew.alloc _) ⟨w1.heap.size, 0, none⟩ s.size _ (Lib.strCells s) rfl (by rw [Lib.strCells_length]; simp) ?_ (Lib.strCells_oneCell s) (by unfold maxLen; omega) (by omega) (by simp; omega) ?_)
  · intro j u hu
    have hj : j < s.data.size := by
      have := (List.getElem?_eq_some_iff.1 hu).1
      rw [Lib.strCells_length] at this
      exact this
    rw [Addr.add_lit, Nat.zero_add]
    have h1 := World.cell?_alloc_mark w1.drew (bytesRow s (grownCap w1 s.size 0 5)) 5 ((bytesRow s (grownCap w1 s.size 0 5)).size, (bytesRow s (grownCap w1 s.size 0 5)).size + 1) j
    rw [bytesRow_at s _ j hj] at h1
    have e2 : u = .int .u8 (s.data[j].toNat : Int) := by
      simp [Lib.strCells] at hu
      obtain ⟨a, ha, rfl⟩ := hu
      rw [Array.getElem?_eq_getElem hj] at ha
      injection ha with ha
      rw [ha]
    rw [e2]
    exact h1
  intro v2 w2 hown2 hgrow _
  have hB : Below w.heap.size w w2 := (hb1.drew.alloc (by simpa using hz) _).grown hgrow (by simp; omega) (fun k hk => (hown1.lt k hk).1)
  clear hgrow hcv
  go_wp2
  go_ret
  refine ⟨_, rfl, ?_, hB⟩
  rw [W.encB_length]
  unfold W.encB
  rw [W.bc_append]
  exact hown2

set_option maxHeartbeats 1000000 in
theorem rints_any (l : List Int) (A : Option Addr) (n c L : Nat) (w : World) (hr : Rd w L A (ic l)) (hL : L ≤ w.heap.size) (hn : n = l.length) (hall : ∀ x ∈ l, W.Is64 x) (hlen : l.length ≤ 70368744177664) (htot : (W.encI l).length ≤ 70368744177664) :
    Calls Try.prog 19 #[.slice A n c] w (Mk 5 1 (W.bc (W.encI l)) (W.encI l).length w) := by
  subst hn
  obtain ⟨i0, hi, hz0, hz1, hz2⟩ := info_parts info_u8
  have hI : W.Is64 (l.length : Int) := by unfold W.Is64; omega
  have HR := Lib.hid hr; clear hr
  have HPRE := Lib.hid hall; clear hall
  have HTOT := Lib.hid htot; clear htot
  go_enter Try.func19, Try.ntmps19
  go_wp2_with fail
  refine (rint_any _ _ hI).mono ?_
  rintro e w1 ⟨v1, rfl, hown1, hb1⟩
  have hl := W.enc_le (l.length : Int)
  go_wp2_with fail
  go_loopw [4, 3] (fun ix v wr => ∃ k : Nat, k ≤ l.length ∧ ix = .int .i64 k ∧ wr.ownsRow w.heap.size 5 1 v (W.enc l.length ++ (l.take k).flatMap W.enc).length (W.bc (W.enc l.length ++ (l.take k).flatMap W.enc)) ∧ Below w.heap.size w wr) (fun ix _ _ => l.length - (intOf ix).toNat)
  case atStart => exact ⟨0, by omega, rfl, by simpa using hown1, hb1⟩
  case round =>
    obtain ⟨k, hk, rfl, hown, hnx⟩ := hrel
    have hbd := W.flat_le W.enc l k
    have hlt9 : (W.enc l.length ++ (l.take k).flatMap W.enc).length ≤ (W.encI l).length := by unfold W.encI; rw [List.length_append, List.length_append]; omega
    by_cases hlt : k < l.length
    · obtain ⟨x, hx⟩ : ∃ x : Int, l[k]? = some x := ⟨l[k], List.getElem?_eq_getElem hlt⟩
      obtain ⟨b, o, rfl, hbL, hcell⟩ := HR.out (by simp; omega)
      have f1 : wr.cell? ⟨b, o + k, none⟩ = some (.int .i64 x) := (hnx.cell (p := ⟨b, o + k, none⟩) (Nat.lt_of_lt_of_le hbL hL)).trans (hcell k _ (ic_at l hx))
      clear hcell
      have hxm : x ∈ l := List.mem_of_getElem? hx
      have hI2 : W.Is64 x := HPRE.out x hxm
      have hflat := W.take_flat W.enc hx
      have hbd2 := W.flat_le W.enc l (k + 1)
      have hlt92 : (W.enc l.length ++ (l.take (k + 1)).flatMap W.enc).length ≤ 70368744177664 := by
        have h2 := HTOT.out
        unfold W.encI at h2
        rw [List.length_append] at h2 ⊢
        omega
      have e3 : W.enc l.length ++ (l.take (k + 1)).flatMap W.enc = (W.enc l.length ++ (l.take k).flatMap W.enc) ++ W.enc x := by rw [hflat, List.append_assoc]
      rw [e3] at hlt92
      have E3 := Lib.hid e3; clear e3 hflat hx hbd hbd2
      rw [List.length_append] at hlt92
      obtain ⟨N, hN⟩ : ∃ N, N = (W.enc l.length ++ (l.take k).flatMap W.enc).length := ⟨_, rfl⟩
      rw [← hN] at hlt92 hown hlt9
      have HN := Lib.hid hN; clear hN
      have hzr := hnx.size
      go_wp2_with fail
      refine (rint_any x _ hI2).mono ?_
      rintro e w2 ⟨v2, rfl, hown2, hb2⟩
      have hp : 0 < (W.enc x).length := by have := (W.enc_le x).1; omega
      obtain ⟨g2, c2, rfl, hgc2, hcm2, hg2, hgs2⟩ := own_pos hown2 hp
      have hz2r := hb2.size
      go_wp2_with (at_builtin; refine wpList_append_own w2 rfl (.tmp 14) (.tmp 19) _ rfl w.heap.size 5 i0 _ 1 1 Try.underlying28 hi hz0 hz1 hz2 rfl (by decide) _ _ _ rfl (own_below hown hb2) ⟨g2, 0, none⟩ _ _ (W.bc (W.enc x)) rfl (by simp) (own_cells hown2) (W.bc_oneCell _) (by unfold maxLen; omega) (by omega) (by omega) ?_)
      intro v' w3 hown3 hgrow _
      have hB : Below w.heap.size w w3 := below_grown hnx hb2 hgrow hzr (fun g hg => (hown.lt g hg).1)
      clear hgrow hown hown2
      go_wp2
      go_roundw
      case rel =>
        refine ⟨k + 1, by omega, by go_num, ?_, hB⟩
        rw [E3.out, List.length_append, W.bc_append, ← HN.out]
        exact hown3
      case measure => simp [intOf]; omega
    · obtain rfl : k = l.length := by omega
      go_wp2
      go_ret
      refine ⟨_, rfl, ?_, hnx⟩
      rw [List.take_of_length_le (Nat.le_refl _)] at hown
      exact hown

set_option maxHeartbeats 1000000 in
theorem rstrings_any (l : List ByteArray) (A : Option Addr) (n c L : Nat) (w : World) (hr : Rd w L A (sc l)) (hL : L ≤ w.heap.size) (hn : n = l.length) (hall : ∀ x ∈ l, x.size ≤ 70368744177664) (hlen : l.length ≤ 70368744177664) (htot : (W.encS l).length ≤ 70368744177664) :
    Calls Try.prog 21 #[.slice A n c] w (Mk 5 1 (W.bc (W.encS l)) (W.encS l).length w) := by
  subst hn
  obtain ⟨i0, hi, hz0, hz1, hz2⟩ := info_parts info_u8
  have hI : W.Is64 (l.length : Int) := by unfold W.Is64; omega
  have HR := Lib.hid hr; clear hr
  have HPRE := Lib.hid hall; clear hall
  have HTOT := Lib.hid htot; clear htot
  go_enter Try.func21, Try.ntmps21
  go_wp2_with fail
  refine (rint_any _ _ hI).mono ?_
  rintro e w1 ⟨v1, rfl, hown1, hb1⟩
  have hl := W.enc_le (l.length : Int)
  go_wp2_with fail
  go_loopw [4, 3] (fun ix v wr => ∃ k : Nat, k ≤ l.length ∧ ix = .int .i64 k ∧ wr.ownsRow w.heap.size 5 1 v (W.enc l.length ++ (l.take k).flatMap (fun s : ByteArray => W.encB s.data.toList)).length (W.bc (W.enc l.length ++ (l.take k).flatMap (fun s : ByteArray => W.encB s.data.toList))) ∧ Below w.heap.size w wr) (fun ix _ _ => l.length - (intOf ix).toNat)
  case atStart => exact ⟨0, by omega, rfl, by simpa using hown1, hb1⟩
  case round =>
    obtain ⟨k, hk, rfl, hown, hnx⟩ := hrel
    have hbd := W.flat_le (fun s : ByteArray => W.encB s.data.toList) l k
    have hlt9 : (W.enc l.length ++ (l.take k).flatMap (fun s : ByteArray => W.encB s.data.toList)).length ≤ (W.encS l).length := by unfold W.encS; rw [List.length_append, List.length_append]; omega
    by_cases hlt : k < l.length
    · obtain ⟨x, hx⟩ : ∃ x : ByteArray, l[k]? = some x := ⟨l[k], List.getElem?_eq_getElem hlt⟩
      obtain ⟨b, o, rfl, hbL, hcell⟩ := HR.out (by simp; omega)
      have f1 : wr.cell? ⟨b, o + k, none⟩ = some (.string x) := (hnx.cell (p := ⟨b, o + k, none⟩) (Nat.lt_of_lt_of_le hbL hL)).trans (hcell k _ (sc_at l hx))
      clear hcell
      have hxm : x ∈ l := List.mem_of_getElem? hx
      have hI2 : x.size ≤ 70368744177664 := HPRE.out x hxm
      have hflat := W.take_flat (fun s : ByteArray => W.encB s.data.toList) hx
      have hbd2 := W.flat_le (fun s : ByteArray => W.encB s.data.toList) l (k + 1)
      have hlt92 : (W.enc l.length ++ (l.take (k + 1)).flatMap (fun s : ByteArray => W.encB s.data.toList)).length ≤ 70368744177664 := by
        have h2 := HTOT.out
        unfold W.encS at h2
        rw [List.length_append] at h2 ⊢
        omega
      have e3 : W.enc l.length ++ (l.take (k + 1)).flatMap (fun s : ByteArray => W.encB s.data.toList) = (W.enc l.length ++ (l.take k).flatMap (fun s : ByteArray => W.encB s.data.toList)) ++ (W.encB x.data.toList) := by rw [hflat, List.append_assoc]
      rw [e3] at hlt92
      have E3 := Lib.hid e3; clear e3 hflat hx hbd hbd2
      rw [List.length_append] at hlt92
      obtain ⟨N, hN⟩ : ∃ N, N = (W.enc l.length ++ (l.take k).flatMap (fun s : ByteArray => W.encB s.data.toList)).length := ⟨_, rfl⟩
      rw [← hN] at hlt92 hown hlt9
      have HN := Lib.hid hN; clear hN
      have hzr := hnx.size
      go_wp2_with fail
      refine (rbytes_any x _ hI2).mono ?_
      rintro e w2 ⟨v2, rfl, hown2, hb2⟩
      have hp : 0 < ((W.encB x.data.toList)).length := W.encB_pos _
      obtain ⟨g2, c2, rfl, hgc2, hcm2, hg2, hgs2⟩ := own_pos hown2 hp
      have hz2r := hb2.size
      go_wp2_with (at_builtin; refine wpList_append_own w2 rfl (.tmp 14) (.tmp 19) _ rfl w.heap.size 5 i0 _ 1 1 Try.underlying28 hi hz0 hz1 hz2 rfl (by decide) _ _ _ rfl (own_below hown hb2) ⟨g2, 0, none⟩ _ _ (W.bc ((W.encB x.data.toList))) rfl (by simp) (own_cells hown2) (W.bc_oneCell _) (by unfold maxLen; omega) (by omega) (by omega) ?_)
      intro v' w3 hown3 hgrow _
      have hB : Below w.heap.size w w3 := below_grown hnx hb2 hgrow hzr (fun g hg => (hown.lt g hg).1)
      clear hgrow hown hown2
      go_wp2
      go_roundw
      case rel =>
        refine ⟨k + 1, by omega, by go_num, ?_, hB⟩
        rw [E3.out, List.length_append, W.bc_append, ← HN.out]
        exact hown3
      case measure => simp [intOf]; omega
    · obtain rfl : k = l.length := by omega
      go_wp2
      go_ret
      refine ⟨_, rfl, ?_, hnx⟩
      rw [List.take_of_length_le (Nat.le_refl _)] at hown
      exact hown

end Go.Proofs.Ythgpgdpndionjaa
