/-
 THE WALK of the reference's Seal, whatever the slice; of its Bytes.
-/
import Derived.Test.YtgdibcgphjmofaaLnkX
namespace Go.Proofs.Ytgdibcgphjmofaa
set_option maxHeartbeats 4000000
open Go.RowKit
set_option linter.unusedVariables false
set_option maxRecDepth 100000 in
theorem rseal_rd (key : Int) (A : Option Addr) (c B : Nat) (l : List UInt8) (w : World) (hk : 0 ≤ key ∧ key < 18446744073709551616) (hr : Rd w B A (W.bc l)) (hB0 : B ≤ w.heap.size) (hc : l.length ≤ c) (hm : c ≤ maxLen) (hl : l.length ≤ 1000000000000) :
  Calls Try.prog 17 #[.int .u64 key, .slice A l.length c] w (RB_ (l ++ K.seal8 (K.hash key l)) w) := by
 unfold maxLen at hm
 obtain ⟨i0, hi, hz0, hz1, hz2⟩ := info_parts info_u8
 have HR := Lib.hid hr; have HK := Lib.hid hk
 clear hr hk
 go_enter Try.func17, Try.ntmps17
 go_wp2_with fail
 go_loopw [5, 6] (fun s5 s6 wr => ∃ k : Nat, k ≤ l.length ∧ s6 = .int .i64 (k : Int) ∧ s5 = .int .u64 (K.hash key (l.take k)) ∧ w = wr) (fun _ ix _ => (l.length - (intOf ix).toNat))
 case atStart => exact ⟨0, by omega, rfl, rfl, rfl⟩
 case round =>
  obtain ⟨k, hk2, rfl, rfl, rfl⟩ := hrel
  by_cases hk3 : k < l.length
  ·obtain ⟨b, o, rfl, hb, hcell⟩ := HR.out (by simp; omega)
   have f1 : w.cell? ⟨b, o + k, none⟩ = some (.int .u8 ((l[k]'hk3).toNat : Int)) := hcell k _ (W.bc_get l k hk3)
   clear hcell
   have hkd := decide_eq_true hk3
   have hk4 : (k : Int) < (l.length : Int) := by omega
   go_wp2
   exact ⟨⟨k + 1, by omega, by go_num, by rw [K.hash_take hk3]; rfl, trivial⟩, by simp [intOf]; omega⟩
  ·have hkd := decide_eq_false hk3
   have hall : l.take k = l := by rw [show k = l.length by omega]; exact List.take_length
   rw [hall]
   obtain ⟨H, hH⟩ : ∃ H, H = K.hash key l := ⟨_, rfl⟩
   have HH := Lib.hid hH
   have hrng := K.hash_rng HK.out l
   rw [← hH] at hrng ⊢
   clear hH
   have HR2 := Lib.hid (HR.out.alloc hB0 (.cells #[] 5))
   go_wp2_with (at_builtin; refine wpList_append_rd rfl (.tmp 25) (.tmp 26) _ rfl w.heap.size 5 i0 _ 1 Try.underlying33 hi hz0 hz1 hz2 rfl _ _ _ rfl (World.ownsRow_made w #[] 0 (Nat.le_refl _) (by decide) rfl) A l.length c B (W.bc l) rfl HR2.out (by simp) (W.bc_oneCell l) (by unfold maxLen; omega) (by omega) (by simp) ?_)
   intro v' w2 hown hgrow
   have hB : Below w.heap.size w w2 := ((Below.refl _ _).alloc (Nat.le_refl _) _).grown hgrow (by simp) (fun k hk => by simp [Value.ownBlock] at hk; omega)
   have HOWN : Hid (w2.ownsRow w.heap.size 5 1 v' l.length (W.bc l)) := Lib.hid (by simpa using hown)
   have HB := Lib.hid hB
   clear hown hB hgrow
   go_wp2_with fail
   go_loopw [5, 7, 8] (fun s5 s7 s8 wr => ∃ (i : Nat) (sv : Value), i ≤ 8 ∧ s8 = .int .i64 (i : Int) ∧ s5 = .int .u64 (H / ((256 ^ i : Nat) : Int)) ∧ s7 = sv ∧ Hid (wr.ownsRow w.heap.size 5 1 sv (l.length + i) (W.bc (l ++ (K.seal8 H).take i))) ∧ Hid (Below w.heap.size w wr)) (fun _ _ ix _ => (8 - (intOf ix).toNat))
   case atStart => exact ⟨0, _, by omega, rfl, by simp, rfl, Lib.hid (by simpa using HOWN.out), HB⟩
   case round =>
    clear HOWN HB
    obtain ⟨i, sv, hi8, rfl, rfl, rfl, HOWN, HB⟩ := hrel
    obtain ⟨wo, rfl⟩ : ∃ wo : World, wo = wr := ⟨_, rfl⟩
    have hge := HB.out.size
    by_cases hlt : i < 8
    ·have hkd := decide_eq_true hlt
     have k1 : (i : Int) < 8 := by omega
     have hq0 : 0 ≤ H / ((256 ^ i : Nat) : Int) := Int.ediv_nonneg hrng.1 (Int.natCast_nonneg _)
     have hdiv : H / ((256 ^ i : Nat) : Int) / 256 = H / ((256 ^ (i + 1) : Nat) : Int) := by
      rw [Int.ediv_ediv_of_nonneg (Int.natCast_nonneg _)]; congr 1
     have hcell := K.sealB_cell H i
     have hle : H / ((256 ^ i : Nat) : Int) ≤ H := Int.ediv_le_self _ hrng.1
     generalize hX : H / ((256 ^ i : Nat) : Int) = X at *
     have hx0 : 0 ≤ X % 256 ∧ X % 256 < 256 := by omega
     go_wp2_with (at_builtin; refine wpList_append_own _ rfl (.tmp 32) (.tmp 36) _ rfl w.heap.size 5 i0 _ 1 1 Try.underlying33 hi hz0 hz1 hz2 rfl (by decide) _ _ _ rfl (HOWN.out.alloc _) ⟨wo.heap.size, 0, none⟩ 1 1 [.int .u8 (X % 256)] rfl rfl (cell_one_new _ _ _) (fun u hu => by simp at hu; subst hu; rfl) (by unfold maxLen; omega) (by omega) (by simp; omega) ?_)
     intro v2 w3 hown3 hgrow _
     have hB3 : Below w.heap.size w w3 := (HB.out.alloc hge _).grown hgrow (by simp; omega) (fun k hk => (HOWN.out.lt k hk).1)
     have HOWN3 := Lib.hid hown3; have k0 := Lib.hid hB3
     clear hown3 hB3 hgrow
     go_wp2
     have hst : (K.seal8 H).take (i + 1) = (K.seal8 H).take i ++ [K.sealB H i] := by
      have : ∀ j, j < 8 → (K.seal8 H).take (j + 1) = (K.seal8 H).take j ++ [K.sealB H j] := by
       intro j hj
       have hc : j = 0 ∨ j = 1 ∨ j = 2 ∨ j = 3 ∨ j = 4 ∨ j = 5 ∨ j = 6 ∨ j = 7 := by omega
       rcases hc with rfl | rfl | rfl | rfl | rfl | rfl | rfl | rfl <;> rfl
      exact this i hlt
     refine ⟨⟨i + 1, v2, by omega, by go_num, by rw [← hdiv], rfl, Lib.hid ?_, k0⟩, by simp [intOf]; omega⟩
     have h := HOWN3.out
     rw [hst, ← List.append_assoc, W.bc_append]
     rw [show W.bc [K.sealB H i] = [.int .u8 (X % 256)] from by simp only [W.bc, List.map_cons, List.map_nil]; rw [hcell]]
     exact h
    ·obtain rfl : i = 8 := by omega
     have hkd := decide_eq_false hlt
     go_wp2
     go_ret
     refine ⟨_, rfl, ?_, HB.out⟩
     rw [← HH.out]
     have h := HOWN.out
     simpa [K.seal8] using h
theorem rints2 (p q : Int) (g : Nat) (w : World) (hr : Bx w g 3 [.int .i64 p, .int .i64 q]) (hp : W.Is64 p) (hq : W.Is64 q) : Calls Try.prog 34 #[.slice (some ⟨g, 0, none⟩) 2 2] w (Mk 5 1 (W.bc (W.encI [p, q])) (W.encI [p, q]).length w) := by
 refine rints_any [p, q] (some ⟨g, 0, none⟩) 2 2 w.heap.size w (fun _ => ⟨g, 0, rfl, hr.lt, fun j u hu => ?_⟩) (Nat.le_refl _) rfl ?_ (by simp) ?_
 ·rw [Nat.zero_add]; exact hr.cell hu
 ·intro x hx
  simp at hx
  rcases hx with rfl | rfl
  ·exact hp
  ·exact hq
 ·have h1 := W.enc_le p; have h2 := W.enc_le q; have h3 := W.enc_le (([p, q].length : Nat) : Int)
  simp only [W.encI, List.length_append, List.flatMap_cons, List.flatMap_nil, List.length_nil]
  omega
set_option maxRecDepth 100000 in
theorem rpk_any (p q : Int) (A : Option Addr) (c L : Nat) (l : List UInt8) (w : World) (hr : Rd w L A (W.bc l)) (hL : L ≤ w.heap.size) (hp64 : W.Is64 p) (hq64 : W.Is64 q) (hlen : l.length ≤ 100000) :
  Calls Try.prog 18 #[.agg #[.int .i64 p, .int .i64 q, .slice A l.length c]] w (RB_ (K.pk p q l) w) := by
 obtain ⟨i0, hi, hz0, hz1, hz2⟩ := info_parts info_u8
 have HR := Lib.hid hr; clear hr
 have hsum := K.pk_sum p q l
 go_enter Try.func18, Try.ntmps18
 go_wp2_with fail
 generalize hW1 : (w.alloc (.cells _ 43)).alloc _ = w1
 obtain ⟨hx, hrow, k1⟩ := box2 hW1
 refine (rints2 p q _ w1 hrow hp64 hq64).mono ?_
 rintro e w2 ⟨v2, rfl, hown2, k2⟩
 have hx2 := hx.below k2
 have k0 := Lib.hid (Blw k1 k2)
 have hR2 := HR.out.below k0.out hL
 have hcv := run_string_rd hR2 l.length c rfl
 have hz2' := k0.out.size
 have HO2 := Lib.hid (own_base hown2 (base' := w.heap.size) k1.size)
 have hl2 : (W.encI [p, q]).length ≤ 100 := by
  have h1 := W.enc_le p; have h2 := W.enc_le q; have h3 := W.enc_le (([p, q].length : Nat) : Int)
  simp only [W.encI, List.length_append, List.flatMap_cons, List.flatMap_nil, List.length_nil]
  omega
 obtain ⟨A2, c2, rfl, -⟩ := own_form hown2
 clear hW1 hx hrow k1 hown2 k2 hR2
 obtain ⟨d0, d1, d2, z2, l2⟩ := f3 hx2
 generalize hI : W.encI [p, q] = E at *
 have HI := Lib.hid hI; clear hI
 obtain ⟨n2, hn2⟩ : ∃ n, n = E.length := ⟨_, rfl⟩
 rw [← hn2] at HO2 hl2 ⊢
 have HN2 := Lib.hid hn2; clear hn2
 go_wp2_with fail
 refine (rbytes_any ⟨l.toArray⟩ w2 (by simp [ByteArray.size]; omega)).mono ?_
 rintro e w3 ⟨v3, rfl, hown3, k3⟩
 have hl3 : (W.encB l).length ≤ 100100 := by omega
 have hown3 : w3.ownsRow w2.heap.size 5 1 v3 (W.encB l).length (W.bc (W.encB l)) := hown3
 have HR3 : ∃ A3 c3, v3 = .slice A3 (W.encB l).length c3 ∧ Hid (Rd w3 w3.heap.size A3 (W.bc (W.encB l))) := by
  obtain ⟨A, c, h, _⟩ := own_form hown3
  subst h
  exact ⟨A, c, rfl, Lib.hid (Rd.of_own hown3)⟩
 obtain ⟨A3, c3, rfl, HR3⟩ := HR3
 have HO3 := Lib.hid (own_below HO2.out k3)
 have k4 := Lib.hid (Blw k0.out k3)
 have hz3 := k4.out.size
 generalize hJ : W.encB l = F at *
 have HJ := Lib.hid hJ; clear hJ
 obtain ⟨n3, hn3⟩ : ∃ n, n = F.length := ⟨_, rfl⟩
 rw [← hn3] at hl3 ⊢
 have HN3 := Lib.hid hn3
 clear hn3 hown3 k3 hcv hx2 d0 d1 d2 z2 l2 k0 HO2 hsum
 go_wp2_with (at_builtin; refine wpList_append_rd rfl (.tmp 10) (.tmp 14) _ rfl w.heap.size 5 i0 _ 1 Try.underlying33 hi hz0 hz1 hz2 rfl _ _ _ rfl HO3.out A3 n3 c3 w3.heap.size (W.bc F) rfl HR3.out (by rw [W.bc_length]; exact HN3.out.symm) (W.bc_oneCell F) (by unfold maxLen; omega) (by omega) hz3 ?_)
 intro v4 w4 hown4 hg4
 have k6 := Lib.hid (k4.out.grown hg4 hz3 (fun k hk => (HO3.out.lt k hk).1))
 have HO4 := Lib.hid hown4
 clear hown4 hg4
 go_wp2
 go_ret
 refine ⟨_, rfl, ?_, k6.out⟩
 have e : K.pk p q l = E ++ F := by unfold K.pk; rw [HI.out, HJ.out]
 rw [e, W.bc_append, List.length_append, ← HN2.out, ← HN3.out]
 exact HO4.out
end Go.Proofs.Ytgdibcgphjmofaa
