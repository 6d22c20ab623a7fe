/-
 THE WALKS of link.Seal, link.Open, sherdref37.Open.
-/
import Derived.Test.YtgdibcgphjmofaaLnkE
namespace Go.Proofs.Ytgdibcgphjmofaa
set_option maxHeartbeats 4000000
open Go.RowKit
set_option linter.unusedVariables false
set_option maxRecDepth 100000 in
theorem concat_two (g : Nat) (A1 A2 : Option Addr) (c1 c2 B : Nat) (l1 l2 : List UInt8) (w : World) (hx : Bx w g 33 [.slice A1 l1.length c1, .slice A2 l2.length c2]) (h1 : Rd w B A1 (W.bc l1)) (h2 : Rd w B A2 (W.bc l2)) (hB : B ≤ w.heap.size)
  (hl : l1.length + l2.length ≤ 1000000000000) : Calls Try.prog 42 #[.slice (some ⟨g, 0, none⟩) 2 2] w (RB_ (l1 ++ l2) w) := by
 obtain ⟨i0, hi, hz0, hz1, hz2⟩ := info_parts info_u8
 have H1 := Lib.hid h1; have H2 := Lib.hid h2; clear h1 h2
 obtain ⟨x0, x1, -, -⟩ := hx.f2
 obtain ⟨n1, hn1⟩ : ∃ n1, n1 = l1.length := ⟨_, rfl⟩
 obtain ⟨n2, hn2⟩ : ∃ n2, n2 = l2.length := ⟨_, rfl⟩
 rw [← hn1, ← hn2] at hl hx
 rw [← hn1] at x0; rw [← hn2] at x1
 have HN1 := Lib.hid hn1; have HN2 := Lib.hid hn2; clear hn1 hn2
 have k7 : ¬ ((n1 : Int) + (n2 : Int) < 0) := by omega
 have k8 : ¬ ((n1 : Int) < 0) := by omega
 go_enter Try.func42, Try.ntmps42
 go_wp2_with fail
 refine wp_loop_rounds 3 ?_
 rw [rounds_succ]; go_wp2_with fail
 rw [rounds_succ]; go_wp2_with fail
 rw [rounds_succ]; go_wp2_with fail
 rw [← Int.natCast_add]
 refine (grow_nil (n1 + n2) w (by omega)).mono ?_
 rintro e w1 ⟨v1, rfl, hown, hb⟩
 have hown : w1.ownsRow w.heap.size 5 1 v1 0 [] := hown
 have hz := hb.size
 have hgl := hx.lt
 have hx' := hx.below hb
 obtain ⟨y0, y1, -, -⟩ := hx'.f2
 have r1 := Lib.hid (H1.out.below hb hB)
 have r2 := Lib.hid (H2.out.below hb hB)
 have HO := Lib.hid hown; have HB := Lib.hid hb
 clear hown hb x0 x1 hx hx' H1 H2
 go_wp2_with fail
 refine wp_loop_rounds 3 ?_
 rw [rounds_succ]
 go_wp2_with (at_builtin; refine wpList_append_rd rfl (.tmp 31) (.tmp 32) _ rfl w.heap.size 5 i0 _ 1 Try.underlying33 hi hz0 hz1 hz2 rfl _ _ _ rfl HO.out A1 n1 c1 B (W.bc l1) rfl r1.out (by simp [HN1.out]) (W.bc_oneCell l1) (by unfold maxLen; omega) (by omega) hz ?_)
 intro v2 w2 hown2 hg2
 have k0 : Below w.heap.size w w2 := HB.out.grown hg2 hz (fun k hk => (HO.out.lt k hk).1)
 have k2 : ∀ p : Addr, p.block < w.heap.size → w2.cell? p = w1.cell? p := fun p hp => (k0.cell hp).trans (HB.out.cell hp).symm
 have u0 := (k2 ⟨g, 0, none⟩ hgl).trans y0
 have u1 := (k2 ⟨g, 1, none⟩ hgl).trans y1
 have q2 := Lib.hid (r2.out.keep (w' := w2) (fun p hp => k2 p (by omega)))
 have hz2' := k0.size
 have hown2 : w2.ownsRow w.heap.size 5 1 v2 n1 (W.bc l1) := by simpa using hown2
 have HO2 := Lib.hid hown2; have k4 := Lib.hid k0
 clear hown2 k0 hg2 k2 y0 y1 r1 r2 HO HB
 go_wp2_with fail
 rw [rounds_succ]
 go_wp2_with (at_builtin; refine wpList_append_rd rfl (.tmp 31) (.tmp 32) _ rfl w.heap.size 5 i0 _ 1 Try.underlying33 hi hz0 hz1 hz2 rfl _ _ _ rfl HO2.out A2 n2 c2 B (W.bc l2) rfl q2.out (by simp [HN2.out]) (W.bc_oneCell l2) (by unfold maxLen; omega) (by omega) hz2' ?_)
 intro v3 w3 hown3 hg3
 have k5 : Below w.heap.size w w3 := k4.out.grown hg3 hz2' (fun k hk => (HO2.out.lt k hk).1)
 have HO3 := Lib.hid hown3; have k6 := Lib.hid k5
 clear hown3 k5 hg3 u0 u1 q2 HO2 k4
 go_wp2_with fail
 rw [rounds_succ]
 go_wp2_with fail
 go_ret
 refine ⟨_, rfl, ?_, k6.out⟩
 rw [W.bc_append, List.length_append, ← HN1.out, ← HN2.out]
 exact HO3.out
end Go.Proofs.Ytgdibcgphjmofaa
namespace Go.Proofs.Ytgdibcgphjmofaa
set_option maxHeartbeats 4000000
open Go.RowKit
set_option linter.unusedVariables false
set_option maxRecDepth 100000 in
theorem lseal_any (key : Int) (A : Option Addr) (c B : Nat) (l : List UInt8) (w : World) (hr : Rd w B A (W.bc l)) (hB : B ≤ w.heap.size) (hc : l.length ≤ c) (hm : c ≤ maxLen) (hl : l.length ≤ 900000000000) :
  Calls Try.prog 24 #[.int .u64 key, .slice A l.length c] w (RB_ (l ++ K.seal8 (K.hash key l)) w) := by
 have HR := Lib.hid hr; clear hr
 obtain ⟨N, hN⟩ : ∃ N, N = l.length := ⟨_, rfl⟩
 have hs := seal_any key l A c w (HR.out.mono hB) hc hm
 rw [← hN] at hs hc hl ⊢
 have HN := Lib.hid hN; clear hN
 have HS := Lib.hid hs; clear hs
 go_enter Try.func24, Try.ntmps24
 go_wp2_with fail
 refine HS.out.mono ?_
 rintro e w1 ⟨rfl, hb⟩
 generalize hH : K.hash key l = H
 have HH := Lib.hid hH; clear hH HS
 have hz := hb.size
 have HB := Lib.hid hb; clear hb
 go_wp2_with fail
 generalize hW : (w1.alloc (.cells _ 79)).alloc _ = Wq
 obtain ⟨x1, x2, k0⟩ := box2 hW
 have hrow : W.bc (K.seal8 H) = [.int .u8 (H % 256), .int .u8 (H / 256 % 256), .int .u8 (H / 65536 % 256), .int .u8 (H / 16777216 % 256), .int .u8 (H / 4294967296 % 256), .int .u8 (H / 1099511627776 % 256), .int .u8 (H / 281474976710656 % 256), .int .u8 (H / 72057594037927936 % 256)] := by
  simp [W.bc, K.seal8, K.sealB_cell]
 have hz2 := k0.size
 have r2 : Rd Wq Wq.heap.size (some ⟨w1.heap.size, 0, none⟩) (W.bc (K.seal8 H)) := fun _ => ⟨_, 0, rfl, x1.lt, fun j u hu => by rw [hrow] at hu; rw [Nat.zero_add]; exact x1.cell hu⟩
 have r1 : Rd Wq Wq.heap.size A (W.bc l) := ((HR.out.below HB.out hB).below k0 (by omega)).mono (by omega)
 rw [HN.out] at x2 ⊢
 refine (concat_two (w1.heap.size + 1) A (some ⟨w1.heap.size, 0, none⟩) c 8 Wq.heap.size l (K.seal8 H) Wq x2 r1 r2 (Nat.le_refl _) (by simp [K.seal8]; have := HN.out; omega)).mono ?_
 rintro e w3 ⟨v3, rfl, hown, k1⟩
 have hbe : Below w.heap.size w w3 := (Blw HB.out k0).trans (k1.mono (by omega))
 have HO := Lib.hid (own_base hown (base' := w.heap.size) (by omega))
 clear hown k1 r1 r2 hrow x1 x2 k0 hW
 go_wp2
 go_ret
 rw [HH.out]
 exact ⟨_, rfl, HO.out, hbe⟩
end Go.Proofs.Ytgdibcgphjmofaa
