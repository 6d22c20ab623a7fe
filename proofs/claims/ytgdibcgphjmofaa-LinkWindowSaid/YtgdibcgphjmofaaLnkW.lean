/-
 In, whole; what packets are worth.
-/
import Derived.Test.YtgdibcgphjmofaaLnkV
namespace Go.Proofs.Ytgdibcgphjmofaa
set_option maxHeartbeats 400000
open Go.RowKit
open Go.Maps
set_option linter.unusedVariables false
theorem K.read_some {l : List UInt8} {p q : Int} {s : List UInt8} (h : K.read l = some (p, q, s)) : W.Is64 p ∧ W.Is64 q ∧ K.okP p q s.length := by
 unfold K.read at h
 split at h
 ·rename_i he
  have hcan := W.decL_canon W.codec_int l (show (W.decI l).2.2 = 0 from he)
  change (∀ x ∈ (W.decI l).1, W.Is64 x) ∧ _ at hcan
  split at h
  ·rename_i p' q' hl
   rw [hl] at hcan
   split at h
   ·rename_i hc
    injection h with h
    injection h with h1 h
    injection h with h2 h3
    subst h1; subst h2; subst h3
    exact ⟨hcan.1 _ (by simp), hcan.1 _ (by simp), hc.2.2⟩
   ·cases h
  ·cases h
 ·cases h
theorem K.read_pk {p q : Int} {s : List UInt8} (hp : W.Is64 p) (hq : W.Is64 q) (h : K.okP p q s.length) : K.read (K.pk p q s) = some (p, q, s) := by
 have hI : W.decI (K.pk p q s) = ([p, q], (W.encI [p, q]).length, 0) := by
  unfold K.pk
  exact W.decL_back W.codec_int [p, q] (W.encB s) (fun x hx => by simp at hx; rcases hx with rfl | rfl; exact hp; exact hq) (by unfold W.Is64; simp)
 have hJ : W.decB ((K.pk p q s).drop (W.encI [p, q]).length) = (s, (W.encB s).length, 0) := by
  unfold K.pk
  rw [List.drop_left]
  have := W.decB_back s [] (by unfold W.Is64; have := h.2.2.1; omega)
  rwa [List.append_nil] at this
 rw [K.read_eq hI hJ, if_pos ⟨rfl, by unfold K.pk; rw [List.length_append], h⟩]
theorem K.seal8_len (H : Int) : (K.seal8 H).length = 8 := rfl
theorem K.unseal_sealed (key : Int) (l : List UInt8) : K.unseal key (K.sealed key l) = (l, 0) := by
 unfold K.unseal K.sealed
 rw [if_neg (by rw [List.length_append, K.seal8_len]; omega)]
 have e : (l ++ K.seal8 (K.hash key l)).length - 8 = l.length := by rw [List.length_append, K.seal8_len]; omega
 rw [e, List.take_left, List.drop_left, if_neg (by simp)]
theorem in_any (b : Nat) (own : List Nat) (S : K.E) (x : Value) (l : List UInt8) (w : World) (h : EndAt w b own S) (ok : K.ok S) (hbv : BV w x l) (hl : l.length ≤ 1000000000000) :
  Calls Try.prog 19 #[.pointer (some ⟨b, 0, none⟩), x] w (RIn (K.inn S l) b own w) := by
 unfold K.inn
 rcases unseal_err S.key l with hE | hE | hE
 ·rw [if_neg (by omega)]
  rcases hR : K.read (K.unseal S.key l).1 with _ | ⟨p, q, s⟩
  ·exact in_no b own S x l w h hbv hl hE hR
  ·have hs := K.read_some hR
   obtain ⟨hp64, hq64, hp0, hq0, hs1, _⟩ := hs
   have hpm := hp64.2; have hqm := hq64.2
   simp only
   by_cases hq : S.acked + (S.wait.length : Int) < q
   ·have e : K.into S p q s = ([], 0, S) := by unfold K.into; rw [if_pos (.inl hq)]
    rw [e]
    exact in_skip1 b own S x l w h ok hbv hl hE p q s hR hp0 hq0 (by omega) (by omega) hs1 hq
   ·by_cases hp : S.del + 16 < p
    ·have e : K.into S p q s = ([], 0, S) := by unfold K.into; rw [if_pos (.inr hp)]
     rw [e]
     exact in_skip2 b own S x l w h ok hbv hl hE p q s hR hp0 hq0 (by omega) (by omega) hs1 hq hp
    ·exact in_main b own S x l w h ok hbv hl hE p q s hR hp0 hq0 (by omega) (by omega) hs1 hq hp
 ·rw [if_pos (by omega), if_neg (by omega), hE]
  exact in_2 b own S x l w h hbv hl hE
 ·rw [if_pos (by omega), if_pos hE, hE]
  exact in_9 b own S x l w h hbv hl ok.f1 ok.f2 hE
/-- Around. -/
def K.ar (n most : Int) : Int := (if n < 0 then -(n + 1) else n) % most
theorem K.ar_rng {n most : Int} (h : 0 < most) : 0 ≤ K.ar n most ∧ K.ar n most < most := ⟨Int.emod_nonneg _ (by omega), Int.emod_lt_of_pos _ h⟩
theorem ar_any (n most : Int) (w : World) (hn : W.Is64 n) (h0 : 0 < most) (h1 : most ≤ 1000000000000) : Calls Try.prog 10 #[.int .i64 n, .int .i64 most] w fun e w' => e = .returned (.int .i64 (K.ar n most)) ∧ w = w' := by
 have hlo := hn.1
 have hhi := hn.2
 have hz : (most == 0) = false := beq_eq_false_iff_ne.2 (by omega)
 clear hn
 unfold K.ar
 by_cases h : n < 0
 ·rw [if_pos h]
  have hd := decide_eq_true h
  obtain ⟨m, hm⟩ : ∃ m, n = -m := ⟨-n, by omega⟩
  subst hm
  have e : -(-m + 1) = m - 1 := by omega
  have hm0 : 0 ≤ m - 1 := by omega
  have hw : IntKind.i64.wrap (-(-m + 1)) = m - 1 := by rw [e, IntKind.wrap_i64]; omega
  have hq0 : 0 ≤ (m - 1) % most := Int.emod_nonneg _ (by omega)
  have hq1 : (m - 1) % most < most := Int.emod_lt_of_pos _ h0
  have ht : (m - 1).tmod most = (m - 1) % most := Int.tmod_eq_emod_of_nonneg hm0
  rw [e]
  clear e
  go_enter Try.func10, Try.ntmps10
  go_wp2
  all_goals (go_ret; first | exact ⟨rfl, rfl⟩ | (refine ⟨?_, rfl⟩; simp [ht, hw]))
 ·rw [if_neg h]
  have hd := decide_eq_false h
  have hq0 : 0 ≤ n % most := Int.emod_nonneg _ (by omega)
  have hq1 : n % most < most := Int.emod_lt_of_pos _ h0
  go_enter Try.func10, Try.ntmps10
  go_wp2
  all_goals (go_ret; exact ⟨rfl, rfl⟩)
/-- Few: the first bytes, in a row of their own. -/
theorem few_any (A : Option Addr) (c B k : Nat) (l : List UInt8) (w : World) (hr : Rd w B A (W.bc l)) (hc : l.length ≤ c) (hm : c ≤ maxLen) (hk : k ≤ 1000000000000) :
  Calls Try.prog 16 #[.slice A l.length c, .int .i64 (k : Int)] w (RB_ (l.take k) w) := by
 unfold maxLen at hm
 obtain ⟨i0, hi, hz0, hz1, hz2⟩ := info_parts info_u8
 obtain ⟨K0, hK0⟩ : ∃ K0, K0 = min l.length k := ⟨_, rfl⟩
 have HR := Lib.hid (hr.take K0); clear hr
 have htk : l.take k = l.take K0 := by
  rw [hK0]
  by_cases h : k ≤ l.length
  ·rw [Nat.min_eq_right h]
  ·rw [List.take_of_length_le (by omega), List.take_of_length_le (by omega)]
 rw [htk]
 have hlen : (l.take K0).length = K0 := by rw [List.length_take]; omega
 have HTL := Lib.hid hlen
 rw [W.bc_take] at HR
 obtain ⟨N, hN⟩ : ∃ N, N = l.length := ⟨_, rfl⟩
 rw [← hN] at hK0 hc ⊢
 have hmin : (if (k : Int) < (N : Int) then (k : Int) else (N : Int)) = (K0 : Int) := by split <;> omega
 have hKc : K0 ≤ c := by omega
 have hKk : K0 ≤ 1000000000000 := by omega
 clear hN hK0 htk hlen
 go_enter Try.func16, Try.ntmps16
 go_wp2_with (at_builtin; refine wpList_append_rd rfl (.tmp 6) (.tmp 12) _ rfl w.heap.size 5 i0 _ 1 Try.underlying33 hi hz0 hz1 hz2 rfl _ _ _ rfl (World.ownsRow_nil w _ _ _) A K0 c B (W.bc (l.take K0)) (by simp [Act.eval]; split <;> omega) HR.out (by rw [W.bc_length]; exact HTL.out) (W.bc_oneCell _) (by unfold maxLen; omega) (by omega) (Nat.le_refl _) ?_)
 all_goals
  intro v' w2 hown hgrow
  have hB : Below w.heap.size w w2 := (Below.refl _ _).grown hgrow (Nat.le_refl _) (fun k hk => by simp [Value.ownBlock] at hk)
  have HB := Lib.hid hB
  have HO : Hid (w2.ownsRow w.heap.size 5 1 v' K0 (W.bc (l.take K0))) := Lib.hid (by simpa using hown)
  clear hown hgrow hB
  go_wp2
  go_ret
  exact ⟨_, rfl, by rw [HTL.out]; exact HO.out, HB.out⟩
end Go.Proofs.Ytgdibcgphjmofaa
