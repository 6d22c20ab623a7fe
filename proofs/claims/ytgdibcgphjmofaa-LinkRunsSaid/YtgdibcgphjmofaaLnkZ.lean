/-
 THE WALK of lives: the example of the section.
-/
import Derived.Test.YtgdibcgphjmofaaLnkV
import Derived.Lib.SlBytesConst
namespace Go.Proofs.Ytgdibcgphjmofaa
set_option maxHeartbeats 400000
open Go.RowKit
open Go.Maps
set_option linter.unusedVariables false
theorem K.read_some {l : List UInt8} {p q : Int} {s : List UInt8} (h : K.read l = some (p, q, s)) : W.Is64 p ∧ W.Is64 q ∧ K.okP p q s.length := by
 unfold K.read at h
 split at h
 ·rename_i he
  have hcan := W.decL_canon W.codec_int l (show (W.decI l).2.2 = 0 from he)
  change (∀ x ∈ (W.decI l).1, W.Is64 x) ∧ _ at hcan
  split at h
  ·rename_i p' q' hl
   rw [hl] at hcan
   split at h
   ·rename_i hc
    injection h with h
    injection h with h1 h
    injection h with h2 h3
    subst h1; subst h2; subst h3
    exact ⟨hcan.1 _ (by simp), hcan.1 _ (by simp), hc.2.2⟩
   ·cases h
  ·cases h
 ·cases h
theorem K.read_pk {p q : Int} {s : List UInt8} (hp : W.Is64 p) (hq : W.Is64 q) (h : K.okP p q s.length) : K.read (K.pk p q s) = some (p, q, s) := by
 have hI : W.decI (K.pk p q s) = ([p, q], (W.encI [p, q]).length, 0) := by
  unfold K.pk
  exact W.decL_back W.codec_int [p, q] (W.encB s) (fun x hx => by simp at hx; rcases hx with rfl | rfl; exact hp; exact hq) (by unfold W.Is64; simp)
 have hJ : W.decB ((K.pk p q s).drop (W.encI [p, q]).length) = (s, (W.encB s).length, 0) := by
  unfold K.pk
  rw [List.drop_left]
  have := W.decB_back s [] (by unfold W.Is64; have := h.2.2.1; omega)
  rwa [List.append_nil] at this
 rw [K.read_eq hI hJ, if_pos ⟨rfl, by unfold K.pk; rw [List.length_append], h⟩]
theorem K.seal8_len (H : Int) : (K.seal8 H).length = 8 := rfl
theorem K.unseal_sealed (key : Int) (l : List UInt8) : K.unseal key (K.sealed key l) = (l, 0) := by
 unfold K.unseal K.sealed
 rw [if_neg (by rw [List.length_append, K.seal8_len]; omega)]
 have e : (l ++ K.seal8 (K.hash key l)).length - 8 = l.length := by rw [List.length_append, K.seal8_len]; omega
 rw [e, List.take_left, List.drop_left, if_neg (by simp)]
theorem in_any (b : Nat) (own : List Nat) (S : K.E) (x : Value) (l : List UInt8) (w : World) (h : EndAt w b own S) (ok : K.ok S) (hbv : BV w x l) (hl : l.length ≤ 1000000000000) :
  Calls Try.prog 19 #[.pointer (some ⟨b, 0, none⟩), x] w (RIn (K.inn S l) b own w) := by
 unfold K.inn
 rcases unseal_err S.key l with hE | hE | hE
 ·rw [if_neg (by omega)]
  rcases hR : K.read (K.unseal S.key l).1 with _ | ⟨p, q, s⟩
  ·exact in_no b own S x l w h hbv hl hE hR
  ·have hs := K.read_some hR
   obtain ⟨hp64, hq64, hp0, hq0, hs1, _⟩ := hs
   have hpm := hp64.2; have hqm := hq64.2
   simp only
   by_cases hq : S.acked + (S.wait.length : Int) < q
   ·have e : K.into S p q s = ([], 0, S) := by unfold K.into; rw [if_pos (.inl hq)]
    rw [e]
    exact in_skip1 b own S x l w h ok hbv hl hE p q s hR hp0 hq0 (by omega) (by omega) hs1 hq
   ·by_cases hp : S.del + 16 < p
    ·have e : K.into S p q s = ([], 0, S) := by unfold K.into; rw [if_pos (.inr hp)]
     rw [e]
     exact in_skip2 b own S x l w h ok hbv hl hE p q s hR hp0 hq0 (by omega) (by omega) hs1 hq hp
    ·exact in_main b own S x l w h ok hbv hl hE p q s hR hp0 hq0 (by omega) (by omega) hs1 hq hp
 ·rw [if_pos (by omega), if_neg (by omega), hE]
  exact in_2 b own S x l w h hbv hl hE
 ·rw [if_pos (by omega), if_pos hE, hE]
  exact in_9 b own S x l w h hbv hl ok.f1 ok.f2 hE
/-- Around. -/
def K.ar (n most : Int) : Int := (if n < 0 then -(n + 1) else n) % most
theorem K.ar_rng {n most : Int} (h : 0 < most) : 0 ≤ K.ar n most ∧ K.ar n most < most := ⟨Int.emod_nonneg _ (by omega), Int.emod_lt_of_pos _ h⟩
theorem ar_any (n most : Int) (w : World) (hn : W.Is64 n) (h0 : 0 < most) (h1 : most ≤ 1000000000000) : Calls Try.prog 10 #[.int .i64 n, .int .i64 most] w fun e w' => e = .returned (.int .i64 (K.ar n most)) ∧ w = w' := by
 have hlo := hn.1
 have hhi := hn.2
 have hz : (most == 0) = false := beq_eq_false_iff_ne.2 (by omega)
 clear hn
 unfold K.ar
 by_cases h : n < 0
 ·rw [if_pos h]
  have hd := decide_eq_true h
  obtain ⟨m, hm⟩ : ∃ m, n = -m := ⟨-n, by omega⟩
  subst hm
  have e : -(-m + 1) = m - 1 := by omega
  have hm0 : 0 ≤ m - 1 := by omega
  have hw : IntKind.i64.wrap (-(-m + 1)) = m - 1 := by rw [e, IntKind.wrap_i64]; omega
  have hq0 : 0 ≤ (m - 1) % most := Int.emod_nonneg _ (by omega)
  have hq1 : (m - 1) % most < most := Int.emod_lt_of_pos _ h0
  have ht : (m - 1).tmod most = (m - 1) % most := Int.tmod_eq_emod_of_nonneg hm0
  rw [e]
  clear e
  go_enter Try.func10, Try.ntmps10
  go_wp2
  all_goals (go_ret; first | exact ⟨rfl, rfl⟩ | (refine ⟨?_, rfl⟩; simp [ht, hw]))
 ·rw [if_neg h]
  have hd := decide_eq_false h
  have hq0 : 0 ≤ n % most := Int.emod_nonneg _ (by omega)
  have hq1 : n % most < most := Int.emod_lt_of_pos _ h0
  go_enter Try.func10, Try.ntmps10
  go_wp2
  all_goals (go_ret; exact ⟨rfl, rfl⟩)
/-- Few: the first bytes, in a row of their own. -/
theorem few_any (A : Option Addr) (c B k : Nat) (l : List UInt8) (w : World) (hr : Rd w B A (W.bc l)) (hc : l.length ≤ c) (hm : c ≤ maxLen) (hk : k ≤ 1000000000000) :
  Calls Try.prog 16 #[.slice A l.length c, .int .i64 (k : Int)] w (RB_ (l.take k) w) := by
 unfold maxLen at hm
 obtain ⟨i0, hi, hz0, hz1, hz2⟩ := info_parts info_u8
 obtain ⟨K0, hK0⟩ : ∃ K0, K0 = min l.length k := ⟨_, rfl⟩
 have HR := Lib.hid (hr.take K0); clear hr
 have htk : l.take k = l.take K0 := by
  rw [hK0]
  by_cases h : k ≤ l.length
  ·rw [Nat.min_eq_right h]
  ·rw [List.take_of_length_le (by omega), List.take_of_length_le (by omega)]
 rw [htk]
 have hlen : (l.take K0).length = K0 := by rw [List.length_take]; omega
 have HTL := Lib.hid hlen
 rw [W.bc_take] at HR
 obtain ⟨N, hN⟩ : ∃ N, N = l.length := ⟨_, rfl⟩
 rw [← hN] at hK0 hc ⊢
 have hmin : (if (k : Int) < (N : Int) then (k : Int) else (N : Int)) = (K0 : Int) := by split <;> omega
 have hKc : K0 ≤ c := by omega
 have hKk : K0 ≤ 1000000000000 := by omega
 clear hN hK0 htk hlen
 go_enter Try.func16, Try.ntmps16
 go_wp2_with (at_builtin; refine wpList_append_rd rfl (.tmp 6) (.tmp 12) _ rfl w.heap.size 5 i0 _ 1 Try.underlying33 hi hz0 hz1 hz2 rfl _ _ _ rfl (World.ownsRow_nil w _ _ _) A K0 c B (W.bc (l.take K0)) (by simp [Act.eval]; split <;> omega) HR.out (by rw [W.bc_length]; exact HTL.out) (W.bc_oneCell _) (by unfold maxLen; omega) (by omega) (Nat.le_refl _) ?_)
 all_goals
  intro v' w2 hown hgrow
  have hB : Below w.heap.size w w2 := (Below.refl _ _).grown hgrow (Nat.le_refl _) (fun k hk => by simp [Value.ownBlock] at hk)
  have HB := Lib.hid hB
  have HO : Hid (w2.ownsRow w.heap.size 5 1 v' K0 (W.bc (l.take K0))) := Lib.hid (by simpa using hown)
  clear hown hgrow hB
  go_wp2
  go_ret
  exact ⟨_, rfl, by rw [HTL.out]; exact HO.out, HB.out⟩
end Go.Proofs.Ytgdibcgphjmofaa
namespace Go.Proofs.Ytgdibcgphjmofaa
open Go.RowKit
open Go.Maps
set_option linter.unusedVariables false
/-- What stays: the old blocks below B, the blocks of ks, the rows of bytes. -/
structure Kpt (B : Nat) (ks : List Nat) (w w' : World) : Prop where
 os : w'.os = w.os
 tape : w'.tape = w.tape
 output : w'.output = w.output
 size : w.heap.size ≤ w'.heap.size
 low : ∀ k, k < B → k < w.heap.size → w'.heap[k]? = w.heap[k]?
 row : ∀ k ∈ ks, w'.heap[k]? = w.heap[k]?
 kb : KB w w'
/-- Two ends, which share no block, and none with ks or with what was there before B. -/
def Two (B : Nat) (ks : List Nat) (w : World) (ba bb : Nat) (Sa Sb : K.E) : Prop := ∃ oa ob, EndAt w ba oa Sa ∧ EndAt w bb ob Sb ∧ (∀ x ∈ oa, x ∉ ob) ∧ (∀ x ∈ oa, B ≤ x ∧ x ∉ ks) ∧ (∀ x ∈ ob, B ≤ x ∧ x ∉ ks) ∧ ∀ k ∈ ks, k < w.heap.size
section
variable {B B' : Nat} {ks ks' : List Nat} {w w' w1 w2 : World} {ba bb : Nat} {Sa Sb Sa' : K.E}
theorem Kpt.refl (B : Nat) (ks : List Nat) (w : World) : Kpt B ks w w := ⟨rfl, rfl, rfl, Nat.le_refl _, fun _ _ _ => rfl, fun _ _ => rfl, KB.refl w⟩
theorem Kpt.trans (h : Kpt B ks w w1) (g : Kpt B ks w1 w2) : Kpt B ks w w2 := ⟨g.os.trans h.os, g.tape.trans h.tape, g.output.trans h.output, Nat.le_trans h.size g.size, fun k hk hk2 => (g.low k hk (Nat.lt_of_lt_of_le hk2 h.size)).trans (h.low k hk hk2), fun k hk => (g.row k hk).trans (h.row k hk), h.kb.trans g.kb⟩
theorem Kpt.of (h : Below w.heap.size w w') (hk : ∀ k ∈ ks, k < w.heap.size) : Kpt B ks w w' := ⟨h.os, h.tape, h.output, h.size, fun k _ hk2 => h.block k hk2, fun k hk2 => h.block k (hk k hk2), KB.of h⟩
theorem Kpt.sub (h : Kpt B ks w w') (hs : ∀ k ∈ ks', k ∈ ks) : Kpt B ks' w w' := ⟨h.os, h.tape, h.output, h.size, h.low, fun k hk => h.row k (hs k hk), h.kb⟩
theorem Kpt.below (h : Kpt B ks w w') (hB : B ≤ w.heap.size) : Below B w w' := ⟨h.os, h.tape, h.output, h.size, fun k hk => h.low k hk (by omega)⟩
theorem Two.swap (h : Two B ks w ba bb Sa Sb) : Two B ks w bb ba Sb Sa := by
 obtain ⟨oa, ob, h1, h2, h3, h4, h5, h6⟩ := h
 exact ⟨ob, oa, h2, h1, fun x hx hy => h3 x hy hx, h5, h4, h6⟩
theorem Two.kslt (h : Two B ks w ba bb Sa Sb) : ∀ k ∈ ks, k < w.heap.size := by
 obtain ⟨oa, ob, h1, h2, h3, h4, h5, h6⟩ := h
 exact h6
theorem Two.below (h : Two B ks w ba bb Sa Sb) (hb : Below w.heap.size w w') : Two B ks w' ba bb Sa Sb := by
 obtain ⟨oa, ob, h1, h2, h3, h4, h5, h6⟩ := h
 exact ⟨oa, ob, h1.below hb, h2.below hb, h3, h4, h5, fun k hk => Nat.lt_of_lt_of_le (h6 k hk) hb.size⟩
theorem Two.sub (h : Two B ks w ba bb Sa Sb) (hs : ∀ k ∈ ks', k ∈ ks) : Two B ks' w ba bb Sa Sb := by
 obtain ⟨oa, ob, h1, h2, h3, h4, h5, h6⟩ := h
 exact ⟨oa, ob, h1, h2, h3, fun x hx => ⟨(h4 x hx).1, fun e => (h4 x hx).2 (hs x e)⟩, fun x hx => ⟨(h5 x hx).1, fun e => (h5 x hx).2 (hs x e)⟩, fun k hk => h6 k (hs k hk)⟩
/-- A block that is new, and no end's, is kept too. -/
theorem Two.add (h : Two B ks w ba bb Sa Sb) (hb : Below w.heap.size w w') {k : Nat} (hk : w.heap.size ≤ k) (hk2 : k < w'.heap.size) : Two B (k :: ks) w' ba bb Sa Sb := by
 obtain ⟨oa, ob, h1, h2, h3, h4, h5, h6⟩ := h
 refine ⟨oa, ob, h1.below hb, h2.below hb, h3, fun x hx => ⟨(h4 x hx).1, fun e => ?_⟩, fun x hx => ⟨(h5 x hx).1, fun e => ?_⟩, fun x hx => ?_⟩
 ·rcases List.mem_cons.1 e with rfl | e
  ·have := h1.lt x hx; omega
  ·exact (h4 x hx).2 e
 ·rcases List.mem_cons.1 e with rfl | e
  ·have := h2.lt x hx; omega
  ·exact (h5 x hx).2 e
 ·rcases List.mem_cons.1 hx with rfl | e
  ·exact hk2
  ·exact Nat.lt_of_lt_of_le (h6 x e) hb.size
theorem RowV.kpt {B0 : Nat} {v : Value} {ls : List (List UInt8)} (h : RowV B0 w v ls) (k : Kpt B ks w w') (hv : ∀ x, v.ownBlock = some x → x ∈ ks) : RowV B0 w' v ls := by
 obtain ⟨vs, h1, h2⟩ := h
 refine ⟨vs, ⟨h1.1, ?_⟩, h2.kb k.kb⟩
 rcases h1.2 with h | ⟨g, cap, cur, rfl, hb, hg, r⟩
 ·exact .inl h
 ·exact .inr ⟨g, cap, cur, rfl, hb, (k.row g (hv g rfl)).trans hg, r⟩
theorem RowV.lt {B0 : Nat} {v : Value} {ls : List (List UInt8)} (h : RowV B0 w v ls) : ∀ x, v.ownBlock = some x → B0 ≤ x ∧ x < w.heap.size := by
 obtain ⟨vs, h1, h2⟩ := h
 exact h1.lt
theorem RowV.below {B0 : Nat} {v : Value} {ls : List (List UInt8)} (h : RowV B0 w v ls) (hb : Below w.heap.size w w') : RowV B0 w' v ls := by
 obtain ⟨vs, h1, h2⟩ := h
 exact ⟨vs, own_below h1 hb, h2.kb (.of hb)⟩
/-- What a call at the first end leaves. -/
theorem Two.step {own : List Nat} (h : Two B ks w ba bb Sa Sb) (hown : ∃ ob, EndAt w ba own Sa ∧ EndAt w bb ob Sb ∧ (∀ x ∈ own, x ∉ ob) ∧ (∀ x ∈ own, B ≤ x ∧ x ∉ ks) ∧ (∀ x ∈ ob, B ≤ x ∧ x ∉ ks)) {own' : List Nat} (hE : EndAt w' ba own' Sa') (hT : TT own w w') (hn : ∀ x ∈ own', x ∈ own ∨ w.heap.size ≤ x) (hB : B ≤ w.heap.size) {r : Option Nat} (hr : ∀ k, r = some k → w.heap.size ≤ k ∧ k < w'.heap.size ∧ k ∉ own') :
  Two B (r.toList ++ ks) w' ba bb Sa' Sb ∧ Kpt B ks w w' := by
 obtain ⟨ob, h1, h2, h3, h4, h5⟩ := hown
 have h6 := h.kslt
 refine ⟨⟨own', ob, hE, h2.tt hT (fun x hx hy => h3 x hy hx), fun x hx hy => ?_, fun x hx => ⟨?_, fun e => ?_⟩, fun x hx => ⟨(h5 x hx).1, fun e => ?_⟩, fun k hk => ?_⟩, hT.1.os, hT.1.tape, hT.1.output, hT.1.size, fun k hk hk2 => hT.1.block k hk2 (fun e => ?_), fun k hk => hT.1.block k (h6 k hk) (fun e => (h4 k e).2 hk), hT.2⟩
 ·rcases hn x hx with h | h
  ·exact h3 x h hy
  ·have := h2.lt x hy; omega
 ·rcases hn x hx with h | h
  ·exact (h4 x h).1
  ·omega
 ·rcases List.mem_append.1 e with e | e
  ·exact (hr x (by simpa using e)).2.2 hx
  ·rcases hn x hx with h | h
   ·exact (h4 x h).2 e
   ·have := h6 x e; omega
 ·rcases List.mem_append.1 e with e | e
  ·have := (hr x (by simpa using e)).1; have := h2.lt x hx; omega
  ·exact (h5 x hx).2 e
 ·rcases List.mem_append.1 hk with e | e
  ·exact (hr k (by simpa using e)).2.1
  ·exact Nat.lt_of_lt_of_le (h6 k e) hT.1.size
 ·have := (h4 k e).1; omega
end
theorem two_in {B : Nat} {ks : List Nat} {w : World} {ba bb : Nat} {Sa Sb : K.E} (h : Two B ks w ba bb Sa Sb) (hB : B ≤ w.heap.size) (ok : K.ok Sa) {x : Value} {l : List UInt8} (hbv : BV w x l) (hl : l.length ≤ 1000000000000) :
  Calls Try.prog 19 #[.pointer (some ⟨ba, 0, none⟩), x] w fun e w' => ∃ v, e = .returned (.tuple #[v, .int .i64 (K.inn Sa l).2.1]) ∧ RowV w.heap.size w' v (K.inn Sa l).1 ∧ Two B (v.ownBlock.toList ++ ks) w' ba bb (K.inn Sa l).2.2 Sb ∧ Kpt B ks w w' := by
 obtain ⟨oa, ob, h1, h2, h3, h4, h5, h6⟩ := id h
 refine (in_any ba oa Sa x l w h1 ok hbv hl).mono ?_
 rintro e w' ⟨v, rfl, hr, hE, hT⟩
 exact ⟨v, rfl, hr, h.step ⟨ob, h1, h2, h3, h4, h5⟩ hE hT (fun x hx => .inl hx) hB (fun k hk => ⟨(hr.lt k hk).1, (hr.lt k hk).2, fun e => by have := h1.lt k e; have := (hr.lt k hk).1; omega⟩)⟩
theorem two_out {B : Nat} {ks : List Nat} {w : World} {ba bb : Nat} {Sa Sb : K.E} (h : Two B ks w ba bb Sa Sb) (hB : B ≤ w.heap.size) (ok : K.ok Sa) :
  Calls Try.prog 13 #[.pointer (some ⟨ba, 0, none⟩)] w fun e w' => ∃ v, e = .returned v ∧ RowV w.heap.size w' v (K.out Sa) ∧ Two B (v.ownBlock.toList ++ ks) w' ba bb { Sa with owing := false } Sb ∧ Kpt B ks w w' := by
 obtain ⟨oa, ob, h1, h2, h3, h4, h5, h6⟩ := id h
 refine (out_any ba oa Sa w h1 ok).mono ?_
 rintro e w' ⟨v, rfl, hr, hE, hT⟩
 exact ⟨v, rfl, hr, h.step ⟨ob, h1, h2, h3, h4, h5⟩ hE hT (fun x hx => .inl hx) hB (fun k hk => ⟨(hr.lt k hk).1, (hr.lt k hk).2, fun e => by have := h1.lt k e; have := (hr.lt k hk).1; omega⟩)⟩
theorem two_send {B : Nat} {ks : List Nat} {w : World} {ba bb : Nat} {Sa Sb : K.E} (h : Two B ks w ba bb Sa Sb) (hB : B ≤ w.heap.size) {x : Value} {l : List UInt8} (hbv : BV w x l) (h1 : l.length ≤ 65536) (h2 : Sa.wait.length < 1000) :
  Calls Try.prog 11 #[.pointer (some ⟨ba, 0, none⟩), x] w fun e w' => e = .returned (.int .i64 0) ∧ Two B ks w' ba bb { Sa with wait := Sa.wait ++ [l] } Sb ∧ Kpt B ks w w' := by
 obtain ⟨oa, ob, g1, g2, g3, g4, g5, g6⟩ := id h
 refine (send_yes ba oa Sa x l w g1 hbv h1 h2).mono ?_
 rintro e w' ⟨rfl, own', hE, hT, hn⟩
 have := h.step ⟨ob, g1, g2, g3, g4, g5⟩ hE hT hn hB (r := none) (fun k hk => by cases hk)
 exact ⟨rfl, this⟩
theorem two_wait {B : Nat} {ks : List Nat} {w : World} {ba bb : Nat} {Sa Sb : K.E} (h : Two B ks w ba bb Sa Sb) : Calls Try.prog 21 #[.pointer (some ⟨ba, 0, none⟩)] w fun e w' => e = .returned (.int .i64 (Sa.wait.length : Int)) ∧ w = w' := by
 obtain ⟨oa, ob, g1, _⟩ := h
 exact waiting_any ba oa Sa w g1
theorem two_forg {B : Nat} {ks : List Nat} {w : World} {ba bb : Nat} {Sa Sb : K.E} (h : Two B ks w ba bb Sa Sb) : Calls Try.prog 22 #[.pointer (some ⟨ba, 0, none⟩)] w fun e w' => e = .returned (.int .i64 Sa.forged) ∧ w = w' := by
 obtain ⟨oa, ob, g1, _⟩ := h
 exact forged_any ba oa Sa w g1
/-- An element of a row of messages. -/
theorem RowV.at_ {B0 : Nat} {w : World} {v : Value} {ls : List (List UInt8)} (h : RowV B0 w v ls) {i : Nat} {l : List UInt8} (hi : ls[i]? = some l) : ∃ g c u, v = .slice (some ⟨g, 0, none⟩) ls.length c ∧ w.cell? ⟨g, i, none⟩ = some u ∧ BV w u l ∧ ls.length ≤ c ∧ c ≤ maxLen := by
 obtain ⟨vs, h1, h2⟩ := h
 have hil := (List.getElem?_eq_some_iff.1 hi).1
 obtain ⟨g, c, rfl, hc, hm, hg, hgs⟩ := own_pos h1 (by omega)
 obtain ⟨u, hu⟩ : ∃ u, vs[i]? = some u := ⟨vs[i]'(by rw [h2.1]; exact hil), List.getElem?_eq_getElem _⟩
 have h3 := own_cells h1 i u hu
 rw [Addr.add_lit, Nat.zero_add] at h3
 exact ⟨g, c, u, rfl, h3, h2.2 i u l hu hi, hc, hm⟩
theorem RowV.rep {B0 : Nat} {w : World} {v : Value} {ls : List (List UInt8)} (h : RowV B0 w v ls) (hn : 0 < ls.length) : ∃ g c us, v = .slice (some ⟨g, 0, none⟩) ls.length c ∧ (∀ i u, us[i]? = some u → w.cell? ⟨g, i, none⟩ = some u) ∧ Vs w us ls ∧ us.length = ls.length ∧ ls.length ≤ c ∧ c ≤ maxLen ∧ B0 ≤ g ∧ g < w.heap.size := by
 obtain ⟨vs, h1, h2⟩ := h
 obtain ⟨g, c, rfl, hc, hm, hg, hgs⟩ := own_pos h1 hn
 exact ⟨g, c, vs, rfl, fun i u hu => by
  have h3 := own_cells h1 i u hu
  rw [Addr.add_lit, Nat.zero_add] at h3
  exact h3, h2, h2.1, hc, hm, hg, hgs⟩
theorem Kpt.cell {B : Nat} {ks : List Nat} {w w' : World} (k : Kpt B ks w w') {g i : Nat} (hg : g ∈ ks) {u : Option Value} (h : w.cell? ⟨g, i, none⟩ = u) : w'.cell? ⟨g, i, none⟩ = u := (World.cell?_of_block (a := ⟨g, i, none⟩) (k.row g hg)).trans h
theorem RowV.form {B0 : Nat} {w : World} {v : Value} {ls : List (List UInt8)} (h : RowV B0 w v ls) : ∃ A c, v = .slice A ls.length c ∧ ls.length ≤ c ∧ c ≤ maxLen := by
 obtain ⟨vs, h1, h2⟩ := h
 obtain ⟨A, c, h, h3, h4, _⟩ := own_form h1
 exact ⟨A, c, h, h3, h4⟩
end Go.Proofs.Ytgdibcgphjmofaa
namespace Go.Proofs.Ytgdibcgphjmofaa
set_option maxHeartbeats 4000000
open Go.RowKit
set_option linter.unusedVariables false
set_option maxRecDepth 100000 in
theorem rseal_rd (key : Int) (A : Option Addr) (c B : Nat) (l : List UInt8) (w : World) (hk : 0 ≤ key ∧ key < 18446744073709551616) (hr : Rd w B A (W.bc l)) (hB0 : B ≤ w.heap.size) (hc : l.length ≤ c) (hm : c ≤ maxLen) (hl : l.length ≤ 1000000000000) :
  Calls Try.prog 17 #[.int .u64 key, .slice A l.length c] w (RB_ (l ++ K.seal8 (K.hash key l)) w) := by
 unfold maxLen at hm
 obtain ⟨i0, hi, hz0, hz1, hz2⟩ := info_parts info_u8
 have HR := Lib.hid hr; have HK := Lib.hid hk
 clear hr hk
 go_enter Try.func17, Try.ntmps17
 go_wp2_with fail
 go_loopw [5, 6] (fun s5 s6 wr => ∃ k : Nat, k ≤ l.length ∧ s6 = .int .i64 (k : Int) ∧ s5 = .int .u64 (K.hash key (l.take k)) ∧ w = wr) (fun _ ix _ => (l.length - (intOf ix).toNat))
 case atStart => exact ⟨0, by omega, rfl, rfl, rfl⟩
 case round =>
  obtain ⟨k, hk2, rfl, rfl, rfl⟩ := hrel
  by_cases hk3 : k < l.length
  ·obtain ⟨b, o, rfl, hb, hcell⟩ := HR.out (by simp; omega)
   have f1 : w.cell? ⟨b, o + k, none⟩ = some (.int .u8 ((l[k]'hk3).toNat : Int)) := hcell k _ (W.bc_get l k hk3)
   clear hcell
   have hkd := decide_eq_true hk3
   have hk4 : (k : Int) < (l.length : Int) := by omega
   go_wp2
   exact ⟨⟨k + 1, by omega, by go_num, by rw [K.hash_take hk3]; rfl, trivial⟩, by simp [intOf]; omega⟩
  ·have hkd := decide_eq_false hk3
   have hall : l.take k = l := by rw [show k = l.length by omega]; exact List.take_length
   rw [hall]
   obtain ⟨H, hH⟩ : ∃ H, H = K.hash key l := ⟨_, rfl⟩
   have HH := Lib.hid hH
   have hrng := K.hash_rng HK.out l
   rw [← hH] at hrng ⊢
   clear hH
   have HR2 := Lib.hid (HR.out.alloc hB0 (.cells #[] 5))
   go_wp2_with (at_builtin; refine wpList_append_rd rfl (.tmp 25) (.tmp 26) _ rfl w.heap.size 5 i0 _ 1 Try.underlying33 hi hz0 hz1 hz2 rfl _ _ _ rfl (World.ownsRow_made w #[] 0 (Nat.le_refl _) (by decide) rfl) A l.length c B (W.bc l) rfl HR2.out (by simp) (W.bc_oneCell l) (by unfold maxLen; omega) (by omega) (by simp) ?_)
   intro v' w2 hown hgrow
   have hB : Below w.heap.size w w2 := ((Below.refl _ _).alloc (Nat.le_refl _) _).grown hgrow (by simp) (fun k hk => by simp [Value.ownBlock] at hk; omega)
   have HOWN : Hid (w2.ownsRow w.heap.size 5 1 v' l.length (W.bc l)) := Lib.hid (by simpa using hown)
   have HB := Lib.hid hB
   clear hown hB hgrow
   go_wp2_with fail
   go_loopw [5, 7, 8] (fun s5 s7 s8 wr => ∃ (i : Nat) (sv : Value), i ≤ 8 ∧ s8 = .int .i64 (i : Int) ∧ s5 = .int .u64 (H / ((256 ^ i : Nat) : Int)) ∧ s7 = sv ∧ Hid (wr.ownsRow w.heap.size 5 1 sv (l.length + i) (W.bc (l ++ (K.seal8 H).take i))) ∧ Hid (Below w.heap.size w wr)) (fun _ _ ix _ => (8 - (intOf ix).toNat))
   case atStart => exact ⟨0, _, by omega, rfl, by simp, rfl, Lib.hid (by simpa using HOWN.out), HB⟩
   case round =>
    clear HOWN HB
    obtain ⟨i, sv, hi8, rfl, rfl, rfl, HOWN, HB⟩ := hrel
    obtain ⟨wo, rfl⟩ : ∃ wo : World, wo = wr := ⟨_, rfl⟩
    have hge := HB.out.size
    by_cases hlt : i < 8
    ·have hkd := decide_eq_true hlt
     have k1 : (i : Int) < 8 := by omega
     have hq0 : 0 ≤ H / ((256 ^ i : Nat) : Int) := Int.ediv_nonneg hrng.1 (Int.natCast_nonneg _)
     have hdiv : H / ((256 ^ i : Nat) : Int) / 256 = H / ((256 ^ (i + 1) : Nat) : Int) := by
      rw [Int.ediv_ediv_of_nonneg (Int.natCast_nonneg _)]; congr 1
     have hcell := K.sealB_cell H i
     have hle : H / ((256 ^ i : Nat) : Int) ≤ H := Int.ediv_le_self _ hrng.1
     generalize hX : H / ((256 ^ i : Nat) : Int) = X at *
     have hx0 : 0 ≤ X % 256 ∧ X % 256 < 256 := by omega
     go_wp2_with (at_builtin; refine wpList_append_own _ rfl (.tmp 32) (.tmp 36) _ rfl w.heap.size 5 i0 _ 1 1 Try.underlying33 hi hz0 hz1 hz2 rfl (by decide) _ _ _ rfl (HOWN.out.alloc _) ⟨wo.heap.size, 0, none⟩ 1 1 [.int .u8 (X % 256)] rfl rfl (cell_one_new _ _ _) (fun u hu => by simp at hu; subst hu; rfl) (by unfold maxLen; omega) (by omega) (by simp; omega) ?_)
     intro v2 w3 hown3 hgrow _
     have hB3 : Below w.heap.size w w3 := (HB.out.alloc hge _).grown hgrow (by simp; omega) (fun k hk => (HOWN.out.lt k hk).1)
     have HOWN3 := Lib.hid hown3; have k0 := Lib.hid hB3
     clear hown3 hB3 hgrow
     go_wp2
     have hst : (K.seal8 H).take (i + 1) = (K.seal8 H).take i ++ [K.sealB H i] := by
      have : ∀ j, j < 8 → (K.seal8 H).take (j + 1) = (K.seal8 H).take j ++ [K.sealB H j] := by
       intro j hj
       have hc : j = 0 ∨ j = 1 ∨ j = 2 ∨ j = 3 ∨ j = 4 ∨ j = 5 ∨ j = 6 ∨ j = 7 := by omega
       rcases hc with rfl | rfl | rfl | rfl | rfl | rfl | rfl | rfl <;> rfl
      exact this i hlt
     refine ⟨⟨i + 1, v2, by omega, by go_num, by rw [← hdiv], rfl, Lib.hid ?_, k0⟩, by simp [intOf]; omega⟩
     have h := HOWN3.out
     rw [hst, ← List.append_assoc, W.bc_append]
     rw [show W.bc [K.sealB H i] = [.int .u8 (X % 256)] from by simp only [W.bc, List.map_cons, List.map_nil]; rw [hcell]]
     exact h
    ·obtain rfl : i = 8 := by omega
     have hkd := decide_eq_false hlt
     go_wp2
     go_ret
     refine ⟨_, rfl, ?_, HB.out⟩
     rw [← HH.out]
     have h := HOWN.out
     simpa [K.seal8] using h
theorem rints2 (p q : Int) (g : Nat) (w : World) (hr : Bx w g 3 [.int .i64 p, .int .i64 q]) (hp : W.Is64 p) (hq : W.Is64 q) : Calls Try.prog 34 #[.slice (some ⟨g, 0, none⟩) 2 2] w (Mk 5 1 (W.bc (W.encI [p, q])) (W.encI [p, q]).length w) := by
 refine rints_any [p, q] (some ⟨g, 0, none⟩) 2 2 w.heap.size w (fun _ => ⟨g, 0, rfl, hr.lt, fun j u hu => ?_⟩) (Nat.le_refl _) rfl ?_ (by simp) ?_
 ·rw [Nat.zero_add]; exact hr.cell hu
 ·intro x hx
  simp at hx
  rcases hx with rfl | rfl
  ·exact hp
  ·exact hq
 ·have h1 := W.enc_le p; have h2 := W.enc_le q; have h3 := W.enc_le (([p, q].length : Nat) : Int)
  simp only [W.encI, List.length_append, List.flatMap_cons, List.flatMap_nil, List.length_nil]
  omega
set_option maxRecDepth 100000 in
theorem rpk_any (p q : Int) (A : Option Addr) (c L : Nat) (l : List UInt8) (w : World) (hr : Rd w L A (W.bc l)) (hL : L ≤ w.heap.size) (hp64 : W.Is64 p) (hq64 : W.Is64 q) (hlen : l.length ≤ 100000) :
  Calls Try.prog 18 #[.agg #[.int .i64 p, .int .i64 q, .slice A l.length c]] w (RB_ (K.pk p q l) w) := by
 obtain ⟨i0, hi, hz0, hz1, hz2⟩ := info_parts info_u8
 have HR := Lib.hid hr; clear hr
 have hsum := K.pk_sum p q l
 go_enter Try.func18, Try.ntmps18
 go_wp2_with fail
 generalize hW1 : (w.alloc (.cells _ 43)).alloc _ = w1
 obtain ⟨hx, hrow, k1⟩ := box2 hW1
 refine (rints2 p q _ w1 hrow hp64 hq64).mono ?_
 rintro e w2 ⟨v2, rfl, hown2, k2⟩
 have hx2 := hx.below k2
 have k0 := Lib.hid (Blw k1 k2)
 have hR2 := HR.out.below k0.out hL
 have hcv := run_string_rd hR2 l.length c rfl
 have hz2' := k0.out.size
 have HO2 := Lib.hid (own_base hown2 (base' := w.heap.size) k1.size)
 have hl2 : (W.encI [p, q]).length ≤ 100 := by
  have h1 := W.enc_le p; have h2 := W.enc_le q; have h3 := W.enc_le (([p, q].length : Nat) : Int)
  simp only [W.encI, List.length_append, List.flatMap_cons, List.flatMap_nil, List.length_nil]
  omega
 obtain ⟨A2, c2, rfl, -⟩ := own_form hown2
 clear hW1 hx hrow k1 hown2 k2 hR2
 obtain ⟨d0, d1, d2, z2, l2⟩ := f3 hx2
 generalize hI : W.encI [p, q] = E at *
 have HI := Lib.hid hI; clear hI
 obtain ⟨n2, hn2⟩ : ∃ n, n = E.length := ⟨_, rfl⟩
 rw [← hn2] at HO2 hl2 ⊢
 have HN2 := Lib.hid hn2; clear hn2
 go_wp2_with fail
 refine (rbytes_any ⟨l.toArray⟩ w2 (by simp [ByteArray.size]; omega)).mono ?_
 rintro e w3 ⟨v3, rfl, hown3, k3⟩
 have hl3 : (W.encB l).length ≤ 100100 := by omega
 have hown3 : w3.ownsRow w2.heap.size 5 1 v3 (W.encB l).length (W.bc (W.encB l)) := hown3
 have HR3 : ∃ A3 c3, v3 = .slice A3 (W.encB l).length c3 ∧ Hid (Rd w3 w3.heap.size A3 (W.bc (W.encB l))) := by
  obtain ⟨A, c, h, _⟩ := own_form hown3
  subst h
  exact ⟨A, c, rfl, Lib.hid (Rd.of_own hown3)⟩
 obtain ⟨A3, c3, rfl, HR3⟩ := HR3
 have HO3 := Lib.hid (own_below HO2.out k3)
 have k4 := Lib.hid (Blw k0.out k3)
 have hz3 := k4.out.size
 generalize hJ : W.encB l = F at *
 have HJ := Lib.hid hJ; clear hJ
 obtain ⟨n3, hn3⟩ : ∃ n, n = F.length := ⟨_, rfl⟩
 rw [← hn3] at hl3 ⊢
 have HN3 := Lib.hid hn3
 clear hn3 hown3 k3 hcv hx2 d0 d1 d2 z2 l2 k0 HO2 hsum
 go_wp2_with (at_builtin; refine wpList_append_rd rfl (.tmp 10) (.tmp 14) _ rfl w.heap.size 5 i0 _ 1 Try.underlying33 hi hz0 hz1 hz2 rfl _ _ _ rfl HO3.out A3 n3 c3 w3.heap.size (W.bc F) rfl HR3.out (by rw [W.bc_length]; exact HN3.out.symm) (W.bc_oneCell F) (by unfold maxLen; omega) (by omega) hz3 ?_)
 intro v4 w4 hown4 hg4
 have k6 := Lib.hid (k4.out.grown hg4 hz3 (fun k hk => (HO3.out.lt k hk).1))
 have HO4 := Lib.hid hown4
 clear hown4 hg4
 go_wp2
 go_ret
 refine ⟨_, rfl, ?_, k6.out⟩
 have e : K.pk p q l = E ++ F := by unfold K.pk; rw [HI.out, HJ.out]
 rw [e, W.bc_append, List.length_append, ← HN2.out, ← HN3.out]
 exact HO4.out
end Go.Proofs.Ytgdibcgphjmofaa
namespace Go.Proofs.Ytgdibcgphjmofaa
set_option maxHeartbeats 2000000
open Go.RowKit
open Go.Maps
set_option linter.unusedVariables false
theorem same_bv {w : World} {u v : Value} {a b : List UInt8} (hu : BV w u a) (hv : BV w v b) : Calls Try.prog 29 #[u, v] w (Quiet (.bool (decide (a = b))) w) := by
 obtain ⟨A, c, rfl, h1, h2, h3, _⟩ := hu
 obtain ⟨B, d, rfl, g1, g2, g3, _⟩ := hv
 exact same_any a b A B a.length b.length c d _ _ w h3 g3 rfl rfl (by omega)
/-- One byte, in a new row. -/
theorem bv_lit (w : World) (c : UInt8) {x : Value} (fr : Nat × Nat) (hx : x = .int .u8 (c.toNat : Int) := by rfl) : BV (w.alloc (.cells #[x] 5 fr)) (.slice (some ⟨w.heap.size, 0, none⟩) 1 1) [c] := by
 subst hx
 have hb : (w.alloc (.cells #[.int .u8 (c.toNat : Int)] 5 fr)).heap[w.heap.size]? = some (.cells #[.int .u8 (c.toNat : Int)] 5 fr) := heap_alloc_new w _
 refine ⟨_, 1, rfl, Nat.le_refl _, by decide, fun _ => ⟨_, 0, rfl, by simp, fun j u hu => ?_⟩, fun _ => ⟨_, 0, _, _, rfl, hb⟩⟩
 rw [Nat.zero_add, cell_of_row _ _ _ _ _ _ hb]
 simpa [W.bc, W.bcell] using hu
theorem run_conv_lit (x : Value) (w : World) : (convert 33 33 (.slice (some ⟨w.heap.size, 0, none⟩) 1 1)).run Try.prog (w.alloc (.cells #[x] 5)) = .ok (.slice (some ⟨w.heap.size, 0, none⟩) 1 1) (w.alloc (.cells #[x] 5 (1, 2))) :=
 Lib.run_convert_bytes_const (P := Try.prog) w 33 5 #[x] 1 1 Try.underlying33 Try.underlying5
theorem K.inn_sealed {S : K.E} {p q : Int} {s : List UInt8} (hp : W.Is64 p) (hq : W.Is64 q) (h : K.okP p q s.length) : K.inn S (K.sealed S.key (K.pk p q s)) = K.into S p q s := by
 unfold K.inn
 rw [K.unseal_sealed, if_neg (by simp), K.read_pk hp hq h]
theorem two_new {w w1 w2 : World} {ba bb : Nat} {oa ob : List Nat} {Sa Sb : K.E} (h1 : EndAt w1 ba oa Sa) (hb1 : Below w.heap.size w w1) (ha : ∀ x ∈ oa, w.heap.size ≤ x) (h2 : EndAt w2 bb ob Sb) (hb2 : Below w1.heap.size w1 w2) (hb : ∀ x ∈ ob, w1.heap.size ≤ x) :
  Two w.heap.size [] w2 ba bb Sa Sb := by
 refine ⟨oa, ob, h1.below hb2, h2, fun x hx hy => ?_, fun x hx => ⟨ha x hx, by simp⟩, fun x hx => ⟨by have := hb x hx; have := hb1.size; omega, by simp⟩, by simp⟩
 have := hb x hy; have := h1.lt x hx; omega
/-- The states of the example. -/
def Lv.a3 : K.E := { K.E0 2 9 with wait := [[97], [98], [99]] }
def Lv.b1 : K.E := { K.E0 2 9 with owing := true, held := fun k => if k = 2 then some [98] else none, cnt := 1 }
def Lv.pk1 : List UInt8 := K.sealed 9 (K.pk 1 0 [97])
def Lv.pk2 : List UInt8 := K.sealed 9 (K.pk 2 0 [98])
def Lv.ack : List UInt8 := K.sealed 9 (K.pk 0 2 [])
def Lv.pk3 : List UInt8 := K.sealed 9 (K.pk 3 0 [99])
theorem Lv.ok0 : K.ok (K.E0 2 9) := ⟨by decide, by decide, by decide, by decide, by decide, by decide, by decide, by decide, by decide, by simp [K.E0], by decide, by decide⟩
theorem Lv.ok3 : K.ok Lv.a3 := ⟨by decide, by decide, by decide, by decide, by decide, by decide, by decide, by decide, by decide, by decide, by decide, by decide⟩
theorem Lv.ok1 : K.ok Lv.b1 := ⟨by decide, by decide, by decide, by decide, by decide, by decide, by decide, by decide, by decide, by simp [Lv.b1, K.E0], by decide, by decide⟩
theorem Lv.out3 : K.out Lv.a3 = [Lv.pk1, Lv.pk2] := by
 have h : K.outN Lv.a3 = 2 := by decide
 unfold K.out
 rw [h, if_neg (by decide)]
 rfl
theorem i64 {k : Int} (h0 : 0 ≤ k) (h1 : k ≤ 1000000) : W.Is64 k := by unfold W.Is64; omega
theorem Lv.in2 : K.inn (K.E0 2 9) Lv.pk2 = ([], 0, Lv.b1) := by
 have h := K.inn_sealed (S := K.E0 2 9) (p := 2) (q := 0) (s := [98]) (i64 (by omega) (by omega)) (i64 (by omega) (by omega)) (by decide)
 refine (show K.inn (K.E0 2 9) Lv.pk2 = _ from h).trans ?_
 rfl
theorem Lv.in1 : ∃ S, K.inn Lv.b1 Lv.pk1 = ([[97], [98]], 0, S) ∧ S.win = 2 ∧ S.key = 9 ∧ S.wait = [] ∧ S.acked = 0 ∧ S.del = 2 ∧ S.owing = true ∧ S.forged = 0 ∧ S.cnt = 0 := by
 have h := K.inn_sealed (S := Lv.b1) (p := 1) (q := 0) (s := [97]) (i64 (by omega) (by omega)) (i64 (by omega) (by omega)) (by decide)
 refine ⟨_, (show K.inn Lv.b1 Lv.pk1 = _ from h).trans rfl, rfl, rfl, rfl, rfl, rfl, rfl, rfl, rfl⟩
def Lv.b2 : K.E := (K.inn Lv.b1 Lv.pk1).2.2
def Lv.a4 : K.E := { Lv.a3 with wait := [[99]], acked := 2 }
theorem Lv.in1b : K.inn Lv.b1 Lv.pk1 = ([[97], [98]], 0, Lv.b2) := by
 obtain ⟨S, h, _⟩ := Lv.in1
 unfold Lv.b2
 rw [h]
theorem Lv.ok2 : K.ok Lv.b2 := by
 obtain ⟨S, h, h1, h2, h3, h4, h5, h6, h7, h8⟩ := Lv.in1
 unfold Lv.b2
 rw [h]
 exact ⟨by rw [h1]; decide, by rw [h1]; decide, by rw [h4]; decide, by rw [h4]; decide, by rw [h5]; decide, by rw [h5]; decide, by rw [h7]; decide, by rw [h7]; decide, by rw [h3]; decide, by rw [h3]; simp, by rw [h8]; decide, by rw [h2]; decide⟩
theorem Lv.out2 : K.out Lv.b2 = [Lv.ack] := by
 obtain ⟨S, h, h1, h2, h3, h4, h5, h6, h7, h8⟩ := Lv.in1
 have e : Lv.b2 = S := by unfold Lv.b2; rw [h]
 rw [e]
 unfold K.out K.outN
 rw [h3, h6, h2, h5, if_pos ⟨by simp, rfl⟩]
 rfl
theorem Lv.in3 : K.inn Lv.a3 Lv.ack = ([], 0, Lv.a4) := by
 have h := K.inn_sealed (S := Lv.a3) (p := 0) (q := 2) (s := []) (i64 (by omega) (by omega)) (i64 (by omega) (by omega)) (by decide)
 exact (show K.inn Lv.a3 Lv.ack = _ from h).trans rfl
theorem Lv.ok4 : K.ok Lv.a4 := ⟨by decide, by decide, by decide, by decide, by decide, by decide, by decide, by decide, by decide, by decide, by decide, by decide⟩
theorem Lv.out4 : K.out Lv.a4 = [Lv.pk3] := by
 have h : K.outN Lv.a4 = 1 := by decide
 unfold K.out
 rw [h, if_neg (by decide)]
 rfl
theorem Lv.len1 : Lv.pk1.length ≤ 1000000000000 := by have := K.pk_len 1 0 [97] (by decide); unfold Lv.pk1 K.sealed; rw [List.length_append, K.seal8_len]; omega
theorem Lv.len2 : Lv.pk2.length ≤ 1000000000000 := by have := K.pk_len 2 0 [98] (by decide); unfold Lv.pk2 K.sealed; rw [List.length_append, K.seal8_len]; omega
theorem Lv.len3 : Lv.ack.length ≤ 1000000000000 := by have := K.pk_len 0 2 [] (by decide); unfold Lv.ack K.sealed; rw [List.length_append, K.seal8_len]; omega
set_option maxRecDepth 100000 in
theorem lives_any (w : World) : Calls Try.prog 23 #[] w fun e w' => e = .returned (.bool true) ∧ Below w.heap.size w w' := by
 have hcv1 := run_conv_lit (.int .u8 97)
 have hcv2 := run_conv_lit (.int .u8 98)
 have hcv3 := run_conv_lit (.int .u8 99)
 go_enter Try.func23, Try.ntmps23
 go_wp2_with fail
 refine (new_yes 2 9 w (by omega) (by omega)).mono ?_
 rintro e w1 ⟨ba, oa, rfl, hE1, ke, ho1⟩
 have HE1 := Lib.hid hE1; have ka := Lib.hid ke; have HO1 := Lib.hid ho1
 clear hE1 ke ho1
 go_wp2_with fail
 refine (new_yes 2 9 w1 (by omega) (by omega)).mono ?_
 rintro e w2 ⟨bb, ob, rfl, hE2, kc, ho2⟩
 have HT2 := Lib.hid (two_new HE1.out ka.out HO1.out hE2 kc ho2)
 have kf := Lib.hid (Blw ka.out kc)
 clear hE2 kc ho2 HE1 ka HO1
 go_wp2_with fail
 generalize hW : w2.alloc (.cells _ 5 _) = u3
 have hbu : Below w2.heap.size w2 u3 := by rw [← hW]; exact (Below.refl _ _).alloc (Nat.le_refl _) _
 have hbv : BV u3 (.slice (some ⟨w2.heap.size, 0, none⟩) 1 1) [97] := by rw [← hW]; exact bv_lit w2 97 _
 have HBU3 := Lib.hid (Blw kf.out hbu)
 have hsend := two_send (HT2.out.below hbu) HBU3.out.size hbv (by decide) (by decide)
 have HS3 := Lib.hid hsend
 clear hW hbu hbv hsend
 refine HS3.out.mono ?_
 rintro e w3 ⟨rfl, hT, hK⟩
 have HT3 : Hid (Two w.heap.size [] w3 ba bb { K.E0 2 9 with wait := [[97]] } (K.E0 2 9)) := Lib.hid hT
 have kg := Lib.hid (HBU3.out.trans (hK.below HBU3.out.size))
 clear hT hK HS3 HBU3 HT2 kf
 go_wp2_with fail
 generalize hW : w3.alloc (.cells _ 5 _) = u4
 have hbu : Below w3.heap.size w3 u4 := by rw [← hW]; exact (Below.refl _ _).alloc (Nat.le_refl _) _
 have hbv : BV u4 (.slice (some ⟨w3.heap.size, 0, none⟩) 1 1) [98] := by rw [← hW]; exact bv_lit w3 98 _
 have HBU4 := Lib.hid (Blw kg.out hbu)
 have hsend := two_send (HT3.out.below hbu) HBU4.out.size hbv (by decide) (by decide)
 have HS4 := Lib.hid hsend
 clear hW hbu hbv hsend
 refine HS4.out.mono ?_
 rintro e w4 ⟨rfl, hT, hK⟩
 have HT4 : Hid (Two w.heap.size [] w4 ba bb { K.E0 2 9 with wait := [[97], [98]] } (K.E0 2 9)) := Lib.hid hT
 have kh := Lib.hid (HBU4.out.trans (hK.below HBU4.out.size))
 clear hT hK HS4 HBU4 HT3 kg
 go_wp2_with fail
 generalize hW : w4.alloc (.cells _ 5 _) = u5
 have hbu : Below w4.heap.size w4 u5 := by rw [← hW]; exact (Below.refl _ _).alloc (Nat.le_refl _) _
 have hbv : BV u5 (.slice (some ⟨w4.heap.size, 0, none⟩) 1 1) [99] := by rw [← hW]; exact bv_lit w4 99 _
 have HBU5 := Lib.hid (Blw kh.out hbu)
 have hsend := two_send (HT4.out.below hbu) HBU5.out.size hbv (by decide) (by decide)
 have HS5 := Lib.hid hsend
 clear hW hbu hbv hsend
 refine HS5.out.mono ?_
 rintro e w5 ⟨rfl, hT, hK⟩
 have HT5 : Hid (Two w.heap.size [] w5 ba bb { K.E0 2 9 with wait := [[97], [98], [99]] } (K.E0 2 9)) := Lib.hid hT
 have k0 := Lib.hid (HBU5.out.trans (hK.below HBU5.out.size))
 clear hT hK HS5 HBU5 HT4 kh
 have HT5' : Hid (Two w.heap.size [] w5 ba bb Lv.a3 (K.E0 2 9)) := HT5
 clear HT5
 go_wp2_with fail
 refine (two_out HT5'.out k0.out.size Lv.ok3).mono ?_
 rintro e w6 ⟨v6, rfl, hr, hT, hK⟩
 rw [Lv.out3] at hr
 obtain ⟨A6, c6, rfl, -⟩ := hr.form
 have HR6 := Lib.hid hr
 have HT6 : Hid (Two w.heap.size ((Value.slice A6 2 c6).ownBlock.toList ++ []) w6 ba bb Lv.a3 (K.E0 2 9)) := Lib.hid hT
 have k1 := Lib.hid (k0.out.trans (hK.below k0.out.size))
 clear hr hT hK HT5' k0
 simp only [List.length_cons, List.length_nil, Nat.reduceAdd]
 obtain ⟨g6, k6, us6, e6, kd, hv6, hl6, -, -, -, -⟩ := HR6.out.rep (by simp)
 injection e6 with eA el ek
 clear el
 subst eA; subst ek
 obtain ⟨ua, ub, rfl⟩ : ∃ ua ub, us6 = [ua, ub] := by
  match us6, hl6 with
  | [ua, ub], _ => exact ⟨ua, ub, rfl⟩
 have f60 := kd 0 _ rfl
 have f61 := kd 1 _ rfl
 have hba := hv6.2 0 _ _ rfl rfl
 have hbb := hv6.2 1 _ _ rfl rfl
 have HBA := Lib.hid hba; have HBB := Lib.hid hbb
 obtain ⟨Aa, ca, rfl, -⟩ := hba
 obtain ⟨Ab, cb, rfl, -⟩ := hbb
 clear kd hv6 hl6 HR6
 generalize hna : Lv.pk1.length = na at *
 generalize hnb : Lv.pk2.length = nb at *
 have HF60 := Lib.hid f60
 clear hna hnb
 go_wp2_with fail
 refine (two_in HT6.out.swap k1.out.size Lv.ok0 HBB.out Lv.len2).mono ?_
 rintro e w7 ⟨v7, rfl, hr, hT, hK⟩
 rw [Lv.in2] at hr hT ⊢
 obtain ⟨A7, c7, rfl, -⟩ := hr.form
 have HK7 := Lib.hid hK
 have HT7 := Lib.hid hT.swap
 have k2 := Lib.hid (k1.out.trans (hK.below k1.out.size))
 have f70 := hK.cell (by simp [Value.ownBlock]) HF60.out
 have HBA7 := Lib.hid (HBA.out.kb hK.kb)
 clear hr hT hK HT6 k1 f60 f61 HF60 HBA HBB
 simp only [List.length_nil]
 go_wp2_with fail
 refine (two_in HT7.out.swap k2.out.size Lv.ok1 HBA7.out Lv.len1).mono ?_
 rintro e w8 ⟨v8, rfl, hr, hT, hK⟩
 rw [Lv.in1b] at hr hT ⊢
 obtain ⟨g8, k8, us8, e8, ki, hv8, hl8, -, -, -, -⟩ := hr.rep (by simp)
 subst e8
 obtain ⟨uc, ud, rfl⟩ : ∃ uc ud, us8 = [uc, ud] := by
  match us8, hl8 with
  | [uc, ud], _ => exact ⟨uc, ud, rfl⟩
 have HF81 := Lib.hid (ki 1 _ rfl)
 have hbd := hv8.2 1 _ _ rfl rfl
 have HBD := Lib.hid hbd
 obtain ⟨Ad, cd, rfl, -⟩ := hbd
 have HT8 := Lib.hid hT
 have k3 := Lib.hid (k2.out.trans (hK.below k2.out.size))
 clear hr hT hK HT7 k2 f70 HBA7 HK7 ki hv8 hl8
 simp only [List.length_cons, List.length_nil, Nat.reduceAdd]
 go_wp2_with fail
 refine (two_out HT8.out k3.out.size Lv.ok2).mono ?_
 rintro e w9 ⟨v9, rfl, hr, hT, hK⟩
 rw [Lv.out2] at hr
 obtain ⟨g9, k9, us9, e9, kj, hv9, hl9, -, -, -, -⟩ := hr.rep (by simp)
 subst e9
 obtain ⟨ue, rfl⟩ : ∃ ue, us9 = [ue] := by
  match us9, hl9 with
  | [ue], _ => exact ⟨ue, rfl⟩
 have f90 := kj 0 _ rfl
 have hbe := hv9.2 0 _ _ rfl rfl
 have HBE := Lib.hid hbe
 obtain ⟨Ae, ce, rfl, -⟩ := hbe
 have HT9 := Lib.hid hT.swap
 have k4 := Lib.hid (k3.out.trans (hK.below k3.out.size))
 have f81 := hK.cell (by simp [Value.ownBlock]) HF81.out
 have hbd9 := HBD.out.kb hK.kb
 obtain ⟨A_, c_, e_, -, -, hrd, -⟩ := hbd9
 injection e_ with eA1 el1 ec1
 clear el1
 subst eA1; subst ec1
 have hcvd := run_string_rd hrd 1 cd rfl
 clear hr hT hK HT8 k3 HF81 HBD kj hv9 hl9 hrd
 generalize hne : Lv.ack.length = ne at *
 clear hne
 simp only [List.length_cons, List.length_nil, Nat.reduceAdd]
 go_wp2_with fail
 refine (two_in HT9.out k4.out.size Lv.ok3 HBE.out Lv.len3).mono ?_
 rintro e w10 ⟨v10, rfl, hr, hT, hK⟩
 rw [Lv.in3] at hr hT ⊢
 obtain ⟨A10, c10, rfl, -⟩ := hr.form
 have HT10 := Lib.hid hT
 have k5 := Lib.hid (k4.out.trans (hK.below k4.out.size))
 clear hr hT hK HT9 k4 f90 f81 hcvd HBE
 simp only [List.length_nil]
 go_wp2_with fail
 refine (two_out HT10.out k5.out.size Lv.ok4).mono ?_
 rintro e w11 ⟨v11, rfl, hr, hT, hK⟩
 rw [Lv.out4] at hr
 obtain ⟨g11, k11, us11, e11, kk, hv11, hl11, -, -, -, -⟩ := hr.rep (by simp)
 subst e11
 obtain ⟨uf, rfl⟩ : ∃ uf, us11 = [uf] := by
  match us11, hl11 with
  | [uf], _ => exact ⟨uf, rfl⟩
 have HF110 := Lib.hid (kk 0 _ rfl)
 have hbf := hv11.2 0 _ _ rfl rfl
 have HBF := Lib.hid hbf
 obtain ⟨Af, cf, rfl, -⟩ := hbf
 have HT11 := Lib.hid (hT.sub (ks' := []) (by simp))
 have kn := Lib.hid (k5.out.trans (hK.below k5.out.size))
 have hgl := ((hr.lt g11 rfl)).2
 clear hr hT hK HT10 k5 kk hv11 hl11
 generalize hnf : Lv.pk3.length = nf at *
 have HNF := Lib.hid hnf
 clear hnf
 simp only [List.length_cons, List.length_nil, Nat.reduceAdd]
 go_wp2_with fail
 generalize hW : w11.alloc (.cells _ 5 _) = u12
 have hbu : Below w11.heap.size w11 u12 := by rw [← hW]; exact (Below.refl _ _).alloc (Nat.le_refl _) _
 have hbv : BV u12 (.slice (some ⟨w11.heap.size, 0, none⟩) 1 1) [99] := by rw [← hW]; exact bv_lit w11 99 _
 have HBU := Lib.hid hbu
 obtain ⟨A12, c12, e12, -, -, hr12, -⟩ := hbv
 injection e12 with eA el ec
 clear el
 subst eA; subst ec
 have hpk := rpk_any 3 0 _ 1 _ [99] u12 hr12 (Nat.le_refl _) (i64 (by omega) (by omega)) (i64 (by omega) (by omega)) (by decide)
 have HPK := Lib.hid hpk
 clear hW hbu hr12 hpk
 refine HPK.out.mono ?_
 rintro e w13 ⟨v13, rfl, hown, hb⟩
 have kl := Lib.hid (Blw HBU.out hb)
 have hlp := K.pk_len 3 0 [99] (by decide)
 obtain ⟨A13, c13, rfl, km, hm13, -⟩ := own_form hown
 have hrs := rseal_rd 9 A13 c13 _ (K.pk 3 0 [99]) w13 (by decide) (Rd.of_own hown) (Nat.le_refl _) km hm13 (by omega)
 have HRS := Lib.hid hrs
 clear hown hb hrs km hm13 HPK HBU
 generalize hnp : (K.pk 3 0 [99]).length = np at *
 clear hnp hlp
 go_wp2_with fail
 refine HRS.out.mono ?_
 rintro e w14 ⟨v14, rfl, hown, hb⟩
 have k7 := Lib.hid (Blw kl.out hb)
 have HBV14 : Hid (BV w14 v14 Lv.pk3) := Lib.hid (BV.own hown)
 have f140 := (k7.out.cell (p := ⟨g11, 0, none⟩) hgl).trans HF110.out
 have hbf14 := HBF.out.below k7.out
 have hsm := same_bv hbf14 HBV14.out
 rw [decide_eq_true rfl] at hsm
 have HSM := Lib.hid hsm
 have HT14 := Lib.hid (HT11.out.below k7.out)
 have HB14w := Lib.hid (Blw kn.out k7.out)
 have hwt : ∀ n, Calls Try.prog 21 #[.pointer (some ⟨ba, 0, none⟩)] (w14.drewN n) fun e w' => e = .returned (.int .i64 1) ∧ w14.drewN n = w' := fun n => two_wait (w := w14.drewN n) HT14.out
 have hft : ∀ n, Calls Try.prog 22 #[.pointer (some ⟨ba, 0, none⟩)] (w14.drewN n) fun e w' => e = .returned (.int .i64 0) ∧ w14.drewN n = w' := fun n => two_forg (w := w14.drewN n) HT14.out
 have HWT := Lib.hid hwt; have HFT := Lib.hid hft
 obtain ⟨A14, c14, rfl, -⟩ := own_form hown
 clear hown hb hbf14 hsm hwt hft HRS kl
 rw [show (K.pk 3 0 [99] ++ K.seal8 (K.hash 9 (K.pk 3 0 [99]))).length = nf from HNF.out]
 go_wp2_with fail
 have hsm2 := HSM.out
 rw [show (K.pk 3 0 [99] ++ K.seal8 (K.hash 9 (K.pk 3 0 [99]))).length = nf from HNF.out] at hsm2
 refine hsm2.mono ?_
 clear hsm2
 rintro e w15 ⟨rfl, n, rfl⟩
 go_wp2_with fail
 refine (HWT.out n).mono ?_
 rintro e w16 ⟨rfl, rfl⟩
 go_wp2_with fail
 refine (HFT.out n).mono ?_
 rintro e w17 ⟨rfl, rfl⟩
 go_wp2
 go_ret
 exact ⟨rfl, bdN HB14w.out n⟩
end Go.Proofs.Ytgdibcgphjmofaa
