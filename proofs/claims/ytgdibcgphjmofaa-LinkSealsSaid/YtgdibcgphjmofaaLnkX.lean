/-
 TWO ENDS side by side, and rows that are kept beside them.
-/
import Derived.Test.YtgdibcgphjmofaaLnkW
namespace Go.Proofs.Ytgdibcgphjmofaa
open Go.RowKit
open Go.Maps
set_option linter.unusedVariables false
/-- What stays: the old blocks below B, the blocks of ks, the rows of bytes. -/
structure Kpt (B : Nat) (ks : List Nat) (w w' : World) : Prop where
 os : w'.os = w.os
 tape : w'.tape = w.tape
 output : w'.output = w.output
 size : w.heap.size ≤ w'.heap.size
 low : ∀ k, k < B → k < w.heap.size → w'.heap[k]? = w.heap[k]?
 row : ∀ k ∈ ks, w'.heap[k]? = w.heap[k]?
 kb : KB w w'
/-- Two ends, which share no block, and none with ks or with what was there before B. -/
def Two (B : Nat) (ks : List Nat) (w : World) (ba bb : Nat) (Sa Sb : K.E) : Prop := ∃ oa ob, EndAt w ba oa Sa ∧ EndAt w bb ob Sb ∧ (∀ x ∈ oa, x ∉ ob) ∧ (∀ x ∈ oa, B ≤ x ∧ x ∉ ks) ∧ (∀ x ∈ ob, B ≤ x ∧ x ∉ ks) ∧ ∀ k ∈ ks, k < w.heap.size
section
variable {B B' : Nat} {ks ks' : List Nat} {w w' w1 w2 : World} {ba bb : Nat} {Sa Sb Sa' : K.E}
theorem Kpt.refl (B : Nat) (ks : List Nat) (w : World) : Kpt B ks w w := ⟨rfl, rfl, rfl, Nat.le_refl _, fun _ _ _ => rfl, fun _ _ => rfl, KB.refl w⟩
theorem Kpt.trans (h : Kpt B ks w w1) (g : Kpt B ks w1 w2) : Kpt B ks w w2 := ⟨g.os.trans h.os, g.tape.trans h.tape, g.output.trans h.output, Nat.le_trans h.size g.size, fun k hk hk2 => (g.low k hk (Nat.lt_of_lt_of_le hk2 h.size)).trans (h.low k hk hk2), fun k hk => (g.row k hk).trans (h.row k hk), h.kb.trans g.kb⟩
theorem Kpt.of (h : Below w.heap.size w w') (hk : ∀ k ∈ ks, k < w.heap.size) : Kpt B ks w w' := ⟨h.os, h.tape, h.output, h.size, fun k _ hk2 => h.block k hk2, fun k hk2 => h.block k (hk k hk2), KB.of h⟩
theorem Kpt.sub (h : Kpt B ks w w') (hs : ∀ k ∈ ks', k ∈ ks) : Kpt B ks' w w' := ⟨h.os, h.tape, h.output, h.size, h.low, fun k hk => h.row k (hs k hk), h.kb⟩
theorem Kpt.below (h : Kpt B ks w w') (hB : B ≤ w.heap.size) : Below B w w' := ⟨h.os, h.tape, h.output, h.size, fun k hk => h.low k hk (by omega)⟩
theorem Two.swap (h : Two B ks w ba bb Sa Sb) : Two B ks w bb ba Sb Sa := by
 obtain ⟨oa, ob, h1, h2, h3, h4, h5, h6⟩ := h
 exact ⟨ob, oa, h2, h1, fun x hx hy => h3 x hy hx, h5, h4, h6⟩
theorem Two.kslt (h : Two B ks w ba bb Sa Sb) : ∀ k ∈ ks, k < w.heap.size := by
 obtain ⟨oa, ob, h1, h2, h3, h4, h5, h6⟩ := h
 exact h6
theorem Two.below (h : Two B ks w ba bb Sa Sb) (hb : Below w.heap.size w w') : Two B ks w' ba bb Sa Sb := by
 obtain ⟨oa, ob, h1, h2, h3, h4, h5, h6⟩ := h
 exact ⟨oa, ob, h1.below hb, h2.below hb, h3, h4, h5, fun k hk => Nat.lt_of_lt_of_le (h6 k hk) hb.size⟩
theorem Two.sub (h : Two B ks w ba bb Sa Sb) (hs : ∀ k ∈ ks', k ∈ ks) : Two B ks' w ba bb Sa Sb := by
 obtain ⟨oa, ob, h1, h2, h3, h4, h5, h6⟩ := h
 exact ⟨oa, ob, h1, h2, h3, fun x hx => ⟨(h4 x hx).1, fun e => (h4 x hx).2 (hs x e)⟩, fun x hx => ⟨(h5 x hx).1, fun e => (h5 x hx).2 (hs x e)⟩, fun k hk => h6 k (hs k hk)⟩
/-- A block that is new, and no end's, is kept too. -/
theorem Two.add (h : Two B ks w ba bb Sa Sb) (hb : Below w.heap.size w w') {k : Nat} (hk : w.heap.size ≤ k) (hk2 : k < w'.heap.size) : Two B (k :: ks) w' ba bb Sa Sb := by
 obtain ⟨oa, ob, h1, h2, h3, h4, h5, h6⟩ := h
 refine ⟨oa, ob, h1.below hb, h2.below hb, h3, fun x hx => ⟨(h4 x hx).1, fun e => ?_⟩, fun x hx => ⟨(h5 x hx).1, fun e => ?_⟩, fun x hx => ?_⟩
 ·rcases List.mem_cons.1 e with rfl | e
  ·have := h1.lt x hx; omega
  ·exact (h4 x hx).2 e
 ·rcases List.mem_cons.1 e with rfl | e
  ·have := h2.lt x hx; omega
  ·exact (h5 x hx).2 e
 ·rcases List.mem_cons.1 hx with rfl | e
  ·exact hk2
  ·exact Nat.lt_of_lt_of_le (h6 x e) hb.size
theorem RowV.kpt {B0 : Nat} {v : Value} {ls : List (List UInt8)} (h : RowV B0 w v ls) (k : Kpt B ks w w') (hv : ∀ x, v.ownBlock = some x → x ∈ ks) : RowV B0 w' v ls := by
 obtain ⟨vs, h1, h2⟩ := h
 refine ⟨vs, ⟨h1.1, ?_⟩, h2.kb k.kb⟩
 rcases h1.2 with h | ⟨g, cap, cur, rfl, hb, hg, r⟩
 ·exact .inl h
 ·exact .inr ⟨g, cap, cur, rfl, hb, (k.row g (hv g rfl)).trans hg, r⟩
theorem RowV.lt {B0 : Nat} {v : Value} {ls : List (List UInt8)} (h : RowV B0 w v ls) : ∀ x, v.ownBlock = some x → B0 ≤ x ∧ x < w.heap.size := by
 obtain ⟨vs, h1, h2⟩ := h
 exact h1.lt
theorem RowV.below {B0 : Nat} {v : Value} {ls : List (List UInt8)} (h : RowV B0 w v ls) (hb : Below w.heap.size w w') : RowV B0 w' v ls := by
 obtain ⟨vs, h1, h2⟩ := h
 exact ⟨vs, own_below h1 hb, h2.kb (.of hb)⟩
/-- What a call at the first end leaves. -/
theorem Two.step {own : List Nat} (h : Two B ks w ba bb Sa Sb) (hown : ∃ ob, EndAt w ba own Sa ∧ EndAt w bb ob Sb ∧ (∀ x ∈ own, x ∉ ob) ∧ (∀ x ∈ own, B ≤ x ∧ x ∉ ks) ∧ (∀ x ∈ ob, B ≤ x ∧ x ∉ ks)) {own' : List Nat} (hE : EndAt w' ba own' Sa') (hT : TT own w w') (hn : ∀ x ∈ own', x ∈ own ∨ w.heap.size ≤ x) (hB : B ≤ w.heap.size) {r : Option Nat} (hr : ∀ k, r = some k → w.heap.size ≤ k ∧ k < w'.heap.size ∧ k ∉ own') :
  Two B (r.toList ++ ks) w' ba bb Sa' Sb ∧ Kpt B ks w w' := by
 obtain ⟨ob, h1, h2, h3, h4, h5⟩ := hown
 have h6 := h.kslt
 refine ⟨⟨own', ob, hE, h2.tt hT (fun x hx hy => h3 x hy hx), fun x hx hy => ?_, fun x hx => ⟨?_, fun e => ?_⟩, fun x hx => ⟨(h5 x hx).1, fun e => ?_⟩, fun k hk => ?_⟩, hT.1.os, hT.1.tape, hT.1.output, hT.1.size, fun k hk hk2 => hT.1.block k hk2 (fun e => ?_), fun k hk => hT.1.block k (h6 k hk) (fun e => (h4 k e).2 hk), hT.2⟩
 ·rcases hn x hx with h | h
  ·exact h3 x h hy
  ·have := h2.lt x hy; omega
 ·rcases hn x hx with h | h
  ·exact (h4 x h).1
  ·omega
 ·rcases List.mem_append.1 e with e | e
  ·exact (hr x (by simpa using e)).2.2 hx
  ·rcases hn x hx with h | h
   ·exact (h4 x h).2 e
   ·have := h6 x e; omega
 ·rcases List.mem_append.1 e with e | e
  ·have := (hr x (by simpa using e)).1; have := h2.lt x hx; omega
  ·exact (h5 x hx).2 e
 ·rcases List.mem_append.1 hk with e | e
  ·exact (hr k (by simpa using e)).2.1
  ·exact Nat.lt_of_lt_of_le (h6 k e) hT.1.size
 ·have := (h4 k e).1; omega
end
theorem two_in {B : Nat} {ks : List Nat} {w : World} {ba bb : Nat} {Sa Sb : K.E} (h : Two B ks w ba bb Sa Sb) (hB : B ≤ w.heap.size) (ok : K.ok Sa) {x : Value} {l : List UInt8} (hbv : BV w x l) (hl : l.length ≤ 1000000000000) :
  Calls Try.prog 19 #[.pointer (some ⟨ba, 0, none⟩), x] w fun e w' => ∃ v, e = .returned (.tuple #[v, .int .i64 (K.inn Sa l).2.1]) ∧ RowV w.heap.size w' v (K.inn Sa l).1 ∧ Two B (v.ownBlock.toList ++ ks) w' ba bb (K.inn Sa l).2.2 Sb ∧ Kpt B ks w w' := by
 obtain ⟨oa, ob, h1, h2, h3, h4, h5, h6⟩ := id h
 refine (in_any ba oa Sa x l w h1 ok hbv hl).mono ?_
 rintro e w' ⟨v, rfl, hr, hE, hT⟩
 exact ⟨v, rfl, hr, h.step ⟨ob, h1, h2, h3, h4, h5⟩ hE hT (fun x hx => .inl hx) hB (fun k hk => ⟨(hr.lt k hk).1, (hr.lt k hk).2, fun e => by have := h1.lt k e; have := (hr.lt k hk).1; omega⟩)⟩
theorem two_out {B : Nat} {ks : List Nat} {w : World} {ba bb : Nat} {Sa Sb : K.E} (h : Two B ks w ba bb Sa Sb) (hB : B ≤ w.heap.size) (ok : K.ok Sa) :
  Calls Try.prog 13 #[.pointer (some ⟨ba, 0, none⟩)] w fun e w' => ∃ v, e = .returned v ∧ RowV w.heap.size w' v (K.out Sa) ∧ Two B (v.ownBlock.toList ++ ks) w' ba bb { Sa with owing := false } Sb ∧ Kpt B ks w w' := by
 obtain ⟨oa, ob, h1, h2, h3, h4, h5, h6⟩ := id h
 refine (out_any ba oa Sa w h1 ok).mono ?_
 rintro e w' ⟨v, rfl, hr, hE, hT⟩
 exact ⟨v, rfl, hr, h.step ⟨ob, h1, h2, h3, h4, h5⟩ hE hT (fun x hx => .inl hx) hB (fun k hk => ⟨(hr.lt k hk).1, (hr.lt k hk).2, fun e => by have := h1.lt k e; have := (hr.lt k hk).1; omega⟩)⟩
theorem two_send {B : Nat} {ks : List Nat} {w : World} {ba bb : Nat} {Sa Sb : K.E} (h : Two B ks w ba bb Sa Sb) (hB : B ≤ w.heap.size) {x : Value} {l : List UInt8} (hbv : BV w x l) (h1 : l.length ≤ 65536) (h2 : Sa.wait.length < 1000) :
  Calls Try.prog 11 #[.pointer (some ⟨ba, 0, none⟩), x] w fun e w' => e = .returned (.int .i64 0) ∧ Two B ks w' ba bb { Sa with wait := Sa.wait ++ [l] } Sb ∧ Kpt B ks w w' := by
 obtain ⟨oa, ob, g1, g2, g3, g4, g5, g6⟩ := id h
 refine (send_yes ba oa Sa x l w g1 hbv h1 h2).mono ?_
 rintro e w' ⟨rfl, own', hE, hT, hn⟩
 have := h.step ⟨ob, g1, g2, g3, g4, g5⟩ hE hT hn hB (r := none) (fun k hk => by cases hk)
 exact ⟨rfl, this⟩
theorem two_wait {B : Nat} {ks : List Nat} {w : World} {ba bb : Nat} {Sa Sb : K.E} (h : Two B ks w ba bb Sa Sb) : Calls Try.prog 21 #[.pointer (some ⟨ba, 0, none⟩)] w fun e w' => e = .returned (.int .i64 (Sa.wait.length : Int)) ∧ w = w' := by
 obtain ⟨oa, ob, g1, _⟩ := h
 exact waiting_any ba oa Sa w g1
theorem two_forg {B : Nat} {ks : List Nat} {w : World} {ba bb : Nat} {Sa Sb : K.E} (h : Two B ks w ba bb Sa Sb) : Calls Try.prog 22 #[.pointer (some ⟨ba, 0, none⟩)] w fun e w' => e = .returned (.int .i64 Sa.forged) ∧ w = w' := by
 obtain ⟨oa, ob, g1, _⟩ := h
 exact forged_any ba oa Sa w g1
/-- An element of a row of messages. -/
theorem RowV.at_ {B0 : Nat} {w : World} {v : Value} {ls : List (List UInt8)} (h : RowV B0 w v ls) {i : Nat} {l : List UInt8} (hi : ls[i]? = some l) : ∃ g c u, v = .slice (some ⟨g, 0, none⟩) ls.length c ∧ w.cell? ⟨g, i, none⟩ = some u ∧ BV w u l ∧ ls.length ≤ c ∧ c ≤ maxLen := by
 obtain ⟨vs, h1, h2⟩ := h
 have hil := (List.getElem?_eq_some_iff.1 hi).1
 obtain ⟨g, c, rfl, hc, hm, hg, hgs⟩ := own_pos h1 (by omega)
 obtain ⟨u, hu⟩ : ∃ u, vs[i]? = some u := ⟨vs[i]'(by rw [h2.1]; exact hil), List.getElem?_eq_getElem _⟩
 have h3 := own_cells h1 i u hu
 rw [Addr.add_lit, Nat.zero_add] at h3
 exact ⟨g, c, u, rfl, h3, h2.2 i u l hu hi, hc, hm⟩
theorem RowV.rep {B0 : Nat} {w : World} {v : Value} {ls : List (List UInt8)} (h : RowV B0 w v ls) (hn : 0 < ls.length) : ∃ g c us, v = .slice (some ⟨g, 0, none⟩) ls.length c ∧ (∀ i u, us[i]? = some u → w.cell? ⟨g, i, none⟩ = some u) ∧ Vs w us ls ∧ us.length = ls.length ∧ ls.length ≤ c ∧ c ≤ maxLen ∧ B0 ≤ g ∧ g < w.heap.size := by
 obtain ⟨vs, h1, h2⟩ := h
 obtain ⟨g, c, rfl, hc, hm, hg, hgs⟩ := own_pos h1 hn
 exact ⟨g, c, vs, rfl, fun i u hu => by
  have h3 := own_cells h1 i u hu
  rw [Addr.add_lit, Nat.zero_add] at h3
  exact h3, h2, h2.1, hc, hm, hg, hgs⟩
theorem Kpt.cell {B : Nat} {ks : List Nat} {w w' : World} (k : Kpt B ks w w') {g i : Nat} (hg : g ∈ ks) {u : Option Value} (h : w.cell? ⟨g, i, none⟩ = u) : w'.cell? ⟨g, i, none⟩ = u := (World.cell?_of_block (a := ⟨g, i, none⟩) (k.row g hg)).trans h
theorem RowV.form {B0 : Nat} {w : World} {v : Value} {ls : List (List UInt8)} (h : RowV B0 w v ls) : ∃ A c, v = .slice A ls.length c ∧ ls.length ≤ c ∧ c ≤ maxLen := by
 obtain ⟨vs, h1, h2⟩ := h
 obtain ⟨A, c, h, h3, h4, _⟩ := own_form h1
 exact ⟨A, c, h, h3, h4⟩
end Go.Proofs.Ytgdibcgphjmofaa
