/-
 WORDS for the walks over two ends.
-/
import Derived.Test.YtgdibcgphjmofaaLnkS0
import Derived.Test.YtgdibcgphjmofaaLnkD1
namespace Go.Proofs.Ytgdibcgphjmofaa
set_option maxHeartbeats 1000000
open Go.RowKit
open Go.Maps
set_option linter.unusedVariables false
/-- The region of a number. -/
def regIn (n : Nat) : Code → Option Code
 | .region i ops d => if i = n then some (.region i ops d) else none
 | .seq a b => match regIn n a with
  | some c => some c
  | none => regIn n b
 | .cond _ a b => match regIn n a with
  | some c => some c
  | none => regIn n b
 | .block _ a => regIn n a
 | .loop a => regIn n a
 | .scope a => regIn n a
 | _ => none
/-- What stays, as a relation for flows. -/
structure KT (B : Nat) (ks : List Nat) (w w' : World) : Prop where
 os : w'.os = w.os
 tape : w'.tape = w.tape
 output : w'.output = w.output
 size : w.heap.size ≤ w'.heap.size
 low : ∀ k, k < B → k < w.heap.size → w'.heap[k]? = w.heap[k]?
 row : ∀ k ∈ ks, k < w.heap.size → w'.heap[k]? = w.heap[k]?
 kb : KB w w'
section
variable {B : Nat} {ks ks' : List Nat} {w w' w1 w2 W wx : World}
theorem Kpt.kt (h : Kpt B ks w w') : KT B ks w w' := ⟨h.os, h.tape, h.output, h.size, h.low, fun k hk _ => h.row k hk, h.kb⟩
theorem KT.refl (B : Nat) (ks : List Nat) (w : World) : KT B ks w w := ⟨rfl, rfl, rfl, Nat.le_refl _, fun _ _ _ => rfl, fun _ _ _ => rfl, KB.refl w⟩
theorem KT.trans (h : KT B ks w w1) (g : KT B ks w1 w2) : KT B ks w w2 := ⟨g.os.trans h.os, g.tape.trans h.tape, g.output.trans h.output, Nat.le_trans h.size g.size, fun k hk hk2 => (g.low k hk (Nat.lt_of_lt_of_le hk2 h.size)).trans (h.low k hk hk2), fun k hk hk2 => (g.row k hk (Nat.lt_of_lt_of_le hk2 h.size)).trans (h.row k hk hk2), h.kb.trans g.kb⟩
theorem KT.of (h : Below w.heap.size w w') : KT B ks w w' := ⟨h.os, h.tape, h.output, h.size, fun k _ hk2 => h.block k hk2, fun k _ hk2 => h.block k hk2, KB.of h⟩
theorem KT.sub (h : KT B ks w w') (hs : ∀ k ∈ ks', k ∈ ks) : KT B ks' w w' := ⟨h.os, h.tape, h.output, h.size, h.low, fun k hk => h.row k (hs k hk), h.kb⟩
theorem KT.rel (B : Nat) (ks : List Nat) : TRel (KT B ks) where
 refl := KT.refl B ks
 trans := KT.trans
 size h := h.size
 of := KT.of
theorem KT.below (h : KT B ks w w') (hB : B ≤ w.heap.size) : Below B w w' := ⟨h.os, h.tape, h.output, h.size, fun k hk => h.low k hk (by omega)⟩
theorem KT.bx (h : KT B ks w w') {g T : Nat} {l : List Value} (hg : g ∈ ks) (x : Bx w g T l) : Bx w' g T l := (h.row g hg x.lt).trans x
theorem KT.rowV (k : KT B ks w w') {B0 : Nat} {v : Value} {ls : List (List UInt8)} (h : RowV B0 w v ls) (hv : ∀ x, v.ownBlock = some x → x ∈ ks) : RowV B0 w' v ls := by
 have hl := h.lt
 obtain ⟨vs, h1, h2⟩ := h
 refine ⟨vs, ⟨h1.1, ?_⟩, h2.kb k.kb⟩
 rcases h1.2 with h | ⟨g, cap, cur, rfl, hb, hg, r⟩
 ·exact .inl h
 ·exact .inr ⟨g, cap, cur, rfl, hb, (k.row g (hv g rfl) (hl g rfl).2).trans hg, r⟩
theorem dK (hW : w.drew = W) (h : KT B ks W wx) : KT B ks w wx := by
 subst hW
 exact ⟨h.os, h.tape, h.output, h.size, h.low, h.row, h.kb⟩
theorem KT.drewN (h : KT B ks w w') (n : Nat) : KT B ks w (w'.drewN n) := ⟨h.os, h.tape, h.output, h.size, h.low, h.row, h.kb⟩
/-- A store into a row of the call's own. -/
theorem KT.put {g T : Nat} {cs : List Value} (hx : Bx w g T cs) (hT : T ≠ 5) (hB : B ≤ g) (hk : g ∉ ks) (i : Nat) (u : Value) : KT B ks w (w.setCell ⟨g, i, none⟩ u) := by
 have hne : ∀ k, k ≠ g → (w.setCell ⟨g, i, none⟩ u).heap[k]? = w.heap[k]? := fun k h => Below.heap_setCell w ⟨g, i, none⟩ u k h
 exact ⟨rfl, rfl, rfl, by simp [World.setCell], fun k h1 _ => hne k (by omega), fun k h1 _ => hne k (fun e => hk (e ▸ h1)), (KB.refl w).set_ hx hT u⟩
/-- Two ends, by index. -/
def E2 (B : Nat) (ks : List Nat) (w : World) (ef : Nat → Nat) (Sf : Nat → K.E) : Prop := Ends B ks w [(ef 0, Sf 0), (ef 1, Sf 1)]
def K.upd {α : Type} (f : Nat → α) (k : Nat) (x : α) : Nat → α := fun j => if j = k then x else f j
variable {ef : Nat → Nat} {Sf Sf' : Nat → K.E} {S : K.E} {k : Nat}
theorem E2.at_ (h : E2 B ks w ef Sf) (hk : k < 2) : Ends B ks w [(ef k, Sf k), (ef (1 - k), Sf (1 - k))] := by
 match k, hk with
 | 0, _ => exact h
 | 1, _ => exact Ends.swap h
theorem E2.of (h : Ends B ks w [(ef k, S), (ef (1 - k), Sf (1 - k))]) (hk : k < 2) : E2 B ks w ef (K.upd Sf k S) := by
 match k, hk with
 | 0, _ => exact h
 | 1, _ => exact Ends.swap h
theorem E2.congr (h : E2 B ks w ef Sf) (e : ∀ k, k < 2 → Sf k = Sf' k) : E2 B ks w ef Sf' := by
 unfold E2 at *
 rw [← e 0 (by omega), ← e 1 (by omega)]
 exact h
theorem E2.below (h : E2 B ks w ef Sf) (hb : Below w.heap.size w w') : E2 B ks w' ef Sf := Ends.below h hb
theorem E2.sub (h : E2 B ks w ef Sf) (hs : ∀ k ∈ ks', k ∈ ks) : E2 B ks' w ef Sf := Ends.sub h hs
theorem E2.add (h : E2 B ks w ef Sf) (hb : Below w.heap.size w w') (hk : w.heap.size ≤ k) (hk2 : k < w'.heap.size) : E2 B (k :: ks) w' ef Sf := Ends.add h hb hk hk2
theorem E2.kslt (h : E2 B ks w ef Sf) : ∀ k ∈ ks, k < w.heap.size := Ends.kslt h
theorem E2.put (h : E2 B ks w ef Sf) {g T : Nat} {cs : List Value} (hx : Bx w g T cs) (hT : T ≠ 5) (hg : g ∈ ks) (i : Nat) (u : Value) : E2 B ks (w.setCell ⟨g, i, none⟩ u) ef Sf :=
 Ends.ext (R := [g]) ⟨(Tc.refl _ w).set_ (.inl (by simp)) _, (KB.refl w).set_ hx hT u⟩ h (fun x hx => by simp at hx; rw [hx]; exact hg) (fun k hk => .inl hk) (fun k hk => by
  have := Ends.kslt h k hk
  simpa [World.setCell] using this)
/-- An own row that is turned in place, or moved. -/
theorem E2.grown {row : Option Nat} (h : E2 B ks w ef Sf) (hg : w.grownBy w' row) (hr : ∀ k, row = some k → k ∈ ks) (hkb : KB w w') (hs : ∀ k ∈ ks', k ∈ ks ∨ w.heap.size ≤ k) (hl : ∀ k ∈ ks', k < w'.heap.size) : E2 B ks' w' ef Sf :=
 Ends.ext (R := row.toList) ⟨(Tc.refl _ w).grown hg (fun k hk => .inl (by simp [hk])), hkb⟩ h (fun x hx => hr x (by simpa using hx)) hs hl
theorem e2_in (h : E2 B ks w ef Sf) (hk : k < 2) (hB : B ≤ w.heap.size) (ok : K.ok (Sf k)) {x : Value} {l : List UInt8} (hbv : BV w x l) (hl : l.length ≤ 1000000000000) :
  Calls Try.prog 19 #[.pointer (some ⟨ef k, 0, none⟩), x] w fun e w' => ∃ v, e = .returned (.tuple #[v, .int .i64 (K.inn (Sf k) l).2.1]) ∧ RowV w.heap.size w' v (K.inn (Sf k) l).1 ∧ E2 B (v.ownBlock.toList ++ ks) w' ef (K.upd Sf k (K.inn (Sf k) l).2.2) ∧ KT B ks w w' :=
 (ends_in (h.at_ hk) hB ok hbv hl).mono fun _ _ ⟨v, h1, h2, h3, h4⟩ => ⟨v, h1, h2, E2.of h3 hk, h4.kt⟩
theorem e2_out (h : E2 B ks w ef Sf) (hk : k < 2) (hB : B ≤ w.heap.size) (ok : K.ok (Sf k)) :
  Calls Try.prog 13 #[.pointer (some ⟨ef k, 0, none⟩)] w fun e w' => ∃ v, e = .returned v ∧ RowV w.heap.size w' v (K.out (Sf k)) ∧ E2 B (v.ownBlock.toList ++ ks) w' ef (K.upd Sf k { Sf k with owing := false }) ∧ KT B ks w w' :=
 (ends_out (h.at_ hk) hB ok).mono fun _ _ ⟨v, h1, h2, h3, h4⟩ => ⟨v, h1, h2, E2.of h3 hk, h4.kt⟩
theorem e2_send (h : E2 B ks w ef Sf) (hk : k < 2) (hB : B ≤ w.heap.size) {x : Value} {l : List UInt8} (hbv : BV w x l) (h1 : l.length ≤ 65536) (h2 : (Sf k).wait.length < 1000) :
  Calls Try.prog 11 #[.pointer (some ⟨ef k, 0, none⟩), x] w fun e w' => e = .returned (.int .i64 0) ∧ E2 B ks w' ef (K.upd Sf k { Sf k with wait := (Sf k).wait ++ [l] }) ∧ KT B ks w w' :=
 (ends_send (h.at_ hk) hB hbv h1 h2).mono fun _ _ ⟨h1, h3, h4⟩ => ⟨h1, E2.of h3 hk, h4.kt⟩
theorem e2_wait (h : E2 B ks w ef Sf) (hk : k < 2) : Calls Try.prog 21 #[.pointer (some ⟨ef k, 0, none⟩)] w fun e w' => e = .returned (.int .i64 ((Sf k).wait.length : Int)) ∧ w = w' := ends_wait (h.at_ hk)
theorem e2_forg (h : E2 B ks w ef Sf) (hk : k < 2) : Calls Try.prog 22 #[.pointer (some ⟨ef k, 0, none⟩)] w fun e w' => e = .returned (.int .i64 (Sf k).forged) ∧ w = w' := ends_forg (h.at_ hk)
end
/-- The windows of the two ends. -/
def Pr.win (win : Int) (k : Nat) : Int := if k = 0 then 1 + K.ar win 16 else 1 + K.ar (win.tdiv 16) 16
theorem Pr.win_rng (win : Int) (k : Nat) : 1 ≤ Pr.win win k ∧ Pr.win win k ≤ 16 := by
 unfold Pr.win
 obtain ⟨i, h1, h2⟩ := K.ar_nat win 16 (by omega)
 obtain ⟨j, h3, h4⟩ := K.ar_nat (win.tdiv 16) 16 (by omega)
 have h1 : K.ar win 16 = (i : Int) := h1
 have h3 : K.ar (win.tdiv 16) 16 = (j : Int) := h3
 rw [h1, h3]
 split <;> omega
theorem is64_tdiv {n : Int} (h : W.Is64 n) (m : Int) (hm : 0 < m) : W.Is64 (n.tdiv m) := by
 obtain ⟨h1, h2⟩ := h
 have hb : n.tdiv m ≤ n.natAbs ∧ -(n.natAbs : Int) ≤ n.tdiv m := by
  have := Int.natAbs_tdiv_le_natAbs n m
  omega
 have hc : n.tdiv m = -2 ^ 63 ∨ n.tdiv m < 2 ^ 63 ∧ -2 ^ 63 ≤ n.tdiv m ∨ n.tdiv m = 2 ^ 63 := by omega
 unfold W.Is64
 rcases Int.le_total 0 n with h | h
 ·omega
 ·have h3 : 0 ≤ (-n).tdiv m := Int.tdiv_nonneg (by omega) (by omega)
  rw [Int.neg_tdiv] at h3
  omega
theorem ends_any (win key : Int) (w : World) (hw : W.Is64 win) : Calls Try.prog 9 #[.int .i64 win, .int .u64 key] w fun e w' => ∃ (g : Nat) (ef : Nat → Nat), e = .returned (.slice (some ⟨g, 0, none⟩) 2 2) ∧ Bx w' g 35 [.pointer (some ⟨ef 0, 0, none⟩), .pointer (some ⟨ef 1, 0, none⟩)] ∧ E2 w.heap.size [g] w' ef (fun k => K.E0 (Pr.win win k) key) ∧ Below w.heap.size w w' ∧ w.heap.size ≤ g := by
 have h1 := Pr.win_rng win 0
 have h2 := Pr.win_rng win 1
 unfold Pr.win at h1 h2
 simp only [if_true] at h1
 rw [if_neg (by omega)] at h2
 have ha1 := ar_any win 16 w hw (by omega) (by omega)
 have hw2 : W.Is64 (win.tdiv 16) := is64_tdiv hw 16 (by omega)
 have hq : IntKind.i64.wrap (win.tdiv 16) = win.tdiv 16 := by unfold W.Is64 at hw2; rw [IntKind.wrap_i64]; omega
 have HW2 := Lib.hid hw2
 clear hw2
 generalize hx1 : K.ar win 16 = x1 at *
 generalize hx2 : K.ar (win.tdiv 16) 16 = x2 at *
 have HX1 := Lib.hid hx1; have HX2 := Lib.hid hx2
 clear hx1 hx2
 go_enter Try.func9, Try.ntmps9
 go_wp2_with fail
 refine ha1.mono ?_
 rintro e w1 ⟨rfl, rfl⟩
 clear ha1
 go_wp2_with fail
 refine (new_yes (1 + x1) key w h1.1 h1.2).mono ?_
 rintro e w1 ⟨b1, own1, rfl, hE1, k3, ho1⟩
 have ha2 := ar_any (win.tdiv 16) 16 w1 HW2.out (by omega) (by omega)
 rw [HX2.out] at ha2
 have HE1 := Lib.hid hE1; have k0 := Lib.hid k3; have HO1 := Lib.hid ho1
 clear hE1 k3 ho1
 go_wp2_with fail
 refine ha2.mono ?_
 rintro e w2 ⟨rfl, rfl⟩
 clear ha2
 go_wp2_with fail
 refine (new_yes (1 + x2) key w1 h2.1 h2.2).mono ?_
 rintro e w2 ⟨b2, own2, rfl, hE2, k1, ho2⟩
 have HEN : Hid (Ends w.heap.size [] w2 [(b2, K.E0 (1 + x2) key), (b1, K.E0 (1 + x1) key)]) := Lib.hid (by
  refine Ends.new (w := w1) (show Ends w.heap.size [] w1 [(b1, K.E0 (1 + x1) key)] from ⟨own1, HE1.out, fun x hx => ⟨HO1.out x hx, by simp⟩, fun k hk => HE1.out.lt k (by simpa using hk)⟩) hE2 k1 ho2 k0.out.size)
 have k2 := Lib.hid (Blw k0.out k1)
 clear hE2 k1 ho2 HE1 k0 HO1
 go_wp2
 go_ret
 refine ⟨_, fun k => if k = 0 then b1 else b2, rfl, Bx.at_ rfl, ?_, k2.out.alloc k2.out.size _, k2.out.size⟩
 have h := HEN.out.swap
 have e1 : Pr.win win 0 = 1 + x1 := by unfold Pr.win; rw [if_pos rfl, HX1.out]
 have e2 : Pr.win win 1 = 1 + x2 := by unfold Pr.win; rw [if_neg (by omega), HX2.out]
 show Ends _ _ _ [(b1, K.E0 (Pr.win win 0) key), (b2, K.E0 (Pr.win win 1) key)]
 rw [e1, e2]
 exact Ends.add h ((Below.refl _ _).alloc (Nat.le_refl _) _) (Nat.le_refl _) (by simp)
end Go.Proofs.Ytgdibcgphjmofaa
namespace Go.Proofs.Ytgdibcgphjmofaa
open Go.RowKit
set_option linter.unusedVariables false
def Pr.msg (i : Nat) : List UInt8 := [UInt8.ofNat i]
def Pr.Ms (n : Nat) : List (List UInt8) := (List.range n).map Pr.msg
/-- An end that has sent the messages M, of which ac are acknowledged, and delivered de ones, and holds none. -/
def Pr.S (win key : Int) (M : List (List UInt8)) (ac de : Nat) (ow : Bool) : K.E := ⟨win, key, M.drop ac, (ac : Int), (de : Int), fun _ => none, ow, 0, 0⟩
theorem Pr.Ms_len (n : Nat) : (Pr.Ms n).length = n := by simp [Pr.Ms]
theorem Pr.Ms_get {n i : Nat} (h : i < n) : (Pr.Ms n)[i]? = some (Pr.msg i) := by simp [Pr.Ms, List.getElem?_range h]
theorem Pr.Ms_succ (n : Nat) : Pr.Ms (n + 1) = Pr.Ms n ++ [Pr.msg n] := by simp [Pr.Ms, List.range_succ]
theorem Pr.ok {win key : Int} {m ac de : Nat} {ow : Bool} (h1 : 1 ≤ win) (h2 : win ≤ 16) (hk : 0 ≤ key ∧ key < 18446744073709551616) (hm : m ≤ 1000) (ha : ac ≤ 1000) (hd : de ≤ 1000) : K.ok (Pr.S win key (Pr.Ms m) ac de ow) := by
 refine ⟨h1, h2, by simp [Pr.S], ?_, by simp [Pr.S], ?_, by simp [Pr.S], by simp [Pr.S], ?_, ?_, by simp [Pr.S], hk⟩
 ·show (ac : Int) ≤ _; omega
 ·show (de : Int) ≤ _; omega
 ·show ((Pr.Ms m).drop ac).length ≤ _; rw [List.length_drop, Pr.Ms_len]; omega
 ·intro x hx
  have hx := List.mem_of_mem_drop hx
  simp only [Pr.Ms, List.mem_map] at hx
  obtain ⟨i, _, rfl⟩ := hx
  simp [Pr.msg]
def Pr.c (m ac : Nat) (win : Int) : Nat := min (m - ac) win.toNat
def Pr.pk (key : Int) (ac de i : Nat) : List UInt8 := K.sealed key (K.pk ((ac : Int) + (i : Int) + 1) (de : Int) (Pr.msg (ac + i)))
theorem Pr.out_ack {win key : Int} {m ac de : Nat} (hc : Pr.c m ac win = 0) : K.out (Pr.S win key (Pr.Ms m) ac de true) = [K.sealed key (K.pk 0 (de : Int) [])] := by
 unfold K.out
 rw [if_pos]
 ·rfl
 ·refine ⟨?_, rfl⟩
  unfold K.outN
  show min ((Pr.Ms m).drop ac).length win.toNat = 0
  rw [List.length_drop, Pr.Ms_len]
  exact hc
theorem Pr.out_msgs {win key : Int} {m ac de : Nat} {ow : Bool} (hc : 0 < Pr.c m ac win ∨ ow = false) : K.out (Pr.S win key (Pr.Ms m) ac de ow) = (List.range (Pr.c m ac win)).map (Pr.pk key ac de) := by
 have hN : K.outN (Pr.S win key (Pr.Ms m) ac de ow) = Pr.c m ac win := by
  unfold K.outN
  show min ((Pr.Ms m).drop ac).length win.toNat = _
  rw [List.length_drop, Pr.Ms_len]
  rfl
 unfold K.out
 rw [hN, if_neg]
 ·unfold K.outs
  refine List.map_congr_left fun i hi => ?_
  have hi : i < Pr.c m ac win := List.mem_range.1 hi
  unfold K.outF Pr.pk
  have : (Pr.S win key (Pr.Ms m) ac de ow).wait.getD i [] = Pr.msg (ac + i) := by
   show ((Pr.Ms m).drop ac).getD i [] = _
   rw [List.getD_eq_getElem?_getD, List.getElem?_drop, Pr.Ms_get (by unfold Pr.c at hi; omega)]
   rfl
  rw [this]
  rfl
 ·rintro ⟨h1, h2⟩
  have h2 : ow = true := h2
  rcases hc with h | h
  ·omega
  ·rw [h] at h2; cases h2
theorem Pr.ackd {win key : Int} {M : List (List UInt8)} {ac de q : Nat} {ow : Bool} : K.ackd (Pr.S win key M ac de ow) (q : Int) = Pr.S win key M (max ac q) de ow := by
 unfold K.ackd
 by_cases h : ac < q
 ·rw [if_pos (by show 0 < (q : Int) - (ac : Int); omega)]
  show K.E.mk win key ((M.drop ac).drop ((q : Int) - (ac : Int)).toNat) (q : Int) (de : Int) (fun _ => none) ow 0 0 = _
  rw [List.drop_drop, show max ac q = q by omega, show ac + ((q : Int) - (ac : Int)).toNat = q by omega]
  rfl
 ·rw [if_neg (by show ¬ 0 < (q : Int) - (ac : Int); omega), show max ac q = ac by omega]
theorem Pr.n64 (n : Nat) (h : n ≤ 1000000) : W.Is64 (n : Int) := i64 (by omega) (by omega)
theorem Pr.inn_ack {win key : Int} {M : List (List UInt8)} {ac de q : Nat} {ow : Bool} (hq : q ≤ M.length) (ha : ac ≤ M.length) (hM : M.length ≤ 1000000) : K.inn (Pr.S win key M ac de ow) (K.sealed key (K.pk 0 (q : Int) [])) = ([], 0, Pr.S win key M (max ac q) de ow) := by
 have h := K.inn_sealed (S := Pr.S win key M ac de ow) (p := 0) (q := (q : Int)) (s := []) (i64 (by omega) (by omega)) (Pr.n64 q (by omega)) ⟨by omega, by omega, by simp, by simp⟩
 refine (show K.inn (Pr.S win key M ac de ow) (K.sealed key (K.pk 0 (q : Int) [])) = _ from h).trans ?_
 unfold K.into
 rw [if_neg, if_pos rfl, Pr.ackd]
 show ¬ ((ac : Int) + ((M.drop ac).length : Int) < (q : Int) ∨ (de : Int) + 16 < 0)
 rw [List.length_drop]
 omega
theorem Pr.inn_msg {win key : Int} {M : List (List UInt8)} {ac de q : Nat} {ow : Bool} {p : Int} {s : List UInt8} (hp : p = (de : Int) + 1) (hd : de ≤ 100000) (hs : s.length ≤ 65536) (hq : q ≤ M.length) (ha : ac ≤ M.length) (hM : M.length ≤ 1000000) : K.inn (Pr.S win key M ac de ow) (K.sealed key (K.pk p (q : Int) s)) = ([s], 0, Pr.S win key M (max ac q) (de + 1) true) := by
 have h := K.inn_sealed (S := Pr.S win key M ac de ow) (p := p) (q := (q : Int)) (s := s) (i64 (by omega) (by omega)) (Pr.n64 q (by omega)) ⟨by omega, by omega, hs, by omega⟩
 refine (show K.inn (Pr.S win key M ac de ow) (K.sealed key (K.pk p (q : Int) s)) = _ from h).trans ?_
 unfold K.into
 rw [if_neg, if_neg (by omega), Pr.ackd]
 ·have e : K.put (Pr.S win key M (max ac q) de ow) p s = ⟨win, key, M.drop (max ac q), ((max ac q : Nat) : Int), (de : Int), fun k => if k = p then some s else none, true, 0, 1⟩ := by
   unfold K.put
   rw [if_pos ⟨by show (de : Int) < p; omega, rfl⟩]
   rfl
  rw [e]
  have hd := K.dlv_some (n := 0) (S := ⟨win, key, M.drop (max ac q), ((max ac q : Nat) : Int), (de : Int), fun k => if k = p then some s else none, true, 0, 1⟩) (l := s) (by show (if (de : Int) + 1 = p then some s else none) = some s; rw [if_pos hp.symm])
  show ((K.dlv (0 + 1) ⟨win, key, M.drop (max ac q), ((max ac q : Nat) : Int), (de : Int), fun k => if k = p then some s else none, true, 0, 1⟩).1, (0 : Int), (K.dlv (0 + 1) ⟨win, key, M.drop (max ac q), ((max ac q : Nat) : Int), (de : Int), fun k => if k = p then some s else none, true, 0, 1⟩).2) = _
  rw [hd]
  have hf : (fun k : Int => if k = (de : Int) + 1 then none else if k = p then some s else none) = fun _ => (none : Option (List UInt8)) := by
   funext k
   by_cases hk : k = (de : Int) + 1
   ·rw [if_pos hk]
   ·rw [if_neg hk, if_neg (by rw [hp]; exact hk)]
  have h2 : Pr.S win key M (max ac q) (de + 1) true = ⟨win, key, M.drop (max ac q), ((max ac q : Nat) : Int), (de : Int) + 1, fun k : Int => if k = (de : Int) + 1 then none else if k = p then some s else none, true, 0, 0⟩ := by rw [hf]; rfl
  rw [h2]
  rfl
 ·show ¬ ((ac : Int) + ((M.drop ac).length : Int) < (q : Int) ∨ (de : Int) + 16 < p)
  rw [List.length_drop]
  omega
/-- The end that takes the packets, behind i of them. -/
def Pr.R (win key : Int) (m ac' de de' c : Nat) (ow' : Bool) (i : Nat) : K.E := Pr.S win key (Pr.Ms m) (if i = 0 then ac' else de) (de' + min i c) (ow' || (decide (0 < i) && decide (0 < c)))
theorem Pr.phase {win win' key : Int} {m m' ac ac' de de' : Nat} {ow ow' : Bool} {i : Nat} (hi : i < (K.out (Pr.S win key (Pr.Ms m) ac de ow)).length) (ha : ac = de') (h1 : ac ≤ m) (h2 : ac' ≤ de) (h3 : de ≤ m') (h4 : m ≤ 31) (h5 : m' ≤ 31) :
  ∃ P ms, (K.out (Pr.S win key (Pr.Ms m) ac de ow))[i]? = some P ∧ P.length ≤ 1000000000000 ∧ K.inn (Pr.R win' key m' ac' de de' (Pr.c m ac win) ow' i) P = (ms, 0, Pr.R win' key m' ac' de de' (Pr.c m ac win) ow' (i + 1)) ∧
   ((ms = [] ∧ min i (Pr.c m ac win) = min (i + 1) (Pr.c m ac win)) ∨ (ms = [Pr.msg (de' + min i (Pr.c m ac win))] ∧ de' + min i (Pr.c m ac win) < m ∧ min (i + 1) (Pr.c m ac win) = min i (Pr.c m ac win) + 1)) := by
 have hlen : ∀ (a b : Int) (l : List UInt8), l.length ≤ 65536 → (K.sealed key (K.pk a b l)).length ≤ 1000000000000 := fun a b l h => by
  have := K.pk_len a b l h
  unfold K.sealed
  rw [List.length_append, K.seal8_len]
  omega
 have hm : (if i = 0 then ac' else de) ≤ m' := by split <;> omega
 have hx : max (if i = 0 then ac' else de) de = de := by split <;> omega
 by_cases hc : 0 < Pr.c m ac win ∨ ow = false
 ·rw [Pr.out_msgs hc] at hi ⊢
  rw [List.length_map, List.length_range] at hi
  have hmin : min i (Pr.c m ac win) = i := by omega
  have hmin2 : min (i + 1) (Pr.c m ac win) = i + 1 := by omega
  have hcm : Pr.c m ac win ≤ m - ac := by unfold Pr.c; omega
  refine ⟨Pr.pk key ac de i, [Pr.msg (de' + i)], by rw [List.getElem?_map, List.getElem?_range hi]; rfl, hlen _ _ _ (by simp [Pr.msg]), ?_, .inr ⟨by rw [hmin], by omega, by omega⟩⟩
  unfold Pr.R Pr.pk
  rw [hmin, hmin2, ha]
  rw [Pr.inn_msg (by omega) (by omega) (by simp [Pr.msg]) (by rw [Pr.Ms_len]; exact h3) (by rw [Pr.Ms_len]; exact hm) (by rw [Pr.Ms_len]; omega), hx]
  rw [if_neg (by omega), decide_eq_true (show 0 < i + 1 by omega), decide_eq_true (show 0 < Pr.c m de' win by rw [← ha]; omega)]
  simp [Nat.add_assoc]
 ·have h0 : Pr.c m ac win = 0 := by
   rcases Nat.eq_zero_or_pos (Pr.c m ac win) with h | h
   ·exact h
   ·exact absurd (.inl h) hc
  have hw : ow = true := by
   cases ow
   ·exact absurd (.inr rfl) hc
   ·rfl
  subst hw
  rw [Pr.out_ack h0] at hi ⊢
  obtain rfl : i = 0 := by simpa using hi
  refine ⟨_, [], rfl, hlen _ _ _ (by simp), ?_, .inl ⟨rfl, by rw [h0]; rfl⟩⟩
  unfold Pr.R
  rw [Pr.inn_ack (by rw [Pr.Ms_len]; exact h3) (by rw [Pr.Ms_len]; exact hm) (by rw [Pr.Ms_len]; omega), hx, h0]
  simp
/-- Both ends. -/
def Pr.F (wf : Nat → Int) (key : Int) (m ac de : Nat → Nat) (ow : Nat → Bool) : Nat → K.E := fun k => Pr.S (wf k) key (Pr.Ms (m k)) (ac k) (de k) (ow k)
def Pr.G (wf : Nat → Int) (key : Int) (m ac de : Nat → Nat) (ow : Nat → Bool) (k c i : Nat) : Nat → K.E := fun j => if j = k then Pr.S (wf k) key (Pr.Ms (m k)) (ac k) (de k) false else Pr.R (wf (1 - k)) key (m (1 - k)) (ac (1 - k)) (de k) (de (1 - k)) c (ow (1 - k)) i
structure Pr.J (m ac de : Nat → Nat) (ow : Nat → Bool) (k : Nat) : Prop where
 a : ac k = de (1 - k)
 b : ac (1 - k) = de k ∨ ow k = true
 c : ac k ≤ m k
 d : ac (1 - k) ≤ de k
 e : de k ≤ m (1 - k)
def Pr.I (m ac de : Nat → Nat) (ow : Nat → Bool) (r : Nat) : Nat → Prop
 | 0 => Pr.J m ac de ow 0 ∧ min (m 0) r ≤ de 1 ∧ min (m 1) r ≤ de 0 ∧ min (m 1) (r - 1) ≤ ac 1
 | 1 => Pr.J m ac de ow 1 ∧ min (m 0) (r + 1) ≤ de 1 ∧ min (m 1) r ≤ de 0
 | _ => Pr.J m ac de ow 0 ∧ min (m 0) (r + 1) ≤ de 1 ∧ min (m 1) (r + 1) ≤ de 0 ∧ min (m 1) r ≤ ac 1
theorem Pr.I_j {m ac de : Nat → Nat} {ow : Nat → Bool} {r k : Nat} (hk : k < 2) (h : Pr.I m ac de ow r k) : Pr.J m ac de ow k := by
 match k, hk with
 | 0, _ => exact h.1
 | 1, _ => exact h.1
theorem Pr.G0 {wf : Nat → Int} {key : Int} {m ac de : Nat → Nat} {ow : Nat → Bool} {k c : Nat} (hk : k < 2) : ∀ j, j < 2 → K.upd (Pr.F wf key m ac de ow) k { Pr.F wf key m ac de ow k with owing := false } j = Pr.G wf key m ac de ow k c 0 j := by
 intro j hj
 unfold K.upd Pr.G
 by_cases h : j = k
 ·rw [if_pos h, if_pos h]; rfl
 ·rw [if_neg h, if_neg h]
  obtain rfl : j = 1 - k := by omega
  unfold Pr.F Pr.R
  simp
theorem Pr.G1 {wf : Nat → Int} {key : Int} {m ac de : Nat → Nat} {ow : Nat → Bool} {k c i : Nat} (hk : k < 2) : ∀ j, j < 2 → K.upd (Pr.G wf key m ac de ow k c i) (1 - k) (Pr.R (wf (1 - k)) key (m (1 - k)) (ac (1 - k)) (de k) (de (1 - k)) c (ow (1 - k)) (i + 1)) j = Pr.G wf key m ac de ow k c (i + 1) j := by
 intro j hj
 unfold K.upd Pr.G
 by_cases h : j = 1 - k
 ·rw [if_pos h, if_neg (by omega)]
 ·rw [if_neg h, if_pos (by omega), if_pos (by omega)]
theorem Pr.after {wf : Nat → Int} {key : Int} {m ac de : Nat → Nat} {ow : Nat → Bool} {r k : Nat} (hk : k < 2) (hw : 1 ≤ wf k) (h : Pr.I m ac de ow r k) :
  ∃ ac' de' ow', (∀ j, j < 2 → Pr.G wf key m ac de ow k (Pr.c (m k) (ac k) (wf k)) (K.out (Pr.F wf key m ac de ow k)).length j = Pr.F wf key m ac' de' ow' j) ∧ Pr.I m ac' de' ow' r (k + 1) ∧ de' = K.upd de (1 - k) (de (1 - k) + min (K.out (Pr.F wf key m ac de ow k)).length (Pr.c (m k) (ac k) (wf k))) := by
 have hj := Pr.I_j hk h
 obtain ⟨c, hc⟩ : ∃ c, c = Pr.c (m k) (ac k) (wf k) := ⟨_, rfl⟩
 have hcm : c ≤ m k - ac k := by rw [hc]; unfold Pr.c; omega
 have k0 : ac k < m k → 1 ≤ c := by intro h; rw [hc]; unfold Pr.c; omega
 obtain ⟨pa, hpa⟩ : ∃ pa, pa = (K.out (Pr.F wf key m ac de ow k)).length := ⟨_, rfl⟩
 have hp : (0 < c ∧ pa = c) ∨ (c = 0 ∧ ow k = true ∧ pa = 1) ∨ (c = 0 ∧ ow k = false ∧ pa = 0) := by
  by_cases h0 : 0 < c
  ·left
   refine ⟨h0, ?_⟩
   rw [hpa]
   unfold Pr.F
   rw [Pr.out_msgs (.inl (by rw [← hc]; exact h0)), List.length_map, List.length_range, ← hc]
  ·right
   cases ho : ow k
   ·right
    refine ⟨by omega, rfl, ?_⟩
    rw [hpa]
    unfold Pr.F
    rw [Pr.out_msgs (.inr ho), List.length_map, List.length_range, ← hc]
    omega
   ·left
    refine ⟨by omega, rfl, ?_⟩
    rw [hpa]
    unfold Pr.F
    rw [ho, Pr.out_ack (by rw [← hc]; omega)]
    rfl
 rw [← hc, ← hpa]
 have hmin : min pa c = c := by omega
 refine ⟨K.upd ac (1 - k) (if pa = 0 then ac (1 - k) else de k), K.upd de (1 - k) (de (1 - k) + c), K.upd (K.upd ow k false) (1 - k) (ow (1 - k) || (decide (0 < pa) && decide (0 < c))), fun j hj2 => ?_, ?_, by rw [hmin]⟩
 ·unfold Pr.G Pr.F K.upd
  by_cases h : j = k
  ·have h3 : ¬ k = 1 - k := by omega
   subst h
   rw [if_pos rfl, if_neg h3, if_neg h3, if_neg h3, if_pos rfl]
  ·obtain rfl : j = 1 - k := by omega
   rw [if_neg h, if_pos rfl, if_pos rfl, if_pos rfl]
   unfold Pr.R
   rw [hmin]
 ·obtain ⟨ja, jb, jc, jd, je⟩ := hj
  have hac : (if pa = 0 then ac (1 - k) else de k) = de k := by
   split
   ·rcases jb with h | h
    ·exact h
    ·rcases hp with ⟨h1, h2⟩ | ⟨h1, h2, h3⟩ | ⟨h1, h2, h3⟩
     ·omega
     ·omega
     ·rw [h] at h2; cases h2
   ·rfl
  rw [hac]
  have how : c = 0 ∨ (ow (1 - k) || (decide (0 < pa) && decide (0 < c))) = true := by
   by_cases h0 : c = 0
   ·exact .inl h0
   ·right
    rw [decide_eq_true (show 0 < pa by omega), decide_eq_true (show 0 < c by omega)]
    simp
  generalize (ow (1 - k) || (decide (0 < pa) && decide (0 < c))) = o2 at how
  match k, hk with
  | 0, _ =>
   simp only [Nat.sub_zero] at *
   obtain ⟨-, h1, h2, h3⟩ := h
   refine ⟨⟨?_, ?_, ?_, ?_, ?_⟩, ?_, ?_⟩ <;> simp only [K.upd, Nat.sub_self, if_true, Nat.zero_ne_one, Nat.one_ne_zero, if_false]
   ·rcases how with h | h
    ·left; omega
    ·exact .inr h
   ·omega
   ·omega
   ·omega
   ·omega
   ·omega
  | 1, _ =>
   simp only [Nat.sub_self] at *
   obtain ⟨-, h1, h2⟩ := h
   refine ⟨⟨?_, ?_, ?_, ?_, ?_⟩, ?_, ?_, ?_⟩ <;> simp only [K.upd, Nat.sub_zero, if_true, Nat.zero_ne_one, Nat.one_ne_zero, if_false]
   ·rcases how with h | h
    ·left; omega
    ·exact .inr h
   ·omega
   ·omega
   ·omega
   ·omega
   ·omega
   ·omega
theorem Pr.I0 (m : Nat → Nat) : Pr.I m (fun _ => 0) (fun _ => 0) (fun _ => false) 0 0 := ⟨⟨rfl, .inl rfl, Nat.zero_le _, Nat.zero_le _, Nat.zero_le _⟩, by omega, by omega, by omega⟩
theorem Pr.Inext {m ac de : Nat → Nat} {ow : Nat → Bool} {r : Nat} (h : Pr.I m ac de ow r 2) : Pr.I m ac de ow (r + 1) 0 := h
theorem Pr.Iend {m ac de : Nat → Nat} {ow : Nat → Bool} {r : Nat} (h : Pr.I m ac de ow r 0) (hr : m 0 < r ∧ m 1 < r) : de 1 = m 0 ∧ de 0 = m 1 ∧ ac 0 = m 0 ∧ ac 1 = m 1 := by
 obtain ⟨⟨a, b, c, d, e⟩, h1, h2, h3⟩ := h
 simp only [Nat.sub_zero] at a b c d e
 omega
end Go.Proofs.Ytgdibcgphjmofaa
namespace Go.Proofs.Ytgdibcgphjmofaa
open Go.RowKit
open Go.Maps
set_option linter.unusedVariables false
theorem two_get {f : Nat → Value} {k : Nat} (h : k < 2) : [f 0, f 1][k]? = some (f k) := by
 match k, h with
 | 0, _ => rfl
 | 1, _ => rfl
def iv (f : Nat → Nat) (k : Nat) : Value := .int .i64 (f k : Int)
theorem iv_set {f : Nat → Nat} {k y : Nat} (h : k < 2) : [iv f 0, iv f 1].set k (.int .i64 (y : Int)) = [iv (K.upd f k y) 0, iv (K.upd f k y) 1] := by
 match k, h with
 | 0, _ => rfl
 | 1, _ => rfl
def pv (f : Nat → Nat) (k : Nat) : Value := .pointer (some ⟨f k, 0, none⟩)
/-- A pair of a value and an error. -/
def STup (Q : Sp) (e : Int) : Sp := fun w v => ∃ u, v = .tuple #[u, .int .i64 e] ∧ Q w u
theorem STup.mono {Q : Sp} (e : Int) (h : Mono Q) : Mono (STup Q e) := fun _ _ _ ⟨u, h1, h2⟩ hb => ⟨u, h1, h _ _ _ h2 hb⟩
section
variable {o : Oper} {a : Act} {wx : World} {x : Operand} {Q : Sp} {e : Int}
theorem op_tx0 (ho : o.op = .extract x 0) (h : STup Q e wx (a.eval x)) : Does Try.prog o Q false a wx := by
 obtain ⟨u, e1, hu⟩ := h
 have : ∀ ρ : Operand → Value, ρ x = .tuple #[u, .int .i64 e] → (execOp ρ o).run Try.prog wx = .ok (.value u) wx := by
  intro ρ e; simp [execOp, ho, e, go_sem]
 exact Does.val (this _ e1) hu
theorem op_tx1 (ho : o.op = .extract x 1) (h : STup Q e wx (a.eval x)) : Does Try.prog o (SC (.int .i64 e)) false a wx := by
 obtain ⟨u, e1, hu⟩ := h
 have : ∀ ρ : Operand → Value, ρ x = .tuple #[u, .int .i64 e] → (execOp ρ o).run Try.prog wx = .ok (.value (.int .i64 e)) wx := by
  intro ρ e; simp [execOp, ho, e, go_sem]
 exact Does.val (this _ e1) rfl
theorem DoesT.ru {T : World → World → Prop} {f : FuncId} {args : Array Value} (hr : (execOp a.eval o).run Try.prog wx = .ok (.enter f args) wx) (hc : Calls Try.prog f args wx fun e w' => ∃ v, e = .returned v ∧ T wx w' ∧ Q w' v) : DoesT T Try.prog o Q false a wx :=
 .inr ⟨rfl, f, args, hr, hc⟩
end
/-- The messages that In delivers, and the two ends behind it. -/
def SIn (B0 B : Nat) (ks : List Nat) (w0 : World) (ef : Nat → Nat) (Sf : Nat → K.E) (ms : List (List UInt8)) : Sp := fun w u => RowV B0 w u ms ∧ E2 B (u.ownBlock.toList ++ ks) w ef Sf ∧ KT B ks w0 w
theorem SIn.mono (B0 B : Nat) (ks : List Nat) (w0 : World) (ef : Nat → Nat) (Sf : Nat → K.E) (ms : List (List UInt8)) : Mono (SIn B0 B ks w0 ef Sf ms) := fun _ _ _ ⟨h1, h2, h3⟩ hb => ⟨h1.below hb, h2.below hb, h3.trans (KT.of hb)⟩
theorem rem2 (i : Nat) : Int.tmod (i : Int) 2 = ((i % 2 : Nat) : Int) := by
 rw [Int.tmod_eq_emod_of_nonneg (by omega)]; omega
theorem upd_0 (f : Nat → Nat) (k : Nat) : K.upd f k (f k + 0) = f := by
 funext j
 unfold K.upd
 split
 ·rename_i h; rw [h]; rfl
 ·rfl
theorem upd_eq (f : Nat → Nat) (k y : Nat) : K.upd f k y k = y := by unfold K.upd; rw [if_pos rfl]
theorem upd_upd (f : Nat → Nat) (k x y : Nat) : K.upd (K.upd f k x) k y = K.upd f k y := by
 funext j
 unfold K.upd
 split <;> rfl
theorem byte31 {i : Nat} (h : i < 31) : ((UInt8.ofNat i).toNat : Int) = (i : Int) := by rw [UInt8.toNat_ofNat']; omega
end Go.Proofs.Ytgdibcgphjmofaa
