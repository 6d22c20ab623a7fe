/-
 APPENDS onto rows of messages and of numbers; what holds in LinkOrder's loop.
-/
import Derived.Test.YtgdibcgphjmofaaLnkT2
namespace Go.Proofs.Ytgdibcgphjmofaa
open Go.RowKit
set_option linter.unusedVariables false
/-- An end that sent M, of which ac are acknowledged, and delivered de of the other's M'; the other delivered de' of M. -/
structure Or.End (M M' : List (List UInt8)) (ac de de' : Nat) (S : K.E) : Prop where
 w : S.wait = M.drop ac
 a : S.acked = (ac : Int)
 d : S.del = (de : Int)
 a1 : ac ≤ de'
 a2 : de' ≤ M.length
 d2 : de ≤ M'.length
 h : ∀ (i : Int) (l : List UInt8), S.held i = some l → ∃ n : Nat, i = ((n + 1 : Nat) : Int) ∧ M'[n]? = some l
 f : S.forged = 0
/-- A packet of an end that sent M and delivered de or more. -/
def Or.Pk (key : Int) (M : List (List UInt8)) (de : Nat) (P : List UInt8) : Prop := ∃ (p q : Nat) (s : List UInt8), P = K.sealed key (K.pk (p : Int) (q : Int) s) ∧ q ≤ de ∧ p ≤ 100000 ∧ de ≤ 100000 ∧ s.length ≤ 65536 ∧ ((p = 0 ∧ s = []) ∨ ∃ n, p = n + 1 ∧ M[n]? = some s)
theorem getElem?_prefix {α : Type} {M X : List α} {n : Nat} {s : α} (h : M[n]? = some s) : (M ++ X)[n]? = some s := by
 rw [List.getElem?_append_left (List.getElem?_eq_some_iff.1 h).1]; exact h
theorem Or.Pk.mono {key : Int} {M X : List (List UInt8)} {de de2 : Nat} {P : List UInt8} (h : Or.Pk key M de P) (hd : de ≤ de2) (hd2 : de2 ≤ 100000) : Or.Pk key (M ++ X) de2 P := by
 obtain ⟨p, q, s, h1, h2, h3, h4, h5, h6⟩ := h
 refine ⟨p, q, s, h1, by omega, h3, hd2, h5, ?_⟩
 rcases h6 with h | ⟨n, h7, h8⟩
 ·exact .inl h
 ·exact .inr ⟨n, h7, getElem?_prefix h8⟩
theorem Or.Pk.mono0 {key : Int} {M : List (List UInt8)} {de de2 : Nat} {P : List UInt8} (h : Or.Pk key M de P) (hd : de ≤ de2) (hd2 : de2 ≤ 100000) : Or.Pk key M de2 P := by
 have := h.mono (X := []) hd hd2
 rwa [List.append_nil] at this
theorem Or.Pk.len {key : Int} {M : List (List UInt8)} {de : Nat} {P : List UInt8} (h : Or.Pk key M de P) : P.length ≤ 1000000000000 := by
 obtain ⟨p, q, s, rfl, -, -, -, h5, -⟩ := h
 have := K.pk_len p q s h5
 unfold K.sealed
 rw [List.length_append, K.seal8_len]
 omega
/-- What deliver does, where the held messages are the other's. -/
theorem Or.dlv {M' : List (List UInt8)} : ∀ (n : Nat) (S : K.E) (de : Nat), S.del = (de : Int) → de ≤ M'.length → (∀ (i : Int) (l : List UInt8), S.held i = some l → ∃ n : Nat, i = ((n + 1 : Nat) : Int) ∧ M'[n]? = some l) →
  ∃ k, (K.dlv n S).1.length = k ∧ de + k ≤ M'.length ∧ (∀ j, j < k → (K.dlv n S).1[j]? = M'[de + j]?) ∧ (K.dlv n S).2.del = ((de + k : Nat) : Int) ∧ (∀ (i : Int) (l : List UInt8), (K.dlv n S).2.held i = some l → ∃ n : Nat, i = ((n + 1 : Nat) : Int) ∧ M'[n]? = some l) ∧
   (K.dlv n S).2.wait = S.wait ∧ (K.dlv n S).2.acked = S.acked ∧ (K.dlv n S).2.win = S.win ∧ (K.dlv n S).2.key = S.key ∧ (K.dlv n S).2.forged = S.forged ∧ (K.dlv n S).2.cnt ≤ S.cnt
 | 0, S, de, hd, hl, hh => ⟨0, rfl, hl, fun j hj => absurd hj (by omega), hd, hh, rfl, rfl, rfl, rfl, rfl, Nat.le_refl _⟩
 | n + 1, S, de, hd, hl, hh => by
  cases hs : S.held (S.del + 1) with
  | none =>
   rw [K.dlv_none hs]
   exact ⟨0, rfl, hl, fun j hj => absurd hj (by omega), hd, hh, rfl, rfl, rfl, rfl, rfl, Nat.le_refl _⟩
  | some l =>
   rw [K.dlv_some hs]
   obtain ⟨n1, h1, h2⟩ := hh _ _ hs
   have hn1 : n1 = de := by omega
   subst hn1
   have hlt := (List.getElem?_eq_some_iff.1 h2).1
   obtain ⟨k, g1, g2, g3, g4, g5, g6, g7, g8, g9, g10, g11⟩ := Or.dlv (M' := M') n { S with del := S.del + 1, held := fun k => if k = S.del + 1 then none else S.held k, cnt := S.cnt - 1 } (n1 + 1) (by show S.del + 1 = _; omega) (by omega) (fun i l hi => by
    have hi : (if i = S.del + 1 then none else S.held i) = some l := hi
    split at hi
    ·cases hi
    ·exact hh i l hi)
   refine ⟨k + 1, by simp [g1], by omega, fun j hj => ?_, by rw [g4]; congr 1; omega, g5, g6, g7, g8, g9, g10, by have : (K.dlv n { S with del := S.del + 1, held := fun k => if k = S.del + 1 then none else S.held k, cnt := S.cnt - 1 }).2.cnt ≤ S.cnt - 1 := g11; show (K.dlv n _).2.cnt ≤ S.cnt; omega⟩
   cases j with
   | zero => rw [Nat.add_zero, h2]; rfl
   | succ j =>
    rw [List.getElem?_cons_succ, g3 j (by omega)]
    congr 1
    omega
theorem Or.ackd {M M' : List (List UInt8)} {ac de de' q : Nat} {S : K.E} (h : Or.End M M' ac de de' S) (hq : q ≤ de') : Or.End M M' (max ac q) de de' (K.ackd S (q : Int)) ∧ (K.ackd S (q : Int)).win = S.win ∧ (K.ackd S (q : Int)).key = S.key ∧ (K.ackd S (q : Int)).cnt = S.cnt := by
 unfold K.ackd
 obtain ⟨w, a, d, a1, a2, d2, hh, f⟩ := h
 by_cases hc : ac < q
 ·rw [if_pos (by rw [a]; omega)]
  refine ⟨⟨?_, ?_, d, by omega, a2, d2, hh, f⟩, rfl, rfl, rfl⟩
  ·show S.wait.drop ((q : Int) - S.acked).toNat = _
   rw [w, a, List.drop_drop]
   congr 1
   omega
  ·show (q : Int) = _
   omega
 ·rw [if_neg (by rw [a]; omega)]
  refine ⟨⟨?_, ?_, d, by omega, a2, d2, hh, f⟩, rfl, rfl, rfl⟩
  ·rw [w]; congr 1; omega
  ·rw [a]; congr 1; omega
theorem Or.inn {M M' : List (List UInt8)} {ac de de' : Nat} {S : K.E} {P : List UInt8} (h : Or.End M M' ac de de' S) (hp : Or.Pk S.key M' de' P) :
  ∃ ms ac2 S', K.inn S P = (ms, 0, S') ∧ de + ms.length ≤ M'.length ∧ (∀ j, j < ms.length → ms[j]? = M'[de + j]?) ∧ Or.End M M' ac2 (de + ms.length) de' S' ∧ S'.win = S.win ∧ S'.key = S.key ∧ S'.cnt ≤ S.cnt + 1 := by
 obtain ⟨p, q, s, rfl, hq, hpb, hdb, hs, hps⟩ := hp
 have hok : K.okP (p : Int) (q : Int) s.length := ⟨by omega, by omega, hs, by
  rcases hps with ⟨h1, h2⟩ | ⟨n, h1, _⟩
  ·right; rw [h2]; rfl
  ·left; omega⟩
 rw [K.inn_sealed (i64 (by omega) (by omega)) (i64 (by omega) (by omega)) hok]
 have hl : S.acked + (S.wait.length : Int) = (M.length : Int) := by
  rw [h.a, h.w, List.length_drop]
  have := h.a1; have := h.a2
  omega
 unfold K.into
 by_cases hfar : S.del + 16 < (p : Int)
 ·rw [if_pos (.inr hfar)]
  exact ⟨[], ac, S, rfl, by simpa using h.d2, fun j hj => by simp at hj, by simpa using h, rfl, rfl, by omega⟩
 ·have hq2 := h.a2
  rw [if_neg (by rw [hl]; rintro (h1 | h1); omega; exact hfar h1)]
  obtain ⟨h1, h2, h3, h4⟩ := Or.ackd h hq
  rcases hps with ⟨h5, h6⟩ | ⟨n, h5, h6⟩
  ·rw [if_pos (by omega)]
   exact ⟨[], _, _, rfl, by simpa using h.d2, fun j hj => by simp at hj, by simpa using h1, h2, h3, by omega⟩
  ·rw [if_neg (by omega)]
   have hput : ∀ T : K.E, Or.End M M' (max ac q) de de' T → Or.End M M' (max ac q) de de' (K.put T (p : Int) s) ∧ (K.put T (p : Int) s).win = T.win ∧ (K.put T (p : Int) s).key = T.key ∧ (K.put T (p : Int) s).cnt ≤ T.cnt + 1 := by
    intro T hT
    obtain ⟨w, a, d, a1, a2, d2, hh, f⟩ := hT
    unfold K.put
    split
    ·refine ⟨⟨w, a, d, a1, a2, d2, fun i l hi => ?_, f⟩, rfl, rfl, Nat.le_refl _⟩
     have hi : (if i = (p : Int) then some s else T.held i) = some l := hi
     split at hi
     ·rename_i hip
      injection hi with hi
      exact ⟨n, by omega, by rw [← hi]; exact h6⟩
     ·exact hh i l hi
    ·exact ⟨⟨w, a, d, a1, a2, d2, hh, f⟩, rfl, rfl, by show T.cnt ≤ _; omega⟩
   obtain ⟨g1, g2, g3, g4⟩ := hput _ h1
   generalize K.put (K.ackd S (q : Int)) (p : Int) s = T at g1 g2 g3 g4
   obtain ⟨k, e1, e2, e3, e4, e5, e6, e7, e8, e9, e10, e11⟩ := Or.dlv T.cnt T de g1.d g1.d2 g1.h
   refine ⟨(K.dlv T.cnt T).1, max ac q, (K.dlv T.cnt T).2, rfl, by rw [e1]; exact e2, fun j hj => e3 j (by omega), ?_, by rw [e8, g2, h2], by rw [e9, g3, h3], by omega⟩
   rw [e1]
   exact ⟨by rw [e6]; exact g1.w, by rw [e7]; exact g1.a, e4, g1.a1, g1.a2, e2, e5, by rw [e10]; exact g1.f⟩
theorem Or.out {M M' : List (List UInt8)} {ac de de' : Nat} {S : K.E} (h : Or.End M M' ac de de' S) (hM : M.length ≤ 1000) (hl : ∀ x ∈ M, x.length ≤ 65536) (hd : de ≤ 100000) : ∀ P ∈ K.out S, Or.Pk S.key M de P := by
 intro P hP
 unfold K.out at hP
 split at hP
 ·simp at hP
  refine ⟨0, de, [], ?_, Nat.le_refl _, by omega, hd, by simp, .inl ⟨rfl, rfl⟩⟩
  rw [hP, h.d]
  rfl
 ·unfold K.outs at hP
  obtain ⟨i, hi, rfl⟩ := List.mem_map.1 hP
  have hi := List.mem_range.1 hi
  have hi2 : i < (M.drop ac).length := by unfold K.outN at hi; rw [h.w] at hi; omega
  rw [List.length_drop] at hi2
  obtain ⟨s, hs⟩ : ∃ s, M[ac + i]? = some s := ⟨_, List.getElem?_eq_getElem (by omega)⟩
  refine ⟨ac + i + 1, de, s, ?_, Nat.le_refl _, by omega, hd, hl s (List.mem_of_getElem? hs), .inr ⟨ac + i, rfl, hs⟩⟩
  unfold K.outF
  rw [h.w, h.a, h.d, List.getD_eq_getElem?_getD, List.getElem?_drop, hs]
  rfl
theorem Or.owing {M M' : List (List UInt8)} {ac de de' : Nat} {S : K.E} (h : Or.End M M' ac de de' S) : Or.End M M' ac de de' { S with owing := false } := ⟨h.w, h.a, h.d, h.a1, h.a2, h.d2, h.h, h.f⟩
theorem Or.send {M M' : List (List UInt8)} {ac de de' : Nat} {S : K.E} (h : Or.End M M' ac de de' S) (b : List UInt8) : Or.End (M ++ [b]) M' ac de de' { S with wait := S.wait ++ [b] } := by
 refine ⟨?_, h.a, h.d, h.a1, by have := h.a2; rw [List.length_append]; omega, h.d2, h.h, h.f⟩
 show S.wait ++ [b] = _
 rw [h.w, List.drop_append_of_le_length (by have := h.a1; have := h.a2; omega)]
theorem Or.more {M M' : List (List UInt8)} {ac de de' : Nat} {S : K.E} (h : Or.End M M' ac de de' S) (b : List UInt8) : Or.End M (M' ++ [b]) ac de de' S := by
 refine ⟨h.w, h.a, h.d, h.a1, h.a2, by have := h.d2; rw [List.length_append]; omega, fun i l hi => ?_, h.f⟩
 obtain ⟨n, h1, h2⟩ := h.h i l hi
 exact ⟨n, h1, getElem?_prefix h2⟩
theorem Or.ok {M M' : List (List UInt8)} {ac de de' : Nat} {S : K.E} (h : Or.End M M' ac de de' S) (hw : 1 ≤ S.win ∧ S.win ≤ 16) (hk : 0 ≤ S.key ∧ S.key < 18446744073709551616) (hM : M.length ≤ 1000) (hM' : M'.length ≤ 1000) (hl : ∀ x ∈ M, x.length ≤ 65536) (hc : S.cnt ≤ 1000) : K.ok S := by
 obtain ⟨w, a, d, a1, a2, d2, hh, f⟩ := h
 refine ⟨hw.1, hw.2, by omega, by omega, by omega, by omega, by omega, by omega, by rw [w, List.length_drop]; omega, fun x hx => hl x (List.mem_of_mem_drop (by rw [w] at hx; exact hx)), by omega, hk⟩
end Go.Proofs.Ytgdibcgphjmofaa
namespace Go.Proofs.Ytgdibcgphjmofaa
open Go.RowKit
open Go.Maps
set_option linter.unusedVariables false
def ob (v : Value) : List Nat := v.ownBlock.toList
theorem mem_ob {v : Value} {k : Nat} : k ∈ ob v ↔ v.ownBlock = some k := by simp [ob]
theorem ob_nodup (v : Value) : (ob v).Nodup := by unfold ob; cases v.ownBlock <;> simp
theorem nodup_mem {L1 o L2 : List Nat} (h : (L1 ++ (o ++ L2)).Nodup) {x : Nat} (hx : x ∈ o) : x ∉ L1 ∧ x ∉ L2 := by
 rw [List.nodup_append] at h
 obtain ⟨_, h2, h3⟩ := h
 rw [List.nodup_append] at h2
 obtain ⟨_, _, h4⟩ := h2
 exact ⟨fun e => h3 x e x (List.mem_append.2 (.inl hx)) rfl, fun e => h4 x hx x e rfl⟩
theorem nodup_new {L1 o o' L2 : List Nat} {n : Nat} (h : (L1 ++ (o ++ L2)).Nodup) (ho : o'.Nodup) (hn : ∀ x ∈ o', x ∈ o ∨ n ≤ x) (hl : ∀ x ∈ L1 ++ (o ++ L2), x < n) : (L1 ++ (o' ++ L2)).Nodup := by
 have h0 := h
 rw [List.nodup_append] at h
 obtain ⟨h1, h2, h3⟩ := h
 rw [List.nodup_append] at h2
 obtain ⟨_, h5, h4⟩ := h2
 have key : ∀ x ∈ o', x ∉ L1 ∧ x ∉ L2 := fun x hx => by
  rcases hn x hx with h | h
  ·exact nodup_mem h0 h
  ·refine ⟨fun e => ?_, fun e => ?_⟩
   ·have := hl x (List.mem_append.2 (.inl e)); omega
   ·have := hl x (List.mem_append.2 (.inr (List.mem_append.2 (.inr e)))); omega
 rw [List.nodup_append]
 refine ⟨h1, ?_, fun a ha b hb e => ?_⟩
 ·rw [List.nodup_append]
  exact ⟨ho, h5, fun a ha b hb e => (key a ha).2 (e ▸ hb)⟩
 ·subst e
  rcases List.mem_append.1 hb with h | h
  ·exact (key a h).1 ha
  ·exact h3 a ha a (List.mem_append.2 (.inr h)) rfl
section
variable {B : Nat} {w w' : World} {row : Option Nat}
theorem Bx.kept {g T : Nat} {l : List Value} (h : Bx w g T l) (hg : w.grownBy w' row) (hne : some g ≠ row) : Bx w' g T l := (hg.block g h.lt hne).trans h
theorem RowV.kept {v : Value} {ls : List (List UInt8)} (h : RowV B w v ls) (hg : w.grownBy w' row) (hne : ∀ k, v.ownBlock = some k → some k ≠ row) (hkb : KB w w') : RowV B w' v ls := by
 have hl := h.lt
 obtain ⟨vs, h1, h2⟩ := h
 refine ⟨vs, ⟨h1.1, ?_⟩, h2.kb hkb⟩
 rcases h1.2 with h | ⟨g, cap, cur, rfl, hb, hgg, r⟩
 ·exact .inl h
 ·exact .inr ⟨g, cap, cur, rfl, hb, (hg.block g (hl g rfl).2 (hne g rfl)).trans hgg, r⟩
theorem own_kept {v : Value} {e n : Nat} {xs : List Value} (h : w.ownsRow B e 1 v n xs) (hg : w.grownBy w' row) (hne : ∀ k, v.ownBlock = some k → some k ≠ row) : w'.ownsRow B e 1 v n xs := by
 have hl := h.lt
 refine ⟨h.1, ?_⟩
 rcases h.2 with h | ⟨g, cap, cur, rfl, hb, hgg, r⟩
 ·exact .inl h
 ·exact .inr ⟨g, cap, cur, rfl, hb, (hg.block g (hl g rfl).2 (hne g rfl)).trans hgg, r⟩
theorem grownBy_set (w : World) (g i : Nat) (u : Value) : w.grownBy (w.setCell ⟨g, i, none⟩ u) (some g) :=
 ⟨rfl, rfl, rfl, by simp [World.setCell], fun k hk hne => Below.heap_setCell w ⟨g, i, none⟩ u k (fun e => hne (by rw [e]))⟩
end
def Or.KS (sv : Nat → Value) (qv tv : Value) (gs gg ge : Nat) : List Nat := ob (sv 0) ++ (ob (sv 1) ++ (ob qv ++ (ob tv ++ [gs, gg, ge])))
def tcell (t : Nat) : Value := .int .i64 (t : Int)
/-- What lies where. -/
structure Or.Mem (B gs gg ge : Nat) (ef : Nat → Nat) (w : World) (sv : Nat → Value) (qv tv : Value) (Sf : Nat → K.E) (Ms : Nat → List (List UInt8)) (de : Nat → Nat) (P : List (List UInt8)) (T : List Nat) : Prop where
 nd : (Or.KS sv qv tv gs gg ge).Nodup
 en : E2 B (Or.KS sv qv tv gs gg ge) w ef Sf
 xe : Bx w ge 35 [pv ef 0, pv ef 1]
 xs : Bx w gs 28 [sv 0, sv 1]
 xg : Bx w gg 3 [iv de 0, iv de 1]
 rs : ∀ k, k < 2 → RowV B w (sv k) (Ms k)
 rp : RowV B w qv P
 rt : w.ownsRow B 3 1 tv T.length (T.map tcell)
section
variable {B gs gg ge : Nat} {ef : Nat → Nat} {w w' : World} {sv : Nat → Value} {qv tv v' : Value} {Sf Sf' : Nat → K.E} {Ms : Nat → List (List UInt8)} {de : Nat → Nat} {P : List (List UInt8)} {T : List Nat}
theorem Or.Mem.lt (h : Or.Mem B gs gg ge ef w sv qv tv Sf Ms de P T) : ∀ x ∈ Or.KS sv qv tv gs gg ge, x < w.heap.size := h.en.kslt
/-- Where only the ends turn. -/
theorem Or.Mem.kt (h : Or.Mem B gs gg ge ef w sv qv tv Sf Ms de P T) (k : KT B (Or.KS sv qv tv gs gg ge) w w') (en : E2 B (Or.KS sv qv tv gs gg ge) w' ef Sf') : Or.Mem B gs gg ge ef w' sv qv tv Sf' Ms de P T := by
 refine ⟨h.nd, en, k.bx (by simp [Or.KS]) h.xe, k.bx (by simp [Or.KS]) h.xs, k.bx (by simp [Or.KS]) h.xg, fun j hj => k.rowV (h.rs j hj) (fun x hx => ?_), k.rowV h.rp (fun x hx => ?_), ?_⟩
 ·have hx := mem_ob.2 hx
  match j, hj with
  | 0, _ => simp [Or.KS, hx]
  | 1, _ => simp [Or.KS, hx]
 ·simp [Or.KS, mem_ob.2 hx]
 ·have hl := h.rt.lt
  refine ⟨h.rt.1, ?_⟩
  rcases h.rt.2 with h1 | ⟨g, cap, cur, h1, hb, hgg, r⟩
  ·exact .inl h1
  ·have hv : tv.ownBlock = some g := by rw [h1]; rfl
   exact .inr ⟨g, cap, cur, h1, hb, (k.row g (by simp [Or.KS, mem_ob.2 hv]) (hl g hv).2).trans hgg, r⟩
theorem Or.Mem.below (h : Or.Mem B gs gg ge ef w sv qv tv Sf Ms de P T) (hb : Below w.heap.size w w') : Or.Mem B gs gg ge ef w' sv qv tv Sf Ms de P T := h.kt (KT.of hb) (h.en.below hb)
theorem Or.Mem.congr (h : Or.Mem B gs gg ge ef w sv qv tv Sf Ms de P T) (e : ∀ k, k < 2 → Sf k = Sf' k) : Or.Mem B gs gg ge ef w sv qv tv Sf' Ms de P T := ⟨h.nd, h.en.congr e, h.xe, h.xs, h.xg, h.rs, h.rp, h.rt⟩
/-- A row of packets that grew. -/
theorem Or.Mem.app_p (h : Or.Mem B gs gg ge ef w sv qv tv Sf Ms de P T) {P' : List (List UInt8)} (hr : RowV B w' v' P') (hg : w.grownBy w' qv.ownBlock) (hkb : KB w w') (hn : ∀ k, v'.ownBlock = some k → qv.ownBlock = some k ∨ w.heap.size ≤ k) : Or.Mem B gs gg ge ef w' sv v' tv Sf Ms de P' T := by
 have nd := h.nd
 have hsp : Or.KS sv qv tv gs gg ge = (ob (sv 0) ++ ob (sv 1)) ++ (ob qv ++ (ob tv ++ [gs, gg, ge])) := by simp [Or.KS]
 have hsp' : Or.KS sv v' tv gs gg ge = (ob (sv 0) ++ ob (sv 1)) ++ (ob v' ++ (ob tv ++ [gs, gg, ge])) := by simp [Or.KS]
 have hlt := h.lt
 rw [hsp] at nd hlt
 have key : ∀ k, qv.ownBlock = some k → k ∉ (ob (sv 0) ++ ob (sv 1)) ∧ k ∉ (ob tv ++ [gs, gg, ge]) := fun k hk => nodup_mem nd (mem_ob.2 hk)
 have ne2 : ∀ x, x ∈ ob tv ++ [gs, gg, ge] → some x ≠ qv.ownBlock := fun x hx e => (key x e.symm).2 hx
 have ne1 : ∀ x, x ∈ ob (sv 0) ++ ob (sv 1) → some x ≠ qv.ownBlock := fun x hx e => (key x e.symm).1 hx
 have hsz := hg.size
 have hnn : ∀ x ∈ ob v', x ∈ ob qv ∨ w.heap.size ≤ x := fun x hx => by
  rcases hn x (mem_ob.1 hx) with h | h
  ·exact .inl (mem_ob.2 h)
  ·exact .inr h
 refine ⟨by rw [hsp']; exact nodup_new nd (ob_nodup v') hnn hlt, ?_, h.xe.kept hg (ne2 _ (by simp)), h.xs.kept hg (ne2 _ (by simp)), h.xg.kept hg (ne2 _ (by simp)), fun j hj => (h.rs j hj).kept hg (fun k hk => ne1 k ?_) hkb, hr, own_kept h.rt hg (fun k hk => ne2 k (by simp [mem_ob.2 hk]))⟩
 ·refine h.en.grown hg (fun k hk => by simp [Or.KS, mem_ob.2 hk]) hkb (fun k hk => ?_) (fun k hk => ?_)
  ·rw [hsp'] at hk
   rw [hsp]
   rcases List.mem_append.1 hk with h1 | h1
   ·exact .inl (List.mem_append.2 (.inl h1))
   ·rcases List.mem_append.1 h1 with h1 | h1
    ·rcases hnn k h1 with h2 | h2
     ·exact .inl (List.mem_append.2 (.inr (List.mem_append.2 (.inl h2))))
     ·exact .inr h2
    ·exact .inl (List.mem_append.2 (.inr (List.mem_append.2 (.inr h1))))
  ·rw [hsp'] at hk
   rcases List.mem_append.1 hk with h1 | h1
   ·have := hlt k (List.mem_append.2 (.inl h1)); omega
   ·rcases List.mem_append.1 h1 with h1 | h1
    ·exact (hr.lt k (mem_ob.1 h1)).2
    ·have := hlt k (List.mem_append.2 (.inr (List.mem_append.2 (.inr h1)))); omega
 ·have hk := mem_ob.2 hk
  match j, hj with
  | 0, _ => simp [hk]
  | 1, _ => simp [hk]
/-- The row of aims that grew. -/
theorem Or.Mem.app_t (h : Or.Mem B gs gg ge ef w sv qv tv Sf Ms de P T) {T' : List Nat} (hr : w'.ownsRow B 3 1 v' T'.length (T'.map tcell)) (hg : w.grownBy w' tv.ownBlock) (hkb : KB w w') (hn : ∀ k, v'.ownBlock = some k → tv.ownBlock = some k ∨ w.heap.size ≤ k) : Or.Mem B gs gg ge ef w' sv qv v' Sf Ms de P T' := by
 have nd := h.nd
 have hsp : Or.KS sv qv tv gs gg ge = (ob (sv 0) ++ (ob (sv 1) ++ ob qv)) ++ (ob tv ++ [gs, gg, ge]) := by simp [Or.KS]
 have hsp' : Or.KS sv qv v' gs gg ge = (ob (sv 0) ++ (ob (sv 1) ++ ob qv)) ++ (ob v' ++ [gs, gg, ge]) := by simp [Or.KS]
 have hlt := h.lt
 rw [hsp] at nd hlt
 have key : ∀ k, tv.ownBlock = some k → k ∉ (ob (sv 0) ++ (ob (sv 1) ++ ob qv)) ∧ k ∉ [gs, gg, ge] := fun k hk => nodup_mem nd (mem_ob.2 hk)
 have ne2 : ∀ x, x ∈ [gs, gg, ge] → some x ≠ tv.ownBlock := fun x hx e => (key x e.symm).2 hx
 have ne1 : ∀ x, x ∈ ob (sv 0) ++ (ob (sv 1) ++ ob qv) → some x ≠ tv.ownBlock := fun x hx e => (key x e.symm).1 hx
 have hsz := hg.size
 have hnn : ∀ x ∈ ob v', x ∈ ob tv ∨ w.heap.size ≤ x := fun x hx => by
  rcases hn x (mem_ob.1 hx) with h | h
  ·exact .inl (mem_ob.2 h)
  ·exact .inr h
 refine ⟨by rw [hsp']; exact nodup_new nd (ob_nodup v') hnn hlt, ?_, h.xe.kept hg (ne2 _ (by simp)), h.xs.kept hg (ne2 _ (by simp)), h.xg.kept hg (ne2 _ (by simp)), fun j hj => (h.rs j hj).kept hg (fun k hk => ne1 k ?_) hkb, h.rp.kept hg (fun k hk => ne1 k (by simp [mem_ob.2 hk])) hkb, hr⟩
 ·refine h.en.grown hg (fun k hk => by simp [Or.KS, mem_ob.2 hk]) hkb (fun k hk => ?_) (fun k hk => ?_)
  ·rw [hsp'] at hk
   rw [hsp]
   rcases List.mem_append.1 hk with h1 | h1
   ·exact .inl (List.mem_append.2 (.inl h1))
   ·rcases List.mem_append.1 h1 with h1 | h1
    ·rcases hnn k h1 with h2 | h2
     ·exact .inl (List.mem_append.2 (.inr (List.mem_append.2 (.inl h2))))
     ·exact .inr h2
    ·exact .inl (List.mem_append.2 (.inr (List.mem_append.2 (.inr h1))))
  ·rw [hsp'] at hk
   rcases List.mem_append.1 hk with h1 | h1
   ·have := hlt k (List.mem_append.2 (.inl h1)); omega
   ·rcases List.mem_append.1 h1 with h1 | h1
    ·exact (hr.lt k (mem_ob.1 h1)).2
    ·have := hlt k (List.mem_append.2 (.inr (List.mem_append.2 (.inr h1)))); omega
 ·have hk := mem_ob.2 hk
  match j, hj with
  | 0, _ => simp [hk]
  | 1, _ => simp [hk]
/-- A store into the row of numbers. -/
theorem Or.Mem.put_g (h : Or.Mem B gs gg ge ef w sv qv tv Sf Ms de P T) {k y : Nat} (hk : k < 2) {u : Value} (hu : u = .int .i64 (y : Int)) : Or.Mem B gs gg ge ef (w.setCell ⟨gg, k, none⟩ u) sv qv tv Sf Ms (K.upd de k y) P T := by
 subst hu
 have hg := grownBy_set w gg k (.int .i64 (y : Int))
 have hkb : KB w (w.setCell ⟨gg, k, none⟩ (.int .i64 (y : Int))) := (KB.refl w).set_ h.xg (by decide) _
 have nd := h.nd
 have hsp : Or.KS sv qv tv gs gg ge = (ob (sv 0) ++ (ob (sv 1) ++ (ob qv ++ (ob tv ++ [gs])))) ++ ([gg] ++ [ge]) := by simp [Or.KS]
 rw [hsp] at nd
 obtain ⟨n1, n2⟩ := nodup_mem nd (x := gg) (by simp)
 have ne1 : ∀ x, x ∈ ob (sv 0) ++ (ob (sv 1) ++ (ob qv ++ (ob tv ++ [gs]))) → some x ≠ some gg := fun x hx e => by
  injection e with e; exact n1 (e ▸ hx)
 refine ⟨h.nd, h.en.put h.xg (by decide) (by simp [Or.KS]) _ _, h.xe.kept hg (fun e => by injection e with e; exact n2 (by simp [e])), h.xs.kept hg (ne1 _ (by simp)), h.xg.setAs (iv_set hk), fun j hj => (h.rs j hj).kept hg (fun x hx => ne1 x ?_) hkb, h.rp.kept hg (fun x hx => ne1 x (by simp [mem_ob.2 hx])) hkb, own_kept h.rt hg (fun x hx => ne1 x (by simp [mem_ob.2 hx]))⟩
 have hx := mem_ob.2 hx
 match j, hj with
 | 0, _ => simp [hx]
 | 1, _ => simp [hx]
theorem ob_upd {sv : Nat → Value} {k : Nat} (hk : k < 2) {v' : Value} {x : Nat} : (x ∈ ob (K.upd sv k v' 0) ∨ x ∈ ob (K.upd sv k v' 1)) ↔ (x ∈ ob v' ∨ x ∈ ob (sv (1 - k))) := by
 match k, hk with
 | 0, _ => exact Iff.rfl
 | 1, _ => exact Or.comm
/-- A row of what was sent that grew, and was stored. -/
theorem Or.Mem.app_s (h : Or.Mem B gs gg ge ef w sv qv tv Sf Ms de P T) {k : Nat} (hk : k < 2) {M' : List (List UInt8)} (hr : RowV B w' v' M') (hg : w.grownBy w' (sv k).ownBlock) (hkb : KB w w') (hn : ∀ x, v'.ownBlock = some x → (sv k).ownBlock = some x ∨ w.heap.size ≤ x) : Or.Mem B gs gg ge ef (w'.setCell ⟨gs, k, none⟩ v') (K.upd sv k v') qv tv Sf (K.upd Ms k M') de P T := by
 have nd := h.nd
 have hlt := h.lt
 obtain ⟨sa, hsa⟩ : ∃ sa, sa = sv (1 - k) := ⟨_, rfl⟩
 have mem1 : ∀ x, x ∈ Or.KS sv qv tv gs gg ge ↔ x ∈ ob (sv k) ∨ x ∈ ob sa ∨ x ∈ ob qv ++ (ob tv ++ [gs, gg, ge]) := fun x => by
  rw [hsa]
  match k, hk with
  | 0, _ => simp [Or.KS]
  | 1, _ => simp [Or.KS]; constructor <;> (rintro (h | h | h | h | h); exact .inr (.inl h); exact .inl h; exact .inr (.inr (.inl h)); exact .inr (.inr (.inr (.inl h))); exact .inr (.inr (.inr (.inr h))))
 have mem2 : ∀ x, x ∈ Or.KS (K.upd sv k v') qv tv gs gg ge ↔ x ∈ ob v' ∨ x ∈ ob sa ∨ x ∈ ob qv ++ (ob tv ++ [gs, gg, ge]) := fun x => by
  rw [hsa]
  have := ob_upd (sv := sv) hk (v' := v') (x := x)
  unfold Or.KS
  rw [List.mem_append, List.mem_append, ← _root_.or_assoc, this, _root_.or_assoc]
 have nd1 : ([] ++ (ob (sv k) ++ (ob sa ++ (ob qv ++ (ob tv ++ [gs, gg, ge]))))).Nodup := by
  rw [hsa]
  match k, hk with
  | 0, _ => simpa [Or.KS] using nd
  | 1, _ =>
   have : (ob (sv 1) ++ (ob (sv 0) ++ (ob qv ++ (ob tv ++ [gs, gg, ge])))).Perm (Or.KS sv qv tv gs gg ge) := by
    unfold Or.KS
    rw [← List.append_assoc, ← List.append_assoc (ob (sv 0))]
    exact List.Perm.append_right _ List.perm_append_comm
   simpa using this.nodup_iff.2 nd
 have k0 : ∀ x ∈ [] ++ (ob (sv k) ++ (ob sa ++ (ob qv ++ (ob tv ++ [gs, gg, ge])))), x < w.heap.size := fun x hx => hlt x ((mem1 x).2 (by
  rw [List.nil_append] at hx
  rcases List.mem_append.1 hx with h | h
  ·exact .inl h
  ·rcases List.mem_append.1 h with h | h
   ·exact .inr (.inl h)
   ·exact .inr (.inr h)))
 have hnn : ∀ x ∈ ob v', x ∈ ob (sv k) ∨ w.heap.size ≤ x := fun x hx => by
  rcases hn x (mem_ob.1 hx) with h | h
  ·exact .inl (mem_ob.2 h)
  ·exact .inr h
 have nd2 := nodup_new nd1 (ob_nodup v') hnn k0
 have nd3 : (Or.KS (K.upd sv k v') qv tv gs gg ge).Nodup := by
  rw [hsa] at nd2
  match k, hk, nd2 with
  | 0, _, nd2 => simpa [Or.KS, K.upd] using nd2
  | 1, _, nd2 =>
   have : (ob v' ++ (ob (sv 0) ++ (ob qv ++ (ob tv ++ [gs, gg, ge])))).Perm (Or.KS (K.upd sv 1 v') qv tv gs gg ge) := by
    show List.Perm _ (ob (sv 0) ++ (ob v' ++ (ob qv ++ (ob tv ++ [gs, gg, ge]))))
    rw [← List.append_assoc, ← List.append_assoc (ob (sv 0))]
    exact List.Perm.append_right _ List.perm_append_comm
   exact this.nodup_iff.1 (by simpa using nd2)
 have key : ∀ x, (sv k).ownBlock = some x → x ∉ ob sa ++ (ob qv ++ (ob tv ++ [gs, gg, ge])) := fun x hx => (nodup_mem nd1 (mem_ob.2 hx)).2
 have ne : ∀ x, x ∈ ob sa ++ (ob qv ++ (ob tv ++ [gs, gg, ge])) → some x ≠ (sv k).ownBlock := fun x hx e => key x e.symm hx
 have hsz := hg.size
 have xs1 : Bx w' gs 28 [sv 0, sv 1] := h.xs.kept hg (ne _ (by simp))
 have hg2 := grownBy_set w' gs k v'
 have hkb2 : KB w' (w'.setCell ⟨gs, k, none⟩ v') := (KB.refl w').set_ xs1 (by decide) _
 have hgs : ∀ x, x ∈ ob v' ∨ x ∈ ob sa ∨ x ∈ ob qv ∨ x ∈ ob tv ∨ x = gg ∨ x = ge → some x ≠ some gs := fun x hx e => by
  injection e with e
  subst e
  have h1 := nodup_mem (L1 := ob v' ++ (ob sa ++ (ob qv ++ ob tv))) (o := [x]) (L2 := [gg, ge]) (by simpa using nd2) (x := x) (by simp)
  rcases hx with h | h | h | h | h | h
  ·exact h1.1 (by simp [h])
  ·exact h1.1 (by simp [h])
  ·exact h1.1 (by simp [h])
  ·exact h1.1 (by simp [h])
  ·exact h1.2 (by simp [h])
  ·exact h1.2 (by simp [h])
 have en1 : E2 B (Or.KS (K.upd sv k v') qv tv gs gg ge) w' ef Sf := by
  refine h.en.grown hg (fun x hx => (mem1 x).2 (.inl (mem_ob.2 hx))) hkb (fun x hx => ?_) (fun x hx => ?_)
  ·rcases (mem2 x).1 hx with h1 | h1
   ·rcases hnn x h1 with h2 | h2
    ·exact .inl ((mem1 x).2 (.inl h2))
    ·exact .inr h2
   ·exact .inl ((mem1 x).2 (.inr h1))
  ·rcases (mem2 x).1 hx with h1 | h1
   ·exact (hr.lt x (mem_ob.1 h1)).2
   ·have := hlt x ((mem1 x).2 (.inr h1)); omega
 refine ⟨nd3, en1.put xs1 (by decide) (by simp [Or.KS]) _ _, (h.xe.kept hg (ne _ (by simp))).kept hg2 (hgs _ (by simp)), xs1.setAs (by
  match k, hk with
  | 0, _ => rfl
  | 1, _ => rfl), (h.xg.kept hg (ne _ (by simp))).kept hg2 (hgs _ (by simp)), fun j hj => ?_, (h.rp.kept hg (fun x hx => ne x (by simp [mem_ob.2 hx])) hkb).kept hg2 (fun x hx => hgs x (.inr (.inr (.inl (mem_ob.2 hx))))) hkb2, own_kept (own_kept h.rt hg (fun x hx => ne x (by simp [mem_ob.2 hx]))) hg2 (fun x hx => hgs x (.inr (.inr (.inr (.inl (mem_ob.2 hx))))))⟩
 by_cases hjk : j = k
 ·subst hjk
  unfold K.upd
  rw [if_pos rfl, if_pos rfl]
  exact hr.kept hg2 (fun x hx => hgs x (.inl (mem_ob.2 hx))) hkb2
 ·unfold K.upd
  rw [if_neg hjk, if_neg hjk]
  have hj1 : j = 1 - k := by omega
  have hsj : sa = sv j := by rw [hsa, hj1]
  exact ((h.rs j hj).kept hg (fun x hx => ne x (by rw [hsj]; simp [mem_ob.2 hx])) hkb).kept hg2 (fun x hx => hgs x (.inr (.inl (by rw [hsj]; exact mem_ob.2 hx)))) hkb2
end
end Go.Proofs.Ytgdibcgphjmofaa
namespace Go.Proofs.Ytgdibcgphjmofaa
open Go.RowKit
open Go.Maps
set_option linter.unusedVariables false
section
variable {o : Oper} {a : Act} {ops : Array Oper} {rest : List Oper} {Q : Exit → Act → World → Prop} {w : World} {rv : Value} {g base : Nat}
theorem wpList_appR {u : Value} {ls : List (List UInt8)} {l : List UInt8} (hgd : o.guard = none) (x y : Operand) (ho : o.op = .call { callee := .builtin .append, args := #[x, y], argTypes := #[28, 28] })
  (ex : a.eval x = rv) (ey : a.eval y = .slice (some ⟨g, 0, none⟩) 1 1) (hbase : base ≤ w.heap.size) (hr : RowV base w rv ls) (hg : Bx w g 33 [u]) (hu : BV w u l) (hN : ls.length ≤ 1000000000)
  (h : ∀ v' w', RowV base w' v' (ls ++ [l]) → w.grownBy w' rv.ownBlock → KB w w' → (∀ k, v'.ownBlock = some k → rv.ownBlock = some k ∨ w.heap.size ≤ k) → wpList Try.prog ops Q rest (a.put o.dst v') w') : wpList Try.prog ops Q (o :: rest) a w := by
 refine wpList_plain hgd fun K hK => ?_
 obtain ⟨vs, h1, h2⟩ := hr
 obtain ⟨v', w', r1, r2, r3, r4, r5, r6⟩ := run_app (ty := o.type) hbase h1 h2 hg hu hN
 unfold Oper.wp execOp
 simp only [ho, resolve, invoke, builtin, Sem.run_bind, Sem.run_pure, Result.andThen_ok, List.map_toArray, List.map_cons, List.map_nil, ex, ey, r1]
 refine hK _ _ (h v' w' ⟨_, ?_, r5⟩ r3 r4 r6)
 rw [List.length_append]
 exact r2
theorem wpList_appI {ts : List Nat} {t : Nat} (hgd : o.guard = none) (x y : Operand) (ho : o.op = .call { callee := .builtin .append, args := #[x, y], argTypes := #[23, 23] })
  (ex : a.eval x = rv) (ey : a.eval y = .slice (some ⟨g, 0, none⟩) 1 1) (hbase : base ≤ w.heap.size) (hr : w.ownsRow base 3 1 rv ts.length (ts.map tcell)) (hg : Bx w g 3 [tcell t]) (hN : ts.length ≤ 1000000000)
  (h : ∀ v' w', w'.ownsRow base 3 1 v' (ts ++ [t]).length ((ts ++ [t]).map tcell) → w.grownBy w' rv.ownBlock → KB w w' → (∀ k, v'.ownBlock = some k → rv.ownBlock = some k ∨ w.heap.size ≤ k) → wpList Try.prog ops Q rest (a.put o.dst v') w') : wpList Try.prog ops Q (o :: rest) a w := by
 refine wpList_plain hgd fun K hK => ?_
 obtain ⟨i0, hi, hz0, hz1, hz2⟩ := info_parts info_i64
 have hcell : ∀ j x, ([tcell t] : List Value)[j]? = some x → w.cell? ((⟨g, 0, none⟩ : Addr).add j) = some x := fun j x hx => by
  rw [Addr.add_lit, Nat.zero_add]; exact hg.cell hx
 obtain ⟨v', w', r1, r2, r3, r4⟩ := run_append_own_at w base 23 o.type 3 i0 _ 1 8 Try.underlying23 hi hz0 hz1 hz2 rfl (by decide) rv ts.length (ts.map tcell) hr ⟨g, 0, none⟩ 1 1 [tcell t] rfl hcell (fun x hx => by simp at hx; subst hx; rfl) (by unfold maxLen; omega) (by omega) hbase
 have hgl := hg.lt
 have hkb : KB w w' := (KB.refl w).grown r3 (fun k hk cs fr e => by
  rcases hr.2 with ⟨rfl, _⟩ | ⟨g1, cap, cur, rfl, _, h4, _⟩
  ·simp [Value.ownBlock] at hk
  ·simp [Value.ownBlock] at hk
   subst hk
   rw [h4] at e
   injection e with e
   injection e with _ e _
   exact absurd e (by decide))
 unfold Oper.wp execOp
 simp only [ho, resolve, invoke, builtin, Sem.run_bind, Sem.run_pure, Result.andThen_ok, List.map_toArray, List.map_cons, List.map_nil, ex, ey, r1]
 refine hK _ _ (h v' w' ?_ r3 hkb (fun k hk => ?_))
 ·rw [List.length_append, List.map_append]
  exact r2
 ·rcases r4.2 with h | h
  ·rw [h] at hk; exact .inl hk
  ·rw [h] at hk; injection hk with hk; exact .inr (by omega)
end
/-- What holds in the loop, plainly. -/
structure Or.Inv (wf : Nat → Int) (key : Int) (c : Nat) (Sf : Nat → K.E) (Ms : Nat → List (List UInt8)) (ac de : Nat → Nat) (P : List (List UInt8)) (T : List Nat) : Prop where
 e : ∀ k, k < 2 → Or.End (Ms k) (Ms (1 - k)) (ac k) (de k) (de (1 - k)) (Sf k)
 q : ∀ k, k < 2 → (Sf k).win = wf k ∧ (Sf k).key = key ∧ (Sf k).cnt ≤ c
 m : ∀ k, k < 2 → (Ms k).length ≤ c ∧ ∀ x ∈ Ms k, x.length = 2
 l : T.length = P.length ∧ P.length ≤ 16 * c
 p : ∀ (x : Nat) (Q : List UInt8) (t : Nat), P[x]? = some Q → T[x]? = some t → t < 2 ∧ Or.Pk key (Ms (1 - t)) (de (1 - t)) Q
section
variable {wf : Nat → Int} {key : Int} {c : Nat} {Sf : Nat → K.E} {Ms : Nat → List (List UInt8)} {ac de : Nat → Nat} {P : List (List UInt8)} {T : List Nat}
theorem upd_same {α : Type} {f : Nat → α} {k : Nat} {x : α} : K.upd f k x k = x := by unfold K.upd; rw [if_pos rfl]
theorem upd_else {α : Type} {f : Nat → α} {k j : Nat} {x : α} (h : j ≠ k) : K.upd f k x j = f j := by unfold K.upd; rw [if_neg h]
theorem Or.Inv.skip (h : Or.Inv wf key c Sf Ms ac de P T) : Or.Inv wf key (c + 1) Sf Ms ac de P T :=
 ⟨h.e, fun k hk => ⟨(h.q k hk).1, (h.q k hk).2.1, by have := (h.q k hk).2.2; omega⟩, fun k hk => ⟨by have := (h.m k hk).1; omega, (h.m k hk).2⟩, ⟨h.l.1, by have := h.l.2; omega⟩, h.p⟩
theorem Or.Inv.ok (h : Or.Inv wf key c Sf Ms ac de P T) (hc : c ≤ 100) (hw : ∀ j, 1 ≤ wf j ∧ wf j ≤ 16) (hkey : 0 ≤ key ∧ key < 18446744073709551616) {k : Nat} (hk : k < 2) : K.ok (Sf k) := by
 refine Or.ok (h.e k hk) (by rw [(h.q k hk).1]; exact hw k) (by rw [(h.q k hk).2.1]; exact hkey) (by have := (h.m k hk).1; omega) (by have := (h.m (1 - k) (by omega)).1; omega) (fun x hx => by rw [(h.m k hk).2 x hx]; omega) (by have := (h.q k hk).2.2; omega)
theorem Or.Inv.send (h : Or.Inv wf key c Sf Ms ac de P T) {k : Nat} (hk : k < 2) {b : List UInt8} (hb : b.length = 2) (hc : c ≤ 100) : Or.Inv wf key (c + 1) (K.upd Sf k { Sf k with wait := (Sf k).wait ++ [b] }) (K.upd Ms k (Ms k ++ [b])) ac de P T := by
 have hne : ¬ 1 - k = k := by omega
 refine ⟨fun j hj => ?_, fun j hj => ?_, fun j hj => ?_, ⟨h.l.1, by have := h.l.2; omega⟩, fun x Q t h1 h2 => ?_⟩
 ·by_cases hjk : j = k
  ·subst hjk
   rw [upd_same, upd_same, upd_else hne]
   exact Or.send (h.e j hj) b
  ·rw [upd_else hjk, upd_else hjk]
   obtain rfl : k = 1 - j := by omega
   rw [upd_same]
   exact Or.more (h.e j hj) b
 ·by_cases hjk : j = k
  ·subst hjk
   rw [upd_same]
   exact ⟨(h.q j hj).1, (h.q j hj).2.1, by have := (h.q j hj).2.2; show (Sf j).cnt ≤ _; omega⟩
  ·rw [upd_else hjk]
   exact ⟨(h.q j hj).1, (h.q j hj).2.1, by have := (h.q j hj).2.2; omega⟩
 ·by_cases hjk : j = k
  ·subst hjk
   rw [upd_same]
   refine ⟨by rw [List.length_append, List.length_singleton]; have := (h.m j hj).1; omega, fun x hx => ?_⟩
   rcases List.mem_append.1 hx with hx | hx
   ·exact (h.m j hj).2 x hx
   ·rw [List.mem_singleton.1 hx]; exact hb
  ·rw [upd_else hjk]
   exact ⟨by have := (h.m j hj).1; omega, (h.m j hj).2⟩
 ·obtain ⟨h3, h4⟩ := h.p x Q t h1 h2
  refine ⟨h3, ?_⟩
  by_cases hjk : 1 - t = k
  ·rw [hjk] at h4 ⊢
   rw [upd_same]
   have := (h.e k hk).d2
   have := (h.m (1 - k) (by omega)).1
   exact h4.mono (Nat.le_refl _) (by omega)
  ·rw [upd_else hjk]
   exact h4
theorem Or.Inv.out (h : Or.Inv wf key c Sf Ms ac de P T) {k : Nat} (hk : k < 2) (hw : ∀ j, 1 ≤ wf j ∧ wf j ≤ 16) (hc : c ≤ 100) : Or.Inv wf key (c + 1) (K.upd Sf k { Sf k with owing := false }) Ms ac de (P ++ K.out (Sf k)) (T ++ List.replicate (K.out (Sf k)).length (1 - k)) := by
 have hlen : (K.out (Sf k)).length ≤ 16 := by
  unfold K.out
  split
  ·simp
  ·unfold K.outs K.outN
   rw [List.length_map, List.length_range, (h.q k hk).1]
   have := hw k
   omega
 refine ⟨fun j hj => ?_, fun j hj => ?_, fun j hj => ⟨by have := (h.m j hj).1; omega, (h.m j hj).2⟩, ⟨by rw [List.length_append, List.length_append, List.length_replicate, h.l.1], by rw [List.length_append]; have := h.l.2; omega⟩, fun x Q t h1 h2 => ?_⟩
 ·by_cases hjk : j = k
  ·subst hjk
   rw [upd_same]
   exact Or.owing (h.e j hj)
  ·rw [upd_else hjk]
   exact h.e j hj
 ·by_cases hjk : j = k
  ·subst hjk
   rw [upd_same]
   exact ⟨(h.q j hj).1, (h.q j hj).2.1, by have := (h.q j hj).2.2; show (Sf j).cnt ≤ _; omega⟩
  ·rw [upd_else hjk]
   exact ⟨(h.q j hj).1, (h.q j hj).2.1, by have := (h.q j hj).2.2; omega⟩
 ·by_cases hx : x < P.length
  ·rw [List.getElem?_append_left hx] at h1
   rw [List.getElem?_append_left (by rw [h.l.1]; exact hx)] at h2
   exact h.p x Q t h1 h2
  ·rw [List.getElem?_append_right (by omega)] at h1
   rw [List.getElem?_append_right (by rw [h.l.1]; omega)] at h2
   have ht := List.eq_of_mem_replicate (List.mem_of_getElem? h2)
   subst ht
   refine ⟨by omega, ?_⟩
   have hkk : 1 - (1 - k) = k := by omega
   rw [hkk]
   have hd := (h.e k hk).d2
   have hml := (h.m (1 - k) (by omega)).1
   have := Or.out (h.e k hk) (by have := (h.m k hk).1; omega) (fun x hx => by rw [(h.m k hk).2 x hx]; omega) (by omega) Q (List.mem_of_getElem? h1)
   rwa [(h.q k hk).2.1] at this
theorem Or.Inv.inn (h : Or.Inv wf key c Sf Ms ac de P T) (hc : c ≤ 100) {x t : Nat} {Q : List UInt8} (h1 : P[x]? = some Q) (h2 : T[x]? = some t) :
  ∃ ms S' ac', K.inn (Sf t) Q = (ms, 0, S') ∧ de t + ms.length ≤ (Ms (1 - t)).length ∧ (∀ r, r < ms.length → ms[r]? = (Ms (1 - t))[de t + r]?) ∧ Or.Inv wf key (c + 1) (K.upd Sf t S') Ms ac' (K.upd de t (de t + ms.length)) P T := by
 obtain ⟨ht, hp⟩ := h.p x Q t h1 h2
 have hne : ¬ 1 - t = t := by omega
 have he := h.e t ht
 obtain ⟨q1, q2, q3⟩ := h.q t ht
 obtain ⟨ms, ac2, S', g1, g2, g3, g4, g5, g6, g7⟩ := Or.inn (P := Q) he (by rw [q2]; exact hp)
 refine ⟨ms, S', K.upd ac t ac2, g1, g2, g3, fun j hj => ?_, fun j hj => ?_, fun j hj => ⟨by have := (h.m j hj).1; omega, (h.m j hj).2⟩, ⟨h.l.1, by have := h.l.2; omega⟩, fun y R s k1 k2 => ?_⟩
 ·by_cases hjt : j = t
  ·subst hjt
   rw [upd_same, upd_same, upd_same, upd_else hne]
   exact g4
  ·rw [upd_else hjt, upd_else hjt, upd_else hjt]
   obtain rfl : t = 1 - j := by omega
   rw [upd_same]
   have hj2 := h.e j hj
   have hjj : 1 - (1 - j) = j := by omega
   rw [hjj] at g2
   exact ⟨hj2.w, hj2.a, hj2.d, by have := hj2.a1; omega, g2, hj2.d2, hj2.h, hj2.f⟩
 ·by_cases hjt : j = t
  ·subst hjt
   rw [upd_same]
   exact ⟨by rw [g5]; exact q1, by rw [g6]; exact q2, by omega⟩
  ·rw [upd_else hjt]
   exact ⟨(h.q j hj).1, (h.q j hj).2.1, by have := (h.q j hj).2.2; omega⟩
 ·obtain ⟨k3, k4⟩ := h.p y R s k1 k2
  refine ⟨k3, ?_⟩
  by_cases hst : 1 - s = t
  ·rw [hst] at k4 ⊢
   rw [upd_same]
   have := (h.m (1 - t) (by omega)).1
   exact k4.mono0 (by omega) (by omega)
  ·rw [upd_else hst]
   exact k4
end
end Go.Proofs.Ytgdibcgphjmofaa
