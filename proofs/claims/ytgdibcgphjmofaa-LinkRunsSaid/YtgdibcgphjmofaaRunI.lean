/-
 THE CALLS at two ends of the program and two of the reference, where all lies as Rn.Mem says.
-/
import Derived.Test.YtgdibcgphjmofaaRunF
import Derived.Test.YtgdibcgphjmofaaRunG
import Derived.Test.YtgdibcgphjmofaaFlowU
namespace Go.Proofs.Ytgdibcgphjmofaa
open Go.RowKit
open Go.Maps
set_option linter.unusedVariables false
/-- What a packet that comes in leaves, plainly. -/
structure K.Stp (S S' : K.E) : Prop where
 w : S'.win = S.win
 k : S'.key = S.key
 a : S.acked ≤ S'.acked
 s : S'.acked + (S'.wait.length : Int) = S.acked + (S.wait.length : Int)
 d : S.del ≤ S'.del
 c : S'.del + (S'.cnt : Int) ≤ S.del + (S.cnt : Int) + 1
 f : S.forged ≤ S'.forged
 g : S'.forged ≤ S.forged + 1
theorem K.Stp.refl (S : K.E) : K.Stp S S := ⟨rfl, rfl, Int.le_refl _, rfl, Int.le_refl _, by omega, Int.le_refl _, by omega⟩
theorem K.dlv_sum : ∀ (n : Nat) (S : K.E), n ≤ S.cnt → (K.dlv n S).2.win = S.win ∧ (K.dlv n S).2.key = S.key ∧ (K.dlv n S).2.acked = S.acked ∧ (K.dlv n S).2.wait = S.wait ∧ (K.dlv n S).2.forged = S.forged ∧ S.del ≤ (K.dlv n S).2.del ∧ (K.dlv n S).2.del + ((K.dlv n S).2.cnt : Int) = S.del + (S.cnt : Int)
 | 0, S, _ => ⟨rfl, rfl, rfl, rfl, rfl, Int.le_refl _, rfl⟩
 | n + 1, S, h => by
  rcases hx : S.held (S.del + 1) with _ | l
  ·rw [K.dlv_none hx]
   exact ⟨rfl, rfl, rfl, rfl, rfl, Int.le_refl _, rfl⟩
  ·rw [K.dlv_some hx]
   obtain ⟨h1, h2, h3, h4, h5, h6, h7⟩ := K.dlv_sum n { S with del := S.del + 1, held := fun k => if k = S.del + 1 then none else S.held k, cnt := S.cnt - 1 } (by simp only; omega)
   refine ⟨h1, h2, h3, h4, h5, ?_, ?_⟩
   ·simp only at h6 ⊢; omega
   ·simp only at h7 ⊢; omega
theorem K.ackd_step {S : K.E} {q : Int} (h : q ≤ S.acked + (S.wait.length : Int)) : K.Stp S (K.ackd S q) ∧ (K.ackd S q).cnt = S.cnt ∧ (K.ackd S q).del = S.del ∧ (K.ackd S q).forged = S.forged := by
 unfold K.ackd
 split
 ·exact ⟨⟨rfl, rfl, by simp only; omega, by simp only [List.length_drop]; omega, Int.le_refl _, by simp only; omega, Int.le_refl _, by simp only; omega⟩, rfl, rfl, rfl⟩
 ·exact ⟨K.Stp.refl S, rfl, rfl, rfl⟩
theorem K.put_step (S : K.E) (p : Int) (s : List UInt8) : (K.put S p s).win = S.win ∧ (K.put S p s).key = S.key ∧ (K.put S p s).acked = S.acked ∧ (K.put S p s).wait = S.wait ∧ (K.put S p s).forged = S.forged ∧ (K.put S p s).del = S.del ∧ (K.put S p s).cnt ≤ S.cnt + 1 := by
 unfold K.put
 split
 ·exact ⟨rfl, rfl, rfl, rfl, rfl, rfl, Nat.le_refl _⟩
 ·exact ⟨rfl, rfl, rfl, rfl, rfl, rfl, by simp⟩
theorem K.into_step (S : K.E) (p q : Int) (s : List UInt8) : K.Stp S (K.into S p q s).2.2 := by
 unfold K.into
 split
 ·exact K.Stp.refl S
 ·rename_i h
  have hq : q ≤ S.acked + (S.wait.length : Int) := by omega
  obtain ⟨hs, hc, hd, hf⟩ := K.ackd_step hq
  split
  ·exact hs
  ·obtain ⟨p1, p2, p3, p4, p5, p6, p7⟩ := K.put_step (K.ackd S q) p s
   obtain ⟨d1, d2, d3, d4, d5, d6, d7⟩ := K.dlv_sum (K.put (K.ackd S q) p s).cnt (K.put (K.ackd S q) p s) (Nat.le_refl _)
   have e1 := hs.w; have e2 := hs.k; have e3 := hs.a; have e4 := hs.s
   refine ⟨?_, ?_, ?_, ?_, ?_, ?_, ?_, ?_⟩
   ·show (K.dlv _ _).2.win = _; rw [d1, p1, e1]
   ·show (K.dlv _ _).2.key = _; rw [d2, p2, e2]
   ·show _ ≤ (K.dlv _ _).2.acked; rw [d3, p3]; exact e3
   ·show (K.dlv _ _).2.acked + ((K.dlv _ _).2.wait.length : Int) = _; rw [d3, p3, d4, p4]; exact e4
   ·show _ ≤ (K.dlv _ _).2.del; omega
   ·show (K.dlv _ _).2.del + ((K.dlv _ _).2.cnt : Int) ≤ _; omega
   ·show _ ≤ (K.dlv _ _).2.forged; omega
   ·show (K.dlv _ _).2.forged ≤ _; omega
theorem K.inn_step (S : K.E) (l : List UInt8) : K.Stp S (K.inn S l).2.2 := by
 unfold K.inn
 split
 ·show K.Stp S (if (K.unseal S.key l).2 = 9 then { S with forged := S.forged + 1 } else S)
  split
  ·exact ⟨rfl, rfl, Int.le_refl _, rfl, Int.le_refl _, by simp only; omega, by simp only; omega, by simp only; omega⟩
  ·exact K.Stp.refl S
 ·split
  ·exact K.Stp.refl S
  ·exact K.into_step _ _ _ _
/-- What holds of an end of the reference behind c calls. -/
structure Rn.Inv (c : Nat) (R : Rn.E) : Prop where
 w : 1 ≤ R.win ∧ R.win ≤ 16
 k : 0 ≤ R.key ∧ R.key < 18446744073709551616
 a : 0 ≤ R.acked ∧ R.acked ≤ (R.sent.length : Int)
 s : R.sent.length ≤ c ∧ ∀ x ∈ R.sent, x.length = 2
 g : 0 ≤ R.got ∧ R.got + (R.held.length : Int) ≤ c
 f : 0 ≤ R.forged ∧ R.forged ≤ c
 h : Rn.hok R
section
variable {c : Nat} {R R' : Rn.E}
theorem Rn.Inv.ok (h : Rn.Inv c R) (hc : c ≤ 1000) : Rn.ok R := by
 obtain ⟨⟨w1, w2⟩, ⟨k1, k2⟩, ⟨a1, a2⟩, ⟨s1, s2⟩, ⟨g1, g2⟩, ⟨f1, f2⟩, hh⟩ := h
 refine ⟨⟨w1, w2, a1, ?_, g1, ?_, f1, ?_, ?_, ?_, ?_, ⟨k1, k2⟩⟩, a2, by omega⟩
 ·show R.acked ≤ _; omega
 ·show R.got ≤ _; omega
 ·show R.forged ≤ _; omega
 ·show (R.sent.drop _).length ≤ _; rw [List.length_drop]; omega
 ·intro x hx
  have := s2 x (List.mem_of_mem_drop hx)
  omega
 ·show R.held.length ≤ _; omega
theorem Rn.Inv.skip (h : Rn.Inv c R) : Rn.Inv (c + 1) R := ⟨h.w, h.k, h.a, ⟨by have := h.s.1; omega, h.s.2⟩, ⟨h.g.1, by have := h.g.2; omega⟩, ⟨h.f.1, by have := h.f.2; omega⟩, h.h⟩
theorem Rn.Inv.send (h : Rn.Inv c R) {b : List UInt8} (hb : b.length = 2) : Rn.Inv (c + 1) { R with sent := R.sent ++ [b] } := by
 refine ⟨h.w, h.k, ⟨h.a.1, ?_⟩, ⟨?_, fun x hx => ?_⟩, ⟨h.g.1, by have := h.g.2; show R.got + (R.held.length : Int) ≤ _; omega⟩, ⟨h.f.1, by have := h.f.2; show R.forged ≤ _; omega⟩, ⟨h.h.nd, h.h.f⟩⟩
 ·show R.acked ≤ ((R.sent ++ [b]).length : Int)
  rw [List.length_append]; have := h.a.2; omega
 ·show (R.sent ++ [b]).length ≤ _
  rw [List.length_append, List.length_singleton]; have := h.s.1; omega
 ·rcases List.mem_append.1 hx with hx | hx
  ·exact h.s.2 x hx
  ·rw [List.mem_singleton.1 hx]; exact hb
theorem Rn.k_send (ha : R.acked ≤ (R.sent.length : Int)) (b : List UInt8) : Rn.E.k { R with sent := R.sent ++ [b] } = { R.k with wait := R.k.wait ++ [b] } := by
 unfold Rn.E.k
 simp only
 rw [List.drop_append_of_le_length (by omega)]
theorem Rn.Inv.out (h : Rn.Inv c R) : Rn.Inv (c + 1) { R with owing := false } := ⟨h.w, h.k, h.a, ⟨by have := h.s.1; show R.sent.length ≤ _; omega, h.s.2⟩, ⟨h.g.1, by have := h.g.2; show R.got + (R.held.length : Int) ≤ _; omega⟩, ⟨h.f.1, by have := h.f.2; show R.forged ≤ _; omega⟩, ⟨h.h.nd, h.h.f⟩⟩
theorem Rn.Inv.inn (h : Rn.Inv c R) {l : List UInt8} (hk : R'.k = (K.inn R.k l).2.2) (hs : R'.sent = R.sent) (hh : Rn.hok R') : Rn.Inv (c + 1) R' := by
 have t := K.inn_step R.k l
 rw [← hk] at t
 obtain ⟨t1, t2, t3, t4, t5, t6, t7, t8⟩ := t
 simp only [Rn.E.k] at t1 t2 t3 t4 t5 t6 t7 t8
 rw [hs] at t4
 simp only [List.length_drop] at t4
 obtain ⟨⟨w1, w2⟩, ⟨k1, k2⟩, ⟨a1, a2⟩, ⟨s1, s2⟩, ⟨g1, g2⟩, ⟨f1, f2⟩, hh0⟩ := h
 refine ⟨by rw [t1]; exact ⟨w1, w2⟩, by rw [t2]; exact ⟨k1, k2⟩, ⟨by omega, by rw [hs]; omega⟩, by rw [hs]; exact ⟨by omega, s2⟩, ⟨by omega, by omega⟩, ⟨by omega, by omega⟩, hh⟩
theorem Rn.Inv.wait (h : Rn.Inv c R) : (R.k.wait.length : Int) = (R.sent.length : Int) - R.acked := by
 show ((R.sent.drop R.acked.toNat).length : Int) = _
 rw [List.length_drop]
 have := h.a
 omega
end
theorem K.pk_rng (p q : Int) (l : List UInt8) (h : l.length ≤ 2) : 4 ≤ (K.pk p q l).length ∧ (K.pk p q l).length ≤ 38 := by
 have h1 := W.enc_le p; have h2 := W.enc_le q; have h3 := W.enc_le (([p, q].length : Nat) : Int); have h4 := W.enc_le (l.length : Int)
 unfold K.pk
 simp only [W.encI, W.encB, List.length_append, List.flatMap_cons, List.flatMap_nil, List.length_nil]
 omega
theorem K.sealed_rng (key p q : Int) (l : List UInt8) (h : l.length ≤ 2) : 11 ≤ (K.sealed key (K.pk p q l)).length ∧ (K.sealed key (K.pk p q l)).length ≤ 100 := by
 have := K.pk_rng p q l h
 unfold K.sealed
 rw [List.length_append, K.seal8_len]
 omega
/-- The packets of Out: not too short, and few. -/
theorem Rn.Inv.outs {c : Nat} {R : Rn.E} (h : Rn.Inv c R) : (K.out R.k).length ≤ 16 ∧ ∀ x ∈ K.out R.k, 11 ≤ x.length ∧ x.length ≤ 100 := by
 have hw : R.k.win = R.win := rfl
 have h1 := h.w
 unfold K.out
 split
 ·refine ⟨by simp, fun x hx => ?_⟩
  rw [List.mem_singleton.1 hx]
  exact K.sealed_rng _ _ _ _ (by simp)
 ·unfold K.outs K.outN
  refine ⟨by rw [List.length_map, List.length_range, hw]; omega, fun x hx => ?_⟩
  obtain ⟨i, -, rfl⟩ := List.mem_map.1 hx
  unfold K.outF
  refine K.sealed_rng _ _ _ _ ?_
  rw [List.getD_eq_getElem?_getD]
  rcases hy : R.k.wait[i]? with _ | y
  ·simp
  ·have hm : y ∈ R.sent := List.mem_of_mem_drop (List.mem_of_getElem? hy)
   have := h.s.2 y hm
   simp only [Option.getD_some]
   omega
/-- The blocks of what lies apart. -/
def Rn.cp (ow : Nat → List Nat) (qv tv : Value) (ge gm : Nat) : Nat → List Nat
 | 0 => ow 0
 | 1 => ow 1
 | 2 => ob qv
 | 3 => ob tv
 | 4 => [ge]
 | 5 => [gm]
 | _ => []
def Rn.ks (f : Nat → List Nat) : List Nat := f 0 ++ (f 1 ++ (f 2 ++ (f 3 ++ (f 4 ++ f 5))))
def Rn.Dis (f : Nat → List Nat) : Prop := ∀ i j, i < 6 → j < 6 → i ≠ j → ∀ x ∈ f i, x ∉ f j
theorem Rn.mem_ks {f : Nat → List Nat} {x : Nat} : x ∈ Rn.ks f ↔ ∃ i, i < 6 ∧ x ∈ f i := by
 unfold Rn.ks
 simp only [List.mem_append]
 constructor
 ·rintro (h | h | h | h | h | h)
  ·exact ⟨0, by omega, h⟩
  ·exact ⟨1, by omega, h⟩
  ·exact ⟨2, by omega, h⟩
  ·exact ⟨3, by omega, h⟩
  ·exact ⟨4, by omega, h⟩
  ·exact ⟨5, by omega, h⟩
 ·rintro ⟨i, hi, h⟩
  match i, hi, h with
  | 0, _, h => exact .inl h
  | 1, _, h => exact .inr (.inl h)
  | 2, _, h => exact .inr (.inr (.inl h))
  | 3, _, h => exact .inr (.inr (.inr (.inl h)))
  | 4, _, h => exact .inr (.inr (.inr (.inr (.inl h))))
  | 5, _, h => exact .inr (.inr (.inr (.inr (.inr h))))
section
variable {B : Nat} {w w' : World} {ef : Nat → Nat} {Sf Sf' : Nat → K.E}
/-- One part turns: the others stay. -/
theorem Rn.turn {f g : Nat → List Nat} {R : List Nat} {i : Nat} (hd : Rn.Dis f) (he : E2 B (Rn.ks f) w ef Sf) (t : TT R w w') (hi : i < 6) (hR : ∀ x ∈ R, x ∈ f i) (hg : ∀ j, j ≠ i → g j = f j) (hn : ∀ x ∈ g i, x ∈ f i ∨ w.heap.size ≤ x) (hl : ∀ x ∈ g i, x < w'.heap.size) :
  Rn.Dis g ∧ E2 B (Rn.ks g) w' ef Sf ∧ ∀ j, j < 6 → j ≠ i → ∀ x ∈ f j, w'.heap[x]? = w.heap[x]? := by
 have hlt : ∀ j, j < 6 → ∀ x ∈ f j, x < w.heap.size := fun j hj x hx => he.kslt x (Rn.mem_ks.2 ⟨j, hj, hx⟩)
 refine ⟨fun a b ha hb hab x hx hy => ?_, ?_, fun j hj hji x hx => t.1.block x (hlt j hj x hx) (fun e => hd i j hi hj (fun e => hji e.symm) x (hR x e) hx)⟩
 ·by_cases ha' : a = i
  ·subst ha'
   rw [hg b (fun e => hab e.symm)] at hy
   rcases hn x hx with h | h
   ·exact hd a b ha hb hab x h hy
   ·have := hlt b hb x hy; omega
  ·rw [hg a ha'] at hx
   by_cases hb' : b = i
   ·subst hb'
    rcases hn x hy with h | h
    ·exact hd a b ha hb hab x hx h
    ·have := hlt a ha x hx; omega
   ·rw [hg b hb'] at hy
    exact hd a b ha hb hab x hx hy
 ·refine Ends.ext (R := R) t he (fun x hx => Rn.mem_ks.2 ⟨i, hi, hR x hx⟩) (fun x hx => ?_) (fun x hx => ?_)
  ·obtain ⟨j, hj, hx⟩ := Rn.mem_ks.1 hx
   by_cases hji : j = i
   ·subst hji
    rcases hn x hx with h | h
    ·exact .inl (Rn.mem_ks.2 ⟨j, hj, h⟩)
    ·exact .inr h
   ·rw [hg j hji] at hx
    exact .inl (Rn.mem_ks.2 ⟨j, hj, hx⟩)
  ·obtain ⟨j, hj, hx⟩ := Rn.mem_ks.1 hx
   by_cases hji : j = i
   ·subst hji; exact hl x hx
   ·rw [hg j hji] at hx
    exact Nat.lt_of_lt_of_le (hlt j hj x hx) t.1.size
theorem RowV.keep {B0 : Nat} {v : Value} {ls : List (List UInt8)} (h : RowV B0 w v ls) (k : KB w w') (hv : ∀ x ∈ ob v, w'.heap[x]? = w.heap[x]?) : RowV B0 w' v ls := by
 have hl := h.lt
 obtain ⟨vs, h1, h2⟩ := h
 refine ⟨vs, ⟨h1.1, ?_⟩, h2.kb k⟩
 rcases h1.2 with h | ⟨g, cap, cur, rfl, hb, hg, r⟩
 ·exact .inl h
 ·exact .inr ⟨g, cap, cur, rfl, hb, (hv g (mem_ob.2 rfl)).trans hg, r⟩
theorem own_keep {B0 e s n : Nat} {v : Value} {xs : List Value} (h : w.ownsRow B0 e s v n xs) (hv : ∀ x ∈ ob v, w'.heap[x]? = w.heap[x]?) : w'.ownsRow B0 e s v n xs := by
 refine ⟨h.1, ?_⟩
 rcases h.2 with h | ⟨g, cap, cur, rfl, hb, hg, r⟩
 ·exact .inl h
 ·exact .inr ⟨g, cap, cur, rfl, hb, (hv g (mem_ob.2 rfl)).trans hg, r⟩
end
/-- What lies where. -/
structure Rn.Mem (B ge gm : Nat) (ef mf : Nat → Nat) (w : World) (ow : Nat → List Nat) (qv tv : Value) (Sf : Nat → K.E) (Rf : Nat → Rn.E) (P : List (List UInt8)) (T : List Nat) : Prop where
 nd : Rn.Dis (Rn.cp ow qv tv ge gm)
 en : E2 B (Rn.ks (Rn.cp ow qv tv ge gm)) w ef Sf
 re : ∀ k, k < 2 → REnd w (mf k) (ow k) (Rf k)
 ro : ∀ k, k < 2 → ∀ x ∈ ow k, B ≤ x
 xe : Bx w ge 35 [pv ef 0, pv ef 1]
 xm : Bx w gm 26 [pv mf 0, pv mf 1]
 bg : B ≤ ge ∧ B ≤ gm
 rp : RowV B w qv P
 rt : w.ownsRow B 3 1 tv T.length (T.map tcell)
section
variable {B ge gm : Nat} {ef mf : Nat → Nat} {w w' : World} {ow : Nat → List Nat} {qv tv v' : Value} {Sf Sf' : Nat → K.E} {Rf : Nat → Rn.E} {P : List (List UInt8)} {T : List Nat}
theorem Rn.Mem.lt (h : Rn.Mem B ge gm ef mf w ow qv tv Sf Rf P T) : ∀ x ∈ Rn.ks (Rn.cp ow qv tv ge gm), x < w.heap.size := h.en.kslt
theorem Rn.cp_ow {k : Nat} (hk : k < 2) : Rn.cp ow qv tv ge gm k = ow k := by
 match k, hk with
 | 0, _ => rfl
 | 1, _ => rfl
/-- Where only the program's ends turn. -/
theorem Rn.Mem.kt (h : Rn.Mem B ge gm ef mf w ow qv tv Sf Rf P T) (k : KT B (Rn.ks (Rn.cp ow qv tv ge gm)) w w') (en : E2 B (Rn.ks (Rn.cp ow qv tv ge gm)) w' ef Sf') : Rn.Mem B ge gm ef mf w' ow qv tv Sf' Rf P T := by
 have hs : ∀ i, i < 6 → ∀ x ∈ Rn.cp ow qv tv ge gm i, w'.heap[x]? = w.heap[x]? := fun i hi x hx => k.row x (Rn.mem_ks.2 ⟨i, hi, hx⟩) (h.lt x (Rn.mem_ks.2 ⟨i, hi, hx⟩))
 exact ⟨h.nd, en, fun j hj => (h.re j hj).keep k.kb (fun x hx => hs j (by omega) x (by rw [Rn.cp_ow hj]; exact hx)), h.ro, (hs 4 (by omega) ge (by simp [Rn.cp])).trans h.xe, (hs 5 (by omega) gm (by simp [Rn.cp])).trans h.xm, h.bg, h.rp.keep k.kb (hs 2 (by omega)), own_keep h.rt (hs 3 (by omega))⟩
theorem Rn.Mem.below (h : Rn.Mem B ge gm ef mf w ow qv tv Sf Rf P T) (hb : Below w.heap.size w w') : Rn.Mem B ge gm ef mf w' ow qv tv Sf Rf P T := h.kt (KT.of hb) (h.en.below hb)
theorem Rn.Mem.congr (h : Rn.Mem B ge gm ef mf w ow qv tv Sf Rf P T) (e : ∀ k, k < 2 → Sf k = Sf' k) : Rn.Mem B ge gm ef mf w ow qv tv Sf' Rf P T := ⟨h.nd, h.en.congr e, h.re, h.ro, h.xe, h.xm, h.bg, h.rp, h.rt⟩
/-- One end of the reference turns. -/
theorem Rn.Mem.ref (h : Rn.Mem B ge gm ef mf w ow qv tv Sf Rf P T) {k : Nat} (hk : k < 2) (hB : B ≤ w.heap.size) {own' : List Nat} {R' : Rn.E} (he : REnd w' (mf k) own' R') (t : TT (ow k) w w') (hn : ∀ x ∈ own', x ∈ ow k ∨ w.heap.size ≤ x) :
  Rn.Mem B ge gm ef mf w' (K.upd ow k own') qv tv Sf (K.upd Rf k R') P T := by
 obtain ⟨h1, h2, h3⟩ := Rn.turn (f := Rn.cp ow qv tv ge gm) (g := Rn.cp (K.upd ow k own') qv tv ge gm) (i := k) h.nd h.en t (by omega) (fun x hx => by rw [Rn.cp_ow hk]; exact hx) (fun j hj => by
  match j, k, hk, hj with
  | 0, 0, _, hj => exact absurd rfl hj
  | 0, 1, _, _ => rfl
  | 1, 0, _, _ => rfl
  | 1, 1, _, hj => exact absurd rfl hj
  | 2, _, _, _ => rfl
  | 3, _, _, _ => rfl
  | 4, _, _, _ => rfl
  | 5, _, _, _ => rfl
  | _ + 6, _, _, _ => rfl) (fun x hx => by rw [Rn.cp_ow hk] at hx ⊢; rw [upd_same] at hx; exact hn x hx) (fun x hx => by rw [Rn.cp_ow hk, upd_same] at hx; exact he.lt x hx)
 refine ⟨h1, h2, fun j hj => ?_, fun j hj x hx => ?_, (h3 4 (by omega) (by omega) ge (by simp [Rn.cp])).trans h.xe, (h3 5 (by omega) (by omega) gm (by simp [Rn.cp])).trans h.xm, h.bg, h.rp.keep t.2 (h3 2 (by omega) (by omega)), own_keep h.rt (h3 3 (by omega) (by omega))⟩
 ·by_cases hjk : j = k
  ·subst hjk; rw [upd_same, upd_same]; exact he
  ·rw [upd_else hjk, upd_else hjk]
   exact (h.re j hj).keep t.2 (fun x hx => h3 j (by omega) hjk x (by rw [Rn.cp_ow hj]; exact hx))
 ·by_cases hjk : j = k
  ·subst hjk
   rw [upd_same] at hx
   rcases hn x hx with e | e
   ·exact h.ro j hj x e
   ·omega
  ·rw [upd_else hjk] at hx
   exact h.ro j hj x hx
/-- A row of packets that grew. -/
theorem Rn.Mem.app_p (h : Rn.Mem B ge gm ef mf w ow qv tv Sf Rf P T) {P' : List (List UInt8)} (hr : RowV B w' v' P') (hg : w.grownBy w' qv.ownBlock) (hkb : KB w w') (hn : ∀ k, v'.ownBlock = some k → qv.ownBlock = some k ∨ w.heap.size ≤ k) : Rn.Mem B ge gm ef mf w' ow v' tv Sf Rf P' T := by
 have t : TT (ob qv) w w' := ⟨(Tc.refl _ w).grown hg (fun k hk => .inl (mem_ob.2 hk)), hkb⟩
 obtain ⟨h1, h2, h3⟩ := Rn.turn (f := Rn.cp ow qv tv ge gm) (g := Rn.cp ow v' tv ge gm) (i := 2) h.nd h.en t (by omega) (fun x hx => hx) (fun j hj => by
  match j, hj with
  | 0, _ => rfl
  | 1, _ => rfl
  | 2, hj => exact absurd rfl hj
  | 3, _ => rfl
  | 4, _ => rfl
  | 5, _ => rfl
  | _ + 6, _ => rfl) (fun x hx => by
   rcases hn x (mem_ob.1 hx) with e | e
   ·exact .inl (mem_ob.2 e)
   ·exact .inr e) (fun x hx => (hr.lt x (mem_ob.1 hx)).2)
 exact ⟨h1, h2, fun j hj => (h.re j hj).keep hkb (fun x hx => h3 j (by omega) (by omega) x (by rw [Rn.cp_ow hj]; exact hx)), h.ro, (h3 4 (by omega) (by omega) ge (by simp [Rn.cp])).trans h.xe, (h3 5 (by omega) (by omega) gm (by simp [Rn.cp])).trans h.xm, h.bg, hr, own_keep h.rt (h3 3 (by omega) (by omega))⟩
/-- The row of aims that grew. -/
theorem Rn.Mem.app_t (h : Rn.Mem B ge gm ef mf w ow qv tv Sf Rf P T) {T' : List Nat} (hr : w'.ownsRow B 3 1 v' T'.length (T'.map tcell)) (hg : w.grownBy w' tv.ownBlock) (hkb : KB w w') (hn : ∀ k, v'.ownBlock = some k → tv.ownBlock = some k ∨ w.heap.size ≤ k) : Rn.Mem B ge gm ef mf w' ow qv v' Sf Rf P T' := by
 have t : TT (ob tv) w w' := ⟨(Tc.refl _ w).grown hg (fun k hk => .inl (mem_ob.2 hk)), hkb⟩
 obtain ⟨h1, h2, h3⟩ := Rn.turn (f := Rn.cp ow qv tv ge gm) (g := Rn.cp ow qv v' ge gm) (i := 3) h.nd h.en t (by omega) (fun x hx => hx) (fun j hj => by
  match j, hj with
  | 0, _ => rfl
  | 1, _ => rfl
  | 2, _ => rfl
  | 3, hj => exact absurd rfl hj
  | 4, _ => rfl
  | 5, _ => rfl
  | _ + 6, _ => rfl) (fun x hx => by
   rcases hn x (mem_ob.1 hx) with e | e
   ·exact .inl (mem_ob.2 e)
   ·exact .inr e) (fun x hx => (hr.lt x (mem_ob.1 hx)).2)
 exact ⟨h1, h2, fun j hj => (h.re j hj).keep hkb (fun x hx => h3 j (by omega) (by omega) x (by rw [Rn.cp_ow hj]; exact hx)), h.ro, (h3 4 (by omega) (by omega) ge (by simp [Rn.cp])).trans h.xe, (h3 5 (by omega) (by omega) gm (by simp [Rn.cp])).trans h.xm, h.bg, h.rp.keep hkb (h3 2 (by omega) (by omega)), hr⟩
end
end Go.Proofs.Ytgdibcgphjmofaa
namespace Go.Proofs.Ytgdibcgphjmofaa
open Go.RowKit
open Go.Maps
set_option linter.unusedVariables false
theorem rin_any (b : Nat) (own : List Nat) (R : Rn.E) (x : Value) (l : List UInt8) (w : World) (h : REnd w b own R) (ok : Rn.ok R) (hk : Rn.hok R) (hbv : BV w x l) (hl : l.length ≤ 1000000000000) :
  Calls Try.prog 20 #[.pointer (some ⟨b, 0, none⟩), x] w (RRIn (K.inn R.k l) b own R w) := by
 have e0 : R.k.key = R.key := rfl
 unfold K.inn
 rw [e0]
 rcases unseal_err R.key l with h0 | h0 | h0
 ·rw [if_neg (by rw [h0]; simp)]
  rcases hR : K.read (K.unseal R.key l).1 with _ | ⟨p, q, s⟩
  ·exact rin_no b own R x l w h ok hk hbv hl h0 hR
  ·exact rin_pk b own R x l w h ok hk hbv hl h0 p q s hR
 ·rw [if_pos (by rw [h0]; simp), h0, if_neg (by decide)]
  exact rin_2 b own R x l w h ok hk hbv hl h0
 ·rw [if_pos (by rw [h0]; simp), h0, if_pos rfl]
  exact rin_9 b own R x l w h ok hk hbv hl h0
section
variable {B ge gm : Nat} {ef mf : Nat → Nat} {w w' : World} {ow : Nat → List Nat} {qv tv x : Value} {Sf : Nat → K.E} {Rf : Nat → Rn.E} {P : List (List UInt8)} {T : List Nat} {k : Nat} {l : List UInt8}
theorem Rn.Mem.k2 (k : KT B (Rn.ks (Rn.cp ow qv tv ge gm)) w w') : KT B [ge, gm] w w' := k.sub (fun x hx => by
 simp only [List.mem_cons, List.not_mem_nil, or_false] at hx
 rcases hx with rfl | rfl
 ·exact Rn.mem_ks.2 ⟨4, by omega, by simp [Rn.cp]⟩
 ·exact Rn.mem_ks.2 ⟨5, by omega, by simp [Rn.cp]⟩)
theorem Rn.Mem.out_ow (h : Rn.Mem B ge gm ef mf w ow qv tv Sf Rf P T) (hk : k < 2) {i : Nat} (hi : i < 6) (hik : i ≠ k) : ∀ y ∈ Rn.cp ow qv tv ge gm i, y ∉ ow k := fun y hy e => h.nd i k hi (by omega) hik y hy (by rw [Rn.cp_ow hk]; exact e)
theorem Rn.Mem.tt (h : Rn.Mem B ge gm ef mf w ow qv tv Sf Rf P T) (hk : k < 2) (t : TT (ow k) w w') : KT B [ge, gm] w w' :=
 ⟨t.1.os, t.1.tape, t.1.output, t.1.size, fun y hy hl => t.1.block y hl (fun e => by have := h.ro k hk y e; omega), fun y hy hl => t.1.block y hl (fun e => by
  simp only [List.mem_cons, List.not_mem_nil, or_false] at hy
  rcases hy with rfl | rfl
  ·exact h.out_ow hk (i := 4) (by omega) (by omega) _ (by simp [Rn.cp]) e
  ·exact h.out_ow hk (i := 5) (by omega) (by omega) _ (by simp [Rn.cp]) e), t.2⟩
theorem m_send (h : Rn.Mem B ge gm ef mf w ow qv tv Sf Rf P T) (hk : k < 2) (hB : B ≤ w.heap.size) (hbv : BV w x l) (h1 : l.length ≤ 65536) (h2 : (Sf k).wait.length < 1000) :
  Calls Try.prog 11 #[.pointer (some ⟨ef k, 0, none⟩), x] w fun e w' => e = .returned (.int .i64 0) ∧ KT B [ge, gm] w w' ∧ Rn.Mem B ge gm ef mf w' ow qv tv (K.upd Sf k { Sf k with wait := (Sf k).wait ++ [l] }) Rf P T :=
 (e2_send h.en hk hB hbv h1 h2).mono fun e w' ⟨h1, h2, h3⟩ => ⟨h1, Rn.Mem.k2 h3, h.kt h3 h2⟩
theorem m_rsend {c : Nat} (h : Rn.Mem B ge gm ef mf w ow qv tv Sf Rf P T) (hk : k < 2) (hB : B ≤ w.heap.size) (hbv : BV w x l) (h1 : l.length ≤ 65536) (hi : Rn.Inv c (Rf k)) (hc : c ≤ 100) :
  Calls Try.prog 12 #[.pointer (some ⟨mf k, 0, none⟩), x] w fun e w' => e = .returned (.int .i64 0) ∧ KT B [ge, gm] w w' ∧ ∃ ow', Rn.Mem B ge gm ef mf w' ow' qv tv Sf (K.upd Rf k { Rf k with sent := (Rf k).sent ++ [l] }) P T :=
 (rsend_yes (mf k) (ow k) (Rf k) x l w (h.re k hk) hbv h1 (by have := hi.s.1; have := hi.a.1; omega) hi.a.1 (by have := hi.s.1; omega) (by have := hi.s.1; have := hi.a.2; omega)).mono fun e w' ⟨h1, own', h2, h3, h4⟩ => ⟨h1, h.tt hk h3, _, h.ref hk hB h2 h3 h4⟩
theorem m_out (h : Rn.Mem B ge gm ef mf w ow qv tv Sf Rf P T) (hk : k < 2) (hB : B ≤ w.heap.size) (ok : K.ok (Sf k)) :
  Calls Try.prog 13 #[.pointer (some ⟨ef k, 0, none⟩)] w fun e w' => ∃ v, e = .returned v ∧ RowV w.heap.size w' v (K.out (Sf k)) ∧ KT B [ge, gm] w w' ∧ Rn.Mem B ge gm ef mf w' ow qv tv (K.upd Sf k { Sf k with owing := false }) Rf P T :=
 (e2_out h.en hk hB ok).mono fun e w' ⟨v, h1, h2, h3, h4⟩ => ⟨v, h1, h2, Rn.Mem.k2 h4, h.kt h4 (h3.sub (fun y hy => List.mem_append.2 (.inr hy)))⟩
theorem m_rout {c : Nat} (h : Rn.Mem B ge gm ef mf w ow qv tv Sf Rf P T) (hk : k < 2) (hB : B ≤ w.heap.size) (hi : Rn.Inv c (Rf k)) (hc : c ≤ 100) :
  Calls Try.prog 14 #[.pointer (some ⟨mf k, 0, none⟩)] w fun e w' => ∃ v, e = .returned v ∧ RowV w.heap.size w' v (K.out (Rf k).k) ∧ KT B [ge, gm] w w' ∧ TT (ow k) w w' ∧ ∃ ow', Rn.Mem B ge gm ef mf w' ow' qv tv Sf (K.upd Rf k { Rf k with owing := false }) P T :=
 (rout_any (mf k) (ow k) (Rf k) w (h.re k hk) (hi.ok (by omega))).mono fun e w' ⟨v, h1, h2, h3, h4⟩ => ⟨v, h1, h2, h.tt hk h4, h4, _, h.ref hk hB h3 h4 (fun y hy => .inl hy)⟩
theorem m_in (h : Rn.Mem B ge gm ef mf w ow qv tv Sf Rf P T) (hk : k < 2) (hB : B ≤ w.heap.size) (ok : K.ok (Sf k)) (hbv : BV w x l) (hl : l.length ≤ 1000000000000) :
  Calls Try.prog 19 #[.pointer (some ⟨ef k, 0, none⟩), x] w fun e w' => ∃ v, e = .returned (.tuple #[v, .int .i64 (K.inn (Sf k) l).2.1]) ∧ RowV w.heap.size w' v (K.inn (Sf k) l).1 ∧ KT B [ge, gm] w w' ∧ Rn.Mem B ge gm ef mf w' ow qv tv (K.upd Sf k (K.inn (Sf k) l).2.2) Rf P T :=
 (e2_in h.en hk hB ok hbv hl).mono fun e w' ⟨v, h1, h2, h3, h4⟩ => ⟨v, h1, h2, Rn.Mem.k2 h4, h.kt h4 (h3.sub (fun y hy => List.mem_append.2 (.inr hy)))⟩
theorem m_rin {c : Nat} (h : Rn.Mem B ge gm ef mf w ow qv tv Sf Rf P T) (hk : k < 2) (hB : B ≤ w.heap.size) (hi : Rn.Inv c (Rf k)) (hc : c ≤ 100) (hbv : BV w x l) (hl : l.length ≤ 1000000000000) :
  Calls Try.prog 20 #[.pointer (some ⟨mf k, 0, none⟩), x] w fun e w' => ∃ v, e = .returned (.tuple #[v, .int .i64 (K.inn (Rf k).k l).2.1]) ∧ RowV w.heap.size w' v (K.inn (Rf k).k l).1 ∧ KT B [ge, gm] w w' ∧ TT (ow k) w w' ∧
   ∃ ow' R', R'.k = (K.inn (Rf k).k l).2.2 ∧ Rn.Inv (c + 1) R' ∧ Rn.Mem B ge gm ef mf w' ow' qv tv Sf (K.upd Rf k R') P T :=
 (rin_any (mf k) (ow k) (Rf k) x l w (h.re k hk) (hi.ok (by omega)) hi.h hbv hl).mono fun e w' ⟨v, own', R', h1, h2, h3, h4, h5, h6, h7, h8⟩ => ⟨v, h1, h2, h.tt hk h7, h7, _, R', h3, hi.inn h3 h4 h5, h.ref hk hB h6 h7 h8⟩
theorem m_wait (h : Rn.Mem B ge gm ef mf w ow qv tv Sf Rf P T) (hk : k < 2) : Calls Try.prog 21 #[.pointer (some ⟨ef k, 0, none⟩)] w fun e w' => e = .returned (.int .i64 ((Sf k).wait.length : Int)) ∧ w = w' := e2_wait h.en hk
theorem m_forg (h : Rn.Mem B ge gm ef mf w ow qv tv Sf Rf P T) (hk : k < 2) : Calls Try.prog 22 #[.pointer (some ⟨ef k, 0, none⟩)] w fun e w' => e = .returned (.int .i64 (Sf k).forged) ∧ w = w' := e2_forg h.en hk
/-- A row of the call's own stays where an end of the reference turns. -/
theorem RowV.tt {B0 : Nat} {v : Value} {ls : List (List UInt8)} (h : RowV B0 w v ls) (t : TT (ow k) w w') (hv : ∀ y ∈ ob v, y ∉ ow k) : RowV B0 w' v ls :=
 h.keep t.2 (fun y hy => t.1.block y (h.lt y (mem_ob.1 hy)).2 (hv y hy))
end
/-- What holds in the loop, plainly. -/
structure Rn.All (c : Nat) (Sf : Nat → K.E) (Rf : Nat → Rn.E) (P : List (List UInt8)) (T : List Nat) : Prop where
 s : ∀ k, k < 2 → Sf k = (Rf k).k
 i : ∀ k, k < 2 → Rn.Inv c (Rf k)
 l : T.length = P.length ∧ P.length ≤ 16 * c
 t : ∀ t ∈ T, t < 2
 p : ∀ x ∈ P, 11 ≤ x.length ∧ x.length ≤ 100
section
variable {c k : Nat} {Sf : Nat → K.E} {Rf : Nat → Rn.E} {P : List (List UInt8)} {T : List Nat}
theorem Rn.All.skip (h : Rn.All c Sf Rf P T) : Rn.All (c + 1) Sf Rf P T := ⟨h.s, fun k hk => (h.i k hk).skip, ⟨h.l.1, by have := h.l.2; omega⟩, h.t, h.p⟩
theorem Rn.All.step (h : Rn.All c Sf Rf P T) {S : K.E} {R : Rn.E} (hk : k < 2) (hs : S = R.k) (hi : Rn.Inv (c + 1) R) : Rn.All (c + 1) (K.upd Sf k S) (K.upd Rf k R) P T := by
 refine ⟨fun j hj => ?_, fun j hj => ?_, ⟨h.l.1, by have := h.l.2; omega⟩, h.t, h.p⟩
 ·by_cases hjk : j = k
  ·subst hjk; rw [upd_same, upd_same]; exact hs
  ·rw [upd_else hjk, upd_else hjk]; exact h.s j hj
 ·by_cases hjk : j = k
  ·subst hjk; rw [upd_same]; exact hi
  ·rw [upd_else hjk]; exact (h.i j hj).skip
theorem Rn.All.send (h : Rn.All c Sf Rf P T) (hk : k < 2) {b : List UInt8} (hb : b.length = 2) : Rn.All (c + 1) (K.upd Sf k { Sf k with wait := (Sf k).wait ++ [b] }) (K.upd Rf k { Rf k with sent := (Rf k).sent ++ [b] }) P T :=
 h.step hk (by rw [h.s k hk, Rn.k_send (h.i k hk).a.2]) ((h.i k hk).send hb)
theorem Rn.All.out (h : Rn.All c Sf Rf P T) (hk : k < 2) : Rn.All (c + 1) (K.upd Sf k { Sf k with owing := false }) (K.upd Rf k { Rf k with owing := false }) (P ++ K.out (Rf k).k) (T ++ List.replicate (K.out (Rf k).k).length (1 - k)) := by
 have h1 := h.step hk (S := { Sf k with owing := false }) (R := { Rf k with owing := false }) (by rw [h.s k hk]; rfl) (h.i k hk).out
 obtain ⟨o1, o2⟩ := (h.i k hk).outs
 refine ⟨h1.s, h1.i, ⟨by rw [List.length_append, List.length_append, List.length_replicate, h.l.1], by rw [List.length_append]; have := h.l.2; omega⟩, fun t ht => ?_, fun x hx => ?_⟩
 ·rcases List.mem_append.1 ht with ht | ht
  ·exact h.t t ht
  ·rw [List.eq_of_mem_replicate ht]; omega
 ·rcases List.mem_append.1 hx with hx | hx
  ·exact h.p x hx
  ·exact o2 x hx
theorem Rn.All.ok (h : Rn.All c Sf Rf P T) (hk : k < 2) (hc : c ≤ 100) : K.ok (Sf k) := by
 rw [h.s k hk]
 exact ((h.i k hk).ok (by omega)).k
theorem Rn.All.wait (h : Rn.All c Sf Rf P T) (hk : k < 2) : ((Sf k).wait.length : Int) = ((Rf k).sent.length : Int) - (Rf k).acked := by
 rw [h.s k hk]
 exact (h.i k hk).wait
theorem Rn.All.forg (h : Rn.All c Sf Rf P T) (hk : k < 2) : (Sf k).forged = (Rf k).forged := by
 rw [h.s k hk]
 rfl
end
end Go.Proofs.Ytgdibcgphjmofaa
