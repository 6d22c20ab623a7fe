/-
 THE WALK of the reference's Meets.
-/
import Derived.Test.YtcfejkpadcccbaaGreatPgO
import Derived.Deep.LoopGhost
namespace Go.Proofs.YtcfejkpadcccbaaGreat
set_option maxHeartbeats 1000000
open Go.RowKit
attribute [local go_sem] run_store_one
set_option linter.unusedVariables false
set_option linter.unusedSimpArgs false
theorem PV.bel {w w' : World} {n₀ : Nat} {A : Option Addr} {n c : Nat} {cs : Nat → Nat → Value} {L : List (Rat × Rat)} (h : PV w n₀ A n c cs L) (hb : Below w.heap.size w w') (hn : n₀ ≤ w.heap.size) : PV w' n₀ A n c cs L := by
 refine ⟨h.len, h.small, h.cap, h.mx, h.one, fun hp => ?_, fun i a ha => (h.v i a ha).below hb⟩
 obtain ⟨b, o, h1, h2, h3⟩ := h.at_ hp
 exact ⟨b, o, h1, h2, fun i hi j hj => (hb.cell (p := ⟨b, o + i * 8 + j, none⟩) (Nat.lt_of_lt_of_le h2 hn)).trans (h3 i hi j hj)⟩
theorem PV.up {w : World} {n₀ n₁ : Nat} {A : Option Addr} {n c : Nat} {cs : Nat → Nat → Value} {L : List (Rat × Rat)} (h : PV w n₀ A n c cs L) (hn : n₀ ≤ n₁) : PV w n₁ A n c cs L := by
 refine ⟨h.len, h.small, h.cap, h.mx, h.one, fun hp => ?_, h.v⟩
 obtain ⟨b, o, h1, h2, h3⟩ := h.at_ hp
 exact ⟨b, o, h1, Nat.lt_of_lt_of_le h2 hn, h3⟩
/-- A row at a later world, below that world's size. -/
theorem PV.now {w w' : World} {A : Option Addr} {n c : Nat} {cs : Nat → Nat → Value} {L : List (Rat × Rat)} (h : PV w w.heap.size A n c cs L) (hb : Below w.heap.size w w') : PV w' w'.heap.size A n c cs L :=
 (h.bel hb (Nat.le_refl _)).up hb.size
theorem PV.el {w : World} {n₀ b o n c i : Nat} {cs : Nat → Nat → Value} {L : List (Rat × Rat)} (h : PV w n₀ (some ⟨b, o, none⟩) n c cs L) (hn : n₀ ≤ w.heap.size) (hi : i < n) :
  Cr w b (o + i * 8) [cs i 0, cs i 1, cs i 2, cs i 3, cs i 4, cs i 5, cs i 6, cs i 7] ∧ VecV w (cs i 0) (cs i 1) (cs i 2) (cs i 3) (cs i 4) (cs i 5) (cs i 6) (cs i 7) (L.getD i (0, 0)) := by
 obtain ⟨b', o', h1, h2, h3⟩ := h.at_ (by omega)
 injection h1 with h1
 injection h1 with e1 e2
 subst e1; subst e2
 have hl := h.len
 refine ⟨⟨Nat.lt_of_lt_of_le h2 hn, fun j x hx => ?_⟩, h.v i _ (by rw [List.getD_eq_getElem?_getD, List.getElem?_eq_getElem (by omega)]; rfl)⟩
 match j, hx with
 | 0, hx => injection hx with hx; subst hx; exact h3 i hi 0 (by omega)
 | 1, hx => injection hx with hx; subst hx; exact h3 i hi 1 (by omega)
 | 2, hx => injection hx with hx; subst hx; exact h3 i hi 2 (by omega)
 | 3, hx => injection hx with hx; subst hx; exact h3 i hi 3 (by omega)
 | 4, hx => injection hx with hx; subst hx; exact h3 i hi 4 (by omega)
 | 5, hx => injection hx with hx; subst hx; exact h3 i hi 5 (by omega)
 | 6, hx => injection hx with hx; subst hx; exact h3 i hi 6 (by omega)
 | 7, hx => injection hx with hx; subst hx; exact h3 i hi 7 (by omega)
 | j + 8, hx => simp at hx
/-- A row of vectors that the region made. -/
def SPV (W : World) (L : List (Rat × Rat)) : Sp := fun w v => ∃ b cs, v = .slice (some ⟨b, 0, none⟩) L.length L.length ∧ W.heap.size ≤ b ∧ PV w w.heap.size (some ⟨b, 0, none⟩) L.length L.length cs L
theorem SPV.mono (W : World) (L : List (Rat × Rat)) : Mono (SPV W L) := fun _ _ _ ⟨b, cs, h1, h2, h3⟩ hb => ⟨b, cs, h1, h2, h3.now hb⟩
theorem five_pv {w w' : World} {a0 a1 a2 a3 a4 a5 a6 a7 b0 b1 b2 b3 b4 b5 b6 b7 c0 c1 c2 c3 c4 c5 c6 c7 d0 d1 d2 d3 d4 d5 d6 d7 e0 e1 e2 e3 e4 e5 e6 e7 : Value} {va vb vc vd ve : Rat × Rat} (hva : VecV w a0 a1 a2 a3 a4 a5 a6 a7 va) (hvb : VecV w b0 b1 b2 b3 b4 b5 b6 b7 vb) (hvc : VecV w c0 c1 c2 c3 c4 c5 c6 c7 vc) (hvd : VecV w d0 d1 d2 d3 d4 d5 d6 d7 vd) (hve : VecV w e0 e1 e2 e3 e4 e5 e6 e7 ve) (hb : Below w.heap.size w w') (hx : Bx w' w.heap.size 35 [a0, a1, a2, a3, a4, a5, a6, a7, b0, b1, b2, b3, b4, b5, b6, b7, c0, c1, c2, c3, c4, c5, c6, c7, d0, d1, d2, d3, d4, d5, d6, d7, e0, e1, e2, e3, e4, e5, e6, e7]) :
  PV w' w'.heap.size (some ⟨w.heap.size, 0, none⟩) 5 5 (fun i j => [a0, a1, a2, a3, a4, a5, a6, a7, b0, b1, b2, b3, b4, b5, b6, b7, c0, c1, c2, c3, c4, c5, c6, c7, d0, d1, d2, d3, d4, d5, d6, d7, e0, e1, e2, e3, e4, e5, e6, e7].getD (i * 8 + j) (.bool false)) [va, vb, vc, vd, ve] := by
 refine ⟨rfl, by omega, Nat.le_refl _, by decide, fun i j => ?_, fun _ => ⟨_, _, rfl, hx.lt, fun i hi j hj => ?_⟩, fun i a ha => ?_⟩
 ·have hall : ∀ u ∈ [a0, a1, a2, a3, a4, a5, a6, a7, b0, b1, b2, b3, b4, b5, b6, b7, c0, c1, c2, c3, c4, c5, c6, c7, d0, d1, d2, d3, d4, d5, d6, d7, e0, e1, e2, e3, e4, e5, e6, e7], u.oneCell' = true := by
   simp only [List.mem_cons, List.not_mem_nil, or_false]
   rintro u (rfl | rfl | rfl | rfl | rfl | rfl | rfl | rfl | rfl | rfl | rfl | rfl | rfl | rfl | rfl | rfl | rfl | rfl | rfl | rfl | rfl | rfl | rfl | rfl | rfl | rfl | rfl | rfl | rfl | rfl | rfl | rfl | rfl | rfl | rfl | rfl | rfl | rfl | rfl | rfl)
   ·exact hva.one0
   ·exact hva.one1
   ·exact hva.one2
   ·exact hva.one3
   ·exact hva.one4
   ·exact hva.one5
   ·exact hva.one6
   ·exact hva.one7
   ·exact hvb.one0
   ·exact hvb.one1
   ·exact hvb.one2
   ·exact hvb.one3
   ·exact hvb.one4
   ·exact hvb.one5
   ·exact hvb.one6
   ·exact hvb.one7
   ·exact hvc.one0
   ·exact hvc.one1
   ·exact hvc.one2
   ·exact hvc.one3
   ·exact hvc.one4
   ·exact hvc.one5
   ·exact hvc.one6
   ·exact hvc.one7
   ·exact hvd.one0
   ·exact hvd.one1
   ·exact hvd.one2
   ·exact hvd.one3
   ·exact hvd.one4
   ·exact hvd.one5
   ·exact hvd.one6
   ·exact hvd.one7
   ·exact hve.one0
   ·exact hve.one1
   ·exact hve.one2
   ·exact hve.one3
   ·exact hve.one4
   ·exact hve.one5
   ·exact hve.one6
   ·exact hve.one7
  rw [List.getD_eq_getElem?_getD]
  cases h : [a0, a1, a2, a3, a4, a5, a6, a7, b0, b1, b2, b3, b4, b5, b6, b7, c0, c1, c2, c3, c4, c5, c6, c7, d0, d1, d2, d3, d4, d5, d6, d7, e0, e1, e2, e3, e4, e5, e6, e7][i * 8 + j]? with
  | none => rfl
  | some x => exact hall x (List.mem_of_getElem? h)
 ·have hlt : i * 8 + j < 40 := by omega
  refine hx.cell ?_
  rw [List.getD_eq_getElem?_getD, Nat.zero_add, List.getElem?_eq_getElem (by simpa using hlt)]
  rfl
 ·match i, ha with
  | 0, ha => injection ha with ha; subst ha; exact hva.below hb
  | 1, ha => injection ha with ha; subst ha; exact hvb.below hb
  | 2, ha => injection ha with ha; subst ha; exact hvc.below hb
  | 3, ha => injection ha with ha; subst ha; exact hvd.below hb
  | 4, ha => injection ha with ha; subst ha; exact hve.below hb
  | i + 5, ha => simp at ha
theorem Does.five {o : Oper} {a : Act} {wx W : World} {a0 a1 a2 a3 a4 a5 a6 a7 b0 b1 b2 b3 b4 b5 b6 b7 c0 c1 c2 c3 c4 c5 c6 c7 d0 d1 d2 d3 d4 d5 d6 d7 e0 e1 e2 e3 e4 e5 e6 e7 : Value} {va vb vc vd ve : Rat × Rat} (hr : (execOp a.eval o).run Tryz.prog wx = .ok (.value (.slice (some ⟨wx.heap.size, 0, none⟩) 5 5)) (wx.alloc (.cells #[a0, a1, a2, a3, a4, a5, a6, a7, b0, b1, b2, b3, b4, b5, b6, b7, c0, c1, c2, c3, c4, c5, c6, c7, d0, d1, d2, d3, d4, d5, d6, d7, e0, e1, e2, e3, e4, e5, e6, e7] 35))) (hva : VecV wx a0 a1 a2 a3 a4 a5 a6 a7 va) (hvb : VecV wx b0 b1 b2 b3 b4 b5 b6 b7 vb) (hvc : VecV wx c0 c1 c2 c3 c4 c5 c6 c7 vc) (hvd : VecV wx d0 d1 d2 d3 d4 d5 d6 d7 vd) (hve : VecV wx e0 e1 e2 e3 e4 e5 e6 e7 ve) (hW : W.heap.size ≤ wx.heap.size) : Does Tryz.prog o (SPV W [va, vb, vc, vd, ve]) false a wx := by
 have hb : Below wx.heap.size wx (wx.alloc (.cells #[a0, a1, a2, a3, a4, a5, a6, a7, b0, b1, b2, b3, b4, b5, b6, b7, c0, c1, c2, c3, c4, c5, c6, c7, d0, d1, d2, d3, d4, d5, d6, d7, e0, e1, e2, e3, e4, e5, e6, e7] 35)) := (Below.refl _ _).alloc (Nat.le_refl _) _
 exact .inl ⟨_, _, hr, hb, ⟨_, _, rfl, hW, five_pv hva hvb hvc hvd hve hb (Bx.new _ _ _)⟩, fun h => by cases h⟩
end Go.Proofs.YtcfejkpadcccbaaGreat
namespace Go.Proofs.YtcfejkpadcccbaaGreat
set_option maxHeartbeats 4000000
open Go.RowKit
attribute [local go_sem] run_store_one
set_option linter.unusedVariables false
set_option linter.unusedSimpArgs false
/-- The five directions. -/
def Pg.dirs (a b c d : Rat × Rat) : List (Rat × Rat) := [Pg.turn (vsub b a), Pg.turn (vsub d c), vsub b a, vsub d c, vsub c a]
/-- No direction separates the segments. -/
def Pg.meets6 (a b c d : Rat × Rat) : Bool := (Pg.dirs a b c d).all fun n => !Pg.btw n a b c d
theorem Bv.turn {k : Nat} {v : Rat × Rat} (h : Bv k v) : Bv k (Pg.turn v) := ⟨h.2.neg, h.1⟩
end Go.Proofs.YtcfejkpadcccbaaGreat
