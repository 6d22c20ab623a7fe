/-
 VECTORS, TURNS AND PLACES IN MEMORY; rows of rationals.
-/
import Derived.Test.YtonkbckgbfcnkaaDo
import Derived.Test.YtonkbckgbfcnkaaPlainQ
namespace Go.Proofs.Ytonkbckgbfcnkaa
open Go.RowKit
/-- A vector, or a turn. -/
def VecV (w : World) (a b c d e f g h : Value) (v : Rat × Rat) : Prop := RatV w a b c d v.1 ∧ RatV w e f g h v.2
section
variable {w w' : World} {a b c d e f g h : Value} {v : Rat × Rat}
theorem VecV.kp (H : VecV w a b c d e f g h v) (k : Kp w w') : VecV w' a b c d e f g h v := ⟨H.1.kp k, H.2.kp k⟩
theorem VecV.below (H : VecV w a b c d e f g h v) (hb : Below w.heap.size w w') : VecV w' a b c d e f g h v := H.kp (.of hb)
theorem VecV.one0 (H : VecV w a b c d e f g h v) : a.oneCell' = true := H.1.one0
theorem VecV.one1 (H : VecV w a b c d e f g h v) : b.oneCell' = true := H.1.one1
theorem VecV.one2 (H : VecV w a b c d e f g h v) : c.oneCell' = true := H.1.one2
theorem VecV.one3 (H : VecV w a b c d e f g h v) : d.oneCell' = true := H.1.one3
theorem VecV.one4 (H : VecV w a b c d e f g h v) : e.oneCell' = true := H.2.one0
theorem VecV.one5 (H : VecV w a b c d e f g h v) : f.oneCell' = true := H.2.one1
theorem VecV.one6 (H : VecV w a b c d e f g h v) : g.oneCell' = true := H.2.one2
theorem VecV.one7 (H : VecV w a b c d e f g h v) : h.oneCell' = true := H.2.one3
end
/-- What returns a vector, or a turn. -/
def RV (v : Rat × Rat) (w : World) (e : Ending) (w' : World) : Prop := ∃ a0 a1 a2 a3 a4 a5 a6 a7, e = .returned (.agg #[a0, a1, a2, a3, a4, a5, a6, a7]) ∧ VecV w' a0 a1 a2 a3 a4 a5 a6 a7 v ∧ Below w.heap.size w w'
/-- Bits of a vector. -/
def Bv (k : Nat) (v : Rat × Rat) : Prop := Bq k v.1 ∧ Bq k v.2
def SV (v : Rat × Rat) : Sp := fun w u => ∃ a0 a1 a2 a3 a4 a5 a6 a7, u = .agg #[a0, a1, a2, a3, a4, a5, a6, a7] ∧ VecV w a0 a1 a2 a3 a4 a5 a6 a7 v
theorem SV.mono (v : Rat × Rat) : Mono (SV v) := fun _ _ _ ⟨a, b, c, d, e, f, g, h, h1, h2⟩ hb => ⟨a, b, c, d, e, f, g, h, h1, h2.below hb⟩
theorem Does.rv {P : Program} {o : Oper} {a : Act} {wx : World} {f : FuncId} {args : Array Value} {v : Rat × Rat} (hr : (execOp a.eval o).run P wx = .ok (.enter f args) wx) (hc : Calls P f args wx (RV v wx)) : Does P o (SV v) false a wx :=
 .inr ⟨rfl, f, args, hr, hc.mono fun _ _ ⟨a0, a1, a2, a3, a4, a5, a6, a7, h1, h2, h3⟩ => ⟨_, h1, h3, a0, a1, a2, a3, a4, a5, a6, a7, rfl, h2⟩⟩
/-- A row of rationals that lies in a slice. -/
def RL (w : World) (v : Value) (l : List Rat) : Prop := ∃ A n c, v = .slice A n c ∧ n = l.length ∧ n ≤ c ∧ c ≤ maxLen ∧
 ∀ i r, l[i]? = some r → ∃ b o a0 a1 a2 a3, A = some ⟨b, o, none⟩ ∧ b < w.heap.size ∧ w.cell? ⟨b, o + i * 4, none⟩ = some a0 ∧ w.cell? ⟨b, o + i * 4 + 1, none⟩ = some a1 ∧ w.cell? ⟨b, o + i * 4 + 2, none⟩ = some a2 ∧ w.cell? ⟨b, o + i * 4 + 3, none⟩ = some a3 ∧ RatV w a0 a1 a2 a3 r
theorem RL.below {w w' : World} {v : Value} {l : List Rat} (h : RL w v l) (hb : Below w.heap.size w w') : RL w' v l := by
 obtain ⟨A, n, c, h1, h2, h3, h4, h5⟩ := h
 refine ⟨A, n, c, h1, h2, h3, h4, fun i r hr => ?_⟩
 obtain ⟨b, o, a0, a1, a2, a3, rfl, hlt, c0, c1, c2, c3, hR⟩ := h5 i r hr
 exact ⟨b, o, a0, a1, a2, a3, rfl, Nat.lt_of_lt_of_le hlt hb.size, kc c0 hb hlt, kc c1 hb hlt, kc c2 hb hlt, kc c3 hb hlt, hR.below hb⟩
def SL (l : List Rat) : Sp := fun w v => RL w v l
theorem SL.mono (l : List Rat) : Mono (SL l) := fun _ _ _ h hb => h.below hb
/-- Two rationals in a new row. -/
theorem RL.two {w : World} {a0 a1 a2 a3 b0 b1 b2 b3 : Value} {r t : Rat} (hr : RatV w a0 a1 a2 a3 r) (ht : RatV w b0 b1 b2 b3 t) (T : Nat) :
  RL (w.alloc (.cells #[a0, a1, a2, a3, b0, b1, b2, b3] T)) (.slice (some ⟨w.heap.size, 0, none⟩) 2 2) [r, t] := by
 have hB : Below w.heap.size w (w.alloc (.cells #[a0, a1, a2, a3, b0, b1, b2, b3] T)) := (Below.refl _ _).alloc (Nat.le_refl _) _
 have hx : Bx (w.alloc (.cells #[a0, a1, a2, a3, b0, b1, b2, b3] T)) w.heap.size T [a0, a1, a2, a3, b0, b1, b2, b3] := heap_alloc_new w _
 refine ⟨_, 2, 2, rfl, rfl, Nat.le_refl _, by decide, fun i q hq => ?_⟩
 match i, hq with
 | 0, hq => injection hq with hq; subst hq; exact ⟨_, 0, a0, a1, a2, a3, rfl, hx.lt, hx.cell rfl, hx.cell rfl, hx.cell rfl, hx.cell rfl, hr.below hB⟩
 | 1, hq => injection hq with hq; subst hq; exact ⟨_, 0, b0, b1, b2, b3, rfl, hx.lt, hx.cell rfl, hx.cell rfl, hx.cell rfl, hx.cell rfl, ht.below hB⟩
 | i + 2, hq => simp at hq
theorem Does.two {P : Program} {o : Oper} {a : Act} {wx : World} {a0 a1 a2 a3 b0 b1 b2 b3 : Value} {r t : Rat} {T : Nat} (hr : (execOp a.eval o).run P wx = .ok (.value (.slice (some ⟨wx.heap.size, 0, none⟩) 2 2)) (wx.alloc (.cells #[a0, a1, a2, a3, b0, b1, b2, b3] T)))
  (h1 : RatV wx a0 a1 a2 a3 r) (h2 : RatV wx b0 b1 b2 b3 t) : Does P o (SL [r, t]) false a wx :=
 .inl ⟨_, _, hr, (Below.refl _ _).alloc (Nat.le_refl _) _, RL.two h1 h2 T, fun h => by cases h⟩
/-- The sum of rationals, from the front. -/
def rsum (l : List Rat) : Rat := l.foldl (· + ·) 0
theorem rsum_two (r t : Rat) : rsum [r, t] = r + t := by simp [rsum, Rat.zero_add]
theorem rsum_take {l : List Rat} {i : Nat} {r : Rat} (h : l[i]? = some r) : rsum (l.take (i + 1)) = rsum (l.take i) + r := by
 have h1 := List.getElem?_eq_some_iff.1 h
 rw [List.take_succ_eq_append_getElem h1.1, h1.2]
 simp [rsum]
def vadd (v u : Rat × Rat) : Rat × Rat := (v.1 + u.1, v.2 + u.2)
def vsub (v u : Rat × Rat) : Rat × Rat := (v.1 - u.1, v.2 - u.2)
def vsca (v : Rat × Rat) (k : Rat) : Rat × Rat := (v.1 * k, v.2 * k)
def vdot (v u : Rat × Rat) : Rat := v.1 * u.1 + v.2 * u.2
def vcrs (v u : Rat × Rat) : Rat := v.1 * u.2 - v.2 * u.1
def vrot (t a : Rat × Rat) : Rat × Rat := (t.1 * a.1 - t.2 * a.2, t.2 * a.1 + t.1 * a.2)
def vbak (t : Rat × Rat) : Rat × Rat := (t.1, -t.2)
theorem Bv.mono {j k : Nat} {v : Rat × Rat} (h : Bv j v) (hk : j ≤ k) : Bv k v := ⟨h.1.mono hk, h.2.mono hk⟩
/-- A place. -/
abbrev Pl := (Rat × Rat) × (Rat × Rat)
def PlaceV (w : World) (a0 a1 a2 a3 a4 a5 a6 a7 b0 b1 b2 b3 b4 b5 b6 b7 : Value) (p : Pl) : Prop := VecV w a0 a1 a2 a3 a4 a5 a6 a7 p.1 ∧ VecV w b0 b1 b2 b3 b4 b5 b6 b7 p.2
theorem VecV.ones {w : World} {a0 a1 a2 a3 a4 a5 a6 a7 : Value} {x : Rat × Rat} (H : VecV w a0 a1 a2 a3 a4 a5 a6 a7 x) : a0.oneCell' = true ∧ a1.oneCell' = true ∧ a2.oneCell' = true ∧ a3.oneCell' = true ∧ a4.oneCell' = true ∧ a5.oneCell' = true ∧ a6.oneCell' = true ∧ a7.oneCell' = true := ⟨H.one0, H.one1, H.one2, H.one3, H.one4, H.one5, H.one6, H.one7⟩
end Go.Proofs.Ytonkbckgbfcnkaa
