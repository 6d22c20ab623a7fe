/-
 THE ENGINE, 11: integers, rationals and vectors; contracts of the elder kind turned into the engine's, and back.
-/
import Derived.Test.YtcfejkpadcccbaaGreatFlow
import Derived.Test.YtcfejkpadcccbaaGreatMemR
import Derived.Test.YtcfejkpadcccbaaGreatEnJ
import Derived.Test.YtcfejkpadcccbaaGreatChecked
import Derived.KernelRfl
namespace Go.Proofs.YtcfejkpadcccbaaGreat
open Go.RowKit
section
variable {o : Oper} {a : Act} {wx : World} {d g off : Nat}
theorem fa_Int0 (ho : o.op = .fieldAddr 31 (.tmp d) 0) (he : a.eval (.tmp d) = .pointer (some ⟨g, off, none⟩)) : Does Tryz.prog o (SC (.pointer (some ⟨g, off + 0, none⟩))) false a wx := by
 simp [Act.eval] at he
 exact Does.val (by simp [execOp, Act.eval, ho, he, go_sem]) rfl
theorem fa_Vec0 (ho : o.op = .fieldAddr 35 (.tmp d) 0) (he : a.eval (.tmp d) = .pointer (some ⟨g, off, none⟩)) : Does Tryz.prog o (SC (.pointer (some ⟨g, off + 0, none⟩))) false a wx := by
 simp [Act.eval] at he
 exact Does.val (by simp [execOp, Act.eval, ho, he, go_sem]) rfl
theorem fa_Vec1 (ho : o.op = .fieldAddr 35 (.tmp d) 1) (he : a.eval (.tmp d) = .pointer (some ⟨g, off, none⟩)) : Does Tryz.prog o (SC (.pointer (some ⟨g, off + 4, none⟩))) false a wx := by
 simp [Act.eval] at he
 exact Does.val (by simp [execOp, Act.eval, ho, he, go_sem]) rfl
theorem ld_bool {T : Nat} {l : List Value} {a0 : Value} (ho : o.op = .load 4 (.tmp d)) (he : a.eval (.tmp d) = .pointer (some ⟨g, off, none⟩)) (hx : Bx wx g T l) (h0 : l[off]? = some a0) : Does Tryz.prog o (SC (a0)) false a wx := by
 simp [Act.eval] at he
 have c0 := hx.cell h0
 exact Does.val (by simp [execOp, Act.eval, ho, he, go_sem, c0]) rfl
theorem ld_Int {T : Nat} {l : List Value} {a0 a1 : Value} (ho : o.op = .load 31 (.tmp d)) (he : a.eval (.tmp d) = .pointer (some ⟨g, off, none⟩)) (hx : Bx wx g T l) (h0 : l[off]? = some a0) (h1 : l[off + 1]? = some a1) : Does Tryz.prog o (SC (.agg #[a0, a1])) false a wx := by
 simp [Act.eval] at he
 have c0 := hx.cell h0
 have c1 := hx.cell h1
 exact Does.val (by simp [execOp, Act.eval, ho, he, go_sem, c0, c1]) rfl
theorem ld_Rat {T : Nat} {l : List Value} {a0 a1 a2 a3 : Value} (ho : o.op = .load 33 (.tmp d)) (he : a.eval (.tmp d) = .pointer (some ⟨g, off, none⟩)) (hx : Bx wx g T l) (h0 : l[off]? = some a0) (h1 : l[off + 1]? = some a1) (h2 : l[off + 2]? = some a2) (h3 : l[off + 3]? = some a3) : Does Tryz.prog o (SC (.agg #[a0, a1, a2, a3])) false a wx := by
 simp [Act.eval] at he
 have c0 := hx.cell h0
 have c1 := hx.cell h1
 have c2 := hx.cell h2
 have c3 := hx.cell h3
 exact Does.val (by simp [execOp, Act.eval, ho, he, go_sem, c0, c1, c2, c3]) rfl
theorem ld_Vec {T : Nat} {l : List Value} {a0 a1 a2 a3 a4 a5 a6 a7 : Value} (ho : o.op = .load 35 (.tmp d)) (he : a.eval (.tmp d) = .pointer (some ⟨g, off, none⟩)) (hx : Bx wx g T l) (h0 : l[off]? = some a0) (h1 : l[off + 1]? = some a1) (h2 : l[off + 2]? = some a2) (h3 : l[off + 3]? = some a3) (h4 : l[off + 4]? = some a4) (h5 : l[off + 5]? = some a5) (h6 : l[off + 6]? = some a6) (h7 : l[off + 7]? = some a7) : Does Tryz.prog o (SC (.agg #[a0, a1, a2, a3, a4, a5, a6, a7])) false a wx := by
 simp [Act.eval] at he
 have c0 := hx.cell h0
 have c1 := hx.cell h1
 have c2 := hx.cell h2
 have c3 := hx.cell h3
 have c4 := hx.cell h4
 have c5 := hx.cell h5
 have c6 := hx.cell h6
 have c7 := hx.cell h7
 exact Does.val (by simp [execOp, Act.eval, ho, he, go_sem, c0, c1, c2, c3, c4, c5, c6, c7]) rfl
theorem call1 {P : Program} {f : FuncId} {ts : Array TypeId} {x0 : Operand} {v0 : Value} (ho : o.op = .call { callee := .value (.func f), args := #[x0], argTypes := ts }) (hf : ∀ vs, (callFunc f vs).run P wx = .ok (.enter f vs) wx) (e0 : a.eval x0 = v0) :
  (execOp a.eval o).run P wx = .ok (.enter f #[v0]) wx := by
 have h : ∀ ρ : Operand → Value, ρ (.func f) = .func (.func f) #[] #[] → ρ x0 = v0 → (execOp ρ o).run P wx = .ok (.enter f #[v0]) wx := by
  intro ρ ef e0
  simp [execOp, ho, ef, e0, go_sem, hf]
 exact h a.eval rfl e0
theorem call2 {P : Program} {f : FuncId} {ts : Array TypeId} {x0 x1 : Operand} {v0 v1 : Value} (ho : o.op = .call { callee := .value (.func f), args := #[x0, x1], argTypes := ts }) (hf : ∀ vs, (callFunc f vs).run P wx = .ok (.enter f vs) wx) (e0 : a.eval x0 = v0) (e1 : a.eval x1 = v1) :
  (execOp a.eval o).run P wx = .ok (.enter f #[v0, v1]) wx := by
 have h : ∀ ρ : Operand → Value, ρ (.func f) = .func (.func f) #[] #[] → ρ x0 = v0 → ρ x1 = v1 → (execOp ρ o).run P wx = .ok (.enter f #[v0, v1]) wx := by
  intro ρ ef e0 e1
  simp [execOp, ho, ef, e0, e1, go_sem, hf]
 exact h a.eval rfl e0 e1
theorem call3 {P : Program} {f : FuncId} {ts : Array TypeId} {x0 x1 x2 : Operand} {v0 v1 v2 : Value} (ho : o.op = .call { callee := .value (.func f), args := #[x0, x1, x2], argTypes := ts }) (hf : ∀ vs, (callFunc f vs).run P wx = .ok (.enter f vs) wx) (e0 : a.eval x0 = v0) (e1 : a.eval x1 = v1) (e2 : a.eval x2 = v2) :
  (execOp a.eval o).run P wx = .ok (.enter f #[v0, v1, v2]) wx := by
 have h : ∀ ρ : Operand → Value, ρ (.func f) = .func (.func f) #[] #[] → ρ x0 = v0 → ρ x1 = v1 → ρ x2 = v2 → (execOp ρ o).run P wx = .ok (.enter f #[v0, v1, v2]) wx := by
  intro ρ ef e0 e1 e2
  simp [execOp, ho, ef, e0, e1, e2, go_sem, hf]
 exact h a.eval rfl e0 e1 e2
end
end Go.Proofs.YtcfejkpadcccbaaGreat
namespace Go.Proofs.YtcfejkpadcccbaaGreat
theorem q_eq {p q : Int} (hq : q ≠ 0) : (Rat.divInt p q).num * q = p * (Rat.divInt p q).den :=
 (Rat.divInt_eq_divInt_iff (by have := (Rat.divInt p q).den_nz; omega) hq).1 (Rat.num_divInt_den _)
theorem q_dvd {p q : Int} (hq : q ≠ 0) : (Rat.divInt p q).num.natAbs ∣ p.natAbs ∧ (Rat.divInt p q).den ∣ q.natAbs := by
 have h := congrArg Int.natAbs (q_eq (p := p) hq)
 rw [Int.natAbs_mul, Int.natAbs_mul, Int.natAbs_natCast] at h
 have hr := (Rat.divInt p q).reduced
 exact ⟨Nat.Coprime.dvd_of_dvd_mul_right hr ⟨_, h.symm⟩, Nat.Coprime.dvd_of_dvd_mul_left hr.symm ⟨p.natAbs, by rw [h, Nat.mul_comm]⟩⟩
theorem den_ne (r : Rat) : (r.den : Int) ≠ 0 := by have := r.den_nz; omega
theorem q_add (r t : Rat) : Rat.divInt (r.num * t.den + t.num * r.den) (r.den * t.den) = r + t := by
 rw [← Rat.divInt_add_divInt _ _ (den_ne r) (den_ne t), Rat.num_divInt_den, Rat.num_divInt_den]
theorem q_mul (r t : Rat) : Rat.divInt (r.num * t.num) (r.den * t.den) = r * t := by
 rw [← Rat.divInt_mul_divInt, Rat.num_divInt_den, Rat.num_divInt_den]
theorem q_mulx (r t : Rat) : Rat.divInt r.num t.den * Rat.divInt t.num r.den = r * t := by
 rw [Rat.divInt_mul_divInt, ← q_mul r t, Int.mul_comm (t.den : Int)]
theorem q_gcd (r t : Rat) : Int.gcd ((Rat.divInt r.num t.den).num * (Rat.divInt t.num r.den).num) ((Rat.divInt r.num t.den).den * (Rat.divInt t.num r.den).den) = 1 := by
 have h1 := q_dvd (p := r.num) (den_ne t)
 have h2 := q_dvd (p := t.num) (den_ne r)
 rw [Int.natAbs_natCast] at h1 h2
 have c1 := (Rat.divInt r.num t.den).reduced
 have c2 := (Rat.divInt t.num r.den).reduced
 have c3 : (Rat.divInt r.num t.den).num.natAbs.Coprime (Rat.divInt t.num r.den).den := (r.reduced.coprime_dvd_left h1.1).coprime_dvd_right h2.2
 have c4 : (Rat.divInt t.num r.den).num.natAbs.Coprime (Rat.divInt r.num t.den).den := (t.reduced.coprime_dvd_left h2.1).coprime_dvd_right h1.2
 have h3 := Nat.Coprime.mul_left (c1.mul_right c3) (c4.mul_right c2)
 rw [← Int.natAbs_mul] at h3
 unfold Int.gcd
 rw [← Int.natCast_mul, Int.natAbs_natCast]
 exact h3
theorem Bd.dvd {k : Nat} {x y : Int} (h : I.Bd k y) (hd : x.natAbs ∣ y.natAbs) (h0 : y ≠ 0) : I.Bd k x := h.of_le (Nat.le_of_dvd (by omega) hd)
theorem Bq.mono {j k : Nat} {r : Rat} (h : Bq j r) (hk : j ≤ k) : Bq k r := ⟨h.1.mono hk, h.2.mono hk⟩
theorem Bq.divInt {k : Nat} {p q : Int} (hp : I.Bd k p) (hq : I.Bd k q) (h0 : q ≠ 0) : Bq k (Rat.divInt p q) := by
 have h := q_dvd (p := p) h0
 refine ⟨?_, Bd.dvd hq (by rw [Int.natAbs_natCast]; exact h.2) h0⟩
 by_cases hp0 : p = 0
 ·subst hp0
  rw [Rat.zero_divInt]
  exact I.Bd.zero k
 ·exact Bd.dvd hp h.1 hp0
theorem Bq.add {j k : Nat} {r t : Rat} (h : Bq j r) (g : Bq k t) : Bq (j + k + 1) (r + t) := by
 rw [← q_add]
 exact Bq.divInt ((h.1.mul g.2).add' (by rw [Nat.add_comm]; exact g.1.mul h.2)) ((h.2.mul g.2).mono (by omega)) (by have := den_ne r; have := den_ne t; exact Int.mul_ne_zero ‹_› ‹_›)
theorem Bq.mul {j k : Nat} {r t : Rat} (h : Bq j r) (g : Bq k t) : Bq (j + k) (r * t) := by
 rw [← q_mul]
 exact Bq.divInt (h.1.mul g.1) (h.2.mul g.2) (Int.mul_ne_zero (den_ne r) (den_ne t))
theorem Bq.neg {k : Nat} {r : Rat} (h : Bq k r) : Bq k (-r) := ⟨by rw [Rat.neg_num]; exact h.1.neg, by rw [Rat.neg_den]; exact h.2⟩
theorem Bq.inv {k : Nat} {r : Rat} (h : Bq k r) (h0 : r.num ≠ 0) : Bq k r⁻¹ := by
 rw [Rat.inv_def]
 exact Bq.divInt h.2 h.1 h0
theorem num_zero {r : Rat} : r.num = 0 ↔ r = 0 := Rat.num_eq_zero
theorem Bq.zero {k : Nat} (hk : 0 < k) : Bq k 0 := ⟨I.Bd.zero k, by
 show (1 : Nat) < 2 ^ k
 exact Nat.one_lt_two_pow (by omega)⟩
end Go.Proofs.YtcfejkpadcccbaaGreat
namespace Go.Proofs.YtcfejkpadcccbaaGreat
open Go.RowKit
/-- A vector, or a turn. -/
def VecV (w : World) (a b c d e f g h : Value) (v : Rat × Rat) : Prop := RatV w a b c d v.1 ∧ RatV w e f g h v.2
section
variable {w w' : World} {a b c d e f g h : Value} {v : Rat × Rat}
theorem VecV.kp (H : VecV w a b c d e f g h v) (k : Kp w w') : VecV w' a b c d e f g h v := ⟨H.1.kp k, H.2.kp k⟩
theorem VecV.below (H : VecV w a b c d e f g h v) (hb : Below w.heap.size w w') : VecV w' a b c d e f g h v := H.kp (.of hb)
theorem VecV.one0 (H : VecV w a b c d e f g h v) : a.oneCell' = true := H.1.one0
theorem VecV.one1 (H : VecV w a b c d e f g h v) : b.oneCell' = true := H.1.one1
theorem VecV.one2 (H : VecV w a b c d e f g h v) : c.oneCell' = true := H.1.one2
theorem VecV.one3 (H : VecV w a b c d e f g h v) : d.oneCell' = true := H.1.one3
theorem VecV.one4 (H : VecV w a b c d e f g h v) : e.oneCell' = true := H.2.one0
theorem VecV.one5 (H : VecV w a b c d e f g h v) : f.oneCell' = true := H.2.one1
theorem VecV.one6 (H : VecV w a b c d e f g h v) : g.oneCell' = true := H.2.one2
theorem VecV.one7 (H : VecV w a b c d e f g h v) : h.oneCell' = true := H.2.one3
end
/-- What returns a vector, or a turn. -/
def RV (v : Rat × Rat) (w : World) (e : Ending) (w' : World) : Prop := ∃ a0 a1 a2 a3 a4 a5 a6 a7, e = .returned (.agg #[a0, a1, a2, a3, a4, a5, a6, a7]) ∧ VecV w' a0 a1 a2 a3 a4 a5 a6 a7 v ∧ Below w.heap.size w w'
/-- Bits of a vector. -/
def Bv (k : Nat) (v : Rat × Rat) : Prop := Bq k v.1 ∧ Bq k v.2
def SV (v : Rat × Rat) : Sp := fun w u => ∃ a0 a1 a2 a3 a4 a5 a6 a7, u = .agg #[a0, a1, a2, a3, a4, a5, a6, a7] ∧ VecV w a0 a1 a2 a3 a4 a5 a6 a7 v
theorem SV.mono (v : Rat × Rat) : Mono (SV v) := fun _ _ _ ⟨a, b, c, d, e, f, g, h, h1, h2⟩ hb => ⟨a, b, c, d, e, f, g, h, h1, h2.below hb⟩
theorem Does.rv {P : Program} {o : Oper} {a : Act} {wx : World} {f : FuncId} {args : Array Value} {v : Rat × Rat} (hr : (execOp a.eval o).run P wx = .ok (.enter f args) wx) (hc : Calls P f args wx (RV v wx)) : Does P o (SV v) false a wx :=
 .inr ⟨rfl, f, args, hr, hc.mono fun _ _ ⟨a0, a1, a2, a3, a4, a5, a6, a7, h1, h2, h3⟩ => ⟨_, h1, h3, a0, a1, a2, a3, a4, a5, a6, a7, rfl, h2⟩⟩
/-- A row of rationals that lies in a slice. -/
def RL (w : World) (v : Value) (l : List Rat) : Prop := ∃ A n c, v = .slice A n c ∧ n = l.length ∧ n ≤ c ∧ c ≤ maxLen ∧
 ∀ i r, l[i]? = some r → ∃ b o a0 a1 a2 a3, A = some ⟨b, o, none⟩ ∧ b < w.heap.size ∧ w.cell? ⟨b, o + i * 4, none⟩ = some a0 ∧ w.cell? ⟨b, o + i * 4 + 1, none⟩ = some a1 ∧ w.cell? ⟨b, o + i * 4 + 2, none⟩ = some a2 ∧ w.cell? ⟨b, o + i * 4 + 3, none⟩ = some a3 ∧ RatV w a0 a1 a2 a3 r
theorem RL.below {w w' : World} {v : Value} {l : List Rat} (h : RL w v l) (hb : Below w.heap.size w w') : RL w' v l := by
 obtain ⟨A, n, c, h1, h2, h3, h4, h5⟩ := h
 refine ⟨A, n, c, h1, h2, h3, h4, fun i r hr => ?_⟩
 obtain ⟨b, o, a0, a1, a2, a3, rfl, hlt, c0, c1, c2, c3, hR⟩ := h5 i r hr
 exact ⟨b, o, a0, a1, a2, a3, rfl, Nat.lt_of_lt_of_le hlt hb.size, kc c0 hb hlt, kc c1 hb hlt, kc c2 hb hlt, kc c3 hb hlt, hR.below hb⟩
def SL (l : List Rat) : Sp := fun w v => RL w v l
theorem SL.mono (l : List Rat) : Mono (SL l) := fun _ _ _ h hb => h.below hb
/-- Two rationals in a new row. -/
theorem RL.two {w : World} {a0 a1 a2 a3 b0 b1 b2 b3 : Value} {r t : Rat} (hr : RatV w a0 a1 a2 a3 r) (ht : RatV w b0 b1 b2 b3 t) (T : Nat) :
  RL (w.alloc (.cells #[a0, a1, a2, a3, b0, b1, b2, b3] T)) (.slice (some ⟨w.heap.size, 0, none⟩) 2 2) [r, t] := by
 have hB : Below w.heap.size w (w.alloc (.cells #[a0, a1, a2, a3, b0, b1, b2, b3] T)) := (Below.refl _ _).alloc (Nat.le_refl _) _
 have hx : Bx (w.alloc (.cells #[a0, a1, a2, a3, b0, b1, b2, b3] T)) w.heap.size T [a0, a1, a2, a3, b0, b1, b2, b3] := heap_alloc_new w _
 refine ⟨_, 2, 2, rfl, rfl, Nat.le_refl _, by decide, fun i q hq => ?_⟩
 match i, hq with
 | 0, hq => injection hq with hq; subst hq; exact ⟨_, 0, a0, a1, a2, a3, rfl, hx.lt, hx.cell rfl, hx.cell rfl, hx.cell rfl, hx.cell rfl, hr.below hB⟩
 | 1, hq => injection hq with hq; subst hq; exact ⟨_, 0, b0, b1, b2, b3, rfl, hx.lt, hx.cell rfl, hx.cell rfl, hx.cell rfl, hx.cell rfl, ht.below hB⟩
 | i + 2, hq => simp at hq
theorem Does.two {P : Program} {o : Oper} {a : Act} {wx : World} {a0 a1 a2 a3 b0 b1 b2 b3 : Value} {r t : Rat} {T : Nat} (hr : (execOp a.eval o).run P wx = .ok (.value (.slice (some ⟨wx.heap.size, 0, none⟩) 2 2)) (wx.alloc (.cells #[a0, a1, a2, a3, b0, b1, b2, b3] T)))
  (h1 : RatV wx a0 a1 a2 a3 r) (h2 : RatV wx b0 b1 b2 b3 t) : Does P o (SL [r, t]) false a wx :=
 .inl ⟨_, _, hr, (Below.refl _ _).alloc (Nat.le_refl _) _, RL.two h1 h2 T, fun h => by cases h⟩
/-- The sum of rationals, from the front. -/
def rsum (l : List Rat) : Rat := l.foldl (· + ·) 0
theorem rsum_two (r t : Rat) : rsum [r, t] = r + t := by simp [rsum, Rat.zero_add]
theorem rsum_take {l : List Rat} {i : Nat} {r : Rat} (h : l[i]? = some r) : rsum (l.take (i + 1)) = rsum (l.take i) + r := by
 have h1 := List.getElem?_eq_some_iff.1 h
 rw [List.take_succ_eq_append_getElem h1.1, h1.2]
 simp [rsum]
def vadd (v u : Rat × Rat) : Rat × Rat := (v.1 + u.1, v.2 + u.2)
def vsub (v u : Rat × Rat) : Rat × Rat := (v.1 - u.1, v.2 - u.2)
def vsca (v : Rat × Rat) (k : Rat) : Rat × Rat := (v.1 * k, v.2 * k)
def vdot (v u : Rat × Rat) : Rat := v.1 * u.1 + v.2 * u.2
def vcrs (v u : Rat × Rat) : Rat := v.1 * u.2 - v.2 * u.1
def vrot (t a : Rat × Rat) : Rat × Rat := (t.1 * a.1 - t.2 * a.2, t.2 * a.1 + t.1 * a.2)
def vbak (t : Rat × Rat) : Rat × Rat := (t.1, -t.2)
theorem Bv.mono {j k : Nat} {v : Rat × Rat} (h : Bv j v) (hk : j ≤ k) : Bv k v := ⟨h.1.mono hk, h.2.mono hk⟩
/-- A place. -/
abbrev Pl := (Rat × Rat) × (Rat × Rat)
def PlaceV (w : World) (a0 a1 a2 a3 a4 a5 a6 a7 b0 b1 b2 b3 b4 b5 b6 b7 : Value) (p : Pl) : Prop := VecV w a0 a1 a2 a3 a4 a5 a6 a7 p.1 ∧ VecV w b0 b1 b2 b3 b4 b5 b6 b7 p.2
theorem VecV.ones {w : World} {a0 a1 a2 a3 a4 a5 a6 a7 : Value} {x : Rat × Rat} (H : VecV w a0 a1 a2 a3 a4 a5 a6 a7 x) : a0.oneCell' = true ∧ a1.oneCell' = true ∧ a2.oneCell' = true ∧ a3.oneCell' = true ∧ a4.oneCell' = true ∧ a5.oneCell' = true ∧ a6.oneCell' = true ∧ a7.oneCell' = true := ⟨H.one0, H.one1, H.one2, H.one3, H.one4, H.one5, H.one6, H.one7⟩
end Go.Proofs.YtcfejkpadcccbaaGreat
namespace Go.Proofs.YtcfejkpadcccbaaGreat.E
open Go.RowKit
set_option linter.unusedVariables false
set_option linter.unusedSimpArgs false
/-- The canonical digits of a number. -/
def digs (n : Nat) : List Int := if h : n = 0 then [] else ((n % 1000000000 : Nat) : Int) :: digs (n / 1000000000)
termination_by n
decreasing_by omega
theorem digs_ok (n : Nat) : I.Can (digs n) ∧ I.val (digs n) = (n : Int) := by
 induction n using Nat.strongRecOn with
 | _ n ih =>
   unfold digs
   by_cases h : n = 0
   · rw [dif_pos h]; subst h; exact ⟨I.Can.nil, rfl⟩
   · rw [dif_neg h]
     obtain ⟨⟨h1, h2⟩, h3⟩ := ih (n / 1000000000) (by omega)
     refine ⟨⟨I.Dig.cons (by omega) (by omega) h1, fun d hd => ?_⟩, ?_⟩
     · cases hq : digs (n / 1000000000) with
       | nil =>
         rw [hq] at hd h3
         simp only [List.getLast?_singleton, Option.some.injEq] at hd
         simp only [I.val] at h3
         omega
       | cons e r =>
         rw [hq] at hd h2
         rw [List.getLast?_cons_cons] at hd
         exact h2 d hd
     · simp only [I.val, h3]
       omega
/-- Cells. -/
def dI (x : Int) : List V := [.k (.bool (decide (x < 0))), .dg (digs x.natAbs)]
def dR (r : Rat) : List V := [.k (.bool (decide (r.num < 0))), .dg (digs r.num.natAbs), .k (.bool (decide (dq r < 0))), .dg (digs (dq r).natAbs)]
def dV (v : Rat × Rat) : List V := match dR v.1, dR v.2 with
 | [a, b, c, d], [e, f, g, h] => [a, b, c, d, e, f, g, h]
 | _, _ => []
section
variable {w w' : World} {A : Nat → Prop} {m : Nat → Option Value} {u : Value}
def IsI (w : World) (u : Value) (x : Int) : Prop := ∃ a b, u = .agg #[a, b] ∧ IntV w a b x
def IsR (w : World) (u : Value) (x : Rat) : Prop := ∃ a b c d, u = .agg #[a, b, c, d] ∧ RatV w a b c d x
def IsV (w : World) (u : Value) (x : Rat × Rat) : Prop := ∃ a b c d e f g h, u = .agg #[a, b, c, d, e, f, g, h] ∧ VecV w a b c d e f g h x
theorem sgn_of {v : Value} {x : Int} (h : Rep false w A m v (.k (.bool (decide (x < 0))))) : v = .bool (decide (x < 0)) := Rep.k_inv h
theorem int_of {a b : Value} {x : Int} (h1 : Rep false w A m a (.k (.bool (decide (x < 0))))) (h2 : Rep false w A m b (.dg (digs x.natAbs))) : IntV w a b x := by
 cases h2 with
 | dg _ _ _ h _ => exact ⟨_, Rep.k_inv h1, h, digs_ok _⟩
theorem int_to {a b : Value} {x : Int} (h : IntV w a b x) : Rep false w A m a (.k (.bool (decide (x < 0)))) ∧ Rep false w A m b (.dg (digs x.natAbs)) := by
 obtain ⟨l, h1, h2, h3, h4⟩ := h
 have : l = digs x.natAbs := I.Can.uniq h3 (digs_ok _).1 (by rw [h4, (digs_ok _).2])
 subst this
 subst h1
 exact ⟨.k _ _, .dg _ _ _ h2 fun e => by cases e⟩
theorem I_rep {x : Int} (h : Rep false w A m u (.ag (dI x))) : IsI w u x := by
 cases h with
 | ag _ cs _ h1 h2 =>
   obtain ⟨l⟩ := cs
   match l, h1 with
   | [a, b], _ => exact ⟨a, b, rfl, int_of (h2 0 _ rfl) (h2 1 _ rfl)⟩
theorem R_rep {x : Rat} (h : Rep false w A m u (.ag (dR x))) : IsR w u x := by
 cases h with
 | ag _ cs _ h1 h2 =>
   obtain ⟨l⟩ := cs
   match l, h1 with
   | [a, b, c, d], _ => exact ⟨a, b, c, d, rfl, int_of (h2 0 _ rfl) (h2 1 _ rfl), int_of (h2 2 _ rfl) (h2 3 _ rfl)⟩
theorem V_rep {x : Rat × Rat} (h : Rep false w A m u (.ag (dV x))) : IsV w u x := by
 cases h with
 | ag _ cs _ h1 h2 =>
   obtain ⟨l⟩ := cs
   match l, h1 with
   | [a, b, c, d, e, f, g, h], _ => exact ⟨a, b, c, d, e, f, g, h, rfl, ⟨int_of (h2 0 _ rfl) (h2 1 _ rfl), int_of (h2 2 _ rfl) (h2 3 _ rfl)⟩, int_of (h2 4 _ rfl) (h2 5 _ rfl), int_of (h2 6 _ rfl) (h2 7 _ rfl)⟩
theorem ag_of {us : List Value} {l : List V} (h : us.length = l.length) (h2 : ∀ p ∈ us.zip l, Rep false w A m p.1 p.2) : Rep false w A m (.agg us.toArray) (.ag l) := by
 refine .ag _ _ _ h fun j x hx => ?_
 have hlt := (List.getElem?_eq_some_iff.1 hx).1
 rw [← getD_toList, List.getD_eq_getElem?_getD]
 have h3 : us[j]? = some us[j] := List.getElem?_eq_getElem (by omega)
 rw [h3]
 exact h2 (us[j], x) (List.mem_of_getElem? (i := j) (by simp [List.getElem?_zip_eq_some, h3, hx]))
theorem rep_I {x : Int} (h : IsI w u x) : Rep false w A m u (.ag (dI x)) := by
 obtain ⟨a, b, rfl, h⟩ := h
 obtain ⟨h1, h2⟩ := int_to (A := A) (m := m) h
 exact ag_of (us := [a, b]) rfl (by simp [dI, h1, h2])
theorem rep_R {x : Rat} (h : IsR w u x) : Rep false w A m u (.ag (dR x)) := by
 obtain ⟨a, b, c, d, rfl, h, g⟩ := h
 obtain ⟨h1, h2⟩ := int_to (A := A) (m := m) h
 obtain ⟨h3, h4⟩ := int_to (A := A) (m := m) g
 exact ag_of (us := [a, b, c, d]) rfl (by simp only [dR, List.zip_cons_cons, List.zip_nil_left, List.mem_cons, List.not_mem_nil, or_false]; rintro p (rfl | rfl | rfl | rfl) <;> assumption)
theorem rep_V {x : Rat × Rat} (h : IsV w u x) : Rep false w A m u (.ag (dV x)) := by
 obtain ⟨a, b, c, d, e, f, g, i, rfl, ⟨h, j⟩, k, l⟩ := h
 obtain ⟨h1, h2⟩ := int_to (A := A) (m := m) h
 obtain ⟨h3, h4⟩ := int_to (A := A) (m := m) j
 obtain ⟨h5, h6⟩ := int_to (A := A) (m := m) k
 obtain ⟨h7, h8⟩ := int_to (A := A) (m := m) l
 exact ag_of (us := [a, b, c, d, e, f, g, i]) rfl (by simp only [dV, dR, List.zip_cons_cons, List.zip_nil_left, List.mem_cons, List.not_mem_nil, or_false]; rintro p (rfl | rfl | rfl | rfl | rfl | rfl | rfl | rfl) <;> assumption)
end
noncomputable abbrev PP : Program := Tryz.prog
theorem mo_ : PP.follows .mixedOrders = true := by kernel_rfl
def okB (P : Program) (f : FuncId) : Bool := match P.funcs[f]? with
 | some fn => !(fn.name == "runtime.NumGoroutine") && fn.body.isSome
 | none => false
theorem okF_of {P : Program} {f : FuncId} (h : okB P f = true) : okF P f := fun vs w => by
 unfold okB at h
 split at h
 · rename_i fn hf
   simp only [Bool.and_eq_true, Bool.not_eq_true'] at h
   have h2 : fn.body.isNone = false := by
    cases hb : fn.body with
    | none => rw [hb] at h; cases h.2
    | some c => rfl
   have h3 : fn.name ≠ "runtime.NumGoroutine" := by simpa using h.1
   have h4 : fn.body ≠ none := by intro e; rw [e] at h2; cases h2
   simp [callFunc, hf, h3, h4]
 · cases h
/-- A function's facts by its number. -/
def fnOf (P : Program) (f : FuncId) : Func := (P.funcs[f]?).getD default
theorem fn_of {P : Program} {f : FuncId} (h : okB P f = true) : P.funcs[f]? = some (fnOf P f) ∧ (fnOf P f).body.isSome = true := by
 unfold okB at h
 unfold fnOf
 split at h
 · rename_i fn hf
   rw [hf]
   simp only [Bool.and_eq_true] at h
   exact ⟨rfl, h.2⟩
 · cases h
def met2 (b : Bool) (x : Bool × List (List V) × V) : Bool × List (List V) × V := (b && x.1, x.2)
/-- **A function that runs straight to its end**. -/
theorem tr {s : Bool} {f : FuncId} {ds : List V} {d : V} (sc : List (Fa s PP)) (e : met2 (okB PP f) (met (runE s PP (fnOf PP f) (body (fnOf PP f)) (st0 (fnOf PP f) ds) sc)) = told (runE s PP (fnOf PP f) (body (fnOf PP f)) (st0 (fnOf PP f) ds) sc) d) : Pure s PP f ds d := by
 have hb : okB PP f = true ∧ met (runE s PP (fnOf PP f) (body (fnOf PP f)) (st0 (fnOf PP f) ds) sc) = told (runE s PP (fnOf PP f) (body (fnOf PP f)) (st0 (fnOf PP f) ds) sc) d := by
  have h1 : (told (runE s PP (fnOf PP f) (body (fnOf PP f)) (st0 (fnOf PP f) ds) sc) d).1 = true := by cases runE s PP (fnOf PP f) (body (fnOf PP f)) (st0 (fnOf PP f) ds) sc <;> rfl
  have h2 := congrArg (·.1) e
  have h3 := congrArg (·.2) e
  rw [h1] at h2
  simp only [met2, Bool.and_eq_true] at h2 h3
  exact ⟨h2.1, Prod.ext (h2.2.trans h1.symm) h3⟩
 obtain ⟨h1, h2⟩ := fn_of hb.1
 exact .of_gd h1 h2 (okF_of hb.1) (.end_ mo_ h1 sc hb.2)
/-- With loops. -/
theorem pf {s : Bool} {f : FuncId} {ds : List V} {d : V} (h : okB PP f = true) (g : Gd s PP f d (body (fnOf PP f)) (st0 (fnOf PP f) ds)) : Pure s PP f ds d :=
 .of_gd (fn_of h).1 (fn_of h).2 (okF_of h) g
theorem fi {s : Bool} {f : FuncId} {d : V} {td : List Item} {σ : St} (sc : List (Fa s PP)) (h : okB PP f = true) (e : met (runE s PP (fnOf PP f) td σ sc) = told (runE s PP (fnOf PP f) td σ sc) d) : Gd s PP f d td σ := .end_ mo_ (fn_of h).1 sc e
theorem fiG {s : Bool} {f : FuncId} {d : V} {td : List Item} {σ : St} (gs : List Gh) (sc : List (Fa s PP)) (h : okB PP f = true) (e : metG (fnOf PP f) gs (run s PP 5000 td σ sc) = toldG d (run s PP 5000 td σ sc)) : Gd s PP f d td σ := .endG mo_ (fn_of h).1 gs sc e
theorem inc_ {i : Nat} (h : i < 9223372036854775807) : IntKind.i64.wrap ((i : Int) + 1) = ((i + 1 : Nat) : Int) := by rw [IntKind.wrap_i64]; omega
/-- A counter goes on. -/
def inc {s : Bool} {P : Program} (t i : Nat) (h : i < 9223372036854775807) : Fa s P := .eqv t (.k (.int .i64 (IntKind.i64.wrap ((i : Int) + 1)))) (.k (.int .i64 ((i + 1 : Nat) : Int))) (by rw [inc_ h])
def cl {s : Bool} {P : Program} {f : FuncId} {ds : List V} {d : V} (h : Pure s P f ds d) : Fa s P := .call f ds d h
/-- Contracts of the elder kind. -/
theorem reps1 {s : Bool} {w : World} {A : Nat → Prop} {m : Nat → Option Value} {args : Array Value} {x : V} (h : Reps s w A m args [x]) : ∃ u, args = #[u] ∧ Rep s w A m u x := by
 obtain ⟨l⟩ := args
 obtain ⟨h1, h2⟩ := h
 match l, h1 with
 | [u], _ => exact ⟨u, rfl, h2 0 _ rfl⟩
theorem reps2 {s : Bool} {w : World} {A : Nat → Prop} {m : Nat → Option Value} {args : Array Value} {x y : V} (h : Reps s w A m args [x, y]) : ∃ u v, args = #[u, v] ∧ Rep s w A m u x ∧ Rep s w A m v y := by
 obtain ⟨l⟩ := args
 obtain ⟨h1, h2⟩ := h
 match l, h1 with
 | [u, v], _ => exact ⟨u, v, rfl, h2 0 _ rfl, h2 1 _ rfl⟩
/-- What is returned, of the elder kind. -/
def Rt (X : World → Value → Prop) (w : World) (e : Ending) (w' : World) : Prop := ∃ v, e = .returned v ∧ X w' v ∧ Below w.heap.size w w'
theorem RI.rt {x : Int} {w w' : World} {e : Ending} (h : RI x w e w') : Rt (fun w v => Rep false w (fun _ => True) no v (.ag (dI x))) w e w' := by
 obtain ⟨a, b, rfl, h1, h2⟩ := h
 exact ⟨_, rfl, rep_I ⟨a, b, rfl, h1⟩, h2⟩
theorem RR.rt {x : Rat} {w w' : World} {e : Ending} (h : RR x w e w') : Rt (fun w v => Rep false w (fun _ => True) no v (.ag (dR x))) w e w' := by
 obtain ⟨a, b, c, d, rfl, h1, h2⟩ := h
 exact ⟨_, rfl, rep_R ⟨a, b, c, d, rfl, h1⟩, h2⟩
theorem RV.rt {x : Rat × Rat} {w w' : World} {e : Ending} (h : RV x w e w') : Rt (fun w v => Rep false w (fun _ => True) no v (.ag (dV x))) w e w' := by
 obtain ⟨a, b, c, d, a', b', c', d', rfl, h1, h2⟩ := h
 exact ⟨_, rfl, rep_V ⟨a, b, c, d, a', b', c', d', rfl, h1⟩, h2⟩
theorem rt_out {d : V} {M : Nat → Prop} {w w' : World} {e : Ending} (h : Rt (fun w v => Rep false w (fun _ => True) no v d) w e w') : ∃ v, e = .returned v ∧ Rep false w' M no v d ∧ Below w.heap.size w w' := by
 obtain ⟨v, h1, h2, h3⟩ := h
 exact ⟨v, h1, h2.mo ⟨Nat.le_refl _, fun _ _ _ => rfl, fun g _ => .inl trivial, fun _ _ e => e, fun _ => Kp.refl _⟩, h3⟩
theorem o1 {P : Program} {f : FuncId} {x d : V} (hok : okB P f = true) (h : ∀ w u (A : Nat → Prop), Rep false w A no u x → Calls P f #[u] w (Rt (fun w v => Rep false w (fun _ => True) no v d) w)) : Pure false P f [x] d :=
 ⟨okF_of hok, fun w M args _ ha => by
  obtain ⟨u, rfl, h1⟩ := reps1 ha
  exact (h w u M h1).mono fun e w' => rt_out⟩
theorem o2 {P : Program} {f : FuncId} {x y d : V} (hok : okB P f = true) (h : ∀ w u v (A : Nat → Prop), Rep false w A no u x → Rep false w A no v y → Calls P f #[u, v] w (Rt (fun w v => Rep false w (fun _ => True) no v d) w)) : Pure false P f [x, y] d :=
 ⟨okF_of hok, fun w M args _ ha => by
  obtain ⟨u, v, rfl, h1, h2⟩ := reps2 ha
  exact (h w u v M h1 h2).mono fun e w' => rt_out⟩
theorem oI {P : Program} {f : FuncId} {x : Int} {d : V} (hok : okB P f = true) (h : ∀ w a b, IntV w a b x → Calls P f #[.agg #[a, b]] w (Rt (fun w v => Rep false w (fun _ => True) no v d) w)) : Pure false P f [.ag (dI x)] d :=
 o1 hok fun w u A hu => by
  obtain ⟨a, b, e, h1⟩ := I_rep hu
  subst e
  exact h w a b h1
theorem oII {P : Program} {f : FuncId} {x y : Int} {d : V} (hok : okB P f = true) (h : ∀ w a b a' b', IntV w a b x → IntV w a' b' y → Calls P f #[.agg #[a, b], .agg #[a', b']] w (Rt (fun w v => Rep false w (fun _ => True) no v d) w)) : Pure false P f [.ag (dI x), .ag (dI y)] d :=
 o2 hok fun w u v A hu hv => by
  obtain ⟨a, b, e, h1⟩ := I_rep hu
  obtain ⟨a', b', e', h2⟩ := I_rep hv
  subst e; subst e'
  exact h w a b a' b' h1 h2
/-- And back. -/
theorem back {P : Program} {f : FuncId} {ds : List V} {d : V} (h : Pure false P f ds d) {w : World} {args : Array Value} (ha : Reps false w (fun _ => False) no args ds) : Calls P f args w (Rt (fun w v => Rep false w (fun _ => False) no v d) w) :=
 (h.2 w (fun _ => False) args (fun _ h => h.elim) ha).mono fun e w' h => h
theorem to_RR {x : Rat} {w w' : World} {e : Ending} (h : Rt (fun w v => Rep false w (fun _ => False) no v (.ag (dR x))) w e w') : RR x w e w' := by
 obtain ⟨v, rfl, h1, h2⟩ := h
 obtain ⟨a, b, c, d, rfl, h3⟩ := R_rep h1
 exact ⟨a, b, c, d, rfl, h3, h2⟩
theorem to_RV {x : Rat × Rat} {w w' : World} {e : Ending} (h : Rt (fun w v => Rep false w (fun _ => False) no v (.ag (dV x))) w e w') : RV x w e w' := by
 obtain ⟨v, rfl, h1, h2⟩ := h
 obtain ⟨a, b, c, d, a', b', c', d', rfl, h3⟩ := V_rep h1
 exact ⟨a, b, c, d, a', b', c', d', rfl, h3, h2⟩
theorem arg1 {s : Bool} {w : World} {A : Nat → Prop} {m : Nat → Option Value} {u : Value} {x : V} (h : Rep s w A m u x) : Reps s w A m #[u] [x] := ⟨rfl, fun j y hy => by
 match j, hy with
 | 0, hy => simp at hy; subst hy; exact h
 | j + 1, hy => simp at hy⟩
theorem arg2 {s : Bool} {w : World} {A : Nat → Prop} {m : Nat → Option Value} {u v : Value} {x y : V} (h : Rep s w A m u x) (g : Rep s w A m v y) : Reps s w A m #[u, v] [x, y] := ⟨rfl, fun j z hz => by
 match j, hz with
 | 0, hz => simp at hz; subst hz; exact h
 | 1, hz => simp at hz; subst hz; exact g
 | j + 2, hz => simp at hz⟩
theorem arg3 {s : Bool} {w : World} {A : Nat → Prop} {m : Nat → Option Value} {u v t : Value} {x y q : V} (h : Rep s w A m u x) (g : Rep s w A m v y) (i : Rep s w A m t q) : Reps s w A m #[u, v, t] [x, y, q] := ⟨rfl, fun j z hz => by
 match j, hz with
 | 0, hz => simp at hz; subst hz; exact h
 | 1, hz => simp at hz; subst hz; exact g
 | 2, hz => simp at hz; subst hz; exact i
 | j + 3, hz => simp at hz⟩
end Go.Proofs.YtcfejkpadcccbaaGreat.E
