/-
 PLAIN: rational numbers: what Rat.divInt's parts divide, sums and products by their parts, bits; nothing of the program.
-/
import Derived.Test.YtonkbckgbfcnkaaMemR
namespace Go.Proofs.Ytonkbckgbfcnkaa
theorem q_eq {p q : Int} (hq : q ≠ 0) : (Rat.divInt p q).num * q = p * (Rat.divInt p q).den :=
 (Rat.divInt_eq_divInt_iff (by have := (Rat.divInt p q).den_nz; omega) hq).1 (Rat.num_divInt_den _)
theorem q_dvd {p q : Int} (hq : q ≠ 0) : (Rat.divInt p q).num.natAbs ∣ p.natAbs ∧ (Rat.divInt p q).den ∣ q.natAbs := by
 have h := congrArg Int.natAbs (q_eq (p := p) hq)
 rw [Int.natAbs_mul, Int.natAbs_mul, Int.natAbs_natCast] at h
 have hr := (Rat.divInt p q).reduced
 exact ⟨Nat.Coprime.dvd_of_dvd_mul_right hr ⟨_, h.symm⟩, Nat.Coprime.dvd_of_dvd_mul_left hr.symm ⟨p.natAbs, by rw [h, Nat.mul_comm]⟩⟩
theorem den_ne (r : Rat) : (r.den : Int) ≠ 0 := by have := r.den_nz; omega
theorem q_add (r t : Rat) : Rat.divInt (r.num * t.den + t.num * r.den) (r.den * t.den) = r + t := by
 rw [← Rat.divInt_add_divInt _ _ (den_ne r) (den_ne t), Rat.num_divInt_den, Rat.num_divInt_den]
theorem q_mul (r t : Rat) : Rat.divInt (r.num * t.num) (r.den * t.den) = r * t := by
 rw [← Rat.divInt_mul_divInt, Rat.num_divInt_den, Rat.num_divInt_den]
theorem q_mulx (r t : Rat) : Rat.divInt r.num t.den * Rat.divInt t.num r.den = r * t := by
 rw [Rat.divInt_mul_divInt, ← q_mul r t, Int.mul_comm (t.den : Int)]
theorem q_gcd (r t : Rat) : Int.gcd ((Rat.divInt r.num t.den).num * (Rat.divInt t.num r.den).num) ((Rat.divInt r.num t.den).den * (Rat.divInt t.num r.den).den) = 1 := by
 have h1 := q_dvd (p := r.num) (den_ne t)
 have h2 := q_dvd (p := t.num) (den_ne r)
 rw [Int.natAbs_natCast] at h1 h2
 have c1 := (Rat.divInt r.num t.den).reduced
 have c2 := (Rat.divInt t.num r.den).reduced
 have c3 : (Rat.divInt r.num t.den).num.natAbs.Coprime (Rat.divInt t.num r.den).den := (r.reduced.coprime_dvd_left h1.1).coprime_dvd_right h2.2
 have c4 : (Rat.divInt t.num r.den).num.natAbs.Coprime (Rat.divInt r.num t.den).den := (t.reduced.coprime_dvd_left h2.1).coprime_dvd_right h1.2
 have h3 := Nat.Coprime.mul_left (c1.mul_right c3) (c4.mul_right c2)
 rw [← Int.natAbs_mul] at h3
 unfold Int.gcd
 rw [← Int.natCast_mul, Int.natAbs_natCast]
 exact h3
theorem Bd.dvd {k : Nat} {x y : Int} (h : I.Bd k y) (hd : x.natAbs ∣ y.natAbs) (h0 : y ≠ 0) : I.Bd k x := h.of_le (Nat.le_of_dvd (by omega) hd)
theorem Bq.mono {j k : Nat} {r : Rat} (h : Bq j r) (hk : j ≤ k) : Bq k r := ⟨h.1.mono hk, h.2.mono hk⟩
theorem Bq.divInt {k : Nat} {p q : Int} (hp : I.Bd k p) (hq : I.Bd k q) (h0 : q ≠ 0) : Bq k (Rat.divInt p q) := by
 have h := q_dvd (p := p) h0
 refine ⟨?_, Bd.dvd hq (by rw [Int.natAbs_natCast]; exact h.2) h0⟩
 by_cases hp0 : p = 0
 ·subst hp0
  rw [Rat.zero_divInt]
  exact I.Bd.zero k
 ·exact Bd.dvd hp h.1 hp0
theorem Bq.add {j k : Nat} {r t : Rat} (h : Bq j r) (g : Bq k t) : Bq (j + k + 1) (r + t) := by
 rw [← q_add]
 exact Bq.divInt ((h.1.mul g.2).add' (by rw [Nat.add_comm]; exact g.1.mul h.2)) ((h.2.mul g.2).mono (by omega)) (by have := den_ne r; have := den_ne t; exact Int.mul_ne_zero ‹_› ‹_›)
theorem Bq.mul {j k : Nat} {r t : Rat} (h : Bq j r) (g : Bq k t) : Bq (j + k) (r * t) := by
 rw [← q_mul]
 exact Bq.divInt (h.1.mul g.1) (h.2.mul g.2) (Int.mul_ne_zero (den_ne r) (den_ne t))
theorem Bq.neg {k : Nat} {r : Rat} (h : Bq k r) : Bq k (-r) := ⟨by rw [Rat.neg_num]; exact h.1.neg, by rw [Rat.neg_den]; exact h.2⟩
theorem Bq.inv {k : Nat} {r : Rat} (h : Bq k r) (h0 : r.num ≠ 0) : Bq k r⁻¹ := by
 rw [Rat.inv_def]
 exact Bq.divInt h.2 h.1 h0
theorem num_zero {r : Rat} : r.num = 0 ↔ r = 0 := Rat.num_eq_zero
theorem Bq.zero {k : Nat} (hk : 0 < k) : Bq k 0 := ⟨I.Bd.zero k, by
 show (1 : Nat) < 2 ^ k
 exact Nat.one_lt_two_pow (by omega)⟩
end Go.Proofs.Ytonkbckgbfcnkaa
