/-
 PLAIN: codecs made of codecs: one behind the other, and with a check.
-/
import Derived.Test.YtnpdpjfdgialeaaGreatDoorPlainX
namespace Go.Proofs.YtnpdpjfdgialeaaGreatDoor.W
open Go.RowKit
/-- A code: decoding an encoding, whatever follows; what is decoded is an encoding; one cut short yields 3. -/
structure Codec {α : Type} (e : α → List UInt8) (d : List UInt8 → α × Nat × Int) (V : α → Prop) : Prop where
 back : ∀ x, V x → ∀ t, d (e x ++ t) = (x, (e x).length, 0)
 canon : ∀ b, (d b).2.2 = 0 → V (d b).1 ∧ (d b).2.1 ≤ b.length ∧ b.take (d b).2.1 = e (d b).1
 short : ∀ x, V x → ∀ i, i < (e x).length → (d ((e x).take i)).2.2 = 3
 pos : ∀ x, V x → 0 < (e x).length
theorem codec_int : Codec enc dec Is64 where
 back := fun x h t => dec_enc h t
 canon := fun b h => by
  rcases hd : dec b with ⟨n, u, e⟩
  rw [hd] at h
  simp only at h
  subst h
  obtain ⟨h1, h2, h3, _⟩ := dec_ok hd
  exact ⟨h1, h2, h3⟩
 short := fun x h i hi => by rw [dec_short h i hi]
 pos := fun x _ => by have := (enc_le x).1; omega
theorem nat64 {n : Nat} (h : n ≤ 4611686018427387904) : Is64 (n : Int) := by unfold Is64; omega
theorem cnt_enc {n size : Nat} (hn : Is64 (n : Int)) (hs : 1 ≤ size) (rest : List UInt8) (hr : n * size ≤ rest.length) : cnt (enc n ++ rest) size = ((n : Int), (enc n).length, 0) := by
 have h1 := dec_enc hn rest
 unfold cnt
 rw [h1]
 simp only [ne_eq, not_true, if_false, List.length_append, Nat.add_sub_cancel_left]
 rw [if_neg (by omega), if_neg]
 have : n ≤ rest.length / size := (Nat.le_div_iff_mul_le (by omega)).2 hr
 omega
theorem cnt_short {n size : Nat} (hn : Is64 (n : Int)) (rest : List UInt8) (i : Nat) (hi : i < (enc n).length) : (cnt ((enc n ++ rest).take i) size).2.2 = 3 := by
 have h1 := dec_short hn i hi
 rw [List.take_append_of_le_length (by omega)]
 unfold cnt
 rw [h1]
 simp
theorem cnt_less {n size : Nat} (hn : Is64 (n : Int)) (hs : 1 ≤ size) (rest : List UInt8) (hr : rest.length < n * size) : (cnt (enc n ++ rest) size).2.2 = 3 := by
 have h1 := dec_enc hn rest
 unfold cnt
 rw [h1]
 simp only [ne_eq, not_true, if_false, List.length_append, Nat.add_sub_cancel_left]
 rw [if_neg (by omega), if_pos]
 have : rest.length / size < n := (Nat.div_lt_iff_lt_mul (by omega)).2 hr
 omega
section
variable {α : Type} {e : α → List UInt8} {d : List UInt8 → α × Nat × Int} {V : α → Prop}
theorem seqD_back (h : Codec e d V) : ∀ (l : List α) (pre t : List UInt8) (acc : List α), (∀ x ∈ l, V x) →
  seqD d (pre ++ l.flatMap e ++ t) l.length pre.length acc = (acc ++ l, pre.length + (l.flatMap e).length, 0)
 | [], pre, t, acc, _ => by simp [seqD]
 | x :: r, pre, t, acc, hv => by
  have hx := h.back x (hv x (by simp)) (r.flatMap e ++ t)
  have hdrop : (pre ++ (x :: r).flatMap e ++ t).drop pre.length = e x ++ (r.flatMap e ++ t) := by
   rw [List.append_assoc, List.drop_left]
   simp
  simp only [List.length_cons, seqD]
  rw [hdrop, hx]
  simp only [ne_eq, not_true, if_false]
  have ih := seqD_back h r (pre ++ e x) t (acc ++ [x]) (fun y hy => hv y (by simp [hy]))
  have e1 : pre ++ (x :: r).flatMap e ++ t = pre ++ e x ++ r.flatMap e ++ t := by simp
  rw [e1, show pre.length + (e x).length = (pre ++ e x).length from by simp, ih]
  simp [Nat.add_assoc]
theorem flat_len (h : Codec e d V) : ∀ (l : List α), (∀ x ∈ l, V x) → l.length ≤ (l.flatMap e).length
 | [], _ => by simp
 | x :: r, hv => by
  have := flat_len h r (fun y hy => hv y (by simp [hy]))
  have := h.pos x (hv x (by simp))
  simp only [List.flatMap_cons, List.length_cons, List.length_append]
  omega
theorem decL_back (h : Codec e d V) (l : List α) (t : List UInt8) (hv : ∀ x ∈ l, V x) (hl : Is64 (l.length : Int)) :
  decL d (enc l.length ++ l.flatMap e ++ t) = (l, (enc l.length ++ l.flatMap e).length, 0) := by
 have h1 := flat_len h l hv
 have hc := cnt_enc (size := 1) hl (Nat.le_refl _) (l.flatMap e ++ t) (by rw [List.length_append]; omega)
 rw [← List.append_assoc] at hc
 unfold decL
 rw [hc]
 simp only [ne_eq, not_true, if_false, Int.toNat_natCast]
 rw [seqD_back h l (enc l.length) t [] hv]
 simp
theorem seqD_canon (h : Codec e d V) (b : List UInt8) : ∀ (k p : Nat) (acc : List α), p ≤ b.length → (seqD d b k p acc).2.2 = 0 →
  ∃ l', (seqD d b k p acc).1 = acc ++ l' ∧ l'.length = k ∧ (∀ x ∈ l', V x) ∧ (seqD d b k p acc).2.1 = p + (l'.flatMap e).length ∧ (seqD d b k p acc).2.1 ≤ b.length ∧ (b.drop p).take (l'.flatMap e).length = l'.flatMap e
 | 0, p, acc, hp, _ => ⟨[], by simp [seqD], rfl, by simp, by simp [seqD], by simpa [seqD] using hp, by simp⟩
 | k + 1, p, acc, hp, he => by
  simp only [seqD] at he ⊢
  by_cases h0 : (d (b.drop p)).2.2 = 0
  ·rw [if_neg (by simp [h0])] at he ⊢
   obtain ⟨c1, c2, c3⟩ := h.canon _ h0
   rw [List.length_drop] at c2
   obtain ⟨l', i1, i2, i3, i4, i5, i6⟩ := seqD_canon h b k (p + (d (b.drop p)).2.1) (acc ++ [(d (b.drop p)).1]) (by omega) he
   have hlen : (e (d (b.drop p)).1).length = (d (b.drop p)).2.1 := by rw [← c3, List.length_take, List.length_drop]; omega
   refine ⟨(d (b.drop p)).1 :: l', by rw [i1]; simp, by simp [i2], ?_, ?_, i5, ?_⟩
   ·intro x hx
    rcases List.mem_cons.1 hx with rfl | hx
    ·exact c1
    ·exact i3 x hx
   ·rw [i4, List.flatMap_cons, List.length_append, hlen]
    omega
   ·rw [List.flatMap_cons, List.length_append, List.take_add, hlen, c3, List.drop_drop, i6]
  ·rw [if_pos h0] at he
   exact absurd he h0
theorem decL_canon (h : Codec e d V) (b : List UInt8) (he : (decL d b).2.2 = 0) :
  (∀ x ∈ (decL d b).1, V x) ∧ (decL d b).2.1 ≤ b.length ∧ b.take (decL d b).2.1 = enc (decL d b).1.length ++ (decL d b).1.flatMap e := by
 unfold decL at he ⊢
 by_cases hc : (cnt b 1).2.2 = 0
 ·rw [if_neg (by simp [hc])] at he ⊢
  obtain ⟨c1, c2, c3, _⟩ := cnt_ok hc
  obtain ⟨n, hn, hn2, _⟩ := cnt_bound hc
  rw [hn, Int.toNat_natCast] at he ⊢
  obtain ⟨l', i1, i2, i3, i4, i5, i6⟩ := seqD_canon h b n (cnt b 1).2.1 [] (by omega) he
  rw [i1, List.nil_append, i4, List.take_add, i6]
  refine ⟨i3, by rw [← i4]; exact i5, ?_⟩
  rcases hd : dec b with ⟨m, u, e'⟩
  rw [hd] at c2
  simp only at c2
  subst c2
  obtain ⟨_, _, h3, _⟩ := dec_ok hd
  rw [c1, hd] at hn
  simp only at hn
  rw [c1, hd, i2]
  simp only
  rw [h3, hn]
 ·rw [if_pos hc] at he
  exact absurd he hc
theorem seqD_short (h : Codec e d V) : ∀ (l : List α) (pre : List UInt8) (j : Nat) (acc : List α), (∀ x ∈ l, V x) → j < (l.flatMap e).length →
  (seqD d (pre ++ (l.flatMap e).take j) l.length pre.length acc).2.2 = 3
 | [], pre, j, acc, _, hj => by simp at hj
 | x :: r, pre, j, acc, hv, hj => by
  have hx := hv x (by simp)
  simp only [List.length_cons, seqD]
  rw [List.drop_left]
  rcases Nat.lt_or_ge j (e x).length with h1 | h1
  ·have e1 : ((x :: r).flatMap e).take j = (e x).take j := by rw [List.flatMap_cons, List.take_append_of_le_length (by omega)]
   rw [e1]
   have := h.short x hx j h1
   rw [this]
   simp
  ·have e1 : ((x :: r).flatMap e).take j = e x ++ (r.flatMap e).take (j - (e x).length) := by
    rw [List.flatMap_cons, List.take_append, List.take_of_length_le h1]
   rw [e1, h.back x hx]
   simp only [ne_eq, not_true, if_false]
   simp only [List.flatMap_cons, List.length_append] at hj
   have ih := seqD_short h r (pre ++ e x) (j - (e x).length) (acc ++ [x]) (fun y hy => hv y (by simp [hy])) (by omega)
   rw [← List.append_assoc, show pre.length + (e x).length = (pre ++ e x).length from by simp]
   exact ih
theorem decL_short (h : Codec e d V) (l : List α) (hv : ∀ x ∈ l, V x) (hl : Is64 (l.length : Int)) (i : Nat) (hi : i < (enc l.length ++ l.flatMap e).length) :
  (decL d ((enc l.length ++ l.flatMap e).take i)).2.2 = 3 := by
 unfold decL
 rcases Nat.lt_or_ge i (enc l.length).length with h1 | h1
 ·have := cnt_short (size := 1) hl (l.flatMap e) i h1
  rw [if_pos (by rw [this]; simp), this]
 ·rw [List.length_append] at hi
  have e1 : (enc l.length ++ l.flatMap e).take i = enc l.length ++ (l.flatMap e).take (i - (enc l.length).length) := by
   rw [List.take_append, List.take_of_length_le h1]
  rw [e1]
  have hlen : ((l.flatMap e).take (i - (enc l.length).length)).length = i - (enc l.length).length := by rw [List.length_take]; omega
  rcases Nat.lt_or_ge (i - (enc l.length).length) l.length with h2 | h2
  ·have := cnt_less (size := 1) hl (Nat.le_refl _) ((l.flatMap e).take (i - (enc l.length).length)) (by omega)
   rw [if_pos (by rw [this]; simp), this]
  ·have hc := cnt_enc (size := 1) hl (Nat.le_refl _) ((l.flatMap e).take (i - (enc l.length).length)) (by omega)
   rw [hc]
   simp only [ne_eq, not_true, if_false, Int.toNat_natCast]
   exact seqD_short h l (enc l.length) _ [] hv (by omega)
end
/-! ### strings -/
/-! ### digests: bytes, 16 a digest -/
/-! ### the order of encodings -/
end Go.Proofs.YtnpdpjfdgialeaaGreatDoor.W
namespace Go.Proofs.YtnpdpjfdgialeaaGreatDoor.W
open Go.RowKit
theorem decL_len {α : Type} {e : α → List UInt8} {d : List UInt8 → α × Nat × Int} {V : α → Prop} (h : Codec e d V) (b : List UInt8) (he : (decL d b).2.2 = 0) : Is64 ((decL d b).1.length : Int) := by
 unfold decL at he ⊢
 by_cases hc : (cnt b 1).2.2 = 0
 ·rw [if_neg (by simp [hc])] at he ⊢
  obtain ⟨c1, c2, c3, _⟩ := cnt_ok hc
  obtain ⟨n, hn, hn2, _⟩ := cnt_bound hc
  rw [hn, Int.toNat_natCast] at he ⊢
  obtain ⟨l', i1, i2, _⟩ := seqD_canon h b n (cnt b 1).2.1 [] (by omega) he
  rw [i1, List.nil_append, i2, ← hn, c1]
  exact dec_range b
 ·rw [if_pos hc] at he
  exact absurd he hc
def VI (l : List Int) : Prop := (∀ x ∈ l, Is64 x) ∧ Is64 (l.length : Int)
theorem codecI : Codec encI decI VI where
 back := fun l h t => decL_back codec_int l t h.1 h.2
 canon := fun b h => by
  obtain ⟨h1, h2, h3⟩ := decL_canon codec_int b h
  exact ⟨⟨h1, decL_len codec_int b h⟩, h2, h3⟩
 short := fun l h i hi => decL_short codec_int l h.1 h.2 i hi
 pos := fun l h => by have := (enc_le l.length).1; unfold encI; rw [List.length_append]; omega
section
variable {α β : Type} {e : α → List UInt8} {d : List UInt8 → α × Nat × Int} {V : α → Prop} {e2 : β → List UInt8} {d2 : List UInt8 → β × Nat × Int} {V2 : β → Prop}
/-- One behind the other. -/
def dP [Inhabited α] [Inhabited β] (d : List UInt8 → α × Nat × Int) (d2 : List UInt8 → β × Nat × Int) (b : List UInt8) : (α × β) × Nat × Int :=
 if (d b).2.2 ≠ 0 then (default, 0, (d b).2.2)
 else if (d2 (b.drop (d b).2.1)).2.2 ≠ 0 then (default, 0, (d2 (b.drop (d b).2.1)).2.2)
 else (((d b).1, (d2 (b.drop (d b).2.1)).1), (d b).2.1 + (d2 (b.drop (d b).2.1)).2.1, 0)
def eP (e : α → List UInt8) (e2 : β → List UInt8) (x : α × β) : List UInt8 := e x.1 ++ e2 x.2
theorem codecP [Inhabited α] [Inhabited β] (h : Codec e d V) (h2 : Codec e2 d2 V2) : Codec (eP e e2) (dP d d2) (fun x => V x.1 ∧ V2 x.2) where
 back := fun x hx t => by
  have a := h.back x.1 hx.1 (e2 x.2 ++ t)
  have b := h2.back x.2 hx.2 t
  unfold eP dP
  rw [List.append_assoc, a]
  simp only [ne_eq, not_true, if_false, List.drop_left]
  rw [b]
  simp
 canon := fun b he => by
  unfold dP at he ⊢
  by_cases h0 : (d b).2.2 = 0
  ·rw [if_neg (by simp [h0])] at he ⊢
   by_cases h1 : (d2 (b.drop (d b).2.1)).2.2 = 0
   ·rw [if_neg (by simp [h1])] at he ⊢
    obtain ⟨a1, a2, a3⟩ := h.canon b h0
    obtain ⟨b1, b2, b3⟩ := h2.canon _ h1
    rw [List.length_drop] at b2
    refine ⟨⟨a1, b1⟩, by simp only; omega, ?_⟩
    unfold eP
    simp only
    rw [List.take_add, a3, b3]
   ·rw [if_pos h1] at he
    exact absurd he h1
  ·rw [if_pos h0] at he
   exact absurd he h0
 short := fun x hx i hi => by
  unfold eP at hi ⊢
  rw [List.length_append] at hi
  unfold dP
  rcases Nat.lt_or_ge i (e x.1).length with h1 | h1
  ·have a := h.short x.1 hx.1 i h1
   rw [List.take_append_of_le_length (by omega)]
   rw [if_pos (by rw [a]; decide)]
   exact a
  ·have e1 : (e x.1 ++ e2 x.2).take i = e x.1 ++ (e2 x.2).take (i - (e x.1).length) := by
    rw [List.take_append, List.take_of_length_le h1]
   have a := h.back x.1 hx.1 ((e2 x.2).take (i - (e x.1).length))
   have b := h2.short x.2 hx.2 (i - (e x.1).length) (by omega)
   rw [e1, a]
   simp only [ne_eq, not_true, if_false, List.drop_left]
   rw [if_pos (by rw [b]; decide)]
   exact b
 pos := fun x hx => by
  have := h.pos x.1 hx.1
  unfold eP
  rw [List.length_append]
  omega
/-- With a check; told otherwise. -/
def dM [Inhabited β] (d : List UInt8 → α × Nat × Int) (f : α → Option β) (b : List UInt8) : β × Nat × Int :=
 if (d b).2.2 ≠ 0 then (default, 0, (d b).2.2) else match f (d b).1 with
  | some y => (y, (d b).2.1, 0)
  | none => (default, 0, 2)
theorem codecM [Inhabited β] (h : Codec e d V) {f : α → Option β} {g : β → α} (h1 : ∀ y, V2 y → V (g y) ∧ f (g y) = some y) (h3 : ∀ x y, V x → f x = some y → g y = x ∧ V2 y) : Codec (fun y => e (g y)) (dM d f) V2 where
 back := fun y hy t => by
  obtain ⟨a1, a2⟩ := h1 y hy
  have a := h.back (g y) a1 t
  unfold dM
  rw [a]
  simp [a2]
 canon := fun b he => by
  unfold dM at he ⊢
  by_cases h0 : (d b).2.2 = 0
  ·rw [if_neg (by simp [h0])] at he ⊢
   obtain ⟨a1, a2, a3⟩ := h.canon b h0
   cases hf : f (d b).1 with
   | none => rw [hf] at he; simp at he
   | some y =>
    obtain ⟨b1, b2⟩ := h3 _ _ a1 hf
    refine ⟨b2, a2, ?_⟩
    show b.take (d b).2.1 = e (g y)
    rw [a3, b1]
  ·rw [if_pos h0] at he
   exact absurd he h0
 short := fun y hy i hi => by
  obtain ⟨a1, a2⟩ := h1 y hy
  have a := h.short (g y) a1 i hi
  unfold dM
  rw [if_pos (by rw [a]; decide)]
  exact a
 pos := fun y hy => h.pos (g y) (h1 y hy).1
/-- Different things have different codes. -/
theorem Codec.inj (h : Codec e d V) {x y : α} (hx : V x) (hy : V y) (he : e x = e y) : x = y := by
 have a := h.back x hx []
 have b := h.back y hy []
 rw [he, b] at a
 exact (Prod.mk.inj a).1.symm
theorem dP_1 [Inhabited α] [Inhabited β] {b : List UInt8} (h : (d b).2.2 ≠ 0) : dP d d2 b = (default, 0, (d b).2.2) := by unfold dP; rw [if_pos h]
theorem dP_2 [Inhabited α] [Inhabited β] {b : List UInt8} (h : (d b).2.2 = 0) (h2 : (d2 (b.drop (d b).2.1)).2.2 ≠ 0) : dP d d2 b = (default, 0, (d2 (b.drop (d b).2.1)).2.2) := by unfold dP; rw [if_neg (by simp [h]), if_pos h2]
theorem dP_0 [Inhabited α] [Inhabited β] {b : List UInt8} (h : (d b).2.2 = 0) (h2 : (d2 (b.drop (d b).2.1)).2.2 = 0) : dP d d2 b = (((d b).1, (d2 (b.drop (d b).2.1)).1), (d b).2.1 + (d2 (b.drop (d b).2.1)).2.1, 0) := by unfold dP; rw [if_neg (by simp [h]), if_neg (by simp [h2])]
theorem dM_1 [Inhabited β] {f : α → Option β} {b : List UInt8} (h : (d b).2.2 ≠ 0) : dM d f b = (default, 0, (d b).2.2) := by unfold dM; rw [if_pos h]
theorem dM_2 [Inhabited β] {f : α → Option β} {b : List UInt8} (h : (d b).2.2 = 0) (h2 : f (d b).1 = none) : dM d f b = (default, 0, 2) := by unfold dM; rw [if_neg (by simp [h]), h2]
theorem dM_0 [Inhabited β] {f : α → Option β} {b : List UInt8} {y : β} (h : (d b).2.2 = 0) (h2 : f (d b).1 = some y) : dM d f b = (y, (d b).2.1, 0) := by unfold dM; rw [if_neg (by simp [h]), h2]
end
end Go.Proofs.YtnpdpjfdgialeaaGreatDoor.W
