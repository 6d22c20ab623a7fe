/-
 none
-/
import Derived.Test.YthliihpeodohpaaGreatDoorPlainX
import Derived.Test.YthliihpeodohpaaGreatDoorEoR
import Derived.Test.YthliihpeodohpaaGreatDoorCaC
namespace Go.Proofs.YthliihpeodohpaaGreatDoor.W
open Go.RowKit
/-- A code: decoding an encoding, whatever follows; what is decoded is an encoding; one cut short yields 3. -/
structure Codec {α : Type} (e : α → List UInt8) (d : List UInt8 → α × Nat × Int) (V : α → Prop) : Prop where
 back : ∀ x, V x → ∀ t, d (e x ++ t) = (x, (e x).length, 0)
 canon : ∀ b, (d b).2.2 = 0 → V (d b).1 ∧ (d b).2.1 ≤ b.length ∧ b.take (d b).2.1 = e (d b).1
 short : ∀ x, V x → ∀ i, i < (e x).length → (d ((e x).take i)).2.2 = 3
 pos : ∀ x, V x → 0 < (e x).length
theorem codec_int : Codec enc dec Is64 where
 back := fun x h t => dec_enc h t
 canon := fun b h => by
  rcases hd : dec b with ⟨n, u, e⟩
  rw [hd] at h
  simp only at h
  subst h
  obtain ⟨h1, h2, h3, _⟩ := dec_ok hd
  exact ⟨h1, h2, h3⟩
 short := fun x h i hi => by rw [dec_short h i hi]
 pos := fun x _ => by have := (enc_le x).1; omega
theorem nat64 {n : Nat} (h : n ≤ 4611686018427387904) : Is64 (n : Int) := by unfold Is64; omega
theorem cnt_enc {n size : Nat} (hn : Is64 (n : Int)) (hs : 1 ≤ size) (rest : List UInt8) (hr : n * size ≤ rest.length) : cnt (enc n ++ rest) size = ((n : Int), (enc n).length, 0) := by
 have h1 := dec_enc hn rest
 unfold cnt
 rw [h1]
 simp only [ne_eq, not_true, if_false, List.length_append, Nat.add_sub_cancel_left]
 rw [if_neg (by omega), if_neg]
 have : n ≤ rest.length / size := (Nat.le_div_iff_mul_le (by omega)).2 hr
 omega
theorem cnt_short {n size : Nat} (hn : Is64 (n : Int)) (rest : List UInt8) (i : Nat) (hi : i < (enc n).length) : (cnt ((enc n ++ rest).take i) size).2.2 = 3 := by
 have h1 := dec_short hn i hi
 rw [List.take_append_of_le_length (by omega)]
 unfold cnt
 rw [h1]
 simp
theorem cnt_less {n size : Nat} (hn : Is64 (n : Int)) (hs : 1 ≤ size) (rest : List UInt8) (hr : rest.length < n * size) : (cnt (enc n ++ rest) size).2.2 = 3 := by
 have h1 := dec_enc hn rest
 unfold cnt
 rw [h1]
 simp only [ne_eq, not_true, if_false, List.length_append, Nat.add_sub_cancel_left]
 rw [if_neg (by omega), if_pos]
 have : rest.length / size < n := (Nat.div_lt_iff_lt_mul (by omega)).2 hr
 omega
section
variable {α : Type} {e : α → List UInt8} {d : List UInt8 → α × Nat × Int} {V : α → Prop}
theorem seqD_back (h : Codec e d V) : ∀ (l : List α) (pre t : List UInt8) (acc : List α), (∀ x ∈ l, V x) →
  seqD d (pre ++ l.flatMap e ++ t) l.length pre.length acc = (acc ++ l, pre.length + (l.flatMap e).length, 0)
 | [], pre, t, acc, _ => by simp [seqD]
 | x :: r, pre, t, acc, hv => by
  have hx := h.back x (hv x (by simp)) (r.flatMap e ++ t)
  have hdrop : (pre ++ (x :: r).flatMap e ++ t).drop pre.length = e x ++ (r.flatMap e ++ t) := by
   rw [List.append_assoc, List.drop_left]
   simp
  simp only [List.length_cons, seqD]
  rw [hdrop, hx]
  simp only [ne_eq, not_true, if_false]
  have ih := seqD_back h r (pre ++ e x) t (acc ++ [x]) (fun y hy => hv y (by simp [hy]))
  have e1 : pre ++ (x :: r).flatMap e ++ t = pre ++ e x ++ r.flatMap e ++ t := by simp
  rw [e1, show pre.length + (e x).length = (pre ++ e x).length from by simp, ih]
  simp [Nat.add_assoc]
theorem flat_len (h : Codec e d V) : ∀ (l : List α), (∀ x ∈ l, V x) → l.length ≤ (l.flatMap e).length
 | [], _ => by simp
 | x :: r, hv => by
  have := flat_len h r (fun y hy => hv y (by simp [hy]))
  have := h.pos x (hv x (by simp))
  simp only [List.flatMap_cons, List.length_cons, List.length_append]
  omega
theorem decL_back (h : Codec e d V) (l : List α) (t : List UInt8) (hv : ∀ x ∈ l, V x) (hl : Is64 (l.length : Int)) :
  decL d (enc l.length ++ l.flatMap e ++ t) = (l, (enc l.length ++ l.flatMap e).length, 0) := by
 have h1 := flat_len h l hv
 have hc := cnt_enc (size := 1) hl (Nat.le_refl _) (l.flatMap e ++ t) (by rw [List.length_append]; omega)
 rw [← List.append_assoc] at hc
 unfold decL
 rw [hc]
 simp only [ne_eq, not_true, if_false, Int.toNat_natCast]
 rw [seqD_back h l (enc l.length) t [] hv]
 simp
theorem seqD_canon (h : Codec e d V) (b : List UInt8) : ∀ (k p : Nat) (acc : List α), p ≤ b.length → (seqD d b k p acc).2.2 = 0 →
  ∃ l', (seqD d b k p acc).1 = acc ++ l' ∧ l'.length = k ∧ (∀ x ∈ l', V x) ∧ (seqD d b k p acc).2.1 = p + (l'.flatMap e).length ∧ (seqD d b k p acc).2.1 ≤ b.length ∧ (b.drop p).take (l'.flatMap e).length = l'.flatMap e
 | 0, p, acc, hp, _ => ⟨[], by simp [seqD], rfl, by simp, by simp [seqD], by simpa [seqD] using hp, by simp⟩
 | k + 1, p, acc, hp, he => by
  simp only [seqD] at he ⊢
  by_cases h0 : (d (b.drop p)).2.2 = 0
  ·rw [if_neg (by simp [h0])] at he ⊢
   obtain ⟨c1, c2, c3⟩ := h.canon _ h0
   rw [List.length_drop] at c2
   obtain ⟨l', i1, i2, i3, i4, i5, i6⟩ := seqD_canon h b k (p + (d (b.drop p)).2.1) (acc ++ [(d (b.drop p)).1]) (by omega) he
   have hlen : (e (d (b.drop p)).1).length = (d (b.drop p)).2.1 := by rw [← c3, List.length_take, List.length_drop]; omega
   refine ⟨(d (b.drop p)).1 :: l', by rw [i1]; simp, by simp [i2], ?_, ?_, i5, ?_⟩
   ·intro x hx
    rcases List.mem_cons.1 hx with rfl | hx
    ·exact c1
    ·exact i3 x hx
   ·rw [i4, List.flatMap_cons, List.length_append, hlen]
    omega
   ·rw [List.flatMap_cons, List.length_append, List.take_add, hlen, c3, List.drop_drop, i6]
  ·rw [if_pos h0] at he
   exact absurd he h0
theorem decL_canon (h : Codec e d V) (b : List UInt8) (he : (decL d b).2.2 = 0) :
  (∀ x ∈ (decL d b).1, V x) ∧ (decL d b).2.1 ≤ b.length ∧ b.take (decL d b).2.1 = enc (decL d b).1.length ++ (decL d b).1.flatMap e := by
 unfold decL at he ⊢
 by_cases hc : (cnt b 1).2.2 = 0
 ·rw [if_neg (by simp [hc])] at he ⊢
  obtain ⟨c1, c2, c3, _⟩ := cnt_ok hc
  obtain ⟨n, hn, hn2, _⟩ := cnt_bound hc
  rw [hn, Int.toNat_natCast] at he ⊢
  obtain ⟨l', i1, i2, i3, i4, i5, i6⟩ := seqD_canon h b n (cnt b 1).2.1 [] (by omega) he
  rw [i1, List.nil_append, i4, List.take_add, i6]
  refine ⟨i3, by rw [← i4]; exact i5, ?_⟩
  rcases hd : dec b with ⟨m, u, e'⟩
  rw [hd] at c2
  simp only at c2
  subst c2
  obtain ⟨_, _, h3, _⟩ := dec_ok hd
  rw [c1, hd] at hn
  simp only at hn
  rw [c1, hd, i2]
  simp only
  rw [h3, hn]
 ·rw [if_pos hc] at he
  exact absurd he hc
theorem seqD_short (h : Codec e d V) : ∀ (l : List α) (pre : List UInt8) (j : Nat) (acc : List α), (∀ x ∈ l, V x) → j < (l.flatMap e).length →
  (seqD d (pre ++ (l.flatMap e).take j) l.length pre.length acc).2.2 = 3
 | [], pre, j, acc, _, hj => by simp at hj
 | x :: r, pre, j, acc, hv, hj => by
  have hx := hv x (by simp)
  simp only [List.length_cons, seqD]
  rw [List.drop_left]
  rcases Nat.lt_or_ge j (e x).length with h1 | h1
  ·have e1 : ((x :: r).flatMap e).take j = (e x).take j := by rw [List.flatMap_cons, List.take_append_of_le_length (by omega)]
   rw [e1]
   have := h.short x hx j h1
   rw [this]
   simp
  ·have e1 : ((x :: r).flatMap e).take j = e x ++ (r.flatMap e).take (j - (e x).length) := by
    rw [List.flatMap_cons, List.take_append, List.take_of_length_le h1]
   rw [e1, h.back x hx]
   simp only [ne_eq, not_true, if_false]
   simp only [List.flatMap_cons, List.length_append] at hj
   have ih := seqD_short h r (pre ++ e x) (j - (e x).length) (acc ++ [x]) (fun y hy => hv y (by simp [hy])) (by omega)
   rw [← List.append_assoc, show pre.length + (e x).length = (pre ++ e x).length from by simp]
   exact ih
theorem decL_short (h : Codec e d V) (l : List α) (hv : ∀ x ∈ l, V x) (hl : Is64 (l.length : Int)) (i : Nat) (hi : i < (enc l.length ++ l.flatMap e).length) :
  (decL d ((enc l.length ++ l.flatMap e).take i)).2.2 = 3 := by
 unfold decL
 rcases Nat.lt_or_ge i (enc l.length).length with h1 | h1
 ·have := cnt_short (size := 1) hl (l.flatMap e) i h1
  rw [if_pos (by rw [this]; simp), this]
 ·rw [List.length_append] at hi
  have e1 : (enc l.length ++ l.flatMap e).take i = enc l.length ++ (l.flatMap e).take (i - (enc l.length).length) := by
   rw [List.take_append, List.take_of_length_le h1]
  rw [e1]
  have hlen : ((l.flatMap e).take (i - (enc l.length).length)).length = i - (enc l.length).length := by rw [List.length_take]; omega
  rcases Nat.lt_or_ge (i - (enc l.length).length) l.length with h2 | h2
  ·have := cnt_less (size := 1) hl (Nat.le_refl _) ((l.flatMap e).take (i - (enc l.length).length)) (by omega)
   rw [if_pos (by rw [this]; simp), this]
  ·have hc := cnt_enc (size := 1) hl (Nat.le_refl _) ((l.flatMap e).take (i - (enc l.length).length)) (by omega)
   rw [hc]
   simp only [ne_eq, not_true, if_false, Int.toNat_natCast]
   exact seqD_short h l (enc l.length) _ [] hv (by omega)
end
/-! ### strings -/
/-! ### digests: bytes, 16 a digest -/
/-! ### the order of encodings -/
end Go.Proofs.YthliihpeodohpaaGreatDoor.W
namespace Go.Proofs.YthliihpeodohpaaGreatDoor.W
open Go.RowKit
theorem decL_len {α : Type} {e : α → List UInt8} {d : List UInt8 → α × Nat × Int} {V : α → Prop} (h : Codec e d V) (b : List UInt8) (he : (decL d b).2.2 = 0) : Is64 ((decL d b).1.length : Int) := by
 unfold decL at he ⊢
 by_cases hc : (cnt b 1).2.2 = 0
 ·rw [if_neg (by simp [hc])] at he ⊢
  obtain ⟨c1, c2, c3, _⟩ := cnt_ok hc
  obtain ⟨n, hn, hn2, _⟩ := cnt_bound hc
  rw [hn, Int.toNat_natCast] at he ⊢
  obtain ⟨l', i1, i2, _⟩ := seqD_canon h b n (cnt b 1).2.1 [] (by omega) he
  rw [i1, List.nil_append, i2, ← hn, c1]
  exact dec_range b
 ·rw [if_pos hc] at he
  exact absurd he hc
def VI (l : List Int) : Prop := (∀ x ∈ l, Is64 x) ∧ Is64 (l.length : Int)
theorem codecI : Codec encI decI VI where
 back := fun l h t => decL_back codec_int l t h.1 h.2
 canon := fun b h => by
  obtain ⟨h1, h2, h3⟩ := decL_canon codec_int b h
  exact ⟨⟨h1, decL_len codec_int b h⟩, h2, h3⟩
 short := fun l h i hi => decL_short codec_int l h.1 h.2 i hi
 pos := fun l h => by have := (enc_le l.length).1; unfold encI; rw [List.length_append]; omega
section
variable {α β : Type} {e : α → List UInt8} {d : List UInt8 → α × Nat × Int} {V : α → Prop} {e2 : β → List UInt8} {d2 : List UInt8 → β × Nat × Int} {V2 : β → Prop}
/-- One behind the other. -/
def dP [Inhabited α] [Inhabited β] (d : List UInt8 → α × Nat × Int) (d2 : List UInt8 → β × Nat × Int) (b : List UInt8) : (α × β) × Nat × Int :=
 if (d b).2.2 ≠ 0 then (default, 0, (d b).2.2)
 else if (d2 (b.drop (d b).2.1)).2.2 ≠ 0 then (default, 0, (d2 (b.drop (d b).2.1)).2.2)
 else (((d b).1, (d2 (b.drop (d b).2.1)).1), (d b).2.1 + (d2 (b.drop (d b).2.1)).2.1, 0)
def eP (e : α → List UInt8) (e2 : β → List UInt8) (x : α × β) : List UInt8 := e x.1 ++ e2 x.2
theorem codecP [Inhabited α] [Inhabited β] (h : Codec e d V) (h2 : Codec e2 d2 V2) : Codec (eP e e2) (dP d d2) (fun x => V x.1 ∧ V2 x.2) where
 back := fun x hx t => by
  have a := h.back x.1 hx.1 (e2 x.2 ++ t)
  have b := h2.back x.2 hx.2 t
  unfold eP dP
  rw [List.append_assoc, a]
  simp only [ne_eq, not_true, if_false, List.drop_left]
  rw [b]
  simp
 canon := fun b he => by
  unfold dP at he ⊢
  by_cases h0 : (d b).2.2 = 0
  ·rw [if_neg (by simp [h0])] at he ⊢
   by_cases h1 : (d2 (b.drop (d b).2.1)).2.2 = 0
   ·rw [if_neg (by simp [h1])] at he ⊢
    obtain ⟨a1, a2, a3⟩ := h.canon b h0
    obtain ⟨b1, b2, b3⟩ := h2.canon _ h1
    rw [List.length_drop] at b2
    refine ⟨⟨a1, b1⟩, by simp only; omega, ?_⟩
    unfold eP
    simp only
    rw [List.take_add, a3, b3]
   ·rw [if_pos h1] at he
    exact absurd he h1
  ·rw [if_pos h0] at he
   exact absurd he h0
 short := fun x hx i hi => by
  unfold eP at hi ⊢
  rw [List.length_append] at hi
  unfold dP
  rcases Nat.lt_or_ge i (e x.1).length with h1 | h1
  ·have a := h.short x.1 hx.1 i h1
   rw [List.take_append_of_le_length (by omega)]
   rw [if_pos (by rw [a]; decide)]
   exact a
  ·have e1 : (e x.1 ++ e2 x.2).take i = e x.1 ++ (e2 x.2).take (i - (e x.1).length) := by
    rw [List.take_append, List.take_of_length_le h1]
   have a := h.back x.1 hx.1 ((e2 x.2).take (i - (e x.1).length))
   have b := h2.short x.2 hx.2 (i - (e x.1).length) (by omega)
   rw [e1, a]
   simp only [ne_eq, not_true, if_false, List.drop_left]
   rw [if_pos (by rw [b]; decide)]
   exact b
 pos := fun x hx => by
  have := h.pos x.1 hx.1
  unfold eP
  rw [List.length_append]
  omega
/-- With a check; told otherwise. -/
def dM [Inhabited β] (d : List UInt8 → α × Nat × Int) (f : α → Option β) (b : List UInt8) : β × Nat × Int :=
 if (d b).2.2 ≠ 0 then (default, 0, (d b).2.2) else match f (d b).1 with
  | some y => (y, (d b).2.1, 0)
  | none => (default, 0, 2)
theorem codecM [Inhabited β] (h : Codec e d V) {f : α → Option β} {g : β → α} (h1 : ∀ y, V2 y → V (g y) ∧ f (g y) = some y) (h3 : ∀ x y, V x → f x = some y → g y = x ∧ V2 y) : Codec (fun y => e (g y)) (dM d f) V2 where
 back := fun y hy t => by
  obtain ⟨a1, a2⟩ := h1 y hy
  have a := h.back (g y) a1 t
  unfold dM
  rw [a]
  simp [a2]
 canon := fun b he => by
  unfold dM at he ⊢
  by_cases h0 : (d b).2.2 = 0
  ·rw [if_neg (by simp [h0])] at he ⊢
   obtain ⟨a1, a2, a3⟩ := h.canon b h0
   cases hf : f (d b).1 with
   | none => rw [hf] at he; simp at he
   | some y =>
    obtain ⟨b1, b2⟩ := h3 _ _ a1 hf
    refine ⟨b2, a2, ?_⟩
    show b.take (d b).2.1 = e (g y)
    rw [a3, b1]
  ·rw [if_pos h0] at he
   exact absurd he h0
 short := fun y hy i hi => by
  obtain ⟨a1, a2⟩ := h1 y hy
  have a := h.short (g y) a1 i hi
  unfold dM
  rw [if_pos (by rw [a]; decide)]
  exact a
 pos := fun y hy => h.pos (g y) (h1 y hy).1
/-- Different things have different codes. -/
theorem Codec.inj (h : Codec e d V) {x y : α} (hx : V x) (hy : V y) (he : e x = e y) : x = y := by
 have a := h.back x hx []
 have b := h.back y hy []
 rw [he, b] at a
 exact (Prod.mk.inj a).1.symm
end
end Go.Proofs.YthliihpeodohpaaGreatDoor.W
namespace Go.Proofs.YthliihpeodohpaaGreatDoor.E
open Go.RowKit
set_option linter.unusedVariables false
set_option linter.unusedSimpArgs false
def u8v (b : UInt8) : V := .k (.int .u8 (b.toNat : Int))
def u64 (m : Nat) : V := .k (.int .u64 (m : Int))
section
variable {a b l : List UInt8} {i : Nat} {c : UInt8}
theorem byL_app (a b : List UInt8) : byL a ++ byL b = byL (a ++ b) := List.map_append.symm
theorem byL_len (a : List UInt8) : (byL a).length = a.length := List.length_map ..
theorem byL_ok (a : List UInt8) : ∀ cs ∈ byL a, cs.length = 1 ∧ cs.all one = true := fun cs h => by
 obtain ⟨x, _, rfl⟩ := List.mem_map.1 h
 exact ⟨rfl, rfl⟩
theorem byL_k (a : List UInt8) : ∀ cs ∈ byL a, cs.all isK = true := fun cs h => by
 obtain ⟨x, _, rfl⟩ := List.mem_map.1 h
 rfl
end
noncomputable abbrev fwI : Func := fnOf PP 82
section
variable {n : Int} {k : Nat} {l : List UInt8}
theorem fdiv_256 (M j : Nat) : (M : Int).fdiv (2 ^ (8 * j)) = ((M / 256 ^ j : Nat) : Int) := by
 rw [Int.fdiv_eq_ediv_of_nonneg _ (by exact Int.le_of_lt (Int.pow_pos (by decide)))]
 exact W.div256 M j
/-- A byte of the number, under the flip. -/
theorem wI_byte (n : Int) (j : Nat) : bits BinOp.xor IntKind.u8 (IntKind.u8.wrap ((W.mag n : Int).fdiv (2 ^ (8 * j)))) (W.fl (W.neg n)) = ((W.fx (W.neg n) (UInt8.ofNat (W.mag n / 256 ^ j))).toNat : Int) := by
 rw [fdiv_256, W.wrap_u8_nat]
 exact W.xor_fl _ _
def bI (n : Int) (j : Nat) : UInt8 := W.fx (W.neg n) (UInt8.ofNat (W.mag n / 256 ^ j))
theorem wI_take {l : List UInt8} {j : Nat} (hk : W.wid (W.mag n) = k) (hj : j + 1 ≤ k) (e : (W.enc n).take (k - (j + 1) + 1) = l) : (W.enc n).take (k - j + 1) = l ++ [bI n j] := by
 have h := W.enc_step n hk (j := j + 1) (by omega) hj
 rw [e] at h
 exact h
theorem take9 (n : Int) (i : Nat) : ((W.enc n).take i).length ≤ 9 := by have := (W.enc_le n).2; rw [List.length_take]; omega
def wIs (n : Int) : List (Nat × V) := [(3, u64 (W.mag n)), (4, .k (.int .u8 (W.fl (W.neg n))))]
theorem wI_t0 (hk : W.wid (W.mag n) = k) (e : (W.enc n).take (k - 0 + 1) = l) : Gd PP 82 (.o 5 1 (byL (W.enc n))) (lp fwI 1) (at_ fwI (wIs n ++ [(6, .ow 0), (7, ni (-1))]) [.rw 5 1 (byL l)]) := by
 rw [Nat.sub_zero, W.enc_all n hk] at e
 subst e
 exact fi [nf] (by kernel_rfl) (by kernel_rfl)
theorem wI_t1 (hk : W.wid (W.mag n) = k) (hj : 1 ≤ k) (e : (W.enc n).take (k - 1 + 1) = l) : Gd PP 82 (.o 5 1 (byL (W.enc n))) (lp fwI 1) (at_ fwI (wIs n ++ [(6, .ow 0), (7, ni (0))]) [.rw 5 1 (byL l)]) := by
 have e2 := wI_take (j := 0) hk hj e
 have h9 := take9 n (k - 0 + 1)
 rw [e2] at h9
 exact .to mo_ [.mv 0 2] [3, 4, 6, 7] [0] 1 [yt, .eqv 43 (.k (.int .u8 (bits BinOp.xor IntKind.u8 (IntKind.u8.wrap ((W.mag n : Int).fdiv (2 ^ (8 * 0)))) (W.fl (W.neg n))))) (u8v (bI n 0)) (by rw [wI_byte n 0]; rfl), .app (byL l) (byL [bI n 0]) (byL (l ++ [bI n 0])) 100 (byL_app _ _) Nat.zero_lt_one (by rw [byL_len]; omega)] (wI_t0 hk e2) (by kernel_rfl)
theorem wI_t2 (hk : W.wid (W.mag n) = k) (hj : 2 ≤ k) (e : (W.enc n).take (k - 2 + 1) = l) : Gd PP 82 (.o 5 1 (byL (W.enc n))) (lp fwI 1) (at_ fwI (wIs n ++ [(6, .ow 0), (7, ni (1))]) [.rw 5 1 (byL l)]) := by
 have e2 := wI_take (j := 1) hk hj e
 have h9 := take9 n (k - 1 + 1)
 rw [e2] at h9
 exact .to mo_ [.mv 0 2] [3, 4, 6, 7] [0] 1 [yt, .eqv 43 (.k (.int .u8 (bits BinOp.xor IntKind.u8 (IntKind.u8.wrap ((W.mag n : Int).fdiv (2 ^ (8 * 1)))) (W.fl (W.neg n))))) (u8v (bI n 1)) (by rw [wI_byte n 1]; rfl), .app (byL l) (byL [bI n 1]) (byL (l ++ [bI n 1])) 100 (byL_app _ _) Nat.zero_lt_one (by rw [byL_len]; omega)] (wI_t1 hk (by omega) e2) (by kernel_rfl)
theorem wI_t3 (hk : W.wid (W.mag n) = k) (hj : 3 ≤ k) (e : (W.enc n).take (k - 3 + 1) = l) : Gd PP 82 (.o 5 1 (byL (W.enc n))) (lp fwI 1) (at_ fwI (wIs n ++ [(6, .ow 0), (7, ni (2))]) [.rw 5 1 (byL l)]) := by
 have e2 := wI_take (j := 2) hk hj e
 have h9 := take9 n (k - 2 + 1)
 rw [e2] at h9
 exact .to mo_ [.mv 0 2] [3, 4, 6, 7] [0] 1 [yt, .eqv 43 (.k (.int .u8 (bits BinOp.xor IntKind.u8 (IntKind.u8.wrap ((W.mag n : Int).fdiv (2 ^ (8 * 2)))) (W.fl (W.neg n))))) (u8v (bI n 2)) (by rw [wI_byte n 2]; rfl), .app (byL l) (byL [bI n 2]) (byL (l ++ [bI n 2])) 100 (byL_app _ _) Nat.zero_lt_one (by rw [byL_len]; omega)] (wI_t2 hk (by omega) e2) (by kernel_rfl)
theorem wI_t4 (hk : W.wid (W.mag n) = k) (hj : 4 ≤ k) (e : (W.enc n).take (k - 4 + 1) = l) : Gd PP 82 (.o 5 1 (byL (W.enc n))) (lp fwI 1) (at_ fwI (wIs n ++ [(6, .ow 0), (7, ni (3))]) [.rw 5 1 (byL l)]) := by
 have e2 := wI_take (j := 3) hk hj e
 have h9 := take9 n (k - 3 + 1)
 rw [e2] at h9
 exact .to mo_ [.mv 0 2] [3, 4, 6, 7] [0] 1 [yt, .eqv 43 (.k (.int .u8 (bits BinOp.xor IntKind.u8 (IntKind.u8.wrap ((W.mag n : Int).fdiv (2 ^ (8 * 3)))) (W.fl (W.neg n))))) (u8v (bI n 3)) (by rw [wI_byte n 3]; rfl), .app (byL l) (byL [bI n 3]) (byL (l ++ [bI n 3])) 100 (byL_app _ _) Nat.zero_lt_one (by rw [byL_len]; omega)] (wI_t3 hk (by omega) e2) (by kernel_rfl)
theorem wI_t5 (hk : W.wid (W.mag n) = k) (hj : 5 ≤ k) (e : (W.enc n).take (k - 5 + 1) = l) : Gd PP 82 (.o 5 1 (byL (W.enc n))) (lp fwI 1) (at_ fwI (wIs n ++ [(6, .ow 0), (7, ni (4))]) [.rw 5 1 (byL l)]) := by
 have e2 := wI_take (j := 4) hk hj e
 have h9 := take9 n (k - 4 + 1)
 rw [e2] at h9
 exact .to mo_ [.mv 0 2] [3, 4, 6, 7] [0] 1 [yt, .eqv 43 (.k (.int .u8 (bits BinOp.xor IntKind.u8 (IntKind.u8.wrap ((W.mag n : Int).fdiv (2 ^ (8 * 4)))) (W.fl (W.neg n))))) (u8v (bI n 4)) (by rw [wI_byte n 4]; rfl), .app (byL l) (byL [bI n 4]) (byL (l ++ [bI n 4])) 100 (byL_app _ _) Nat.zero_lt_one (by rw [byL_len]; omega)] (wI_t4 hk (by omega) e2) (by kernel_rfl)
theorem wI_t6 (hk : W.wid (W.mag n) = k) (hj : 6 ≤ k) (e : (W.enc n).take (k - 6 + 1) = l) : Gd PP 82 (.o 5 1 (byL (W.enc n))) (lp fwI 1) (at_ fwI (wIs n ++ [(6, .ow 0), (7, ni (5))]) [.rw 5 1 (byL l)]) := by
 have e2 := wI_take (j := 5) hk hj e
 have h9 := take9 n (k - 5 + 1)
 rw [e2] at h9
 exact .to mo_ [.mv 0 2] [3, 4, 6, 7] [0] 1 [yt, .eqv 43 (.k (.int .u8 (bits BinOp.xor IntKind.u8 (IntKind.u8.wrap ((W.mag n : Int).fdiv (2 ^ (8 * 5)))) (W.fl (W.neg n))))) (u8v (bI n 5)) (by rw [wI_byte n 5]; rfl), .app (byL l) (byL [bI n 5]) (byL (l ++ [bI n 5])) 100 (byL_app _ _) Nat.zero_lt_one (by rw [byL_len]; omega)] (wI_t5 hk (by omega) e2) (by kernel_rfl)
theorem wI_t7 (hk : W.wid (W.mag n) = k) (hj : 7 ≤ k) (e : (W.enc n).take (k - 7 + 1) = l) : Gd PP 82 (.o 5 1 (byL (W.enc n))) (lp fwI 1) (at_ fwI (wIs n ++ [(6, .ow 0), (7, ni (6))]) [.rw 5 1 (byL l)]) := by
 have e2 := wI_take (j := 6) hk hj e
 have h9 := take9 n (k - 6 + 1)
 rw [e2] at h9
 exact .to mo_ [.mv 0 2] [3, 4, 6, 7] [0] 1 [yt, .eqv 43 (.k (.int .u8 (bits BinOp.xor IntKind.u8 (IntKind.u8.wrap ((W.mag n : Int).fdiv (2 ^ (8 * 6)))) (W.fl (W.neg n))))) (u8v (bI n 6)) (by rw [wI_byte n 6]; rfl), .app (byL l) (byL [bI n 6]) (byL (l ++ [bI n 6])) 100 (byL_app _ _) Nat.zero_lt_one (by rw [byL_len]; omega)] (wI_t6 hk (by omega) e2) (by kernel_rfl)
theorem wI_t8 (hk : W.wid (W.mag n) = k) (hj : 8 ≤ k) (e : (W.enc n).take (k - 8 + 1) = l) : Gd PP 82 (.o 5 1 (byL (W.enc n))) (lp fwI 1) (at_ fwI (wIs n ++ [(6, .ow 0), (7, ni (7))]) [.rw 5 1 (byL l)]) := by
 have e2 := wI_take (j := 7) hk hj e
 have h9 := take9 n (k - 7 + 1)
 rw [e2] at h9
 exact .to mo_ [.mv 0 2] [3, 4, 6, 7] [0] 1 [yt, .eqv 43 (.k (.int .u8 (bits BinOp.xor IntKind.u8 (IntKind.u8.wrap ((W.mag n : Int).fdiv (2 ^ (8 * 7)))) (W.fl (W.neg n))))) (u8v (bI n 7)) (by rw [wI_byte n 7]; rfl), .app (byL l) (byL [bI n 7]) (byL (l ++ [bI n 7])) 100 (byL_app _ _) Nat.zero_lt_one (by rw [byL_len]; omega)] (wI_t7 hk (by omega) e2) (by kernel_rfl)
theorem wI_hd (n : Int) (k : Nat) (hk : W.wid (W.mag n) = k) : bits BinOp.xor IntKind.u8 (IntKind.u8.wrap (128 + (k : Int))) (W.fl (W.neg n)) = ((W.fx (W.neg n) (UInt8.ofNat (128 + k))).toNat : Int) := by
 have e : IntKind.u8.wrap (128 + (k : Int)) = ((UInt8.ofNat (128 + k)).toNat : Int) := by
  have := W.wrap_u8_nat (128 + k)
  rwa [show ((128 + k : Nat) : Int) = 128 + (k : Int) from by omega] at this
 rw [e]
 exact W.xor_fl _ _
theorem wI_no {M j : Nat} (h : ¬ 0 < M / 256 ^ j) : M < 256 ^ j := by
 have hp : 0 < 256 ^ j := Nat.pow_pos (by omega)
 rcases Nat.div_eq_zero_iff.1 (Nat.le_zero.1 (Nat.not_lt.1 h)) with h3 | h3
 · omega
 · exact h3
theorem wI_yes {M j : Nat} (h : 0 < M / 256 ^ j) : 256 ^ j ≤ M := by
 have hp : 0 < 256 ^ j := Nat.pow_pos (by omega)
 rcases Nat.lt_or_ge M (256 ^ j) with h2 | h2
 · rw [Nat.div_eq_of_lt h2] at h; omega
 · exact h2
theorem wI_wid (hn : W.Is64 n) {k : Nat} (h1 : W.mag n < 256 ^ k) (h2 : k = 0 ∨ 256 ^ (k - 1) ≤ W.mag n) : W.wid (W.mag n) = k := by
 have := W.mag_lt hn
 exact W.wid_of (by omega) ⟨h1, h2⟩
theorem wI_h0 (hn : W.Is64 n) (hM : W.mag n < 256 ^ 0) : Gd PP 82 (.o 5 1 (byL (W.enc n))) (lp fwI 0) (at_ fwI (wIs n ++ [(5, ni 0)]) []) := by
 have hk := wI_wid hn (k := 0) hM (.inl rfl)
 exact .to mo_ [] [3, 4, 6, 7] [0] 1 [nf, .eqv 28 (.k (.int .u8 (bits BinOp.xor IntKind.u8 (IntKind.u8.wrap (128 + ((0 : Nat) : Int))) (W.fl (W.neg n))))) (u8v (W.fx (W.neg n) (UInt8.ofNat (128 + 0)))) (by rw [wI_hd n 0 hk]; rfl)] (wI_t0 hk (W.enc_head n hk)) (by kernel_rfl)
theorem wI_h1 (hn : W.Is64 n) (hM : W.mag n < 256 ^ 1) : Gd PP 82 (.o 5 1 (byL (W.enc n))) (lp fwI 0) (at_ fwI (wIs n ++ [(5, ni 1)]) []) := by
 by_cases h : 0 < W.mag n / 256 ^ 0
 · have hk := wI_wid hn (k := 1) hM (.inr (wI_yes h))
   exact .to mo_ [] [3, 4, 6, 7] [0] 1 [yt, ye (t := decide ((W.mag n : Int).fdiv (2 ^ (8 * 0)) > 0)) (by rw [fdiv_256]; exact decide_eq_true (by omega)), .eqv 28 (.k (.int .u8 (bits BinOp.xor IntKind.u8 (IntKind.u8.wrap (128 + ((1 : Nat) : Int))) (W.fl (W.neg n))))) (u8v (W.fx (W.neg n) (UInt8.ofNat (128 + 1)))) (by rw [wI_hd n 1 hk]; rfl)] (wI_t1 hk (by omega) (W.enc_head n hk)) (by kernel_rfl)
 · exact .to mo_ [] [3, 4, 5] [] 0 [yt, na (t := decide ((W.mag n : Int).fdiv (2 ^ (8 * 0)) > 0)) (by rw [fdiv_256]; exact decide_eq_false (by omega))] (wI_h0 hn (wI_no h)) (by kernel_rfl)
theorem wI_h2 (hn : W.Is64 n) (hM : W.mag n < 256 ^ 2) : Gd PP 82 (.o 5 1 (byL (W.enc n))) (lp fwI 0) (at_ fwI (wIs n ++ [(5, ni 2)]) []) := by
 by_cases h : 0 < W.mag n / 256 ^ 1
 · have hk := wI_wid hn (k := 2) hM (.inr (wI_yes h))
   exact .to mo_ [] [3, 4, 6, 7] [0] 1 [yt, ye (t := decide ((W.mag n : Int).fdiv (2 ^ (8 * 1)) > 0)) (by rw [fdiv_256]; exact decide_eq_true (by omega)), .eqv 28 (.k (.int .u8 (bits BinOp.xor IntKind.u8 (IntKind.u8.wrap (128 + ((2 : Nat) : Int))) (W.fl (W.neg n))))) (u8v (W.fx (W.neg n) (UInt8.ofNat (128 + 2)))) (by rw [wI_hd n 2 hk]; rfl)] (wI_t2 hk (by omega) (W.enc_head n hk)) (by kernel_rfl)
 · exact .to mo_ [] [3, 4, 5] [] 0 [yt, na (t := decide ((W.mag n : Int).fdiv (2 ^ (8 * 1)) > 0)) (by rw [fdiv_256]; exact decide_eq_false (by omega))] (wI_h1 hn (wI_no h)) (by kernel_rfl)
theorem wI_h3 (hn : W.Is64 n) (hM : W.mag n < 256 ^ 3) : Gd PP 82 (.o 5 1 (byL (W.enc n))) (lp fwI 0) (at_ fwI (wIs n ++ [(5, ni 3)]) []) := by
 by_cases h : 0 < W.mag n / 256 ^ 2
 · have hk := wI_wid hn (k := 3) hM (.inr (wI_yes h))
   exact .to mo_ [] [3, 4, 6, 7] [0] 1 [yt, ye (t := decide ((W.mag n : Int).fdiv (2 ^ (8 * 2)) > 0)) (by rw [fdiv_256]; exact decide_eq_true (by omega)), .eqv 28 (.k (.int .u8 (bits BinOp.xor IntKind.u8 (IntKind.u8.wrap (128 + ((3 : Nat) : Int))) (W.fl (W.neg n))))) (u8v (W.fx (W.neg n) (UInt8.ofNat (128 + 3)))) (by rw [wI_hd n 3 hk]; rfl)] (wI_t3 hk (by omega) (W.enc_head n hk)) (by kernel_rfl)
 · exact .to mo_ [] [3, 4, 5] [] 0 [yt, na (t := decide ((W.mag n : Int).fdiv (2 ^ (8 * 2)) > 0)) (by rw [fdiv_256]; exact decide_eq_false (by omega))] (wI_h2 hn (wI_no h)) (by kernel_rfl)
theorem wI_h4 (hn : W.Is64 n) (hM : W.mag n < 256 ^ 4) : Gd PP 82 (.o 5 1 (byL (W.enc n))) (lp fwI 0) (at_ fwI (wIs n ++ [(5, ni 4)]) []) := by
 by_cases h : 0 < W.mag n / 256 ^ 3
 · have hk := wI_wid hn (k := 4) hM (.inr (wI_yes h))
   exact .to mo_ [] [3, 4, 6, 7] [0] 1 [yt, ye (t := decide ((W.mag n : Int).fdiv (2 ^ (8 * 3)) > 0)) (by rw [fdiv_256]; exact decide_eq_true (by omega)), .eqv 28 (.k (.int .u8 (bits BinOp.xor IntKind.u8 (IntKind.u8.wrap (128 + ((4 : Nat) : Int))) (W.fl (W.neg n))))) (u8v (W.fx (W.neg n) (UInt8.ofNat (128 + 4)))) (by rw [wI_hd n 4 hk]; rfl)] (wI_t4 hk (by omega) (W.enc_head n hk)) (by kernel_rfl)
 · exact .to mo_ [] [3, 4, 5] [] 0 [yt, na (t := decide ((W.mag n : Int).fdiv (2 ^ (8 * 3)) > 0)) (by rw [fdiv_256]; exact decide_eq_false (by omega))] (wI_h3 hn (wI_no h)) (by kernel_rfl)
theorem wI_h5 (hn : W.Is64 n) (hM : W.mag n < 256 ^ 5) : Gd PP 82 (.o 5 1 (byL (W.enc n))) (lp fwI 0) (at_ fwI (wIs n ++ [(5, ni 5)]) []) := by
 by_cases h : 0 < W.mag n / 256 ^ 4
 · have hk := wI_wid hn (k := 5) hM (.inr (wI_yes h))
   exact .to mo_ [] [3, 4, 6, 7] [0] 1 [yt, ye (t := decide ((W.mag n : Int).fdiv (2 ^ (8 * 4)) > 0)) (by rw [fdiv_256]; exact decide_eq_true (by omega)), .eqv 28 (.k (.int .u8 (bits BinOp.xor IntKind.u8 (IntKind.u8.wrap (128 + ((5 : Nat) : Int))) (W.fl (W.neg n))))) (u8v (W.fx (W.neg n) (UInt8.ofNat (128 + 5)))) (by rw [wI_hd n 5 hk]; rfl)] (wI_t5 hk (by omega) (W.enc_head n hk)) (by kernel_rfl)
 · exact .to mo_ [] [3, 4, 5] [] 0 [yt, na (t := decide ((W.mag n : Int).fdiv (2 ^ (8 * 4)) > 0)) (by rw [fdiv_256]; exact decide_eq_false (by omega))] (wI_h4 hn (wI_no h)) (by kernel_rfl)
theorem wI_h6 (hn : W.Is64 n) (hM : W.mag n < 256 ^ 6) : Gd PP 82 (.o 5 1 (byL (W.enc n))) (lp fwI 0) (at_ fwI (wIs n ++ [(5, ni 6)]) []) := by
 by_cases h : 0 < W.mag n / 256 ^ 5
 · have hk := wI_wid hn (k := 6) hM (.inr (wI_yes h))
   exact .to mo_ [] [3, 4, 6, 7] [0] 1 [yt, ye (t := decide ((W.mag n : Int).fdiv (2 ^ (8 * 5)) > 0)) (by rw [fdiv_256]; exact decide_eq_true (by omega)), .eqv 28 (.k (.int .u8 (bits BinOp.xor IntKind.u8 (IntKind.u8.wrap (128 + ((6 : Nat) : Int))) (W.fl (W.neg n))))) (u8v (W.fx (W.neg n) (UInt8.ofNat (128 + 6)))) (by rw [wI_hd n 6 hk]; rfl)] (wI_t6 hk (by omega) (W.enc_head n hk)) (by kernel_rfl)
 · exact .to mo_ [] [3, 4, 5] [] 0 [yt, na (t := decide ((W.mag n : Int).fdiv (2 ^ (8 * 5)) > 0)) (by rw [fdiv_256]; exact decide_eq_false (by omega))] (wI_h5 hn (wI_no h)) (by kernel_rfl)
theorem wI_h7 (hn : W.Is64 n) (hM : W.mag n < 256 ^ 7) : Gd PP 82 (.o 5 1 (byL (W.enc n))) (lp fwI 0) (at_ fwI (wIs n ++ [(5, ni 7)]) []) := by
 by_cases h : 0 < W.mag n / 256 ^ 6
 · have hk := wI_wid hn (k := 7) hM (.inr (wI_yes h))
   exact .to mo_ [] [3, 4, 6, 7] [0] 1 [yt, ye (t := decide ((W.mag n : Int).fdiv (2 ^ (8 * 6)) > 0)) (by rw [fdiv_256]; exact decide_eq_true (by omega)), .eqv 28 (.k (.int .u8 (bits BinOp.xor IntKind.u8 (IntKind.u8.wrap (128 + ((7 : Nat) : Int))) (W.fl (W.neg n))))) (u8v (W.fx (W.neg n) (UInt8.ofNat (128 + 7)))) (by rw [wI_hd n 7 hk]; rfl)] (wI_t7 hk (by omega) (W.enc_head n hk)) (by kernel_rfl)
 · exact .to mo_ [] [3, 4, 5] [] 0 [yt, na (t := decide ((W.mag n : Int).fdiv (2 ^ (8 * 6)) > 0)) (by rw [fdiv_256]; exact decide_eq_false (by omega))] (wI_h6 hn (wI_no h)) (by kernel_rfl)
theorem wI_h8 (hn : W.Is64 n) (hM : W.mag n < 256 ^ 8) : Gd PP 82 (.o 5 1 (byL (W.enc n))) (lp fwI 0) (at_ fwI (wIs n ++ [(5, ni 8)]) []) := by
 by_cases h : 0 < W.mag n / 256 ^ 7
 · have hk := wI_wid hn (k := 8) hM (.inr (wI_yes h))
   exact .to mo_ [] [3, 4, 6, 7] [0] 1 [yt, ye (t := decide ((W.mag n : Int).fdiv (2 ^ (8 * 7)) > 0)) (by rw [fdiv_256]; exact decide_eq_true (by omega)), .eqv 28 (.k (.int .u8 (bits BinOp.xor IntKind.u8 (IntKind.u8.wrap (128 + ((8 : Nat) : Int))) (W.fl (W.neg n))))) (u8v (W.fx (W.neg n) (UInt8.ofNat (128 + 8)))) (by rw [wI_hd n 8 hk]; rfl)] (wI_t8 hk (by omega) (W.enc_head n hk)) (by kernel_rfl)
 · exact .to mo_ [] [3, 4, 5] [] 0 [yt, na (t := decide ((W.mag n : Int).fdiv (2 ^ (8 * 7)) > 0)) (by rw [fdiv_256]; exact decide_eq_false (by omega))] (wI_h7 hn (wI_no h)) (by kernel_rfl)
theorem e_wint (hn : W.Is64 n) : Pure PP 82 [ni n] (.o 5 1 (byL (W.enc n))) := by
 have hM : W.mag n < 256 ^ 8 := by have := W.mag_lt hn; omega
 by_cases h0 : n < 0
 · have hng : W.neg n = true := by unfold W.neg; simpa using h0
   have hx := W.u64_neg n hn h0
   have g := wI_h8 hn hM
   unfold wIs at g
   rw [hng] at g
   exact pf (by kernel_rfl) (.to mo_ [] [3, 4, 5] [] 0 [ye (t := decide (n < 0)) (decide_eq_true h0), .eqv 13 (.k (.int .u64 (bits BinOp.xor IntKind.u64 IntKind.u64.max (IntKind.u64.wrap n)))) (u64 (W.mag n)) (by rw [hx]; rfl)] g (by kernel_rfl))
 · have hng : W.neg n = false := by unfold W.neg; simpa using h0
   have hx := W.u64_pos n hn h0
   have g := wI_h8 hn hM
   unfold wIs at g
   rw [hng] at g
   exact pf (by kernel_rfl) (.to mo_ [] [3, 4, 5] [] 0 [.eqv 9 (.k (.int .u64 (IntKind.u64.wrap n))) (u64 (W.mag n)) (by rw [hx]; rfl), na (t := decide (n < 0)) (decide_eq_false h0)] g (by kernel_rfl))
end
noncomputable abbrev fwL : Func := fnOf PP 49
theorem encI_take {l : List Int} {i : Nat} {x : Int} (h : l[i]? = some x) : W.enc l.length ++ (l.take (i + 1)).flatMap W.enc = (W.enc l.length ++ (l.take i).flatMap W.enc) ++ W.enc x := by
 rw [W.take_flat W.enc h, List.append_assoc]
theorem e_wints {l : List Int} (hl : ∀ x ∈ l, W.Is64 x) (hb : l.length ≤ 100000) : Pure PP 49 [zl l] (.o 5 1 (byL (W.encI l))) := by
 have hz := zs_len l
 let P : Nat → List UInt8 := fun i => W.enc l.length ++ (l.take i).flatMap W.enc
 let X : Nat → St := fun i => at_ fwL [(3, .ow 0), (9, zl l), (10, ni ((zs l).length : Int)), (11, ni i)] [.rw 5 1 (byL (P i))]
 have h0 : P 0 = W.enc l.length := by simp [P]
 have hn : P l.length = W.encI l := by simp only [P]; rw [List.take_length]; rfl
 have hPl : ∀ i, (P i).length ≤ (W.encI l).length := fun i => by
  have := W.flat_le W.enc l i
  simp only [P, W.encI, List.length_append]; omega
 have hle := W.encI_le l
 have h64 : W.Is64 (l.length : Int) := W.nat64 (by omega)
 refine pf (by kernel_rfl) (.to mo_ [] [3, 9, 10, 11] [0] 1 [.eqv 7 (ni ((zs l).length : Int)) (ni (l.length : Int)) (by rw [hz]), cl (e_wint h64)] (td' := lp fwL 0) (σ' := at_ fwL [(3, .ow 0), (9, zl l), (10, ni ((zs l).length : Int)), (11, ni 0)] [.rw 5 1 (byL (W.enc l.length))]) ?_ (by kernel_rfl))
 rw [← h0]
 refine Gd.loop X (fun i => i ≤ l.length) (fun i => l.length - i) ?_ 0 (Nat.zero_le _)
 intro i hi ih
 by_cases h : i < l.length
 · have e := zs_el h
   have hx := num_el h
   generalize l.getD i 0 = d at e hx
   have hd : W.Is64 d := hl d (List.mem_of_getElem? hx)
   have eP : P (i + 1) = P i ++ W.enc d := encI_take hx
   have h1 := hPl (i + 1)
   have h2 := (W.enc_le d).1
   exact .to mo_ [.mv 0 2] [3, 9, 10, 11] [0] 1 [ye (t := decide ((i : Int) < ((zs l).length : Int))) (decide_eq_true (by omega)), .sel _ _ _ e, cl (e_wint hd), .app (byL (P i)) (byL (W.enc d)) (byL (P (i + 1))) 1000000 (by rw [byL_app, eP]) (by rw [byL_len]; omega) (by rw [byL_len]; omega), inc 19 i (by omega)] (ih (i + 1) h (by omega)) (by kernel_rfl)
 · have hi2 : i = l.length := by omega
   subst hi2
   rw [← hn]
   exact fi [na (t := decide ((l.length : Int) < ((zs l).length : Int))) (decide_eq_false (by omega))] (by kernel_rfl) (by kernel_rfl)
end Go.Proofs.YthliihpeodohpaaGreatDoor.E


