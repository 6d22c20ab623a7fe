/-
 PLAIN: decoding an encoding, canonical encodings, encodings cut short.
-/
import Derived.Test.YtgdibcgphjmofaaPlainX
namespace Go.Proofs.Ytgdibcgphjmofaa.W
open Go.RowKit
/-- A code: decoding an encoding, whatever follows; what is decoded is an encoding; one cut short yields 3. -/
structure Codec {α : Type} (e : α → List UInt8) (d : List UInt8 → α × Nat × Int) (V : α → Prop) : Prop where
 back : ∀ x, V x → ∀ t, d (e x ++ t) = (x, (e x).length, 0)
 canon : ∀ b, (d b).2.2 = 0 → V (d b).1 ∧ (d b).2.1 ≤ b.length ∧ b.take (d b).2.1 = e (d b).1
 short : ∀ x, V x → ∀ i, i < (e x).length → (d ((e x).take i)).2.2 = 3
 pos : ∀ x, V x → 0 < (e x).length
theorem codec_int : Codec enc dec Is64 where
 back := fun x h t => dec_enc h t
 canon := fun b h => by
  rcases hd : dec b with ⟨n, u, e⟩
  rw [hd] at h
  simp only at h
  subst h
  obtain ⟨h1, h2, h3, _⟩ := dec_ok hd
  exact ⟨h1, h2, h3⟩
 short := fun x h i hi => by rw [dec_short h i hi]
 pos := fun x _ => by have := (enc_le x).1; omega
theorem nat64 {n : Nat} (h : n ≤ 4611686018427387904) : Is64 (n : Int) := by unfold Is64; omega
theorem cnt_enc {n size : Nat} (hn : Is64 (n : Int)) (hs : 1 ≤ size) (rest : List UInt8) (hr : n * size ≤ rest.length) : cnt (enc n ++ rest) size = ((n : Int), (enc n).length, 0) := by
 have h1 := dec_enc hn rest
 unfold cnt
 rw [h1]
 simp only [ne_eq, not_true, if_false, List.length_append, Nat.add_sub_cancel_left]
 rw [if_neg (by omega), if_neg]
 have : n ≤ rest.length / size := (Nat.le_div_iff_mul_le (by omega)).2 hr
 omega
theorem cnt_short {n size : Nat} (hn : Is64 (n : Int)) (rest : List UInt8) (i : Nat) (hi : i < (enc n).length) : (cnt ((enc n ++ rest).take i) size).2.2 = 3 := by
 have h1 := dec_short hn i hi
 rw [List.take_append_of_le_length (by omega)]
 unfold cnt
 rw [h1]
 simp
theorem cnt_less {n size : Nat} (hn : Is64 (n : Int)) (hs : 1 ≤ size) (rest : List UInt8) (hr : rest.length < n * size) : (cnt (enc n ++ rest) size).2.2 = 3 := by
 have h1 := dec_enc hn rest
 unfold cnt
 rw [h1]
 simp only [ne_eq, not_true, if_false, List.length_append, Nat.add_sub_cancel_left]
 rw [if_neg (by omega), if_pos]
 have : rest.length / size < n := (Nat.div_lt_iff_lt_mul (by omega)).2 hr
 omega
section
variable {α : Type} {e : α → List UInt8} {d : List UInt8 → α × Nat × Int} {V : α → Prop}
theorem seqD_back (h : Codec e d V) : ∀ (l : List α) (pre t : List UInt8) (acc : List α), (∀ x ∈ l, V x) →
  seqD d (pre ++ l.flatMap e ++ t) l.length pre.length acc = (acc ++ l, pre.length + (l.flatMap e).length, 0)
 | [], pre, t, acc, _ => by simp [seqD]
 | x :: r, pre, t, acc, hv => by
  have hx := h.back x (hv x (by simp)) (r.flatMap e ++ t)
  have hdrop : (pre ++ (x :: r).flatMap e ++ t).drop pre.length = e x ++ (r.flatMap e ++ t) := by
   rw [List.append_assoc, List.drop_left]
   simp
  simp only [List.length_cons, seqD]
  rw [hdrop, hx]
  simp only [ne_eq, not_true, if_false]
  have ih := seqD_back h r (pre ++ e x) t (acc ++ [x]) (fun y hy => hv y (by simp [hy]))
  have e1 : pre ++ (x :: r).flatMap e ++ t = pre ++ e x ++ r.flatMap e ++ t := by simp
  rw [e1, show pre.length + (e x).length = (pre ++ e x).length from by simp, ih]
  simp [Nat.add_assoc]
theorem flat_len (h : Codec e d V) : ∀ (l : List α), (∀ x ∈ l, V x) → l.length ≤ (l.flatMap e).length
 | [], _ => by simp
 | x :: r, hv => by
  have := flat_len h r (fun y hy => hv y (by simp [hy]))
  have := h.pos x (hv x (by simp))
  simp only [List.flatMap_cons, List.length_cons, List.length_append]
  omega
theorem decL_back (h : Codec e d V) (l : List α) (t : List UInt8) (hv : ∀ x ∈ l, V x) (hl : Is64 (l.length : Int)) :
  decL d (enc l.length ++ l.flatMap e ++ t) = (l, (enc l.length ++ l.flatMap e).length, 0) := by
 have h1 := flat_len h l hv
 have hc := cnt_enc (size := 1) hl (Nat.le_refl _) (l.flatMap e ++ t) (by rw [List.length_append]; omega)
 rw [← List.append_assoc] at hc
 unfold decL
 rw [hc]
 simp only [ne_eq, not_true, if_false, Int.toNat_natCast]
 rw [seqD_back h l (enc l.length) t [] hv]
 simp
theorem seqD_canon (h : Codec e d V) (b : List UInt8) : ∀ (k p : Nat) (acc : List α), p ≤ b.length → (seqD d b k p acc).2.2 = 0 →
  ∃ l', (seqD d b k p acc).1 = acc ++ l' ∧ l'.length = k ∧ (∀ x ∈ l', V x) ∧ (seqD d b k p acc).2.1 = p + (l'.flatMap e).length ∧ (seqD d b k p acc).2.1 ≤ b.length ∧ (b.drop p).take (l'.flatMap e).length = l'.flatMap e
 | 0, p, acc, hp, _ => ⟨[], by simp [seqD], rfl, by simp, by simp [seqD], by simpa [seqD] using hp, by simp⟩
 | k + 1, p, acc, hp, he => by
  simp only [seqD] at he ⊢
  by_cases h0 : (d (b.drop p)).2.2 = 0
  ·rw [if_neg (by simp [h0])] at he ⊢
   obtain ⟨c1, c2, c3⟩ := h.canon _ h0
   rw [List.length_drop] at c2
   obtain ⟨l', i1, i2, i3, i4, i5, i6⟩ := seqD_canon h b k (p + (d (b.drop p)).2.1) (acc ++ [(d (b.drop p)).1]) (by omega) he
   have hlen : (e (d (b.drop p)).1).length = (d (b.drop p)).2.1 := by rw [← c3, List.length_take, List.length_drop]; omega
   refine ⟨(d (b.drop p)).1 :: l', by rw [i1]; simp, by simp [i2], ?_, ?_, i5, ?_⟩
   ·intro x hx
    rcases List.mem_cons.1 hx with rfl | hx
    ·exact c1
    ·exact i3 x hx
   ·rw [i4, List.flatMap_cons, List.length_append, hlen]
    omega
   ·rw [List.flatMap_cons, List.length_append, List.take_add, hlen, c3, List.drop_drop, i6]
  ·rw [if_pos h0] at he
   exact absurd he h0
theorem decL_canon (h : Codec e d V) (b : List UInt8) (he : (decL d b).2.2 = 0) :
  (∀ x ∈ (decL d b).1, V x) ∧ (decL d b).2.1 ≤ b.length ∧ b.take (decL d b).2.1 = enc (decL d b).1.length ++ (decL d b).1.flatMap e := by
 unfold decL at he ⊢
 by_cases hc : (cnt b 1).2.2 = 0
 ·rw [if_neg (by simp [hc])] at he ⊢
  obtain ⟨c1, c2, c3, _⟩ := cnt_ok hc
  obtain ⟨n, hn, hn2, _⟩ := cnt_bound hc
  rw [hn, Int.toNat_natCast] at he ⊢
  obtain ⟨l', i1, i2, i3, i4, i5, i6⟩ := seqD_canon h b n (cnt b 1).2.1 [] (by omega) he
  rw [i1, List.nil_append, i4, List.take_add, i6]
  refine ⟨i3, by rw [← i4]; exact i5, ?_⟩
  rcases hd : dec b with ⟨m, u, e'⟩
  rw [hd] at c2
  simp only at c2
  subst c2
  obtain ⟨_, _, h3, _⟩ := dec_ok hd
  rw [c1, hd] at hn
  simp only at hn
  rw [c1, hd, i2]
  simp only
  rw [h3, hn]
 ·rw [if_pos hc] at he
  exact absurd he hc
theorem seqD_short (h : Codec e d V) : ∀ (l : List α) (pre : List UInt8) (j : Nat) (acc : List α), (∀ x ∈ l, V x) → j < (l.flatMap e).length →
  (seqD d (pre ++ (l.flatMap e).take j) l.length pre.length acc).2.2 = 3
 | [], pre, j, acc, _, hj => by simp at hj
 | x :: r, pre, j, acc, hv, hj => by
  have hx := hv x (by simp)
  simp only [List.length_cons, seqD]
  rw [List.drop_left]
  rcases Nat.lt_or_ge j (e x).length with h1 | h1
  ·have e1 : ((x :: r).flatMap e).take j = (e x).take j := by rw [List.flatMap_cons, List.take_append_of_le_length (by omega)]
   rw [e1]
   have := h.short x hx j h1
   rw [this]
   simp
  ·have e1 : ((x :: r).flatMap e).take j = e x ++ (r.flatMap e).take (j - (e x).length) := by
    rw [List.flatMap_cons, List.take_append, List.take_of_length_le h1]
   rw [e1, h.back x hx]
   simp only [ne_eq, not_true, if_false]
   simp only [List.flatMap_cons, List.length_append] at hj
   have ih := seqD_short h r (pre ++ e x) (j - (e x).length) (acc ++ [x]) (fun y hy => hv y (by simp [hy])) (by omega)
   rw [← List.append_assoc, show pre.length + (e x).length = (pre ++ e x).length from by simp]
   exact ih
theorem decL_short (h : Codec e d V) (l : List α) (hv : ∀ x ∈ l, V x) (hl : Is64 (l.length : Int)) (i : Nat) (hi : i < (enc l.length ++ l.flatMap e).length) :
  (decL d ((enc l.length ++ l.flatMap e).take i)).2.2 = 3 := by
 unfold decL
 rcases Nat.lt_or_ge i (enc l.length).length with h1 | h1
 ·have := cnt_short (size := 1) hl (l.flatMap e) i h1
  rw [if_pos (by rw [this]; simp), this]
 ·rw [List.length_append] at hi
  have e1 : (enc l.length ++ l.flatMap e).take i = enc l.length ++ (l.flatMap e).take (i - (enc l.length).length) := by
   rw [List.take_append, List.take_of_length_le h1]
  rw [e1]
  have hlen : ((l.flatMap e).take (i - (enc l.length).length)).length = i - (enc l.length).length := by rw [List.length_take]; omega
  rcases Nat.lt_or_ge (i - (enc l.length).length) l.length with h2 | h2
  ·have := cnt_less (size := 1) hl (Nat.le_refl _) ((l.flatMap e).take (i - (enc l.length).length)) (by omega)
   rw [if_pos (by rw [this]; simp), this]
  ·have hc := cnt_enc (size := 1) hl (Nat.le_refl _) ((l.flatMap e).take (i - (enc l.length).length)) (by omega)
   rw [hc]
   simp only [ne_eq, not_true, if_false, Int.toNat_natCast]
   exact seqD_short h l (enc l.length) _ [] hv (by omega)
end
/-! ### strings -/
theorem decB_back (s t : List UInt8) (hs : Is64 (s.length : Int)) : decB (encB s ++ t) = (s, (encB s).length, 0) := by
 have hc := cnt_enc (size := 1) hs (Nat.le_refl _) (s ++ t) (by simp)
 unfold decB encB
 rw [List.append_assoc, hc]
 simp
theorem decB_canon (b : List UInt8) (he : (decB b).2.2 = 0) : Is64 ((decB b).1.length : Int) ∧ (decB b).2.1 ≤ b.length ∧ b.take (decB b).2.1 = encB (decB b).1 := by
 unfold decB at he ⊢
 by_cases hc : (cnt b 1).2.2 = 0
 ·rw [if_neg (by simp [hc])] at he ⊢
  obtain ⟨c1, c2, c3, _⟩ := cnt_ok hc
  obtain ⟨n, hn, hn2, _⟩ := cnt_bound hc
  rw [hn, Int.toNat_natCast]
  simp only
  have hl : ((b.drop (cnt b 1).2.1).take n).length = n := by rw [List.length_take, List.length_drop]; omega
  refine ⟨by rw [hl, ← hn, c1]; exact dec_range b, by omega, ?_⟩
  unfold encB
  rw [hl, List.take_add]
  congr 1
  rcases hd : dec b with ⟨m, u, e'⟩
  rw [hd] at c2
  simp only at c2
  subst c2
  obtain ⟨_, _, h3, _⟩ := dec_ok hd
  rw [c1, hd] at hn
  simp only at hn
  rw [c1, hd]
  simp only
  rw [h3, hn]
 ·rw [if_pos hc] at he
  exact absurd he hc
theorem decB_short (s : List UInt8) (hs : Is64 (s.length : Int)) (i : Nat) (hi : i < (encB s).length) : (decB ((encB s).take i)).2.2 = 3 := by
 unfold decB encB at *
 rcases Nat.lt_or_ge i (enc s.length).length with h1 | h1
 ·have := cnt_short (size := 1) hs s i h1
  rw [if_pos (by rw [this]; simp), this]
 ·rw [List.length_append] at hi
  have e1 : (enc s.length ++ s).take i = enc s.length ++ s.take (i - (enc s.length).length) := by
   rw [List.take_append, List.take_of_length_le h1]
  rw [e1]
  have := cnt_less (size := 1) hs (Nat.le_refl _) (s.take (i - (enc s.length).length)) (by rw [List.length_take]; omega)
  rw [if_pos (by rw [this]; simp), this]
theorem bytes_ext {a b : ByteArray} (h : a.data.toList = b.data.toList) : a = b := by
 cases a; cases b
 congr 1
 exact Array.ext' h
theorem codec_str : Codec (fun s : ByteArray => encB s.data.toList) decT (fun s => Is64 (s.data.toList.length : Int)) where
 back := fun x h t => by
  have h1 := decB_back x.data.toList t h
  unfold decT
  rw [h1]
 canon := fun b he => by
  have h1 := decB_canon b he
  exact h1
 short := fun x h i hi => decB_short x.data.toList h i hi
 pos := fun x _ => encB_pos _
/-! ### digests: bytes, 16 a digest -/
theorem decD_back (F t : List UInt8) (n : Nat) (hF : F.length = n * 16) (hn : Is64 (n : Int)) : decD (enc n ++ F ++ t) = (F, (enc n ++ F).length, 0) := by
 have hc := cnt_enc (size := 16) hn (by omega) (F ++ t) (by rw [List.length_append]; omega)
 rw [← List.append_assoc] at hc
 unfold decD
 rw [hc]
 simp only [ne_eq, not_true, if_false, Int.toNat_natCast]
 rw [List.append_assoc, List.drop_left, ← hF, List.take_left, List.length_append]
theorem decD_canon (b : List UInt8) (he : (decD b).2.2 = 0) : ∃ n : Nat, (decD b).1.length = n * 16 ∧ Is64 (n : Int) ∧ (decD b).2.1 ≤ b.length ∧ b.take (decD b).2.1 = enc n ++ (decD b).1 := by
 unfold decD at he ⊢
 by_cases hc : (cnt b 16).2.2 = 0
 ·rw [if_neg (by simp [hc])] at he ⊢
  obtain ⟨c1, c2, c3, _⟩ := cnt_ok hc
  obtain ⟨n, hn, hn2, _⟩ := cnt_bound hc
  rw [hn, Int.toNat_natCast]
  simp only
  have hl : ((b.drop (cnt b 16).2.1).take (n * 16)).length = n * 16 := by rw [List.length_take, List.length_drop]; omega
  refine ⟨n, hl, by rw [← hn, c1]; exact dec_range b, by omega, ?_⟩
  rw [List.take_add]
  congr 1
  rcases hd : dec b with ⟨m, u, e'⟩
  rw [hd] at c2
  simp only at c2
  subst c2
  obtain ⟨_, _, h3, _⟩ := dec_ok hd
  rw [c1, hd] at hn
  simp only at hn
  rw [c1, hd]
  simp only
  rw [h3, hn]
 ·rw [if_pos hc] at he
  exact absurd he hc
theorem decD_short (F : List UInt8) (n : Nat) (hF : F.length = n * 16) (hn : Is64 (n : Int)) (i : Nat) (hi : i < (enc n ++ F).length) : (decD ((enc n ++ F).take i)).2.2 = 3 := by
 unfold decD
 rcases Nat.lt_or_ge i (enc n).length with h1 | h1
 ·have := cnt_short (size := 16) hn F i h1
  rw [if_pos (by rw [this]; simp), this]
 ·rw [List.length_append] at hi
  have e1 : (enc n ++ F).take i = enc n ++ F.take (i - (enc n).length) := by
   rw [List.take_append, List.take_of_length_le h1]
  rw [e1]
  have := cnt_less (size := 16) hn (by omega) (F.take (i - (enc n).length)) (by rw [List.length_take]; omega)
  rw [if_pos (by rw [this]; simp), this]
/-! ### the order of encodings -/
theorem enc_inj {m n : Int} (hm : Is64 m) (hn : Is64 n) (h : enc m = enc n) : m = n := by
 have h1 := dec_enc hm []
 have h2 := dec_enc hn []
 rw [h] at h1
 exact congrArg Prod.fst (h1.symm.trans h2)
theorem less_same : ∀ (a b : List UInt8), a.length = b.length → Op.bytesLess a b = decide (val a < val b)
 | [], [], _ => by simp [Op.bytesLess, val]
 | [], _ :: _, h => by simp at h
 | _ :: _, [], h => by simp at h
 | x :: a, y :: b, h => by
  have hl : a.length = b.length := by simpa using h
  have ih := less_same a b hl
  have ha := val_lt a
  have hb := val_lt b
  rw [hl] at ha
  simp only [Op.bytesLess, val, ih, hl]
  have hp : 0 < 256 ^ b.length := Nat.pow_pos (by omega)
  rcases Nat.lt_trichotomy x.toNat y.toNat with h1 | h1 | h1
  ·have h2 : (x < y) = True := by simp [UInt8.lt_iff_toNat_lt, h1]
   have h3 : (x.toNat + 1) * 256 ^ b.length ≤ y.toNat * 256 ^ b.length := Nat.mul_le_mul_right _ (by omega)
   rw [Nat.add_mul] at h3
   simp only [h2, decide_true, Bool.true_or]
   symm
   rw [decide_eq_true_iff]
   omega
  ·have h2 : x = y := UInt8.toNat_inj.1 h1
   subst h2
   simp
  ·have h2 : (x < y) = False := by simp [UInt8.lt_iff_toNat_lt]; omega
   have h3 : (y.toNat + 1) * 256 ^ b.length ≤ x.toNat * 256 ^ b.length := Nat.mul_le_mul_right _ (by omega)
   have h4 : (x == y) = false := by simp; intro e; rw [e] at h1; omega
   rw [Nat.add_mul] at h3
   simp only [h2, h4, decide_false, Bool.false_or, Bool.false_and]
   symm
   rw [decide_eq_false_iff_not]
   omega
theorem val_flip : ∀ l : List UInt8, val (l.map (fx true)) + val l + 1 = 256 ^ l.length
 | [] => by simp [val]
 | b :: r => by
  have ih := val_flip r
  have hb := b.toNat_lt
  simp only [List.map_cons, val, List.length_map, fx_toNat, if_true, List.length_cons, Nat.pow_succ]
  have h1 : (255 - b.toNat) * 256 ^ r.length + b.toNat * 256 ^ r.length = 255 * 256 ^ r.length := by
   rw [← Nat.add_mul]
   congr 1
   omega
  omega
theorem enc_form (n : Int) (h : Is64 n) : ∃ (hd : UInt8) (tl : List UInt8), enc n = hd :: tl ∧ hd.toNat = (if n < 0 then 127 - wid (mag n) else 128 + wid (mag n)) ∧ tl.length = wid (mag n) ∧
  (val tl : Int) = (if n < 0 then (256 : Int) ^ wid (mag n) + n else n) := by
 have hm := mag_lt h
 have hW := wid_wid (mag n) (by omega)
 have hv := val_be (wid (mag n)) (mag n)
 rw [Nat.mod_eq_of_lt hW.1] at hv
 refine ⟨_, _, rfl, head_nat n, by simp, ?_⟩
 by_cases h0 : n < 0
 ·have hng : neg n = true := by unfold neg; simp [h0]
  have hf := val_flip (be (wid (mag n)) (mag n))
  rw [be_length, hv] at hf
  rw [hng, if_pos h0]
  have hmag : (mag n : Int) = -1 - n := by unfold mag; rw [if_pos h0]; omega
  have hp : ((256 ^ wid (mag n) : Nat) : Int) = (256 : Int) ^ wid (mag n) := by simp
  rw [← hp]
  omega
 ·have hng : neg n = false := by unfold neg; simp [h0]
  rw [hng, if_neg h0]
  have e1 : (be (wid (mag n)) (mag n)).map (fx false) = be (wid (mag n)) (mag n) := by
   conv => rhs; rw [← List.map_id (be (wid (mag n)) (mag n))]
   exact List.map_congr_left fun b _ => rfl
  rw [e1, hv]
  unfold mag
  rw [if_neg h0]
  omega
/-- Of a less width, and of a less magnitude. -/
theorem wid_less {a b : Nat} (ha : a < 18446744073709551616) (hb : b < 18446744073709551616) (h : wid a < wid b) : a < b := by
 have h1 := (wid_wid a ha).1
 rcases (wid_wid b hb).2 with h2 | h2
 ·omega
 ·have : 256 ^ wid a ≤ 256 ^ (wid b - 1) := Nat.pow_le_pow_right (by omega) (by omega)
  omega
theorem enc_less {m n : Int} (hm : Is64 m) (hn : Is64 n) : Op.bytesLess (enc m) (enc n) = decide (m < n) := by
 obtain ⟨x, a, ea, hx, la, va⟩ := enc_form m hm
 obtain ⟨y, b, eb, hy, lb, vb⟩ := enc_form n hn
 have hmm := mag_lt hm
 have hmn := mag_lt hn
 have wm := wid_le (mag m)
 have wn := wid_le (mag n)
 have dm : (mag m : Int) = if m < 0 then -1 - m else m := by unfold mag; split <;> omega
 have dn : (mag n : Int) = if n < 0 then -1 - n else n := by unfold mag; split <;> omega
 rw [ea, eb]
 simp only [Op.bytesLess]
 have l1 := fun h => wid_less (a := mag m) (b := mag n) (by omega) (by omega) h
 have l2 := fun h => wid_less (a := mag n) (b := mag m) (by omega) (by omega) h
 rcases Nat.lt_trichotomy x.toNat y.toNat with h1 | h1 | h1
 ·have h2 : (x < y) = True := by simp [UInt8.lt_iff_toNat_lt, h1]
  simp only [h2, decide_true, Bool.true_or]
  symm
  rw [decide_eq_true_iff]
  rw [hx, hy] at h1
  by_cases m0 : m < 0 <;> by_cases n0 : n < 0
  ·rw [if_pos m0] at h1 dm; rw [if_pos n0] at h1 dn
   have := l2 (by omega)
   omega
  ·omega
  ·rw [if_neg m0] at h1; rw [if_pos n0] at h1
   omega
  ·rw [if_neg m0] at h1 dm; rw [if_neg n0] at h1 dn
   have := l1 (by omega)
   omega
 ·have h2 : x = y := UInt8.toNat_inj.1 h1
  subst h2
  have e1 : (decide (x < x) || (x == x && Op.bytesLess a b)) = Op.bytesLess a b := by simp
  rw [e1]
  rw [hx] at hy
  by_cases m0 : m < 0 <;> by_cases n0 : n < 0
  ·rw [if_pos m0] at hy va; rw [if_pos n0] at hy vb
   have hw : wid (mag m) = wid (mag n) := by omega
   rw [less_same a b (by omega)]
   rw [hw] at va
   rw [decide_eq_decide]
   omega
  ·rw [if_pos m0] at hy; rw [if_neg n0] at hy; omega
  ·rw [if_neg m0] at hy; rw [if_pos n0] at hy; omega
  ·rw [if_neg m0] at hy va; rw [if_neg n0] at hy vb
   rw [less_same a b (by omega), decide_eq_decide]
   omega
 ·have h2 : (x < y) = False := by simp [UInt8.lt_iff_toNat_lt]; omega
  have h4 : (x == y) = false := by simp; intro e; rw [e] at h1; omega
  simp only [h2, h4, decide_false, Bool.false_or, Bool.false_and]
  symm
  rw [decide_eq_false_iff_not]
  rw [hx, hy] at h1
  by_cases m0 : m < 0 <;> by_cases n0 : n < 0
  ·rw [if_pos m0] at h1 dm; rw [if_pos n0] at h1 dn
   have := l1 (by omega)
   omega
  ·rw [if_pos m0] at h1; rw [if_neg n0] at h1
   omega
  ·omega
  ·rw [if_neg m0] at h1 dm; rw [if_neg n0] at h1 dn
   have := l2 (by omega)
   omega
/-- Neither encoding is a beginning of the other one. -/
theorem enc_prefix {m n : Int} (hm : Is64 m) (hn : Is64 n) (h : (enc m).take (min (enc m).length (enc n).length) = (enc n).take (min (enc m).length (enc n).length)) : m = n := by
 rcases Nat.lt_or_ge (enc n).length (enc m).length with h1 | h1
 ·rw [Nat.min_eq_right (by omega), List.take_of_length_le (Nat.le_refl (enc n).length)] at h
  have h2 := dec_short hm _ h1
  have h3 := dec_enc hn []
  rw [List.append_nil, ← h, h2] at h3
  simp at h3
 ·rw [Nat.min_eq_left h1, List.take_of_length_le (Nat.le_refl (enc m).length)] at h
  rcases Nat.lt_or_ge (enc m).length (enc n).length with h4 | h4
  ·have h2 := dec_short hn _ h4
   have h3 := dec_enc hm []
   rw [List.append_nil, h, h2] at h3
   simp at h3
  ·rw [List.take_of_length_le h4] at h
   exact enc_inj hm hn h
end Go.Proofs.Ytgdibcgphjmofaa.W
