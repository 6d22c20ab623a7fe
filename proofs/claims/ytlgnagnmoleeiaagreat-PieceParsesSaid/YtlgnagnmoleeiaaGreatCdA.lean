/-
 PLAIN: codecs made of codecs: one behind the other, and with a check.
-/
import Derived.Test.YtlgnagnmoleeiaaGreatEmY
import Derived.ChangeKeysEq
import Derived.Test.YtlgnagnmoleeiaaGreatFlow
namespace Go.Proofs.YtlgnagnmoleeiaaGreat.E
open Go.RowKit
set_option linter.unusedVariables false
section
variable {P : Program} {w : World}
def iT (P : Program) (t : TypeId) : Bool := match P.underlying t with
 | some (.int .i64) => true
 | _ => false
theorem iT_of {t : TypeId} (h : iT P t = true) : P.underlying t = some (.int .i64) := by
 unfold iT at h
 split at h
 · assumption
 · cases h
theorem part_int {t : TypeId} (he : P.underlying t = some (.int .i64)) {xs : Array Value} {off : Nat} {v : Value} (hx : xs[off]? = some v) : (part t xs off).run P w = .ok v w := by simp [part, isAgg, run_under he, hx]
def intsF (P : Program) : Nat → List Field → Bool
 | _, [] => true
 | o, f :: r => f.name != "_" && (iT P f.type && (Nat.beq f.offset o && intsF P (o + 1) r))
theorem at_end {pre xs : List Value} {x : Value} {o : Nat} (h : pre.length = o) : (pre ++ x :: xs).toArray[o]? = some x := by
 subst h
 simp
theorem eqFields_ints (d : Nat) : ∀ (fs : List Field) (o : Nat) (xs ys : List Int) (pre pre' : List Value), intsF P o fs = true → xs.length = fs.length → ys.length = fs.length → pre.length = o → pre'.length = o → (Op.eqFields (d + 1) (pre ++ xs.map (Value.int .i64)).toArray (pre' ++ ys.map (Value.int .i64)).toArray fs).run P w = .ok (decide (xs = ys)) w
 | [], o, xs, ys, pre, pre', _, hx, hy, _, _ => by
  have hx : xs = [] := List.length_eq_zero_iff.1 hx
  have hy : ys = [] := List.length_eq_zero_iff.1 hy
  subst hx; subst hy
  simp [Op.eqFields]
 | f :: r, o, x :: xs, y :: ys, pre, pre', h, hx, hy, hp, hp' => by
  simp only [intsF, Bool.and_eq_true, bne_iff_ne] at h
  obtain ⟨h1, h2, h3, h4⟩ := h
  have h2 := iT_of h2
  have h3 := Nat.eq_of_beq_eq_true h3
  have ih := eqFields_ints d r (o + 1) xs ys (pre ++ [.int .i64 x]) (pre' ++ [.int .i64 y]) h4 (by simpa using hx) (by simpa using hy) (by simp [hp]) (by simp [hp'])
  rw [List.append_assoc, List.append_assoc] at ih
  have e1 := part_int (w := w) h2 (xs := (pre ++ .int .i64 x :: xs.map (Value.int .i64)).toArray) (off := f.offset) (at_end (hp.trans h3.symm))
  have e2 := part_int (w := w) h2 (xs := (pre' ++ .int .i64 y :: ys.map (Value.int .i64)).toArray) (off := f.offset) (at_end (hp'.trans h3.symm))
  have e3 := run_equalIn_int (P := P) w d f.type .i64 .i64 x y h2
  simp only [List.map_cons, Op.eqFields, h1, ne_eq, not_false_eq_true, if_true, Sem.run_bind, e1, e2, e3, Result.andThen_ok]
  by_cases hxy : x = y
  · subst hxy
    rw [if_neg (by simp)]
    simpa using ih
  · rw [if_pos (by simp [hxy])]
    simp [hxy]
 | f :: r, o, [], ys, pre, pre', _, hx, _, _, _ => by simp at hx
 | f :: r, o, x :: xs, [], pre, pre', _, _, hy, _, _ => by simp at hy
def sOk (P : Program) (T : TypeId) (n : Nat) : Bool := (match P.underlying T with
 | some (.struct fs) => intsF P 0 fs.toList && Nat.beq fs.toList.length n
 | _ => false) && !P.stoodInHeld T
theorem kv_ni (l : List Int) : (l.map ni).map kv = l.map (Value.int .i64) := by rw [List.map_map]; rfl
theorem EqA.str {T : TypeId} {n : Nat} (h : sOk P T n = true) {xs ys : List Int} (hx : xs.length = n) (hy : ys.length = n) : EqA P T (xs.map ni) (ys.map ni) (decide (xs = ys)) := fun w => by
 unfold sOk at h
 rw [Bool.and_eq_true] at h
 obtain ⟨h, hs⟩ := h
 split at h
 · rename_i fs hu
   simp only [Bool.and_eq_true] at h
   have hn := Nat.eq_of_beq_eq_true h.2
   have hf : P.fieldsOf T = fs := by simp [Program.fieldsOf, hu]
   rw [kv_ni, kv_ni]
   show (Op.equalIn 10000 T _ _).run P w = _
   rw [run_equalIn_struct w 9999 T _ _ (by rw [hu, hf]) (by simpa using hs), hf]
   exact eqFields_ints 9998 fs.toList 0 xs ys [] [] h.1 (by omega) (by omega) rfl rfl
 · cases h
end
end Go.Proofs.YtlgnagnmoleeiaaGreat.E
namespace Go.Proofs.YtlgnagnmoleeiaaGreat.W
open Go.RowKit
/-- A length at the beginning, of elements of at least so many bytes. -/
def cnt (l : List UInt8) (size : Nat) : Int × Nat × Int :=
 if (dec l).2.2 ≠ 0 then dec l
 else if (dec l).1 < 0 then ((dec l).1, (dec l).2.1, 2)
 else if ((l.length - (dec l).2.1) / size : Nat) < (dec l).1 then ((dec l).1, (dec l).2.1, 3)
 else dec l
theorem dec_at_le (l : List UInt8) : (dec l).2.1 ≤ l.length := by
 rcases hd : dec l with ⟨n, u, e⟩
 rcases dec_err hd with rfl | ⟨_, rfl, _⟩
 ·exact (dec_ok hd).2.1
 ·simp
theorem dec_at_le9 (l : List UInt8) : (dec l).2.1 ≤ 9 := by
 rcases hd : dec l with ⟨n, u, e⟩
 rcases dec_err hd with rfl | ⟨_, rfl, _⟩
 ·have := (dec_ok hd).2.2.2
  have := (enc_le n).2
  simp; omega
 ·simp
theorem dec_range (l : List UInt8) : Is64 (dec l).1 := by
 rcases hd : dec l with ⟨n, u, e⟩
 rcases dec_err hd with rfl | ⟨rfl, _, _⟩
 ·exact (dec_ok hd).1
 ·unfold Is64; simp
/-- A count that went well. -/
theorem cnt_ok {l : List UInt8} {size : Nat} (h : (cnt l size).2.2 = 0) : cnt l size = dec l ∧ (dec l).2.2 = 0 ∧ 0 ≤ (dec l).1 ∧ (dec l).1 ≤ ((l.length - (dec l).2.1) / size : Nat) := by
 unfold cnt at h ⊢
 by_cases h1 : (dec l).2.2 ≠ 0
 ·rw [if_pos h1] at h; exact absurd h h1
 rw [if_neg h1] at h ⊢
 by_cases h2 : (dec l).1 < 0
 ·rw [if_pos h2] at h; simp at h
 rw [if_neg h2] at h ⊢
 by_cases h3 : ((l.length - (dec l).2.1) / size : Nat) < (dec l).1
 ·rw [if_pos h3] at h; simp at h
 rw [if_neg h3] at h ⊢
 exact ⟨rfl, by simpa using h1, by omega, by omega⟩
/-- Decoding so many elements, one after the other. -/
def seqD {α : Type} (d : List UInt8 → α × Nat × Int) (b : List UInt8) : Nat → Nat → List α → List α × Nat × Int
 | 0, at_, acc => (acc, at_, 0)
 | k + 1, at_, acc => if (d (b.drop at_)).2.2 ≠ 0 then ([], 0, (d (b.drop at_)).2.2) else seqD d b k (at_ + (d (b.drop at_)).2.1) (acc ++ [(d (b.drop at_)).1])
def decL {α : Type} (d : List UInt8 → α × Nat × Int) (l : List UInt8) : List α × Nat × Int :=
 if (cnt l 1).2.2 ≠ 0 then ([], 0, (cnt l 1).2.2) else seqD d l (cnt l 1).1.toNat (cnt l 1).2.1 []
def decI (l : List UInt8) : List Int × Nat × Int := decL dec l
theorem cnt_bound {l : List UInt8} {size : Nat} (h : (cnt l size).2.2 = 0) : ∃ n : Nat, (cnt l size).1 = (n : Int) ∧ n * size + (cnt l size).2.1 ≤ l.length ∧ (cnt l size).2.1 ≤ 9 := by
 obtain ⟨h1, h2, h3, h4⟩ := cnt_ok h
 rw [h1]
 have h5 := dec_at_le l
 have h9 := dec_at_le9 l
 refine ⟨(dec l).1.toNat, by omega, ?_, h9⟩
 have h6 : (dec l).1.toNat ≤ (l.length - (dec l).2.1) / size := by omega
 have h7 := Nat.mul_le_mul_right size h6
 have h8 := Nat.div_mul_le_self (l.length - (dec l).2.1) size
 omega
end Go.Proofs.YtlgnagnmoleeiaaGreat.W
namespace Go.Proofs.YtlgnagnmoleeiaaGreat.W
open Go.RowKit
/-- A code: decoding an encoding, whatever follows; what is decoded is an encoding; one cut short yields 3. -/
structure Codec {α : Type} (e : α → List UInt8) (d : List UInt8 → α × Nat × Int) (V : α → Prop) : Prop where
 back : ∀ x, V x → ∀ t, d (e x ++ t) = (x, (e x).length, 0)
 canon : ∀ b, (d b).2.2 = 0 → V (d b).1 ∧ (d b).2.1 ≤ b.length ∧ b.take (d b).2.1 = e (d b).1
 short : ∀ x, V x → ∀ i, i < (e x).length → (d ((e x).take i)).2.2 = 3
 pos : ∀ x, V x → 0 < (e x).length
theorem codec_int : Codec enc dec Is64 where
 back := fun x h t => dec_enc h t
 canon := fun b h => by
  rcases hd : dec b with ⟨n, u, e⟩
  rw [hd] at h
  simp only at h
  subst h
  obtain ⟨h1, h2, h3, _⟩ := dec_ok hd
  exact ⟨h1, h2, h3⟩
 short := fun x h i hi => by rw [dec_short h i hi]
 pos := fun x _ => by have := (enc_le x).1; omega
theorem nat64 {n : Nat} (h : n ≤ 4611686018427387904) : Is64 (n : Int) := by unfold Is64; omega
theorem cnt_enc {n size : Nat} (hn : Is64 (n : Int)) (hs : 1 ≤ size) (rest : List UInt8) (hr : n * size ≤ rest.length) : cnt (enc n ++ rest) size = ((n : Int), (enc n).length, 0) := by
 have h1 := dec_enc hn rest
 unfold cnt
 rw [h1]
 simp only [ne_eq, not_true, if_false, List.length_append, Nat.add_sub_cancel_left]
 rw [if_neg (by omega), if_neg]
 have : n ≤ rest.length / size := (Nat.le_div_iff_mul_le (by omega)).2 hr
 omega
theorem cnt_short {n size : Nat} (hn : Is64 (n : Int)) (rest : List UInt8) (i : Nat) (hi : i < (enc n).length) : (cnt ((enc n ++ rest).take i) size).2.2 = 3 := by
 have h1 := dec_short hn i hi
 rw [List.take_append_of_le_length (by omega)]
 unfold cnt
 rw [h1]
 simp
theorem cnt_less {n size : Nat} (hn : Is64 (n : Int)) (hs : 1 ≤ size) (rest : List UInt8) (hr : rest.length < n * size) : (cnt (enc n ++ rest) size).2.2 = 3 := by
 have h1 := dec_enc hn rest
 unfold cnt
 rw [h1]
 simp only [ne_eq, not_true, if_false, List.length_append, Nat.add_sub_cancel_left]
 rw [if_neg (by omega), if_pos]
 have : rest.length / size < n := (Nat.div_lt_iff_lt_mul (by omega)).2 hr
 omega
section
variable {α : Type} {e : α → List UInt8} {d : List UInt8 → α × Nat × Int} {V : α → Prop}
theorem seqD_back (h : Codec e d V) : ∀ (l : List α) (pre t : List UInt8) (acc : List α), (∀ x ∈ l, V x) →
  seqD d (pre ++ l.flatMap e ++ t) l.length pre.length acc = (acc ++ l, pre.length + (l.flatMap e).length, 0)
 | [], pre, t, acc, _ => by simp [seqD]
 | x :: r, pre, t, acc, hv => by
  have hx := h.back x (hv x (by simp)) (r.flatMap e ++ t)
  have hdrop : (pre ++ (x :: r).flatMap e ++ t).drop pre.length = e x ++ (r.flatMap e ++ t) := by
   rw [List.append_assoc, List.drop_left]
   simp
  simp only [List.length_cons, seqD]
  rw [hdrop, hx]
  simp only [ne_eq, not_true, if_false]
  have ih := seqD_back h r (pre ++ e x) t (acc ++ [x]) (fun y hy => hv y (by simp [hy]))
  have e1 : pre ++ (x :: r).flatMap e ++ t = pre ++ e x ++ r.flatMap e ++ t := by simp
  rw [e1, show pre.length + (e x).length = (pre ++ e x).length from by simp, ih]
  simp [Nat.add_assoc]
theorem flat_len (h : Codec e d V) : ∀ (l : List α), (∀ x ∈ l, V x) → l.length ≤ (l.flatMap e).length
 | [], _ => by simp
 | x :: r, hv => by
  have := flat_len h r (fun y hy => hv y (by simp [hy]))
  have := h.pos x (hv x (by simp))
  simp only [List.flatMap_cons, List.length_cons, List.length_append]
  omega
theorem decL_back (h : Codec e d V) (l : List α) (t : List UInt8) (hv : ∀ x ∈ l, V x) (hl : Is64 (l.length : Int)) :
  decL d (enc l.length ++ l.flatMap e ++ t) = (l, (enc l.length ++ l.flatMap e).length, 0) := by
 have h1 := flat_len h l hv
 have hc := cnt_enc (size := 1) hl (Nat.le_refl _) (l.flatMap e ++ t) (by rw [List.length_append]; omega)
 rw [← List.append_assoc] at hc
 unfold decL
 rw [hc]
 simp only [ne_eq, not_true, if_false, Int.toNat_natCast]
 rw [seqD_back h l (enc l.length) t [] hv]
 simp
theorem seqD_canon (h : Codec e d V) (b : List UInt8) : ∀ (k p : Nat) (acc : List α), p ≤ b.length → (seqD d b k p acc).2.2 = 0 →
  ∃ l', (seqD d b k p acc).1 = acc ++ l' ∧ l'.length = k ∧ (∀ x ∈ l', V x) ∧ (seqD d b k p acc).2.1 = p + (l'.flatMap e).length ∧ (seqD d b k p acc).2.1 ≤ b.length ∧ (b.drop p).take (l'.flatMap e).length = l'.flatMap e
 | 0, p, acc, hp, _ => ⟨[], by simp [seqD], rfl, by simp, by simp [seqD], by simpa [seqD] using hp, by simp⟩
 | k + 1, p, acc, hp, he => by
  simp only [seqD] at he ⊢
  by_cases h0 : (d (b.drop p)).2.2 = 0
  ·rw [if_neg (by simp [h0])] at he ⊢
   obtain ⟨c1, c2, c3⟩ := h.canon _ h0
   rw [List.length_drop] at c2
   obtain ⟨l', i1, i2, i3, i4, i5, i6⟩ := seqD_canon h b k (p + (d (b.drop p)).2.1) (acc ++ [(d (b.drop p)).1]) (by omega) he
   have hlen : (e (d (b.drop p)).1).length = (d (b.drop p)).2.1 := by rw [← c3, List.length_take, List.length_drop]; omega
   refine ⟨(d (b.drop p)).1 :: l', by rw [i1]; simp, by simp [i2], ?_, ?_, i5, ?_⟩
   ·intro x hx
    rcases List.mem_cons.1 hx with rfl | hx
    ·exact c1
    ·exact i3 x hx
   ·rw [i4, List.flatMap_cons, List.length_append, hlen]
    omega
   ·rw [List.flatMap_cons, List.length_append, List.take_add, hlen, c3, List.drop_drop, i6]
  ·rw [if_pos h0] at he
   exact absurd he h0
theorem decL_canon (h : Codec e d V) (b : List UInt8) (he : (decL d b).2.2 = 0) :
  (∀ x ∈ (decL d b).1, V x) ∧ (decL d b).2.1 ≤ b.length ∧ b.take (decL d b).2.1 = enc (decL d b).1.length ++ (decL d b).1.flatMap e := by
 unfold decL at he ⊢
 by_cases hc : (cnt b 1).2.2 = 0
 ·rw [if_neg (by simp [hc])] at he ⊢
  obtain ⟨c1, c2, c3, _⟩ := cnt_ok hc
  obtain ⟨n, hn, hn2, _⟩ := cnt_bound hc
  rw [hn, Int.toNat_natCast] at he ⊢
  obtain ⟨l', i1, i2, i3, i4, i5, i6⟩ := seqD_canon h b n (cnt b 1).2.1 [] (by omega) he
  rw [i1, List.nil_append, i4, List.take_add, i6]
  refine ⟨i3, by rw [← i4]; exact i5, ?_⟩
  rcases hd : dec b with ⟨m, u, e'⟩
  rw [hd] at c2
  simp only at c2
  subst c2
  obtain ⟨_, _, h3, _⟩ := dec_ok hd
  rw [c1, hd] at hn
  simp only at hn
  rw [c1, hd, i2]
  simp only
  rw [h3, hn]
 ·rw [if_pos hc] at he
  exact absurd he hc
theorem seqD_short (h : Codec e d V) : ∀ (l : List α) (pre : List UInt8) (j : Nat) (acc : List α), (∀ x ∈ l, V x) → j < (l.flatMap e).length →
  (seqD d (pre ++ (l.flatMap e).take j) l.length pre.length acc).2.2 = 3
 | [], pre, j, acc, _, hj => by simp at hj
 | x :: r, pre, j, acc, hv, hj => by
  have hx := hv x (by simp)
  simp only [List.length_cons, seqD]
  rw [List.drop_left]
  rcases Nat.lt_or_ge j (e x).length with h1 | h1
  ·have e1 : ((x :: r).flatMap e).take j = (e x).take j := by rw [List.flatMap_cons, List.take_append_of_le_length (by omega)]
   rw [e1]
   have := h.short x hx j h1
   rw [this]
   simp
  ·have e1 : ((x :: r).flatMap e).take j = e x ++ (r.flatMap e).take (j - (e x).length) := by
    rw [List.flatMap_cons, List.take_append, List.take_of_length_le h1]
   rw [e1, h.back x hx]
   simp only [ne_eq, not_true, if_false]
   simp only [List.flatMap_cons, List.length_append] at hj
   have ih := seqD_short h r (pre ++ e x) (j - (e x).length) (acc ++ [x]) (fun y hy => hv y (by simp [hy])) (by omega)
   rw [← List.append_assoc, show pre.length + (e x).length = (pre ++ e x).length from by simp]
   exact ih
theorem decL_short (h : Codec e d V) (l : List α) (hv : ∀ x ∈ l, V x) (hl : Is64 (l.length : Int)) (i : Nat) (hi : i < (enc l.length ++ l.flatMap e).length) :
  (decL d ((enc l.length ++ l.flatMap e).take i)).2.2 = 3 := by
 unfold decL
 rcases Nat.lt_or_ge i (enc l.length).length with h1 | h1
 ·have := cnt_short (size := 1) hl (l.flatMap e) i h1
  rw [if_pos (by rw [this]; simp), this]
 ·rw [List.length_append] at hi
  have e1 : (enc l.length ++ l.flatMap e).take i = enc l.length ++ (l.flatMap e).take (i - (enc l.length).length) := by
   rw [List.take_append, List.take_of_length_le h1]
  rw [e1]
  have hlen : ((l.flatMap e).take (i - (enc l.length).length)).length = i - (enc l.length).length := by rw [List.length_take]; omega
  rcases Nat.lt_or_ge (i - (enc l.length).length) l.length with h2 | h2
  ·have := cnt_less (size := 1) hl (Nat.le_refl _) ((l.flatMap e).take (i - (enc l.length).length)) (by omega)
   rw [if_pos (by rw [this]; simp), this]
  ·have hc := cnt_enc (size := 1) hl (Nat.le_refl _) ((l.flatMap e).take (i - (enc l.length).length)) (by omega)
   rw [hc]
   simp only [ne_eq, not_true, if_false, Int.toNat_natCast]
   exact seqD_short h l (enc l.length) _ [] hv (by omega)
end
/-! ### strings -/
/-! ### digests: bytes, 16 a digest -/
/-! ### the order of encodings -/
end Go.Proofs.YtlgnagnmoleeiaaGreat.W
namespace Go.Proofs.YtlgnagnmoleeiaaGreat.W
open Go.RowKit
theorem decL_len {α : Type} {e : α → List UInt8} {d : List UInt8 → α × Nat × Int} {V : α → Prop} (h : Codec e d V) (b : List UInt8) (he : (decL d b).2.2 = 0) : Is64 ((decL d b).1.length : Int) := by
 unfold decL at he ⊢
 by_cases hc : (cnt b 1).2.2 = 0
 ·rw [if_neg (by simp [hc])] at he ⊢
  obtain ⟨c1, c2, c3, _⟩ := cnt_ok hc
  obtain ⟨n, hn, hn2, _⟩ := cnt_bound hc
  rw [hn, Int.toNat_natCast] at he ⊢
  obtain ⟨l', i1, i2, _⟩ := seqD_canon h b n (cnt b 1).2.1 [] (by omega) he
  rw [i1, List.nil_append, i2, ← hn, c1]
  exact dec_range b
 ·rw [if_pos hc] at he
  exact absurd he hc
def VI (l : List Int) : Prop := (∀ x ∈ l, Is64 x) ∧ Is64 (l.length : Int)
theorem codecI : Codec encI decI VI where
 back := fun l h t => decL_back codec_int l t h.1 h.2
 canon := fun b h => by
  obtain ⟨h1, h2, h3⟩ := decL_canon codec_int b h
  exact ⟨⟨h1, decL_len codec_int b h⟩, h2, h3⟩
 short := fun l h i hi => decL_short codec_int l h.1 h.2 i hi
 pos := fun l h => by have := (enc_le l.length).1; unfold encI; rw [List.length_append]; omega
section
variable {α β : Type} {e : α → List UInt8} {d : List UInt8 → α × Nat × Int} {V : α → Prop} {e2 : β → List UInt8} {d2 : List UInt8 → β × Nat × Int} {V2 : β → Prop}
/-- One behind the other. -/
def dP [Inhabited α] [Inhabited β] (d : List UInt8 → α × Nat × Int) (d2 : List UInt8 → β × Nat × Int) (b : List UInt8) : (α × β) × Nat × Int :=
 if (d b).2.2 ≠ 0 then (default, 0, (d b).2.2)
 else if (d2 (b.drop (d b).2.1)).2.2 ≠ 0 then (default, 0, (d2 (b.drop (d b).2.1)).2.2)
 else (((d b).1, (d2 (b.drop (d b).2.1)).1), (d b).2.1 + (d2 (b.drop (d b).2.1)).2.1, 0)
def eP (e : α → List UInt8) (e2 : β → List UInt8) (x : α × β) : List UInt8 := e x.1 ++ e2 x.2
theorem codecP [Inhabited α] [Inhabited β] (h : Codec e d V) (h2 : Codec e2 d2 V2) : Codec (eP e e2) (dP d d2) (fun x => V x.1 ∧ V2 x.2) where
 back := fun x hx t => by
  have a := h.back x.1 hx.1 (e2 x.2 ++ t)
  have b := h2.back x.2 hx.2 t
  unfold eP dP
  rw [List.append_assoc, a]
  simp only [ne_eq, not_true, if_false, List.drop_left]
  rw [b]
  simp
 canon := fun b he => by
  unfold dP at he ⊢
  by_cases h0 : (d b).2.2 = 0
  ·rw [if_neg (by simp [h0])] at he ⊢
   by_cases h1 : (d2 (b.drop (d b).2.1)).2.2 = 0
   ·rw [if_neg (by simp [h1])] at he ⊢
    obtain ⟨a1, a2, a3⟩ := h.canon b h0
    obtain ⟨b1, b2, b3⟩ := h2.canon _ h1
    rw [List.length_drop] at b2
    refine ⟨⟨a1, b1⟩, by simp only; omega, ?_⟩
    unfold eP
    simp only
    rw [List.take_add, a3, b3]
   ·rw [if_pos h1] at he
    exact absurd he h1
  ·rw [if_pos h0] at he
   exact absurd he h0
 short := fun x hx i hi => by
  unfold eP at hi ⊢
  rw [List.length_append] at hi
  unfold dP
  rcases Nat.lt_or_ge i (e x.1).length with h1 | h1
  ·have a := h.short x.1 hx.1 i h1
   rw [List.take_append_of_le_length (by omega)]
   rw [if_pos (by rw [a]; decide)]
   exact a
  ·have e1 : (e x.1 ++ e2 x.2).take i = e x.1 ++ (e2 x.2).take (i - (e x.1).length) := by
    rw [List.take_append, List.take_of_length_le h1]
   have a := h.back x.1 hx.1 ((e2 x.2).take (i - (e x.1).length))
   have b := h2.short x.2 hx.2 (i - (e x.1).length) (by omega)
   rw [e1, a]
   simp only [ne_eq, not_true, if_false, List.drop_left]
   rw [if_pos (by rw [b]; decide)]
   exact b
 pos := fun x hx => by
  have := h.pos x.1 hx.1
  unfold eP
  rw [List.length_append]
  omega
/-- With a check; told otherwise. -/
def dM [Inhabited β] (d : List UInt8 → α × Nat × Int) (f : α → Option β) (b : List UInt8) : β × Nat × Int :=
 if (d b).2.2 ≠ 0 then (default, 0, (d b).2.2) else match f (d b).1 with
  | some y => (y, (d b).2.1, 0)
  | none => (default, 0, 2)
theorem codecM [Inhabited β] (h : Codec e d V) {f : α → Option β} {g : β → α} (h1 : ∀ y, V2 y → V (g y) ∧ f (g y) = some y) (h3 : ∀ x y, V x → f x = some y → g y = x ∧ V2 y) : Codec (fun y => e (g y)) (dM d f) V2 where
 back := fun y hy t => by
  obtain ⟨a1, a2⟩ := h1 y hy
  have a := h.back (g y) a1 t
  unfold dM
  rw [a]
  simp [a2]
 canon := fun b he => by
  unfold dM at he ⊢
  by_cases h0 : (d b).2.2 = 0
  ·rw [if_neg (by simp [h0])] at he ⊢
   obtain ⟨a1, a2, a3⟩ := h.canon b h0
   cases hf : f (d b).1 with
   | none => rw [hf] at he; simp at he
   | some y =>
    obtain ⟨b1, b2⟩ := h3 _ _ a1 hf
    refine ⟨b2, a2, ?_⟩
    show b.take (d b).2.1 = e (g y)
    rw [a3, b1]
  ·rw [if_pos h0] at he
   exact absurd he h0
 short := fun y hy i hi => by
  obtain ⟨a1, a2⟩ := h1 y hy
  have a := h.short (g y) a1 i hi
  unfold dM
  rw [if_pos (by rw [a]; decide)]
  exact a
 pos := fun y hy => h.pos (g y) (h1 y hy).1
theorem dP_1 [Inhabited α] [Inhabited β] {b : List UInt8} (h : (d b).2.2 ≠ 0) : dP d d2 b = (default, 0, (d b).2.2) := by unfold dP; rw [if_pos h]
theorem dP_2 [Inhabited α] [Inhabited β] {b : List UInt8} (h : (d b).2.2 = 0) (h2 : (d2 (b.drop (d b).2.1)).2.2 ≠ 0) : dP d d2 b = (default, 0, (d2 (b.drop (d b).2.1)).2.2) := by unfold dP; rw [if_neg (by simp [h]), if_pos h2]
theorem dP_0 [Inhabited α] [Inhabited β] {b : List UInt8} (h : (d b).2.2 = 0) (h2 : (d2 (b.drop (d b).2.1)).2.2 = 0) : dP d d2 b = (((d b).1, (d2 (b.drop (d b).2.1)).1), (d b).2.1 + (d2 (b.drop (d b).2.1)).2.1, 0) := by unfold dP; rw [if_neg (by simp [h]), if_neg (by simp [h2])]
theorem dM_1 [Inhabited β] {f : α → Option β} {b : List UInt8} (h : (d b).2.2 ≠ 0) : dM d f b = (default, 0, (d b).2.2) := by unfold dM; rw [if_pos h]
theorem dM_2 [Inhabited β] {f : α → Option β} {b : List UInt8} (h : (d b).2.2 = 0) (h2 : f (d b).1 = none) : dM d f b = (default, 0, 2) := by unfold dM; rw [if_neg (by simp [h]), h2]
theorem dM_0 [Inhabited β] {f : α → Option β} {b : List UInt8} {y : β} (h : (d b).2.2 = 0) (h2 : f (d b).1 = some y) : dM d f b = (y, (d b).2.1, 0) := by unfold dM; rw [if_neg (by simp [h]), h2]
end
end Go.Proofs.YtlgnagnmoleeiaaGreat.W
