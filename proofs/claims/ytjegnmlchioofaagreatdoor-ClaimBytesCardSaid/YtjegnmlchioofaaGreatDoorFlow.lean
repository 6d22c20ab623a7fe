/-
 A REGION THAT DRAWS ITS ORDER, AS A FLOW OF VALUES: each operation says what it yields once its operands are there, whatever else was done; the stores come last.
-/
import Derived.WalkKit
import Derived.WalkSpells
import Derived.Deep.Slices
import Derived.Deep.Draws
import Derived.Lib.Hide
import Derived.Test.YtjegnmlchioofaaGreatDoorRows
import Derived.Test.YtjegnmlchioofaaGreatDoorPlainI
import Derived.Laws.MakeOwn
import Derived.WalkLawsBesides
import Derived.LoopTactic
import Derived.BigQuiet
import Derived.Deep.QuietTactic
import Derived.Deep.LoopGhost
namespace Go.Proofs.YtjegnmlchioofaaGreatDoor.W
open Go.RowKit
/-- The byte under the flip. -/
def fx (neg : Bool) (b : UInt8) : UInt8 := if neg then 255 - b else b
theorem sub255 (b : UInt8) : (255 - b).toNat = 255 - b.toNat := by
 have := b.toNat_lt
 rw [UInt8.toNat_sub]
 have e : (255 : UInt8).toNat = 255 := rfl
 rw [e]; omega
theorem fx_toNat (neg : Bool) (b : UInt8) : (fx neg b).toNat = if neg then 255 - b.toNat else b.toNat := by
 unfold fx; cases neg <;> simp [sub255]
theorem fx_fx (neg : Bool) (b : UInt8) : fx neg (fx neg b) = b := by
 apply UInt8.toNat_inj.1
 have := b.toNat_lt
 rw [fx_toNat, fx_toNat]; cases neg <;> simp; omega
theorem fx_map (neg : Bool) (l : List UInt8) : (l.map (fx neg)).map (fx neg) = l := by
 rw [List.map_map]
 conv => rhs; rw [← List.map_id l]
 exact List.map_congr_left fun b _ => fx_fx neg b
/-- k bytes of m, the most significant first. -/
def be : Nat → Nat → List UInt8
 | 0, _ => []
 | k + 1, m => UInt8.ofNat (m / 256 ^ k) :: be k m
@[simp] theorem be_length : ∀ k m, (be k m).length = k
 | 0, _ => rfl
 | k + 1, m => by simp [be, be_length k m]
/-- The number that bytes are, the most significant first. -/
def val : List UInt8 → Nat
 | [] => 0
 | b :: r => b.toNat * 256 ^ r.length + val r
theorem val_lt : ∀ l, val l < 256 ^ l.length
 | [] => by simp [val]
 | b :: r => by
  have h1 := val_lt r
  have h2 := b.toNat_lt
  simp only [val, List.length_cons, Nat.pow_succ]
  have : b.toNat * 256 ^ r.length ≤ 255 * 256 ^ r.length := Nat.mul_le_mul_right _ (by omega)
  omega
theorem ofNat_toNat (n : Nat) : (UInt8.ofNat n).toNat = n % 256 := by simp
theorem val_be : ∀ k m, val (be k m) = m % 256 ^ k
 | 0, m => by simp [be, val, Nat.mod_one]
 | k + 1, m => by
  simp only [be, val, be_length, ofNat_toNat, val_be k m]
  rw [Nat.pow_succ, Nat.mod_mul, Nat.mul_comm, Nat.add_comm]
theorem be_congr : ∀ (k : Nat) (a b : Nat), a % 256 ^ k = b % 256 ^ k → be k a = be k b
 | 0, _, _, _ => rfl
 | k + 1, a, b, h => by
  rw [Nat.pow_succ, Nat.mod_mul, Nat.mod_mul] at h
  have hp : 0 < 256 ^ k := Nat.pow_pos (by omega)
  have ha := Nat.mod_lt a hp
  have hb := Nat.mod_lt b hp
  have h1 : a % 256 ^ k = b % 256 ^ k := by
   have := congrArg (· % 256 ^ k) h
   simpa [Nat.add_mul_mod_self_left] using this
  have h2 : a / 256 ^ k % 256 = b / 256 ^ k % 256 := by
   rw [h1] at h
   have h3 : 256 ^ k * (a / 256 ^ k % 256) = 256 ^ k * (b / 256 ^ k % 256) := by omega
   exact Nat.eq_of_mul_eq_mul_left hp h3
  simp only [be]
  rw [be_congr k a b h1]
  congr 1
  apply UInt8.toNat_inj.1
  simp only [ofNat_toNat, h2]
theorem be_val : ∀ l : List UInt8, be l.length (val l) = l
 | [] => rfl
 | b :: r => by
  have h1 := val_lt r
  have h2 := b.toNat_lt
  have hp : 0 < 256 ^ r.length := Nat.pow_pos (by omega)
  simp only [List.length_cons, be, val]
  have e1 : (b.toNat * 256 ^ r.length + val r) / 256 ^ r.length = b.toNat := by
   rw [Nat.mul_comm, Nat.mul_add_div hp, Nat.div_eq_of_lt h1, Nat.add_zero]
  rw [e1, be_congr r.length (b.toNat * 256 ^ r.length + val r) (val r) (by rw [Nat.mul_comm, Nat.mul_add_mod]), be_val r]
  congr 1
  exact UInt8.toNat_inj.1 (by simp)
/-- k is the least number of bytes of m. -/
def Wid (k m : Nat) : Prop := m < 256 ^ k ∧ (k = 0 ∨ 256 ^ (k - 1) ≤ m)
theorem Wid.uniq {k j m : Nat} (h : Wid k m) (g : Wid j m) : k = j := by
 rcases Nat.lt_trichotomy k j with hlt | e | hgt
 ·rcases g.2 with rfl | h2
  ·omega
  ·have := Nat.pow_le_pow_right (show 0 < 256 by omega) (show k ≤ j - 1 by omega)
   have := h.1
   omega
 ·exact e
 ·rcases h.2 with rfl | h2
  ·omega
  ·have := Nat.pow_le_pow_right (show 0 < 256 by omega) (show j ≤ k - 1 by omega)
   have := g.1
   omega
/-- The least number of bytes, to at most f. -/
def widF : Nat → Nat → Nat
 | 0, _ => 0
 | f + 1, m => if 256 ^ f ≤ m then f + 1 else widF f m
theorem widF_wid : ∀ (f m : Nat), m < 256 ^ f → Wid (widF f m) m
 | 0, m, h => ⟨h, .inl rfl⟩
 | f + 1, m, h => by
  unfold widF
  split
  ·exact ⟨h, .inr (by simpa)⟩
  ·exact widF_wid f m (by omega)
theorem widF_le : ∀ (f m : Nat), widF f m ≤ f
 | 0, _ => Nat.le_refl _
 | f + 1, m => by unfold widF; split; omega; have := widF_le f m; omega
def wid (m : Nat) : Nat := widF 8 m
theorem wid_le (m : Nat) : wid m ≤ 8 := widF_le 8 m
theorem wid_wid (m : Nat) (h : m < 18446744073709551616) : Wid (wid m) m := widF_wid 8 m (by simpa using h)
theorem wid_of {k m : Nat} (h : m < 18446744073709551616) (hk : Wid k m) : wid m = k := (wid_wid m h).uniq hk
/-- An integer of 64 bits. -/
def Is64 (n : Int) : Prop := -9223372036854775808 ≤ n ∧ n ≤ 9223372036854775807
def mag (n : Int) : Nat := if n < 0 then (-1 - n).toNat else n.toNat
theorem mag_lt {n : Int} (h : Is64 n) : mag n < 9223372036854775808 := by unfold mag Is64 at *; split <;> omega
def neg (n : Int) : Bool := decide (n < 0)
/-- The encoding of an integer. -/
def enc (n : Int) : List UInt8 := fx (neg n) (UInt8.ofNat (128 + wid (mag n))) :: (be (wid (mag n)) (mag n)).map (fx (neg n))
theorem enc_length (n : Int) : (enc n).length = wid (mag n) + 1 := by simp [enc]
theorem enc_le (n : Int) : 1 ≤ (enc n).length ∧ (enc n).length ≤ 9 := by
 have := wid_le (mag n); rw [enc_length]; omega
/-- Decoding an integer: the integer, the number of bytes, the error (0 none, 2 form, 3 more). -/
def dec : List UInt8 → Int × Nat × Int
 | [] => (0, 0, 3)
 | h :: t =>
  let ng : Bool := decide (h.toNat < 128)
  let k := (fx ng h).toNat - 128
  if 8 < k then (0, 0, 2)
  else if t.length < k then (0, 0, 3)
  else
   let m := val ((t.take k).map (fx ng))
   if (0 < k ∧ m < 256 ^ (k - 1)) ∨ 9223372036854775808 ≤ m then (0, 0, 2)
   else (if ng then -1 - (m : Int) else (m : Int), k + 1, 0)
theorem head_nat (n : Int) : (fx (neg n) (UInt8.ofNat (128 + wid (mag n)))).toNat = if n < 0 then 127 - wid (mag n) else 128 + wid (mag n) := by
 have := wid_le (mag n)
 rw [fx_toNat, ofNat_toNat, Nat.mod_eq_of_lt (by omega)]
 unfold neg
 by_cases h : n < 0 <;> simp [h]; omega
theorem dec_enc {n : Int} (h : Is64 n) (t : List UInt8) : dec (enc n ++ t) = (n, (enc n).length, 0) := by
 have hm := mag_lt h
 have hw := wid_le (mag n)
 have hW := wid_wid (mag n) (by omega)
 have hh := head_nat n
 rw [enc_length]
 unfold enc
 simp only [List.cons_append, dec]
 have hng : decide ((fx (neg n) (UInt8.ofNat (128 + wid (mag n)))).toNat < 128) = neg n := by
  rw [hh]; unfold neg; by_cases hn : n < 0 <;> simp [hn]; omega
 rw [hng, fx_fx, ofNat_toNat, Nat.mod_eq_of_lt (by omega), Nat.add_sub_cancel_left, if_neg (by omega)]
 have hlen : ((be (wid (mag n)) (mag n)).map (fx (neg n)) ++ t).length = wid (mag n) + t.length := by simp
 rw [if_neg (by omega)]
 have htake : (((be (wid (mag n)) (mag n)).map (fx (neg n)) ++ t).take (wid (mag n))).map (fx (neg n)) = be (wid (mag n)) (mag n) := by
  rw [List.take_left' (by simp), fx_map]
 rw [htake, val_be, Nat.mod_eq_of_lt hW.1]
 have hc : ¬ ((0 < wid (mag n) ∧ mag n < 256 ^ (wid (mag n) - 1)) ∨ 9223372036854775808 ≤ mag n) := by
  rintro (⟨h0, h1⟩ | h1)
  ·rcases hW.2 with h2 | h2 <;> omega
  ·omega
 rw [if_neg hc]
 unfold neg mag
 by_cases hn : n < 0
 ·simp [hn]; omega
 ·simp [hn]; omega
theorem dec_short {n : Int} (h : Is64 n) (i : Nat) (hi : i < (enc n).length) : dec ((enc n).take i) = (0, 0, 3) := by
 have hm := mag_lt h
 have hw := wid_le (mag n)
 have hh := head_nat n
 rw [enc_length] at hi
 cases i with
 | zero => simp [dec]
 | succ i =>
  unfold enc
  simp only [List.take_succ_cons, dec]
  have hng : decide ((fx (neg n) (UInt8.ofNat (128 + wid (mag n)))).toNat < 128) = neg n := by
   rw [hh]; unfold neg; by_cases hn : n < 0 <;> simp [hn]; omega
  rw [hng, fx_fx, ofNat_toNat, Nat.mod_eq_of_lt (by omega), Nat.add_sub_cancel_left, if_neg (by omega), if_pos]
  simp; omega
/-- What a decoding that went well says. -/
theorem dec_ok {b : List UInt8} {n : Int} {u : Nat} (h : dec b = (n, u, 0)) : Is64 n ∧ u ≤ b.length ∧ b.take u = enc n ∧ u = (enc n).length := by
 cases b with
 | nil => simp [dec] at h
 | cons a t =>
  simp only [dec] at h
  by_cases h1 : 8 < (fx (decide (a.toNat < 128)) a).toNat - 128
  ·rw [if_pos h1] at h; simp at h
  rw [if_neg h1] at h
  by_cases h2 : t.length < (fx (decide (a.toNat < 128)) a).toNat - 128
  ·rw [if_pos h2] at h; simp at h
  rw [if_neg h2] at h
  obtain ⟨g, hg⟩ : ∃ g : Bool, g = decide (a.toNat < 128) := ⟨_, rfl⟩
  rw [← hg] at h h1 h2
  obtain ⟨k, hk⟩ : ∃ k : Nat, k = (fx g a).toNat - 128 := ⟨_, rfl⟩
  rw [← hk] at h h1 h2
  obtain ⟨ds, hds⟩ : ∃ ds, ds = (t.take k).map (fx g) := ⟨_, rfl⟩
  rw [← hds] at h
  have hlen : ds.length = k := by rw [hds]; simp; omega
  by_cases h3 : (0 < k ∧ val ds < 256 ^ (k - 1)) ∨ 9223372036854775808 ≤ val ds
  ·rw [if_pos h3] at h; simp at h
  rw [if_neg h3] at h
  simp only [Prod.mk.injEq, and_true] at h
  obtain ⟨hn, hu⟩ := h
  have hv := val_lt ds
  rw [hlen] at hv
  have hWk : Wid k (val ds) := ⟨hv, by omega⟩
  have hneg : neg n = g := by
   rw [← hn]; unfold neg; cases g <;> simp; omega
  have hmag : mag n = val ds := by
   rw [← hn]; unfold mag; cases g <;> simp <;> (try split) <;> omega
  have hwid : wid (mag n) = k := by rw [hmag]; exact wid_of (by omega) hWk
  have ha : 128 ≤ (fx g a).toNat := by
   rw [fx_toNat, hg]; have := a.toNat_lt
   by_cases h4 : a.toNat < 128 <;> simp [h4] <;> omega
  have hI : Is64 n := by
   rw [← hn]; unfold Is64; cases g <;> simp <;> omega
  refine ⟨hI, by simp; omega, ?_, by rw [enc_length, hwid]; omega⟩
  rw [← hu]
  unfold enc
  rw [hwid, hneg, hmag, List.take_succ_cons]
  congr 1
  ·rw [← fx_fx g a]; congr 1
   apply UInt8.toNat_inj.1
   rw [ofNat_toNat]; have := (fx g a).toNat_lt; omega
  ·have := be_val ds
   rw [hlen] at this
   rw [this, hds, fx_map]
theorem dec_err {b : List UInt8} {n : Int} {u : Nat} {e : Int} (h : dec b = (n, u, e)) : e = 0 ∨ (n = 0 ∧ u = 0 ∧ (e = 2 ∨ e = 3)) := by
 cases b with
 | nil => simp [dec] at h; omega
 | cons a t =>
  simp only [dec] at h
  split at h
  ·simp at h; omega
  split at h
  ·simp at h; omega
  split at h
  ·simp at h; omega
  ·simp at h; omega
theorem be_get : ∀ (k m i : Nat) (h : i < k), (be k m)[i]'(by simpa using h) = UInt8.ofNat (m / 256 ^ (k - 1 - i))
 | k + 1, m, 0, _ => by simp [be]
 | k + 1, m, i + 1, h => by
  have := be_get k m i (by omega)
  simp only [be, List.getElem_cons_succ, this]
  congr 3; omega
theorem enc_step (n : Int) {k j : Nat} (hk : wid (mag n) = k) (hj : 0 < j) (hjk : j ≤ k) :
  (enc n).take (k - (j - 1) + 1) = (enc n).take (k - j + 1) ++ [fx (neg n) (UInt8.ofNat (mag n / 256 ^ (j - 1)))] := by
 have hl := enc_length n
 rw [show k - (j - 1) + 1 = (k - j + 1) + 1 from by omega, List.take_succ_eq_append_getElem (by omega)]
 congr 2
 simp only [enc, List.getElem_cons_succ, List.getElem_map, hk]
 rw [be_get _ _ _ (by omega)]
 congr 3; congr 1; omega
theorem enc_head (n : Int) {k : Nat} (hk : wid (mag n) = k) : (enc n).take 1 = [fx (neg n) (UInt8.ofNat (128 + k))] := by
 simp [enc, hk]
theorem enc_all (n : Int) {k : Nat} (hk : wid (mag n) = k) : (enc n).take (k + 1) = enc n := by
 rw [List.take_of_length_le]; rw [enc_length, hk]; omega
theorem pow256 (i : Nat) : 2 ^ (8 * i) = 256 ^ i := by rw [Nat.pow_mul]
theorem div256 (M i : Nat) : (M : Int) / 2 ^ (8 * i) = ((M / 256 ^ i : Nat) : Int) := by
 rw [← pow256]; simp
theorem u64_neg (n : Int) (h : Is64 n) (h0 : n < 0) : bits BinOp.xor IntKind.u64 IntKind.u64.max (IntKind.u64.wrap n) = (mag n : Int) := by
 have e : IntKind.u64.wrap n = n + 18446744073709551616 := by
  rw [IntKind.wrap_u64]; unfold Is64 at h; omega
 have em : IntKind.u64.max = 18446744073709551615 := by decide +kernel
 have hb := h.1
 rw [e, em, u64_xor _ _ (by omega) (by omega) (by omega) (by omega)]
 have e1 : (18446744073709551615 : Int).toNat = 2 ^ 64 - 1 := by decide +kernel
 rw [e1]
 have hx : ∀ y : Nat, y < 2 ^ 64 → (2 ^ 64 - 1) ^^^ y = 2 ^ 64 - 1 - y := by
  intro y hy
  apply Nat.eq_of_testBit_eq
  intro i
  rw [Nat.testBit_xor, Nat.testBit_two_pow_sub_one]
  have := Nat.testBit_two_pow_sub_succ hy i
  rw [show 2 ^ 64 - 1 - y = 2 ^ 64 - (y + 1) from by omega, this]
  by_cases hi : i < 64
  ·simp [hi]
  ·have : y.testBit i = false := Nat.testBit_lt_two_pow (Nat.lt_of_lt_of_le hy (Nat.pow_le_pow_right (by omega) (by omega)))
   simp [hi, this]
 rw [hx _ (by omega)]
 unfold mag
 rw [if_pos h0]
 omega
theorem u64_pos (n : Int) (h : Is64 n) (h0 : ¬ n < 0) : IntKind.u64.wrap n = (mag n : Int) := by
 rw [IntKind.wrap_u64]; unfold Is64 at h; unfold mag; rw [if_neg h0]; omega
theorem xor255 : ∀ y : Nat, y < 256 → y ^^^ 255 = 255 - y := by decide +kernel
theorem xor255_u8 (b : UInt8) : bits BinOp.xor IntKind.u8 (b.toNat : Int) 255 = ((255 - b : UInt8).toNat : Int) := by
 have := b.toNat_lt
 rw [u8_xor _ _ (by omega) (by omega) (by omega) (by omega), sub255]
 have e : ((b.toNat : Int).toNat ^^^ (255 : Int).toNat) = 255 - b.toNat := by
  rw [Int.toNat_natCast]; exact xor255 _ (by omega)
 rw [e]
theorem xor0_u8 (b : UInt8) : bits BinOp.xor IntKind.u8 (b.toNat : Int) 0 = (b.toNat : Int) := by
 have := b.toNat_lt
 rw [u8_xor _ _ (by omega) (by omega) (by omega) (by omega)]
 have e : ((b.toNat : Int).toNat ^^^ (0 : Int).toNat) = b.toNat := by rw [Int.toNat_natCast]; exact Nat.xor_zero _
 rw [e]
/-- The number that flips a byte. -/
def fl (ng : Bool) : Int := if ng then 255 else 0
theorem xor_fl (ng : Bool) (b : UInt8) : bits BinOp.xor IntKind.u8 (b.toNat : Int) (fl ng) = ((fx ng b).toNat : Int) := by
 cases ng
 ·exact xor0_u8 b
 ·exact xor255_u8 b
theorem wrap_u8_nat (m : Nat) : IntKind.u8.wrap (m : Int) = ((UInt8.ofNat m).toNat : Int) := by
 rw [IntKind.wrap_u8', ofNat_toNat]; omega
theorem dec_cons (h : UInt8) (t : List UInt8) (g : Bool) (K : Nat) (hg : g = decide (h.toNat < 128)) (hK : (fx g h).toNat = 128 + K) :
  dec (h :: t) = if 8 < K then (0, 0, 2) else if t.length < K then (0, 0, 3) else
   if (0 < K ∧ val ((t.take K).map (fx g)) < 256 ^ (K - 1)) ∨ 9223372036854775808 ≤ val ((t.take K).map (fx g)) then (0, 0, 2)
   else (if g then -1 - (val ((t.take K).map (fx g)) : Int) else (val ((t.take K).map (fx g)) : Int), K + 1, 0) := by
 simp only [dec]
 rw [← hg, show (fx g h).toNat - 128 = K from by omega]
theorem dec_big (h : UInt8) (t : List UInt8) (g : Bool) (K : Nat) (hg : g = decide (h.toNat < 128)) (hK : (fx g h).toNat = 128 + K) (h8 : 8 < K) : dec (h :: t) = (0, 0, 2) := by
 rw [dec_cons h t g K hg hK, if_pos h8]
theorem dec_more (h : UInt8) (t : List UInt8) (g : Bool) (K : Nat) (hg : g = decide (h.toNat < 128)) (hK : (fx g h).toNat = 128 + K) (h8 : ¬ 8 < K) (hl : t.length < K) : dec (h :: t) = (0, 0, 3) := by
 rw [dec_cons h t g K hg hK, if_neg h8, if_pos hl]
theorem dec_zero (h : UInt8) (t : List UInt8) (g : Bool) (K : Nat) (hg : g = decide (h.toNat < 128)) (hK : (fx g h).toNat = 128 + K) (h8 : K ≤ 8) (hl : K ≤ t.length) (h0 : 0 < K)
  (b1 : UInt8) (hb : t[0]? = some b1) (hz : (fx g b1).toNat = 0) : dec (h :: t) = (0, 0, 2) := by
 rw [dec_cons h t g K hg hK, if_neg (by omega), if_neg (by omega), if_pos]
 refine .inl ⟨h0, ?_⟩
 cases t with
 | nil => simp at hb
 | cons b r =>
  simp at hb
  subst hb
  obtain ⟨K', rfl⟩ : ∃ K', K = K' + 1 := ⟨K - 1, by omega⟩
  simp only [List.take_succ_cons, List.map_cons, val, hz, Nat.zero_mul, Nat.zero_add, Nat.add_sub_cancel]
  have := val_lt ((r.take K').map (fx g))
  have e : ((r.take K').map (fx g)).length = K' := by simp at hl ⊢; omega
  rwa [e] at this
theorem dec_val (h : UInt8) (t : List UInt8) (g : Bool) (K : Nat) (hg : g = decide (h.toNat < 128)) (hK : (fx g h).toNat = 128 + K) (h8 : K ≤ 8) (hl : K ≤ t.length)
  (hz : 0 < K → ∃ b1, t[0]? = some b1 ∧ 0 < (fx g b1).toNat) :
  dec (h :: t) = if 9223372036854775808 ≤ val ((t.take K).map (fx g)) then (0, 0, 2) else (if g then -1 - (val ((t.take K).map (fx g)) : Int) else (val ((t.take K).map (fx g)) : Int), K + 1, 0) := by
 rw [dec_cons h t g K hg hK, if_neg (by omega), if_neg (by omega)]
 have hn : ¬ (0 < K ∧ val ((t.take K).map (fx g)) < 256 ^ (K - 1)) := by
  rintro ⟨h0, hv⟩
  obtain ⟨b1, hb, hp⟩ := hz h0
  cases t with
  | nil => simp at hb
  | cons b r =>
   simp at hb
   subst hb
   obtain ⟨K', rfl⟩ : ∃ K', K = K' + 1 := ⟨K - 1, by omega⟩
   simp only [List.take_succ_cons, List.map_cons, val, Nat.add_sub_cancel] at hv
   have e : ((r.take K').map (fx g)).length = K' := by simp at hl ⊢; omega
   rw [e] at hv
   have : 1 * 256 ^ K' ≤ (fx g b).toNat * 256 ^ K' := Nat.mul_le_mul_right _ hp
   omega
 simp only [hn, false_or]
theorem val_snoc (l : List UInt8) (b : UInt8) : val (l ++ [b]) = val l * 256 + b.toNat := by
 induction l with
 | nil => simp [val]
 | cons a r ih =>
  simp only [List.cons_append, val, ih, List.length_append, List.length_singleton, Nat.pow_succ, Nat.add_mul, Nat.mul_assoc]
  omega
theorem val_step (t : List UInt8) (g : Bool) (i : Nat) (b : UInt8) (hb : t[i]? = some b) : val ((t.take (i + 1)).map (fx g)) = val ((t.take i).map (fx g)) * 256 + (fx g b).toNat := by
 have hi : i < t.length := (List.getElem?_eq_some_iff.1 hb).1
 have e : t[i] = b := (List.getElem?_eq_some_iff.1 hb).2
 rw [List.take_succ_eq_append_getElem hi, e, List.map_append, List.map_singleton, val_snoc]
theorem val_take_lt (t : List UInt8) (g : Bool) (i : Nat) : val ((t.take i).map (fx g)) < 256 ^ i := by
 have h1 := val_lt ((t.take i).map (fx g))
 have : ((t.take i).map (fx g)).length ≤ i := by simp; omega
 exact Nat.lt_of_lt_of_le h1 (Nat.pow_le_pow_right (by omega) this)
theorem or_step (m y : Nat) (hm : m ≤ 72057594037927935) (hy : y < 256) : bits BinOp.or IntKind.u64 ((m : Int) * 256) (y : Int) = ((m * 256 + y : Nat) : Int) := by
 rw [u64_or _ _ (by omega) (by omega) (by omega) (by omega)]
 have e : ((m : Int) * 256).toNat = m * 256 := by omega
 rw [e, Int.toNat_natCast, nat_join 8 (m * 256) y (by omega) (by omega)]
theorem u64_not (y : Nat) (hy : y < 18446744073709551616) : bits BinOp.xor IntKind.u64 IntKind.u64.max (y : Int) = ((18446744073709551615 - y : Nat) : Int) := by
 have em : IntKind.u64.max = 18446744073709551615 := by decide +kernel
 rw [em, u64_xor _ _ (by omega) (by omega) (by omega) (by omega)]
 have e1 : (18446744073709551615 : Int).toNat = 2 ^ 64 - 1 := by decide +kernel
 rw [e1, Int.toNat_natCast]
 have hx : (2 ^ 64 - 1) ^^^ y = 2 ^ 64 - 1 - y := by
  apply Nat.eq_of_testBit_eq
  intro i
  rw [Nat.testBit_xor, Nat.testBit_two_pow_sub_one]
  have := Nat.testBit_two_pow_sub_succ (n := 64) (x := y) (by omega) i
  rw [show 2 ^ 64 - 1 - y = 2 ^ 64 - (y + 1) from by omega, this]
  by_cases hi : i < 64
  ·simp [hi]
  ·have : y.testBit i = false := Nat.testBit_lt_two_pow (Nat.lt_of_lt_of_le (show y < 2 ^ 64 by omega) (Nat.pow_le_pow_right (by omega) (by omega)))
   simp [hi, this]
 rw [hx]
def encI (l : List Int) : List UInt8 := enc l.length ++ l.flatMap enc
theorem take_flat {α : Type} (f : α → List UInt8) {l : List α} {k : Nat} {x : α} (h : l[k]? = some x) : (l.take (k + 1)).flatMap f = (l.take k).flatMap f ++ f x := by
 have h1 := List.getElem?_eq_some_iff.1 h
 rw [List.take_succ_eq_append_getElem h1.1, h1.2, List.flatMap_append]
 simp
theorem flat_le {α : Type} (f : α → List UInt8) (l : List α) (k : Nat) : ((l.take k).flatMap f).length ≤ (l.flatMap f).length := by
 conv => rhs; rw [← List.take_append_drop k l, List.flatMap_append, List.length_append]
 omega
theorem encI_le (l : List Int) : (encI l).length ≤ 9 + 9 * l.length := by
 unfold encI
 rw [List.length_append]
 have h1 := (enc_le l.length).2
 have h2 : (l.flatMap enc).length ≤ 9 * l.length := by
  induction l with
  | nil => simp
  | cons a r ih => simp only [List.flatMap_cons, List.length_append, List.length_cons]; have := (enc_le a).2; have := (enc_le r.length).2; have := ih this; omega
 omega
end Go.Proofs.YtjegnmlchioofaaGreatDoor.W
namespace Go.Proofs.YtjegnmlchioofaaGreatDoor
open Go.RowKit
section
end
theorem own_pos {w : World} {base e size n : Nat} {v : Value} {xs : List Value} (h : w.ownsRow base e size v n xs) (hn : 0 < n) : ∃ g c, v = .slice (some ⟨g, 0, none⟩) n c ∧ n ≤ c ∧ c ≤ maxLen ∧ base ≤ g ∧ g < w.heap.size := by
 rcases h.2 with ⟨rfl, rfl⟩ | ⟨g, cap, cur, rfl, hb, hg, h1, h2, _⟩
 ·omega
 ·exact ⟨g, cap, rfl, h1, h2, hb, (Array.getElem?_eq_some_iff.1 hg).1⟩
/-- Cells that lie at a slice's address, as the laws on append ask. -/
theorem own_cells {w : World} {base e size n g c : Nat} {xs : List Value} (h : w.ownsRow base e size (.slice (some ⟨g, 0, none⟩) n c) n xs) : ∀ j u, xs[j]? = some u → w.cell? ((⟨g, 0, none⟩ : Addr).add j) = some u := h.cells (g := g) rfl
end Go.Proofs.YtjegnmlchioofaaGreatDoor
namespace Go.Proofs.YtjegnmlchioofaaGreatDoor
open Go.RowKit
section
end
/-- A number with a sign. -/
def sg (ng : Bool) (x : Int) : Int := if ng then -x else x
end Go.Proofs.YtjegnmlchioofaaGreatDoor
namespace Go.Proofs.YtjegnmlchioofaaGreatDoor
open Go.RowKit
section
end
section
end
/-- A store of a value of which it is only known that it is one cell. -/
theorem run_store_one (P : Program) (w : World) (a : Addr) (v : Value) (m : Mode) (hv : v.oneCell' = true) : (store a v m).run P w = stored P w a v m := run_store P w a v m hv
end Go.Proofs.YtjegnmlchioofaaGreatDoor
namespace Go.Proofs.YtjegnmlchioofaaGreatDoor
open Go.RowKit
/-- The denominator as it is kept: 0 where it is 1. -/
def dq (r : Rat) : Int := if r.den = 1 then 0 else r.den
theorem dq_one {r : Rat} (h : r.den = 1) : dq r = 0 := by unfold dq; rw [if_pos h]
theorem dq_more {r : Rat} (h : r.den ≠ 1) : dq r = r.den := by unfold dq; rw [if_neg h]
theorem dq_nonneg (r : Rat) : 0 ≤ dq r := by
 unfold dq
 split <;> omega
section
end
/-- Bits of a rational. -/
def Bq (k : Nat) (r : Rat) : Prop := I.Bd k r.num ∧ I.Bd k r.den
end Go.Proofs.YtjegnmlchioofaaGreatDoor
namespace Go.Proofs.YtjegnmlchioofaaGreatDoor
open Go.RowKit
/-- The operations that must be done ahead of one. -/
def predsOf (ops : Array Oper) (i : Nat) : List Nat := match ops[i]? with
 | none => []
 | some o => (o.after.toList.filter (fun e => Region.binds .any e)).map (·.on)
def covB (ops : Array Oper) : Nat → List Nat → Bool
 | 0, _ => true
 | j + 1, S => S.contains j && covB ops j (S ++ predsOf ops j)
/-- Every operation from n on waits for all that stand before it. -/
def fullB (ops : Array Oper) (n : Nat) : Bool := (List.range ops.size).all fun i => decide (i < n) || covB ops i (predsOf ops i)
def Closed (ops : Array Oper) (L : Array Bool) : Prop := ∀ i, L.getD i false = true → ∀ j ∈ predsOf ops i, L.getD j false = true
theorem mem_predsOf {ops : Array Oper} {i j : Nat} : j ∈ predsOf ops i ↔ ∃ o, ops[i]? = some o ∧ ∃ e ∈ o.after, Region.binds .any e = true ∧ e.on = j := by
 unfold predsOf
 cases h : ops[i]? with
 | none => simp
 | some o => simp [and_assoc]
theorem cov_done {ops : Array Oper} {L : Array Bool} (hc : Closed ops L) : ∀ (k : Nat) (S : List Nat), covB ops k S = true → (∀ j ∈ S, L.getD j false = true) → ∀ j, j < k → L.getD j false = true
 | 0, _, _, _, _, h => absurd h (Nat.not_lt_zero _)
 | k + 1, S, hb, hS, j, hj => by
  simp only [covB, Bool.and_eq_true] at hb
  have hk : L.getD k false = true := hS k (by simpa using hb.1)
  rcases Nat.lt_or_ge j k with h | h
  ·exact cov_done hc k _ hb.2 (fun x hx => by
    rcases List.mem_append.1 hx with hx | hx
    ·exact hS x hx
    ·exact hc k hk x hx) j h
  ·rw [show j = k by omega]; exact hk
theorem full_done {ops : Array Oper} {n : Nat} (hf : fullB ops n = true) {L : Array Bool} (hc : Closed ops L) {i : Nat} (hi : i < ops.size) (hn : n ≤ i) (hp : ∀ j ∈ predsOf ops i, L.getD j false = true) : ∀ j, j < i → L.getD j false = true := by
 unfold fullB at hf
 rw [List.all_eq_true] at hf
 have h1 := hf i (by simpa using hi)
 simp only [Bool.or_eq_true, decide_eq_true_eq] at h1
 rcases h1 with h1 | h1
 ·omega
 ·exact cov_done hc i _ h1 hp
theorem closed_set {ops : Array Oper} {L : Array Bool} (hc : Closed ops L) {i : Nat} (hp : ∀ j ∈ predsOf ops i, L.getD j false = true) : Closed ops (L.setIfInBounds i true) := by
 intro k hk j hj
 by_cases hij : i = j
 ·subst hij
  by_cases hik : i = k
  ·subst hik
   rw [Array.getD_eq_getD_getElem?, Array.getElem?_setIfInBounds, if_pos rfl]
   split
   ·rfl
   ·have := hp i hj
    rw [Array.getD_eq_getD_getElem?, Array.getElem?_eq_none (by omega)] at this
    exact this
  ·rw [getD_ne hik] at hk
   have h1 := hc k hk i hj
   rw [Array.getD_eq_getD_getElem?, Array.getElem?_setIfInBounds, if_pos rfl]
   split
   ·rfl
   ·rw [Array.getD_eq_getD_getElem?, Array.getElem?_eq_none (by omega)] at h1
    exact h1
 ·rw [getD_ne hij]
  by_cases hik : i = k
  ·subst hik; exact hp j hj
  ·rw [getD_ne hik] at hk
   exact hc k hk j hj
/-- The k-th of a list of such words on a value in a world. -/
abbrev Sp := World → Value → Prop
/-- What an operation of such a region does: a value, or a call. -/
def Does (P : Program) (o : Oper) (s : Sp) (al : Bool) (a : Act) (wx : World) : Prop :=
 (∃ v w', (execOp a.eval o).run P wx = .ok (.value v) w' ∧ Below wx.heap.size wx w' ∧ s w' v ∧ (al = true → v = .pointer (some ⟨wx.heap.size, 0, none⟩) ∧ wx.heap.size < w'.heap.size)) ∨
 (al = false ∧ ∃ f args, (execOp a.eval o).run P wx = .ok (.enter f args) wx ∧ Calls P f args wx fun e w' => ∃ v, e = .returned v ∧ Below wx.heap.size wx w' ∧ s w' v)
theorem wanted_of {ops : Array Oper} {o : Oper} {a : Act} {j d : Nat} {want b : Bool} (hg : o.guard = some (j, want)) (hd : (ops[j]?).bind (·.dst) = some d) (he : a.eval (.tmp d) = .bool b) : Region.wanted o (yielded ops a.tmps) = (b == want) := by
 have h1 : a.tmps[d]? = some (.bool b) := by
  simp only [Act.eval, Array.getD_eq_getD_getElem?] at he
  cases h : a.tmps[d]? with
  | none => rw [h] at he; cases he
  | some x => rw [h] at he; simp at he; rw [he]
 unfold Region.wanted
 rw [hg]
 simp only [yielded, hd, Option.bind_some, h1]
 cases b <;> cases want <;> rfl
theorem wanted_none {ops : Array Oper} {o : Oper} {a : Act} (hg : o.guard = none) : Region.wanted o (yielded ops a.tmps) = true := by
 unfold Region.wanted
 rw [hg]
section
end
end Go.Proofs.YtjegnmlchioofaaGreatDoor
