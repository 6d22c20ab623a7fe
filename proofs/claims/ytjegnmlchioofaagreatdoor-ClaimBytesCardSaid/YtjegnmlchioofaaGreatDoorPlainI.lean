/-
 PLAIN: digits to the base 10^9 (least first), their value, their canonical form; nothing of the program.
-/
import Derived.Test.YtjegnmlchioofaaGreatDoorRows
import Derived.Orders
import Derived.WalkKit
namespace Go.Proofs.YtjegnmlchioofaaGreatDoor
open Go.RowKit
/-- How many operations are still to come. -/
def toCome (listed : Array Bool) : Nat := (listed.toList.filter (fun b => !b)).length
theorem toCome_set {listed : Array Bool} {i : Nat} (h : listed[i]? = some false) : toCome (listed.setIfInBounds i true) + 1 = toCome listed := by
 obtain ⟨l⟩ := listed
 simp only [List.getElem?_toArray] at h
 simp only [toCome, List.setIfInBounds_toArray]
 induction l generalizing i with
 | nil => simp at h
 | cons b r ih =>
  cases i with
  | zero =>
   simp at h
   subst h
   simp
  | succ i =>
   simp only [List.getElem?_cons_succ] at h
   have := ih h
   simp only [List.set_cons_succ, List.filter_cons]
   cases b <;> simp <;> omega
theorem ready_of {md : Region.Mode} {ops : Array Oper} {listed : Array Bool} {i : Nat} (h : i ∈ Region.ready md ops listed) :
  i < ops.size ∧ listed.getD i true = false ∧ ∀ o : Oper, ops[i]? = some o → ∀ e ∈ o.after, Region.binds md e = true → listed.getD e.on false = true := by
 unfold Region.ready at h
 simp only [List.mem_filter, List.mem_range, Bool.and_eq_true, Bool.not_eq_true'] at h
 refine ⟨h.1, h.2.1, fun o ho e he hb => ?_⟩
 have h3 := h.2.2
 rw [ho] at h3
 simp only [Option.map_some, Option.getD_some, Array.all_eq_true', Bool.or_eq_true, Bool.not_eq_true'] at h3
 rcases h3 e he with h4 | h4
 ·rw [h4] at hb; cases hb
 ·exact h4
theorem ready_nil {md : Region.Mode} {ops : Array Oper} {listed : Array Bool} (hs : listed.size = ops.size) (hback : ∀ (i : Nat) (o : Oper), ops[i]? = some o → ∀ e ∈ o.after, Region.binds md e = true → e.on < i) (h : Region.ready md ops listed = []) :
  ∀ i, i < ops.size → listed.getD i true = true := by
 intro i
 induction i using Nat.strongRecOn with
 | _ i ih =>
  intro hi
  cases hl : listed.getD i true with
  | true => rfl
  | false =>
   exfalso
   have hm : i ∈ Region.ready md ops listed := by
    unfold Region.ready
    simp only [List.mem_filter, List.mem_range, Bool.and_eq_true, Bool.not_eq_true']
    refine ⟨hi, hl, ?_⟩
    have ho : ops[i]? = some ops[i] := Array.getElem?_eq_getElem hi
    rw [ho]
    simp only [Option.map_some, Option.getD_some, Array.all_eq_true', Bool.or_eq_true, Bool.not_eq_true']
    intro e he
    cases hbd : Region.binds md e with
    | false => exact .inl rfl
    | true =>
    right
    have hlt := hback i _ ho e he hbd
    have := ih e.on hlt (by omega)
    rw [Array.getD_eq_getD_getElem?, Array.getElem?_eq_getElem (by omega)] at this ⊢
    simpa using this
   rw [h] at hm
   cases hm
theorem getD_ne {L : Array Bool} {i j : Nat} (h : i ≠ j) : (L.setIfInBounds i true).getD j false = L.getD j false := by
 rw [Array.getD_eq_getD_getElem?, Array.getD_eq_getD_getElem?, Array.getElem?_setIfInBounds, if_neg h]
theorem getD_eq {L : Array Bool} {i : Nat} (h : i < L.size) : (L.setIfInBounds i true).getD i false = true := by
 rw [Array.getD_eq_getD_getElem?, Array.getElem?_setIfInBounds, if_pos rfl, if_pos h]
 rfl
theorem getD_no {L : Array Bool} {i : Nat} (h : L.getD i true = false) : L.getD i false = false := by
 rw [Array.getD_eq_getD_getElem?] at h ⊢
 cases hl : L[i]? with
 | none => rfl
 | some b => rw [hl] at h; simpa using h
theorem getD_yes {L : Array Bool} {i : Nat} (hs : i < L.size) (h : L.getD i true = true) : L.getD i false = true := by
 rw [Array.getD_eq_getD_getElem?, Array.getElem?_eq_getElem hs] at h ⊢
 simpa using h
/-- Every edge goes back. -/
def backB (ops : Array Oper) : Bool := ops.toList.zipIdx.all fun x => x.1.after.all fun e => !Region.binds .any e || decide (e.on < x.2)
theorem back_of {ops : Array Oper} (h : backB ops = true) : ∀ (i : Nat) (o : Oper), ops[i]? = some o → ∀ e ∈ o.after, Region.binds .any e = true → e.on < i := by
 intro i o ho e he hbd
 unfold backB at h
 rw [List.all_eq_true] at h
 have h1 := h (o, i) (by rw [List.mem_zipIdx_iff_getElem?]; simpa using ho)
 rw [Array.all_eq_true'] at h1
 have h2 := h1 e he
 rw [hbd] at h2
 exact of_decide_eq_true (by simpa using h2)
end Go.Proofs.YtjegnmlchioofaaGreatDoor
namespace Go.Proofs.YtjegnmlchioofaaGreatDoor.I
/-- The value of digits. -/
def val : List Int → Int
 | [] => 0
 | d :: l => d + 1000000000 * val l
/-- Digits are from 0 to 10^9 - 1. -/
def Dig (l : List Int) : Prop := ∀ d ∈ l, 0 ≤ d ∧ d < 1000000000
def pw (k : Nat) : Int := 1000000000 ^ k
theorem pw_zero : pw 0 = 1 := rfl
theorem pw_succ (k : Nat) : pw (k + 1) = 1000000000 * pw k := by unfold pw; rw [Int.pow_succ, Int.mul_comm]
theorem pw_add (j k : Nat) : pw (j + k) = pw j * pw k := by unfold pw; rw [Int.pow_add]
theorem pw_pos : ∀ k, 0 < pw k
 | 0 => by rw [pw_zero]; omega
 | k + 1 => by have := pw_pos k; rw [pw_succ]; omega
theorem pw_mono {j k : Nat} (h : j ≤ k) : pw j ≤ pw k := by
 obtain ⟨m, rfl⟩ := Nat.exists_eq_add_of_le h
 induction m with
 | zero => exact Int.le_refl _
 | succ m ih =>
  have h1 := ih (by omega)
  have h2 := pw_pos (j + m)
  rw [← Nat.add_assoc, pw_succ]
  omega
theorem val_append : ∀ a b : List Int, val (a ++ b) = val a + pw a.length * val b
 | [], b => by simp [val, pw_zero]
 | d :: a, b => by
  have := val_append a b
  simp only [List.cons_append, val, this, List.length_cons, pw_succ]
  grind
theorem val_snoc (a : List Int) (d : Int) : val (a ++ [d]) = val a + pw a.length * d := by rw [val_append]; simp [val]
theorem Dig.nil : Dig [] := by intro d h; cases h
theorem Dig.cons {d : Int} {l : List Int} (h0 : 0 ≤ d) (h1 : d < 1000000000) (h : Dig l) : Dig (d :: l) := by
 intro e he
 rcases List.mem_cons.1 he with rfl | he
 ·exact ⟨h0, h1⟩
 ·exact h e he
theorem Dig.cons_ {d : Int} {l : List Int} (h : Dig l) (h0 : 0 ≤ d) (h1 : d < 1000000000) : Dig (d :: l) := Dig.cons h0 h1 h
theorem Dig.tail {d : Int} {l : List Int} (h : Dig (d :: l)) : Dig l := fun e he => h e (List.mem_cons_of_mem _ he)
theorem Dig.head {d : Int} {l : List Int} (h : Dig (d :: l)) : 0 ≤ d ∧ d < 1000000000 := h d (by simp)
theorem Dig.append {a b : List Int} (h : Dig a) (g : Dig b) : Dig (a ++ b) := by
 intro e he
 rcases List.mem_append.1 he with he | he
 ·exact h e he
 ·exact g e he
theorem Dig.left {a b : List Int} (h : Dig (a ++ b)) : Dig a := fun e he => h e (List.mem_append_left _ he)
theorem Dig.right {a b : List Int} (h : Dig (a ++ b)) : Dig b := fun e he => h e (List.mem_append_right _ he)
theorem Dig.snoc {a : List Int} {d : Int} (h : Dig a) (h0 : 0 ≤ d) (h1 : d < 1000000000) : Dig (a ++ [d]) := h.append (Dig.cons h0 h1 Dig.nil)
theorem Dig.take {l : List Int} (h : Dig l) (k : Nat) : Dig (l.take k) := fun e he => h e (List.mem_of_mem_take he)
theorem Dig.drop {l : List Int} (h : Dig l) (k : Nat) : Dig (l.drop k) := fun e he => h e (List.mem_of_mem_drop he)
theorem Dig.get {l : List Int} (h : Dig l) {k : Nat} {d : Int} (hk : l[k]? = some d) : 0 ≤ d ∧ d < 1000000000 := h d (List.mem_of_getElem? hk)
theorem Dig.rep (n : Nat) : Dig (List.replicate n 0) := fun e he => by
 have := (List.mem_replicate.1 he).2
 omega
theorem val_rep : ∀ n, val (List.replicate n 0) = 0
 | 0 => rfl
 | n + 1 => by simp [List.replicate_succ, val, val_rep n]
theorem val_nonneg : ∀ {l : List Int}, Dig l → 0 ≤ val l
 | [], _ => by simp [val]
 | d :: l, h => by
  have h1 := val_nonneg h.tail
  have h2 := h.head
  simp only [val]
  omega
theorem val_lt : ∀ {l : List Int}, Dig l → val l < pw l.length
 | [], _ => by simp [val, pw_zero]
 | d :: l, h => by
  have h1 := val_lt h.tail
  have h2 := h.head
  simp only [val, List.length_cons, pw_succ]
  omega
/-- The canonical form: no zeros at the end. -/
def Can (l : List Int) : Prop := Dig l ∧ ∀ d, l.getLast? = some d → d ≠ 0
theorem Can.nil : Can [] := ⟨Dig.nil, fun d h => by simp at h⟩
theorem Can.one {d : Int} (h0 : 0 < d) (h1 : d < 1000000000) : Can [d] := ⟨Dig.cons (by omega) h1 Dig.nil, fun e h => by simp at h; omega⟩
theorem Can.tail {d : Int} {l : List Int} (h : Can (d :: l)) : Can l := by
 refine ⟨h.1.tail, fun e he => h.2 e ?_⟩
 cases l with
 | nil => simp at he
 | cons x r => rw [List.getLast?_cons_cons]; exact he
theorem Can.pos {l : List Int} (h : Can l) (hl : l ≠ []) : pw (l.length - 1) ≤ val l := by
 obtain ⟨a, d, rfl⟩ : ∃ a d, l = a ++ [d] := ⟨l.dropLast, l.getLast hl, (List.dropLast_concat_getLast hl).symm⟩
 have h1 := h.2 d (by simp)
 have h2 := h.1.right.head
 have h3 := val_nonneg h.1.left
 have h4 := pw_pos a.length
 rw [val_snoc]
 simp only [List.length_append, List.length_singleton, Nat.add_sub_cancel]
 have h5 : pw a.length * 1 ≤ pw a.length * d := Int.mul_le_mul_of_nonneg_left (by omega) (by omega)
 omega
theorem Can.zero {l : List Int} (h : Can l) (h0 : val l = 0) : l = [] := by
 by_cases hl : l = []
 ·exact hl
 ·have := h.pos hl
  have := pw_pos (l.length - 1)
  omega
theorem Can.uniq : ∀ {a b : List Int}, Can a → Can b → val a = val b → a = b
 | [], b, _, hb, h => (hb.zero (by simpa [val] using h.symm)).symm
 | d :: l, [], ha, _, h => ha.zero (by simpa [val] using h)
 | d :: l, e :: r, ha, hb, h => by
  have h1 := ha.1.head
  have h2 := hb.1.head
  simp only [val] at h
  have h3 : d = e := by omega
  have h4 : val l = val r := by omega
  rw [h3, Can.uniq ha.tail hb.tail h4]
/-- Canonical digits of more value are not fewer. -/
theorem Can.len {a b : List Int} (ha : Can a) (hb : Dig b) (h : val a ≤ val b) : a.length ≤ b.length := by
 by_cases h0 : a = []
 ·simp [h0]
 ·have h1 := ha.pos h0
  have h2 := val_lt hb
  rcases Nat.lt_or_ge b.length a.length with h3 | h3
  ·have := pw_mono (show b.length ≤ a.length - 1 by omega)
   omega
  ·exact h3
/-- Striking zeros at the end. -/
theorem val_take_zeros {l : List Int} {n : Nat} (h : ∀ k, n ≤ k → k < l.length → l[k]? = some 0) : val (l.take n) = val l := by
 conv => rhs; rw [← List.take_append_drop n l, val_append]
 have : l.drop n = List.replicate (l.length - n) 0 := by
  apply List.ext_getElem?
  intro i
  rw [List.getElem?_drop]
  rcases Nat.lt_or_ge i (l.length - n) with h1 | h1
  ·rw [h _ (by omega) (by omega), List.getElem?_replicate, if_pos h1]
  ·rw [List.getElem?_eq_none (by omega), List.getElem?_eq_none (by simp; omega)]
 rw [this, val_rep, Int.mul_zero, Int.add_zero]
theorem can_take {l : List Int} (hd : Dig l) {n : Nat} (hn : n ≤ l.length) (h : n = 0 ∨ ∃ d, l[n - 1]? = some d ∧ d ≠ 0) : Can (l.take n) := by
 refine ⟨hd.take n, fun d he => ?_⟩
 rcases h with rfl | ⟨e, h1, h2⟩
 ·simp at he
 ·have h0 : n ≠ 0 := by
   rintro rfl
   simp at he
  rw [List.getLast?_eq_getElem?, List.length_take, List.getElem?_take, if_pos (by omega), show min n l.length - 1 = n - 1 from by omega, h1] at he
  injection he with he
  omega
/-- A number's size in bits. -/
def Bd (k : Nat) (x : Int) : Prop := x.natAbs < 2 ^ k
theorem Bd.mono {j k : Nat} {x : Int} (h : Bd j x) (hk : j ≤ k) : Bd k x := Nat.lt_of_lt_of_le h (Nat.pow_le_pow_right (by omega) hk)
theorem Bd.neg {k : Nat} {x : Int} (h : Bd k x) : Bd k (-x) := by unfold Bd at *; omega
theorem Bd.add' {k : Nat} {x y : Int} (h : Bd k x) (g : Bd k y) : Bd (k + 1) (x + y) := by
 unfold Bd at *
 rw [Nat.pow_succ]
 omega
theorem Bd.mul {j k : Nat} {x y : Int} (h : Bd j x) (g : Bd k y) : Bd (j + k) (x * y) := by
 unfold Bd at *
 rw [Int.natAbs_mul, Nat.pow_add]
 rcases Nat.eq_zero_or_pos y.natAbs with h0 | h0
 ·rw [h0, Nat.mul_zero]
  exact Nat.mul_pos (Nat.two_pow_pos _) (Nat.two_pow_pos _)
 ·exact Nat.lt_of_lt_of_le (Nat.mul_lt_mul_of_pos_right h h0) (Nat.mul_le_mul_left _ (Nat.le_of_lt g))
theorem Bd.of_le {k : Nat} {x y : Int} (h : Bd k y) (g : x.natAbs ≤ y.natAbs) : Bd k x := Nat.lt_of_le_of_lt g h
theorem Bd.zero (k : Nat) : Bd k 0 := Nat.two_pow_pos k
theorem two_pw : ∀ k : Nat, (2 : Int) ^ k ≤ pw k
 | 0 => by simp [pw_zero]
 | k + 1 => by
  have := two_pw k
  have h2 : (0 : Int) < 2 ^ k := Int.pow_pos (by omega)
  rw [pw_succ, Int.pow_succ]
  omega
/-- So many bits, so many digits. -/
theorem Bd.len {k : Nat} {l : List Int} (hc : Can l) {x : Int} (h : Bd k x) (hv : val l = (x.natAbs : Int)) : l.length ≤ k := by
 by_cases h0 : l = []
 ·simp [h0]
 ·have h1 := hc.pos h0
  unfold Bd at h
  rcases Nat.lt_or_ge k l.length with h3 | h3
  ·have h4 := pw_mono (show k ≤ l.length - 1 by omega)
   have h5 := two_pw k
   have h6 : ((2 ^ k : Nat) : Int) = (2 : Int) ^ k := by simp
   omega
  ·exact h3
theorem take_snoc {a : List Int} {k : Nat} {d : Int} (h : a[k]? = some d) : a.take (k + 1) = a.take k ++ [d] := by
 have h1 := List.getElem?_eq_some_iff.1 h
 rw [List.take_succ_eq_append_getElem h1.1, h1.2]
theorem val_take_succ {a : List Int} {k : Nat} {d : Int} (h : a[k]? = some d) : val (a.take (k + 1)) = val (a.take k) + pw k * d := by
 have h1 := (List.getElem?_eq_some_iff.1 h).1
 rw [take_snoc h, val_snoc, List.length_take, Nat.min_eq_left (by omega)]
theorem val_take_over {a : List Int} {k : Nat} (h : a.length ≤ k) : val (a.take k) = val a := by rw [List.take_of_length_le h]
theorem drop_cons {a : List Int} {k : Nat} {d : Int} (h : a[k]? = some d) : a.drop k = d :: a.drop (k + 1) := by
 have h1 := List.getElem?_eq_some_iff.1 h
 rw [List.drop_eq_getElem_cons h1.1, h1.2]
theorem val_drop_succ {a : List Int} {k : Nat} {d : Int} (h : a[k]? = some d) : val (a.drop k) = d + 1000000000 * val (a.drop (k + 1)) := by rw [drop_cons h]; rfl
theorem val_split (a : List Int) {k : Nat} (h : k ≤ a.length) : val a = val (a.take k) + pw k * val (a.drop k) := by
 conv => lhs; rw [← List.take_append_drop k a, val_append, List.length_take, Nat.min_eq_left h]
/-- The digit at a place, 0 behind the last. -/
def dg (b : List Int) (k : Nat) : Int := b[k]?.getD 0
theorem val_take_dg (b : List Int) (k : Nat) : val (b.take (k + 1)) = val (b.take k) + pw k * dg b k := by
 unfold dg
 rcases Nat.lt_or_ge k b.length with h | h
 ·rw [val_take_succ (List.getElem?_eq_getElem h), List.getElem?_eq_getElem h]; rfl
 ·rw [val_take_over (by omega), val_take_over h, List.getElem?_eq_none h]; simp
theorem dg_some {b : List Int} {k : Nat} {e : Int} (h : b[k]? = some e) : dg b k = e := by unfold dg; rw [h]; rfl
theorem dg_none {b : List Int} {k : Nat} (h : b.length ≤ k) : dg b k = 0 := by unfold dg; rw [List.getElem?_eq_none h]; rfl
theorem dg_bd {b : List Int} (h : Dig b) (k : Nat) : 0 ≤ dg b k ∧ dg b k < 1000000000 := by
 unfold dg
 rcases Nat.lt_or_ge k b.length with hk | hk
 ·rw [List.getElem?_eq_getElem hk]; exact h.get (List.getElem?_eq_getElem hk)
 ·rw [List.getElem?_eq_none hk]; simp
/-- One step of an addition. -/
theorem plus_step {a b r : List Int} {k : Nat} {c v c' : Int} (hr : r.length = k) (h : val r + pw k * c = val (a.take k) + val (b.take k)) (hv : v + 1000000000 * c' = dg a k + dg b k + c) :
  val (r ++ [v]) + pw (k + 1) * c' = val (a.take (k + 1)) + val (b.take (k + 1)) := by
 rw [val_snoc, hr, pw_succ, val_take_dg a k, val_take_dg b k]
 grind
/-- One step of a subtraction. -/
theorem minus_step {a b r : List Int} {k : Nat} {c v c' : Int} (hr : r.length = k) (h : val r - pw k * c = val (a.take k) - val (b.take k)) (hv : v - 1000000000 * c' = dg a k - dg b k - c) :
  val (r ++ [v]) - pw (k + 1) * c' = val (a.take (k + 1)) - val (b.take (k + 1)) := by
 rw [val_snoc, hr, pw_succ, val_take_dg a k, val_take_dg b k]
 grind
/-- A subtraction of what is not more leaves no borrow. -/
theorem minus_last {a b r : List Int} {c : Int} (hr : r.length = a.length) (h : val r - pw a.length * c = val (a.take a.length) - val (b.take a.length)) (hb : b.length ≤ a.length) (hd : Dig r) (hle : val b ≤ val a) (h0 : 0 ≤ c) : c = 0 := by
 rw [val_take_over (Nat.le_refl _), val_take_over hb] at h
 have h1 := val_lt hd
 rw [hr] at h1
 have h2 := pw_pos a.length
 by_cases h3 : 1 ≤ c
 ·have h4 : pw a.length * 1 ≤ pw a.length * c := Int.mul_le_mul_of_nonneg_left h3 (by omega)
  omega
 ·omega
/-- One step of a product with a digit. -/
theorem scale_step {a r : List Int} {k : Nat} {c v c' m : Int} (hr : r.length = k) (h : val r + pw k * c = val (a.take k) * m) (hv : v + 1000000000 * c' = dg a k * m + c) :
  val (r ++ [v]) + pw (k + 1) * c' = val (a.take (k + 1)) * m := by
 rw [val_snoc, hr, pw_succ, val_take_dg a k]
 grind
/-- One step of a division by a digit, from the top. -/
theorem short_step {a q : List Int} {k : Nat} {d m rest q' rest' : Int} (hd : a[k]? = some d) (h : val (a.drop (k + 1)) = val q * m + rest) (hv : q' * m + rest' = rest * 1000000000 + d) :
  val (a.drop k) = val (q' :: q) * m + rest' := by
 rw [val_drop_succ hd]
 simp only [val]
 grind
theorem val_set : ∀ {l : List Int} {k : Nat} {y : Int} (x : Int), l[k]? = some y → val (l.set k x) = val l + pw k * (x - y)
 | [], k, y, x, h => by simp at h
 | d :: l, 0, y, x, h => by
  simp at h
  subst h
  simp only [List.set_cons_zero, val, pw_zero]
  omega
 | d :: l, k + 1, y, x, h => by
  simp only [List.getElem?_cons_succ] at h
  have := val_set x h
  simp only [List.set_cons_succ, val, this, pw_succ]
  grind
theorem Dig.set {l : List Int} (h : Dig l) {k : Nat} {x : Int} (h0 : 0 ≤ x) (h1 : x < 1000000000) : Dig (l.set k x) := fun e he => by
 rcases List.mem_or_eq_of_mem_set he with h2 | rfl
 ·exact h e h2
 ·exact ⟨h0, h1⟩
/-- One step of a product of two numbers. -/
theorem mul_step {b out : List Int} {i k : Nat} {A B0 c d e y v c' : Int} (hy : out[i + k]? = some y) (h : val out + c * pw (i + k) = A * B0 + d * val (b.take k) * pw i) (he : b[k]? = some e)
  (hv : v = y + d * e + c) : val (out.set (i + k) (v - c' * 1000000000)) + c' * pw (i + k + 1) = A * B0 + d * val (b.take (k + 1)) * pw i := by
 rw [val_set _ hy, val_take_succ he, pw_succ]
 have h1 := pw_add i k
 subst hv
 rw [h1] at h ⊢
 grind
theorem mul_last {a b out : List Int} {i : Nat} {c d : Int} (hy : out[i + b.length]? = some 0) (h : val out + c * pw (i + b.length) = val (a.take i) * val b + d * val b * pw i) (hd : a[i]? = some d) :
  val (out.set (i + b.length) c) = val (a.take (i + 1)) * val b := by
 rw [val_set _ hy, val_take_succ hd]
 grind
theorem drop_set {l : List Int} {k m : Nat} {x : Int} (h : k < m) : (l.set k x).drop m = l.drop m := by
 rw [List.drop_set, if_pos h]
theorem get_drop_rep {l : List Int} {m n : Nat} (h : l.drop m = List.replicate (n + 1) 0) : l[m]? = some 0 := by
 have := congrArg (fun l => l[0]?) h
 simpa using this
end Go.Proofs.YtjegnmlchioofaaGreatDoor.I
