/-
 MEMORY WORDS for integers: a slice of ints that reads as a list; an api.Int in its canonical form.
-/
import Derived.Test.YtgdibcgphjmofaaRows
import Derived.Test.YtgdibcgphjmofaaPlainI
import Derived.Test.YtgdibcgphjmofaaMem
import Derived.Laws.MakeOwn
namespace Go.Proofs.Ytgdibcgphjmofaa
open Go.RowKit
/-- Numbers as cells. -/
def il (l : List Int) : List Value := l.map (Value.int .i64)
@[simp] theorem il_length (l : List Int) : (il l).length = l.length := by simp [il]
theorem il_at (l : List Int) {k : Nat} {x : Int} (h : l[k]? = some x) : (il l)[k]? = some (.int .i64 x) := by simp [il, h]
theorem il_append (a b : List Int) : il (a ++ b) = il a ++ il b := by simp [il]
theorem il_take (l : List Int) (k : Nat) : (il l).take k = il (l.take k) := by simp [il]
theorem il_drop (l : List Int) (k : Nat) : (il l).drop k = il (l.drop k) := by simp [il]
theorem il_oneCell (l : List Int) : ∀ u ∈ il l, u.oneCell' = true := by
 intro u hu
 simp only [il, List.mem_map] at hu
 obtain ⟨b, _, rfl⟩ := hu
 rfl
/-- The rows of ints are kept. -/
def Kp (w w' : World) : Prop := w.heap.size ≤ w'.heap.size ∧ ∀ (b : Nat) (cs : Array Value) (fr : Nat × Nat), w.heap[b]? = some (.cells cs 3 fr) → w'.heap[b]? = some (.cells cs 3 fr)
section
variable {w w' w1 w2 : World} {v : Value} {l : List Int}
theorem Kp.refl (w : World) : Kp w w := ⟨Nat.le_refl _, fun _ _ _ h => h⟩
theorem Kp.trans (h : Kp w w1) (g : Kp w1 w2) : Kp w w2 := ⟨Nat.le_trans h.1 g.1, fun b cs fr e => g.2 b cs fr (h.2 b cs fr e)⟩
theorem Kp.of (h : Below w.heap.size w w') : Kp w w' := ⟨h.size, fun b _ _ e => (h.block b (Array.getElem?_eq_some_iff.1 e).1).trans e⟩
theorem Kp.drewN (h : Kp w w') (n : Nat) : Kp w (w'.drewN n) := h
theorem Kp.drew (h : Kp w w') : Kp w w'.drew := h
/-- A store into a block of another type. -/
theorem Kp.set_ (h : Kp w w') {g i T : Nat} {cs : Array Value} {fr : Nat × Nat} (hg : w'.heap[g]? = some (.cells cs T fr)) (hT : T ≠ 3) (u : Value) : Kp w (w'.setCell ⟨g, i, none⟩ u) := by
 refine ⟨by simpa [World.setCell] using h.1, fun b cs' fr' e => ?_⟩
 have h1 := h.2 b cs' fr' e
 have hne : b ≠ g := by
  rintro rfl
  rw [hg] at h1
  injection h1 with h1
  injection h1 with _ h2
  exact hT h2
 exact (Below.heap_setCell w' ⟨g, i, none⟩ u b hne).trans h1
/-- A slice of ints that reads as a list; it lies in a row of ints. -/
def Sl (w : World) (v : Value) (l : List Int) : Prop := ∃ A n c, v = .slice A n c ∧ n = l.length ∧ n ≤ c ∧ c ≤ maxLen ∧ Rd w w.heap.size A (il l) ∧
 (0 < l.length → ∃ b o cs fr, A = some ⟨b, o, none⟩ ∧ w.heap[b]? = some (.cells cs 3 fr))
theorem Sl.kp (h : Sl w v l) (k : Kp w w') : Sl w' v l := by
 obtain ⟨A, n, c, h1, h2, h3, h4, h5, h6⟩ := h
 refine ⟨A, n, c, h1, h2, h3, h4, fun hn => ?_, fun hn => ?_⟩
 ·obtain ⟨b, o, cs, fr, rfl, hb⟩ := h6 (by simpa using hn)
  obtain ⟨b', o', e, hb', hc⟩ := h5 hn
  injection e with e
  injection e with e1 e2
  subst e1; subst e2
  have hk := k.2 b cs fr hb
  refine ⟨b, o, rfl, Nat.lt_of_lt_of_le hb' k.1, fun j u hu => ?_⟩
  rw [← hc j u hu]
  exact World.cell?_of_block (a := ⟨b, o + j, none⟩) (hk.trans hb.symm)
 ·obtain ⟨b, o, cs, fr, h7, hb⟩ := h6 hn
  exact ⟨b, o, cs, fr, h7, k.2 b cs fr hb⟩
theorem Sl.below (h : Sl w v l) (hb : Below w.heap.size w w') : Sl w' v l := h.kp (.of hb)
theorem Sl.nil (w : World) : Sl w (.slice none 0 0) [] := ⟨none, 0, 0, rfl, rfl, Nat.le_refl _, by decide, Rd.nil _ _ _, fun h => by simp at h⟩
theorem Sl.alloc (h : Sl w v l) (o : Obj) : Sl (w.alloc o) v l := h.below ((Below.refl _ _).alloc (Nat.le_refl _) o)
/-- An integer in its canonical form. -/
def IntV (w : World) (a b : Value) (x : Int) : Prop := ∃ l, a = .bool (decide (x < 0)) ∧ Sl w b l ∧ I.Can l ∧ I.val l = (x.natAbs : Int)
theorem IntV.kp {a b : Value} {x : Int} (h : IntV w a b x) (k : Kp w w') : IntV w' a b x := by
 obtain ⟨l, h1, h2, h3⟩ := h
 exact ⟨l, h1, h2.kp k, h3⟩
theorem IntV.below {a b : Value} {x : Int} (h : IntV w a b x) (hb : Below w.heap.size w w') : IntV w' a b x := h.kp (.of hb)
theorem IntV.form {a b : Value} {x : Int} (h : IntV w a b x) : ∃ g A n c, a = .bool g ∧ b = .slice A n c := by
 obtain ⟨l, h1, ⟨A, n, c, h2, _⟩, _⟩ := h
 exact ⟨_, A, n, c, h1, h2⟩
theorem IntV.len {g : Bool} {A : Option Addr} {n c : Nat} {x : Int} (h : IntV w (.bool g) (.slice A n c) x) : g = decide (x < 0) ∧ (n = 0 ↔ x = 0) := by
 obtain ⟨l, h1, ⟨A', n', c', h2, h3, _⟩, h4, h5⟩ := h
 injection h1 with h1
 injection h2 with _ h2 _
 refine ⟨h1, ?_⟩
 subst h2; subst h3
 constructor
 ·intro h
  have := List.eq_nil_of_length_eq_zero h
  subst this
  simp [I.val] at h5
  omega
 ·intro h
  have := h4.zero (by rw [h5, h]; rfl)
  subst this
  rfl
theorem IntV.sl {a b : Value} {x : Int} (h : IntV w a b x) : ∃ l, Sl w b l ∧ I.Can l ∧ I.val l = (x.natAbs : Int) := by
 obtain ⟨l, _, h2, h3, h4⟩ := h
 exact ⟨l, h2, h3, h4⟩
/-- The same digits with another sign. -/
theorem IntV.sign {a b : Value} {x y : Int} (h : IntV w a b x) {g : Bool} (hg : g = decide (y < 0)) (hy : y.natAbs = x.natAbs) : IntV w (.bool g) b y := by
 obtain ⟨l, _, h2, h3, h4⟩ := h
 exact ⟨l, by rw [hg], h2, h3, by rw [h4, hy]⟩
theorem IntV.one0 {a b : Value} {x : Int} (h : IntV w a b x) : a.oneCell' = true := by
 obtain ⟨g, A, n, c, rfl, rfl⟩ := h.form
 rfl
theorem IntV.one1 {a b : Value} {x : Int} (h : IntV w a b x) : b.oneCell' = true := by
 obtain ⟨g, A, n, c, rfl, rfl⟩ := h.form
 rfl
theorem IntV.zero (w : World) : IntV w (.bool false) (.slice none 0 0) 0 := ⟨[], rfl, Sl.nil w, I.Can.nil, rfl⟩
end
/-- A number with a sign. -/
def sg (ng : Bool) (x : Int) : Int := if ng then -x else x
/-- Below, and below again. -/
theorem Blw {w w1 w2 : World} (h : Below w.heap.size w w1) (g : Below w1.heap.size w1 w2) : Below w.heap.size w w2 := h.trans (g.mono h.size)
/-- What returns an integer, and only makes memory. -/
def RI (x : Int) (w : World) (e : Ending) (w' : World) : Prop := ∃ a b, e = .returned (.agg #[a, b]) ∧ IntV w' a b x ∧ Below w.heap.size w w'
theorem IntV.ones {w : World} {a0 a1 : Value} {x : Int} (H : IntV w a0 a1 x) : a0.oneCell' = true ∧ a1.oneCell' = true := ⟨H.one0, H.one1⟩
end Go.Proofs.Ytgdibcgphjmofaa
