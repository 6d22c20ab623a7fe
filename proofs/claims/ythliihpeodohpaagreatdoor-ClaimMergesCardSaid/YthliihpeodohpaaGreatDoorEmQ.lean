/-
 PACKAGE integer by the second engine: long division, the rounds.
-/
import Derived.Test.YthliihpeodohpaaGreatDoorEmO
import Derived.Test.YthliihpeodohpaaGreatDoorPlainL
namespace Go.Proofs.YthliihpeodohpaaGreatDoor.E
open Go.RowKit
set_option linter.unusedVariables false
/-- Where the rounds stand: the row U, the scaled divisor V, the digits that were found, so many rounds left. -/
structure LA (a b : List Int) (s : Int) (V : List Int) (m gk : Nat) (U qs : List Int) : Prop where
 lu : U.length = a.length + 1
 du : I.Dig U
 dq : I.Dig qs
 lq : gk + qs.length + m + 1 = a.length
 e : I.val a * s = I.val U + I.val qs * I.pw gk * I.val V
 top : I.val (U.drop gk) < I.val V
theorem LA.next {a b V U qs L : List Int} {s : Int} {m j : Nat} {g : Int} (h : LA a b s V m (j + 1) U qs) (g0 : 0 ≤ g) (g1 : g < 1000000000) (dL : I.Dig L) (hl : L.length = U.length) (e : I.val L + g * I.val V * I.pw j = I.val U) (top : I.val (L.drop j) < I.val V) : LA a b s V m j L (g :: qs) := by
 refine ⟨by rw [hl, h.lu], dL, h.dq.cons_ g0 g1, by have := h.lq; simp only [List.length_cons]; omega, ?_, top⟩
 have h1 := h.e
 rw [I.pw_succ] at h1
 simp only [I.val]
 grind
/-- Where the taking away stands: k digits of the divisor, times g, are taken from the row U; c is borrowed. -/
structure SubA (V U : List Int) (j k : Nat) (g c : Int) (M : List Int) : Prop where
 lm : M.length = U.length
 dm : I.Dig M
 tk : M.take j = U.take j
 dp : M.drop (j + k) = U.drop (j + k)
 e : I.val M + g * I.val (V.take k) * I.pw j = I.val U + c * I.pw (j + k)
theorem SubA.start {V U : List Int} {j : Nat} {g : Int} (du : I.Dig U) : SubA V U j 0 g 0 U := ⟨rfl, du, rfl, rfl, by simp [I.val]⟩
theorem drop_more {M U : List Int} {j k : Nat} {x : Int} (h : M.drop (j + k) = U.drop (j + k)) : (M.set (j + k) x).drop (j + (k + 1)) = U.drop (j + (k + 1)) := by
 rw [I.drop_set (by omega)]
 have := congrArg (List.drop 1) h
 rwa [List.drop_drop, List.drop_drop] at this
theorem SubA.step {V U M : List Int} {j k : Nat} {g c e y x c' : Int} (h : SubA V U j k g c M) (hy : M[j + k]? = some y) (he : V[k]? = some e) (hx : x = y - g * e - c + c' * 1000000000) (x0 : 0 ≤ x) (x1 : x < 1000000000) : SubA V U j (k + 1) g c' (M.set (j + k) x) := by
 have hs := I.sub_step (c' := c') hy he h.e
 rw [← hx] at hs
 exact ⟨by rw [List.length_set]; exact h.lm, h.dm.set x0 x1, by rw [List.take_set_of_le (by omega)]; exact h.tk, drop_more h.dp, hs⟩
theorem SubA.top {V U M : List Int} {n j : Nat} {g c d1 : Int} (h : SubA V U j n g c M) (hd1 : U[j + n]? = some d1) : M[j + n]? = some d1 := by
 have := congrArg (fun l => l[0]?) h.dp
 simpa [hd1] using this
theorem SubA.fin {V U M : List Int} {m j : Nat} {g c d1 : Int} (h : SubA V U j (m + 2) g c M) (hLD : I.LD U V m j) (hd1 : U[j + (m + 2)]? = some d1) :
  (d1 - c < 0 ↔ I.val (U.drop j) < g * I.val V) ∧ (I.Gd (I.val (U.drop j)) (I.val V) g → ¬ d1 - c < 0 → I.Dig (M.set (j + (m + 2)) (d1 - c)) ∧ (M.set (j + (m + 2)) (d1 - c)).length = U.length ∧ I.val (M.set (j + (m + 2)) (d1 - c)) + g * I.val V * I.pw j = I.val U ∧ I.val ((M.set (j + (m + 2)) (d1 - c)).drop j) < I.val V) := by
 have he := h.e
 rw [List.take_of_length_le (by rw [hLD.hn]; exact Nat.le_refl _)] at he
 have h1 := hLD.neg h.dm h.lm h.tk h.dp hd1 he
 refine ⟨h1, fun hG hneg => ?_⟩
 have h2 := hLD.next h.dm h.lm h.tk h.dp hd1 he (by
  by_cases hc : g * I.val V ≤ I.val (U.drop j)
  · exact hc
  · exact absurd (h1.2 (by omega)) hneg) hG.x
 exact h2.2
/-- Where the adding back stands: k digits of the divisor are added; the digit on top is kept apart. -/
structure BackA (V M0 : List Int) (j k : Nat) (c : Int) (M : List Int) : Prop where
 lm : M.length = M0.length
 dm : I.Dig M
 tk : M.take j = M0.take j
 dp : M.drop (j + k) = M0.drop (j + k)
 e : I.val M + c * I.pw (j + k) = I.val M0 + I.val (V.take k) * I.pw j
theorem BackA.start {V M : List Int} {j : Nat} (dm : I.Dig M) : BackA V M j 0 0 M := ⟨rfl, dm, rfl, rfl, by simp [I.val]⟩
theorem BackA.step {V M0 M : List Int} {j k : Nat} {c e y : Int} (h : BackA V M0 j k c M) (hy : M[j + k]? = some y) (he : V[k]? = some e) : BackA V M0 j (k + 1) ((y + e + c) / 1000000000) (M.set (j + k) ((y + e + c) % 1000000000)) :=
 ⟨by rw [List.length_set]; exact h.lm, h.dm.set (by omega) (by omega), by rw [List.take_set_of_le (by omega)]; exact h.tk, drop_more h.dp, I.back_step hy he h.e⟩
theorem BackA.fin {V U M M2 : List Int} {m j : Nat} {g c c2 d1 : Int} (h : SubA V U j (m + 2) g c M) (h2 : BackA V M j (m + 2) c2 M2) (hLD : I.LD U V m j) (hd1 : U[j + (m + 2)]? = some d1) (hG : I.Gd (I.val (U.drop j)) (I.val V) g) (hneg : d1 - c < 0) :
  0 ≤ g - 1 ∧ I.Dig (M2.set (j + (m + 2)) (d1 - c + c2)) ∧ (M2.set (j + (m + 2)) (d1 - c + c2)).length = U.length ∧ I.val (M2.set (j + (m + 2)) (d1 - c + c2)) + (g - 1) * I.val V * I.pw j = I.val U ∧ I.val ((M2.set (j + (m + 2)) (d1 - c + c2)).drop j) < I.val V := by
 have h1 := (h.fin hLD hd1).1.1 hneg
 have he := h.e
 have he2 := h2.e
 rw [List.take_of_length_le (by rw [hLD.hn]; exact Nat.le_refl _)] at he he2
 have hx0 := I.val_nonneg (hLD.dU.drop j)
 have hg : 0 ≤ g - 1 := by
  have := hG.g0
  by_cases h0 : g = 0
  · subst h0; omega
  · omega
 have hGv := hG.v
 have h3 := hLD.next (M := M2) (g := g - 1) (c := c - c2) h2.dm (h2.lm.trans h.lm) (h2.tk.trans h.tk) (h2.dp.trans h.dp) hd1 (by rw [show j + m + 2 = j + (m + 2) from rfl]; generalize I.pw (j + (m + 2)) = P at *; generalize I.pw j = p at *; generalize I.val V = v at *; grind) (by rw [Int.sub_mul]; omega) (by rw [Int.sub_add_cancel]; exact h1)
 rw [show d1 - (c - c2) = d1 - c + c2 from by omega] at h3
 exact ⟨hg, h3.2⟩
/-- What long returns. -/
def LongQ (a b : List Int) (x : List Int × List Int) : Prop := I.Dig x.1 ∧ I.Dig x.2 ∧ I.val a = I.val x.1 * I.val b + I.val x.2 ∧ I.val x.2 < I.val b ∧ x.1.length ≤ a.length ∧ x.2.length ≤ a.length
noncomputable abbrev flong : Func := fnOf PP 148
def LG (a b : List Int) (td : List Item) (σ : St) : Prop := ∃ x, LongQ a b x ∧ Gd PP 148 (.tu [.sl (zs x.1), .sl (zs x.2)]) td σ
/-- Between the rounds; at the guess; at the taking away; at the adding back. -/
noncomputable def lgX (sn m : Nat) (V : List Int) (gk : Int) (U q : List Int) : St := at_ flong [(6, ni ((sn + 1 : Nat) : Int)), (7, .ow 0), (8, zl V), (9, ni ((m + 2 : Nat) : Int)), (10, .ow 1), (11, ni gk)] [.rw 3 1 (zs U), .rw 3 1 (zs q)]
noncomputable def lgY (sn m : Nat) (V : List Int) (j : Int) (U q : List Int) (g r : Int) : St := at_ flong [(6, ni ((sn + 1 : Nat) : Int)), (7, .ow 0), (8, zl V), (9, ni ((m + 2 : Nat) : Int)), (10, .ow 1), (11, ni j), (13, ni g), (14, ni r)] [.rw 3 1 (zs U), .rw 3 1 (zs q)]
noncomputable def lgZ (sn m : Nat) (V : List Int) (j : Int) (M q : List Int) (g c : Int) (k : Nat) : St := at_ flong [(6, ni ((sn + 1 : Nat) : Int)), (7, .ow 0), (8, zl V), (9, ni ((m + 2 : Nat) : Int)), (10, .ow 1), (11, ni j), (13, ni g), (15, ni c), (117, ni ((m + 2 : Nat) : Int)), (118, ni k)] [.rw 3 1 (zs M), .rw 3 1 (zs q)]
noncomputable def lgW (sn m : Nat) (V : List Int) (j : Int) (M q : List Int) (g c : Int) (k : Nat) : St := at_ flong [(6, ni ((sn + 1 : Nat) : Int)), (7, .ow 0), (8, zl V), (9, ni ((m + 2 : Nat) : Int)), (10, .ow 1), (11, ni j), (13, ni g), (15, ni c), (172, ni ((m + 2 : Nat) : Int)), (173, ni k)] [.rw 3 1 (zs M), .rw 3 1 (zs q)]
section
variable {a b V U q : List Int} {sn m j : Nat}
/-- The adding back. -/
theorem long_back {M0 : List Int} {g t : Int} (dV : I.Dig V) (hV : V.length = m + 2) (hj : j + (m + 2) < M0.length) (hjj : j + (m + 2) ≤ 1000000000000) (hq : q[j]? = some 0) (hg : 0 ≤ g ∧ g < 1000000000) (ht : -1000000000 ≤ t ∧ t < 1000000000)
  (hD : ∀ M c, BackA V M0 j (m + 2) c M → 0 ≤ c → c ≤ 1 → LG a b (lp flong 0) (lgX sn m V ((j : Int) - 1) (M.set (j + (m + 2)) (t + c)) (q.set j g))) :
  ∀ z : Nat × List Int × Int, (z.1 ≤ m + 2 ∧ 0 ≤ z.2.2 ∧ z.2.2 ≤ 1 ∧ BackA V M0 j z.1 z.2.2 z.2.1) → LG a b (lp flong 3) (lgW sn m V j (z.2.1.set (j + (m + 2)) t) q g z.2.2 z.1) := by
 refine Gd.loopE (fun z : Nat × List Int × Int => lgW sn m V j (z.2.1.set (j + (m + 2)) t) q g z.2.2 z.1) _ (fun z => m + 2 - z.1) ?_
 rintro ⟨k, M, c⟩ ⟨hk, hc0, hc1, hB⟩ ih
 simp only at hk hc0 hc1 hB ih ⊢
 have hlm := hB.lm
 by_cases h : k < m + 2
 · have ev := num_el (l := V) (i := k) (by omega)
   generalize V.getD k 0 = e at ev
   obtain ⟨e0, e1⟩ := dV.get ev
   have em := num_el (l := M) (i := j + k) (by omega)
   generalize M.getD (j + k) 0 = y at em
   obtain ⟨y0, y1⟩ := hB.dm.get em
   have em2 : (M.set (j + (m + 2)) t)[j + k]? = some y := by rw [List.getElem?_set_ne (by omega)]; exact em
   have es : (zs (M.set (j + (m + 2)) t)).set (j + k) [ni ((y + e + c) % 1000000000)] = zs ((M.set (j + k) ((y + e + c) % 1000000000)).set (j + (m + 2)) t) := by
    rw [zs_set, List.set_comm _ _ (by omega)]
   have g1 := td_ (show 0 ≤ y + e + c by omega) 1000000000
   have g2 := tm_ (show 0 ≤ y + e + c by omega) 1000000000
   obtain ⟨x, h1, hg'⟩ := ih (k + 1, M.set (j + k) ((y + e + c) % 1000000000), (y + e + c) / 1000000000) ⟨by simp only; omega, by simp only; omega, by simp only; omega, hB.step em ev⟩ (by simp only; omega)
   exact ⟨x, h1, .to mo_ [] [6, 7, 8, 9, 10, 11, 13, 15, 172, 173] [0, 1] 2 [ye (t := decide ((k : Int) < ((m + 2 : Nat) : Int))) (decide_eq_true (by omega)), wq 179 ((k : Int) + (j : Int)) ((j + k : Nat) : Int) (by omega), .sel _ _ _ (zs_at em2), .sel _ _ _ (zs_at em2), .sel _ _ _ (zs_at ev), wq 186 (y + e) (y + e) (by omega), wq 188 (y + e + c) (y + e + c) (by omega),
     wq 192 ((k : Int) + (j : Int)) ((j + k : Nat) : Int) (by omega), .eqv 194 (ni ((y + e + c).tmod 1000000000)) (ni ((y + e + c) % 1000000000)) (ni_eq g2), wq 196 ((y + e + c).tdiv 1000000000) ((y + e + c) / 1000000000) (by omega), .sel _ _ _ (zs_at em2), .upd _ _ _ _ _ (zs_at em2) es, inc 198 k (by omega)] hg' (by kernel_rfl)⟩
 · obtain rfl : k = m + 2 := by omega
   obtain ⟨x, h1, hg'⟩ := hD M c hB hc0 hc1
   have em2 : (M.set (j + (m + 2)) t)[j + (m + 2)]? = some t := by rw [List.getElem?_set_self (by omega)]
   have es : (zs (M.set (j + (m + 2)) t)).set (j + (m + 2)) [ni (t + c)] = zs (M.set (j + (m + 2)) (t + c)) := by rw [zs_set, List.set_set]
   exact ⟨x, h1, .to mo_ [] [6, 7, 8, 9, 10, 11] [0, 1] 2 [na (t := decide (((m + 2 : Nat) : Int) < ((m + 2 : Nat) : Int))) (decide_eq_false (by omega)), wq 202 ((j : Int) + ((m + 2 : Nat) : Int)) ((j + (m + 2) : Nat) : Int) (by omega), .sel _ _ _ (zs_at em2), .sel _ _ _ (zs_at em2), wq 206 (t + c) (t + c) (by omega), .sel _ _ _ (zs_at em2), .upd _ _ _ _ _ (zs_at em2) es,
     .sel _ _ _ (zs_at hq), .upd _ _ _ _ _ (zs_at hq) (zs_set q j g), wq 54 ((j : Int) - 1) ((j : Int) - 1) (by omega)] hg' (by kernel_rfl)⟩
/-- The taking away. -/
theorem long_take {b : List Int} {g d1 : Int} {j : Nat} {s : Int} {qs : List Int} (dV : I.Dig V) (h : LA a b s V m (j + 1) U qs) (hLD : I.LD U V m j) (hl : a.length ≤ 1000000000000) (hd1 : U[j + (m + 2)]? = some d1) (hG : I.Gd (I.val (U.drop j)) (I.val V) g)
  (hq : q[j]? = some 0) (hD : ∀ M g, LA a b s V m j M (g :: qs) → 0 ≤ g → g < 1000000000 → LG a b (lp flong 0) (lgX sn m V ((j : Int) - 1) M (q.set j g))) :
  ∀ z : Nat × List Int × Int, (z.1 ≤ m + 2 ∧ 0 ≤ z.2.2 ∧ z.2.2 < 1000000000 ∧ SubA V U j z.1 g z.2.2 z.2.1) → LG a b (lp flong 2) (lgZ sn m V j z.2.1 q g z.2.2 z.1) := by
 have hlu := h.lu
 have hlq := h.lq
 have hV := hLD.hn
 have g0 := hG.g0
 have g1 := hG.g1
 refine Gd.loopE (fun z : Nat × List Int × Int => lgZ sn m V j z.2.1 q g z.2.2 z.1) _ (fun z => m + 2 - z.1) ?_
 rintro ⟨k, M, c⟩ ⟨hk, hc0, hc1, hS⟩ ih
 simp only at hk hc0 hc1 hS ih ⊢
 have hlm := hS.lm
 by_cases h : k < m + 2
 · have ev := num_el (l := V) (i := k) (by omega)
   generalize V.getD k 0 = e at ev
   obtain ⟨e0, e1⟩ := dV.get ev
   have em := num_el (l := M) (i := j + k) (by omega)
   generalize M.getD (j + k) 0 = y at em
   obtain ⟨y0, y1⟩ := hS.dm.get em
   have p0 : 0 ≤ g * e := Int.mul_nonneg g0 e0
   have p1 : g * e ≤ 999999999 * 999999999 := Int.mul_le_mul (by omega) (by omega) e0 (by omega)
   generalize hp : g * e = p at p0 p1
   let F0 : List F_ := [ye (t := decide ((k : Int) < ((m + 2 : Nat) : Int))) (decide_eq_true (by omega)), wq 124 ((k : Int) + (j : Int)) ((j + k : Nat) : Int) (by omega), .sel _ _ _ (zs_at em), .sel _ _ _ (zs_at em), .sel _ _ _ (zs_at ev), wq 132 (g * e) p (by omega), wq 133 (y - p) (y - p) (by omega), wq 135 (y - p - c) (y - p - c) (by omega)]
   let F1 : Int → List F_ := fun x => [wq 150 ((k : Int) + (j : Int)) ((j + k : Nat) : Int) (by omega), .sel _ _ _ (zs_at em), .upd _ _ _ [ni x] _ (zs_at em) (zs_set M (j + k) x), inc 153 k (by omega)]
   by_cases hx : y - p - c < 0
   · have n0 : 0 ≤ -(y - p - c) + 1000000000 - 1 := by omega
     have g1 := td_ n0 1000000000
     obtain ⟨x, h1, hg'⟩ := ih (k + 1, M.set (j + k) (y - p - c + (-(y - p - c) + 1000000000 - 1) / 1000000000 * 1000000000), (-(y - p - c) + 1000000000 - 1) / 1000000000) ⟨by simp only; omega, by simp only; omega, by simp only; omega, hS.step (x := y - p - c + (-(y - p - c) + 1000000000 - 1) / 1000000000 * 1000000000) (c' := (-(y - p - c) + 1000000000 - 1) / 1000000000) em ev (by rw [hp]) (by omega) (by omega)⟩ (by simp only; omega)
     exact ⟨x, h1, .to mo_ [] [6, 7, 8, 9, 10, 11, 13, 15, 117, 118] [0, 1] 2 (F0 ++ [ye (decide_eq_true hx), wq 139 (0 - (y - p - c)) (-(y - p - c)) (by omega), wq 140 (-(y - p - c) + 1000000000) (-(y - p - c) + 1000000000) (by omega), wq 141 (-(y - p - c) + 1000000000 - 1) (-(y - p - c) + 1000000000 - 1) (by omega),
       wq 142 ((-(y - p - c) + 1000000000 - 1).tdiv 1000000000) ((-(y - p - c) + 1000000000 - 1) / 1000000000) (by omega), wq 145 ((-(y - p - c) + 1000000000 - 1) / 1000000000 * 1000000000) ((-(y - p - c) + 1000000000 - 1) / 1000000000 * 1000000000) (by omega), wq 146 (y - p - c + (-(y - p - c) + 1000000000 - 1) / 1000000000 * 1000000000) (y - p - c + (-(y - p - c) + 1000000000 - 1) / 1000000000 * 1000000000) (by omega)] ++ F1 (y - p - c + (-(y - p - c) + 1000000000 - 1) / 1000000000 * 1000000000)) hg' (by kernel_rfl)⟩
   · obtain ⟨x, h1, hg'⟩ := ih (k + 1, M.set (j + k) (y - p - c), 0) ⟨by simp only; omega, by simp only; omega, by simp only; omega, hS.step (x := y - p - c) (c' := 0) em ev (by rw [hp]; omega) (by omega) (by omega)⟩ (by simp only; omega)
     exact ⟨x, h1, .to mo_ [] [6, 7, 8, 9, 10, 11, 13, 15, 117, 118] [0, 1] 2 (F0 ++ [na (decide_eq_false hx)] ++ F1 (y - p - c)) hg' (by kernel_rfl)⟩
 · obtain rfl : k = m + 2 := by omega
   have ht := hS.top hd1
   obtain ⟨hn1, hn2⟩ := hS.fin hLD hd1
   obtain ⟨q10, q11⟩ := hLD.dU.get hd1
   have em2 : (M.set (j + (m + 2)) (d1 - c))[j + (m + 2)]? = some (d1 - c) := by rw [List.getElem?_set_self (by omega)]
   let F0 : List F_ := [na (t := decide (((m + 2 : Nat) : Int) < ((m + 2 : Nat) : Int))) (decide_eq_false (by omega)), wq 157 ((j : Int) + ((m + 2 : Nat) : Int)) ((j + (m + 2) : Nat) : Int) (by omega), .sel _ _ _ (zs_at ht), .sel _ _ _ (zs_at ht), wq 161 (d1 - c) (d1 - c) (by omega), .sel _ _ _ (zs_at ht), .upd _ _ _ [ni (d1 - c)] _ (zs_at ht) (zs_set M (j + (m + 2)) (d1 - c)),
     wq 166 ((j : Int) + ((m + 2 : Nat) : Int)) ((j + (m + 2) : Nat) : Int) (by omega), .sel _ _ _ (zs_at em2), .sel _ _ _ (zs_at em2)]
   by_cases hneg : d1 - c < 0
   · have hgp : 1 ≤ g := by
      by_cases h0 : g = 0
      · have := hn1.1 hneg
        rw [h0] at this
        have := I.val_nonneg (hLD.dU.drop j)
        omega
      · omega
     obtain ⟨x, h1, hg'⟩ := long_back (a := a) (b := b) (sn := sn) (M0 := M) (g := g - 1) (t := d1 - c) (V := V) (q := q) dV hV (by omega) (by omega) hq (by omega) (by omega)
      (fun M2 c2 hB k0 k1 => by
       obtain ⟨k2, k3, k4, k5, k6⟩ := BackA.fin hS hB hLD hd1 hG hneg
       exact hD _ _ (‹LA a b s V m (j + 1) U qs›.next k2 (by omega) k3 k4 k5 k6) k2 (by omega)) (0, M, 0) ⟨Nat.zero_le _, Int.le_refl _, by simp, .start hS.dm⟩
     exact ⟨x, h1, .to mo_ [] [6, 7, 8, 9, 10, 11, 13, 15, 172, 173] [0, 1] 2 (F0 ++ [ye (decide_eq_true hneg), wq 171 (g - 1) (g - 1) (by omega)]) hg' (by kernel_rfl)⟩
   · obtain ⟨k3, k4, k5, k6⟩ := hn2 hG hneg
     obtain ⟨x, h1, hg'⟩ := hD _ _ (‹LA a b s V m (j + 1) U qs›.next g0 g1 k3 k4 k5 k6) g0 g1
     exact ⟨x, h1, .to mo_ [] [6, 7, 8, 9, 10, 11] [0, 1] 2 (F0 ++ [na (decide_eq_false hneg), .sel _ _ _ (zs_at hq), .upd _ _ _ _ _ (zs_at hq) (zs_set q j g), wq 54 ((j : Int) - 1) ((j : Int) - 1) (by omega)]) hg' (by kernel_rfl)⟩
end
end Go.Proofs.YthliihpeodohpaaGreatDoor.E
namespace Go.Proofs.YthliihpeodohpaaGreatDoor.E
open Go.RowKit
set_option linter.unusedVariables false
section
variable {a b V U q : List Int} {sn m j : Nat}
/-- The guess. -/
theorem long_guess {s : Int} {qs : List Int} {d1 d2 d3 v1 v2 : Int} (dV : I.Dig V) (h : LA a b s V m (j + 1) U qs) (hLD : I.LD U V m j) (hl : a.length ≤ 1000000000000)
  (hd1 : U[j + (m + 2)]? = some d1) (hd2 : U[j + (m + 1)]? = some d2) (hd3 : U[j + m]? = some d3) (hv1 : V[m + 1]? = some v1) (hv2 : V[m]? = some v2) (hR : I.Rd (I.val (U.drop j)) (I.val V) (I.pw m) d1 d2 d3 v1 v2)
  (hq : q[j]? = some 0) (hD : ∀ M g, LA a b s V m j M (g :: qs) → 0 ≤ g → g < 1000000000 → LG a b (lp flong 0) (lgX sn m V ((j : Int) - 1) M (q.set j g))) :
  ∀ z : Int × Int, (z.2 < 1000000000 ∧ I.Gs (I.val (U.drop j)) (I.val V) d1 d2 v1 z.1 z.2) → LG a b (lp flong 1) (lgY sn m V j U q z.1 z.2) := by
 have hlu := h.lu
 have hlq := h.lq
 obtain ⟨q10, q11⟩ := hLD.dU.get hd1
 obtain ⟨q20, q21⟩ := hLD.dU.get hd2
 obtain ⟨q30, q31⟩ := hLD.dU.get hd3
 obtain ⟨w10, w11⟩ := dV.get hv1
 obtain ⟨w20, w21⟩ := dV.get hv2
 have out : ∀ g, I.Gd (I.val (U.drop j)) (I.val V) g → LG a b (lp flong 2) (lgZ sn m V j U q g 0 0) := fun g hG =>
  long_take dV h hLD hl hd1 hG hq hD (0, U, 0) ⟨Nat.zero_le _, Int.le_refl _, by simp, .start hLD.dU⟩
 refine Gd.loopE (fun z : Int × Int => lgY sn m V j U q z.1 z.2) _ (fun z => z.1.toNat) ?_
 rintro ⟨g, r⟩ ⟨hr, hG⟩ ih
 simp only at hr hG ih ⊢
 have hg0 := hG.g0
 have hg1 := hG.g1
 have hr0 := hG.r0
 have p0 : 0 ≤ g * v2 := Int.mul_nonneg hg0 w20
 have p1 : g * v2 ≤ 2000000000 * 999999999 := Int.mul_le_mul hg1 (by omega) w20 (by omega)
 let FL : List F_ := [wq 107 (g - 1) (g - 1) (by omega), wq 111 (((m + 2 : Nat) : Int) - 1) ((m + 1 : Nat) : Int) (by omega), .sel _ _ _ (zs_at hv1), wq 114 (r + v1) (r + v1) (by omega)]
 by_cases hA : g ≥ 1000000000
 · have hless := hR.less hG q21 q30 hr (.inl hA)
   let F0 : List F_ := [ye (decide_eq_true hA), yt]
   by_cases hC : r + v1 ≥ 1000000000
   · obtain ⟨x, h1, hg'⟩ := out _ (hR.done hless.1 w21 q30 (hless.2 hC) (.inl hC))
     exact ⟨x, h1, .to mo_ [] [6, 7, 8, 9, 10, 11, 13, 15, 117, 118] [0, 1] 2 (F0 ++ FL ++ [ye (decide_eq_true hC)]) hg' (by kernel_rfl)⟩
   · obtain ⟨x, h1, hg'⟩ := ih (g - 1, r + v1) ⟨by simp only; omega, hless.1⟩ (by simp only; omega)
     exact ⟨x, h1, .to mo_ [] [6, 7, 8, 9, 10, 11, 13, 14] [0, 1] 2 (F0 ++ FL ++ [na (decide_eq_false hC)]) hg' (by kernel_rfl)⟩
 · let F0 : List F_ := [na (decide_eq_false hA), wq 90 (((m + 2 : Nat) : Int) - 2) m (by omega), .sel _ _ _ (zs_at hv2), wq 93 (g * v2) (g * v2) (by omega), wq 95 (r * 1000000000) (r * 1000000000) (by omega), wq 99 ((j : Int) + ((m + 2 : Nat) : Int)) ((j + (m + 2) : Nat) : Int) (by omega), wq 100 (((j + (m + 2) : Nat) : Int) - 2) ((j + m : Nat) : Int) (by omega), .sel _ _ _ (zs_at hd3), .sel _ _ _ (zs_at hd3), wq 103 (r * 1000000000 + d3) (r * 1000000000 + d3) (by omega)]
   by_cases hB : g * v2 > r * 1000000000 + d3
   · have hless := hR.less hG q21 q30 hr (.inr hB)
     have hg9 : 1 ≤ g := by
      by_cases h0 : g = 0
      · rw [h0] at hB; omega
      · omega
     by_cases hC : r + v1 ≥ 1000000000
     · obtain ⟨x, h1, hg'⟩ := out _ (hR.done hless.1 w21 q30 (hless.2 hC) (.inl hC))
       exact ⟨x, h1, .to mo_ [] [6, 7, 8, 9, 10, 11, 13, 15, 117, 118] [0, 1] 2 (F0 ++ [ye (decide_eq_true hB)] ++ FL ++ [ye (decide_eq_true hC)]) hg' (by kernel_rfl)⟩
     · obtain ⟨x, h1, hg'⟩ := ih (g - 1, r + v1) ⟨by simp only; omega, hless.1⟩ (by simp only; omega)
       exact ⟨x, h1, .to mo_ [] [6, 7, 8, 9, 10, 11, 13, 14] [0, 1] 2 (F0 ++ [ye (decide_eq_true hB)] ++ FL ++ [na (decide_eq_false hC)]) hg' (by kernel_rfl)⟩
   · obtain ⟨x, h1, hg'⟩ := out _ (hR.done hG w21 q30 (by omega) (.inr (by omega)))
     exact ⟨x, h1, .to mo_ [] [6, 7, 8, 9, 10, 11, 13, 15, 117, 118] [0, 1] 2 (F0 ++ [na (decide_eq_false hB)]) hg' (by kernel_rfl)⟩
theorem rep_at (j : Nat) (qs : List Int) : (List.replicate (j + 1) 0 ++ qs)[j]? = some 0 := by
 rw [List.getElem?_append_left (by simp), List.getElem?_replicate]; simp
theorem rep_put (j : Nat) (qs : List Int) (g : Int) : (List.replicate (j + 1) 0 ++ qs).set j g = List.replicate j 0 ++ g :: qs := by
 rw [List.replicate_succ', List.append_assoc, List.set_append_right _ _ (by simp)]; simp
/-- The rounds. -/
theorem long_rounds {s : Int} (hs : s = ((sn + 1 : Nat) : Int)) (hs2 : s < 1000000000) (dV : I.Dig V) (hV : V.length = m + 2) (hp : I.pw (m + 1) ≤ I.val V) (hVv : I.val V = I.val b * s) (hl : a.length ≤ 1000000000000) (hab : m + 2 ≤ a.length) :
  ∀ z : Nat × List Int × List Int, (z.1 + m + 1 ≤ a.length ∧ LA a b s V m z.1 z.2.1 z.2.2) → LG a b (lp flong 0) (lgX sn m V ((z.1 : Int) - 1) z.2.1 (List.replicate z.1 0 ++ z.2.2)) := by
 refine Gd.loopE (fun z : Nat × List Int × List Int => lgX sn m V ((z.1 : Int) - 1) z.2.1 (List.replicate z.1 0 ++ z.2.2)) _ (fun z => z.1) ?_
 rintro ⟨gk, U, qs⟩ ⟨hgk, h⟩ ih
 simp only at hgk h ih ⊢
 have hlu := h.lu
 have hlq := h.lq
 have hVlt := I.val_lt dV
 rw [hV] at hVlt
 cases gk with
 | zero =>
   have htop := h.top
   rw [List.drop_zero] at htop
   have hlow := I.take_lowN h.du (n := m + 2) (by omega) (by omega)
   have hlt : (U.take (m + 2)).length = m + 2 := by rw [List.length_take]; omega
   obtain ⟨r, ⟨dr, lr, vr⟩, hsh⟩ := e_short sn hs (h.du.take (m + 2)) (by rw [hlt]; omega) hs2
   have hr0 := Int.emod_nonneg (I.val (U.take (m + 2))) (show s ≠ 0 by omega)
   have hr1 := Int.emod_lt_of_pos (I.val (U.take (m + 2))) (show 0 < s by omega)
   have he := h.e
   rw [I.pw_zero, Int.mul_one] at he
   have hfin := I.last_rest (by omega) hVv he htop (by rw [← hlow]; exact vr) hr0 hr1
   refine ⟨(qs, r), ⟨h.dq, dr, hfin.2.1, hfin.2.2, by simp only; omega, by simp only; rw [lr, hlt]; omega⟩, ?_⟩
   generalize I.val (U.take (m + 2)) % s = e at *
   subst hs
   refine .to mo_ [.fz 7] [6, 7, 9, 10] [1] 2 [na (t := decide ((((0 : Nat) : Int) - 1) ≥ 0)) rfl] (td' := rg flong 37) (σ' := at_ flong [(6, ni ((sn + 1 : Nat) : Int)), (7, zl U), (9, ni ((m + 2 : Nat) : Int)), (10, .ow 1)] [.dead, .rw 3 1 (zs qs)]) ?_ (by kernel_rfl)
   exact fi [.slc (zs U) 0 (m + 2) 1 (zs (U.take (m + 2))) (by rw [List.drop_zero, zs_take]) (by rw [zs_len]; omega) (zs_z U), cl hsh] (by kernel_rfl) (by kernel_rfl)
 | succ j =>
   have hLD : I.LD U V m j := ⟨h.du, dV, hV, by omega, hp, h.top⟩
   obtain ⟨d1, d2, d3, v1, v2, hd1, hd2, hd3, hv1, hv2, hRd⟩ := hLD.digits
   obtain ⟨q10, q11⟩ := hLD.dU.get hd1
   obtain ⟨q20, q21⟩ := hLD.dU.get hd2
   obtain ⟨q30, q31⟩ := hLD.dU.get hd3
   obtain ⟨w10, w11⟩ := dV.get hv1
   obtain ⟨w20, w21⟩ := dV.get hv2
   have hv1p := hRd.v1p
   have hst := hRd.start q10 q11 q20 q21 q31 w20
   have n0 : 0 ≤ d1 * 1000000000 + d2 := by omega
   have t1 := td_ n0 v1
   have t2 := tm_ n0 v1
   have b0 := hst.1.g0
   have b1 := hst.1.g1
   have hnext : ∀ M g, LA a b s V m j M (g :: qs) → 0 ≤ g → g < 1000000000 → LG a b (lp flong 0) (lgX sn m V ((j : Int) - 1) M ((List.replicate (j + 1) 0 ++ qs).set j g)) := fun M g hM _ _ => by
    rw [rep_put]
    exact ih (j, M, g :: qs) ⟨by simp only; omega, hM⟩ (by simp only; omega)
   obtain ⟨x, h1, hg'⟩ := long_guess (sn := sn) dV h hLD hl hd1 hd2 hd3 hv1 hv2 hRd (rep_at j qs) hnext ((d1 * 1000000000 + d2) / v1, (d1 * 1000000000 + d2) % v1) ⟨by simp only; omega, hst.1⟩
   refine ⟨x, h1, ?_⟩
   rw [show ((j + 1 : Nat) : Int) - 1 = (j : Int) by omega]
   generalize (d1 * 1000000000 + d2) / v1 = gg at *
   generalize (d1 * 1000000000 + d2) % v1 = rr at *
   obtain ⟨w, rfl⟩ : ∃ w : Nat, v1 = ((w + 1 : Nat) : Int) := ⟨(v1 - 1).toNat, by omega⟩
   exact .to mo_ [] [6, 7, 8, 9, 10, 11, 13, 14] [0, 1] 2 [ye (t := decide ((j : Int) ≥ 0)) (by simp), wq 58 ((j : Int) + ((m + 2 : Nat) : Int)) ((j + m + 2 : Nat) : Int) (by omega), .sel _ _ _ (zs_at hd1), .sel _ _ _ (zs_at hd1), wq 61 (d1 * 1000000000) (d1 * 1000000000) (by omega), wq 65 ((j : Int) + ((m + 2 : Nat) : Int)) ((j + m + 2 : Nat) : Int) (by omega), wq 66 (((j + m + 2 : Nat) : Int) - 1) ((j + m + 1 : Nat) : Int) (by omega), .sel _ _ _ (zs_at hd2), .sel _ _ _ (zs_at hd2), wq 69 (d1 * 1000000000 + d2) (d1 * 1000000000 + d2) (by omega),
    wq 73 (((m + 2 : Nat) : Int) - 1) ((m + 1 : Nat) : Int) (by omega), .sel _ _ _ (zs_at hv1), wq 76 ((d1 * 1000000000 + d2).tdiv ((w + 1 : Nat) : Int)) gg (by omega), wq 80 (((m + 2 : Nat) : Int) - 1) ((m + 1 : Nat) : Int) (by omega), .sel _ _ _ (zs_at hv1), .eqv 83 (ni ((d1 * 1000000000 + d2).tmod ((w + 1 : Nat) : Int))) (ni rr) (ni_eq t2)] hg' (by kernel_rfl)
theorem e_long {m : Nat} (da : I.Dig a) (cb : I.Can b) (hl : a.length ≤ 1000000000000) (hb : b.length = m + 2) (hab : m + 2 ≤ a.length) : ∃ x, LongQ a b x ∧ Pure PP 148 [zl a, zl b] (.tu [.sl (zs x.1), .sl (zs x.2)]) := by
 have et := num_el (l := b) (i := m + 1) (by omega)
 generalize b.getD (m + 1) 0 = t at et
 obtain ⟨t0, t1, s0, s1, hV0, hV1⟩ := I.scale_ok cb hb et
 have hss := td_ (show 0 ≤ 1000000000 by decide) (t + 1)
 generalize hs : 1000000000 / (t + 1) = s at *
 obtain ⟨sn, rfl⟩ : ∃ n : Nat, s = ((n + 1 : Nat) : Int) := ⟨(s - 1).toNat, by omega⟩
 obtain ⟨tn, rfl⟩ : ∃ n : Nat, t = (n : Int) := ⟨t.toNat, by omega⟩
 obtain ⟨U, ⟨dU, vU, lU⟩, hU⟩ := e_scaled true da hl (m := ((sn + 1 : Nat) : Int)) (by omega)
 obtain ⟨W, ⟨dW, vW, lW⟩, hW⟩ := e_scaled false cb.1 (by omega) (m := ((sn + 1 : Nat) : Int)) (by omega)
 have htk := I.take_low dW (n := m + 2) (by omega) (by rw [vW]; exact hV0)
 have hlV : (W.take (m + 2)).length = m + 2 := by rw [List.length_take]; omega
 have hpb : I.pw (m + 1) ≤ I.val b := by
  have := cb.pos (by intro e; rw [e] at hb; simp at hb)
  rwa [hb] at this
 have hLD := I.LD.first (b := b) (s := ((sn + 1 : Nat) : Int)) da dU (dW.take (m + 2)) hab lU hlV vU (by rw [htk, vW]) s0 hpb (by rw [htk, vW]; exact hV1)
 obtain ⟨x, h1, hg⟩ := long_rounds (b := b) (sn := sn) rfl s1 (dW.take (m + 2)) hlV (by rw [htk, vW]; exact hV1) (by rw [htk, vW]) hl hab (a.length - (m + 2) + 1, U, []) ⟨by simp only; omega, lU, dU, I.Dig.nil, by simp; omega, by rw [vU]; simp [I.val], hLD.top⟩
 refine ⟨x, h1, ?_⟩
 simp only [lgX, List.append_nil] at hg
 rw [← zs_rep] at hg
 exact pf (by kernel_rfl) (.to mo_ [] [6, 7, 8, 9, 10, 11] [0, 1] 2 [.eqv 24 (ni ((zs b).length : Int)) (ni ((m + 2 : Nat) : Int)) (by rw [zs_len, hb]), wq 25 (((m + 2 : Nat) : Int) - 1) ((m + 1 : Nat) : Int) (by omega), .sel _ _ _ (zs_at et), wq 28 ((tn : Int) + 1) ((tn + 1 : Nat) : Int) (by omega), wq 29 ((1000000000 : Int).tdiv ((tn + 1 : Nat) : Int)) ((sn + 1 : Nat) : Int) (by rw [show ((tn + 1 : Nat) : Int) = (tn : Int) + 1 from rfl]; omega),
  cl hU, cl hW, .eqv 37 (ni ((zs b).length : Int)) (ni ((m + 2 : Nat) : Int)) (by rw [zs_len, hb]), .slc (zs W) 0 (m + 2) 1 (zs (W.take (m + 2))) (by rw [List.drop_zero, zs_take]) (by rw [zs_len]; omega) (zs_z W), .eqv 40 (ni ((zs b).length : Int)) (ni ((m + 2 : Nat) : Int)) (by rw [zs_len, hb]), .eqv 42 (ni ((zs a).length : Int)) (ni a.length) (by rw [zs_len]),
  wq 44 ((a.length : Int) - ((m + 2 : Nat) : Int)) ((a.length : Int) - ((m + 2 : Nat) : Int)) (by omega), wq 45 ((a.length : Int) - ((m + 2 : Nat) : Int) + 1) ((a.length - (m + 2) + 1 : Nat) : Int) (by omega), .mk (a.length - (m + 2) + 1) (by omega), .eqv 48 (ni ((zs a).length : Int)) (ni a.length) (by rw [zs_len]), wq 50 ((a.length : Int) - ((m + 2 : Nat) : Int)) (((a.length - (m + 2) + 1 : Nat) : Int) - 1) (by omega)] hg (by kernel_rfl))
end
end Go.Proofs.YthliihpeodohpaaGreatDoor.E
