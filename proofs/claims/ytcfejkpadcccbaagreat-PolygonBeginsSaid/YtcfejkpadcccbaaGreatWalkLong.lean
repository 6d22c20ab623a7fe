/-
 THE WALKS of package integer: long (the long division).
-/
import Derived.Test.YtcfejkpadcccbaaGreatPlainL
import Derived.RegionTactic
import Derived.ChangeAlike
import Derived.BigRegion
import Derived.Deep.RegionHeld3
import Derived.Deep.DeepCutAuto
import Derived.Deep.CutBlock
import Derived.Deep.LoopGhost
namespace Go.Proofs.YtcfejkpadcccbaaGreat
set_option maxHeartbeats 4000000
open Go.RowKit
set_option linter.unusedVariables false
/-- What scaled returns: a row of its own. -/
def ScaledOwn (k : Nat) (a : List Int) (m : Int) (w : World) (e : Ending) (w' : World) : Prop := ∃ g l, e = .returned (.slice (some ⟨g, 0, none⟩) (k + 1) (k + 1)) ∧ w.heap.size ≤ g ∧ Bk w' g l ∧ ScaledIs a m l ∧ Below w.heap.size w w'
set_option maxRecDepth 100000 in
theorem scaled_own (k : Nat) (va : Value) (a : List Int) (m : Int) (w : World) (ha : Sl w va a) (da : I.Dig a) (hk : k = a.length) (hl : k ≤ 1000000000000) (hm0 : 0 ≤ m) (hm1 : m ≤ 1000000000) :
  Calls Tryz.prog 142 #[va, .int .i64 m] w (ScaledOwn k a m w) := by
 subst hk
 obtain ⟨A, la, ca, rfl, rfl, hca, hma, hra, _⟩ := ha
 have HDA := Lib.hid da; have HRA := Lib.hid hra
 clear da hra
 unfold maxLen at hma
 have hmk := run_make_il (a.length + 1) (by omega) ((a.length : Int) + 1) (by omega)
 go_enter Tryz.func142, Tryz.ntmps142
 go_wp2
 clear hmk
 go_loopw [16, 6] (fun ix cy wr => ∃ (k : Nat) (r : List Int) (c : Int), k ≤ a.length ∧ ix = .int .i64 k ∧ cy = .int .i64 c ∧ 0 ≤ c ∧ c ≤ 1000000000 ∧ Hid (c < m ∨ c = 0) ∧ Hid (r.length = k ∧ I.Dig r ∧ I.val r + I.pw k * c = I.val (a.take k) * m) ∧ Hid (Bk wr w.heap.size (r ++ List.replicate (a.length + 1 - k) 0)) ∧ Hid (Below w.heap.size w wr)) (fun ix _ _ => a.length - (intOf ix).toNat)
 case atStart => exact ⟨0, [], 0, by omega, rfl, rfl, by omega, by omega, .inr rfl, ⟨rfl, I.Dig.nil, by simp [I.val]⟩, Lib.hid (by simpa using Bk.new w _), (Below.refl _ _).alloc (Nat.le_refl _) _⟩
 case round =>
  obtain ⟨k, r, c, hk, rfl, rfl, k0, k1, HC, HV, HB, HN⟩ := hrel
  by_cases hk2 : k < a.length
  ·obtain ⟨d, hd⟩ : ∃ d, a[k]? = some d := ⟨_, List.getElem?_eq_getElem hk2⟩
   obtain ⟨hd0, hd1⟩ := HDA.out.get hd
   obtain ⟨bp, op, rfl, hbp, hcp⟩ := (HRA.out.below HN.out (Nat.le_refl _)) (by simp; omega)
   have f1 : wr.cell? ⟨bp, op + k, none⟩ = some (.int .i64 d) := hcp k _ (il_at a hd)
   have hbk := HB.out
   rw [show a.length + 1 - k = (a.length + 1 - (k + 1)) + 1 from by omega, List.replicate_succ] at hbk
   have f3 := hbk.cell (get_mid HV.out.1)
   have f4 := hbk.frozen k
   have hki : (k : Int) < (a.length : Int) + 1 := by omega
   have hk0 : (0 : Int) ≤ (k : Int) := by omega
   have hp0 : 0 ≤ d * m := Int.mul_nonneg hd0 hm0
   have hp1 : d * m ≤ 999999999 * m := Int.mul_le_mul_of_nonneg_right (by omega) hm0
   have hx1 : d * m + c ≤ 1000000000000000000 := by omega
   have hcm : d * m + c < 1000000000 * m ∨ (d * m + c = 0 ∧ m = 0) := by
    rcases HC.out with h | h
    ·exact .inl (by omega)
    ·by_cases hm : m = 0
     ·subst hm; exact .inr ⟨by omega, rfl⟩
     ·exact .inl (by omega)
   have hq0 : 0 ≤ (d * m + c) / 1000000000 := by omega
   have hq1 : (d * m + c) / 1000000000 ≤ 1000000000 := by omega
   have hq2 : (d * m + c) / 1000000000 < m ∨ (d * m + c) / 1000000000 = 0 := by
    rcases hcm with h | h
    ·exact .inl (by omega)
    ·exact .inr (by omega)
   have hst := I.scale_step (a := a) (v := (d * m + c) % 1000000000) (c' := (d * m + c) / 1000000000) (m := m) HV.out.1 HV.out.2.2 (by rw [I.dg_some hd]; omega)
   have HST := Lib.hid hst; have HBK := Lib.hid hbk; have HQ2 := Lib.hid hq2
   obtain ⟨hs0, hs1⟩ : 0 ≤ (d * m + c) % 1000000000 ∧ (d * m + c) % 1000000000 < 1000000000 := by omega
   clear hcp hd hbk hst hq2 hcm
   go_wp2
   try (go_region; go_wp2)
   go_roundw
   case rel =>
    refine ⟨k + 1, r ++ [(d * m + c) % 1000000000], _, by omega, by go_num, rfl, hq0, hq1, HQ2.out, ⟨by simp [HV.out.1], HV.out.2.1.snoc hs0 hs1, HST.out⟩, Lib.hid ?_, (HN.out.setCell (Nat.le_refl _) _)⟩
    rw [List.append_assoc, List.singleton_append]
    exact HBK.out.mid HV.out.1 _
   case measure => simp [intOf]; omega
  ·obtain rfl : k = a.length := by omega
   have hbk := HB.out
   rw [show a.length + 1 - a.length = 0 + 1 from by omega, List.replicate_succ] at hbk
   have f3 := hbk.cell (get_mid HV.out.1)
   have f4 := hbk.frozen a.length
   have hcB : c < 1000000000 := by
    rcases HC.out with h | h <;> omega
   have hst := hbk.mid HV.out.1 c
   have HST := Lib.hid hst
   clear hst hbk
   go_wp2
   go_ret
   have h3 := HST.out
   rw [List.replicate_zero] at h3
   refine ⟨_, r ++ [c], rfl, Nat.le_refl _, h3, ⟨HV.out.2.1.snoc k0 hcB, ?_, by simp [HV.out.1]⟩, HN.out.setCell (Nat.le_refl _) _⟩
   have h4 := HV.out.2.2
   rw [I.val_take_over (Nat.le_refl _)] at h4
   rw [I.val_snoc, HV.out.1]
   exact h4
/-- What long returns: the digits of the quotient and of the rest. -/
def LongIs (a b : List Int) (w : World) (e : Ending) (w' : World) : Prop := ∃ v u q r, e = .returned (.tuple #[v, u]) ∧ Sl w' v q ∧ I.Dig q ∧ Sl w' u r ∧ I.Dig r ∧ I.val a = I.val q * I.val b + I.val r ∧ I.val r < I.val b ∧ q.length ≤ a.length ∧ r.length ≤ a.length ∧ Below w.heap.size w w'
/-- Where the rounds of long stand: the row U, the scaled divisor V, the digits that were found, so many rounds left. -/
structure LongAt (a b : List Int) (s : Int) (V : List Int) (m gk : Nat) (w wr : World) (gu gv gq : Nat) (U qs : List Int) : Prop where
 lu : U.length = a.length + 1
 du : I.Dig U
 dq : I.Dig qs
 lq : gk + qs.length + m + 1 = a.length
 e : I.val a * s = I.val U + I.val qs * I.pw gk * I.val V
 top : I.val (U.drop gk) < I.val V
 bu : Bk wr gu U
 bv : ∃ x, Bk wr gv (V ++ [x])
 bq : Bk wr gq (List.replicate gk 0 ++ qs)
 bw : Below w.heap.size w wr
section
variable {a b V U qs : List Int} {s : Int} {m gk gu gv gq : Nat} {w wr : World}
theorem LongAt.drewN (h : LongAt a b s V m gk w wr gu gv gq U qs) (k : Nat) : LongAt a b s V m gk w (wr.drewN k) gu gv gq U qs :=
 ⟨h.lu, h.du, h.dq, h.lq, h.e, h.top, h.bu.drewN k, (by obtain ⟨x, hx⟩ := h.bv; exact ⟨x, hx.drewN k⟩), h.bq.drewN k, bdN h.bw k⟩
theorem LongAt.cu (h : LongAt a b s V m gk w wr gu gv gq U qs) {k : Nat} {e : Int} (he : U[k]? = some e) : wr.cell? ⟨gu, k, none⟩ = some (.int .i64 e) := h.bu.cell he
theorem bk_cv {x : Int} {k : Nat} {e : Int} (h : Bk wr gv (V ++ [x])) (he : V[k]? = some e) : wr.cell? ⟨gv, k, none⟩ = some (.int .i64 e) :=
 h.cell (by rw [List.getElem?_append_left (List.getElem?_eq_some_iff.1 he).1]; exact he)
theorem LongAt.cv (h : LongAt a b s V m gk w wr gu gv gq U qs) {k : Nat} {e : Int} (he : V[k]? = some e) : wr.cell? ⟨gv, k, none⟩ = some (.int .i64 e) := by
 obtain ⟨x, hx⟩ := h.bv
 exact bk_cv hx he
/-- The end of a round. -/
theorem LongAt.next {j : Nat} {g : Int} {L : List Int} {wx : World} (h : LongAt a b s V m (j + 1) w wr gu gv gq U qs) (g0 : 0 ≤ g) (g1 : g < 1000000000) (dL : I.Dig L) (hl : L.length = U.length) (e : I.val L + g * I.val V * I.pw j = I.val U) (top : I.val (L.drop j) < I.val V)
  (bu : Bk wx gu L) (bv : ∃ x, Bk wx gv (V ++ [x])) (bq : Bk wx gq (List.replicate j 0 ++ g :: qs)) (bw : Below w.heap.size w wx) : LongAt a b s V m j w wx gu gv gq L (g :: qs) := by
 refine ⟨by rw [hl, h.lu], dL, h.dq.cons_ g0 g1, by have := h.lq; simp only [List.length_cons]; omega, ?_, top, bu, bv, bq, bw⟩
 have h1 := h.e
 rw [I.pw_succ] at h1
 simp only [I.val]
 grind
end
/-- Where the taking away stands: k digits of the divisor, times g, are taken from the row U; c is borrowed. -/
structure SubAt (V U qs : List Int) (n j k : Nat) (g c : Int) (w wx : World) (gu gv gq : Nat) (M : List Int) : Prop where
 lm : M.length = U.length
 dm : I.Dig M
 tk : M.take j = U.take j
 dp : M.drop (j + k) = U.drop (j + k)
 e : I.val M + g * I.val (V.take k) * I.pw j = I.val U + c * I.pw (j + k)
 bm : Bk wx gu M
 bv : ∃ x, Bk wx gv (V ++ [x])
 bq : Bk wx gq (List.replicate (j + 1) 0 ++ qs)
 bw : Below w.heap.size w wx
theorem SubAt.start {a b V U qs : List Int} {s : Int} {m j n gu gv gq : Nat} {g : Int} {w wx : World} (h : LongAt a b s V m (j + 1) w wx gu gv gq U qs) : SubAt V U qs n j 0 g 0 w wx gu gv gq U :=
 ⟨rfl, h.du, rfl, rfl, by simp [I.val], h.bu, h.bv, h.bq, h.bw⟩
theorem SubAt.step {V U qs M : List Int} {n j k gu gv gq : Nat} {g c e y x c' : Int} {w wx : World} (h : SubAt V U qs n j k g c w wx gu gv gq M) (hy : M[j + k]? = some y) (he : V[k]? = some e) (hx : x = y - g * e - c + c' * 1000000000) (x0 : 0 ≤ x) (x1 : x < 1000000000)
  (hv : gv ≠ gu) (hq : gq ≠ gu) (hg : w.heap.size ≤ gu) (r : Nat) : SubAt V U qs n j (k + 1) g c' w ((wx.drewN r).setCell ⟨gu, k + j, none⟩ (.int .i64 x)) gu gv gq (M.set (j + k) x) := by
 have hs := I.sub_step (c' := c') hy he h.e
 rw [← hx] at hs
 refine ⟨by rw [List.length_set]; exact h.lm, h.dm.set x0 x1, by rw [List.take_set_of_le (by omega)]; exact h.tk, ?_, hs, ?_, ?_, (h.bq.drewN r).far hq _, (bdN h.bw r).setCell hg _⟩
 ·rw [I.drop_set (by omega)]
  have := congrArg (List.drop 1) h.dp
  rwa [List.drop_drop, List.drop_drop] at this
 ·rw [Nat.add_comm j k]
  exact (h.bm.drewN r).set_ _ _
 ·obtain ⟨z, hz⟩ := h.bv
  exact ⟨z, (hz.drewN r).far hv _⟩
/-- Where the adding back stands: k digits of the divisor are added; the digit on top, t, is kept apart. -/
structure BackAt (V M0 qs : List Int) (n j k : Nat) (t c : Int) (w wx : World) (gu gv gq : Nat) (M : List Int) : Prop where
 lm : M.length = M0.length
 dm : I.Dig M
 tk : M.take j = M0.take j
 dp : M.drop (j + k) = M0.drop (j + k)
 e : I.val M + c * I.pw (j + k) = I.val M0 + I.val (V.take k) * I.pw j
 bm : Bk wx gu (M.set (j + n) t)
 bv : ∃ x, Bk wx gv (V ++ [x])
 bq : Bk wx gq (List.replicate (j + 1) 0 ++ qs)
 bw : Below w.heap.size w wx
theorem BackAt.step {V M0 qs M : List Int} {n j k gu gv gq : Nat} {t c e y : Int} {w wx : World} (h : BackAt V M0 qs n j k t c w wx gu gv gq M) (hk : k < n) (hy : M[j + k]? = some y) (he : V[k]? = some e)
  (hv : gv ≠ gu) (hq : gq ≠ gu) (hg : w.heap.size ≤ gu) (r : Nat) : BackAt V M0 qs n j (k + 1) t ((y + e + c) / 1000000000) w ((wx.drewN r).setCell ⟨gu, k + j, none⟩ (.int .i64 ((y + e + c) % 1000000000))) gu gv gq (M.set (j + k) ((y + e + c) % 1000000000)) := by
 have hs := I.back_step hy he h.e
 refine ⟨by rw [List.length_set]; exact h.lm, h.dm.set (by omega) (by omega), by rw [List.take_set_of_le (by omega)]; exact h.tk, ?_, hs, ?_, ?_, (h.bq.drewN r).far hq _, (bdN h.bw r).setCell hg _⟩
 ·rw [I.drop_set (by omega)]
  have := congrArg (List.drop 1) h.dp
  rwa [List.drop_drop, List.drop_drop] at this
 ·rw [List.set_comm _ _ (show j + k ≠ j + n by omega), Nat.add_comm j k]
  exact (h.bm.drewN r).set_ _ _
 ·obtain ⟨z, hz⟩ := h.bv
  exact ⟨z, (hz.drewN r).far hv _⟩
theorem SubAt.top {V U qs M : List Int} {n j gu gv gq : Nat} {g c d1 : Int} {w wx : World} (h : SubAt V U qs n j n g c w wx gu gv gq M) (hd1 : U[j + n]? = some d1) : M[j + n]? = some d1 := by
 have := congrArg (fun l => l[0]?) h.dp
 simpa [hd1] using this
theorem SubAt.fin {V U qs M : List Int} {n m j gu gv gq : Nat} {g c d1 : Int} {w wx : World} (h : SubAt V U qs n j n g c w wx gu gv gq M) (hLD : I.LD U V m j) (hn : n = m + 2) (hd1 : U[j + n]? = some d1) :
  (d1 - c < 0 ↔ I.val (U.drop j) < g * I.val V) ∧ (I.Gd (I.val (U.drop j)) (I.val V) g → ¬ d1 - c < 0 → I.Dig (M.set (j + n) (d1 - c)) ∧ (M.set (j + n) (d1 - c)).length = U.length ∧ I.val (M.set (j + n) (d1 - c)) + g * I.val V * I.pw j = I.val U ∧ I.val ((M.set (j + n) (d1 - c)).drop j) < I.val V) := by
 subst hn
 have he := h.e
 rw [List.take_of_length_le (by rw [hLD.hn]; exact Nat.le_refl _)] at he
 have h1 := hLD.neg h.dm h.lm h.tk h.dp hd1 he
 refine ⟨h1, fun hG hneg => ?_⟩
 have h2 := hLD.next h.dm h.lm h.tk h.dp hd1 he (by
  by_cases hc : g * I.val V ≤ I.val (U.drop j)
  ·exact hc
  ·exact absurd (h1.2 (by omega)) hneg) hG.x
 exact h2.2
theorem BackAt.start {V U qs M : List Int} {n j gu gv gq : Nat} {g c t : Int} {w wx : World} (h : SubAt V U qs n j n g c w wx gu gv gq M) (hv : gv ≠ gu) (hq : gq ≠ gu) (hg : w.heap.size ≤ gu) : BackAt V M qs n j 0 t 0 w (wx.setCell ⟨gu, j + n, none⟩ (.int .i64 t)) gu gv gq M :=
 ⟨rfl, h.dm, rfl, rfl, by simp [I.val], h.bm.set_ _ _, (by obtain ⟨z, hz⟩ := h.bv; exact ⟨z, hz.far hv _⟩), h.bq.far hq _, h.bw.setCell hg _⟩
theorem BackAt.fin {V U qs M M2 : List Int} {n m j gu gv gq gu' gv' gq' : Nat} {g c c2 d1 t : Int} {w wx w' wx' : World} (h : SubAt V U qs n j n g c w wx gu gv gq M) (h2 : BackAt V M qs n j n t c2 w' wx' gu' gv' gq' M2) (hLD : I.LD U V m j) (hn : n = m + 2) (hd1 : U[j + n]? = some d1)
  (hG : I.Gd (I.val (U.drop j)) (I.val V) g) (hneg : d1 - c < 0) :
  0 ≤ g - 1 ∧ I.Dig (M2.set (j + n) (d1 - c + c2)) ∧ (M2.set (j + n) (d1 - c + c2)).length = U.length ∧ I.val (M2.set (j + n) (d1 - c + c2)) + (g - 1) * I.val V * I.pw j = I.val U ∧ I.val ((M2.set (j + n) (d1 - c + c2)).drop j) < I.val V := by
 have h1 := (h.fin hLD hn hd1).1.1 hneg
 subst hn
 have he := h.e
 have he2 := h2.e
 rw [List.take_of_length_le (by rw [hLD.hn]; exact Nat.le_refl _)] at he he2
 have hx0 := I.val_nonneg (hLD.dU.drop j)
 have hg : 0 ≤ g - 1 := by
  have := hG.g0
  by_cases h0 : g = 0
  ·subst h0; omega
  ·omega
 have hGv := hG.v
 have h3 := hLD.next (M := M2) (g := g - 1) (c := c - c2) h2.dm (h2.lm.trans h.lm) (h2.tk.trans h.tk) (h2.dp.trans h.dp) hd1 (by rw [show j + m + 2 = j + (m + 2) from rfl]; generalize I.pw (j + (m + 2)) = P at *; generalize I.pw j = p at *; generalize I.val V = v at *; grind) (by rw [Int.sub_mul]; omega) (by rw [Int.sub_add_cancel]; exact h1)
 rw [show d1 - (c - c2) = d1 - c + c2 from by omega] at h3
 exact ⟨hg, h3.2⟩
set_option maxRecDepth 100000 in
theorem long_own (A : Option Addr) (bb ob ca cb n m : Nat) (a b : List Int) (t : Int) (w : World) (ha : Hid (Sl w (.slice A a.length ca) a)) (hb : Hid (Sl w (.slice (some ⟨bb, ob, none⟩) n cb) b)) (da : Hid (I.Dig a)) (cb_ : Hid (I.Can b))
  (hl : a.length ≤ 1000000000000) (hn : Hid (n = b.length ∧ n = m + 2)) (hn2 : 2 ≤ n) (hnc : n ≤ cb) (hcb : cb ≤ maxLen) (hab : n ≤ a.length) (ht : Hid (b[m + 1]? = some t)) (ht1 : 1 ≤ t) (ht2 : t < 1000000000)
  (f1 : w.cell? ⟨bb, ob + (n - 1), none⟩ = some (.int .i64 t)) (hs1 : 1 ≤ 1000000000 / (t + 1)) (hs2 : 1000000000 / (t + 1) < 1000000000) (hV : Hid (I.val b * (1000000000 / (t + 1)) < I.pw n ∧ I.pw (n - 1) ≤ I.val b * (1000000000 / (t + 1)))) :
  Calls Tryz.prog 138 #[.slice A a.length ca, .slice (some ⟨bb, ob, none⟩) n cb] w (LongIs a b w) := by
 unfold maxLen at hcb
 have f1' : w.cell? ⟨bb, ob + ((n : Int) - 1).toNat, none⟩ = some (.int .i64 t) := by
  rw [show ((n : Int) - 1).toNat = n - 1 from by omega]; exact f1
 go_enter Tryz.func138, Tryz.ntmps138
 go_upto_region 2 with fail
 go_cut [7, 8] (fun s7 s8 wx => ∃ gu gv U V x, s7 = .slice (some ⟨gu, 0, none⟩) (a.length + 1) (a.length + 1) ∧ s8 = .slice (some ⟨gv, 0, none⟩) n (n + 1) ∧ w.heap.size ≤ gu ∧ w.heap.size ≤ gv ∧ gu ≠ gv ∧ Bk wx gu U ∧ Bk wx gv (V ++ [x]) ∧ ScaledIs a (1000000000 / (t + 1)) U ∧ I.Dig V ∧ V.length = n ∧ I.val V = I.val b * (1000000000 / (t + 1)) ∧ Below w.heap.size w wx)
 case first =>
  rename_i J_ K_ hJ_ hK_
  go_region_with (first | (go_at_call 142; have hca := scaled_own a.length (.slice A a.length ca) a (1000000000 / (t + 1)) w.drew (ha.out.below (Below.refl _ _).drew) da.out rfl hl (by omega) (by omega); (with_reducible refine hca.mono ?_); clear hca; rintro e wu ⟨gu, U, rfl, hgu, hbu, hsu, hbwu⟩; have hbwu : Below w.heap.size w wu := bdDl hbwu; have hgu : w.heap.size ≤ gu := hgu) | (go_at_call 142; have hcb_ := scaled_own n (.slice (some ⟨bb, ob, none⟩) n cb) b (1000000000 / (t + 1)) w.drew (hb.out.below (Below.refl _ _).drew) cb_.out.1 hn.out.1 (by omega) (by omega) (by omega); (with_reducible refine hcb_.mono ?_); clear hcb_; rintro e wv ⟨gv, V, rfl, hgv, hbv, hsv, hbwv⟩; have hraw := hbwv; have hbwv : Below w.heap.size w wv := bdDl hbwv; have hgv : w.heap.size ≤ gv := hgv) | (go_at_call 142; have hca := scaled_own a.length (.slice A a.length ca) a (1000000000 / (t + 1)) wv (ha.out.below hbwv) da.out rfl hl (by omega) (by omega); (with_reducible refine hca.mono ?_); clear hca; rintro e wu ⟨gu, U, rfl, hgu, hbu, hsu, hbwu⟩; have hbwu : Below w.heap.size w wu := Blw hbwv hbwu; have hgu : wv.heap.size ≤ gu := hgu) | (go_at_call 142; have hcb_ := scaled_own n (.slice (some ⟨bb, ob, none⟩) n cb) b (1000000000 / (t + 1)) wu (hb.out.below hbwu) cb_.out.1 hn.out.1 (by omega) (by omega) (by omega); (with_reducible refine hcb_.mono ?_); clear hcb_; rintro e wv ⟨gv, V, rfl, hgv, hbv, hsv, hbwv⟩; have hraw := hbwv; have hbwv : Below w.heap.size w wv := Blw hbwu hbwv; have hgv : wu.heap.size ≤ gv := hgv))
  all_goals go_wp2_with fail
  all_goals first | refine hK_ _ _ (Met.intro (hJ_ _ _ ?_)) | refine Met.intro (hJ_ _ _ ?_) | refine hJ_ _ _ ?_
  all_goals ((repeat apply Exists.intro); refine ⟨?_, rfl⟩)
  ·have hl1 := hbu.lt
   have hv4 := hsv.2.1
   have hv3 := hsv.2.2
   obtain ⟨V', x, hVx⟩ : ∃ V' x, V = V' ++ [x] := ⟨V.dropLast, V.getLast (by intro h; rw [h] at hv3; simp at hv3), (List.dropLast_concat_getLast _).symm⟩
   have hlv : V'.length = n := by have := hn.out.1; rw [hVx] at hv3; simp at hv3; omega
   have htk := I.take_low hsv.1 (n := n) (by have := hn.out.1; omega) (by rw [hv4]; exact hV.out.1)
   have hV' : V.take n = V' := by rw [hVx, ← hlv]; simp
   rw [hV'] at htk
   exact ⟨gu, gv, U, V', x, rfl, rfl, hgu, by have := hbwu.size; omega, by omega, hbu.below hraw hl1, hVx ▸ hbv, hsu, hV' ▸ hsv.1.take n, hlv, by rw [htk, hv4], hbwv⟩
 case rest =>
  obtain ⟨w1, rfl⟩ : ∃ w1 : World, w1 = wc := ⟨_, rfl⟩
  obtain ⟨gu, gv, U0, V, x, rfl, rfl, hgu, hgv, hne, hbu, hbv, hsu, hdv, hlv, hvv, hbw⟩ := hcut
  have lu0 := hbu.lt
  have lv0 := hbv.lt
  have hmk := run_make_il (a.length - n + 1) (by omega) ((a.length : Int) - n + 1) (by omega) w1
  have HBU := Lib.hid hbu; have HBV := Lib.hid hbv; have HSU := Lib.hid hsu; have HDV := Lib.hid hdv; have HLV := Lib.hid hlv; have HVV := Lib.hid hvv; have HBW := Lib.hid hbw
  clear hbu hbv hsu hdv hlv hvv hbw
  go_wp2_with fail
  clear hmk
  go_loopg [11] (a.length - n + 1) (fun gk s11 wr => ∃ U qs, gk ≤ a.length - n + 1 ∧ s11 = .int .i64 ((gk : Int) - 1) ∧ LongAt a b (1000000000 / (t + 1)) V m gk w wr gu gv w1.heap.size U qs)
  case atStart =>
   have h2 := hn.out
   have hp := hV.out.2
   have hLD := I.LD.first (b := b) (s := 1000000000 / (t + 1)) (m := m) da.out HSU.out.1 HDV.out (by omega) HSU.out.2.2 (by rw [HLV.out]; exact h2.2) HSU.out.2.1 HVV.out hs1 (by have := cb_.out.pos (by intro h; rw [h] at h2; simp at h2; omega); rw [← h2.1, h2.2] at this; exact this) (by rw [HVV.out]; rw [h2.2] at hp; exact hp)
   refine ⟨U0, [], Nat.le_refl _, by congr 1; omega, ⟨HSU.out.2.2, HSU.out.1, I.Dig.nil, by simp; omega, by rw [HSU.out.2.1]; simp [I.val], by rw [h2.2]; exact hLD.top, HBU.out.alloc _, ⟨x, HBV.out.alloc _⟩, by rw [List.append_nil]; exact Bk.new w1 _, HBW.out.alloc HBW.out.size _⟩⟩
  case round =>
   obtain ⟨U, qs, hgk, rfl, HL⟩ := hrel
   cases gk with
   | zero =>
    rw [show ((0 : Nat) : Int) - 1 = -1 from rfl]
    have h2 := hn.out
    have hV2 : I.val V < I.pw n := by rw [HVV.out]; exact hV.out.1
    have htop := HL.top
    rw [List.drop_zero] at htop
    have hlow := I.take_lowN HL.du (n := n) (by rw [HL.lu]; omega) (by omega)
    have hlt : (U.take n).length = n := by rw [List.length_take, HL.lu]; omega
    have hsl : Sl wr (.slice (some ⟨gu, 0, none⟩) n (a.length + 1)) (U.take n) := by
     refine ⟨_, _, _, rfl, hlt.symm, by omega, by unfold maxLen; omega, fun _ => ⟨gu, 0, rfl, HL.bu.lt, fun i u hu => ?_⟩, fun _ => ⟨gu, 0, _, _, rfl, HL.bu⟩⟩
     have h9 : (il (U.take n))[i]? = some u := hu
     rw [← il_take, List.getElem?_take] at h9
     split at h9
     ·rw [Nat.zero_add, cell_of_row wr gu i _ _ _ HL.bu]
      simpa using h9
     ·exact absurd h9 (by simp)
    have hlu := HL.lu
    have HSL := Lib.hid hsl; have HLH := Lib.hid HL; have HLOW := Lib.hid hlow; have HLT := Lib.hid hlt; have HTOP := Lib.hid htop; have H2 := Lib.hid h2; have HLU := Lib.hid hlu
    clear hsl HL hlow hlt htop h2 hV2 hlu
    go_wp2_with fail
    have hcs := short_any (.slice (some ⟨gu, 0, none⟩) n (a.length + 1)) (U.take n) (1000000000 / (t + 1)) wr HSL.out (HLH.out.du.take n) (by rw [HLT.out]; omega) (by omega) hs2
    (with_reducible refine hcs.mono ?_)
    clear hcs
    rintro e wf ⟨v, q, rest, rfl, hsq, hdq, hlq, hvq, hr0, hr1, hbf⟩
    have HX := Lib.hid (⟨hsq, hdq, hlq, hvq, hr0, hr1, hbf⟩ : Sl wf v q ∧ I.Dig q ∧ q.length = (U.take n).length ∧ I.val (U.take n) = I.val q * (1000000000 / (t + 1)) + rest ∧ 0 ≤ rest ∧ rest < 1000000000 / (t + 1) ∧ Below wr.heap.size wr wf)
    clear hsq hdq hlq hvq hr0 hr1 hbf
    go_wp2
    go_ret2
    obtain ⟨hsq, hdq, hlq, hvq, hr0, hr1, hbf⟩ := HX.out
    have he := HLH.out.e
    rw [I.pw_zero, Int.mul_one] at he
    have hq2 := I.last_rest hs1 HVV.out he HTOP.out (by rw [← HLOW.out]; exact hvq) hr0 hr1
    have hbq := HLH.out.bq
    rw [List.replicate_zero, List.nil_append] at hbq
    have hlq2 := HLH.out.lq
    have hsq2 := hbq.sl (n := a.length - n + 1) (c := a.length - n + 1) (by have := H2.out.2; omega) (Nat.le_refl _) (by unfold maxLen; omega)
    exact ⟨_, v, qs, q, rfl, hsq2.below hbf, HLH.out.dq, hsq, hdq, hq2.2.1, hq2.2.2, by omega, by rw [hlq, HLT.out]; omega, Blw HLH.out.bw hbf⟩
   | succ j =>
    rw [show ((j + 1 : Nat) : Int) - 1 = (j : Int) from by omega]
    have h2 := hn.out
    obtain ⟨z, hbv_⟩ := HL.bv
    have hLD : I.LD U V m j := ⟨HL.du, HDV.out, by rw [HLV.out]; exact h2.2, by rw [HL.lu]; omega, by rw [HVV.out]; have := hV.out.2; rw [h2.2] at this; exact this, HL.top⟩
    obtain ⟨d1, d2, d3, v1, v2, hd1, hd2, hd3, hv1, hv2, hRd⟩ := hLD.digits
    have q1 := HL.du.get hd1
    have q2 := HL.du.get hd2
    have q3 := HL.du.get hd3
    have q4 := HDV.out.get hv1
    have q5 := HDV.out.get hv2
    have hv1p := hRd.v1p
    have gu1 : wr.cell? ⟨gu, j + n, none⟩ = some (.int .i64 d1) := HL.bu.cell (by rw [h2.2]; exact hd1)
    have gu2 : wr.cell? ⟨gu, j + n - 1, none⟩ = some (.int .i64 d2) := HL.bu.cell (by rw [h2.2]; exact hd2)
    have gv1 : wr.cell? ⟨gv, n - 1, none⟩ = some (.int .i64 v1) := HL.cv (by rw [h2.2]; exact hv1)
    have HLD := Lib.hid hLD; have HRD := Lib.hid hRd; have HD1 := Lib.hid hd1; have HD3 := Lib.hid hd3; have HV1 := Lib.hid hv1; have HV2 := Lib.hid hv2
    have HLH := Lib.hid HL
    have hst := hRd.start q1.1 q1.2 q2.1 q2.2 q3.2 q5.1
    have HST := Lib.hid hst
    clear hbv_ hLD hRd hd1 hd2 hd3 hv1 hv2 HL h2 hst
    go_wp2_with fail
    go_upto_region 8 with fail
    go_step3
    go_upto_region 8 with fail
    go_quiet (fail)
    go_upto_region 9 with fail
    go_quiet (fail)
    go_wp2_with fail
    go_step3
    go_upto_block 2 with fail
    go_cut [13, 14] from 51 to 211 (fun s13 s14 wx => ∃ g, s13 = .int .i64 g ∧ I.Gd (I.val (U.drop j)) (I.val V) g ∧ LongAt a b (1000000000 / (t + 1)) V m (j + 1) w wx gu gv w1.heap.size U qs)
    case first =>
     clear gu1 gu2 gv1
     go_wp2_with fail
     go_loopg [13, 14] (((d1 * 1000000000 + d2) / v1).toNat) (fun gk s13 s14 wx => ∃ g r, s13 = .int .i64 g ∧ s14 = .int .i64 r ∧ g.toNat ≤ gk ∧ r < 1000000000 ∧ I.Gs (I.val (U.drop j)) (I.val V) d1 d2 v1 g r ∧ LongAt a b (1000000000 / (t + 1)) V m (j + 1) w wx gu gv w1.heap.size U qs)
     case atStart => exact ⟨_, _, rfl, rfl, Nat.le_refl _, by have := HST.out.2; omega, HST.out.1, (HLH.out.drewN _).drewN _⟩
     case round =>
      obtain ⟨g, r, rfl, rfl, hgk, hr, hG, HL⟩ := hrel
      have hg0 := hG.g0
      have hg1 := hG.g1
      have hr0 := hG.r0
      have hn2_ := hn.out.2
      have gu3 : wr.cell? ⟨gu, j + n - 2, none⟩ = some (.int .i64 d3) := HL.cu (by rw [hn2_]; exact HD3.out)
      have gv1 : wr.cell? ⟨gv, n - 1, none⟩ = some (.int .i64 v1) := HL.cv (by rw [hn2_]; exact HV1.out)
      have gv2 : wr.cell? ⟨gv, n - 2, none⟩ = some (.int .i64 v2) := HL.cv (by rw [hn2_]; exact HV2.out)
      clear hn2_
      have hp0 : 0 ≤ g * v2 := Int.mul_nonneg hg0 q5.1
      have hp1 : g * v2 ≤ 2000000000 * 999999999 := Int.mul_le_mul hg1 (by omega) q5.1 (by omega)
      have hp2 : g * v2 ≤ 1999999998000000000 := by omega
      clear hp1
      by_cases hA : 1000000000 ≤ g
      ·have hAb : decide (1000000000 ≤ g) = true := decide_eq_true hA
       have hg9 : 0 < g.toNat := by omega
       have hless := HRD.out.less hG q2.2 q3.1 hr (.inl hA)
       have HLS := Lib.hid hless; have HLI := Lib.hid HL
       by_cases hC : 1000000000 ≤ r + v1
       ·have hCb : decide (1000000000 ≤ r + v1) = true := decide_eq_true hC
        have hdone := HRD.out.done hless.1 q5.2 q3.1 (hless.2 hC) (.inl hC)
        have HDN := Lib.hid hdone
        clear hdone hless HL hG
        go_upto_region 10 with fail
        go_quiet (fail)
        go_wp2
        go_meet
        exact ⟨_, rfl, HDN.out, HLI.out.drewN _⟩
       ·have hCb : decide (1000000000 ≤ r + v1) = false := decide_eq_false hC
        clear hless HL hG
        go_upto_region 10 with fail
        go_quiet (fail)
        go_wp2
        go_roundg (g - 1).toNat
        case measure => omega
        case rel => exact ⟨g - 1, r + v1, rfl, rfl, Nat.le_refl _, by omega, HLS.out.1, HLI.out.drewN _⟩
      ·have hAb : decide (1000000000 ≤ g) = false := decide_eq_false hA
       by_cases hB : r * 1000000000 + d3 < g * v2
       ·have hBb : decide (r * 1000000000 + d3 < g * v2) = true := decide_eq_true hB
        have hg9 : 0 < g.toNat := by
         by_cases h0 : g = 0
         ·rw [h0] at hB; omega
         ·omega
        have hless := HRD.out.less hG q2.2 q3.1 hr (.inr hB)
        have HLS := Lib.hid hless; have HLI := Lib.hid HL
        by_cases hC : 1000000000 ≤ r + v1
        ·have hCb : decide (1000000000 ≤ r + v1) = true := decide_eq_true hC
         have hdone := HRD.out.done hless.1 q5.2 q3.1 (hless.2 hC) (.inl hC)
         have HDN := Lib.hid hdone
         clear hdone hless HL hG
         go_upto_region 10 with fail
         go_quiet (fail)
         go_wp2
         go_meet
         exact ⟨_, rfl, HDN.out, HLI.out.drewN _⟩
        ·have hCb : decide (1000000000 ≤ r + v1) = false := decide_eq_false hC
         clear hless HL hG
         go_upto_region 10 with fail
         go_quiet (fail)
         go_wp2
         go_roundg (g - 1).toNat
         case measure => omega
         case rel => exact ⟨g - 1, r + v1, rfl, rfl, Nat.le_refl _, by omega, HLS.out.1, HLI.out.drewN _⟩
       ·have hBb : decide (r * 1000000000 + d3 < g * v2) = false := decide_eq_false hB
        have hdone := HRD.out.done hG q5.2 q3.1 (by omega) (.inr (by omega))
        have HDN := Lib.hid hdone; have HLI := Lib.hid HL
        clear hdone HL hG
        go_upto_region 10 with fail
        go_quiet (fail)
        go_wp2
        go_meet
        exact ⟨_, rfl, HDN.out, HLI.out.drewN _⟩
    case rest =>
     obtain ⟨w2, rfl⟩ : ∃ w2 : World, w2 = wc := ⟨_, rfl⟩
     obtain ⟨w3, rfl⟩ : ∃ w3 : World, w3 = wr := ⟨_, rfl⟩
     obtain ⟨g, rfl, hGd, HL2⟩ := hcut
     have hg0 := hGd.g0
     have hg1 := hGd.g1
     have HGD := Lib.hid hGd; have HL2H := Lib.hid HL2
     clear hGd HL2 gu1 gu2 gv1
     go_wp2_with fail
     go_loopg [118, 15] n (fun gk s118 s15 wx => ∃ (k : Nat) (M : List Int) (c : Int), k + gk = n ∧ s118 = .int .i64 k ∧ s15 = .int .i64 c ∧ 0 ≤ c ∧ c < 1000000000 ∧ SubAt V U qs n j k g c w wx gu gv w1.heap.size M)
     case atStart => exact ⟨0, U, 0, by omega, rfl, rfl, by omega, by omega, SubAt.start HL2H.out⟩
     case round =>
      obtain ⟨k, M, c, hkn, rfl, rfl, k0, k1, HS⟩ := hrel
      by_cases hk2 : k < n
      ·obtain ⟨y, hy⟩ : ∃ y, M[j + k]? = some y := ⟨_, List.getElem?_eq_getElem (by rw [HS.lm, HLH.out.lu]; omega)⟩
       obtain ⟨e, he⟩ : ∃ e, V[k]? = some e := ⟨_, List.getElem?_eq_getElem (by rw [HLV.out]; omega)⟩
       have qy := HS.dm.get hy
       have qe := HDV.out.get he
       have f1 : wr.cell? ⟨gu, k + j, none⟩ = some (.int .i64 y) := HS.bm.cell (by rw [Nat.add_comm]; exact hy)
       have f2 : wr.cell? ⟨gv, k, none⟩ = some (.int .i64 e) := by
        obtain ⟨z, hz⟩ := HS.bv
        exact bk_cv hz he
       have f3 := HS.bm.frozen (k + j)
       have hp0 : 0 ≤ g * e := Int.mul_nonneg hg0 qe.1
       have hp1 : g * e ≤ 999999999 * 999999999 := Int.mul_le_mul (by omega) (by omega) qe.1 (by omega)
       have hp2 : g * e ≤ 999999998000000001 := by omega
       have HSH := Lib.hid HS; have HY := Lib.hid hy; have HE := Lib.hid he; have HKN := Lib.hid hkn
       clear HS hy he hp1 hkn
       by_cases hw : y - g * e - c < 0
       ·have hwb : decide (y - g * e - c < 0) = true := decide_eq_true hw
        go_upto_region 18 with fail
        go_quiet (fail)
        go_wp2
        go_roundg (n - (k + 1))
        case measure => have := HKN.out; omega
        case rel =>
         refine ⟨k + 1, _, _, by omega, by go_num, rfl, ?_, ?_, HSH.out.step HY.out HE.out ?_ ?_ ?_ (Ne.symm hne) (by omega) hgu _⟩
         all_goals omega
       ·have hwb : decide (y - g * e - c < 0) = false := decide_eq_false hw
        go_upto_region 18 with fail
        go_quiet (fail)
        go_wp2
        go_roundg (n - (k + 1))
        case measure => have := HKN.out; omega
        case rel =>
         refine ⟨k + 1, _, 0, by omega, by go_num, rfl, by omega, by omega, HSH.out.step HY.out HE.out ?_ ?_ ?_ (Ne.symm hne) (by omega) hgu _⟩
         all_goals omega
      ·obtain rfl : n = k := by omega
       have hd1n : U[j + n]? = some d1 := by have := hn.out.2; rw [this]; exact HD1.out
       have hfin := HS.fin HLD.out hn.out.2 hd1n
       have hM1 := HS.top hd1n
       have f1 : wr.cell? ⟨gu, j + n, none⟩ = some (.int .i64 d1) := HS.bm.cell hM1
       have f3 := HS.bm.frozen (j + n)
       have hne3 : w1.heap.size ≠ gu := by omega
       have hne4 : w1.heap.size ≠ gv := by omega
       have hgq : w.heap.size ≤ w1.heap.size := HBW.out.size
       have hbq : Bk (wr.setCell ⟨gu, j + n, none⟩ (.int .i64 (d1 - c))) w1.heap.size (List.replicate j 0 ++ 0 :: qs) := by
        have := HS.bq.far hne3 (.int .i64 (d1 - c)) (p := ⟨gu, j + n, none⟩)
        rwa [List.replicate_succ', List.append_assoc, List.singleton_append] at this
       have q7 := hbq.cell (get_mid (List.length_replicate ..))
       have q8 := hbq.frozen j
       have HBQ := Lib.hid hbq
       clear hbq
       have HSH := Lib.hid HS; have HF := Lib.hid hfin; have HM1 := Lib.hid hM1; have HDN := Lib.hid hd1n
       clear HS hfin hM1 hd1n hkn
       by_cases hng : d1 - c < 0
       ·have hngb : decide (d1 - c < 0) = true := decide_eq_true hng
        go_wp2
        go_loopg [173, 15] n (fun gk s173 s15 wx => ∃ (k : Nat) (M2 : List Int) (c2 : Int), k + gk = n ∧ s173 = .int .i64 k ∧ s15 = .int .i64 c2 ∧ 0 ≤ c2 ∧ c2 ≤ 1 ∧ BackAt V M qs n j k (d1 - c) c2 w wx gu gv w1.heap.size M2)
        case atStart => exact ⟨0, M, 0, by omega, rfl, rfl, by omega, by omega, BackAt.start HSH.out (Ne.symm hne) hne3 hgu⟩
        case round =>
         obtain ⟨k, M2, c2, hkn, rfl, rfl, k2, k3, HT⟩ := hrel
         by_cases hk2 : k < n
         ·obtain ⟨y, hy⟩ : ∃ y, M2[j + k]? = some y := ⟨_, List.getElem?_eq_getElem (by rw [HT.lm, HSH.out.lm, HLH.out.lu]; omega)⟩
          obtain ⟨e, he⟩ : ∃ e, V[k]? = some e := ⟨_, List.getElem?_eq_getElem (by rw [HLV.out]; omega)⟩
          have qy := HT.dm.get hy
          have qe := HDV.out.get he
          have f1 : wr.cell? ⟨gu, k + j, none⟩ = some (.int .i64 y) := HT.bm.cell (by rw [Nat.add_comm k j, List.getElem?_set_ne (by omega)]; exact hy)
          have f2 : wr.cell? ⟨gv, k, none⟩ = some (.int .i64 e) := by
           obtain ⟨z, hz⟩ := HT.bv
           exact bk_cv hz he
          have f3 := HT.bm.frozen (k + j)
          have HTH := Lib.hid HT; have HY := Lib.hid hy; have HE := Lib.hid he; have HKN := Lib.hid hkn
          clear HT hy he hkn
          go_upto_region 32 with fail
          go_quiet (fail)
          go_wp2
          go_roundg (n - (k + 1))
          case measure => have := HKN.out; omega
          case rel => exact ⟨k + 1, _, _, by omega, by go_num, rfl, by omega, by omega, HTH.out.step hk2 HY.out HE.out (Ne.symm hne) hne3 hgu _⟩
         ·obtain rfl : n = k := by omega
          have hfin2 := BackAt.fin HSH.out HT HLD.out hn.out.2 HDN.out HGD.out hng
          have f1 : wr.cell? ⟨gu, j + n, none⟩ = some (.int .i64 (d1 - c)) := HT.bm.cell (List.getElem?_set_self (by rw [HT.lm, HSH.out.lm, HLH.out.lu]; omega))
          have f3 := HT.bm.frozen (j + n)
          have hbq2 : Bk (wr.setCell ⟨gu, j + n, none⟩ (.int .i64 (d1 - c + c2))) w1.heap.size (List.replicate j 0 ++ 0 :: qs) := by
           have := HT.bq.far hne3 (.int .i64 (d1 - c + c2)) (p := ⟨gu, j + n, none⟩)
           rwa [List.replicate_succ', List.append_assoc, List.singleton_append] at this
          have q72 := hbq2.cell (get_mid (List.length_replicate ..))
          have q82 := hbq2.frozen j
          have HBQ2 := Lib.hid hbq2
          clear hbq2
          have HTH := Lib.hid HT; have HF2 := Lib.hid hfin2
          clear HT hfin2 hkn
          go_wp2
          rw [Exit.noGoto_normal]
          go_wp2
          go_roundg j
          case measure => omega
          case rel =>
           have h8 := (HTH.out.bm.set_ (j + n) (d1 - c + c2))
           rw [List.set_set] at h8
           obtain ⟨z, hz⟩ := HTH.out.bv
           exact ⟨_, _, by omega, by go_num, HL2H.out.next HF2.out.1 (by omega) HF2.out.2.1 HF2.out.2.2.1 HF2.out.2.2.2.1 HF2.out.2.2.2.2 (h8.far (Ne.symm hne3) _) ⟨z, (hz.far (Ne.symm hne) _).far (Ne.symm hne4) _⟩ (HBQ2.out.mid (List.length_replicate ..) _) ((HTH.out.bw.setCell hgu _).setCell hgq _)⟩
       ·have hngb : decide (d1 - c < 0) = false := decide_eq_false hng
        go_wp2
        go_roundg j
        case measure => omega
        case rel =>
         have hf := HF.out.2 HGD.out hng
         have h8 := (HSH.out.bm.set_ (j + n) (d1 - c))
         obtain ⟨z, hz⟩ := HSH.out.bv
         exact ⟨_, _, by omega, by go_num, HL2H.out.next hg0 hg1 hf.1 hf.2.1 hf.2.2.1 hf.2.2.2 (h8.far (Ne.symm hne3) _) ⟨z, (hz.far (Ne.symm hne) _).far (Ne.symm hne4) _⟩ (HBQ.out.mid (List.length_replicate ..) _) ((HSH.out.bw.setCell hgu _).setCell hgq _)⟩
theorem long_any (va vb : Value) (a b : List Int) (w : World) (ha : Sl w va a) (hb : Sl w vb b) (da : I.Dig a) (cb : I.Can b) (hl : a.length ≤ 1000000000000) (h2 : 2 ≤ b.length) (hab : b.length ≤ a.length) :
  Calls Tryz.prog 138 #[va, vb] w (LongIs a b w) := by
 have ha' := ha
 have hb' := hb
 obtain ⟨A, la, ca, rfl, rfl, _, _, _, _⟩ := ha'
 obtain ⟨B, lb, cB, rfl, rfl, k0, k1, hr, _⟩ := hb'
 obtain ⟨bb, ob, rfl, _, hcell⟩ := hr (by simp; omega)
 obtain ⟨m, hm⟩ : ∃ m, b.length = m + 2 := ⟨b.length - 2, by omega⟩
 obtain ⟨t, ht⟩ : ∃ t, b[m + 1]? = some t := ⟨_, List.getElem?_eq_getElem (by omega)⟩
 have hs := I.scale_ok cb (n := m + 1) hm ht
 refine long_own A bb ob ca cB b.length m a b t w (Lib.hid ha) (Lib.hid hb) (Lib.hid da) (Lib.hid cb) hl (Lib.hid ⟨rfl, hm⟩) h2 k0 k1 hab (Lib.hid ht) hs.1 hs.2.1 ?_ hs.2.2.1 hs.2.2.2.1 (Lib.hid ?_)
 ·rw [hm]
  exact hcell (m + 1) _ (il_at b ht)
 ·rw [hm]
  exact hs.2.2.2.2
end Go.Proofs.YtcfejkpadcccbaaGreat
