/-
 THE WALKS of package integer: short, scaled.
-/
import Derived.Test.YtonkbckgbfcnkaaRowI
import Derived.RegionTactic
import Derived.ChangeAlike
import Derived.BigRegion
namespace Go.Proofs.Ytonkbckgbfcnkaa
set_option maxHeartbeats 1000000
open Go.RowKit
set_option linter.unusedVariables false
/-- What short returns: the quotient's digits and the rest. -/
def ShortIs (a : List Int) (m : Int) (w : World) (e : Ending) (w' : World) : Prop := ∃ v q rest, e = .returned (.tuple #[v, .int .i64 rest]) ∧ Sl w' v q ∧ I.Dig q ∧ q.length = a.length ∧ I.val a = I.val q * m + rest ∧ 0 ≤ rest ∧ rest < m ∧ Below w.heap.size w w'
set_option maxRecDepth 100000 in
theorem short_any (va : Value) (a : List Int) (m : Int) (w : World) (ha : Sl w va a) (da : I.Dig a) (hl : a.length ≤ 1000000000000) (hm0 : 0 < m) (hm1 : m < 1000000000) :
  Calls Try.prog 111 #[va, .int .i64 m] w (ShortIs a m w) := by
 obtain ⟨A, la, ca, rfl, rfl, hca, hma, hra, _⟩ := ha
 have HDA := Lib.hid da; have HRA := Lib.hid hra
 clear da hra
 unfold maxLen at hma
 have hmk := run_make_il a.length (by omega) (a.length : Int) (by omega)
 have hm00 : (m == 0) = false := beq_eq_false_iff_ne.2 (by omega)
 go_enter Try.func111, Try.ntmps111
 go_wp2
 clear hmk
 go_loopw [8, 7] (fun ix rs wr => ∃ (k : Nat) (q : List Int) (rest : Int), k ≤ a.length ∧ ix = .int .i64 ((k : Int) - 1) ∧ rs = .int .i64 rest ∧ 0 ≤ rest ∧ rest < m ∧ Hid (q.length = a.length - k ∧ I.Dig q ∧ I.val (a.drop k) = I.val q * m + rest) ∧ Hid (Bk wr w.heap.size (List.replicate k 0 ++ q)) ∧ Hid (Below w.heap.size w wr)) (fun ix _ _ => (intOf ix + 1).toNat)
 case atStart => exact ⟨a.length, [], 0, by omega, rfl, rfl, by omega, by omega, ⟨by simp, I.Dig.nil, by rw [List.drop_length]; simp [I.val]⟩, Lib.hid (by rw [List.append_nil]; exact Bk.new w _), (Below.refl _ _).alloc (Nat.le_refl _) _⟩
 case round =>
  obtain ⟨k, q, rest, hk, rfl, rfl, hr0, hr1, HV, HB, HN⟩ := hrel
  cases k with
  | zero =>
   rw [show ((0 : Nat) : Int) - 1 = -1 from rfl]
   go_wp2
   go_ret2
   have h1 := HB.out
   rw [List.replicate_zero, List.nil_append] at h1
   have h2 := HV.out.2.2
   rw [List.drop_zero] at h2
   have h3 := HV.out.1
   rw [Nat.sub_zero] at h3
   exact ⟨_, q, rest, rfl, h1.sl h3.symm (Nat.le_refl _) (by unfold maxLen; omega), HV.out.2.1, h3, h2, hr0, hr1, HN.out⟩
  | succ j =>
   have hjj : ((j + 1 : Nat) : Int) - 1 = (j : Int) := by omega
   rw [hjj]
   obtain ⟨d, hd⟩ : ∃ d, a[j]? = some d := ⟨_, List.getElem?_eq_getElem (by omega)⟩
   obtain ⟨hd0, hd1⟩ := HDA.out.get hd
   obtain ⟨bp, op, rfl, hbp, hcp⟩ := (HRA.out.below HN.out (Nat.le_refl _)) (by simp; omega)
   have f1 : wr.cell? ⟨bp, op + j, none⟩ = some (.int .i64 d) := hcp j _ (il_at a hd)
   have hbk := HB.out
   rw [List.replicate_succ', List.append_assoc, List.singleton_append] at hbk
   have f3 := hbk.cell (get_mid (List.length_replicate ..))
   have f4 := hbk.frozen j
   have hji : (j : Int) < (a.length : Int) := by omega
   have hj0 : (0 : Int) ≤ (j : Int) := by omega
   have hx0 : 0 ≤ rest * 1000000000 + d := by omega
   have hx1 : rest * 1000000000 + d ≤ 1000000000000000000 := by omega
   have hxm : rest * 1000000000 + d < 1000000000 * m := by omega
   have hq0 : 0 ≤ (rest * 1000000000 + d) / m := Int.ediv_nonneg hx0 (by omega)
   have hq1 : (rest * 1000000000 + d) / m < 1000000000 := Int.ediv_lt_of_lt_mul hm0 hxm
   have hs0 : 0 ≤ (rest * 1000000000 + d) % m := Int.emod_nonneg _ (by omega)
   have hs1 : (rest * 1000000000 + d) % m < m := Int.emod_lt_of_pos _ hm0
   have hst := I.short_step (m := m) (q := q) (rest := rest) (q' := (rest * 1000000000 + d) / m) (rest' := (rest * 1000000000 + d) % m) hd HV.out.2.2 (by rw [Int.mul_comm]; exact Int.mul_ediv_add_emod _ _)
   have HST := Lib.hid hst; have HBK := Lib.hid hbk
   clear hcp hd hjj hbk hst
   go_wp2_with fail
   go_region
   go_wp2
   go_roundw
   case rel =>
    refine ⟨j, (rest * 1000000000 + d) / m :: q, _, by omega, rfl, rfl, hs0, hs1, ⟨?_, HV.out.2.1 |>.cons_ hq0 hq1, HST.out⟩, Lib.hid (HBK.out.mid (List.length_replicate ..) _).drew, (HN.out.setCell (Nat.le_refl _) _).drew⟩
    rw [List.length_cons, HV.out.1]; omega
   case measure => simp [intOf]
/-- What scaled returns. -/
def ScaledIs (a : List Int) (m : Int) (l : List Int) : Prop := I.Dig l ∧ I.val l = I.val a * m ∧ l.length = a.length + 1
set_option maxRecDepth 100000 in
theorem scaled_any (va : Value) (a : List Int) (m : Int) (w : World) (ha : Sl w va a) (da : I.Dig a) (hl : a.length ≤ 1000000000000) (hm0 : 0 ≤ m) (hm1 : m ≤ 1000000000) :
  Calls Try.prog 116 #[va, .int .i64 m] w (RS (ScaledIs a m) w) := by
 obtain ⟨A, la, ca, rfl, rfl, hca, hma, hra, _⟩ := ha
 have HDA := Lib.hid da; have HRA := Lib.hid hra
 clear da hra
 unfold maxLen at hma
 have hmk := run_make_il (a.length + 1) (by omega) ((a.length : Int) + 1) (by omega)
 go_enter Try.func116, Try.ntmps116
 go_wp2
 clear hmk
 go_loopw [16, 6] (fun ix cy wr => ∃ (k : Nat) (r : List Int) (c : Int), k ≤ a.length ∧ ix = .int .i64 k ∧ cy = .int .i64 c ∧ 0 ≤ c ∧ c ≤ 1000000000 ∧ Hid (c < m ∨ c = 0) ∧ Hid (r.length = k ∧ I.Dig r ∧ I.val r + I.pw k * c = I.val (a.take k) * m) ∧ Hid (Bk wr w.heap.size (r ++ List.replicate (a.length + 1 - k) 0)) ∧ Hid (Below w.heap.size w wr)) (fun ix _ _ => a.length - (intOf ix).toNat)
 case atStart => exact ⟨0, [], 0, by omega, rfl, rfl, by omega, by omega, .inr rfl, ⟨rfl, I.Dig.nil, by simp [I.val]⟩, Lib.hid (by simpa using Bk.new w _), (Below.refl _ _).alloc (Nat.le_refl _) _⟩
 case round =>
  obtain ⟨k, r, c, hk, rfl, rfl, k0, k1, HC, HV, HB, HN⟩ := hrel
  by_cases hk2 : k < a.length
  ·obtain ⟨d, hd⟩ : ∃ d, a[k]? = some d := ⟨_, List.getElem?_eq_getElem hk2⟩
   obtain ⟨hd0, hd1⟩ := HDA.out.get hd
   obtain ⟨bp, op, rfl, hbp, hcp⟩ := (HRA.out.below HN.out (Nat.le_refl _)) (by simp; omega)
   have f1 : wr.cell? ⟨bp, op + k, none⟩ = some (.int .i64 d) := hcp k _ (il_at a hd)
   have hbk := HB.out
   rw [show a.length + 1 - k = (a.length + 1 - (k + 1)) + 1 from by omega, List.replicate_succ] at hbk
   have f3 := hbk.cell (get_mid HV.out.1)
   have f4 := hbk.frozen k
   have hki : (k : Int) < (a.length : Int) + 1 := by omega
   have hk0 : (0 : Int) ≤ (k : Int) := by omega
   have hp0 : 0 ≤ d * m := Int.mul_nonneg hd0 hm0
   have hp1 : d * m ≤ 999999999 * m := Int.mul_le_mul_of_nonneg_right (by omega) hm0
   have hx1 : d * m + c ≤ 1000000000000000000 := by omega
   have hcm : d * m + c < 1000000000 * m ∨ (d * m + c = 0 ∧ m = 0) := by
    rcases HC.out with h | h
    ·exact .inl (by omega)
    ·by_cases hm : m = 0
     ·subst hm; exact .inr ⟨by omega, rfl⟩
     ·exact .inl (by omega)
   have hq0 : 0 ≤ (d * m + c) / 1000000000 := by omega
   have hq1 : (d * m + c) / 1000000000 ≤ 1000000000 := by omega
   have hq2 : (d * m + c) / 1000000000 < m ∨ (d * m + c) / 1000000000 = 0 := by
    rcases hcm with h | h
    ·exact .inl (by omega)
    ·exact .inr (by omega)
   have hst := I.scale_step (a := a) (v := (d * m + c) % 1000000000) (c' := (d * m + c) / 1000000000) (m := m) HV.out.1 HV.out.2.2 (by rw [I.dg_some hd]; omega)
   have HST := Lib.hid hst; have HBK := Lib.hid hbk; have HQ2 := Lib.hid hq2
   obtain ⟨hs0, hs1⟩ : 0 ≤ (d * m + c) % 1000000000 ∧ (d * m + c) % 1000000000 < 1000000000 := by omega
   clear hcp hd hbk hst hq2 hcm
   go_wp2
   try (go_region; go_wp2)
   go_roundw
   case rel =>
    refine ⟨k + 1, r ++ [(d * m + c) % 1000000000], _, by omega, by go_num, rfl, hq0, hq1, HQ2.out, ⟨by simp [HV.out.1], HV.out.2.1.snoc hs0 hs1, HST.out⟩, Lib.hid ?_, (HN.out.setCell (Nat.le_refl _) _)⟩
    rw [List.append_assoc, List.singleton_append]
    exact HBK.out.mid HV.out.1 _
   case measure => simp [intOf]; omega
  ·obtain rfl : k = a.length := by omega
   have hbk := HB.out
   rw [show a.length + 1 - a.length = 0 + 1 from by omega, List.replicate_succ] at hbk
   have f3 := hbk.cell (get_mid HV.out.1)
   have f4 := hbk.frozen a.length
   have hcB : c < 1000000000 := by
    rcases HC.out with h | h <;> omega
   have hst := hbk.mid HV.out.1 c
   have HST := Lib.hid hst
   clear hst hbk
   go_wp2
   go_ret
   have h3 := HST.out
   rw [List.replicate_zero] at h3
   refine ⟨_, r ++ [c], rfl, h3.sl (by simp [HV.out.1]) (Nat.le_refl _) (by unfold maxLen; omega), ⟨HV.out.2.1.snoc k0 hcB, ?_, by simp [HV.out.1]⟩, HN.out.setCell (Nat.le_refl _) _⟩
   have h4 := HV.out.2.2
   rw [I.val_take_over (Nat.le_refl _)] at h4
   rw [I.val_snoc, HV.out.1]
   exact h4
end Go.Proofs.Ytonkbckgbfcnkaa
