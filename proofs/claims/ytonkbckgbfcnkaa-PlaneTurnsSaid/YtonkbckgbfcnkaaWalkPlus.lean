/-
 THE WALKS of package integer: plus.
-/
import Derived.Test.YtonkbckgbfcnkaaRowI
namespace Go.Proofs.Ytonkbckgbfcnkaa
set_option maxHeartbeats 1000000
open Go.RowKit
/-- What plus returns. -/
def PlusIs (a b l : List Int) : Prop := I.Dig l ∧ I.val l = I.val a + I.val b ∧ l.length ≤ max a.length b.length + 1
set_option maxRecDepth 100000 in
theorem plus_ge (va vb : Value) (a b : List Int) (w : World) (ha : Sl w va a) (hb : Sl w vb b) (da : I.Dig a) (db : I.Dig b) (hl : a.length ≤ 1000000000000) (hlt : ¬ (a.length : Int) < (b.length : Int)) :
  Calls Try.prog 106 #[va, vb] w (RS (PlusIs a b) w) := by
 obtain ⟨A, la, ca, rfl, rfl, hca, hma, hra, _⟩ := ha
 obtain ⟨B, lb, cb, rfl, rfl, hcb, hmb, hrb, _⟩ := hb
 have HDA := Lib.hid da; have HDB := Lib.hid db; have HRA := Lib.hid hra; have HRB := Lib.hid hrb
 clear da db hra hrb
 unfold maxLen at hma hmb
 have hmk := run_make_il (a.length + 1) (by omega) ((a.length : Int) + 1) (by omega)
 have hz : 0 < a.length + 1 := by omega
 go_enter Try.func106, Try.ntmps106
 go_wp2
 clear hmk
 obtain ⟨g, hg⟩ : ∃ g, g = w.heap.size := ⟨_, rfl⟩
 have HG := Lib.hid hg
 go_loopw [23, 6] (fun ix cy wr => ∃ (k : Nat) (r : List Int) (c : Int), k ≤ a.length ∧ ix = .int .i64 k ∧ cy = .int .i64 c ∧ 0 ≤ c ∧ c ≤ 1 ∧ Hid (r.length = k ∧ I.Dig r ∧ I.val r + I.pw k * c = I.val (a.take k) + I.val (b.take k)) ∧ Hid (Bk wr w.heap.size (r ++ List.replicate (a.length + 1 - k) 0)) ∧ Hid (Below w.heap.size w wr)) (fun ix _ _ => a.length - (intOf ix).toNat)
 case atStart => exact ⟨0, [], 0, by omega, rfl, rfl, by omega, by omega, ⟨rfl, I.Dig.nil, by simp [I.val]⟩, Lib.hid (by simpa using Bk.new w _), (Below.refl _ _).alloc (Nat.le_refl _) _⟩
 case round =>
  obtain ⟨k, r, c, hk, rfl, rfl, k0, k1, HV, HB, HN⟩ := hrel
  by_cases hk2 : k < a.length
  ·obtain ⟨d, hd⟩ : ∃ d, a[k]? = some d := ⟨_, List.getElem?_eq_getElem hk2⟩
   obtain ⟨hd0, hd1⟩ := HDA.out.get hd
   have hrp := HRA.out.below HN.out (Nat.le_refl _)
   obtain ⟨bp, op, rfl, hbp, hcp⟩ := hrp (by simp; omega)
   have f1 : wr.cell? ⟨bp, op + k, none⟩ = some (.int .i64 d) := hcp k _ (il_at a hd)
   have hDG := Lib.hid (I.dg_some hd)
   have hcap : (a.length + 1 - k) = (a.length - k) + 1 := by omega
   have hbk := HB.out
   rw [hcap, List.replicate_succ] at hbk
   have f3 := hbk.cell (get_mid HV.out.1)
   have f4 := hbk.frozen k
   have hst := fun x : Int => hbk.set_ k x
   have HST := Lib.hid hst
   clear hst hbk hcap hrp hcp hd
   have hrest : ∀ (e v c' : Int) (w2 : World), I.dg b k = e → v + 1000000000 * c' = d + e + c → 0 ≤ v → v < 1000000000 → w2 = wr.setCell ⟨w.heap.size, k, none⟩ (.int .i64 v) →
     Hid ((r ++ [v]).length = k + 1 ∧ I.Dig (r ++ [v]) ∧ I.val (r ++ [v]) + I.pw (k + 1) * c' = I.val (a.take (k + 1)) + I.val (b.take (k + 1))) ∧
     Hid (Bk w2 w.heap.size ((r ++ [v]) ++ List.replicate (a.length + 1 - (k + 1)) 0)) ∧ Hid (Below w.heap.size w w2) := by
    intro e v c' w2 he hv h0 h1 hw2
    have hx := I.plus_step (v := v) (c' := c') HV.out.1 HV.out.2.2 (by have := hDG.out; omega)
    refine ⟨⟨by simp [HV.out.1], HV.out.2.1.snoc h0 h1, hx⟩, ?_, ?_⟩
    ·rw [hw2]
     have h3 := HST.out v
     rw [set_mid HV.out.1] at h3
     rw [show a.length + 1 - (k + 1) = a.length - k from by omega]
     exact h3
    ·rw [hw2]
     exact HN.out.setCell (Nat.le_refl _) _
   have HREST := Lib.hid hrest; clear hrest
   have hend : ∀ (e v c' : Int) (w2 : World), I.dg b k = e → v + 1000000000 * c' = d + e + c → 0 ≤ v → v < 1000000000 → 0 ≤ c' → c' ≤ 1 → w2 = wr.setCell ⟨w.heap.size, k, none⟩ (.int .i64 v) →
     ∃ (k2 : Nat) (r2 : List Int) (c2 : Int), k2 ≤ a.length ∧ Value.int .i64 ((k : Int) + 1) = .int .i64 k2 ∧ Value.int .i64 c' = .int .i64 c2 ∧ 0 ≤ c2 ∧ c2 ≤ 1 ∧ Hid (r2.length = k2 ∧ I.Dig r2 ∧ I.val r2 + I.pw k2 * c2 = I.val (a.take k2) + I.val (b.take k2)) ∧ Hid (Bk w2 w.heap.size (r2 ++ List.replicate (a.length + 1 - k2) 0)) ∧ Hid (Below w.heap.size w w2) := by
    intro e v c' w2 he hv h0 h1 h2 h3 hw2
    exact ⟨k + 1, r ++ [v], c', by omega, by go_num, rfl, h2, h3, HREST.out e v c' w2 he hv h0 h1 hw2⟩
   have HEND := Lib.hid hend; clear hend
   by_cases hq : k < b.length
   ·obtain ⟨e, he⟩ : ∃ e, b[k]? = some e := ⟨_, List.getElem?_eq_getElem hq⟩
    obtain ⟨he0, he1⟩ := HDB.out.get he
    obtain ⟨bq, oq, rfl, hbq, hcq⟩ := (HRB.out.below HN.out (Nat.le_refl _)) (by simp; omega)
    have f2 : wr.cell? ⟨bq, oq + k, none⟩ = some (.int .i64 e) := hcq k _ (il_at b he)
    have HE := Lib.hid (I.dg_some he)
    clear he hcq
    by_cases hv : 1000000000 ≤ d + c + e
    ·go_wp2
     go_roundw
     case rel => exact HEND.out e _ 1 _ HE.out (by omega) (by omega) (by omega) (by omega) (by omega) rfl
     case measure => simp [intOf]; omega
    ·go_wp2
     go_roundw
     case rel => exact HEND.out e _ 0 _ HE.out (by omega) (by omega) (by omega) (by omega) (by omega) rfl
     case measure => simp [intOf]; omega
   ·have HE := Lib.hid (I.dg_none (b := b) (k := k) (by omega))
    by_cases hv : 1000000000 ≤ d + c
    ·go_wp2
     go_roundw
     case rel => exact HEND.out 0 _ 1 _ HE.out (by omega) (by omega) (by omega) (by omega) (by omega) rfl
     case measure => simp [intOf]; omega
    ·go_wp2
     go_roundw
     case rel => exact HEND.out 0 _ 0 _ HE.out (by omega) (by omega) (by omega) (by omega) (by omega) rfl
     case measure => simp [intOf]; omega
  ·obtain rfl : k = a.length := by omega
   have hbk := HB.out
   rw [show a.length + 1 - a.length = 0 + 1 from by omega, List.replicate_succ] at hbk
   have f3 := hbk.cell (get_mid HV.out.1)
   have f4 := hbk.frozen a.length
   have hst := hbk.set_ a.length c
   rw [set_mid HV.out.1] at hst
   have HST := Lib.hid hst
   clear hst hbk
   go_wp2
   go_ret
   have h3 := HST.out
   rw [List.replicate_zero, List.append_nil] at h3
   have hle : b.length ≤ a.length := by omega
   refine ⟨_, r ++ [c], rfl, h3.sl (by simp [HV.out.1]) (Nat.le_refl _) (by unfold maxLen; omega), ⟨HV.out.2.1.snoc k0 (by omega), ?_, by simp [HV.out.1]; omega⟩, HN.out.setCell (Nat.le_refl _) _⟩
   have h4 := HV.out.2.2
   rw [I.val_take_over (Nat.le_refl _), I.val_take_over hle] at h4
   rw [I.val_snoc, HV.out.1]
   exact h4
set_option maxRecDepth 100000 in
theorem plus_lt (va vb : Value) (a b : List Int) (w : World) (ha : Sl w va a) (hb : Sl w vb b) (da : I.Dig a) (db : I.Dig b) (hl : b.length ≤ 1000000000000) (hlt : (a.length : Int) < (b.length : Int)) :
  Calls Try.prog 106 #[va, vb] w (RS (PlusIs a b) w) := by
 obtain ⟨A, la, ca, rfl, rfl, hca, hma, hra, _⟩ := ha
 obtain ⟨B, lb, cb, rfl, rfl, hcb, hmb, hrb, _⟩ := hb
 have HDA := Lib.hid da; have HDB := Lib.hid db; have HRA := Lib.hid hra; have HRB := Lib.hid hrb
 clear da db hra hrb
 unfold maxLen at hma hmb
 have hmk := run_make_il (b.length + 1) (by omega) ((b.length : Int) + 1) (by omega)
 have hz : 0 < b.length + 1 := by omega
 go_enter Try.func106, Try.ntmps106
 go_wp2
 clear hmk
 obtain ⟨g, hg⟩ : ∃ g, g = w.heap.size := ⟨_, rfl⟩
 have HG := Lib.hid hg
 go_loopw [23, 6] (fun ix cy wr => ∃ (k : Nat) (r : List Int) (c : Int), k ≤ b.length ∧ ix = .int .i64 k ∧ cy = .int .i64 c ∧ 0 ≤ c ∧ c ≤ 1 ∧ Hid (r.length = k ∧ I.Dig r ∧ I.val r + I.pw k * c = I.val (a.take k) + I.val (b.take k)) ∧ Hid (Bk wr w.heap.size (r ++ List.replicate (b.length + 1 - k) 0)) ∧ Hid (Below w.heap.size w wr)) (fun ix _ _ => b.length - (intOf ix).toNat)
 case atStart => exact ⟨0, [], 0, by omega, rfl, rfl, by omega, by omega, ⟨rfl, I.Dig.nil, by simp [I.val]⟩, Lib.hid (by simpa using Bk.new w _), (Below.refl _ _).alloc (Nat.le_refl _) _⟩
 case round =>
  obtain ⟨k, r, c, hk, rfl, rfl, k0, k1, HV, HB, HN⟩ := hrel
  by_cases hk2 : k < b.length
  ·obtain ⟨d, hd⟩ : ∃ d, b[k]? = some d := ⟨_, List.getElem?_eq_getElem hk2⟩
   obtain ⟨hd0, hd1⟩ := HDB.out.get hd
   have hrp := HRB.out.below HN.out (Nat.le_refl _)
   obtain ⟨bp, op, rfl, hbp, hcp⟩ := hrp (by simp; omega)
   have f1 : wr.cell? ⟨bp, op + k, none⟩ = some (.int .i64 d) := hcp k _ (il_at b hd)
   have hDG := Lib.hid (I.dg_some hd)
   have hcap : (b.length + 1 - k) = (b.length - k) + 1 := by omega
   have hbk := HB.out
   rw [hcap, List.replicate_succ] at hbk
   have f3 := hbk.cell (get_mid HV.out.1)
   have f4 := hbk.frozen k
   have hst := fun x : Int => hbk.set_ k x
   have HST := Lib.hid hst
   clear hst hbk hcap hrp hcp hd
   have hrest : ∀ (e v c' : Int) (w2 : World), I.dg a k = e → v + 1000000000 * c' = d + e + c → 0 ≤ v → v < 1000000000 → w2 = wr.setCell ⟨w.heap.size, k, none⟩ (.int .i64 v) →
     Hid ((r ++ [v]).length = k + 1 ∧ I.Dig (r ++ [v]) ∧ I.val (r ++ [v]) + I.pw (k + 1) * c' = I.val (a.take (k + 1)) + I.val (b.take (k + 1))) ∧
     Hid (Bk w2 w.heap.size ((r ++ [v]) ++ List.replicate (b.length + 1 - (k + 1)) 0)) ∧ Hid (Below w.heap.size w w2) := by
    intro e v c' w2 he hv h0 h1 hw2
    have hx := I.plus_step (v := v) (c' := c') HV.out.1 HV.out.2.2 (by have := hDG.out; omega)
    refine ⟨⟨by simp [HV.out.1], HV.out.2.1.snoc h0 h1, hx⟩, ?_, ?_⟩
    ·rw [hw2]
     have h3 := HST.out v
     rw [set_mid HV.out.1] at h3
     rw [show b.length + 1 - (k + 1) = b.length - k from by omega]
     exact h3
    ·rw [hw2]
     exact HN.out.setCell (Nat.le_refl _) _
   have HREST := Lib.hid hrest; clear hrest
   have hend : ∀ (e v c' : Int) (w2 : World), I.dg a k = e → v + 1000000000 * c' = d + e + c → 0 ≤ v → v < 1000000000 → 0 ≤ c' → c' ≤ 1 → w2 = wr.setCell ⟨w.heap.size, k, none⟩ (.int .i64 v) →
     ∃ (k2 : Nat) (r2 : List Int) (c2 : Int), k2 ≤ b.length ∧ Value.int .i64 ((k : Int) + 1) = .int .i64 k2 ∧ Value.int .i64 c' = .int .i64 c2 ∧ 0 ≤ c2 ∧ c2 ≤ 1 ∧ Hid (r2.length = k2 ∧ I.Dig r2 ∧ I.val r2 + I.pw k2 * c2 = I.val (a.take k2) + I.val (b.take k2)) ∧ Hid (Bk w2 w.heap.size (r2 ++ List.replicate (b.length + 1 - k2) 0)) ∧ Hid (Below w.heap.size w w2) := by
    intro e v c' w2 he hv h0 h1 h2 h3 hw2
    exact ⟨k + 1, r ++ [v], c', by omega, by go_num, rfl, h2, h3, HREST.out e v c' w2 he hv h0 h1 hw2⟩
   have HEND := Lib.hid hend; clear hend
   by_cases hq : k < a.length
   ·obtain ⟨e, he⟩ : ∃ e, a[k]? = some e := ⟨_, List.getElem?_eq_getElem hq⟩
    obtain ⟨he0, he1⟩ := HDA.out.get he
    obtain ⟨bq, oq, rfl, hbq, hcq⟩ := (HRA.out.below HN.out (Nat.le_refl _)) (by simp; omega)
    have f2 : wr.cell? ⟨bq, oq + k, none⟩ = some (.int .i64 e) := hcq k _ (il_at a he)
    have HE := Lib.hid (I.dg_some he)
    clear he hcq
    by_cases hv : 1000000000 ≤ d + c + e
    ·go_wp2
     go_roundw
     case rel => exact HEND.out e _ 1 _ HE.out (by omega) (by omega) (by omega) (by omega) (by omega) rfl
     case measure => simp [intOf]; omega
    ·go_wp2
     go_roundw
     case rel => exact HEND.out e _ 0 _ HE.out (by omega) (by omega) (by omega) (by omega) (by omega) rfl
     case measure => simp [intOf]; omega
   ·have HE := Lib.hid (I.dg_none (b := a) (k := k) (by omega))
    by_cases hv : 1000000000 ≤ d + c
    ·go_wp2
     go_roundw
     case rel => exact HEND.out 0 _ 1 _ HE.out (by omega) (by omega) (by omega) (by omega) (by omega) rfl
     case measure => simp [intOf]; omega
    ·go_wp2
     go_roundw
     case rel => exact HEND.out 0 _ 0 _ HE.out (by omega) (by omega) (by omega) (by omega) (by omega) rfl
     case measure => simp [intOf]; omega
  ·obtain rfl : k = b.length := by omega
   have hbk := HB.out
   rw [show b.length + 1 - b.length = 0 + 1 from by omega, List.replicate_succ] at hbk
   have f3 := hbk.cell (get_mid HV.out.1)
   have f4 := hbk.frozen b.length
   have hst := hbk.set_ b.length c
   rw [set_mid HV.out.1] at hst
   have HST := Lib.hid hst
   clear hst hbk
   go_wp2
   go_ret
   have h3 := HST.out
   rw [List.replicate_zero, List.append_nil] at h3
   have hle : a.length ≤ b.length := by omega
   refine ⟨_, r ++ [c], rfl, h3.sl (by simp [HV.out.1]) (Nat.le_refl _) (by unfold maxLen; omega), ⟨HV.out.2.1.snoc k0 (by omega), ?_, by simp [HV.out.1]; omega⟩, HN.out.setCell (Nat.le_refl _) _⟩
   have h4 := HV.out.2.2
   rw [I.val_take_over hle, I.val_take_over (Nat.le_refl _)] at h4
   rw [I.val_snoc, HV.out.1]
   exact h4
theorem plus_any (va vb : Value) (a b : List Int) (w : World) (ha : Sl w va a) (hb : Sl w vb b) (da : I.Dig a) (db : I.Dig b) (hla : a.length ≤ 1000000000000) (hlb : b.length ≤ 1000000000000) :
  Calls Try.prog 106 #[va, vb] w (RS (PlusIs a b) w) := by
 by_cases h : (a.length : Int) < (b.length : Int)
 ·exact plus_lt va vb a b w ha hb da db hlb h
 ·exact plus_ge va vb a b w ha hb da db hla h
end Go.Proofs.Ytonkbckgbfcnkaa
