/-
 THE WALKS of package integer: minus.
-/
import Derived.Test.YtcfejkpadcccbaaGreatMemR
import Derived.Laws.CopyOwn
import Derived.RegionTactic
import Derived.ChangeAlike
import Derived.BigRegion
namespace Go.Proofs.YtcfejkpadcccbaaGreat
set_option maxHeartbeats 1000000
open Go.RowKit
/-- What plus returns. -/
def PlusIs (a b l : List Int) : Prop := I.Dig l ∧ I.val l = I.val a + I.val b ∧ l.length ≤ max a.length b.length + 1
set_option maxRecDepth 100000 in
theorem plus_ge (va vb : Value) (a b : List Int) (w : World) (ha : Sl w va a) (hb : Sl w vb b) (da : I.Dig a) (db : I.Dig b) (hl : a.length ≤ 1000000000000) (hlt : ¬ (a.length : Int) < (b.length : Int)) :
  Calls Tryz.prog 115 #[va, vb] w (RS (PlusIs a b) w) := by
 obtain ⟨A, la, ca, rfl, rfl, hca, hma, hra, _⟩ := ha
 obtain ⟨B, lb, cb, rfl, rfl, hcb, hmb, hrb, _⟩ := hb
 have HDA := Lib.hid da; have HDB := Lib.hid db; have HRA := Lib.hid hra; have HRB := Lib.hid hrb
 clear da db hra hrb
 unfold maxLen at hma hmb
 have hmk := run_make_il (a.length + 1) (by omega) ((a.length : Int) + 1) (by omega)
 have hz : 0 < a.length + 1 := by omega
 go_enter Tryz.func115, Tryz.ntmps115
 go_wp2
 clear hmk
 obtain ⟨g, hg⟩ : ∃ g, g = w.heap.size := ⟨_, rfl⟩
 have HG := Lib.hid hg
 go_loopw [23, 6] (fun ix cy wr => ∃ (k : Nat) (r : List Int) (c : Int), k ≤ a.length ∧ ix = .int .i64 k ∧ cy = .int .i64 c ∧ 0 ≤ c ∧ c ≤ 1 ∧ Hid (r.length = k ∧ I.Dig r ∧ I.val r + I.pw k * c = I.val (a.take k) + I.val (b.take k)) ∧ Hid (Bk wr w.heap.size (r ++ List.replicate (a.length + 1 - k) 0)) ∧ Hid (Below w.heap.size w wr)) (fun ix _ _ => a.length - (intOf ix).toNat)
 case atStart => exact ⟨0, [], 0, by omega, rfl, rfl, by omega, by omega, ⟨rfl, I.Dig.nil, by simp [I.val]⟩, Lib.hid (by simpa using Bk.new w _), (Below.refl _ _).alloc (Nat.le_refl _) _⟩
 case round =>
  obtain ⟨k, r, c, hk, rfl, rfl, k0, k1, HV, HB, HN⟩ := hrel
  by_cases hk2 : k < a.length
  ·obtain ⟨d, hd⟩ : ∃ d, a[k]? = some d := ⟨_, List.getElem?_eq_getElem hk2⟩
   obtain ⟨hd0, hd1⟩ := HDA.out.get hd
   have hrp := HRA.out.below HN.out (Nat.le_refl _)
   obtain ⟨bp, op, rfl, hbp, hcp⟩ := hrp (by simp; omega)
   have f1 : wr.cell? ⟨bp, op + k, none⟩ = some (.int .i64 d) := hcp k _ (il_at a hd)
   have hDG := Lib.hid (I.dg_some hd)
   have hcap : (a.length + 1 - k) = (a.length - k) + 1 := by omega
   have hbk := HB.out
   rw [hcap, List.replicate_succ] at hbk
   have f3 := hbk.cell (get_mid HV.out.1)
   have f4 := hbk.frozen k
   have hst := fun x : Int => hbk.set_ k x
   have HST := Lib.hid hst
   clear hst hbk hcap hrp hcp hd
   have hrest : ∀ (e v c' : Int) (w2 : World), I.dg b k = e → v + 1000000000 * c' = d + e + c → 0 ≤ v → v < 1000000000 → w2 = wr.setCell ⟨w.heap.size, k, none⟩ (.int .i64 v) →
     Hid ((r ++ [v]).length = k + 1 ∧ I.Dig (r ++ [v]) ∧ I.val (r ++ [v]) + I.pw (k + 1) * c' = I.val (a.take (k + 1)) + I.val (b.take (k + 1))) ∧
     Hid (Bk w2 w.heap.size ((r ++ [v]) ++ List.replicate (a.length + 1 - (k + 1)) 0)) ∧ Hid (Below w.heap.size w w2) := by
    intro e v c' w2 he hv h0 h1 hw2
    have hx := I.plus_step (v := v) (c' := c') HV.out.1 HV.out.2.2 (by have := hDG.out; omega)
    refine ⟨⟨by simp [HV.out.1], HV.out.2.1.snoc h0 h1, hx⟩, ?_, ?_⟩
    ·rw [hw2]
     have h3 := HST.out v
     rw [set_mid HV.out.1] at h3
     rw [show a.length + 1 - (k + 1) = a.length - k from by omega]
     exact h3
    ·rw [hw2]
     exact HN.out.setCell (Nat.le_refl _) _
   have HREST := Lib.hid hrest; clear hrest
   have hend : ∀ (e v c' : Int) (w2 : World), I.dg b k = e → v + 1000000000 * c' = d + e + c → 0 ≤ v → v < 1000000000 → 0 ≤ c' → c' ≤ 1 → w2 = wr.setCell ⟨w.heap.size, k, none⟩ (.int .i64 v) →
     ∃ (k2 : Nat) (r2 : List Int) (c2 : Int), k2 ≤ a.length ∧ Value.int .i64 ((k : Int) + 1) = .int .i64 k2 ∧ Value.int .i64 c' = .int .i64 c2 ∧ 0 ≤ c2 ∧ c2 ≤ 1 ∧ Hid (r2.length = k2 ∧ I.Dig r2 ∧ I.val r2 + I.pw k2 * c2 = I.val (a.take k2) + I.val (b.take k2)) ∧ Hid (Bk w2 w.heap.size (r2 ++ List.replicate (a.length + 1 - k2) 0)) ∧ Hid (Below w.heap.size w w2) := by
    intro e v c' w2 he hv h0 h1 h2 h3 hw2
    exact ⟨k + 1, r ++ [v], c', by omega, by go_num, rfl, h2, h3, HREST.out e v c' w2 he hv h0 h1 hw2⟩
   have HEND := Lib.hid hend; clear hend
   by_cases hq : k < b.length
   ·obtain ⟨e, he⟩ : ∃ e, b[k]? = some e := ⟨_, List.getElem?_eq_getElem hq⟩
    obtain ⟨he0, he1⟩ := HDB.out.get he
    obtain ⟨bq, oq, rfl, hbq, hcq⟩ := (HRB.out.below HN.out (Nat.le_refl _)) (by simp; omega)
    have f2 : wr.cell? ⟨bq, oq + k, none⟩ = some (.int .i64 e) := hcq k _ (il_at b he)
    have HE := Lib.hid (I.dg_some he)
    clear he hcq
    by_cases hv : 1000000000 ≤ d + c + e
    ·go_wp2
     go_roundw
     case rel => exact HEND.out e _ 1 _ HE.out (by omega) (by omega) (by omega) (by omega) (by omega) rfl
     case measure => simp [intOf]; omega
    ·go_wp2
     go_roundw
     case rel => exact HEND.out e _ 0 _ HE.out (by omega) (by omega) (by omega) (by omega) (by omega) rfl
     case measure => simp [intOf]; omega
   ·have HE := Lib.hid (I.dg_none (b := b) (k := k) (by omega))
    by_cases hv : 1000000000 ≤ d + c
    ·go_wp2
     go_roundw
     case rel => exact HEND.out 0 _ 1 _ HE.out (by omega) (by omega) (by omega) (by omega) (by omega) rfl
     case measure => simp [intOf]; omega
    ·go_wp2
     go_roundw
     case rel => exact HEND.out 0 _ 0 _ HE.out (by omega) (by omega) (by omega) (by omega) (by omega) rfl
     case measure => simp [intOf]; omega
  ·obtain rfl : k = a.length := by omega
   have hbk := HB.out
   rw [show a.length + 1 - a.length = 0 + 1 from by omega, List.replicate_succ] at hbk
   have f3 := hbk.cell (get_mid HV.out.1)
   have f4 := hbk.frozen a.length
   have hst := hbk.set_ a.length c
   rw [set_mid HV.out.1] at hst
   have HST := Lib.hid hst
   clear hst hbk
   go_wp2
   go_ret
   have h3 := HST.out
   rw [List.replicate_zero, List.append_nil] at h3
   have hle : b.length ≤ a.length := by omega
   refine ⟨_, r ++ [c], rfl, h3.sl (by simp [HV.out.1]) (Nat.le_refl _) (by unfold maxLen; omega), ⟨HV.out.2.1.snoc k0 (by omega), ?_, by simp [HV.out.1]; omega⟩, HN.out.setCell (Nat.le_refl _) _⟩
   have h4 := HV.out.2.2
   rw [I.val_take_over (Nat.le_refl _), I.val_take_over hle] at h4
   rw [I.val_snoc, HV.out.1]
   exact h4
set_option maxRecDepth 100000 in
theorem plus_lt (va vb : Value) (a b : List Int) (w : World) (ha : Sl w va a) (hb : Sl w vb b) (da : I.Dig a) (db : I.Dig b) (hl : b.length ≤ 1000000000000) (hlt : (a.length : Int) < (b.length : Int)) :
  Calls Tryz.prog 115 #[va, vb] w (RS (PlusIs a b) w) := by
 obtain ⟨A, la, ca, rfl, rfl, hca, hma, hra, _⟩ := ha
 obtain ⟨B, lb, cb, rfl, rfl, hcb, hmb, hrb, _⟩ := hb
 have HDA := Lib.hid da; have HDB := Lib.hid db; have HRA := Lib.hid hra; have HRB := Lib.hid hrb
 clear da db hra hrb
 unfold maxLen at hma hmb
 have hmk := run_make_il (b.length + 1) (by omega) ((b.length : Int) + 1) (by omega)
 have hz : 0 < b.length + 1 := by omega
 go_enter Tryz.func115, Tryz.ntmps115
 go_wp2
 clear hmk
 obtain ⟨g, hg⟩ : ∃ g, g = w.heap.size := ⟨_, rfl⟩
 have HG := Lib.hid hg
 go_loopw [23, 6] (fun ix cy wr => ∃ (k : Nat) (r : List Int) (c : Int), k ≤ b.length ∧ ix = .int .i64 k ∧ cy = .int .i64 c ∧ 0 ≤ c ∧ c ≤ 1 ∧ Hid (r.length = k ∧ I.Dig r ∧ I.val r + I.pw k * c = I.val (a.take k) + I.val (b.take k)) ∧ Hid (Bk wr w.heap.size (r ++ List.replicate (b.length + 1 - k) 0)) ∧ Hid (Below w.heap.size w wr)) (fun ix _ _ => b.length - (intOf ix).toNat)
 case atStart => exact ⟨0, [], 0, by omega, rfl, rfl, by omega, by omega, ⟨rfl, I.Dig.nil, by simp [I.val]⟩, Lib.hid (by simpa using Bk.new w _), (Below.refl _ _).alloc (Nat.le_refl _) _⟩
 case round =>
  obtain ⟨k, r, c, hk, rfl, rfl, k0, k1, HV, HB, HN⟩ := hrel
  by_cases hk2 : k < b.length
  ·obtain ⟨d, hd⟩ : ∃ d, b[k]? = some d := ⟨_, List.getElem?_eq_getElem hk2⟩
   obtain ⟨hd0, hd1⟩ := HDB.out.get hd
   have hrp := HRB.out.below HN.out (Nat.le_refl _)
   obtain ⟨bp, op, rfl, hbp, hcp⟩ := hrp (by simp; omega)
   have f1 : wr.cell? ⟨bp, op + k, none⟩ = some (.int .i64 d) := hcp k _ (il_at b hd)
   have hDG := Lib.hid (I.dg_some hd)
   have hcap : (b.length + 1 - k) = (b.length - k) + 1 := by omega
   have hbk := HB.out
   rw [hcap, List.replicate_succ] at hbk
   have f3 := hbk.cell (get_mid HV.out.1)
   have f4 := hbk.frozen k
   have hst := fun x : Int => hbk.set_ k x
   have HST := Lib.hid hst
   clear hst hbk hcap hrp hcp hd
   have hrest : ∀ (e v c' : Int) (w2 : World), I.dg a k = e → v + 1000000000 * c' = d + e + c → 0 ≤ v → v < 1000000000 → w2 = wr.setCell ⟨w.heap.size, k, none⟩ (.int .i64 v) →
     Hid ((r ++ [v]).length = k + 1 ∧ I.Dig (r ++ [v]) ∧ I.val (r ++ [v]) + I.pw (k + 1) * c' = I.val (a.take (k + 1)) + I.val (b.take (k + 1))) ∧
     Hid (Bk w2 w.heap.size ((r ++ [v]) ++ List.replicate (b.length + 1 - (k + 1)) 0)) ∧ Hid (Below w.heap.size w w2) := by
    intro e v c' w2 he hv h0 h1 hw2
    have hx := I.plus_step (v := v) (c' := c') HV.out.1 HV.out.2.2 (by have := hDG.out; omega)
    refine ⟨⟨by simp [HV.out.1], HV.out.2.1.snoc h0 h1, hx⟩, ?_, ?_⟩
    ·rw [hw2]
     have h3 := HST.out v
     rw [set_mid HV.out.1] at h3
     rw [show b.length + 1 - (k + 1) = b.length - k from by omega]
     exact h3
    ·rw [hw2]
     exact HN.out.setCell (Nat.le_refl _) _
   have HREST := Lib.hid hrest; clear hrest
   have hend : ∀ (e v c' : Int) (w2 : World), I.dg a k = e → v + 1000000000 * c' = d + e + c → 0 ≤ v → v < 1000000000 → 0 ≤ c' → c' ≤ 1 → w2 = wr.setCell ⟨w.heap.size, k, none⟩ (.int .i64 v) →
     ∃ (k2 : Nat) (r2 : List Int) (c2 : Int), k2 ≤ b.length ∧ Value.int .i64 ((k : Int) + 1) = .int .i64 k2 ∧ Value.int .i64 c' = .int .i64 c2 ∧ 0 ≤ c2 ∧ c2 ≤ 1 ∧ Hid (r2.length = k2 ∧ I.Dig r2 ∧ I.val r2 + I.pw k2 * c2 = I.val (a.take k2) + I.val (b.take k2)) ∧ Hid (Bk w2 w.heap.size (r2 ++ List.replicate (b.length + 1 - k2) 0)) ∧ Hid (Below w.heap.size w w2) := by
    intro e v c' w2 he hv h0 h1 h2 h3 hw2
    exact ⟨k + 1, r ++ [v], c', by omega, by go_num, rfl, h2, h3, HREST.out e v c' w2 he hv h0 h1 hw2⟩
   have HEND := Lib.hid hend; clear hend
   by_cases hq : k < a.length
   ·obtain ⟨e, he⟩ : ∃ e, a[k]? = some e := ⟨_, List.getElem?_eq_getElem hq⟩
    obtain ⟨he0, he1⟩ := HDA.out.get he
    obtain ⟨bq, oq, rfl, hbq, hcq⟩ := (HRA.out.below HN.out (Nat.le_refl _)) (by simp; omega)
    have f2 : wr.cell? ⟨bq, oq + k, none⟩ = some (.int .i64 e) := hcq k _ (il_at a he)
    have HE := Lib.hid (I.dg_some he)
    clear he hcq
    by_cases hv : 1000000000 ≤ d + c + e
    ·go_wp2
     go_roundw
     case rel => exact HEND.out e _ 1 _ HE.out (by omega) (by omega) (by omega) (by omega) (by omega) rfl
     case measure => simp [intOf]; omega
    ·go_wp2
     go_roundw
     case rel => exact HEND.out e _ 0 _ HE.out (by omega) (by omega) (by omega) (by omega) (by omega) rfl
     case measure => simp [intOf]; omega
   ·have HE := Lib.hid (I.dg_none (b := a) (k := k) (by omega))
    by_cases hv : 1000000000 ≤ d + c
    ·go_wp2
     go_roundw
     case rel => exact HEND.out 0 _ 1 _ HE.out (by omega) (by omega) (by omega) (by omega) (by omega) rfl
     case measure => simp [intOf]; omega
    ·go_wp2
     go_roundw
     case rel => exact HEND.out 0 _ 0 _ HE.out (by omega) (by omega) (by omega) (by omega) (by omega) rfl
     case measure => simp [intOf]; omega
  ·obtain rfl : k = b.length := by omega
   have hbk := HB.out
   rw [show b.length + 1 - b.length = 0 + 1 from by omega, List.replicate_succ] at hbk
   have f3 := hbk.cell (get_mid HV.out.1)
   have f4 := hbk.frozen b.length
   have hst := hbk.set_ b.length c
   rw [set_mid HV.out.1] at hst
   have HST := Lib.hid hst
   clear hst hbk
   go_wp2
   go_ret
   have h3 := HST.out
   rw [List.replicate_zero, List.append_nil] at h3
   have hle : a.length ≤ b.length := by omega
   refine ⟨_, r ++ [c], rfl, h3.sl (by simp [HV.out.1]) (Nat.le_refl _) (by unfold maxLen; omega), ⟨HV.out.2.1.snoc k0 (by omega), ?_, by simp [HV.out.1]; omega⟩, HN.out.setCell (Nat.le_refl _) _⟩
   have h4 := HV.out.2.2
   rw [I.val_take_over hle, I.val_take_over (Nat.le_refl _)] at h4
   rw [I.val_snoc, HV.out.1]
   exact h4
theorem plus_any (va vb : Value) (a b : List Int) (w : World) (ha : Sl w va a) (hb : Sl w vb b) (da : I.Dig a) (db : I.Dig b) (hla : a.length ≤ 1000000000000) (hlb : b.length ≤ 1000000000000) :
  Calls Tryz.prog 115 #[va, vb] w (RS (PlusIs a b) w) := by
 by_cases h : (a.length : Int) < (b.length : Int)
 ·exact plus_lt va vb a b w ha hb da db hlb h
 ·exact plus_ge va vb a b w ha hb da db hla h
end Go.Proofs.YtcfejkpadcccbaaGreat
namespace Go.Proofs.YtcfejkpadcccbaaGreat
set_option maxHeartbeats 1000000
open Go.RowKit
/-- What minus returns. -/
def MinusIs (a b l : List Int) : Prop := I.Dig l ∧ I.val l = I.val a - I.val b ∧ l.length = a.length
/-- The first digit less a borrow. -/
def decH (c : Int) : List Int → List Int
 | [] => []
 | d :: t => (d - c) :: t
theorem decH_zero (l : List Int) : decH 0 l = l := by cases l <;> simp [decH]
theorem splice_all (l : List Value) (m : List Value) (h : m.length = l.length) : splice l 0 m = m := by
 unfold splice
 rw [List.take_zero, List.nil_append, Nat.zero_add, h, List.drop_length, List.append_nil]
set_option maxRecDepth 100000 in
theorem minus_any (va vb : Value) (a b : List Int) (w : World) (ha : Sl w va a) (hb : Sl w vb b) (da : I.Dig a) (db : I.Dig b) (hl : a.length ≤ 1000000000000) (hle : I.val b ≤ I.val a) (hbl : b.length ≤ a.length) :
  Calls Tryz.prog 117 #[va, vb] w (RS (MinusIs a b) w) := by
 obtain ⟨A, la, ca, rfl, rfl, hca, hma, hra, _⟩ := ha
 obtain ⟨B, lb, cb, rfl, rfl, hcb, hmb, hrb, _⟩ := hb
 have HDA := Lib.hid da; have HDB := Lib.hid db; have HRA := Lib.hid hra; have HRB := Lib.hid hrb; have HLE := Lib.hid hle; have HBL := Lib.hid hbl
 clear da db hra hrb hle
 unfold maxLen at hma hmb
 have hmk := run_make_il a.length (by omega) (a.length : Int) (by omega)
 obtain ⟨i0, hi, hz0, hz1, hz2⟩ := info_parts info_i64
 have hsz : (Tryz.prog.info? 3).map (·.size) = some 1 := by rw [hi]; simp [hz1]
 obtain ⟨Z, hZ⟩ : ∃ Z, Z = il (List.replicate a.length 0) := ⟨_, rfl⟩
 obtain ⟨X, hX⟩ : ∃ X, X = il a := ⟨_, rfl⟩
 have hnew : (w.alloc (.cells (zs a.length) 3)).heap[w.heap.size]? = some (.cells Z.toArray 3 (0, 0)) := by rw [hZ]; exact Bk.new w _
 have hB0 : Below w.heap.size w (w.alloc (.cells (zs a.length) 3)) := (Below.refl _ _).alloc (Nat.le_refl _) _
 have hpos : 0 < X.length → (some (⟨w.heap.size, 0, none⟩ : Addr) = some ⟨w.heap.size, 0, none⟩) ∧ ∃ ad, A = some ad ∧ ∀ j v, X[j]? = some v → (w.alloc (.cells (zs a.length) 3)).cell? (ad.add j) = some v := by
  intro h
  refine ⟨rfl, ?_⟩
  rw [hX] at h ⊢
  obtain ⟨b1, o1, rfl, k6, k0⟩ := (HRA.out.alloc (Nat.le_refl _) (.cells (zs a.length) 3)) h
  exact ⟨_, rfl, fun j v hv => by rw [Addr.add_lit]; exact k0 j v hv⟩
 have hXl : X.length = a.length := by rw [hX]; simp
 have hZl : Z.length = a.length := by rw [hZ]; simp
 have hX1 : ∀ v ∈ X, v.oneCell' = true := by rw [hX]; exact il_oneCell a
 have HNEW := Lib.hid hnew; have HPOS := Lib.hid hpos; have HXL := Lib.hid hXl; have HZL := Lib.hid hZl; have HX1 := Lib.hid hX1; have HX := Lib.hid hX; have k1 := Lib.hid hB0; have HI := Lib.hid hsz
 clear hZ hX hnew hpos hXl hZl hX1 hB0 hi hz0 hz1 hz2 hsz
 go_enter Tryz.func117, Tryz.ntmps117
 go_wp2_with (with_reducible refine wpList_copy_splice rfl (.tmp 10) (.tmp 11) 22 22 rfl 3 Tryz.underlying22 HI.out (some ⟨w.heap.size, 0, none⟩) A a.length a.length a.length ca rfl rfl w.heap.size 0 Z 3 HNEW.out X (by rw [HXL.out]; exact (Nat.min_self _).symm) HPOS.out (by rw [HXL.out, HZL.out]; omega) HX1.out w.heap.size w k1.out (Nat.le_refl _) ?_)
 intro w2 HG2 hB2
 have hbk0 : Bk w2 w.heap.size a := by
  have h1 := HG2.out
  rw [splice_all _ _ (by rw [HXL.out, HZL.out]), HX.out] at h1
  exact h1
 have HBK0 := Lib.hid hbk0
 have k3 := Lib.hid hB2
 clear hbk0 hB2 HG2
 go_wp2_with fail
 obtain ⟨G, hG⟩ : ∃ G, G = w.heap.size := ⟨_, rfl⟩
 have HG := Lib.hid hG; clear hG
 go_loopw [15] (fun ix wr => ∃ (k : Nat) (r : List Int) (c : Int), k ≤ a.length ∧ ix = .int .i64 k ∧ 0 ≤ c ∧ c ≤ 1 ∧ Hid (r.length = k ∧ I.Dig r ∧ I.val r - I.pw k * c = I.val (a.take k) - I.val (b.take k)) ∧ Hid (Bk wr w.heap.size (r ++ decH c (a.drop k))) ∧ Hid (Below w.heap.size w wr)) (fun ix _ => a.length - (intOf ix).toNat)
 case atStart => exact ⟨0, [], 0, by omega, rfl, by omega, by omega, ⟨rfl, I.Dig.nil, by simp [I.val]⟩, Lib.hid (by rw [List.drop_zero, decH_zero]; exact HBK0.out), k3.out⟩
 case round =>
  obtain ⟨k, r, c, hk, rfl, k4, k0, HV, HB, HN⟩ := hrel
  by_cases hk2 : k < a.length
  ·obtain ⟨d, hd⟩ : ∃ d, a[k]? = some d := ⟨_, List.getElem?_eq_getElem hk2⟩
   obtain ⟨hd0, hd1⟩ := HDA.out.get hd
   have hDG := Lib.hid (I.dg_some hd)
   have hbk := HB.out
   rw [I.drop_cons hd] at hbk
   replace hbk : Bk wr w.heap.size (r ++ (d - c) :: a.drop (k + 1)) := hbk
   have f3 := hbk.cell (get_mid HV.out.1)
   have f4 := hbk.frozen k
   have hki : (k : Int) < (a.length : Int) := by omega
   have hk0 : (0 : Int) ≤ (k : Int) := by omega
   have hend : ∀ (e v c' : Int) (w2 : World), I.dg b k = e → v - 1000000000 * c' = d - e - c → 0 ≤ v → v < 1000000000 → 0 ≤ c' → c' ≤ 1 → Bk w2 w.heap.size ((r ++ [v]) ++ decH c' (a.drop (k + 1))) → Below w.heap.size w w2 →
     ∃ (k2 : Nat) (r2 : List Int) (c2 : Int), k2 ≤ a.length ∧ Value.int .i64 ((k : Int) + 1) = .int .i64 k2 ∧ 0 ≤ c2 ∧ c2 ≤ 1 ∧ Hid (r2.length = k2 ∧ I.Dig r2 ∧ I.val r2 - I.pw k2 * c2 = I.val (a.take k2) - I.val (b.take k2)) ∧ Hid (Bk w2 w.heap.size (r2 ++ decH c2 (a.drop k2))) ∧ Hid (Below w.heap.size w w2) := by
    intro e v c' w2 he hv h0 h1 h2 h3 k5 hn2
    exact ⟨k + 1, r ++ [v], c', by omega, by go_num, h2, h3, ⟨by simp [HV.out.1], HV.out.2.1.snoc h0 h1, I.minus_step (v := v) (c' := c') HV.out.1 HV.out.2.2 (by have := hDG.out; omega)⟩, k5, hn2⟩
   have hlast : ∀ (e v : Int), I.dg b k = e → v - 1000000000 = d - e - c → 0 ≤ v → v < 1000000000 → ∃ d2, a[k + 1]? = some d2 := by
    intro e v he hv h0 h1
    rcases Nat.lt_or_ge (k + 1) a.length with h2 | h2
    ·exact ⟨_, List.getElem?_eq_getElem h2⟩
    ·have hkk : k + 1 = a.length := by omega
     have h3 := I.minus_step (v := v) (c' := 1) HV.out.1 HV.out.2.2 (by have := hDG.out; omega)
     rw [hkk] at h3
     have h4 := I.minus_last (c := 1) (by rw [List.length_append, HV.out.1, List.length_singleton, hkk]) h3 HBL.out (HV.out.2.1.snoc h0 h1) HLE.out (by omega)
     omega
   have HEND := Lib.hid hend; have HLAST := Lib.hid hlast; have HBK := Lib.hid hbk
   clear hend hlast hbk hd
   by_cases hq : k < b.length
   ·obtain ⟨e, he⟩ : ∃ e, b[k]? = some e := ⟨_, List.getElem?_eq_getElem hq⟩
    obtain ⟨he0, he1⟩ := HDB.out.get he
    obtain ⟨bq, oq, rfl, hbq, hcq⟩ := (HRB.out.below HN.out (Nat.le_refl _)) (by simp; omega)
    have f2 : wr.cell? ⟨bq, oq + k, none⟩ = some (.int .i64 e) := hcq k _ (il_at b he)
    have HE := Lib.hid (I.dg_some he)
    have hqi : (k : Int) < (b.length : Int) := by omega
    clear he hcq
    by_cases hv : d - c - e < 0
    ·obtain ⟨d2, hd2⟩ := HLAST.out e (d - c - e + 1000000000) HE.out (by omega) (by omega) (by omega)
     have hkn := (List.getElem?_eq_some_iff.1 hd2).1
     obtain ⟨hd20, hd21⟩ := HDA.out.get hd2
     have f5 : wr.cell? ⟨w.heap.size, k + 1, none⟩ = some (.int .i64 d2) := HBK.out.cell (by
      rw [I.drop_cons hd2, show r ++ (d - c) :: d2 :: List.drop (k + 1 + 1) a = (r ++ [d - c]) ++ d2 :: List.drop (k + 1 + 1) a from by simp]
      exact get_mid (by simp [HV.out.1]))
     have f6 := HBK.out.frozen (k + 1)
     have hk1 : (k : Int) + 1 < (a.length : Int) := by omega
     have HD2 := Lib.hid hd2; clear hd2
     go_wp2_with fail
     go_region
     go_wp2
     go_roundw
     case rel =>
      refine HEND.out e (d - c - e + 1000000000) 1 _ HE.out (by omega) (by omega) (by omega) (by omega) (by omega) ?_ (((HN.out.setCell (Nat.le_refl _) _).setCell (Nat.le_refl _) _).setCell (Nat.le_refl _) _).drew
      have h1 := HBK.out
      rw [I.drop_cons HD2.out] at h1 ⊢
      have h2 := (h1.mid HV.out.1 (d - c - e)).mid HV.out.1 (d - c - e + 1000000000)
      rw [show r ++ (d - c - e + 1000000000) :: d2 :: List.drop (k + 1 + 1) a = (r ++ [d - c - e + 1000000000]) ++ d2 :: List.drop (k + 1 + 1) a from by simp] at h2
      exact h2.mid (by simp [HV.out.1]) (d2 - 1)
     case measure => simp [intOf]; omega
    ·go_wp2_with fail
     go_region
     go_wp2
     go_roundw
     case rel =>
      refine HEND.out e (d - c - e) 0 _ HE.out (by omega) (by omega) (by omega) (by omega) (by omega) ?_ (HN.out.setCell (Nat.le_refl _) _).drew
      rw [decH_zero, List.append_assoc, List.singleton_append]
      exact HBK.out.mid HV.out.1 (d - c - e)
     case measure => simp [intOf]; omega
   ·have HE := Lib.hid (I.dg_none (b := b) (k := k) (by omega))
    by_cases hv : d - c < 0
    ·obtain ⟨d2, hd2⟩ := HLAST.out 0 (d - c + 1000000000) HE.out (by omega) (by omega) (by omega)
     have hkn := (List.getElem?_eq_some_iff.1 hd2).1
     obtain ⟨hd20, hd21⟩ := HDA.out.get hd2
     have f5 : wr.cell? ⟨w.heap.size, k + 1, none⟩ = some (.int .i64 d2) := HBK.out.cell (by
      rw [I.drop_cons hd2, show r ++ (d - c) :: d2 :: List.drop (k + 1 + 1) a = (r ++ [d - c]) ++ d2 :: List.drop (k + 1 + 1) a from by simp]
      exact get_mid (by simp [HV.out.1]))
     have f6 := HBK.out.frozen (k + 1)
     have hk1 : (k : Int) + 1 < (a.length : Int) := by omega
     have HD2 := Lib.hid hd2; clear hd2
     go_wp2
     go_roundw
     case rel =>
      refine HEND.out 0 (d - c + 1000000000) 1 _ HE.out (by omega) (by omega) (by omega) (by omega) (by omega) ?_ ((HN.out.setCell (Nat.le_refl _) _).setCell (Nat.le_refl _) _)
      have h1 := HBK.out
      rw [I.drop_cons HD2.out] at h1 ⊢
      have h2 := h1.mid HV.out.1 (d - c + 1000000000)
      rw [show r ++ (d - c + 1000000000) :: d2 :: List.drop (k + 1 + 1) a = (r ++ [d - c + 1000000000]) ++ d2 :: List.drop (k + 1 + 1) a from by simp] at h2
      exact h2.mid (by simp [HV.out.1]) (d2 - 1)
     case measure => simp [intOf]; omega
    ·go_wp2
     go_roundw
     case rel =>
      refine HEND.out 0 (d - c) 0 _ HE.out (by omega) (by omega) (by omega) (by omega) (by omega) ?_ HN.out
      rw [decH_zero, List.append_assoc, List.singleton_append]
      exact HBK.out
     case measure => simp [intOf]; omega
  ·obtain rfl : k = a.length := by omega
   go_wp2
   go_ret
   have hle : b.length ≤ a.length := by omega
   have h4 := HV.out.2.2
   have h5 := I.minus_last HV.out.1 h4 HBL.out HV.out.2.1 HLE.out k4
   subst h5
   rw [I.val_take_over (Nat.le_refl _), I.val_take_over HBL.out, Int.mul_zero, Int.sub_zero] at h4
   have h6 := HB.out
   rw [List.drop_length, decH, List.append_nil] at h6
   exact ⟨_, r, rfl, h6.sl (by simp [HV.out.1]) (Nat.le_refl _) (by unfold maxLen; omega), ⟨HV.out.2.1, h4, HV.out.1⟩, HN.out⟩
end Go.Proofs.YtcfejkpadcccbaaGreat
