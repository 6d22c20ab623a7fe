/-
 THE WALKS of package integer: Mul.
-/
import Derived.Test.YtcfejkpadcccbaaGreatWalkUns
import Derived.Deep.RegionHeld3
import Derived.RegionTactic
import Derived.ChangeAlike
import Derived.BigRegion
namespace Go.Proofs.YtcfejkpadcccbaaGreat
set_option maxHeartbeats 4000000
open Go.RowKit
attribute [local go_sem] run_store_one
set_option linter.unusedVariables false
/-- A row of digits in a world, read through what only makes memory. -/
def AtD (w : World) (b o : Nat) (l : List Int) : Prop := ∀ w', Below w.heap.size w w' → ∀ i x, l[i]? = some x → w'.cell? ⟨b, o + i, none⟩ = some (.int .i64 x)
theorem Sl.at_ {w : World} {v : Value} {l : List Int} (h : Sl w v l) (hl : 0 < l.length) : ∃ b o c, v = .slice (some ⟨b, o, none⟩) l.length c ∧ l.length ≤ c ∧ c ≤ maxLen ∧ b < w.heap.size ∧ AtD w b o l := by
 obtain ⟨A, n, c, rfl, rfl, h1, h2, h3, _⟩ := h
 obtain ⟨b, o, rfl, hb, _⟩ := h3 (by simpa using hl)
 refine ⟨b, o, c, rfl, h1, h2, hb, fun w' hw i x hx => ?_⟩
 obtain ⟨b', o', e, _, hc⟩ := (h3.below hw (Nat.le_refl _)) (by simpa using hl)
 injection e with e
 injection e with e1 e2
 subst e1; subst e2
 exact hc i _ (il_at l hx)
theorem Sl.form_ {w : World} {v : Value} {l : List Int} (h : Sl w v l) : ∃ A c, v = .slice A l.length c ∧ l.length ≤ c ∧ c ≤ maxLen := by
 obtain ⟨A, n, c, rfl, rfl, h1, h2, _⟩ := h
 exact ⟨A, c, rfl, h1, h2⟩
set_option maxRecDepth 100000 in
theorem mul_one (p q : Bool) (va vb : Value) (d e : Int) (w : World) (ha : Sl w va [d]) (hb : Sl w vb [e]) (hd0 : 0 ≤ d) (hd1 : d < 1000000000) (he0 : 0 ≤ e) (he1 : e < 1000000000) :
  Calls Tryz.prog 84 #[.agg #[.bool p, va], .agg #[.bool q, vb]] w (RI (sg (!(p == q)) (d * e)) w) := by
 obtain ⟨ba, oa, ca, rfl, _, _, hba, hca⟩ := ha.at_ (by simp)
 obtain ⟨bb, ob, cb, rfl, _, _, hbb, hcb⟩ := hb.at_ (by simp)
 have HCA := Lib.hid hca; have HCB := Lib.hid hcb
 clear ha hb hca hcb
 have hp0 : 0 ≤ d * e := Int.mul_nonneg hd0 he0
 have hp1 : d * e ≤ 999999999 * 999999999 := Int.mul_le_mul (by omega) (by omega) he0 (by omega)
 have hp2 : d * e ≤ 1000000000000000000 := by omega
 have hw1 : IntKind.u64.wrap d = d := by rw [IntKind.wrap_u64]; omega
 have hw2 : IntKind.u64.wrap e = e := by rw [IntKind.wrap_u64]; omega
 have hw3 : IntKind.u64.wrap (d * e) = d * e := by rw [IntKind.wrap_u64]; omega
 clear hp1
 go_enter Tryz.func84, Tryz.ntmps84
 go_wp2_with fail
 generalize hW : ((w.alloc _).alloc _).alloc _ = W1
 obtain ⟨k7, k8, k9, hB⟩ := box3 hW
 have kg := Lib.hid hB; clear hW hB
 obtain ⟨km, kn, ko, -⟩ := k7.f2
 obtain ⟨kq, kr, ks, -⟩ := k8.f2
 obtain ⟨kt, ku, kv, -⟩ := k9.f2
 go_quiet (fail)
 generalize hW : W1.drewN _ = W15
 have hB : Below W1.heap.size W1 W15 := by rw [← hW]; exact bdN (Below.refl _ _) _
 clear hW
 have ka := k7.below hB
 obtain ⟨kh, kw, kx, -⟩ := ka.f2
 have kb := k8.below hB
 obtain ⟨ki, ky, kz, -⟩ := kb.f2
 have kc := k9.below hB
 obtain ⟨kA, kB, kC, -⟩ := kc.f2
 have k3 := Lib.hid (Blw kg.out hB)
 clear hB
 have e29 : W15.cell? ⟨ba, oa, none⟩ = some (.int .i64 d) := HCA.out W15 k3.out 0 d rfl
 have e30 : W15.cell? ⟨bb, ob, none⟩ = some (.int .i64 e) := HCB.out W15 k3.out 0 e rfl
 go_wp2_with fail
 go_region_held3 (fun w' => w'.cell? ⟨w.heap.size, 0, none⟩ = some (.bool p) ∧ w'.cell? ⟨w.heap.size + 1, 0, none⟩ = some (.bool q) ∧ w'.cell? ⟨ba, oa, none⟩ = some (.int .i64 d) ∧ w'.cell? ⟨bb, ob, none⟩ = some (.int .i64 e)) (first | exact ⟨kh, ki, e29, e30⟩ | exact ⟨kd, ke, e46, e47⟩ | exact ⟨kset (kset (kd) (by omega)) (by omega), kset (kset (ke) (by omega)) (by omega), kset (kset (e46) (by omega)) (by omega), kset (kset (e47) (by omega)) (by omega)⟩)
  (first | (go_at_call 120; have kf := unsigned_any (!(p == q)) (d * e) W15.drew hp0 (by omega); (with_reducible refine kf.mono ?_); clear kf; rintro e w31 ⟨r0, r1, rfl, k1, k0⟩; have k0 := bdDl k0; have k4 := ka.below k0; have kd := k4.cell (i := 0) rfl; have kD := k4.cell (i := 1) rfl; have kE := k4.frozen; have k5 := kb.below k0; have ke := k5.cell (i := 0) rfl; have kF := k5.cell (i := 1) rfl; have kG := k5.frozen; have k2 := kc.below k0; have kj := k2.cell (i := 0) rfl; have kk := k2.cell (i := 1) rfl; have kH := k2.frozen; have k6 := Lib.hid (Blw k3.out k0); have e46 : w31.cell? ⟨ba, oa, none⟩ = some (.int .i64 d) := HCA.out w31 k6.out 0 d rfl; have e47 : w31.cell? ⟨bb, ob, none⟩ = some (.int .i64 e) := HCB.out w31 k6.out 0 e rfl; have kl := Lib.hid k1; have o_r0 := k1.one0; have o_r1 := k1.one1; clear k1 k0))
 have hkp := (Kp.refl w31).t2 k2 r0 r1
 go_wp2
 refine bodyPost_ret (v := .agg #[r0, r1]) (by simp [results, Tryz.results84, go_sem, kj, kk]) rfl ⟨_, _, rfl, ?_, bel2 (k6.out) (by first | simp | omega)⟩
 exact kl.out.kp hkp
set_option maxRecDepth 100000 in
theorem mul_many0 (p q : Bool) (va vb : Value) (a b : List Int) (w : World) (ha : Sl w va a) (hb : Sl w vb b) (da : I.Dig a) (db : I.Dig b) (hl : a.length + b.length ≤ 1000000000000) (h1 : ((a.length : Int) == 1) = false) :
  Calls Tryz.prog 84 #[.agg #[.bool p, va], .agg #[.bool q, vb]] w (RI (sg (!(p == q)) (I.val a * I.val b)) w) := by
 obtain ⟨A, ca, rfl, hca, hma⟩ := ha.form_
 obtain ⟨B, cb, rfl, hcb, hmb⟩ := hb.form_
 have HSA := Lib.hid ha; have HSB := Lib.hid hb; have HDA := Lib.hid da; have HDB := Lib.hid db
 clear ha hb da db
 unfold maxLen at hma hmb
 have hmk := fun u => run_make_il (a.length + b.length) (by omega) ((a.length : Int) + (b.length : Int)) (by omega) u
 go_enter Tryz.func84, Tryz.ntmps84
 go_wp2_with fail
 generalize hW : ((w.alloc _).alloc _).alloc _ = W1
 obtain ⟨k4, k5, k6, hB⟩ := box3 hW
 have k1 := Lib.hid hB; clear hW hB
 have F6 := Lib.hid (HSA.out.kp (.of k1.out))
 have F7 := Lib.hid (HSB.out.kp (.of k1.out))
 obtain ⟨kt, ku, kv, -⟩ := k4.f2
 obtain ⟨kw, kx, ky, -⟩ := k5.f2
 obtain ⟨kz, kA, kB, -⟩ := k6.f2
 go_quiet (fail)
 generalize hW : W1.drewN _ = W17
 have hB : Below W1.heap.size W1 W17 := by rw [← hW]; exact bdN (Below.refl _ _) _
 clear hW
 have k7 := k4.below hB
 obtain ⟨kC, kD, kE, -⟩ := k7.f2
 have k8 := k5.below hB
 obtain ⟨kF, kG, kH, -⟩ := k8.f2
 have k9 := k6.below hB
 obtain ⟨kI, kJ, kK, -⟩ := k9.f2
 have kg := Lib.hid (F6.out.kp (.of hB))
 have kh := Lib.hid (F7.out.kp (.of hB))
 have ki := Lib.hid (Blw k1.out hB)
 clear hB
 have hmk2 := hmk W17
 clear hmk
 have HNW := Lib.hid (Bk.new W17 (a.length + b.length))
 have HBW := Lib.hid ((Below.refl W17.heap.size W17).alloc (Nat.le_refl _) (.cells (zs (a.length + b.length)) 3))
 go_wp2
 clear hmk2
 go_loopw [49] (fun ix wr => ∃ (i : Nat) (out : List Int), i ≤ a.length ∧ ix = .int .i64 i ∧ Hid (out.length = a.length + b.length ∧ I.Dig out ∧ I.val out = I.val (a.take i) * I.val b ∧ out.drop (i + b.length) = List.replicate (a.length - i) 0) ∧ Hid (Bk wr W17.heap.size out) ∧ Hid (Below W17.heap.size W17 wr)) (fun ix _ => a.length - (intOf ix).toNat)
 case atStart => exact ⟨0, List.replicate (a.length + b.length) 0, by omega, rfl, Lib.hid ⟨by simp, I.Dig.rep _, by rw [I.val_rep]; simp [I.val], by simp⟩, HNW, HBW⟩
 case round =>
  obtain ⟨i, out, hi, rfl, HV, HB_, HN⟩ := hrel
  obtain ⟨wo, rfl⟩ : ∃ wo : World, wo = wr := ⟨_, rfl⟩
  by_cases hi2 : i < a.length
  ·obtain ⟨d, hd⟩ : ∃ d, a[i]? = some d := ⟨_, List.getElem?_eq_getElem hi2⟩
   obtain ⟨hd0, hd1⟩ := HDA.out.get hd
   obtain ⟨ba, oa, ca2, hA, _, _, hba, hcA⟩ := kg.out.at_ (by omega)
   injection hA with hA _ hcc
   subst hA; subst hcc
   have f1 := hcA wo HN.out i d hd
   have HD := Lib.hid hd; have HCA := Lib.hid hcA
   clear hcA hd
   go_wp2_with fail
   go_loopw [56, 10] (fun ix cy wi => ∃ (k : Nat) (o2 : List Int) (c : Int), k ≤ b.length ∧ ix = .int .i64 k ∧ cy = .int .i64 c ∧ 0 ≤ c ∧ c < 1000000000 ∧ Hid (o2.length = a.length + b.length ∧ I.Dig o2 ∧ I.val o2 + c * I.pw (i + k) = I.val (a.take i) * I.val b + d * I.val (b.take k) * I.pw i ∧ o2.drop (i + b.length) = List.replicate (a.length - i) 0) ∧ Hid (Bk wi W17.heap.size o2) ∧ Hid (Below W17.heap.size W17 wi)) (fun ix _ _ => b.length - (intOf ix).toNat)
   case atStart => exact ⟨0, out, 0, by omega, rfl, rfl, by omega, by omega, Lib.hid ⟨HV.out.1, HV.out.2.1, by rw [HV.out.2.2.1]; simp [I.val], HV.out.2.2.2⟩, HB_, HN⟩
   case round =>
    obtain ⟨k, o2, c, hk, rfl, rfl, kj, kk, HV2, HB2_, HN2⟩ := hrel
    by_cases hk2 : k < b.length
    ·obtain ⟨e, he⟩ : ∃ e, b[k]? = some e := ⟨_, List.getElem?_eq_getElem hk2⟩
     obtain ⟨he0, he1⟩ := HDB.out.get he
     obtain ⟨bb, ob, cb2, hB, _, _, hbb, hcB⟩ := kh.out.at_ (by omega)
     injection hB with hB _ hcc
     subst hB; subst hcc
     have f2 := hcB wr HN2.out k e he
     obtain ⟨y, hy⟩ : ∃ y, o2[i + k]? = some y := ⟨_, List.getElem?_eq_getElem (by rw [HV2.out.1]; omega)⟩
     obtain ⟨hy0, hy1⟩ := HV2.out.2.1.get hy
     have f3 := HB2_.out.cell hy
     have f4 := HB2_.out.frozen (i + k)
     have hp0 : 0 ≤ d * e := Int.mul_nonneg hd0 he0
     have hp1 : d * e ≤ 999999999 * 999999999 := Int.mul_le_mul (by omega) (by omega) he0 (by omega)
     have hp2 : d * e ≤ 999999998000000001 := by omega
     have hik : (i : Int) + (k : Int) < (a.length : Int) + (b.length : Int) := by omega
     have hst := I.mul_step (c := c) (c' := (y + d * e + c) / 1000000000) hy HV2.out.2.2.1 he rfl
     obtain ⟨hs0, hs1⟩ : 0 ≤ y + d * e + c - (y + d * e + c) / 1000000000 * 1000000000 ∧ y + d * e + c - (y + d * e + c) / 1000000000 * 1000000000 < 1000000000 := by omega
     obtain ⟨ht0, ht1⟩ : 0 ≤ (y + d * e + c) / 1000000000 ∧ (y + d * e + c) / 1000000000 < 1000000000 := by omega
     have hst2 := HB2_.out.set_ (i + k) (y + d * e + c - (y + d * e + c) / 1000000000 * 1000000000)
     have HST := Lib.hid hst; have HST2 := Lib.hid hst2
     clear hp1 hst hst2 hcB he hy
     go_wp2
     go_roundw
     case rel =>
      refine ⟨k + 1, _, _, by omega, by go_num, rfl, ht0, ht1, Lib.hid ⟨?_, HV2.out.2.1.set hs0 hs1, HST.out, ?_⟩, HST2, Lib.hid (HN2.out.setCell (Nat.le_refl _) _)⟩
      ·rw [List.length_set]; exact HV2.out.1
      ·rw [I.drop_set (by omega)]; exact HV2.out.2.2.2
     case measure => simp [intOf]; omega
    ·obtain rfl : k = b.length := by omega
     have hrep := HV2.out.2.2.2
     rw [show a.length - i = (a.length - (i + 1)) + 1 from by omega] at hrep
     have hy := I.get_drop_rep hrep
     have f3 := HB2_.out.cell hy
     have f4 := HB2_.out.frozen (i + b.length)
     have hib : (i : Int) + (b.length : Int) < (a.length : Int) + (b.length : Int) := by omega
     have h5 := HV2.out.2.2.1
     rw [I.val_take_over (Nat.le_refl _)] at h5
     have hst := I.mul_last hy h5 HD.out
     have hst2 := HB2_.out.set_ (i + b.length) c
     have HST := Lib.hid hst; have HST2 := Lib.hid hst2; have HREP := Lib.hid hrep
     clear hst hst2 hrep hy h5
     go_wp2
     go_roundw
     case rel =>
      have hr2 : ∃ (i2 : Nat) (out2 : List Int), i2 ≤ a.length ∧ Value.int .i64 ((i : Int) + 1) = .int .i64 i2 ∧ Hid (out2.length = a.length + b.length ∧ I.Dig out2 ∧ I.val out2 = I.val (a.take i2) * I.val b ∧ out2.drop (i2 + b.length) = List.replicate (a.length - i2) 0) ∧ Hid (Bk (wr.setCell ⟨W17.heap.size, i + b.length, none⟩ (.int .i64 c)) W17.heap.size out2) ∧ Hid (Below W17.heap.size W17 (wr.setCell ⟨W17.heap.size, i + b.length, none⟩ (.int .i64 c))) := by
       refine ⟨i + 1, _, by omega, by go_num, Lib.hid ⟨?_, HV2.out.2.1.set kj kk, HST.out, ?_⟩, HST2, Lib.hid (HN2.out.setCell (Nat.le_refl _) _)⟩
       ·rw [List.length_set]; exact HV2.out.1
       ·rw [I.drop_set (by omega)]
        have h6 := congrArg (List.drop 1) HREP.out
        rw [List.drop_drop, List.replicate_succ, List.drop_succ_cons, List.drop_zero] at h6
        rw [show i + 1 + b.length = i + b.length + 1 from by omega]
        exact h6
      first | exact hr2 | ((repeat apply Exists.intro); exact ⟨hr2, rfl⟩)
     case measure => simp [intOf]; omega
  ·obtain rfl : i = a.length := by omega
   have hsl := HB_.out.sl (n := a.length + b.length) (c := a.length + b.length) HV.out.1.symm (Nat.le_refl _) (by unfold maxLen; omega)
   have hb := HN.out
   have hva : I.val out = I.val a * I.val b := by
    have h1 := HV.out.2.2.1
    rwa [I.val_take_over (Nat.le_refl _)] at h1
   have HSL := Lib.hid hsl; have HVA := Lib.hid hva
   clear hsl hva
   have ka := k7.below hb
   obtain ⟨kL, kM, kN, -⟩ := ka.f2
   have kb := k8.below hb
   obtain ⟨kO, kP, kQ, -⟩ := kb.f2
   have kc := k9.below hb
   obtain ⟨kR, kS, kT, -⟩ := kc.f2
   have kl := Lib.hid (Blw ki.out hb)
   clear hb
   go_wp2_with fail
   have k2 := of_any (!(p == q)) _ out wo HSL.out HV.out.2.1
   rw [HVA.out] at k2
   (with_reducible refine k2.mono ?_)
   clear k2
   rintro e w48 ⟨r0, r1, rfl, k3, k0⟩
   have km := ka.below k0
   obtain ⟨kU, kV, kW, -⟩ := km.f2
   have kn := kb.below k0
   obtain ⟨kX, kY, kZ, -⟩ := kn.f2
   have kd := kc.below k0
   obtain ⟨ko, kq, k00, -⟩ := kd.f2
   have kr := Lib.hid (Blw kl.out k0)
   have ks := Lib.hid k3
   obtain ⟨o_r0, o_r1⟩ := k3.ones
   clear k3 k0
   go_wp2
   have hkp := (Kp.refl w48).t2 kd r0 r1
   refine bodyPost_ret (v := .agg #[r0, r1]) (by simp [results, Tryz.results84, go_sem, ko, kq]) rfl ⟨_, _, rfl, ?_, bel2 (kr.out) (by first | simp | omega)⟩
   exact ks.out.kp hkp
set_option maxRecDepth 100000 in
theorem mul_many1 (p q : Bool) (va vb : Value) (a b : List Int) (w : World) (ha : Sl w va a) (hb : Sl w vb b) (da : I.Dig a) (db : I.Dig b) (hl : a.length + b.length ≤ 1000000000000) (h1 : ((a.length : Int) == 1) = true) (h2 : ((b.length : Int) == 1) = false) :
  Calls Tryz.prog 84 #[.agg #[.bool p, va], .agg #[.bool q, vb]] w (RI (sg (!(p == q)) (I.val a * I.val b)) w) := by
 obtain ⟨A, ca, rfl, hca, hma⟩ := ha.form_
 obtain ⟨B, cb, rfl, hcb, hmb⟩ := hb.form_
 have HSA := Lib.hid ha; have HSB := Lib.hid hb; have HDA := Lib.hid da; have HDB := Lib.hid db
 clear ha hb da db
 unfold maxLen at hma hmb
 have hmk := fun u => run_make_il (a.length + b.length) (by omega) ((a.length : Int) + (b.length : Int)) (by omega) u
 go_enter Tryz.func84, Tryz.ntmps84
 go_wp2_with fail
 generalize hW : ((w.alloc _).alloc _).alloc _ = W1
 obtain ⟨k4, k5, k6, hB⟩ := box3 hW
 have k1 := Lib.hid hB; clear hW hB
 have F6 := Lib.hid (HSA.out.kp (.of k1.out))
 have F7 := Lib.hid (HSB.out.kp (.of k1.out))
 obtain ⟨kt, ku, kv, -⟩ := k4.f2
 obtain ⟨kw, kx, ky, -⟩ := k5.f2
 obtain ⟨kz, kA, kB, -⟩ := k6.f2
 go_quiet (fail)
 generalize hW : W1.drewN _ = W17
 have hB : Below W1.heap.size W1 W17 := by rw [← hW]; exact bdN (Below.refl _ _) _
 clear hW
 have k7 := k4.below hB
 obtain ⟨kC, kD, kE, -⟩ := k7.f2
 have k8 := k5.below hB
 obtain ⟨kF, kG, kH, -⟩ := k8.f2
 have k9 := k6.below hB
 obtain ⟨kI, kJ, kK, -⟩ := k9.f2
 have kg := Lib.hid (F6.out.kp (.of hB))
 have kh := Lib.hid (F7.out.kp (.of hB))
 have ki := Lib.hid (Blw k1.out hB)
 clear hB
 have hmk2 := hmk W17
 clear hmk
 have HNW := Lib.hid (Bk.new W17 (a.length + b.length))
 have HBW := Lib.hid ((Below.refl W17.heap.size W17).alloc (Nat.le_refl _) (.cells (zs (a.length + b.length)) 3))
 go_wp2
 clear hmk2
 go_loopw [49] (fun ix wr => ∃ (i : Nat) (out : List Int), i ≤ a.length ∧ ix = .int .i64 i ∧ Hid (out.length = a.length + b.length ∧ I.Dig out ∧ I.val out = I.val (a.take i) * I.val b ∧ out.drop (i + b.length) = List.replicate (a.length - i) 0) ∧ Hid (Bk wr W17.heap.size out) ∧ Hid (Below W17.heap.size W17 wr)) (fun ix _ => a.length - (intOf ix).toNat)
 case atStart => exact ⟨0, List.replicate (a.length + b.length) 0, by omega, rfl, Lib.hid ⟨by simp, I.Dig.rep _, by rw [I.val_rep]; simp [I.val], by simp⟩, HNW, HBW⟩
 case round =>
  obtain ⟨i, out, hi, rfl, HV, HB_, HN⟩ := hrel
  obtain ⟨wo, rfl⟩ : ∃ wo : World, wo = wr := ⟨_, rfl⟩
  by_cases hi2 : i < a.length
  ·obtain ⟨d, hd⟩ : ∃ d, a[i]? = some d := ⟨_, List.getElem?_eq_getElem hi2⟩
   obtain ⟨hd0, hd1⟩ := HDA.out.get hd
   obtain ⟨ba, oa, ca2, hA, _, _, hba, hcA⟩ := kg.out.at_ (by omega)
   injection hA with hA _ hcc
   subst hA; subst hcc
   have f1 := hcA wo HN.out i d hd
   have HD := Lib.hid hd; have HCA := Lib.hid hcA
   clear hcA hd
   go_wp2_with fail
   go_loopw [56, 10] (fun ix cy wi => ∃ (k : Nat) (o2 : List Int) (c : Int), k ≤ b.length ∧ ix = .int .i64 k ∧ cy = .int .i64 c ∧ 0 ≤ c ∧ c < 1000000000 ∧ Hid (o2.length = a.length + b.length ∧ I.Dig o2 ∧ I.val o2 + c * I.pw (i + k) = I.val (a.take i) * I.val b + d * I.val (b.take k) * I.pw i ∧ o2.drop (i + b.length) = List.replicate (a.length - i) 0) ∧ Hid (Bk wi W17.heap.size o2) ∧ Hid (Below W17.heap.size W17 wi)) (fun ix _ _ => b.length - (intOf ix).toNat)
   case atStart => exact ⟨0, out, 0, by omega, rfl, rfl, by omega, by omega, Lib.hid ⟨HV.out.1, HV.out.2.1, by rw [HV.out.2.2.1]; simp [I.val], HV.out.2.2.2⟩, HB_, HN⟩
   case round =>
    obtain ⟨k, o2, c, hk, rfl, rfl, kj, kk, HV2, HB2_, HN2⟩ := hrel
    by_cases hk2 : k < b.length
    ·obtain ⟨e, he⟩ : ∃ e, b[k]? = some e := ⟨_, List.getElem?_eq_getElem hk2⟩
     obtain ⟨he0, he1⟩ := HDB.out.get he
     obtain ⟨bb, ob, cb2, hB, _, _, hbb, hcB⟩ := kh.out.at_ (by omega)
     injection hB with hB _ hcc
     subst hB; subst hcc
     have f2 := hcB wr HN2.out k e he
     obtain ⟨y, hy⟩ : ∃ y, o2[i + k]? = some y := ⟨_, List.getElem?_eq_getElem (by rw [HV2.out.1]; omega)⟩
     obtain ⟨hy0, hy1⟩ := HV2.out.2.1.get hy
     have f3 := HB2_.out.cell hy
     have f4 := HB2_.out.frozen (i + k)
     have hp0 : 0 ≤ d * e := Int.mul_nonneg hd0 he0
     have hp1 : d * e ≤ 999999999 * 999999999 := Int.mul_le_mul (by omega) (by omega) he0 (by omega)
     have hp2 : d * e ≤ 999999998000000001 := by omega
     have hik : (i : Int) + (k : Int) < (a.length : Int) + (b.length : Int) := by omega
     have hst := I.mul_step (c := c) (c' := (y + d * e + c) / 1000000000) hy HV2.out.2.2.1 he rfl
     obtain ⟨hs0, hs1⟩ : 0 ≤ y + d * e + c - (y + d * e + c) / 1000000000 * 1000000000 ∧ y + d * e + c - (y + d * e + c) / 1000000000 * 1000000000 < 1000000000 := by omega
     obtain ⟨ht0, ht1⟩ : 0 ≤ (y + d * e + c) / 1000000000 ∧ (y + d * e + c) / 1000000000 < 1000000000 := by omega
     have hst2 := HB2_.out.set_ (i + k) (y + d * e + c - (y + d * e + c) / 1000000000 * 1000000000)
     have HST := Lib.hid hst; have HST2 := Lib.hid hst2
     clear hp1 hst hst2 hcB he hy
     go_wp2
     go_roundw
     case rel =>
      refine ⟨k + 1, _, _, by omega, by go_num, rfl, ht0, ht1, Lib.hid ⟨?_, HV2.out.2.1.set hs0 hs1, HST.out, ?_⟩, HST2, Lib.hid (HN2.out.setCell (Nat.le_refl _) _)⟩
      ·rw [List.length_set]; exact HV2.out.1
      ·rw [I.drop_set (by omega)]; exact HV2.out.2.2.2
     case measure => simp [intOf]; omega
    ·obtain rfl : k = b.length := by omega
     have hrep := HV2.out.2.2.2
     rw [show a.length - i = (a.length - (i + 1)) + 1 from by omega] at hrep
     have hy := I.get_drop_rep hrep
     have f3 := HB2_.out.cell hy
     have f4 := HB2_.out.frozen (i + b.length)
     have hib : (i : Int) + (b.length : Int) < (a.length : Int) + (b.length : Int) := by omega
     have h5 := HV2.out.2.2.1
     rw [I.val_take_over (Nat.le_refl _)] at h5
     have hst := I.mul_last hy h5 HD.out
     have hst2 := HB2_.out.set_ (i + b.length) c
     have HST := Lib.hid hst; have HST2 := Lib.hid hst2; have HREP := Lib.hid hrep
     clear hst hst2 hrep hy h5
     go_wp2
     go_roundw
     case rel =>
      have hr2 : ∃ (i2 : Nat) (out2 : List Int), i2 ≤ a.length ∧ Value.int .i64 ((i : Int) + 1) = .int .i64 i2 ∧ Hid (out2.length = a.length + b.length ∧ I.Dig out2 ∧ I.val out2 = I.val (a.take i2) * I.val b ∧ out2.drop (i2 + b.length) = List.replicate (a.length - i2) 0) ∧ Hid (Bk (wr.setCell ⟨W17.heap.size, i + b.length, none⟩ (.int .i64 c)) W17.heap.size out2) ∧ Hid (Below W17.heap.size W17 (wr.setCell ⟨W17.heap.size, i + b.length, none⟩ (.int .i64 c))) := by
       refine ⟨i + 1, _, by omega, by go_num, Lib.hid ⟨?_, HV2.out.2.1.set kj kk, HST.out, ?_⟩, HST2, Lib.hid (HN2.out.setCell (Nat.le_refl _) _)⟩
       ·rw [List.length_set]; exact HV2.out.1
       ·rw [I.drop_set (by omega)]
        have h6 := congrArg (List.drop 1) HREP.out
        rw [List.drop_drop, List.replicate_succ, List.drop_succ_cons, List.drop_zero] at h6
        rw [show i + 1 + b.length = i + b.length + 1 from by omega]
        exact h6
      first | exact hr2 | ((repeat apply Exists.intro); exact ⟨hr2, rfl⟩)
     case measure => simp [intOf]; omega
  ·obtain rfl : i = a.length := by omega
   have hsl := HB_.out.sl (n := a.length + b.length) (c := a.length + b.length) HV.out.1.symm (Nat.le_refl _) (by unfold maxLen; omega)
   have hb := HN.out
   have hva : I.val out = I.val a * I.val b := by
    have h1 := HV.out.2.2.1
    rwa [I.val_take_over (Nat.le_refl _)] at h1
   have HSL := Lib.hid hsl; have HVA := Lib.hid hva
   clear hsl hva
   have ka := k7.below hb
   obtain ⟨kL, kM, kN, -⟩ := ka.f2
   have kb := k8.below hb
   obtain ⟨kO, kP, kQ, -⟩ := kb.f2
   have kc := k9.below hb
   obtain ⟨kR, kS, kT, -⟩ := kc.f2
   have kl := Lib.hid (Blw ki.out hb)
   clear hb
   go_wp2_with fail
   have k2 := of_any (!(p == q)) _ out wo HSL.out HV.out.2.1
   rw [HVA.out] at k2
   (with_reducible refine k2.mono ?_)
   clear k2
   rintro e w48 ⟨r0, r1, rfl, k3, k0⟩
   have km := ka.below k0
   obtain ⟨kU, kV, kW, -⟩ := km.f2
   have kn := kb.below k0
   obtain ⟨kX, kY, kZ, -⟩ := kn.f2
   have kd := kc.below k0
   obtain ⟨ko, kq, k00, -⟩ := kd.f2
   have kr := Lib.hid (Blw kl.out k0)
   have ks := Lib.hid k3
   obtain ⟨o_r0, o_r1⟩ := k3.ones
   clear k3 k0
   go_wp2
   have hkp := (Kp.refl w48).t2 kd r0 r1
   refine bodyPost_ret (v := .agg #[r0, r1]) (by simp [results, Tryz.results84, go_sem, ko, kq]) rfl ⟨_, _, rfl, ?_, bel2 (kr.out) (by first | simp | omega)⟩
   exact ks.out.kp hkp
theorem imul_any (j k : Nat) (a0 a1 b0 b1 : Value) (x y : Int) (w : World) (hx : IntV w a0 a1 x) (hy : IntV w b0 b1 y) (bx : I.Bd j x) (by_ : I.Bd k y) (hk : j + k ≤ 1000000000000) :
  Calls Tryz.prog 84 #[.agg #[a0, a1], .agg #[b0, b1]] w (RI (x * y) w) := by
 obtain ⟨a, rfl, sa, ca, va⟩ := hx
 obtain ⟨b, rfl, sb, cb, vb⟩ := hy
 have la := bx.len ca va
 have lb := by_.len cb vb
 have e : sg (!(decide (x < 0) == decide (y < 0))) (I.val a * I.val b) = x * y := by
  rw [va, vb, ← Int.natCast_mul, ← Int.natAbs_mul]
  unfold sg
  by_cases h1 : x < 0 <;> by_cases h2 : y < 0 <;> simp [h1, h2, Int.natAbs_mul]
  ·have h3 : ((x.natAbs : Int)) = -x := by omega
   have h4 : ((y.natAbs : Int)) = -y := by omega
   rw [h3, h4]; grind
  ·have h3 : ((x.natAbs : Int)) = -x := by omega
   have h4 : ((y.natAbs : Int)) = y := by omega
   rw [h3, h4]; grind
  ·have h3 : ((x.natAbs : Int)) = x := by omega
   have h4 : ((y.natAbs : Int)) = -y := by omega
   rw [h3, h4]; grind
  ·have h3 : ((x.natAbs : Int)) = x := by omega
   have h4 : ((y.natAbs : Int)) = y := by omega
   rw [h3, h4]
 rw [← e]
 by_cases h1 : a.length = 1
 ·by_cases h2 : b.length = 1
  ·obtain ⟨d, rfl⟩ : ∃ d, a = [d] := List.length_eq_one_iff.1 h1
   obtain ⟨f, rfl⟩ : ∃ f, b = [f] := List.length_eq_one_iff.1 h2
   have hd := ca.1.head
   have hf := cb.1.head
   have hv : I.val [d] * I.val [f] = d * f := by simp [I.val]
   rw [hv]
   exact mul_one _ _ a1 b1 d f w sa sb hd.1 hd.2 hf.1 hf.2
  ·exact mul_many1 _ _ a1 b1 a b w sa sb ca.1 cb.1 (by omega) (by rw [h1]; rfl) (beq_eq_false_iff_ne.2 (by omega))
 ·exact mul_many0 _ _ a1 b1 a b w sa sb ca.1 cb.1 (by omega) (beq_eq_false_iff_ne.2 (by omega))
end Go.Proofs.YtcfejkpadcccbaaGreat
