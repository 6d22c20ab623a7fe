/-
 THE WALKS of the reference of package integer: times, divided.
-/
import Derived.Test.YtcfejkpadcccbaaGreatRef3C
import Derived.Test.YtcfejkpadcccbaaGreatWalkLong
import Derived.Test.YtcfejkpadcccbaaGreatWalkDvd
import Derived.OpenShut
import Derived.Deep.LoopGhost
namespace Go.Proofs.YtcfejkpadcccbaaGreat
set_option maxHeartbeats 4000000
open Go.RowKit
attribute [local go_sem] run_store_one
set_option linter.unusedVariables false
set_option maxRecDepth 100000 in
theorem wpList_append_sl (w : World) {ops : Array Oper} {rest : List Oper} {o : Oper} {a : Act} {Q : Exit → Act → World → Prop}
  (hg : o.guard = none) (s x : Operand) (t : TypeId) (hop : o.op = Op.call { callee := Callee.builtin Builtin.append, args := #[s, x], argTypes := #[t, t] })
  (i : TypeInfo) (h1 : Tryz.prog.underlying t = some (.slice 3)) (h2 : Tryz.prog.info? 3 = some i) (h3 : i.zero = some (.int .i64 0)) (h4 : i.size = 1) (h5 : i.bytes = 8)
  (A : Option Addr) (n : Nat) (olds : List Int) (hs : a.eval s = .slice A n n) (hA : Sl w (.slice A n n) olds) (hpos : 0 < n)
  (vx : Value) (news : List Int) (hx : a.eval x = vx) (hX : Sl w vx news) (b1 : n + news.length ≤ 1000000000000)
  (hK : ∀ v' w', Sl w' v' (olds ++ news) → Below w.heap.size w w' → wpList Tryz.prog ops Q rest (a.put o.dst v') w') :
  wpList Tryz.prog ops Q (o :: rest) a w := by
 have hA0 := hA
 obtain ⟨A', n', c', hv, hlo, _, _, hA, hAt⟩ := hA
 injection hv with e1 e2 e3
 subst e1; subst e2; subst e3
 obtain ⟨X, m, c, rfl, hn, _, _, hX, _⟩ := hX
 obtain ⟨b, f, rfl, hb, hc⟩ := hA (by simp; omega)
 rcases Nat.eq_zero_or_pos m with h0 | h0
 ·subst h0
  have hnews : news = [] := List.eq_nil_of_length_eq_zero hn.symm
  subst hnews
  refine wpList_plain hg fun K hK' => ?_
  have hrun : (Builtin.append_ #[t, t] o.type #[.slice (some ⟨b, f, none⟩) n n, .slice X 0 c]).run Tryz.prog w = .ok (.slice (some ⟨b, f, none⟩) n n) w := by
   cases X with
   | none => simp [Builtin.append_, run_underlying h1, sizeOf, typeInfo, h2, Builtin.lenOf, Builtin.firstCells, storeCells]
   | some ad =>
    have := run_append_room_cells (P := Tryz.prog) w t o.type 3 i h1 h2 b f n n ad 0 c [] (by simp) (fun j u hu => by simp at hu) (fun u hu => by simp at hu) (by omega) (fun j hj => by simp at hj) (fun j hj => by simp at hj)
    simpa [World.setCells] using this
  unfold Oper.wp
  simp [execOp, hop, resolve, invoke, builtin, hs, hx, hrun, Result.andThen]
  refine hK' _ _ (hK _ w ?_ (Below.refl _ _))
  rw [List.append_nil]
  exact hA0
 ·obtain ⟨b', f', rfl, _, hc'⟩ := hX (by simp; omega)
  refine wpList_append_grows w hg s x t hop 3 i (.int .i64 0) 1 8 h1 h2 h3 h4 h5 rfl (by decide) (some ⟨b, f, none⟩) n n (il olds) hs (fun h => by cases h) (by simp; omega) (fun ad had j u hu => ?_) ⟨b', f', none⟩ m c (il news) hx (by simp; omega) (fun j u hu => ?_) (il_oneCell _) (by omega) (by unfold maxLen; omega) (by omega) (fun v' w' hown hgr => ?_)
  ·injection had with had
   subst had
   rw [Addr.add_lit]
   exact hc j u hu
  ·rw [Addr.add_lit]
   exact hc' j u hu
  ·rw [← il_append] at hown
   rw [show n + m = (olds ++ news).length from by simp; omega] at hown
   exact hK _ _ (Sl.own hown) ⟨hgr.os, hgr.tape, hgr.output, hgr.size, fun k hk => hgr.block k hk (fun h => by cases h)⟩
theorem rmul3_len (m n : Nat) (a0 a1 b0 b1 : Value) (x y : Int) (w : World) (hx : IntV w a0 a1 x) (hy : IntV w b0 b1 y) (lx : ∀ l, I.Can l → I.val l = (x.natAbs : Int) → l.length ≤ m) (ly : ∀ l, I.Can l → I.val l = (y.natAbs : Int) → l.length ≤ n) (hx0 : 0 ≤ x) (hy0 : 0 ≤ y) (hk : m + n ≤ 1000000000000) :
  Calls Tryz.prog 107 #[.agg #[a0, a1], .agg #[b0, b1]] w (RI (x * y) w) := by
 obtain ⟨a, rfl, sa, ca, va⟩ := hx
 obtain ⟨b, rfl, sb, cb, vb⟩ := hy
 have la := lx a ca va
 have lb := ly b cb vb
 have h := mul3_own (decide (x < 0)) (decide (y < 0)) a1 b1 a b w sa sb ca.1 cb.1 (by omega)
 rw [va, vb, decide_eq_false (show ¬ x < 0 by omega), decide_eq_false (show ¬ y < 0 by omega)] at h
 rw [decide_eq_false (show ¬ x < 0 by omega), decide_eq_false (show ¬ y < 0 by omega)]
 have e : sg (!(false == false)) ((x.natAbs : Int) * (y.natAbs : Int)) = x * y := by
  show (x.natAbs : Int) * (y.natAbs : Int) = x * y
  rw [show (x.natAbs : Int) = x by omega, show (y.natAbs : Int) = y by omega]
 rw [e] at h
 exact h
set_option maxRecDepth 100000 in
theorem times3_any (va : Value) (a : List Int) (k : Int) (w : World) (ha : Sl w va a) (da : I.Dig a) (k0 : 0 ≤ k) (k1 : k < 1000000000) (hl : a.length ≤ 900000000000) :
  Calls Tryz.prog 141 #[va, .int .i64 k] w (RS (fun l => I.Can l ∧ I.val l = I.val a * k) w) := by
 have HA := Lib.hid ha; have HDA := Lib.hid da
 have hx0 := I.val_nonneg da
 have HX0 := Lib.hid hx0
 obtain ⟨X, hX⟩ : ∃ X, X = I.val a := ⟨_, rfl⟩
 have HX := Lib.hid hX
 clear ha da hx0 hX
 go_enter Tryz.func141, Tryz.ntmps141
 go_wp2_with fail
 have HBREFL := Lib.hid (Below.refl w.heap.size w)
 have k6 := normal_any false va a w HA.out HDA.out
 (with_reducible refine k6.mono ?_)
 clear k6
 rintro e w1 ⟨x0, x1, rfl, k2, k7⟩
 have kd := Lib.hid (Blw HBREFL.out k7)
 have F5 := Lib.hid k2
 obtain ⟨o_x0, o_x1⟩ := k2.ones
 clear k2 k7
 go_wp2_with fail
 have k8 := rof3_any k w1 ⟨by omega, by omega⟩
 (with_reducible refine k8.mono ?_)
 clear k8
 rintro e w6 ⟨y0, y1, rfl, k3, k4⟩
 have F9 := Lib.hid (F5.out.kp (.of k4))
 have ki := Lib.hid (Blw kd.out k4)
 have kj := Lib.hid k3
 obtain ⟨o_y0, o_y1⟩ := k3.ones
 clear k3 k4
 go_wp2_with fail
 have k9 := rmul3_len a.length 1 x0 x1 y0 y1 (sg false (I.val a)) k w6 F9.out kj.out (fun l hc hv => hc.len HDA.out (by rw [hv]; have := HX0.out; unfold sg; simp; omega)) (fun l hc hv => hc.len (b := [k]) (I.Dig.cons k0 k1 I.Dig.nil) (by rw [hv]; simp [I.val]; omega)) HX0.out k0 (by omega)
 (with_reducible refine k9.mono ?_)
 clear k9
 rintro e w12 ⟨z0, z1, rfl, k5, ka⟩
 have kb := Lib.hid (Blw ki.out ka)
 have kc := Lib.hid k5
 obtain ⟨o_z0, o_z1⟩ := k5.ones
 clear k5 ka
 obtain ⟨gz, Az, nz, cz, rfl, rfl⟩ := kc.out.form
 go_wp2
 go_ret
 obtain ⟨lz, hz1, hz2, hz3, hz4⟩ := kc.out
 refine ⟨_, lz, rfl, hz2.below ((Below.refl _ _).alloc (Nat.le_refl _) _), ⟨hz3, ?_⟩, kb.out.alloc kb.out.size _⟩
 rw [hz4]
 have h1 := HX0.out
 have h2 := Int.mul_nonneg h1 k0
 show ((I.val a * k).natAbs : Int) = I.val a * k
 omega
theorem tiny_b (va : Value) (l : List Int) (w : World) (ha : Sl w va l) (hd : I.Dig l) (hl : l.length ≤ 2) (X : Int) (hX : X = I.val l) :
  Calls Tryz.prog 130 #[va] w fun e w' => e = .returned (.int .i64 X) ∧ Below w.heap.size w w' :=
 (tiny_any va l w ha hd hl).mono fun _ _ ⟨h1, h2⟩ => ⟨by rw [h1, hX], by rw [← h2]; exact Below.refl _ _⟩
theorem tiny_lt {l : List Int} (hd : I.Dig l) (hl : l.length ≤ 2) : 0 ≤ I.val l ∧ I.val l < 1000000000000000000 := by
 have h1 := I.val_lt hd
 have h2 := I.pw_mono hl
 have h3 : I.pw 2 = 1000000000000000000 := rfl
 exact ⟨I.val_nonneg hd, by omega⟩
set_option maxRecDepth 100000 in
theorem div3_small (A B : Option Addr) (ca cb : Nat) (a b : List Int) (w : World) (ha : Sl w (.slice A a.length ca) a) (hb : Sl w (.slice B b.length cb) b) (da : I.Dig a) (db : I.Dig b) (hb0 : 0 < I.val b) (hla : a.length ≤ 2) (hlb : b.length ≤ 2) (h3 : ∀ l : List Int, I.Can l → I.val l ≤ I.val a → l.length ≤ a.length) :
  Calls Tryz.prog 135 #[.slice A a.length ca, .slice B b.length cb] w (LongIs a b w) := by
 have hA := tiny_lt da hla
 have hB_ := tiny_lt db hlb
 obtain ⟨X, hX⟩ : ∃ X, X = I.val a := ⟨_, rfl⟩
 obtain ⟨Y, hY⟩ : ∃ Y, Y = I.val b := ⟨_, rfl⟩
 rw [← hX] at hA
 rw [← hY] at hB_ hb0
 have HA := Lib.hid ha; have HB_ := Lib.hid hb; have HDA := Lib.hid da; have HDB := Lib.hid db; have HX := Lib.hid hX; have HY := Lib.hid hY; have H3 := Lib.hid h3
 have hq0 : 0 ≤ X / Y := Int.ediv_nonneg hA.1 (by omega)
 have hq1 : X / Y ≤ X := Int.ediv_le_self _ hA.1
 have hr0 : 0 ≤ X % Y := Int.emod_nonneg _ (by omega)
 have hr1 : X % Y < Y := Int.emod_lt_of_pos _ hb0
 have hY0 : (Y == 0) = false := beq_eq_false_iff_ne.2 (by omega)
 have hga := decide_eq_true hla
 have hgb := decide_eq_true hlb
 clear ha hb da db hX hY h3
 go_enter Tryz.func135, Tryz.ntmps135
 go_wp2_with fail
 have HBREFL := Lib.hid (Below.refl w.heap.size w)
 have k8 := tiny_b (.slice A a.length ca) a w HA.out HDA.out hla X HX.out
 (with_reducible refine k8.mono ?_)
 clear k8
 rintro e w1 ⟨rfl, k1⟩
 have F3 := Lib.hid (HA.out.kp (.of k1))
 have F4 := Lib.hid (HB_.out.kp (.of k1))
 have ki := Lib.hid (Blw HBREFL.out k1)
 clear k1
 go_wp2_with fail
 have ka := tiny_b (.slice B b.length cb) b w1 F4.out HDB.out hlb Y HY.out
 (with_reducible refine ka.mono ?_)
 clear ka
 rintro e w6 ⟨rfl, k2⟩
 have F8 := Lib.hid (F3.out.kp (.of k2))
 have F9 := Lib.hid (F4.out.kp (.of k2))
 have kl := Lib.hid (Blw ki.out k2)
 clear k2
 go_wp2_with fail
 have kb := rof3_any (X / Y) w6 ⟨by omega, by omega⟩
 (with_reducible refine kb.mono ?_)
 clear kb
 rintro e w11 ⟨q0, q1, rfl, k6, k3⟩
 have km := Lib.hid (F8.out.kp (.of k3))
 have kn := Lib.hid (F9.out.kp (.of k3))
 have ko := Lib.hid (Blw kl.out k3)
 have kq := Lib.hid k6
 obtain ⟨o_q0, o_q1⟩ := k6.ones
 clear k6 k3
 go_wp2_with fail
 generalize hW : w11.alloc _ = W17
 obtain ⟨kc, hB⟩ := box1 hW
 clear hW
 have kr := Lib.hid (km.out.kp (.of hB))
 have ks := Lib.hid (kn.out.kp (.of hB))
 have kt := Lib.hid (kq.out.kp (.of hB))
 have ku := Lib.hid (Blw ko.out hB)
 clear hB
 obtain ⟨kJ, kK, kL, kM⟩ := kc.f2
 have kd := tiny_b (.slice A a.length ca) a W17 kr.out HDA.out hla X HX.out
 (with_reducible refine kd.mono ?_)
 clear kd
 rintro e w27 ⟨rfl, k0⟩
 obtain ⟨kv, kN, kO, kP, kQ⟩ := kc.b2 k0
 have kw := Lib.hid (ks.out.kp (.of k0))
 have kx := Lib.hid (kt.out.kp (.of k0))
 have ky := Lib.hid (Blw ku.out k0)
 clear k0
 go_wp2_with fail
 have ke := tiny_b (.slice B b.length cb) b w27 kw.out HDB.out hlb Y HY.out
 (with_reducible refine ke.mono ?_)
 clear ke
 rintro e w38 ⟨rfl, k4⟩
 obtain ⟨kz, kR, kS, kT, kU⟩ := kv.b2 k4
 have kA := Lib.hid (kx.out.kp (.of k4))
 have kB := Lib.hid (Blw ky.out k4)
 clear k4
 go_wp2_with fail
 have kf := rof3_any (X % Y) w38 ⟨by omega, by omega⟩
 (with_reducible refine kf.mono ?_)
 clear kf
 rintro e w49 ⟨r0, r1, rfl, k7, k5⟩
 obtain ⟨kg, kV, kW, kX, kY⟩ := kz.b2 k5
 have kC := Lib.hid (kA.out.kp (.of k5))
 have kD := Lib.hid (Blw kB.out k5)
 have kE := Lib.hid k7
 obtain ⟨o_r0, o_r1⟩ := k7.ones
 clear k7 k5
 go_wp2_with fail
 generalize hW : w49.alloc _ = W61
 obtain ⟨kF, hB⟩ := box1 hW
 have kZ := kg.lt
 clear hW
 obtain ⟨k00, k01, k02, k03, l68⟩ := kg.b2 hB
 have kG := Lib.hid (kC.out.kp (.of hB))
 have kH := Lib.hid (kE.out.kp (.of hB))
 have kI := Lib.hid (Blw kD.out hB)
 clear hB
 obtain ⟨k05, k06, k07, l77⟩ := kF.f2
 go_upto_region 4 with fail
 go_quiet (fail)
 go_wp2
 go_ret2
 obtain ⟨lq, hq1_, hq2, hq3, hq4⟩ := kG.out
 obtain ⟨lr, hr1_, hr2, hr3, hr4⟩ := kH.out
 have e1 : I.val lq = X / Y := by rw [hq4]; omega
 have e2 : I.val lr = X % Y := by rw [hr4]; omega
 have e3 := Int.mul_ediv_add_emod X Y
 have e4 : X % Y ≤ X := by
  have := Int.mul_nonneg (show 0 ≤ Y by omega) hq0
  omega
 exact ⟨_, _, lq, lr, rfl, hq2.kp ((Kp.refl _).drewN _), hq3.1, hr2.kp ((Kp.refl _).drewN _), hr3.1, by rw [e1, e2, ← HX.out, ← HY.out, Int.mul_comm]; exact e3.symm, by rw [e2, ← HY.out]; exact hr1, H3.out lq hq3 (by rw [e1, ← HX.out]; exact hq1), H3.out lr hr3 (by rw [e2, ← HX.out]; exact e4), bdN kI.out _⟩
/-- Where the rounds of divided stand: k digits are left; r is the rest, qs the digits that were found. -/
structure DivAt (a b : List Int) (k : Nat) (w wr : World) (gq : Nat) (rv : Value) (r qs : List Int) : Prop where
 cr : I.Can r
 dq : I.Dig qs
 lq : k + qs.length = a.length
 e : I.val (a.drop k) = I.val qs * I.val b + I.val r
 lt : I.val r < I.val b
 bq : Bk wr gq (List.replicate k 0 ++ qs)
 sr : Sl wr rv r
 bw : Below w.heap.size w wr
theorem DivAt.len {a b : List Int} {k gq : Nat} {w wr : World} {rv : Value} {r qs : List Int} (h : DivAt a b k w wr gq rv r qs) (db : I.Dig b) : r.length ≤ b.length := h.cr.len db (by have := h.lt; omega)
theorem DivAt.next {a b : List Int} {k gq : Nat} {w wr wx : World} {rv v : Value} {r qs r2 : List Int} {d lo : Int} (h : DivAt a b (k + 1) w wr gq rv r qs) (hd : a[k]? = some d) (l0 : 0 ≤ lo) (l1 : lo < 1000000000) (c2 : I.Can r2)
  (e2 : I.val r2 = I.val (d :: r) - lo * I.val b) (lt : I.val r2 < I.val b) (bq : Bk wx gq (List.replicate k 0 ++ lo :: qs)) (sr : Sl wx v r2) (bw : Below w.heap.size w wx) : DivAt a b k w wx gq v r2 (lo :: qs) := by
 refine ⟨c2, h.dq.cons_ l0 l1, by have := h.lq; simp only [List.length_cons]; omega, ?_, lt, bq, sr, bw⟩
 have h1 := h.e
 rw [I.val_drop_succ hd, h1, e2]
 simp only [I.val]
 grind
theorem Sl.keepF {w : World} {v u : Value} {l : List Int} {B g j : Nat} (h : Sl w v l) (hF : Fr B v) (hg : g < B) : Sl (w.setCell ⟨g, j, none⟩ u) v l := by
 obtain ⟨A, n, c, rfl, h2, h3, h4, h5, h6⟩ := h
 refine ⟨A, n, c, rfl, h2, h3, h4, fun hn => ?_, fun hn => ?_⟩
 ·obtain ⟨b, o, hA, hb, hc⟩ := h5 hn
  subst hA
  have hne : b ≠ g := by have := hF ⟨b, o, none⟩ n c rfl; simp only at this; omega
  refine ⟨b, o, rfl, by simpa [World.setCell] using hb, fun k u hu => ?_⟩
  exact kset (hc k u hu) hne
 ·obtain ⟨b, o, cs, fr, hA, hb⟩ := h6 hn
  subst hA
  have hne : b ≠ g := by have := hF ⟨b, o, none⟩ n c rfl; simp only at this; omega
  exact ⟨b, o, cs, fr, rfl, (Below.heap_setCell w ⟨g, j, none⟩ u b hne).trans hb⟩
set_option maxRecDepth 100000 in
theorem div3_big (A B : Option Addr) (ca cb : Nat) (a b : List Int) (w : World) (ha : Hid (Sl w (.slice A a.length ca) a)) (hb : Hid (Sl w (.slice B b.length cb) b)) (da : Hid (I.Dig a)) (cb_ : Hid (I.Can b)) (hb0 : Hid (0 < I.val b)) (hla : a.length ≤ 800000000000) (hlb : b.length ≤ 800000000000) (hm : ¬ (a.length ≤ 2 ∧ b.length ≤ 2)) :
  Calls Tryz.prog 135 #[.slice A a.length ca, .slice B b.length cb] w (LongIs a b w) := by
 obtain ⟨i0, hi, hz0, hz1, hz2⟩ := info_parts info_i64
 have hmk := run_make_il a.length (by omega) (a.length : Int) (by omega) w
 have hst : Hid ((∀ l : List Int, l.length = a.length → l.length ≤ a.length)) := Lib.hid (fun l h => by omega)
 have main : ∀ (hg : Hid True), True := fun _ => trivial
 clear main hst
 go_enter Tryz.func135, Tryz.ntmps135
 by_cases h1 : a.length ≤ 2
 ·have h2 : ¬ b.length ≤ 2 := fun h => hm ⟨h1, h⟩
  have g1 := decide_eq_true h1
  have g2 := decide_eq_false h2
  have g2' : decide ((b.length : Int) ≤ 2) = false := decide_eq_false (by omega)
  go_wp2_with fail
  clear hmk
  go_loopg [9, 10] a.length (fun gk s9 s10 wr => ∃ r qs, gk ≤ a.length ∧ s10 = .int .i64 ((gk : Int) - 1) ∧ DivAt a b gk w wr w.heap.size s9 r qs)
  case atStart => exact ⟨[], [], Nat.le_refl _, rfl, ⟨I.Can.nil, I.Dig.nil, by simp, by rw [List.drop_length]; simp [I.val], hb0.out, by rw [List.append_nil]; exact Bk.new w _, Sl.nil _, (Below.refl _ _).alloc (Nat.le_refl _) _⟩⟩
  case round =>
   obtain ⟨r, qs, hgk, rfl, HL⟩ := hrel
   have hrf := HL.sr.form_
   obtain ⟨Ar, cr, hrv, _, _⟩ := hrf
   subst hrv
   cases gk with
   | zero =>
    rw [show ((0 : Nat) : Int) - 1 = -1 from rfl]
    have HLH := Lib.hid HL
    clear HL
    go_wp2
    go_ret2
    have hbq := HLH.out.bq
    rw [List.replicate_zero, List.nil_append] at hbq
    have hlq := HLH.out.lq
    have hlr := HLH.out.len cb_.out.1
    have he := HLH.out.e
    rw [List.drop_zero] at he
    refine ⟨_, _, qs, r, rfl, hbq.sl (n := a.length) (c := a.length) (by omega) (Nat.le_refl _) (by unfold maxLen; omega), HLH.out.dq, HLH.out.sr, HLH.out.cr.1, he, HLH.out.lt, by omega, ?_, HLH.out.bw⟩
    exact HLH.out.cr.len da.out (by have := I.val_nonneg HLH.out.dq; have := hb0.out; have h5 : 0 ≤ I.val qs * I.val b := Int.mul_nonneg (by omega) (by omega); omega)
   | succ j =>
    rw [show ((j + 1 : Nat) : Int) - 1 = (j : Int) from by omega]
    obtain ⟨wo, rfl⟩ : ∃ wo : World, wo = wr := ⟨_, rfl⟩
    obtain ⟨d, hd⟩ : ∃ d, a[j]? = some d := ⟨_, List.getElem?_eq_getElem (by omega)⟩
    have hdd := da.out.get hd
    obtain ⟨ba, oa, ca2, hA, _, _, hba, hcA⟩ := ha.out.at_ (by omega)
    injection hA with hA _ hcc
    subst hA; subst hcc
    have f1 := hcA wo HL.bw j d hd
    have hlr := HL.len cb_.out.1
    have HD := Lib.hid hd; have HLH := Lib.hid HL; have HA2 := Lib.hid hcA
    have hs1 : Sl (wo.alloc (.cells #[.int .i64 d] 3)) (.slice (some ⟨wo.heap.size, 0, none⟩) 1 1) [d] := (show Bk (wo.alloc (.cells #[.int .i64 d] 3)) wo.heap.size [d] from heap_alloc_new wo _).sl rfl (Nat.le_refl _) (by decide)
    have hs2 : Sl (wo.alloc (.cells #[.int .i64 d] 3)) (.slice Ar r.length cr) r := HL.sr.alloc _
    have HS1 := Lib.hid hs1; have HS2 := Lib.hid hs2
    clear hd HL hcA hs1 hs2
    go_wp2_with (at_builtin; refine wpList_append_sl _ rfl (.tmp 54) (.tmp 55) _ rfl i0 Tryz.underlying22 hi hz0 hz1 hz2 (some ⟨wo.heap.size, 0, none⟩) 1 [d] rfl HS1.out (by omega) (.slice Ar r.length cr) r rfl HS2.out (by omega) ?_)
    intro v1 w1 hv1 kb
    have hB1 : Below wo.heap.size wo w1 := ((Below.refl _ _).alloc (Nat.le_refl _) _).trans (kb.mono (by simp))
    have HV1 := Lib.hid hv1; have ki := Lib.hid hB1
    clear hv1 kb hB1
    go_wp2_with fail
    have kc := normal_any false v1 ([d] ++ r) w1 HV1.out (I.Dig.append (I.Dig.cons hdd.1 hdd.2 I.Dig.nil) HLH.out.cr.1)
    (with_reducible refine kc.mono ?_)
    clear kc
    rintro e w2 ⟨x0, x1, rfl, kj, kd⟩
    have hX0 : 0 ≤ I.val (d :: r) := I.val_nonneg (I.Dig.cons hdd.1 hdd.2 HLH.out.cr.1)
    obtain ⟨lx, hx0_, hx2, hx3, hx4⟩ := kj
    subst hx0_
    obtain ⟨Ax, cx, hxv, _, _⟩ := hx2.form_
    subst hxv
    have hx5 : I.val lx = I.val (d :: r) := by
     rw [hx4]
     show ((I.val ([d] ++ r)).natAbs : Int) = _
     show ((I.val (d :: r)).natAbs : Int) = _
     omega
    have hsgn : decide (sg false (I.val ([d] ++ r)) < 0) = false := decide_eq_false (by show ¬ I.val (d :: r) < 0; omega)
    rw [hsgn]
    have kk := Lib.hid (Blw ki.out kd)
    have HX2 := Lib.hid hx2; have HX3 := Lib.hid hx3; have HX5 := Lib.hid hx5
    clear hx2 hx3 hx4 hx5 kd hsgn
    go_wp2_with fail
    obtain ⟨w3, hw3⟩ : ∃ W, W = w2.alloc (.cells #[.bool false, .slice Ax lx.length cx] 31) := ⟨_, rfl⟩
    rw [← hw3]
    have k6 : Below w2.heap.size w2 w3 := by rw [hw3]; exact (Below.refl _ _).alloc (Nat.le_refl _) _
    have ke := Lib.hid (Blw kk.out k6)
    have HX6 := Lib.hid (HX2.out.below k6)
    clear hw3 k6 HX2
    have hcmp := compared_b (.slice Ax lx.length cx) (.slice B b.length cb) lx b w3 HX6.out (hb.out.below (Blw HLH.out.bw ke.out)) HX3.out cb_.out
    obtain ⟨z, hz⟩ : ∃ z, z = cmpZ (I.val lx) (I.val b) := ⟨_, rfl⟩
    rw [← hz] at hcmp
    have HZ := Lib.hid hz
    clear hz
    (with_reducible refine hcmp.mono ?_)
    clear hcmp
    rintro e w4 ⟨rfl, k7⟩
    have k2 := Lib.hid (Blw ke.out k7)
    have HX7 := Lib.hid (HX6.out.below k7)
    clear k7 HX6
    have hvb := hb0.out
    have hX1 : I.val (d :: r) < 1000000000 * I.val b := by
     have := HLH.out.lt
     simp only [I.val]
     omega
    have HX1 := Lib.hid hX1
    clear hX1
    go_upto_if 63 with fail
    go_cut [13] from 46 to 92 (fun s13 wx => ∃ hi : Int, s13 = .int .i64 hi ∧ 0 ≤ hi ∧ hi < 1000000000 ∧ Hid (I.val (d :: r) < (hi + 1) * I.val b) ∧ wx = w4)
    case first =>
     by_cases hz0_ : z < 0
     ·have hzt := decide_eq_true hz0_
      have hlt : I.val (d :: r) < (0 + 1) * I.val b := by
       have h1 := HZ.out
       rw [h1, HX5.out] at hz0_
       unfold cmpZ at hz0_
       split at hz0_
       ·omega
       ·split at hz0_ <;> omega
      have HLT := Lib.hid hlt
      clear hlt
      go_wp2
      go_meet
      exact ⟨0, rfl, by omega, by omega, HLT, rfl⟩
     ·have hzt := decide_eq_false hz0_
      go_wp2
      go_meet
      exact ⟨999999999, rfl, by omega, by omega, Lib.hid (by have := HX1.out; omega), rfl⟩
    case rest =>
     obtain ⟨hi, rfl, hi0, hi1, HHI, rfl⟩ := hcut
     obtain ⟨w4, rfl⟩ : ∃ w4 : World, w4 = wc := ⟨_, rfl⟩
     have hlx : lx.length ≤ b.length + 1 := by
      have h1 := HX3.out.len (b := d :: r) (I.Dig.cons hdd.1 hdd.2 HLH.out.cr.1) (by rw [HX5.out]; exact Int.le_refl _)
      simp only [List.length_cons] at h1
      omega
     go_wp2_with fail
     go_loopg [12, 13] (hi + 1).toNat (fun gk s12 s13 wx => ∃ lo hi : Int, s12 = .int .i64 lo ∧ s13 = .int .i64 hi ∧ 0 ≤ lo ∧ lo ≤ hi ∧ hi < 1000000000 ∧ (hi - lo).toNat < gk ∧ Hid (lo * I.val b ≤ I.val (d :: r) ∧ I.val (d :: r) < (hi + 1) * I.val b) ∧ Hid (Below w4.heap.size w4 wx))
     case atStart => exact ⟨0, hi, rfl, rfl, by omega, by omega, hi1, by omega, Lib.hid ⟨by have := hX0; omega, HHI.out⟩, Lib.hid (Below.refl _ _)⟩
     case round =>
      obtain ⟨lo, hi, rfl, rfl, hlo0, hlh, hhi1, hgk2, HLO, HBL⟩ := hrel
      have hBL : Below wo.heap.size wo wr := Blw k2.out HBL.out
      by_cases hlt : lo < hi
      ·have hltd := decide_eq_true hlt
       obtain ⟨mid, hmid⟩ : ∃ mid, mid = (lo + hi + 1) / 2 := ⟨_, rfl⟩
       have hm0 : lo < mid ∧ mid ≤ hi := by omega
       have hmd : (lo + hi + 1) / 2 = mid := hmid.symm
       have hsum : 0 ≤ lo + hi + 1 := by omega
       have ht := times3_any (.slice B b.length cb) b ((lo + hi + 1) / 2) wr (hb.out.below (Blw HLH.out.bw hBL)) cb_.out.1 (by omega) (by omega) (by omega)
       have HT_ := Lib.hid ht
       have HBL2 := Lib.hid hBL
       have HMD := Lib.hid hmd
       clear hmid hmd ht hBL
       go_wp2_with fail
       (with_reducible refine HT_.out.mono ?_)
       rintro e w5 ⟨v5, l5, rfl, hs5, hP5, k0⟩
       have hB5 : Below wo.heap.size wo w5 := Blw HBL2.out k0
       have k8 := compared_b v5 (.slice Ax lx.length cx) l5 lx w5 hs5 (HX7.out.below (Blw HBL.out k0)) hP5.1 HX3.out
       rw [hP5.2, HX5.out, HMD.out] at k8
       have HC5 := Lib.hid k8
       have k4 := Lib.hid (Blw HBL.out k0)
       clear hs5 hP5 k0 hB5 k8
       go_wp2_with fail
       obtain ⟨z5, hz5⟩ : ∃ z, z = cmpZ (I.val b * mid) (I.val (d :: r)) := ⟨_, rfl⟩
       have k9 := HC5.out
       rw [← hz5] at k9
       (with_reducible refine k9.mono ?_)
       clear k9
       rintro e w6 ⟨rfl, k1⟩
       have k5 := Lib.hid (Blw k4.out k1)
       clear k1
       by_cases hle : I.val b * mid ≤ I.val (d :: r)
       ·have hz6 : z5 ≤ 0 := by
         rw [hz5]; unfold cmpZ
         split
         ·omega
         ·split <;> omega
        have hz7 := decide_eq_true hz6
        have HLE := Lib.hid hle
        clear hle hz5
        go_wp2
        go_roundg (hi - mid).toNat.succ
        case measure => rw [← HMD.out]; have := HMD.out; omega
        case rel =>
         refine ⟨(lo + hi + 1) / 2, hi, rfl, rfl, by omega, by omega, hhi1, by have := HMD.out; omega, Lib.hid ⟨?_, HLO.out.2⟩, k5⟩
         rw [HMD.out, Int.mul_comm]; exact HLE.out
       ·have hz6 : ¬ z5 ≤ 0 := by
         rw [hz5]; unfold cmpZ
         rw [if_neg (by omega), if_pos (by omega)]
         omega
        have hz7 := decide_eq_false hz6
        have HLE := Lib.hid hle
        clear hle hz5
        go_wp2
        go_roundg (mid - 1 - lo).toNat.succ
        case measure => omega
        case rel =>
         refine ⟨lo, (lo + hi + 1) / 2 - 1, rfl, rfl, by omega, by have := HMD.out; omega, by have := HMD.out; omega, by have := HMD.out; omega, Lib.hid ⟨HLO.out.1, ?_⟩, k5⟩
         rw [HMD.out, Int.sub_add_cancel, Int.mul_comm]; have := HLE.out; omega
      ·have hltd := decide_eq_false hlt
       obtain rfl : lo = hi := by omega
       have ht := times3_any (.slice B b.length cb) b lo wr (hb.out.below (Blw HLH.out.bw hBL)) cb_.out.1 hlo0 hhi1 (by omega)
       have HT_ := Lib.hid ht
       have HBL2 := Lib.hid hBL
       clear ht hBL
       go_wp2_with fail
       (with_reducible refine HT_.out.mono ?_)
       rintro e w5 ⟨v5, l5, rfl, hs5, hP5, k0⟩
       have hle5 : I.val l5 ≤ I.val lx := by
        rw [hP5.2, HX5.out, Int.mul_comm]
        exact HLO.out.1
       have hm5 := minus3_f (.slice Ax lx.length cx) v5 lx l5 w5 (HX7.out.below (Blw HBL.out k0)) hs5 HX3.out.1 hP5.1.1 (by omega) (hP5.1.len HX3.out.1 hle5) hle5
       rw [hP5.2, HX5.out] at hm5
       have HM5 := Lib.hid hm5
       have k4 := Lib.hid (Blw HBL.out k0)
       clear hs5 hP5 k0 hm5 hle5
       go_wp2_with fail
       (with_reducible refine HM5.out.mono ?_)
       rintro e w6 ⟨v6, l6, rfl, hs6, hP6, k1, hF6⟩
       have hn6 := normal_f w5.heap.size false v6 l6 w6 hs6 hP6.1 hF6
       rw [hP6.2] at hn6
       have HN6 := Lib.hid hn6
       have k5 := Lib.hid (Blw k4.out k1)
       clear hs6 hP6 k1 hn6
       go_wp2_with fail
       (with_reducible refine HN6.out.mono ?_)
       rintro e w7 ⟨y0, y1, rfl, ⟨km, hF7⟩, kf⟩
       have hr7 : 0 ≤ I.val (d :: r) - I.val b * lo := by
        have := HLO.out.1
        rw [Int.mul_comm]; omega
       have hr8 : I.val (d :: r) - I.val b * lo < I.val b := by
        have h9 := HLO.out.2
        rw [Int.add_mul, Int.one_mul] at h9
        rw [Int.mul_comm]; omega
       obtain ⟨ly, hy0_, hy2, hy3, hy4⟩ := km
       subst hy0_
       obtain ⟨Ay, cy, hyv, _, _⟩ := hy2.form_
       subst hyv
       have hy5 : I.val ly = I.val (d :: r) - I.val b * lo := by
        rw [hy4]
        show ((I.val (d :: r) - I.val b * lo).natAbs : Int) = _
        omega
       have hsgn : decide (sg false (I.val (d :: r) - I.val b * lo) < 0) = false := decide_eq_false (by show ¬ I.val (d :: r) - I.val b * lo < 0; omega)
       rw [hsgn]
       have kg := Lib.hid (Blw k5.out kf)
       have HY2 := Lib.hid hy2; have HY3 := Lib.hid hy3; have HY5 := Lib.hid hy5; have HR8 := Lib.hid hr8
       clear hy2 hy3 hy4 hy5 kf hsgn hr7 hr8
       have hlen := HLH.out.lq
       have hgq := HLH.out.bq.lt
       obtain ⟨w8, hw8⟩ : ∃ W, W = w7.alloc (.cells #[.bool false, .slice Ay ly.length cy] 31) := ⟨_, rfl⟩
       have ka : Below w7.heap.size w7 w8 := by rw [hw8]; exact (Below.refl _ _).alloc (Nat.le_refl _) _
       have kh := Lib.hid (Blw (Blw k2.out kg.out) ka)
       have HY6 := Lib.hid (HY2.out.below ka)
       have hbq := HLH.out.bq.below kh.out hgq
       rw [List.replicate_succ', List.append_assoc, List.singleton_append] at hbq
       have q1 := hbq.cell (get_mid (List.length_replicate ..))
       have q2 := hbq.frozen j
       have hja : j < a.length := by omega
       have hne8 : w.heap.size ≠ w7.heap.size := by
        have h1 := kg.out.size
        have h2 := k2.out.size
        omega
       have hx8 : Bx w8 w7.heap.size 31 [.bool false, .slice Ay ly.length cy] := by rw [hw8]; exact Bx.new w7 _ _
       have hx9 := hx8.far_ (g' := w.heap.size) (j := j) (Ne.symm hne8) (.int .i64 lo)
       have c9 := hx9.cell (i := 1) rfl
       have HBQ := Lib.hid hbq; have HW8 := Lib.hid hw8
       rw [hw8] at q1 q2 c9
       clear hbq ka hw8 HY2 hx8 hx9
       go_wp2
       go_roundg j
       case measure => omega
       case rel =>
        refine ⟨ly, lo :: qs, by omega, by go_num, ?_⟩
        rw [← HW8.out]
        refine HLH.out.next HD.out hlo0 hhi1 HY3.out (by rw [HY5.out, Int.mul_comm lo]) (by rw [HY5.out]; exact HR8.out) (HBQ.out.mid (List.length_replicate ..) _) ?_ ((Blw HLH.out.bw kh.out).setCell (Nat.le_refl _) _)
        have h1 := k4.out.size
        have h2 := k2.out.size
        exact HY6.out.keepF (B := w5.heap.size) hF7 (by omega)
 ·have g1 := decide_eq_false h1
  have g1' : decide ((a.length : Int) ≤ 2) = false := decide_eq_false (by omega)
  go_wp2_with fail
  clear hmk
  go_loopg [9, 10] a.length (fun gk s9 s10 wr => ∃ r qs, gk ≤ a.length ∧ s10 = .int .i64 ((gk : Int) - 1) ∧ DivAt a b gk w wr w.heap.size s9 r qs)
  case atStart => exact ⟨[], [], Nat.le_refl _, rfl, ⟨I.Can.nil, I.Dig.nil, by simp, by rw [List.drop_length]; simp [I.val], hb0.out, by rw [List.append_nil]; exact Bk.new w _, Sl.nil _, (Below.refl _ _).alloc (Nat.le_refl _) _⟩⟩
  case round =>
   obtain ⟨r, qs, hgk, rfl, HL⟩ := hrel
   have hrf := HL.sr.form_
   obtain ⟨Ar, cr, hrv, _, _⟩ := hrf
   subst hrv
   cases gk with
   | zero =>
    rw [show ((0 : Nat) : Int) - 1 = -1 from rfl]
    have HLH := Lib.hid HL
    clear HL
    go_wp2
    go_ret2
    have hbq := HLH.out.bq
    rw [List.replicate_zero, List.nil_append] at hbq
    have hlq := HLH.out.lq
    have hlr := HLH.out.len cb_.out.1
    have he := HLH.out.e
    rw [List.drop_zero] at he
    refine ⟨_, _, qs, r, rfl, hbq.sl (n := a.length) (c := a.length) (by omega) (Nat.le_refl _) (by unfold maxLen; omega), HLH.out.dq, HLH.out.sr, HLH.out.cr.1, he, HLH.out.lt, by omega, ?_, HLH.out.bw⟩
    exact HLH.out.cr.len da.out (by have := I.val_nonneg HLH.out.dq; have := hb0.out; have h5 : 0 ≤ I.val qs * I.val b := Int.mul_nonneg (by omega) (by omega); omega)
   | succ j =>
    rw [show ((j + 1 : Nat) : Int) - 1 = (j : Int) from by omega]
    obtain ⟨wo, rfl⟩ : ∃ wo : World, wo = wr := ⟨_, rfl⟩
    obtain ⟨d, hd⟩ : ∃ d, a[j]? = some d := ⟨_, List.getElem?_eq_getElem (by omega)⟩
    have hdd := da.out.get hd
    obtain ⟨ba, oa, ca2, hA, _, _, hba, hcA⟩ := ha.out.at_ (by omega)
    injection hA with hA _ hcc
    subst hA; subst hcc
    have f1 := hcA wo HL.bw j d hd
    have hlr := HL.len cb_.out.1
    have HD := Lib.hid hd; have HLH := Lib.hid HL; have HA2 := Lib.hid hcA
    have hs1 : Sl (wo.alloc (.cells #[.int .i64 d] 3)) (.slice (some ⟨wo.heap.size, 0, none⟩) 1 1) [d] := (show Bk (wo.alloc (.cells #[.int .i64 d] 3)) wo.heap.size [d] from heap_alloc_new wo _).sl rfl (Nat.le_refl _) (by decide)
    have hs2 : Sl (wo.alloc (.cells #[.int .i64 d] 3)) (.slice Ar r.length cr) r := HL.sr.alloc _
    have HS1 := Lib.hid hs1; have HS2 := Lib.hid hs2
    clear hd HL hcA hs1 hs2
    go_wp2_with (at_builtin; refine wpList_append_sl _ rfl (.tmp 54) (.tmp 55) _ rfl i0 Tryz.underlying22 hi hz0 hz1 hz2 (some ⟨wo.heap.size, 0, none⟩) 1 [d] rfl HS1.out (by omega) (.slice Ar r.length cr) r rfl HS2.out (by omega) ?_)
    intro v1 w1 hv1 kb
    have hB1 : Below wo.heap.size wo w1 := ((Below.refl _ _).alloc (Nat.le_refl _) _).trans (kb.mono (by simp))
    have HV1 := Lib.hid hv1; have ki := Lib.hid hB1
    clear hv1 kb hB1
    go_wp2_with fail
    have kc := normal_any false v1 ([d] ++ r) w1 HV1.out (I.Dig.append (I.Dig.cons hdd.1 hdd.2 I.Dig.nil) HLH.out.cr.1)
    (with_reducible refine kc.mono ?_)
    clear kc
    rintro e w2 ⟨x0, x1, rfl, kj, kd⟩
    have hX0 : 0 ≤ I.val (d :: r) := I.val_nonneg (I.Dig.cons hdd.1 hdd.2 HLH.out.cr.1)
    obtain ⟨lx, hx0_, hx2, hx3, hx4⟩ := kj
    subst hx0_
    obtain ⟨Ax, cx, hxv, _, _⟩ := hx2.form_
    subst hxv
    have hx5 : I.val lx = I.val (d :: r) := by
     rw [hx4]
     show ((I.val ([d] ++ r)).natAbs : Int) = _
     show ((I.val (d :: r)).natAbs : Int) = _
     omega
    have hsgn : decide (sg false (I.val ([d] ++ r)) < 0) = false := decide_eq_false (by show ¬ I.val (d :: r) < 0; omega)
    rw [hsgn]
    have kk := Lib.hid (Blw ki.out kd)
    have HX2 := Lib.hid hx2; have HX3 := Lib.hid hx3; have HX5 := Lib.hid hx5
    clear hx2 hx3 hx4 hx5 kd hsgn
    go_wp2_with fail
    obtain ⟨w3, hw3⟩ : ∃ W, W = w2.alloc (.cells #[.bool false, .slice Ax lx.length cx] 31) := ⟨_, rfl⟩
    rw [← hw3]
    have k6 : Below w2.heap.size w2 w3 := by rw [hw3]; exact (Below.refl _ _).alloc (Nat.le_refl _) _
    have ke := Lib.hid (Blw kk.out k6)
    have HX6 := Lib.hid (HX2.out.below k6)
    clear hw3 k6 HX2
    have hcmp := compared_b (.slice Ax lx.length cx) (.slice B b.length cb) lx b w3 HX6.out (hb.out.below (Blw HLH.out.bw ke.out)) HX3.out cb_.out
    obtain ⟨z, hz⟩ : ∃ z, z = cmpZ (I.val lx) (I.val b) := ⟨_, rfl⟩
    rw [← hz] at hcmp
    have HZ := Lib.hid hz
    clear hz
    (with_reducible refine hcmp.mono ?_)
    clear hcmp
    rintro e w4 ⟨rfl, k7⟩
    have k2 := Lib.hid (Blw ke.out k7)
    have HX7 := Lib.hid (HX6.out.below k7)
    clear k7 HX6
    have hvb := hb0.out
    have hX1 : I.val (d :: r) < 1000000000 * I.val b := by
     have := HLH.out.lt
     simp only [I.val]
     omega
    have HX1 := Lib.hid hX1
    clear hX1
    go_upto_if 63 with fail
    go_cut [13] from 46 to 92 (fun s13 wx => ∃ hi : Int, s13 = .int .i64 hi ∧ 0 ≤ hi ∧ hi < 1000000000 ∧ Hid (I.val (d :: r) < (hi + 1) * I.val b) ∧ wx = w4)
    case first =>
     by_cases hz0_ : z < 0
     ·have hzt := decide_eq_true hz0_
      have hlt : I.val (d :: r) < (0 + 1) * I.val b := by
       have h1 := HZ.out
       rw [h1, HX5.out] at hz0_
       unfold cmpZ at hz0_
       split at hz0_
       ·omega
       ·split at hz0_ <;> omega
      have HLT := Lib.hid hlt
      clear hlt
      go_wp2
      go_meet
      exact ⟨0, rfl, by omega, by omega, HLT, rfl⟩
     ·have hzt := decide_eq_false hz0_
      go_wp2
      go_meet
      exact ⟨999999999, rfl, by omega, by omega, Lib.hid (by have := HX1.out; omega), rfl⟩
    case rest =>
     obtain ⟨hi, rfl, hi0, hi1, HHI, rfl⟩ := hcut
     obtain ⟨w4, rfl⟩ : ∃ w4 : World, w4 = wc := ⟨_, rfl⟩
     have hlx : lx.length ≤ b.length + 1 := by
      have h1 := HX3.out.len (b := d :: r) (I.Dig.cons hdd.1 hdd.2 HLH.out.cr.1) (by rw [HX5.out]; exact Int.le_refl _)
      simp only [List.length_cons] at h1
      omega
     go_wp2_with fail
     go_loopg [12, 13] (hi + 1).toNat (fun gk s12 s13 wx => ∃ lo hi : Int, s12 = .int .i64 lo ∧ s13 = .int .i64 hi ∧ 0 ≤ lo ∧ lo ≤ hi ∧ hi < 1000000000 ∧ (hi - lo).toNat < gk ∧ Hid (lo * I.val b ≤ I.val (d :: r) ∧ I.val (d :: r) < (hi + 1) * I.val b) ∧ Hid (Below w4.heap.size w4 wx))
     case atStart => exact ⟨0, hi, rfl, rfl, by omega, by omega, hi1, by omega, Lib.hid ⟨by have := hX0; omega, HHI.out⟩, Lib.hid (Below.refl _ _)⟩
     case round =>
      obtain ⟨lo, hi, rfl, rfl, hlo0, hlh, hhi1, hgk2, HLO, HBL⟩ := hrel
      have hBL : Below wo.heap.size wo wr := Blw k2.out HBL.out
      by_cases hlt : lo < hi
      ·have hltd := decide_eq_true hlt
       obtain ⟨mid, hmid⟩ : ∃ mid, mid = (lo + hi + 1) / 2 := ⟨_, rfl⟩
       have hm0 : lo < mid ∧ mid ≤ hi := by omega
       have hmd : (lo + hi + 1) / 2 = mid := hmid.symm
       have hsum : 0 ≤ lo + hi + 1 := by omega
       have ht := times3_any (.slice B b.length cb) b ((lo + hi + 1) / 2) wr (hb.out.below (Blw HLH.out.bw hBL)) cb_.out.1 (by omega) (by omega) (by omega)
       have HT_ := Lib.hid ht
       have HBL2 := Lib.hid hBL
       have HMD := Lib.hid hmd
       clear hmid hmd ht hBL
       go_wp2_with fail
       (with_reducible refine HT_.out.mono ?_)
       rintro e w5 ⟨v5, l5, rfl, hs5, hP5, k0⟩
       have hB5 : Below wo.heap.size wo w5 := Blw HBL2.out k0
       have k8 := compared_b v5 (.slice Ax lx.length cx) l5 lx w5 hs5 (HX7.out.below (Blw HBL.out k0)) hP5.1 HX3.out
       rw [hP5.2, HX5.out, HMD.out] at k8
       have HC5 := Lib.hid k8
       have k4 := Lib.hid (Blw HBL.out k0)
       clear hs5 hP5 k0 hB5 k8
       go_wp2_with fail
       obtain ⟨z5, hz5⟩ : ∃ z, z = cmpZ (I.val b * mid) (I.val (d :: r)) := ⟨_, rfl⟩
       have k9 := HC5.out
       rw [← hz5] at k9
       (with_reducible refine k9.mono ?_)
       clear k9
       rintro e w6 ⟨rfl, k1⟩
       have k5 := Lib.hid (Blw k4.out k1)
       clear k1
       by_cases hle : I.val b * mid ≤ I.val (d :: r)
       ·have hz6 : z5 ≤ 0 := by
         rw [hz5]; unfold cmpZ
         split
         ·omega
         ·split <;> omega
        have hz7 := decide_eq_true hz6
        have HLE := Lib.hid hle
        clear hle hz5
        go_wp2
        go_roundg (hi - mid).toNat.succ
        case measure => rw [← HMD.out]; have := HMD.out; omega
        case rel =>
         refine ⟨(lo + hi + 1) / 2, hi, rfl, rfl, by omega, by omega, hhi1, by have := HMD.out; omega, Lib.hid ⟨?_, HLO.out.2⟩, k5⟩
         rw [HMD.out, Int.mul_comm]; exact HLE.out
       ·have hz6 : ¬ z5 ≤ 0 := by
         rw [hz5]; unfold cmpZ
         rw [if_neg (by omega), if_pos (by omega)]
         omega
        have hz7 := decide_eq_false hz6
        have HLE := Lib.hid hle
        clear hle hz5
        go_wp2
        go_roundg (mid - 1 - lo).toNat.succ
        case measure => omega
        case rel =>
         refine ⟨lo, (lo + hi + 1) / 2 - 1, rfl, rfl, by omega, by have := HMD.out; omega, by have := HMD.out; omega, by have := HMD.out; omega, Lib.hid ⟨HLO.out.1, ?_⟩, k5⟩
         rw [HMD.out, Int.sub_add_cancel, Int.mul_comm]; have := HLE.out; omega
      ·have hltd := decide_eq_false hlt
       obtain rfl : lo = hi := by omega
       have ht := times3_any (.slice B b.length cb) b lo wr (hb.out.below (Blw HLH.out.bw hBL)) cb_.out.1 hlo0 hhi1 (by omega)
       have HT_ := Lib.hid ht
       have HBL2 := Lib.hid hBL
       clear ht hBL
       go_wp2_with fail
       (with_reducible refine HT_.out.mono ?_)
       rintro e w5 ⟨v5, l5, rfl, hs5, hP5, k0⟩
       have hle5 : I.val l5 ≤ I.val lx := by
        rw [hP5.2, HX5.out, Int.mul_comm]
        exact HLO.out.1
       have hm5 := minus3_f (.slice Ax lx.length cx) v5 lx l5 w5 (HX7.out.below (Blw HBL.out k0)) hs5 HX3.out.1 hP5.1.1 (by omega) (hP5.1.len HX3.out.1 hle5) hle5
       rw [hP5.2, HX5.out] at hm5
       have HM5 := Lib.hid hm5
       have k4 := Lib.hid (Blw HBL.out k0)
       clear hs5 hP5 k0 hm5 hle5
       go_wp2_with fail
       (with_reducible refine HM5.out.mono ?_)
       rintro e w6 ⟨v6, l6, rfl, hs6, hP6, k1, hF6⟩
       have hn6 := normal_f w5.heap.size false v6 l6 w6 hs6 hP6.1 hF6
       rw [hP6.2] at hn6
       have HN6 := Lib.hid hn6
       have k5 := Lib.hid (Blw k4.out k1)
       clear hs6 hP6 k1 hn6
       go_wp2_with fail
       (with_reducible refine HN6.out.mono ?_)
       rintro e w7 ⟨y0, y1, rfl, ⟨km, hF7⟩, kf⟩
       have hr7 : 0 ≤ I.val (d :: r) - I.val b * lo := by
        have := HLO.out.1
        rw [Int.mul_comm]; omega
       have hr8 : I.val (d :: r) - I.val b * lo < I.val b := by
        have h9 := HLO.out.2
        rw [Int.add_mul, Int.one_mul] at h9
        rw [Int.mul_comm]; omega
       obtain ⟨ly, hy0_, hy2, hy3, hy4⟩ := km
       subst hy0_
       obtain ⟨Ay, cy, hyv, _, _⟩ := hy2.form_
       subst hyv
       have hy5 : I.val ly = I.val (d :: r) - I.val b * lo := by
        rw [hy4]
        show ((I.val (d :: r) - I.val b * lo).natAbs : Int) = _
        omega
       have hsgn : decide (sg false (I.val (d :: r) - I.val b * lo) < 0) = false := decide_eq_false (by show ¬ I.val (d :: r) - I.val b * lo < 0; omega)
       rw [hsgn]
       have kg := Lib.hid (Blw k5.out kf)
       have HY2 := Lib.hid hy2; have HY3 := Lib.hid hy3; have HY5 := Lib.hid hy5; have HR8 := Lib.hid hr8
       clear hy2 hy3 hy4 hy5 kf hsgn hr7 hr8
       have hlen := HLH.out.lq
       have hgq := HLH.out.bq.lt
       obtain ⟨w8, hw8⟩ : ∃ W, W = w7.alloc (.cells #[.bool false, .slice Ay ly.length cy] 31) := ⟨_, rfl⟩
       have ka : Below w7.heap.size w7 w8 := by rw [hw8]; exact (Below.refl _ _).alloc (Nat.le_refl _) _
       have kh := Lib.hid (Blw (Blw k2.out kg.out) ka)
       have HY6 := Lib.hid (HY2.out.below ka)
       have hbq := HLH.out.bq.below kh.out hgq
       rw [List.replicate_succ', List.append_assoc, List.singleton_append] at hbq
       have q1 := hbq.cell (get_mid (List.length_replicate ..))
       have q2 := hbq.frozen j
       have hja : j < a.length := by omega
       have hne8 : w.heap.size ≠ w7.heap.size := by
        have h1 := kg.out.size
        have h2 := k2.out.size
        omega
       have hx8 : Bx w8 w7.heap.size 31 [.bool false, .slice Ay ly.length cy] := by rw [hw8]; exact Bx.new w7 _ _
       have hx9 := hx8.far_ (g' := w.heap.size) (j := j) (Ne.symm hne8) (.int .i64 lo)
       have c9 := hx9.cell (i := 1) rfl
       have HBQ := Lib.hid hbq; have HW8 := Lib.hid hw8
       rw [hw8] at q1 q2 c9
       clear hbq ka hw8 HY2 hx8 hx9
       go_wp2
       go_roundg j
       case measure => omega
       case rel =>
        refine ⟨ly, lo :: qs, by omega, by go_num, ?_⟩
        rw [← HW8.out]
        refine HLH.out.next HD.out hlo0 hhi1 HY3.out (by rw [HY5.out, Int.mul_comm lo]) (by rw [HY5.out]; exact HR8.out) (HBQ.out.mid (List.length_replicate ..) _) ?_ ((Blw HLH.out.bw kh.out).setCell (Nat.le_refl _) _)
        have h1 := k4.out.size
        have h2 := k2.out.size
        exact HY6.out.keepF (B := w5.heap.size) hF7 (by omega)
end Go.Proofs.YtcfejkpadcccbaaGreat
