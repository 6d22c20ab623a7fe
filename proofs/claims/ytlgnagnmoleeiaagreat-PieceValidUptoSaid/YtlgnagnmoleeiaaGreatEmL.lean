/-
 PACKAGE integer by the second engine: comparing, small numbers.
-/
import Derived.Test.YtlgnagnmoleeiaaGreatWalkOf
import Derived.Deep.RegionHeld3
import Derived.RegionTactic
import Derived.ChangeAlike
import Derived.BigRegion
import Derived.Test.YtlgnagnmoleeiaaGreatFlow
import Derived.Laws.CopyOwn
import Derived.Test.YtlgnagnmoleeiaaGreatEmY
import Derived.Deep.DeepCutAuto
namespace Go.Proofs.YtlgnagnmoleeiaaGreat
set_option maxHeartbeats 1000000
open Go.RowKit
attribute [local go_sem] run_store_one
set_option linter.unusedVariables false
/-- The sign of a number. -/
def sgnZ (x : Int) : Int := cmpZ x 0
/-- What is told of at most two digits: their value. -/
theorem two_any (v : Value) (l : List Int) (w : World) (hs : Sl w v l) (hd : I.Dig l) :
  Calls Tryz.prog 186 #[v] w fun e w' => e = .returned (.tuple #[.int .i64 (if l.length ≤ 2 then I.val l else 0), .bool (decide (l.length ≤ 2))]) ∧ Below w.heap.size w w' := by
 obtain ⟨A, n, c, rfl, rfl, hc, hm, hr, _⟩ := hs
 unfold maxLen at hm
 have HR := Lib.hid hr; clear hr
 match l, hd, hc, HR with
 | [], hd, hc, HR =>
  clear hd
  go_enter Tryz.func186, Tryz.ntmps186
  go_wp2
  go_ret2
  exact ⟨rfl, Below.refl _ _⟩
 | [d], hd, hc, HR =>
  obtain ⟨b, o, rfl, hb, hcell⟩ := HR.out (by simp)
  have f0 : w.cell? ⟨b, o, none⟩ = some (.int .i64 d) := hcell 0 _ rfl
  have hv : I.val [d] = d := by simp [I.val]
  have HV := Lib.hid hv
  clear hcell hd hv
  go_enter Tryz.func186, Tryz.ntmps186
  go_wp2
  go_ret2
  refine ⟨?_, Below.refl _ _⟩
  rw [HV.out]
  rfl
 | [d, e], hd, hc, HR =>
  obtain ⟨b, o, rfl, hb, hcell⟩ := HR.out (by simp)
  have f0 : w.cell? ⟨b, o, none⟩ = some (.int .i64 d) := hcell 0 _ rfl
  have f1 : w.cell? ⟨b, o + 1, none⟩ = some (.int .i64 e) := hcell 1 _ rfl
  obtain ⟨hd0, hd1⟩ := hd.head
  obtain ⟨he0, he1⟩ := hd.tail.head
  have hv : I.val [d, e] = e * 1000000000 + d := by simp [I.val]; omega
  have HV := Lib.hid hv
  clear hcell hd hv
  go_enter Tryz.func186, Tryz.ntmps186
  go_wp2
  go_quiet (fail)
  go_wp2
  go_ret2
  refine ⟨?_, bdN (Below.refl _ _) _⟩
  rw [HV.out]
  rfl
 | d :: e :: f :: r, hd, hc, HR =>
  have h0 : (((d :: e :: f :: r).length : Int) == 0) = false := beq_eq_false_iff_ne.2 (by simp; omega)
  have h1 : (((d :: e :: f :: r).length : Int) == 1) = false := by simp; omega
  have h2 : (((d :: e :: f :: r).length : Int) == 2) = false := by simp; omega
  have h3 : decide ((d :: e :: f :: r).length ≤ 2) = false := by simp
  have h4 : ¬ (d :: e :: f :: r).length ≤ 2 := by simp
  rw [h3, if_neg h4]
  obtain ⟨n, hn⟩ : ∃ n, n = (d :: e :: f :: r).length := ⟨_, rfl⟩
  rw [← hn] at h0 h1 h2 hc ⊢
  clear hn h3 h4 hd HR
  go_enter Tryz.func186, Tryz.ntmps186
  go_wp2
  go_ret2
  exact ⟨rfl, Below.refl _ _⟩
end Go.Proofs.YtlgnagnmoleeiaaGreat
namespace Go.Proofs.YtlgnagnmoleeiaaGreat
set_option maxHeartbeats 1000000
open Go.RowKit
set_option linter.unusedVariables false
attribute [local go_sem] run_store_one
theorem uns_end (ng : Bool) (u : Int) (w : World) (l : List Int) (hc : I.Can l) (hv : I.val l = u) (hu : 0 < u) (hl : l.length ≤ 3) :
  IntV ((w.alloc (.cells #[.bool ng, .slice (some ⟨w.heap.size + 1, 0, none⟩) l.length l.length] 26)).alloc (.cells (il l).toArray 3)) (.bool ng) (.slice (some ⟨w.heap.size + 1, 0, none⟩) l.length l.length) (sg ng u) := by
 have h := sg_neg (ng := ng) hu
 have hb : Bk ((w.alloc (.cells #[.bool ng, .slice (some ⟨w.heap.size + 1, 0, none⟩) l.length l.length] 26)).alloc (.cells (il l).toArray 3)) (w.heap.size + 1) l := Bx.at_ (by simp)
 exact ⟨l, by rw [h.1], hb.sl rfl (Nat.le_refl _) (by unfold maxLen; omega), hc, by rw [hv, h.2]⟩
theorem uns_below (w : World) (o o' : Obj) : Below w.heap.size w ((w.alloc o).alloc o') := ((Below.refl _ _).alloc (Nat.le_refl _) _).alloc (by simp) _
theorem uns_one (ng : Bool) (u : Int) (w : World) (h0 : 0 < u) (h1 : u < 1000000000) :
  Calls Tryz.prog 176 #[.bool ng, .int .u64 u] w (RI (sg ng u) w) := by
 have hne : (u == 0) = false := beq_eq_false_iff_ne.2 (by omega)
 go_enter Tryz.func176, Tryz.ntmps176
 go_wp2
 refine bodyPost_ret (v := .agg #[.bool ng, .slice (some ⟨w.heap.size + 1, 0, none⟩) 1 1]) (by simp [results, Tryz.results176, go_sem]) rfl ⟨_, _, rfl, ?_, uns_below _ _ _⟩
 exact uns_end ng u w [u] (I.Can.one h0 h1) (by simp [I.val]) h0 (by simp)
theorem uns_two (ng : Bool) (u : Int) (w : World) (h0 : 1000000000 ≤ u) (h1 : u < 1000000000000000000) :
  Calls Tryz.prog 176 #[.bool ng, .int .u64 u] w (RI (sg ng u) w) := by
 have hne : (u == 0) = false := beq_eq_false_iff_ne.2 (by omega)
 have hq : 0 ≤ u / 1000000000 ∧ u / 1000000000 < 1000000000 := by omega
 have hr : 0 ≤ u % 1000000000 ∧ u % 1000000000 < 1000000000 := by omega
 obtain ⟨hq0, hq1⟩ := hq
 obtain ⟨hr0, hr1⟩ := hr
 go_enter Tryz.func176, Tryz.ntmps176
 go_wp2
 refine bodyPost_ret (v := .agg #[.bool ng, .slice (some ⟨w.heap.size + 1, 0, none⟩) 2 2]) (by simp [results, Tryz.results176, go_sem]) rfl ⟨_, _, rfl, ?_, uns_below _ _ _⟩
 refine uns_end ng u w [u % 1000000000, u / 1000000000] ⟨I.Dig.cons hr0 hr1 (I.Dig.cons hq0 hq1 I.Dig.nil), fun d hd => ?_⟩ (by simp [I.val]; omega) (by omega) (by simp)
 simp at hd
 omega
theorem uns_three (ng : Bool) (u : Int) (w : World) (h0 : 1000000000000000000 ≤ u) (h1 : u < 18446744073709551616) :
  Calls Tryz.prog 176 #[.bool ng, .int .u64 u] w (RI (sg ng u) w) := by
 have hne : (u == 0) = false := beq_eq_false_iff_ne.2 (by omega)
 have hq : 0 ≤ u / 1000000000 % 1000000000 ∧ u / 1000000000 % 1000000000 < 1000000000 := by omega
 have hr : 0 ≤ u % 1000000000 ∧ u % 1000000000 < 1000000000 := by omega
 have hs : 0 ≤ u / 1000000000 / 1000000000 ∧ u / 1000000000 / 1000000000 < 1000000000 := by omega
 obtain ⟨hq0, hq1⟩ := hq
 obtain ⟨hr0, hr1⟩ := hr
 obtain ⟨hs0, hs1⟩ := hs
 go_enter Tryz.func176, Tryz.ntmps176
 go_wp2
 refine bodyPost_ret (v := .agg #[.bool ng, .slice (some ⟨w.heap.size + 1, 0, none⟩) 3 3]) (by simp [results, Tryz.results176, go_sem]) rfl ⟨_, _, rfl, ?_, uns_below _ _ _⟩
 refine uns_end ng u w [u % 1000000000, u / 1000000000 % 1000000000, u / 1000000000 / 1000000000] ⟨I.Dig.cons hr0 hr1 (I.Dig.cons hq0 hq1 (I.Dig.cons hs0 hs1 I.Dig.nil)), fun d hd => ?_⟩ (by simp [I.val]; omega) (by omega) (by simp)
 simp at hd
 omega
theorem uns_zero (ng : Bool) (w : World) : Calls Tryz.prog 176 #[.bool ng, .int .u64 0] w (RI (sg ng 0) w) := by
 go_enter Tryz.func176, Tryz.ntmps176
 go_wp2
 refine bodyPost_ret (v := .agg #[.bool false, .slice none 0 0]) (by simp [results, Tryz.results176, go_sem]) rfl ⟨_, _, rfl, ?_, (Below.refl _ _).alloc (Nat.le_refl _) _⟩
 have h0 : sg ng 0 = 0 := by unfold sg; cases ng <;> rfl
 rw [h0]
 exact IntV.zero _
theorem unsigned_any (ng : Bool) (u : Int) (w : World) (h0 : 0 ≤ u) (h1 : u < 18446744073709551616) :
  Calls Tryz.prog 176 #[.bool ng, .int .u64 u] w (RI (sg ng u) w) := by
 by_cases h2 : u = 0
 ·subst h2
  exact uns_zero ng w
 ·by_cases h3 : u < 1000000000
  ·exact uns_one ng u w (by omega) h3
  ·by_cases h4 : u < 1000000000000000000
   ·exact uns_two ng u w (by omega) h4
   ·exact uns_three ng u w (by omega) h1
end Go.Proofs.YtlgnagnmoleeiaaGreat
namespace Go.Proofs.YtlgnagnmoleeiaaGreat
set_option maxHeartbeats 4000000
open Go.RowKit
attribute [local go_sem] run_store_one
set_option linter.unusedVariables false
/-- A row of digits in a world, read through what only makes memory. -/
def AtD (w : World) (b o : Nat) (l : List Int) : Prop := ∀ w', Below w.heap.size w w' → ∀ i x, l[i]? = some x → w'.cell? ⟨b, o + i, none⟩ = some (.int .i64 x)
theorem Sl.at_ {w : World} {v : Value} {l : List Int} (h : Sl w v l) (hl : 0 < l.length) : ∃ b o c, v = .slice (some ⟨b, o, none⟩) l.length c ∧ l.length ≤ c ∧ c ≤ maxLen ∧ b < w.heap.size ∧ AtD w b o l := by
 obtain ⟨A, n, c, rfl, rfl, h1, h2, h3, _⟩ := h
 obtain ⟨b, o, rfl, hb, _⟩ := h3 (by simpa using hl)
 refine ⟨b, o, c, rfl, h1, h2, hb, fun w' hw i x hx => ?_⟩
 obtain ⟨b', o', e, _, hc⟩ := (h3.below hw (Nat.le_refl _)) (by simpa using hl)
 injection e with e
 injection e with e1 e2
 subst e1; subst e2
 exact hc i _ (il_at l hx)
set_option maxRecDepth 100000 in
theorem mul_one (p q : Bool) (va vb : Value) (d e : Int) (w : World) (ha : Sl w va [d]) (hb : Sl w vb [e]) (hd0 : 0 ≤ d) (hd1 : d < 1000000000) (he0 : 0 ≤ e) (he1 : e < 1000000000) :
  Calls Tryz.prog 107 #[.agg #[.bool p, va], .agg #[.bool q, vb]] w (RI (sg (!(p == q)) (d * e)) w) := by
 obtain ⟨ba, oa, ca, rfl, _, _, hba, hca⟩ := ha.at_ (by simp)
 obtain ⟨bb, ob, cb, rfl, _, _, hbb, hcb⟩ := hb.at_ (by simp)
 have HCA := Lib.hid hca; have HCB := Lib.hid hcb
 clear ha hb hca hcb
 have hp0 : 0 ≤ d * e := Int.mul_nonneg hd0 he0
 have hp1 : d * e ≤ 999999999 * 999999999 := Int.mul_le_mul (by omega) (by omega) he0 (by omega)
 have hp2 : d * e ≤ 1000000000000000000 := by omega
 have hw1 : IntKind.u64.wrap d = d := by rw [IntKind.wrap_u64]; omega
 have hw2 : IntKind.u64.wrap e = e := by rw [IntKind.wrap_u64]; omega
 have hw3 : IntKind.u64.wrap (d * e) = d * e := by rw [IntKind.wrap_u64]; omega
 clear hp1
 go_enter Tryz.func107, Tryz.ntmps107
 go_wp2_with fail
 generalize hW : ((w.alloc _).alloc _).alloc _ = W1
 obtain ⟨k7, k8, k9, hB⟩ := box3 hW
 have kg := Lib.hid hB; clear hW hB
 obtain ⟨km, kn, ko, -⟩ := k7.f2
 obtain ⟨kq, kr, ks, -⟩ := k8.f2
 obtain ⟨kt, ku, kv, -⟩ := k9.f2
 go_quiet (fail)
 generalize hW : W1.drewN _ = W15
 have hB : Below W1.heap.size W1 W15 := by rw [← hW]; exact bdN (Below.refl _ _) _
 clear hW
 have ka := k7.below hB
 obtain ⟨kh, kw, kx, -⟩ := ka.f2
 have kb := k8.below hB
 obtain ⟨ki, ky, kz, -⟩ := kb.f2
 have kc := k9.below hB
 obtain ⟨kA, kB, kC, -⟩ := kc.f2
 have k3 := Lib.hid (Blw kg.out hB)
 clear hB
 have e29 : W15.cell? ⟨ba, oa, none⟩ = some (.int .i64 d) := HCA.out W15 k3.out 0 d rfl
 have e30 : W15.cell? ⟨bb, ob, none⟩ = some (.int .i64 e) := HCB.out W15 k3.out 0 e rfl
 go_wp2_with fail
 go_region_held3 (fun w' => w'.cell? ⟨w.heap.size, 0, none⟩ = some (.bool p) ∧ w'.cell? ⟨w.heap.size + 1, 0, none⟩ = some (.bool q) ∧ w'.cell? ⟨ba, oa, none⟩ = some (.int .i64 d) ∧ w'.cell? ⟨bb, ob, none⟩ = some (.int .i64 e)) (first | exact ⟨kh, ki, e29, e30⟩ | exact ⟨kd, ke, e46, e47⟩ | exact ⟨kset (kset (kd) (by omega)) (by omega), kset (kset (ke) (by omega)) (by omega), kset (kset (e46) (by omega)) (by omega), kset (kset (e47) (by omega)) (by omega)⟩)
  (first | (go_at_call 176; have kf := unsigned_any (!(p == q)) (d * e) W15.drew hp0 (by omega); (with_reducible refine kf.mono ?_); clear kf; rintro e w31 ⟨r0, r1, rfl, k1, k0⟩; have k0 := bdDl k0; have k4 := ka.below k0; have kd := k4.cell (i := 0) rfl; have kD := k4.cell (i := 1) rfl; have kE := k4.frozen; have k5 := kb.below k0; have ke := k5.cell (i := 0) rfl; have kF := k5.cell (i := 1) rfl; have kG := k5.frozen; have k2 := kc.below k0; have kj := k2.cell (i := 0) rfl; have kk := k2.cell (i := 1) rfl; have kH := k2.frozen; have k6 := Lib.hid (Blw k3.out k0); have e46 : w31.cell? ⟨ba, oa, none⟩ = some (.int .i64 d) := HCA.out w31 k6.out 0 d rfl; have e47 : w31.cell? ⟨bb, ob, none⟩ = some (.int .i64 e) := HCB.out w31 k6.out 0 e rfl; have kl := Lib.hid k1; have o_r0 := k1.one0; have o_r1 := k1.one1; clear k1 k0))
 have hkp := (Kp.refl w31).t2 k2 r0 r1
 go_wp2
 refine bodyPost_ret (v := .agg #[r0, r1]) (by simp [results, Tryz.results107, go_sem, kj, kk]) rfl ⟨_, _, rfl, ?_, bel2 (k6.out) (by first | simp | omega)⟩
 exact kl.out.kp hkp
end Go.Proofs.YtlgnagnmoleeiaaGreat
namespace Go.Proofs.YtlgnagnmoleeiaaGreat
set_option maxHeartbeats 1000000
open Go.RowKit
set_option linter.unusedVariables false
/-- A slice's row lies from block B on. -/
def Fr (B : Nat) (v : Value) : Prop := ∀ A n c, v = .slice (some A) n c → B ≤ A.block
theorem Fr.none (B : Nat) : Fr B (.slice none 0 0) := fun _ _ _ h => by cases h
theorem Fr.same {B : Nat} {A : Addr} {n c n' c' : Nat} (h : Fr B (.slice (some A) n c)) : Fr B (.slice (some A) n' c') := fun A' _ _ e => by
 injection e with e
 injection e with e
 subst e
 exact h A n c rfl
end Go.Proofs.YtlgnagnmoleeiaaGreat
namespace Go.Proofs.YtlgnagnmoleeiaaGreat
set_option maxHeartbeats 2000000
open Go.RowKit
attribute [local go_sem] run_store_one
set_option linter.unusedVariables false
theorem Sl.own {w : World} {base : Nat} {v : Value} {l : List Int} (h : w.ownsRow base 3 1 v l.length (il l)) : Sl w v l := by
 obtain ⟨A, c, rfl, hc, hm, hn, hl⟩ := own_form h
 refine ⟨A, l.length, c, rfl, rfl, hc, hm, Rd.of_own h, fun h0 => ?_⟩
 rcases h.2 with ⟨_, e0⟩ | ⟨g, cap, cur, hv, _, hg, _⟩
 ·omega
 ·have hA : A = some ⟨g, 0, none⟩ := by injection hv
  exact ⟨g, 0, cur, (0, 0), hA, hg⟩
theorem of_step {l : List Int} {i : Nat} {q x : Int} (hl : l.length = i) (h : I.val l + I.pw i * q = x) : I.val (l ++ [q % 1000000000]) + I.pw (i + 1) * (q / 1000000000) = x := by
 rw [I.val_snoc, hl, I.pw_succ]
 have := Int.mul_ediv_add_emod q 1000000000
 generalize q % 1000000000 = a at *
 generalize q / 1000000000 = b at *
 grind
end Go.Proofs.YtlgnagnmoleeiaaGreat
namespace Go.Proofs.YtlgnagnmoleeiaaGreat
set_option maxHeartbeats 1000000
open Go.RowKit
end Go.Proofs.YtlgnagnmoleeiaaGreat
namespace Go.Proofs.YtlgnagnmoleeiaaGreat
set_option maxHeartbeats 1000000
open Go.RowKit
/-- The first digit less a borrow. -/
def decH (c : Int) : List Int → List Int
 | [] => []
 | d :: t => (d - c) :: t
theorem decH_zero (l : List Int) : decH 0 l = l := by cases l <;> simp [decH]
end Go.Proofs.YtlgnagnmoleeiaaGreat
namespace Go.Proofs.YtlgnagnmoleeiaaGreat
set_option maxHeartbeats 2000000
open Go.RowKit
attribute [local go_sem] run_store_one
set_option linter.unusedVariables false
end Go.Proofs.YtlgnagnmoleeiaaGreat
namespace Go.Proofs.YtlgnagnmoleeiaaGreat
set_option maxHeartbeats 4000000
open Go.RowKit
attribute [local go_sem] run_store_one
set_option linter.unusedVariables false
theorem sg_nat {x : Int} : sg (decide (x < 0)) (x.natAbs : Int) = x := by
 unfold sg
 by_cases h : x < 0 <;> simp [h] <;> omega
theorem sg_not {x : Int} : sg (!decide (x < 0)) (x.natAbs : Int) = -x := by
 unfold sg
 by_cases h : x < 0 <;> simp [h] <;> omega
end Go.Proofs.YtlgnagnmoleeiaaGreat
namespace Go.Proofs.YtlgnagnmoleeiaaGreat.E
open Go.RowKit
set_option linter.unusedVariables false
/-- A row is not longer than rows are. -/
theorem Pure.len {P : Program} {f : FuncId} {ds : List V} {D : RD} (i : Nat) {l : List (List V)} (hok : okB P f = true) (hi : ds[i]? = some (.sl l)) (h : l.length ≤ maxLen → Pure P f ds D) : Pure P f ds D :=
 ⟨okF_of hok, fun w M args hM ha cs => by
  have h1 := ha.2 i _ hi
  have h2 : l.length ≤ maxLen := by
   generalize args.getD i undef = u at h1
   cases h1 with
   | sl _ ad b off c zz _ us h1 h2' => omega
  exact (h h2).2 w M args hM ha cs⟩
theorem e_nan (x : Int) : Pure PP 225 [ni x] (bo false) :=
 tr [.eqv 5 (bo (x != x)) (bo false) (by simp)] (by kernel_rfl)
theorem e_cmpint (x y : Int) : Pure PP 210 [ni x, ni y] (ni (cmpZ x y)) := by
 unfold cmpZ
 by_cases h1 : x < y
 · rw [if_pos h1]
   exact tr [cl (e_nan x), cl (e_nan y), nf, nf, ye (decide_eq_true h1)] (by kernel_rfl)
 · rw [if_neg h1]
   by_cases h2 : y < x
   · rw [if_pos h2]
     exact tr [cl (e_nan x), cl (e_nan y), nf, nf, na (decide_eq_false h1), ye (decide_eq_true h2)] (by kernel_rfl)
   · rw [if_neg h2]
     exact tr [cl (e_nan x), cl (e_nan y), nf, nf, na (decide_eq_false h1), na (decide_eq_false h2)] (by kernel_rfl)
theorem e_compare {a b : List Int} (ca : I.Can a) (cb : I.Can b) : Pure PP 171 [zl a, zl b] (ni (cmpZ (I.val a) (I.val b))) := by
 refine .len 0 (l := zs a) (by kernel_rfl) rfl fun hm => ?_
 rw [zs_len] at hm
 unfold maxLen at hm
 by_cases hlen : a.length = b.length
 · let X : Int → St := fun k => at_ (fnOf PP 171) [(0, zl a), (1, zl b), (5, ni k)] []
   refine pf (by kernel_rfl) (.to mo_ [] [0, 1, 5] [] 0 [na (t := ((zs a).length : Int) != ((zs b).length : Int)) (by rw [zs_len, zs_len, hlen]; simp), .eqv 18 (ni (IntKind.i64.wrap (((zs a).length : Int) - 1))) (ni ((a.length : Int) - 1)) (by rw [zs_len, IntKind.wrap_i64]; unfold ni; congr 2; omega)] (td' := lp (fnOf PP 171) 0) (σ' := X ((a.length : Int) - 1)) ?_ (by kernel_rfl))
   refine Gd.loop (fun k : Nat => X ((k : Int) - 1)) (fun k => k ≤ a.length ∧ a.drop k = b.drop k) (fun k => k) ?_ a.length ⟨Nat.le_refl _, by rw [List.drop_of_length_le (Nat.le_refl _), List.drop_of_length_le (by omega)]⟩
   intro k ⟨hk, hd⟩ ih
   cases k with
   | zero =>
     rw [show I.val a = I.val b by rw [show a = b by simpa using hd], cmpZ_eq rfl]
     exact fi [na (t := decide ((((0 : Nat) : Int) - 1) ≥ 0)) (by decide)] (by kernel_rfl) (by kernel_rfl)
   | succ j =>
     have ea := num_el (l := a) (i := j) (by omega)
     have eb := num_el (l := b) (i := j) (by omega)
     generalize a.getD j 0 = d at ea
     generalize b.getD j 0 = e at eb
     show Gd PP _ _ _ (X (((j + 1 : Nat) : Int) - 1))
     rw [show ((j + 1 : Nat) : Int) - 1 = (j : Int) by omega]
     by_cases h : d = e
     · subst h
       exact .to mo_ [] [0, 1, 5] [] 0 [ye (t := decide ((j : Int) ≥ 0)) (by simp), .sel _ _ _ (zs_at ea), .sel _ _ _ (zs_at eb), na (t := d != d) (by simp), .eqv 22 (ni (IntKind.i64.wrap ((j : Int) - 1))) (ni ((j : Int) - 1)) (by rw [IntKind.wrap_i64]; unfold ni; congr 2; omega)] (ih j ⟨by omega, by rw [I.drop_cons ea, I.drop_cons eb, hd]⟩ (by omega)) (by kernel_rfl)
     · rw [← cmp_at ca.1 cb.1 ea eb hd h]
       exact fi [ye (t := decide ((j : Int) ≥ 0)) (by simp), .sel _ _ _ (zs_at ea), .sel _ _ _ (zs_at eb), ye (t := d != e) (by simpa using h), .sel _ _ _ (zs_at ea), .sel _ _ _ (zs_at eb), cl (e_cmpint d e)] (by kernel_rfl) (by kernel_rfl)
 · have h := e_cmpint (a.length : Int) (b.length : Int)
   rw [cmp_len ca cb hlen, ← zs_len a, ← zs_len b] at h
   exact tr [ye (t := ((zs a).length : Int) != ((zs b).length : Int)) (by rw [zs_len, zs_len]; simp; exact fun e => hlen (by exact_mod_cast e)), cl h] (by kernel_rfl)
/-- A number of known digits. -/
theorem dI_of {ng : Bool} {u : Int} {l : List Int} (hc : I.Can l) (hv : I.val l = u) (h : 0 < u) : dI (sg ng u) = [bo ng, zl l] := by
 obtain ⟨h1, h2⟩ := sg_neg (ng := ng) h
 have h3 : digs (sg ng u).natAbs = l := I.Can.uniq (digs_ok _).1 hc (by rw [(digs_ok _).2, h2, hv])
 unfold dI
 rw [h1, h3]; rfl
theorem dI_0 : dI 0 = [bo false, .sl []] := by
 unfold dI
 rw [digs_z rfl]; rfl
def nu (x : Int) : V := .k (.int .u64 x)
theorem ni_eq {x y : Int} (h : x = y) : ni x = ni y := congrArg ni h
theorem nu_eq {x y : Int} (h : x = y) : nu x = nu y := congrArg nu h
theorem td_ {u : Int} (h : 0 ≤ u) (n : Int) : u.tdiv n = u / n := Int.tdiv_eq_ediv_of_nonneg h
theorem tm_ {u : Int} (h : 0 ≤ u) (n : Int) : u.tmod n = u % n := Int.tmod_eq_emod_of_nonneg h
theorem e_unsigned (ng : Bool) {u : Int} (h0 : 0 ≤ u) (h1 : u < 18446744073709551616) : Pure PP 176 [bo ng, nu u] (.ag (dI (sg ng u))) := by
 by_cases h2 : u = 0
 · subst h2
   rw [show sg ng 0 = 0 by unfold sg; cases ng <;> rfl, dI_0]
   exact tr [yt] (by kernel_rfl)
 by_cases h3 : u < 1000000000
 · rw [dI_of (u := u) (I.Can.one (d := u) (by omega) h3) (by simp [I.val]) (by omega)]
   exact tr [na (t := u == 0) (by simpa using h2), ye (decide_eq_true h3), .eqv 14 (ni (IntKind.i64.wrap u)) (ni u) (ni_eq (by rw [IntKind.wrap_i64]; omega))] (by kernel_rfl)
 have g1 : ni (IntKind.i64.wrap (u.tmod 1000000000)) = ni (u % 1000000000) := ni_eq (by rw [tm_ h0, IntKind.wrap_i64]; omega)
 by_cases h4 : u < 1000000000000000000
 · have g2 : ni (IntKind.i64.wrap (IntKind.u64.wrap (u.tdiv 1000000000))) = ni (u / 1000000000) := ni_eq (by rw [td_ h0, IntKind.wrap_i64, IntKind.wrap_u64]; omega)
   rw [dI_of (u := u) (l := [u % 1000000000, u / 1000000000]) ⟨I.Dig.cons (by omega) (by omega) (I.Dig.cons (by omega) (by omega) I.Dig.nil), fun d h => by simp at h; omega⟩ (by simp only [I.val]; omega) (by omega)]
   exact tr [na (t := u == 0) (by simpa using h2), na (decide_eq_false h3), ye (decide_eq_true h4), .eqv 23 _ _ g1, .eqv 26 _ _ g2] (by kernel_rfl)
 · have g2 : nu (IntKind.u64.wrap (u.tdiv 1000000000)) = nu (u / 1000000000) := nu_eq (by rw [td_ h0, IntKind.wrap_u64]; omega)
   have g3 : ni (IntKind.i64.wrap ((u / 1000000000).tmod 1000000000)) = ni (u / 1000000000 % 1000000000) := ni_eq (by rw [tm_ (by omega), IntKind.wrap_i64]; omega)
   have g4 : ni (IntKind.i64.wrap (IntKind.u64.wrap ((u / 1000000000).tdiv 1000000000))) = ni (u / 1000000000 / 1000000000) := ni_eq (by rw [td_ (by omega), IntKind.wrap_i64, IntKind.wrap_u64]; omega)
   rw [dI_of (u := u) (l := [u % 1000000000, u / 1000000000 % 1000000000, u / 1000000000 / 1000000000]) ⟨I.Dig.cons (by omega) (by omega) (I.Dig.cons (by omega) (by omega) (I.Dig.cons (by omega) (by omega) I.Dig.nil)), fun d h => by simp at h; omega⟩ (by simp only [I.val]; omega) (by omega)]
   exact tr [na (t := u == 0) (by simpa using h2), na (decide_eq_false h3), na (decide_eq_false h4), .eqv 32 _ _ g1, .eqv 34 _ _ g2, .eqv 36 _ _ g3, .eqv 38 _ _ g2, .eqv 40 _ _ g4] (by kernel_rfl)
theorem e_of {x : Int} (h : W.Is64 x) : Pure PP 128 [ni x] (.ag (dI x)) := by
 unfold W.Is64 at h
 have hs := sg_nat (x := x)
 by_cases h0 : x < 0
 · have hu := e_unsigned true (u := -x) (by omega) (by omega)
   rw [show sg true (-x) = x by unfold sg; simp] at hu
   exact tr [.eqv 5 (nu (IntKind.u64.wrap x)) (nu (x + 18446744073709551616)) (nu_eq (by rw [IntKind.wrap_u64]; omega)), ye (decide_eq_true h0), .eqv 9 (nu (IntKind.u64.wrap (0 - (x + 18446744073709551616)))) (nu (-x)) (nu_eq (by rw [IntKind.wrap_u64]; omega)), .eqv 11 (bo (decide (x < 0))) (bo true) (by rw [decide_eq_true h0]), cl hu] (by kernel_rfl)
 · have hu := e_unsigned false (u := x) (by omega) (by omega)
   rw [show sg false x = x by unfold sg; simp] at hu
   exact tr [.eqv 5 (nu (IntKind.u64.wrap x)) (nu x) (nu_eq (by rw [IntKind.wrap_u64]; omega)), na (decide_eq_false h0), .eqv 11 (bo (decide (x < 0))) (bo false) (by rw [decide_eq_false h0]), cl hu] (by kernel_rfl)
theorem e_neg (x : Int) : Pure PP 211 [.ag (dI x)] (.ag (dI (-x))) := by
 by_cases h0 : x < 0
 · rw [show dI (-x) = [bo false, dg x] by unfold dI; rw [decide_eq_false (show ¬ -x < 0 by omega), Int.natAbs_neg]; rfl]
   exact tr [.eqv 5 (bo (!decide (x < 0))) (bo false) (by rw [decide_eq_true h0]; rfl), nf] (by kernel_rfl)
 · by_cases h1 : x = 0
   · subst h1
     rw [show dI (-0) = [bo false, .sl []] from dI_0, dI_0]
     exact tr [yt] (by kernel_rfl)
   · rw [show dI (-x) = [bo true, dg x] by unfold dI; rw [decide_eq_true (show -x < 0 by omega), Int.natAbs_neg]; rfl]
     exact tr [.eqv 5 (bo (!decide (x < 0))) (bo true) (by rw [decide_eq_false h0]; rfl), yt, .eqv 10 (bo (decide (((zs (digs x.natAbs)).length : Int) > 0))) (bo true) (by have := digs_nz h1; rw [zs_len]; unfold bo; congr 2; exact decide_eq_true (by omega))] (by kernel_rfl)
theorem e_sign (x : Int) : Pure PP 127 [.ag (dI x)] (ni (sgnZ x)) := by
 unfold sgnZ
 by_cases h0 : x < 0
 · rw [cmpZ_lt h0]
   exact tr [ye (decide_eq_true h0)] (by kernel_rfl)
 · by_cases h1 : x = 0
   · rw [cmpZ_eq h1]
     exact tr [na (decide_eq_false h0), ye (t := ((zs (digs x.natAbs)).length : Int) == 0) (by rw [zs_len]; exact len_z h1)] (by kernel_rfl)
   · rw [cmpZ_gt (by omega)]
     exact tr [na (decide_eq_false h0), na (t := ((zs (digs x.natAbs)).length : Int) == 0) (by rw [zs_len]; exact len_nz h1)] (by kernel_rfl)
theorem e_cmp (x y : Int) : Pure PP 129 [.ag (dI x), .ag (dI y)] (ni (cmpZ x y)) := by
 obtain ⟨cx, vx⟩ := digs_ok x.natAbs
 obtain ⟨cy, vy⟩ := digs_ok y.natAbs
 by_cases h0 : x < 0 <;> by_cases h1 : y < 0
 · have h := e_compare cy cx
   rw [show cmpZ (I.val (digs y.natAbs)) (I.val (digs x.natAbs)) = cmpZ x y by rw [vx, vy]; unfold cmpZ; grind] at h
   exact tr [.eqv 10 (bo (decide (x < 0) != decide (y < 0))) (bo false) (by rw [decide_eq_true h0, decide_eq_true h1]; rfl), nf, nf, na (t := decide (x < 0) != decide (y < 0)) (by rw [decide_eq_true h0, decide_eq_true h1]; rfl), ye (decide_eq_true h0), cl h] (by kernel_rfl)
 · rw [cmpZ_lt (by omega)]
   exact tr [.eqv 10 (bo (decide (x < 0) != decide (y < 0))) (bo true) (by rw [decide_eq_true h0, decide_eq_false h1]; rfl), yt, ye (decide_eq_true h0)] (by kernel_rfl)
 · rw [cmpZ_gt (by omega)]
   exact tr [.eqv 10 (bo (decide (x < 0) != decide (y < 0))) (bo true) (by rw [decide_eq_false h0, decide_eq_true h1]; rfl), yt, na (decide_eq_false h0), ye (t := decide (x < 0) != decide (y < 0)) (by rw [decide_eq_false h0, decide_eq_true h1]; rfl)] (by kernel_rfl)
 · have h := e_compare cx cy
   rw [show cmpZ (I.val (digs x.natAbs)) (I.val (digs y.natAbs)) = cmpZ x y by rw [vx, vy]; unfold cmpZ; grind] at h
   exact tr [.eqv 10 (bo (decide (x < 0) != decide (y < 0))) (bo false) (by rw [decide_eq_false h0, decide_eq_false h1]; rfl), nf, nf, na (t := decide (x < 0) != decide (y < 0)) (by rw [decide_eq_false h0, decide_eq_false h1]; rfl), na (decide_eq_false h0), cl h] (by kernel_rfl)
/-- One number of at most two digits. -/
theorem two_len {l : List Int} (h : l.length ≤ 2) : l = [] ∨ (∃ a, l = [a]) ∨ ∃ a b, l = [a, b] := by
 match l, h with
 | [], _ => exact .inl rfl
 | [a], _ => exact .inr (.inl ⟨a, rfl⟩)
 | [a, b], _ => exact .inr (.inr ⟨a, b, rfl⟩)
theorem e_two {l : List Int} (hd : I.Dig l) : Pure PP 186 [zl l] (.tu [ni (if l.length ≤ 2 then I.val l else 0), bo (decide (l.length ≤ 2))]) := by
 by_cases h : l.length ≤ 2
 · rw [if_pos h, decide_eq_true h]
   rcases two_len h with rfl | ⟨a, rfl⟩ | ⟨a, b, rfl⟩
   · exact tr [yt] (by kernel_rfl)
   · rw [show I.val [a] = a by simp [I.val]]
     exact tr [nf, yt, .sel [[ni a]] 0 _ rfl] (by kernel_rfl)
   · have ha := hd a (by simp)
     have hb := hd b (by simp)
     rw [show I.val [a, b] = a + 1000000000 * b by simp [I.val]]
     exact tr [nf, nf, yt, .sel [[ni a], [ni b]] 1 _ rfl, .eqv 18 (ni (IntKind.i64.wrap (b * 1000000000))) (ni (b * 1000000000)) (ni_eq (by rw [IntKind.wrap_i64]; omega)), .sel [[ni a], [ni b]] 0 _ rfl, .eqv 22 (ni (IntKind.i64.wrap (b * 1000000000 + a))) (ni (a + 1000000000 * b)) (ni_eq (by rw [IntKind.wrap_i64]; omega))] (by kernel_rfl)
 · rw [if_neg h, decide_eq_false h]
   exact tr [na (t := ((zs l).length : Int) == 0) (by rw [zs_len]; simp; intro e; simp [e] at h), na (t := ((zs l).length : Int) == 1) (by rw [zs_len]; simp; omega), na (t := ((zs l).length : Int) == 2) (by rw [zs_len]; simp; omega)] (by kernel_rfl)
end Go.Proofs.YtlgnagnmoleeiaaGreat.E
