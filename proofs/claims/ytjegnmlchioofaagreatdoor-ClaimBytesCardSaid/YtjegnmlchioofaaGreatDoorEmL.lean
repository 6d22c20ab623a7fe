/-
 PACKAGE integer by the second engine: comparing, small numbers.
-/
import Derived.Test.YtjegnmlchioofaaGreatDoorFlow
import Derived.Test.YtjegnmlchioofaaGreatDoorEmJ
import Derived.Test.YtjegnmlchioofaaGreatDoorChecked
import Derived.KernelRfl
import Derived.Test.YtjegnmlchioofaaGreatDoorRows
import Derived.WalkLawsBesides
import Derived.LoopTactic
import Derived.BigQuiet
import Derived.Deep.QuietTactic
import Derived.Deep.RegionHeld3
import Derived.RegionTactic
import Derived.ChangeAlike
import Derived.BigRegion
import Derived.Laws.CopyOwn
import Derived.Deep.DeepCutAuto

namespace Go.Proofs.YtjegnmlchioofaaGreatDoor
theorem q_eq {p q : Int} (hq : q ≠ 0) : (Rat.divInt p q).num * q = p * (Rat.divInt p q).den :=
 (Rat.divInt_eq_divInt_iff (by have := (Rat.divInt p q).den_nz; omega) hq).1 (Rat.num_divInt_den _)
theorem q_dvd {p q : Int} (hq : q ≠ 0) : (Rat.divInt p q).num.natAbs ∣ p.natAbs ∧ (Rat.divInt p q).den ∣ q.natAbs := by
 have h := congrArg Int.natAbs (q_eq (p := p) hq)
 rw [Int.natAbs_mul, Int.natAbs_mul, Int.natAbs_natCast] at h
 have hr := (Rat.divInt p q).reduced
 exact ⟨Nat.Coprime.dvd_of_dvd_mul_right hr ⟨_, h.symm⟩, Nat.Coprime.dvd_of_dvd_mul_left hr.symm ⟨p.natAbs, by rw [h, Nat.mul_comm]⟩⟩
theorem den_ne (r : Rat) : (r.den : Int) ≠ 0 := by have := r.den_nz; omega
theorem q_add (r t : Rat) : Rat.divInt (r.num * t.den + t.num * r.den) (r.den * t.den) = r + t := by
 rw [← Rat.divInt_add_divInt _ _ (den_ne r) (den_ne t), Rat.num_divInt_den, Rat.num_divInt_den]
theorem q_mul (r t : Rat) : Rat.divInt (r.num * t.num) (r.den * t.den) = r * t := by
 rw [← Rat.divInt_mul_divInt, Rat.num_divInt_den, Rat.num_divInt_den]
theorem q_mulx (r t : Rat) : Rat.divInt r.num t.den * Rat.divInt t.num r.den = r * t := by
 rw [Rat.divInt_mul_divInt, ← q_mul r t, Int.mul_comm (t.den : Int)]
theorem q_gcd (r t : Rat) : Int.gcd ((Rat.divInt r.num t.den).num * (Rat.divInt t.num r.den).num) ((Rat.divInt r.num t.den).den * (Rat.divInt t.num r.den).den) = 1 := by
 have h1 := q_dvd (p := r.num) (den_ne t)
 have h2 := q_dvd (p := t.num) (den_ne r)
 rw [Int.natAbs_natCast] at h1 h2
 have c1 := (Rat.divInt r.num t.den).reduced
 have c2 := (Rat.divInt t.num r.den).reduced
 have c3 : (Rat.divInt r.num t.den).num.natAbs.Coprime (Rat.divInt t.num r.den).den := (r.reduced.coprime_dvd_left h1.1).coprime_dvd_right h2.2
 have c4 : (Rat.divInt t.num r.den).num.natAbs.Coprime (Rat.divInt r.num t.den).den := (t.reduced.coprime_dvd_left h2.1).coprime_dvd_right h1.2
 have h3 := Nat.Coprime.mul_left (c1.mul_right c3) (c4.mul_right c2)
 rw [← Int.natAbs_mul] at h3
 unfold Int.gcd
 rw [← Int.natCast_mul, Int.natAbs_natCast]
 exact h3
theorem Bd.dvd {k : Nat} {x y : Int} (h : I.Bd k y) (hd : x.natAbs ∣ y.natAbs) (h0 : y ≠ 0) : I.Bd k x := h.of_le (Nat.le_of_dvd (by omega) hd)
theorem Bq.mono {j k : Nat} {r : Rat} (h : Bq j r) (hk : j ≤ k) : Bq k r := ⟨h.1.mono hk, h.2.mono hk⟩
theorem Bq.divInt {k : Nat} {p q : Int} (hp : I.Bd k p) (hq : I.Bd k q) (h0 : q ≠ 0) : Bq k (Rat.divInt p q) := by
 have h := q_dvd (p := p) h0
 refine ⟨?_, Bd.dvd hq (by rw [Int.natAbs_natCast]; exact h.2) h0⟩
 by_cases hp0 : p = 0
 ·subst hp0
  rw [Rat.zero_divInt]
  exact I.Bd.zero k
 ·exact Bd.dvd hp h.1 hp0
theorem Bq.add {j k : Nat} {r t : Rat} (h : Bq j r) (g : Bq k t) : Bq (j + k + 1) (r + t) := by
 rw [← q_add]
 exact Bq.divInt ((h.1.mul g.2).add' (by rw [Nat.add_comm]; exact g.1.mul h.2)) ((h.2.mul g.2).mono (by omega)) (by have := den_ne r; have := den_ne t; exact Int.mul_ne_zero ‹_› ‹_›)
theorem Bq.mul {j k : Nat} {r t : Rat} (h : Bq j r) (g : Bq k t) : Bq (j + k) (r * t) := by
 rw [← q_mul]
 exact Bq.divInt (h.1.mul g.1) (h.2.mul g.2) (Int.mul_ne_zero (den_ne r) (den_ne t))
theorem num_zero {r : Rat} : r.num = 0 ↔ r = 0 := Rat.num_eq_zero
theorem Bq.zero {k : Nat} (hk : 0 < k) : Bq k 0 := ⟨I.Bd.zero k, by
 show (1 : Nat) < 2 ^ k
 exact Nat.one_lt_two_pow (by omega)⟩
end Go.Proofs.YtjegnmlchioofaaGreatDoor
namespace Go.Proofs.YtjegnmlchioofaaGreatDoor
open Go.RowKit
section
end
/-- The sum of rationals, from the front. -/
def rsum (l : List Rat) : Rat := l.foldl (· + ·) 0
theorem rsum_two (r t : Rat) : rsum [r, t] = r + t := by simp [rsum, Rat.zero_add]
theorem rsum_take {l : List Rat} {i : Nat} {r : Rat} (h : l[i]? = some r) : rsum (l.take (i + 1)) = rsum (l.take i) + r := by
 have h1 := List.getElem?_eq_some_iff.1 h
 rw [List.take_succ_eq_append_getElem h1.1, h1.2]
 simp [rsum]
end Go.Proofs.YtjegnmlchioofaaGreatDoor
namespace Go.Proofs.YtjegnmlchioofaaGreatDoor.E
open Go.RowKit
set_option linter.unusedVariables false
set_option linter.unusedSimpArgs false
/-- The canonical digits of a number. -/
def digs (n : Nat) : List Int := if h : n = 0 then [] else ((n % 1000000000 : Nat) : Int) :: digs (n / 1000000000)
termination_by n
decreasing_by omega
theorem digs_ok (n : Nat) : I.Can (digs n) ∧ I.val (digs n) = (n : Int) := by
 induction n using Nat.strongRecOn with
 | _ n ih =>
   unfold digs
   by_cases h : n = 0
   · rw [dif_pos h]; subst h; exact ⟨I.Can.nil, rfl⟩
   · rw [dif_neg h]
     obtain ⟨⟨h1, h2⟩, h3⟩ := ih (n / 1000000000) (by omega)
     refine ⟨⟨I.Dig.cons (by omega) (by omega) h1, fun d hd => ?_⟩, ?_⟩
     · cases hq : digs (n / 1000000000) with
       | nil =>
         rw [hq] at hd h3
         simp only [List.getLast?_singleton, Option.some.injEq] at hd
         simp only [I.val] at h3
         omega
       | cons e r =>
         rw [hq] at hd h2
         rw [List.getLast?_cons_cons] at hd
         exact h2 d hd
     · simp only [I.val, h3]
       omega
/-- Cells. -/
def bo (b : Bool) : V := .k (.bool b)
def ni (x : Int) : V := .k (.int .i64 x)
def zs (l : List Int) : List (List V) := l.map fun x => [ni x]
def zl (l : List Int) : V := .sl (zs l)
abbrev dg (x : Int) : V := .sl (zs (digs x.natAbs))
def dI (x : Int) : List V := [.k (.bool (decide (x < 0))), .sl (zs (digs x.natAbs))]
abbrev RD.ag (l : List V) : RD := .v (.ag l)
abbrev RD.tu (l : List V) : RD := .v (.tu l)
abbrev RD.sl (l : List (List V)) : RD := .v (.sl l)
noncomputable abbrev PP : Program := Tryz.prog
theorem mo_ : PP.follows .mixedOrders = true := by kernel_rfl
def okB (P : Program) (f : FuncId) : Bool := match P.funcs[f]? with
 | some fn => !(fn.name == "runtime.NumGoroutine") && fn.body.isSome
 | none => false
theorem okF_of {P : Program} {f : FuncId} (h : okB P f = true) : okF P f := fun vs w => by
 unfold okB at h
 split at h
 · rename_i fn hf
   simp only [Bool.and_eq_true, Bool.not_eq_true'] at h
   have h2 : fn.body.isNone = false := by
    cases hb : fn.body with
    | none => rw [hb] at h; cases h.2
    | some c => rfl
   have h3 : fn.name ≠ "runtime.NumGoroutine" := by simpa using h.1
   have h4 : fn.body ≠ none := by intro e; rw [e] at h2; cases h2
   simp [callFunc, hf, h3, h4]
 · cases h
/-- A function's facts by its number. -/
def fnOf (P : Program) (f : FuncId) : Func := (P.funcs[f]?).getD default
theorem fn_of {P : Program} {f : FuncId} (h : okB P f = true) : P.funcs[f]? = some (fnOf P f) ∧ (fnOf P f).body.isSome = true := by
 unfold okB at h
 unfold fnOf
 split at h
 · rename_i fn hf
   rw [hf]
   simp only [Bool.and_eq_true] at h
   exact ⟨rfl, h.2⟩
 · cases h
def met2 (b : Bool) (x : Bool × List (List V) × RD) : Bool × List (List V) × RD := (b && x.1, x.2)
/-- **A function that runs straight to its end**. -/
theorem tr {f : FuncId} {ds : List V} {d : RD} (sc : List (Fa PP)) (e : met2 (okB PP f && Nat.beq d.n 0) (met (runE PP (fnOf PP f) d (body (fnOf PP f)) (st0 (fnOf PP f) ds) sc)) = told (runE PP (fnOf PP f) d (body (fnOf PP f)) (st0 (fnOf PP f) ds) sc) d) : Pure PP f ds d := by
 have hb : (okB PP f && Nat.beq d.n 0) = true ∧ met (runE PP (fnOf PP f) d (body (fnOf PP f)) (st0 (fnOf PP f) ds) sc) = told (runE PP (fnOf PP f) d (body (fnOf PP f)) (st0 (fnOf PP f) ds) sc) d := by
  have h1 : (told (runE PP (fnOf PP f) d (body (fnOf PP f)) (st0 (fnOf PP f) ds) sc) d).1 = true := by cases runE PP (fnOf PP f) d (body (fnOf PP f)) (st0 (fnOf PP f) ds) sc <;> rfl
  have h2 := congrArg (·.1) e
  have h3 := congrArg (·.2) e
  rw [h1] at h2
  simp only [met2, Bool.and_eq_true] at h2 h3
  exact ⟨by rw [Bool.and_eq_true]; exact h2.1, Prod.ext (h2.2.trans h1.symm) h3⟩
 obtain ⟨k0, k1⟩ := hb
 rw [Bool.and_eq_true] at k0
 obtain ⟨h1, h2⟩ := fn_of k0.1
 exact .of_gd h1 h2 (okF_of k0.1) (Nat.eq_of_beq_eq_true k0.2) (.end_ mo_ h1 sc k1)
/-- With loops. -/
theorem pf {f : FuncId} {ds : List V} {d : RD} (h : (okB PP f && Nat.beq d.n 0) = true) (g : Gd PP f d (body (fnOf PP f)) (st0 (fnOf PP f) ds)) : Pure PP f ds d := by
 rw [Bool.and_eq_true] at h
 exact .of_gd (fn_of h.1).1 (fn_of h.1).2 (okF_of h.1) (Nat.eq_of_beq_eq_true h.2) g
/-- With objects that come in and stay the caller's. -/
theorem pfT {f : FuncId} {hs : List HO} {ds : List V} {d : RD} (h : okB PP f = true) (g : Gd PP f d (body (fnOf PP f)) (st0T (fnOf PP f) hs ds)) (hdr : (∀ m0, d.rest m0 = []) := by intro; rfl) : PureT PP f hs ds d := .of_gd (fn_of h).1 (fn_of h).2 (okF_of h) g hdr
theorem trT {f : FuncId} {hs : List HO} {ds : List V} {d : RD} (sc : List (Fa PP)) (e : met2 (okB PP f) (met (runE PP (fnOf PP f) d (body (fnOf PP f)) (st0T (fnOf PP f) hs ds) sc)) = told (runE PP (fnOf PP f) d (body (fnOf PP f)) (st0T (fnOf PP f) hs ds) sc) d) (hdr : (∀ m0, d.rest m0 = []) := by intro; rfl) : PureT PP f hs ds d := by
 have hb : okB PP f = true ∧ met (runE PP (fnOf PP f) d (body (fnOf PP f)) (st0T (fnOf PP f) hs ds) sc) = told (runE PP (fnOf PP f) d (body (fnOf PP f)) (st0T (fnOf PP f) hs ds) sc) d := by
  have h1 : (told (runE PP (fnOf PP f) d (body (fnOf PP f)) (st0T (fnOf PP f) hs ds) sc) d).1 = true := by cases runE PP (fnOf PP f) d (body (fnOf PP f)) (st0T (fnOf PP f) hs ds) sc <;> rfl
  have h2 := congrArg (·.1) e
  have h3 := congrArg (·.2) e
  rw [h1] at h2
  simp only [met2, Bool.and_eq_true] at h2 h3
  exact ⟨h2.1, Prod.ext (h2.2.trans h1.symm) h3⟩
 exact pfT hb.1 (.end_ mo_ (fn_of hb.1).1 sc hb.2) hdr
theorem fi {f : FuncId} {d : RD} {td : List Item} {σ : St} (sc : List (Fa PP)) (h : okB PP f = true) (e : met (runE PP (fnOf PP f) d td σ sc) = told (runE PP (fnOf PP f) d td σ sc) d) : Gd PP f d td σ := .end_ mo_ (fn_of h).1 sc e
theorem inc_ {i : Nat} (h : i < 9223372036854775807) : IntKind.i64.wrap ((i : Int) + 1) = ((i + 1 : Nat) : Int) := by rw [IntKind.wrap_i64]; omega
/-- A counter goes on. -/
def inc {P : Program} (t i : Nat) (h : i < 9223372036854775807) : Fa P := .eqv t (.k (.int .i64 (IntKind.i64.wrap ((i : Int) + 1)))) (.k (.int .i64 ((i + 1 : Nat) : Int))) (by rw [inc_ h])
def cl {P : Program} {f : FuncId} {ds : List V} {d : RD} (h : Pure P f ds d) : Fa P := .call f ds d h
section
variable {P : Program}
def ye {t : Bool} (h : t = true) : Fa P := .dec t true h
def na {t : Bool} (h : t = false) : Fa P := .dec t false h
end
theorem digs_z {x : Int} (h : x = 0) : digs x.natAbs = [] := by subst h; unfold digs; rfl
theorem digs_nz {x : Int} (h : x ≠ 0) : (digs x.natAbs).length ≠ 0 := by
 unfold digs
 rw [dif_neg (by omega)]
 simp
theorem len_z {x : Int} (h : x = 0) : (((digs x.natAbs).length : Int) == 0) = true := by rw [digs_z h]; rfl
theorem len_nz {x : Int} (h : x ≠ 0) : (((digs x.natAbs).length : Int) == 0) = false := by
 have := digs_nz h
 simp; exact fun e => this (by rw [e]; rfl)
theorem digs_one {x : Int} (h0 : ¬ x < 0) (h : (digs x.natAbs).length = 1) : digs x.natAbs = [x] := by
 have h2 := (digs_ok x.natAbs).2
 match hd : digs x.natAbs, h with
 | [d], _ =>
   rw [hd] at h2
   simp only [I.val] at h2
   congr 1
   omega
theorem digs_1 : digs (1 : Int).natAbs = [1] := by
 unfold digs; rw [dif_neg (by decide)]
 unfold digs; rfl
abbrev F_ := Fa PP
noncomputable def yt : F_ := ye (t := true) rfl
noncomputable def nf : F_ := na (t := false) rfl
theorem zs_len (l : List Int) : (zs l).length = l.length := List.length_map ..
theorem num_el {l : List Int} {i : Nat} (h : i < l.length) : l[i]? = some (l.getD i 0) := by rw [List.getD_eq_getElem?_getD, List.getElem?_eq_getElem h]; rfl
theorem zs_el {l : List Int} {i : Nat} (h : i < l.length) : (zs l)[i]? = some [ni (l.getD i 0)] := by unfold zs; rw [List.getElem?_map, num_el h]; rfl
theorem zs_at {l : List Int} {i : Nat} {d : Int} (h : l[i]? = some d) : (zs l)[i]? = some [ni d] := by unfold zs; rw [List.getElem?_map, h]; rfl
theorem zs_app (l l2 : List Int) : zs (l ++ l2) = zs l ++ zs l2 := List.map_append
theorem zs_one (l : List Int) (d : Int) : zs l ++ [[ni d]] = zs (l ++ [d]) := by rw [zs_app]; rfl
theorem zs_set (l : List Int) (i : Nat) (d : Int) : (zs l).set i [ni d] = zs (l.set i d) := by unfold zs; rw [List.map_set]
theorem zs_take (l : List Int) (i : Nat) : (zs l).take i = zs (l.take i) := by unfold zs; rw [List.map_take]
theorem zs_drop (l : List Int) (i : Nat) : (zs l).drop i = zs (l.drop i) := by unfold zs; rw [List.map_drop]
theorem zs_rep (n : Nat) : List.replicate n [ni 0] = zs (List.replicate n 0) := by unfold zs; rw [List.map_replicate]
theorem zs_z (l : List Int) : ∀ cs ∈ zs l, cs.length = 1 := fun cs h => by obtain ⟨x, _, rfl⟩ := List.mem_map.1 h; rfl
theorem zs_z1 (l : List Int) : ∀ cs ∈ zs l, cs.length = 1 ∧ cs.all one = true := fun cs h => by obtain ⟨x, _, rfl⟩ := List.mem_map.1 h; exact ⟨rfl, rfl⟩
section
variable {w w' : World} {A : Nat → Prop} {m : Nat → Option Value} {u : Value}
theorem reps_of : ∀ {us : List Value} {ds : List V}, us.length = ds.length → Glo w A → (∀ j, j < ds.length → Rep w A m (us.getD j undef) (ds.getD j .un)) → Reps w A m us.toArray ds := fun {us ds} h hg h2 => by
 refine ⟨h, fun j x hx => ?_, hg⟩
 have hlt := (List.getElem?_eq_some_iff.1 hx).1
 have := h2 j hlt
 rw [List.getD_eq_getElem?_getD (l := ds), hx] at this
 rw [← getD_toList]
 exact this
end
end Go.Proofs.YtjegnmlchioofaaGreatDoor.E
namespace Go.Proofs.YtjegnmlchioofaaGreatDoor
set_option maxHeartbeats 1000000
open Go.RowKit
/-- How two numbers compare. -/
def cmpZ (x y : Int) : Int := if x < y then -1 else if y < x then 1 else 0
theorem cmpZ_lt {x y : Int} (h : x < y) : cmpZ x y = -1 := by unfold cmpZ; rw [if_pos h]
theorem cmpZ_gt {x y : Int} (h : y < x) : cmpZ x y = 1 := by unfold cmpZ; rw [if_neg (by omega), if_pos h]
theorem cmpZ_eq {x y : Int} (h : x = y) : cmpZ x y = 0 := by unfold cmpZ; rw [if_neg (by omega), if_neg (by omega)]
theorem cmp_len {a b : List Int} (ha : I.Can a) (hb : I.Can b) (h : a.length ≠ b.length) : cmpZ (a.length : Int) (b.length : Int) = cmpZ (I.val a) (I.val b) := by
 by_cases h1 : a.length < b.length
 ·have h2 : I.val a < I.val b := by
   by_cases h3 : I.val a < I.val b
   ·exact h3
   ·have := I.Can.len hb ha.1 (by omega); omega
  rw [cmpZ_lt (by omega), cmpZ_lt h2]
 ·have h2 : I.val b < I.val a := by
   by_cases h3 : I.val b < I.val a
   ·exact h3
   ·have := I.Can.len ha hb.1 (by omega); omega
  rw [cmpZ_gt (by omega), cmpZ_gt h2]
theorem cmp_at {a b : List Int} (da : I.Dig a) (db : I.Dig b) {k : Nat} {x y : Int} (hx : a[k]? = some x) (hy : b[k]? = some y) (h : a.drop (k + 1) = b.drop (k + 1)) (hne : x ≠ y) : cmpZ x y = cmpZ (I.val a) (I.val b) := by
 have ka := (List.getElem?_eq_some_iff.1 hx).1
 have kb := (List.getElem?_eq_some_iff.1 hy).1
 have e1 := I.val_split a (k := k) (by omega)
 have e2 := I.val_split b (k := k) (by omega)
 rw [I.val_drop_succ hx, h] at e1
 rw [I.val_drop_succ hy] at e2
 have b1 := I.val_lt (da.take k)
 have b2 := I.val_lt (db.take k)
 have c1 := I.val_nonneg (da.take k)
 have c2 := I.val_nonneg (db.take k)
 rw [List.length_take, Nat.min_eq_left (by omega)] at b1 b2
 have hp := I.pw_pos k
 generalize I.pw k = p at *
 generalize I.val (b.drop (k + 1)) = t at *
 by_cases h1 : x < y
 ·rw [cmpZ_lt h1, cmpZ_lt]
  have h2 : p * (x + 1) ≤ p * y := Int.mul_le_mul_of_nonneg_left (by omega) (by omega)
  grind
 ·rw [cmpZ_gt (by omega), cmpZ_gt]
  have h2 : p * (y + 1) ≤ p * x := Int.mul_le_mul_of_nonneg_left (by omega) (by omega)
  grind
end Go.Proofs.YtjegnmlchioofaaGreatDoor
namespace Go.Proofs.YtjegnmlchioofaaGreatDoor
set_option maxHeartbeats 1000000
open Go.RowKit
theorem sg_neg {ng : Bool} {v : Int} (hv : 0 < v) : decide (sg ng v < 0) = ng ∧ ((sg ng v).natAbs : Int) = v := by
 unfold sg
 cases ng <;> simp <;> omega
end Go.Proofs.YtjegnmlchioofaaGreatDoor
namespace Go.Proofs.YtjegnmlchioofaaGreatDoor
set_option maxHeartbeats 1000000
open Go.RowKit
attribute [local go_sem] run_store_one
set_option linter.unusedVariables false
/-- The sign of a number. -/
def sgnZ (x : Int) : Int := cmpZ x 0
end Go.Proofs.YtjegnmlchioofaaGreatDoor
namespace Go.Proofs.YtjegnmlchioofaaGreatDoor
set_option maxHeartbeats 1000000
open Go.RowKit
set_option linter.unusedVariables false
attribute [local go_sem] run_store_one
end Go.Proofs.YtjegnmlchioofaaGreatDoor
namespace Go.Proofs.YtjegnmlchioofaaGreatDoor
set_option maxHeartbeats 4000000
open Go.RowKit
attribute [local go_sem] run_store_one
set_option linter.unusedVariables false
end Go.Proofs.YtjegnmlchioofaaGreatDoor

namespace Go.Proofs.YtjegnmlchioofaaGreatDoor
set_option maxHeartbeats 2000000
open Go.RowKit
attribute [local go_sem] run_store_one
set_option linter.unusedVariables false
end Go.Proofs.YtjegnmlchioofaaGreatDoor

namespace Go.Proofs.YtjegnmlchioofaaGreatDoor
set_option maxHeartbeats 1000000
open Go.RowKit
/-- The first digit less a borrow. -/
def decH (c : Int) : List Int → List Int
 | [] => []
 | d :: t => (d - c) :: t
theorem decH_zero (l : List Int) : decH 0 l = l := by cases l <;> simp [decH]
end Go.Proofs.YtjegnmlchioofaaGreatDoor
namespace Go.Proofs.YtjegnmlchioofaaGreatDoor
set_option maxHeartbeats 2000000
open Go.RowKit
attribute [local go_sem] run_store_one
set_option linter.unusedVariables false
end Go.Proofs.YtjegnmlchioofaaGreatDoor
namespace Go.Proofs.YtjegnmlchioofaaGreatDoor
set_option maxHeartbeats 4000000
open Go.RowKit
attribute [local go_sem] run_store_one
set_option linter.unusedVariables false
theorem sg_nat {x : Int} : sg (decide (x < 0)) (x.natAbs : Int) = x := by
 unfold sg
 by_cases h : x < 0 <;> simp [h] <;> omega
theorem sg_not {x : Int} : sg (!decide (x < 0)) (x.natAbs : Int) = -x := by
 unfold sg
 by_cases h : x < 0 <;> simp [h] <;> omega
end Go.Proofs.YtjegnmlchioofaaGreatDoor
namespace Go.Proofs.YtjegnmlchioofaaGreatDoor.E
open Go.RowKit
set_option linter.unusedVariables false
/-- A row is not longer than rows are. -/
theorem Pure.len {P : Program} {f : FuncId} {ds : List V} {D : RD} (i : Nat) {l : List (List V)} (hok : okB P f = true) (hi : ds[i]? = some (.sl l)) (h : l.length ≤ maxLen → Pure P f ds D) : Pure P f ds D :=
 ⟨okF_of hok, fun w M args hM ha cs => by
  have h1 := ha.2 i _ hi
  have h2 : l.length ≤ maxLen := by
   generalize args.getD i undef = u at h1
   cases h1 with
   | sl _ ad b off c zz _ us h1 h2' => omega
  exact (h h2).2 w M args hM ha cs⟩
theorem e_nan (x : Int) : Pure PP 142 [ni x] (bo false) :=
 tr [.eqv 5 (bo (x != x)) (bo false) (by simp)] (by kernel_rfl)
theorem e_cmpint (x y : Int) : Pure PP 115 [ni x, ni y] (ni (cmpZ x y)) := by
 unfold cmpZ
 by_cases h1 : x < y
 · rw [if_pos h1]
   exact tr [cl (e_nan x), cl (e_nan y), nf, nf, ye (decide_eq_true h1)] (by kernel_rfl)
 · rw [if_neg h1]
   by_cases h2 : y < x
   · rw [if_pos h2]
     exact tr [cl (e_nan x), cl (e_nan y), nf, nf, na (decide_eq_false h1), ye (decide_eq_true h2)] (by kernel_rfl)
   · rw [if_neg h2]
     exact tr [cl (e_nan x), cl (e_nan y), nf, nf, na (decide_eq_false h1), na (decide_eq_false h2)] (by kernel_rfl)
theorem e_compare {a b : List Int} (ca : I.Can a) (cb : I.Can b) : Pure PP 145 [zl a, zl b] (ni (cmpZ (I.val a) (I.val b))) := by
 refine .len 0 (l := zs a) (by kernel_rfl) rfl fun hm => ?_
 rw [zs_len] at hm
 unfold maxLen at hm
 by_cases hlen : a.length = b.length
 · let X : Int → St := fun k => at_ (fnOf PP 145) [(0, zl a), (1, zl b), (5, ni k)] []
   refine pf (by kernel_rfl) (.to mo_ [] [0, 1, 5] [] 0 [na (t := ((zs a).length : Int) != ((zs b).length : Int)) (by rw [zs_len, zs_len, hlen]; simp), .eqv 18 (ni (IntKind.i64.wrap (((zs a).length : Int) - 1))) (ni ((a.length : Int) - 1)) (by rw [zs_len, IntKind.wrap_i64]; unfold ni; congr 2; omega)] (td' := lp (fnOf PP 145) 0) (σ' := X ((a.length : Int) - 1)) ?_ (by kernel_rfl))
   refine Gd.loop (fun k : Nat => X ((k : Int) - 1)) (fun k => k ≤ a.length ∧ a.drop k = b.drop k) (fun k => k) ?_ a.length ⟨Nat.le_refl _, by rw [List.drop_of_length_le (Nat.le_refl _), List.drop_of_length_le (by omega)]⟩
   intro k ⟨hk, hd⟩ ih
   cases k with
   | zero =>
     rw [show I.val a = I.val b by rw [show a = b by simpa using hd], cmpZ_eq rfl]
     exact fi [na (t := decide ((((0 : Nat) : Int) - 1) ≥ 0)) (by decide)] (by kernel_rfl) (by kernel_rfl)
   | succ j =>
     have ea := num_el (l := a) (i := j) (by omega)
     have eb := num_el (l := b) (i := j) (by omega)
     generalize a.getD j 0 = d at ea
     generalize b.getD j 0 = e at eb
     show Gd PP _ _ _ (X (((j + 1 : Nat) : Int) - 1))
     rw [show ((j + 1 : Nat) : Int) - 1 = (j : Int) by omega]
     by_cases h : d = e
     · subst h
       exact .to mo_ [] [0, 1, 5] [] 0 [ye (t := decide ((j : Int) ≥ 0)) (by simp), .sel _ _ _ (zs_at ea), .sel _ _ _ (zs_at eb), na (t := d != d) (by simp), .eqv 22 (ni (IntKind.i64.wrap ((j : Int) - 1))) (ni ((j : Int) - 1)) (by rw [IntKind.wrap_i64]; unfold ni; congr 2; omega)] (ih j ⟨by omega, by rw [I.drop_cons ea, I.drop_cons eb, hd]⟩ (by omega)) (by kernel_rfl)
     · rw [← cmp_at ca.1 cb.1 ea eb hd h]
       exact fi [ye (t := decide ((j : Int) ≥ 0)) (by simp), .sel _ _ _ (zs_at ea), .sel _ _ _ (zs_at eb), ye (t := d != e) (by simpa using h), .sel _ _ _ (zs_at ea), .sel _ _ _ (zs_at eb), cl (e_cmpint d e)] (by kernel_rfl) (by kernel_rfl)
 · have h := e_cmpint (a.length : Int) (b.length : Int)
   rw [cmp_len ca cb hlen, ← zs_len a, ← zs_len b] at h
   exact tr [ye (t := ((zs a).length : Int) != ((zs b).length : Int)) (by rw [zs_len, zs_len]; simp; exact fun e => hlen (by exact_mod_cast e)), cl h] (by kernel_rfl)
/-- A number of known digits. -/
theorem dI_of {ng : Bool} {u : Int} {l : List Int} (hc : I.Can l) (hv : I.val l = u) (h : 0 < u) : dI (sg ng u) = [bo ng, zl l] := by
 obtain ⟨h1, h2⟩ := sg_neg (ng := ng) h
 have h3 : digs (sg ng u).natAbs = l := I.Can.uniq (digs_ok _).1 hc (by rw [(digs_ok _).2, h2, hv])
 unfold dI
 rw [h1, h3]; rfl
theorem dI_0 : dI 0 = [bo false, .sl []] := by
 unfold dI
 rw [digs_z rfl]; rfl
def nu (x : Int) : V := .k (.int .u64 x)
theorem ni_eq {x y : Int} (h : x = y) : ni x = ni y := congrArg ni h
theorem nu_eq {x y : Int} (h : x = y) : nu x = nu y := congrArg nu h
theorem td_ {u : Int} (h : 0 ≤ u) (n : Int) : u.tdiv n = u / n := Int.tdiv_eq_ediv_of_nonneg h
theorem tm_ {u : Int} (h : 0 ≤ u) (n : Int) : u.tmod n = u % n := Int.tmod_eq_emod_of_nonneg h
theorem e_unsigned (ng : Bool) {u : Int} (h0 : 0 ≤ u) (h1 : u < 18446744073709551616) : Pure PP 129 [bo ng, nu u] (.ag (dI (sg ng u))) := by
 by_cases h2 : u = 0
 · subst h2
   rw [show sg ng 0 = 0 by unfold sg; cases ng <;> rfl, dI_0]
   exact tr [yt] (by kernel_rfl)
 by_cases h3 : u < 1000000000
 · rw [dI_of (u := u) (I.Can.one (d := u) (by omega) h3) (by simp [I.val]) (by omega)]
   exact tr [na (t := u == 0) (by simpa using h2), ye (decide_eq_true h3), .eqv 14 (ni (IntKind.i64.wrap u)) (ni u) (ni_eq (by rw [IntKind.wrap_i64]; omega))] (by kernel_rfl)
 have g1 : ni (IntKind.i64.wrap (u.tmod 1000000000)) = ni (u % 1000000000) := ni_eq (by rw [tm_ h0, IntKind.wrap_i64]; omega)
 by_cases h4 : u < 1000000000000000000
 · have g2 : ni (IntKind.i64.wrap (IntKind.u64.wrap (u.tdiv 1000000000))) = ni (u / 1000000000) := ni_eq (by rw [td_ h0, IntKind.wrap_i64, IntKind.wrap_u64]; omega)
   rw [dI_of (u := u) (l := [u % 1000000000, u / 1000000000]) ⟨I.Dig.cons (by omega) (by omega) (I.Dig.cons (by omega) (by omega) I.Dig.nil), fun d h => by simp at h; omega⟩ (by simp only [I.val]; omega) (by omega)]
   exact tr [na (t := u == 0) (by simpa using h2), na (decide_eq_false h3), ye (decide_eq_true h4), .eqv 23 _ _ g1, .eqv 26 _ _ g2] (by kernel_rfl)
 · have g2 : nu (IntKind.u64.wrap (u.tdiv 1000000000)) = nu (u / 1000000000) := nu_eq (by rw [td_ h0, IntKind.wrap_u64]; omega)
   have g3 : ni (IntKind.i64.wrap ((u / 1000000000).tmod 1000000000)) = ni (u / 1000000000 % 1000000000) := ni_eq (by rw [tm_ (by omega), IntKind.wrap_i64]; omega)
   have g4 : ni (IntKind.i64.wrap (IntKind.u64.wrap ((u / 1000000000).tdiv 1000000000))) = ni (u / 1000000000 / 1000000000) := ni_eq (by rw [td_ (by omega), IntKind.wrap_i64, IntKind.wrap_u64]; omega)
   rw [dI_of (u := u) (l := [u % 1000000000, u / 1000000000 % 1000000000, u / 1000000000 / 1000000000]) ⟨I.Dig.cons (by omega) (by omega) (I.Dig.cons (by omega) (by omega) (I.Dig.cons (by omega) (by omega) I.Dig.nil)), fun d h => by simp at h; omega⟩ (by simp only [I.val]; omega) (by omega)]
   exact tr [na (t := u == 0) (by simpa using h2), na (decide_eq_false h3), na (decide_eq_false h4), .eqv 32 _ _ g1, .eqv 34 _ _ g2, .eqv 36 _ _ g3, .eqv 38 _ _ g2, .eqv 40 _ _ g4] (by kernel_rfl)
theorem e_of {x : Int} (h : W.Is64 x) : Pure PP 137 [ni x] (.ag (dI x)) := by
 unfold W.Is64 at h
 have hs := sg_nat (x := x)
 by_cases h0 : x < 0
 · have hu := e_unsigned true (u := -x) (by omega) (by omega)
   rw [show sg true (-x) = x by unfold sg; simp] at hu
   exact tr [.eqv 5 (nu (IntKind.u64.wrap x)) (nu (x + 18446744073709551616)) (nu_eq (by rw [IntKind.wrap_u64]; omega)), ye (decide_eq_true h0), .eqv 9 (nu (IntKind.u64.wrap (0 - (x + 18446744073709551616)))) (nu (-x)) (nu_eq (by rw [IntKind.wrap_u64]; omega)), .eqv 11 (bo (decide (x < 0))) (bo true) (by rw [decide_eq_true h0]), cl hu] (by kernel_rfl)
 · have hu := e_unsigned false (u := x) (by omega) (by omega)
   rw [show sg false x = x by unfold sg; simp] at hu
   exact tr [.eqv 5 (nu (IntKind.u64.wrap x)) (nu x) (nu_eq (by rw [IntKind.wrap_u64]; omega)), na (decide_eq_false h0), .eqv 11 (bo (decide (x < 0))) (bo false) (by rw [decide_eq_false h0]), cl hu] (by kernel_rfl)
theorem e_neg (x : Int) : Pure PP 157 [.ag (dI x)] (.ag (dI (-x))) := by
 by_cases h0 : x < 0
 · rw [show dI (-x) = [bo false, dg x] by unfold dI; rw [decide_eq_false (show ¬ -x < 0 by omega), Int.natAbs_neg]; rfl]
   exact tr [.eqv 5 (bo (!decide (x < 0))) (bo false) (by rw [decide_eq_true h0]; rfl), nf] (by kernel_rfl)
 · by_cases h1 : x = 0
   · subst h1
     rw [show dI (-0) = [bo false, .sl []] from dI_0, dI_0]
     exact tr [yt] (by kernel_rfl)
   · rw [show dI (-x) = [bo true, dg x] by unfold dI; rw [decide_eq_true (show -x < 0 by omega), Int.natAbs_neg]; rfl]
     exact tr [.eqv 5 (bo (!decide (x < 0))) (bo true) (by rw [decide_eq_false h0]; rfl), yt, .eqv 10 (bo (decide (((zs (digs x.natAbs)).length : Int) > 0))) (bo true) (by have := digs_nz h1; rw [zs_len]; unfold bo; congr 2; exact decide_eq_true (by omega))] (by kernel_rfl)
theorem e_sign (x : Int) : Pure PP 92 [.ag (dI x)] (ni (sgnZ x)) := by
 unfold sgnZ
 by_cases h0 : x < 0
 · rw [cmpZ_lt h0]
   exact tr [ye (decide_eq_true h0)] (by kernel_rfl)
 · by_cases h1 : x = 0
   · rw [cmpZ_eq h1]
     exact tr [na (decide_eq_false h0), ye (t := ((zs (digs x.natAbs)).length : Int) == 0) (by rw [zs_len]; exact len_z h1)] (by kernel_rfl)
   · rw [cmpZ_gt (by omega)]
     exact tr [na (decide_eq_false h0), na (t := ((zs (digs x.natAbs)).length : Int) == 0) (by rw [zs_len]; exact len_nz h1)] (by kernel_rfl)
theorem e_cmp (x y : Int) : Pure PP 136 [.ag (dI x), .ag (dI y)] (ni (cmpZ x y)) := by
 obtain ⟨cx, vx⟩ := digs_ok x.natAbs
 obtain ⟨cy, vy⟩ := digs_ok y.natAbs
 by_cases h0 : x < 0 <;> by_cases h1 : y < 0
 · have h := e_compare cy cx
   rw [show cmpZ (I.val (digs y.natAbs)) (I.val (digs x.natAbs)) = cmpZ x y by rw [vx, vy]; unfold cmpZ; grind] at h
   exact tr [.eqv 10 (bo (decide (x < 0) != decide (y < 0))) (bo false) (by rw [decide_eq_true h0, decide_eq_true h1]; rfl), nf, nf, na (t := decide (x < 0) != decide (y < 0)) (by rw [decide_eq_true h0, decide_eq_true h1]; rfl), ye (decide_eq_true h0), cl h] (by kernel_rfl)
 · rw [cmpZ_lt (by omega)]
   exact tr [.eqv 10 (bo (decide (x < 0) != decide (y < 0))) (bo true) (by rw [decide_eq_true h0, decide_eq_false h1]; rfl), yt, ye (decide_eq_true h0)] (by kernel_rfl)
 · rw [cmpZ_gt (by omega)]
   exact tr [.eqv 10 (bo (decide (x < 0) != decide (y < 0))) (bo true) (by rw [decide_eq_false h0, decide_eq_true h1]; rfl), yt, na (decide_eq_false h0), ye (t := decide (x < 0) != decide (y < 0)) (by rw [decide_eq_false h0, decide_eq_true h1]; rfl)] (by kernel_rfl)
 · have h := e_compare cx cy
   rw [show cmpZ (I.val (digs x.natAbs)) (I.val (digs y.natAbs)) = cmpZ x y by rw [vx, vy]; unfold cmpZ; grind] at h
   exact tr [.eqv 10 (bo (decide (x < 0) != decide (y < 0))) (bo false) (by rw [decide_eq_false h0, decide_eq_false h1]; rfl), nf, nf, na (t := decide (x < 0) != decide (y < 0)) (by rw [decide_eq_false h0, decide_eq_false h1]; rfl), na (decide_eq_false h0), cl h] (by kernel_rfl)
/-- One number of at most two digits. -/
theorem two_len {l : List Int} (h : l.length ≤ 2) : l = [] ∨ (∃ a, l = [a]) ∨ ∃ a b, l = [a, b] := by
 match l, h with
 | [], _ => exact .inl rfl
 | [a], _ => exact .inr (.inl ⟨a, rfl⟩)
 | [a, b], _ => exact .inr (.inr ⟨a, b, rfl⟩)
theorem e_two {l : List Int} (hd : I.Dig l) : Pure PP 128 [zl l] (.tu [ni (if l.length ≤ 2 then I.val l else 0), bo (decide (l.length ≤ 2))]) := by
 by_cases h : l.length ≤ 2
 · rw [if_pos h, decide_eq_true h]
   rcases two_len h with rfl | ⟨a, rfl⟩ | ⟨a, b, rfl⟩
   · exact tr [yt] (by kernel_rfl)
   · rw [show I.val [a] = a by simp [I.val]]
     exact tr [nf, yt, .sel [[ni a]] 0 _ rfl] (by kernel_rfl)
   · have ha := hd a (by simp)
     have hb := hd b (by simp)
     rw [show I.val [a, b] = a + 1000000000 * b by simp [I.val]]
     exact tr [nf, nf, yt, .sel [[ni a], [ni b]] 1 _ rfl, .eqv 18 (ni (IntKind.i64.wrap (b * 1000000000))) (ni (b * 1000000000)) (ni_eq (by rw [IntKind.wrap_i64]; omega)), .sel [[ni a], [ni b]] 0 _ rfl, .eqv 22 (ni (IntKind.i64.wrap (b * 1000000000 + a))) (ni (a + 1000000000 * b)) (ni_eq (by rw [IntKind.wrap_i64]; omega))] (by kernel_rfl)
 · rw [if_neg h, decide_eq_false h]
   exact tr [na (t := ((zs l).length : Int) == 0) (by rw [zs_len]; simp; intro e; simp [e] at h), na (t := ((zs l).length : Int) == 1) (by rw [zs_len]; simp; omega), na (t := ((zs l).length : Int) == 2) (by rw [zs_len]; simp; omega)] (by kernel_rfl)
end Go.Proofs.YtjegnmlchioofaaGreatDoor.E
