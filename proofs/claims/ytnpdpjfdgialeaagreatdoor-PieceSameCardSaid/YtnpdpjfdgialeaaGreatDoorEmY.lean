/-
 THE SECOND ENGINE, 14: code by itself (the rounds of a loop over a function).
-/
import Derived.Test.YtnpdpjfdgialeaaGreatDoorFlow
import Derived.Test.YtnpdpjfdgialeaaGreatDoorEmJ
import Derived.Test.YtnpdpjfdgialeaaGreatDoorChecked
import Derived.KernelRfl

namespace Go.Proofs.YtnpdpjfdgialeaaGreatDoor
theorem q_eq {p q : Int} (hq : q ≠ 0) : (Rat.divInt p q).num * q = p * (Rat.divInt p q).den :=
 (Rat.divInt_eq_divInt_iff (by have := (Rat.divInt p q).den_nz; omega) hq).1 (Rat.num_divInt_den _)
theorem q_dvd {p q : Int} (hq : q ≠ 0) : (Rat.divInt p q).num.natAbs ∣ p.natAbs ∧ (Rat.divInt p q).den ∣ q.natAbs := by
 have h := congrArg Int.natAbs (q_eq (p := p) hq)
 rw [Int.natAbs_mul, Int.natAbs_mul, Int.natAbs_natCast] at h
 have hr := (Rat.divInt p q).reduced
 exact ⟨Nat.Coprime.dvd_of_dvd_mul_right hr ⟨_, h.symm⟩, Nat.Coprime.dvd_of_dvd_mul_left hr.symm ⟨p.natAbs, by rw [h, Nat.mul_comm]⟩⟩
theorem den_ne (r : Rat) : (r.den : Int) ≠ 0 := by have := r.den_nz; omega
theorem q_add (r t : Rat) : Rat.divInt (r.num * t.den + t.num * r.den) (r.den * t.den) = r + t := by
 rw [← Rat.divInt_add_divInt _ _ (den_ne r) (den_ne t), Rat.num_divInt_den, Rat.num_divInt_den]
theorem q_mul (r t : Rat) : Rat.divInt (r.num * t.num) (r.den * t.den) = r * t := by
 rw [← Rat.divInt_mul_divInt, Rat.num_divInt_den, Rat.num_divInt_den]
theorem q_mulx (r t : Rat) : Rat.divInt r.num t.den * Rat.divInt t.num r.den = r * t := by
 rw [Rat.divInt_mul_divInt, ← q_mul r t, Int.mul_comm (t.den : Int)]
theorem q_gcd (r t : Rat) : Int.gcd ((Rat.divInt r.num t.den).num * (Rat.divInt t.num r.den).num) ((Rat.divInt r.num t.den).den * (Rat.divInt t.num r.den).den) = 1 := by
 have h1 := q_dvd (p := r.num) (den_ne t)
 have h2 := q_dvd (p := t.num) (den_ne r)
 rw [Int.natAbs_natCast] at h1 h2
 have c1 := (Rat.divInt r.num t.den).reduced
 have c2 := (Rat.divInt t.num r.den).reduced
 have c3 : (Rat.divInt r.num t.den).num.natAbs.Coprime (Rat.divInt t.num r.den).den := (r.reduced.coprime_dvd_left h1.1).coprime_dvd_right h2.2
 have c4 : (Rat.divInt t.num r.den).num.natAbs.Coprime (Rat.divInt r.num t.den).den := (t.reduced.coprime_dvd_left h2.1).coprime_dvd_right h1.2
 have h3 := Nat.Coprime.mul_left (c1.mul_right c3) (c4.mul_right c2)
 rw [← Int.natAbs_mul] at h3
 unfold Int.gcd
 rw [← Int.natCast_mul, Int.natAbs_natCast]
 exact h3
theorem Bd.dvd {k : Nat} {x y : Int} (h : I.Bd k y) (hd : x.natAbs ∣ y.natAbs) (h0 : y ≠ 0) : I.Bd k x := h.of_le (Nat.le_of_dvd (by omega) hd)
theorem Bq.mono {j k : Nat} {r : Rat} (h : Bq j r) (hk : j ≤ k) : Bq k r := ⟨h.1.mono hk, h.2.mono hk⟩
theorem Bq.divInt {k : Nat} {p q : Int} (hp : I.Bd k p) (hq : I.Bd k q) (h0 : q ≠ 0) : Bq k (Rat.divInt p q) := by
 have h := q_dvd (p := p) h0
 refine ⟨?_, Bd.dvd hq (by rw [Int.natAbs_natCast]; exact h.2) h0⟩
 by_cases hp0 : p = 0
 ·subst hp0
  rw [Rat.zero_divInt]
  exact I.Bd.zero k
 ·exact Bd.dvd hp h.1 hp0
theorem Bq.add {j k : Nat} {r t : Rat} (h : Bq j r) (g : Bq k t) : Bq (j + k + 1) (r + t) := by
 rw [← q_add]
 exact Bq.divInt ((h.1.mul g.2).add' (by rw [Nat.add_comm]; exact g.1.mul h.2)) ((h.2.mul g.2).mono (by omega)) (by have := den_ne r; have := den_ne t; exact Int.mul_ne_zero ‹_› ‹_›)
theorem Bq.mul {j k : Nat} {r t : Rat} (h : Bq j r) (g : Bq k t) : Bq (j + k) (r * t) := by
 rw [← q_mul]
 exact Bq.divInt (h.1.mul g.1) (h.2.mul g.2) (Int.mul_ne_zero (den_ne r) (den_ne t))
theorem Bq.neg {k : Nat} {r : Rat} (h : Bq k r) : Bq k (-r) := ⟨by rw [Rat.neg_num]; exact h.1.neg, by rw [Rat.neg_den]; exact h.2⟩
theorem Bq.inv {k : Nat} {r : Rat} (h : Bq k r) (h0 : r.num ≠ 0) : Bq k r⁻¹ := by
 rw [Rat.inv_def]
 exact Bq.divInt h.2 h.1 h0
theorem num_zero {r : Rat} : r.num = 0 ↔ r = 0 := Rat.num_eq_zero
theorem Bq.zero {k : Nat} (hk : 0 < k) : Bq k 0 := ⟨I.Bd.zero k, by
 show (1 : Nat) < 2 ^ k
 exact Nat.one_lt_two_pow (by omega)⟩
end Go.Proofs.YtnpdpjfdgialeaaGreatDoor
namespace Go.Proofs.YtnpdpjfdgialeaaGreatDoor
open Go.RowKit
section
end
/-- Bits of a vector. -/
def Bv (k : Nat) (v : Rat × Rat) : Prop := Bq k v.1 ∧ Bq k v.2
/-- The sum of rationals, from the front. -/
def rsum (l : List Rat) : Rat := l.foldl (· + ·) 0
theorem rsum_two (r t : Rat) : rsum [r, t] = r + t := by simp [rsum, Rat.zero_add]
theorem rsum_take {l : List Rat} {i : Nat} {r : Rat} (h : l[i]? = some r) : rsum (l.take (i + 1)) = rsum (l.take i) + r := by
 have h1 := List.getElem?_eq_some_iff.1 h
 rw [List.take_succ_eq_append_getElem h1.1, h1.2]
 simp [rsum]
def vadd (v u : Rat × Rat) : Rat × Rat := (v.1 + u.1, v.2 + u.2)
def vsub (v u : Rat × Rat) : Rat × Rat := (v.1 - u.1, v.2 - u.2)
def vsca (v : Rat × Rat) (k : Rat) : Rat × Rat := (v.1 * k, v.2 * k)
def vdot (v u : Rat × Rat) : Rat := v.1 * u.1 + v.2 * u.2
def vcrs (v u : Rat × Rat) : Rat := v.1 * u.2 - v.2 * u.1
def vrot (t a : Rat × Rat) : Rat × Rat := (t.1 * a.1 - t.2 * a.2, t.2 * a.1 + t.1 * a.2)
theorem Bv.mono {j k : Nat} {v : Rat × Rat} (h : Bv j v) (hk : j ≤ k) : Bv k v := ⟨h.1.mono hk, h.2.mono hk⟩
/-- A place. -/
abbrev Pl := (Rat × Rat) × (Rat × Rat)
end Go.Proofs.YtnpdpjfdgialeaaGreatDoor
namespace Go.Proofs.YtnpdpjfdgialeaaGreatDoor.E
open Go.RowKit
set_option linter.unusedVariables false
set_option linter.unusedSimpArgs false
/-- The canonical digits of a number. -/
def digs (n : Nat) : List Int := if h : n = 0 then [] else ((n % 1000000000 : Nat) : Int) :: digs (n / 1000000000)
termination_by n
decreasing_by omega
theorem digs_ok (n : Nat) : I.Can (digs n) ∧ I.val (digs n) = (n : Int) := by
 induction n using Nat.strongRecOn with
 | _ n ih =>
   unfold digs
   by_cases h : n = 0
   · rw [dif_pos h]; subst h; exact ⟨I.Can.nil, rfl⟩
   · rw [dif_neg h]
     obtain ⟨⟨h1, h2⟩, h3⟩ := ih (n / 1000000000) (by omega)
     refine ⟨⟨I.Dig.cons (by omega) (by omega) h1, fun d hd => ?_⟩, ?_⟩
     · cases hq : digs (n / 1000000000) with
       | nil =>
         rw [hq] at hd h3
         simp only [List.getLast?_singleton, Option.some.injEq] at hd
         simp only [I.val] at h3
         omega
       | cons e r =>
         rw [hq] at hd h2
         rw [List.getLast?_cons_cons] at hd
         exact h2 d hd
     · simp only [I.val, h3]
       omega
/-- Cells. -/
def bo (b : Bool) : V := .k (.bool b)
def ni (x : Int) : V := .k (.int .i64 x)
def zs (l : List Int) : List (List V) := l.map fun x => [ni x]
def zl (l : List Int) : V := .sl (zs l)
abbrev dg (x : Int) : V := .sl (zs (digs x.natAbs))
def dI (x : Int) : List V := [.k (.bool (decide (x < 0))), .sl (zs (digs x.natAbs))]
abbrev RD.ag (l : List V) : RD := .v (.ag l)
abbrev RD.tu (l : List V) : RD := .v (.tu l)
abbrev RD.sl (l : List (List V)) : RD := .v (.sl l)
noncomputable abbrev PP : Program := Tryz.prog
theorem mo_ : PP.follows .mixedOrders = true := by kernel_rfl
def okB (P : Program) (f : FuncId) : Bool := match P.funcs[f]? with
 | some fn => !(fn.name == "runtime.NumGoroutine") && fn.body.isSome
 | none => false
theorem okF_of {P : Program} {f : FuncId} (h : okB P f = true) : okF P f := fun vs w => by
 unfold okB at h
 split at h
 · rename_i fn hf
   simp only [Bool.and_eq_true, Bool.not_eq_true'] at h
   have h2 : fn.body.isNone = false := by
    cases hb : fn.body with
    | none => rw [hb] at h; cases h.2
    | some c => rfl
   have h3 : fn.name ≠ "runtime.NumGoroutine" := by simpa using h.1
   have h4 : fn.body ≠ none := by intro e; rw [e] at h2; cases h2
   simp [callFunc, hf, h3, h4]
 · cases h
/-- A function's facts by its number. -/
def fnOf (P : Program) (f : FuncId) : Func := (P.funcs[f]?).getD default
theorem fn_of {P : Program} {f : FuncId} (h : okB P f = true) : P.funcs[f]? = some (fnOf P f) ∧ (fnOf P f).body.isSome = true := by
 unfold okB at h
 unfold fnOf
 split at h
 · rename_i fn hf
   rw [hf]
   simp only [Bool.and_eq_true] at h
   exact ⟨rfl, h.2⟩
 · cases h
def met2 (b : Bool) (x : Bool × List (List V) × RD) : Bool × List (List V) × RD := (b && x.1, x.2)
/-- **A function that runs straight to its end**. -/
theorem tr {f : FuncId} {ds : List V} {d : RD} (sc : List (Fa PP)) (e : met2 (okB PP f && Nat.beq d.n 0) (met (runE PP (fnOf PP f) d (body (fnOf PP f)) (st0 (fnOf PP f) ds) sc)) = told (runE PP (fnOf PP f) d (body (fnOf PP f)) (st0 (fnOf PP f) ds) sc) d) : Pure PP f ds d := by
 have hb : (okB PP f && Nat.beq d.n 0) = true ∧ met (runE PP (fnOf PP f) d (body (fnOf PP f)) (st0 (fnOf PP f) ds) sc) = told (runE PP (fnOf PP f) d (body (fnOf PP f)) (st0 (fnOf PP f) ds) sc) d := by
  have h1 : (told (runE PP (fnOf PP f) d (body (fnOf PP f)) (st0 (fnOf PP f) ds) sc) d).1 = true := by cases runE PP (fnOf PP f) d (body (fnOf PP f)) (st0 (fnOf PP f) ds) sc <;> rfl
  have h2 := congrArg (·.1) e
  have h3 := congrArg (·.2) e
  rw [h1] at h2
  simp only [met2, Bool.and_eq_true] at h2 h3
  exact ⟨by rw [Bool.and_eq_true]; exact h2.1, Prod.ext (h2.2.trans h1.symm) h3⟩
 obtain ⟨k0, k1⟩ := hb
 rw [Bool.and_eq_true] at k0
 obtain ⟨h1, h2⟩ := fn_of k0.1
 exact .of_gd h1 h2 (okF_of k0.1) (Nat.eq_of_beq_eq_true k0.2) (.end_ mo_ h1 sc k1)
/-- With loops. -/
theorem pf {f : FuncId} {ds : List V} {d : RD} (h : (okB PP f && Nat.beq d.n 0) = true) (g : Gd PP f d (body (fnOf PP f)) (st0 (fnOf PP f) ds)) : Pure PP f ds d := by
 rw [Bool.and_eq_true] at h
 exact .of_gd (fn_of h.1).1 (fn_of h.1).2 (okF_of h.1) (Nat.eq_of_beq_eq_true h.2) g
/-- With objects that come in and stay the caller's. -/
theorem pfT {f : FuncId} {hs : List HO} {ds : List V} {d : RD} (h : okB PP f = true) (g : Gd PP f d (body (fnOf PP f)) (st0T (fnOf PP f) hs ds)) (hdr : (∀ m0, d.rest m0 = []) := by intro; rfl) : PureT PP f hs ds d := .of_gd (fn_of h).1 (fn_of h).2 (okF_of h) g hdr
theorem trT {f : FuncId} {hs : List HO} {ds : List V} {d : RD} (sc : List (Fa PP)) (e : met2 (okB PP f) (met (runE PP (fnOf PP f) d (body (fnOf PP f)) (st0T (fnOf PP f) hs ds) sc)) = told (runE PP (fnOf PP f) d (body (fnOf PP f)) (st0T (fnOf PP f) hs ds) sc) d) (hdr : (∀ m0, d.rest m0 = []) := by intro; rfl) : PureT PP f hs ds d := by
 have hb : okB PP f = true ∧ met (runE PP (fnOf PP f) d (body (fnOf PP f)) (st0T (fnOf PP f) hs ds) sc) = told (runE PP (fnOf PP f) d (body (fnOf PP f)) (st0T (fnOf PP f) hs ds) sc) d := by
  have h1 : (told (runE PP (fnOf PP f) d (body (fnOf PP f)) (st0T (fnOf PP f) hs ds) sc) d).1 = true := by cases runE PP (fnOf PP f) d (body (fnOf PP f)) (st0T (fnOf PP f) hs ds) sc <;> rfl
  have h2 := congrArg (·.1) e
  have h3 := congrArg (·.2) e
  rw [h1] at h2
  simp only [met2, Bool.and_eq_true] at h2 h3
  exact ⟨h2.1, Prod.ext (h2.2.trans h1.symm) h3⟩
 exact pfT hb.1 (.end_ mo_ (fn_of hb.1).1 sc hb.2) hdr
theorem fi {f : FuncId} {d : RD} {td : List Item} {σ : St} (sc : List (Fa PP)) (h : okB PP f = true) (e : met (runE PP (fnOf PP f) d td σ sc) = told (runE PP (fnOf PP f) d td σ sc) d) : Gd PP f d td σ := .end_ mo_ (fn_of h).1 sc e
theorem inc_ {i : Nat} (h : i < 9223372036854775807) : IntKind.i64.wrap ((i : Int) + 1) = ((i + 1 : Nat) : Int) := by rw [IntKind.wrap_i64]; omega
/-- A counter goes on. -/
def inc {P : Program} (t i : Nat) (h : i < 9223372036854775807) : Fa P := .eqv t (.k (.int .i64 (IntKind.i64.wrap ((i : Int) + 1)))) (.k (.int .i64 ((i + 1 : Nat) : Int))) (by rw [inc_ h])
def cl {P : Program} {f : FuncId} {ds : List V} {d : RD} (h : Pure P f ds d) : Fa P := .call f ds d h
section
variable {P : Program}
def ye {t : Bool} (h : t = true) : Fa P := .dec t true h
def na {t : Bool} (h : t = false) : Fa P := .dec t false h
end
theorem digs_z {x : Int} (h : x = 0) : digs x.natAbs = [] := by subst h; unfold digs; rfl
theorem digs_nz {x : Int} (h : x ≠ 0) : (digs x.natAbs).length ≠ 0 := by
 unfold digs
 rw [dif_neg (by omega)]
 simp
theorem len_z {x : Int} (h : x = 0) : (((digs x.natAbs).length : Int) == 0) = true := by rw [digs_z h]; rfl
theorem len_nz {x : Int} (h : x ≠ 0) : (((digs x.natAbs).length : Int) == 0) = false := by
 have := digs_nz h
 simp; exact fun e => this (by rw [e]; rfl)
theorem digs_one {x : Int} (h0 : ¬ x < 0) (h : (digs x.natAbs).length = 1) : digs x.natAbs = [x] := by
 have h2 := (digs_ok x.natAbs).2
 match hd : digs x.natAbs, h with
 | [d], _ =>
   rw [hd] at h2
   simp only [I.val] at h2
   congr 1
   omega
theorem digs_1 : digs (1 : Int).natAbs = [1] := by
 unfold digs; rw [dif_neg (by decide)]
 unfold digs; rfl
abbrev F_ := Fa PP
noncomputable def yt : F_ := ye (t := true) rfl
noncomputable def nf : F_ := na (t := false) rfl
theorem zs_len (l : List Int) : (zs l).length = l.length := List.length_map ..
theorem num_el {l : List Int} {i : Nat} (h : i < l.length) : l[i]? = some (l.getD i 0) := by rw [List.getD_eq_getElem?_getD, List.getElem?_eq_getElem h]; rfl
theorem zs_el {l : List Int} {i : Nat} (h : i < l.length) : (zs l)[i]? = some [ni (l.getD i 0)] := by unfold zs; rw [List.getElem?_map, num_el h]; rfl
theorem zs_at {l : List Int} {i : Nat} {d : Int} (h : l[i]? = some d) : (zs l)[i]? = some [ni d] := by unfold zs; rw [List.getElem?_map, h]; rfl
theorem zs_app (l l2 : List Int) : zs (l ++ l2) = zs l ++ zs l2 := List.map_append
theorem zs_one (l : List Int) (d : Int) : zs l ++ [[ni d]] = zs (l ++ [d]) := by rw [zs_app]; rfl
theorem zs_set (l : List Int) (i : Nat) (d : Int) : (zs l).set i [ni d] = zs (l.set i d) := by unfold zs; rw [List.map_set]
theorem zs_take (l : List Int) (i : Nat) : (zs l).take i = zs (l.take i) := by unfold zs; rw [List.map_take]
theorem zs_rep (n : Nat) : List.replicate n [ni 0] = zs (List.replicate n 0) := by unfold zs; rw [List.map_replicate]
theorem zs_z (l : List Int) : ∀ cs ∈ zs l, cs.length = 1 := fun cs h => by obtain ⟨x, _, rfl⟩ := List.mem_map.1 h; rfl
theorem zs_z1 (l : List Int) : ∀ cs ∈ zs l, cs.length = 1 ∧ cs.all one = true := fun cs h => by obtain ⟨x, _, rfl⟩ := List.mem_map.1 h; exact ⟨rfl, rfl⟩
section
variable {w w' : World} {A : Nat → Prop} {m : Nat → Option Value} {u : Value}
theorem reps_of : ∀ {us : List Value} {ds : List V}, us.length = ds.length → Glo w A → (∀ j, j < ds.length → Rep w A m (us.getD j undef) (ds.getD j .un)) → Reps w A m us.toArray ds := fun {us ds} h hg h2 => by
 refine ⟨h, fun j x hx => ?_, hg⟩
 have hlt := (List.getElem?_eq_some_iff.1 hx).1
 have := h2 j hlt
 rw [List.getD_eq_getElem?_getD (l := ds), hx] at this
 rw [← getD_toList]
 exact this
end
end Go.Proofs.YtnpdpjfdgialeaaGreatDoor.E
namespace Go.Proofs.YtnpdpjfdgialeaaGreatDoor.E
open Go.RowKit
set_option linter.unusedVariables false
section
variable {P : Program}
/-- Code without loops, from a state to the way in which it is left. -/
noncomputable def runC (P : Program) : Nat → Code → St → List (Fa P) → Option (Exit × St × List (Fa P) × Ks)
 | 0, _, _, _ => none
 | n + 1, c, σ, sc => match c with
   | .skip => some (.normal, σ, sc, [])
   | .label _ => some (.normal, σ, sc, [])
   | .ret => some (.ret, σ, sc, [])
   | .exit id => some (.exit id, σ, sc, [])
   | .region i ops dr => match regR P ops ops.toList [] σ sc with
     | some (σ', fps, sc', k1) => match nodef ops && (!dr || (backB ops && (depOk ops && (dstOk ops && confOk ops fps 0)))) with
       | true => some (.normal, σ', sc', k1)
       | false => none
     | none => none
   | .seq a b => match runC P n a σ sc with
     | some (.normal, σ1, sc1, k1) => match runC P n b σ1 sc1 with
       | some (e, σ2, sc2, k2) => some (e, σ2, sc2, k1 ++ k2)
       | none => none
     | r => r
   | .cond c a b => match σ.ev c, sc with
     | .k (.bool t), .dec t0 b0 _ :: sc => match runC P n (match b0 with | true => a | false => b) σ sc with
       | some (e, σ, sc, k) => some (e, σ, sc, ([.k (.bool t)], [.k (.bool t0)]) :: k)
       | none => none
     | _, _ => none
   | .block id c => match runC P n c σ sc with
     | some (.exit i, σ, sc, k) => match Nat.beq i id with
       | true => some (.normal, σ, sc, k)
       | false => some (.exit i, σ, sc, k)
     | r => r
   | _ => none
variable {B : Nat → Prop} {M : Nat → Prop} {w0 : World} {Fx : Fence} {nf : Nat}
/-- How code is left. -/
def PostC (B : Nat → Prop) (M : Nat → Prop) (w0 : World) (E : World → (Nat → Prop) → (Nat → Option Value) → Prop) (dfs : List Deferred) (e : Exit) (σ : St) : Exit → Act → World → Prop := fun e' a w => e' = e ∧ ∃ m, SOk B M w0 σ a m w ∧ E w (Av M σ.ho m) m ∧ a.defers = dfs
theorem runC_ok (hm : P.follows .mixedOrders = true) (hFx : WideF Fx) (E : World → (Nat → Prop) → (Nat → Option Value) → Prop) (hE : ∀ w A m w' A' m', E w A m → Mo w A m w' A' m' → E w' A' m') {dfs : List Deferred} : ∀ (n : Nat) (c : Code) (σ σ' : St) (sc sc' : List (Fa P)) (ks : Ks) (e : Exit) (a : Act) (m : Nat → Option Value) (w : World),
  runC P n c σ sc = some (e, σ', sc', ks) → (∀ p ∈ ks, p.1 = p.2) → SOk B M w0 σ a m w → E w (Av M σ.ho m) m → a.defers = dfs → c.wpIn Fx nf P (PostC B M w0 E dfs e σ') a w := by
 intro n
 induction n with
 | zero => intro c σ σ' sc sc' ks e a m w h; cases h
 | succ n ih =>
  intro c σ σ' sc sc' ks e a m w h hk H hE0 hds
  cases c with
  | skip =>
   simp only [runC, Option.some.injEq, Prod.mk.injEq] at h
   obtain ⟨rfl, rfl, rfl, rfl⟩ := h
   exact wpIn_skip ⟨rfl, m, H, hE0, hds⟩
  | label l =>
   simp only [runC, Option.some.injEq, Prod.mk.injEq] at h
   obtain ⟨rfl, rfl, rfl, rfl⟩ := h
   exact wpIn_label ⟨rfl, m, H, hE0, hds⟩
  | ret =>
   simp only [runC, Option.some.injEq, Prod.mk.injEq] at h
   obtain ⟨rfl, rfl, rfl, rfl⟩ := h
   exact wpIn_ret ⟨rfl, m, H, hE0, hds⟩
  | exit id =>
   simp only [runC, Option.some.injEq, Prod.mk.injEq] at h
   obtain ⟨rfl, rfl, rfl, rfl⟩ := h
   exact wpIn_exit ⟨rfl, m, H, hE0, hds⟩
  | region i ops dr =>
   simp only [runC] at h
   split at h
   · rename_i σ1 fps sc1 k1 hr
     split at h
     · rename_i hc
       simp only [Option.some.injEq, Prod.mk.injEq] at h
       obtain ⟨rfl, rfl, rfl, rfl⟩ := h
       exact region_ok hm hFx hr hk hc E hE H hE0 hds
     · cases h
   · cases h
  | seq x y =>
   simp only [runC] at h
   split at h
   · rename_i σ1 sc1 k1 h1
     split at h
     · rename_i e2 σ2 sc2 k2 h2
       simp only [Option.some.injEq, Prod.mk.injEq] at h
       obtain ⟨rfl, rfl, rfl, rfl⟩ := h
       refine wpIn_seq (wpIn_mono (ih _ _ _ _ _ _ _ _ _ _ h1 (fun p hp => hk p (List.mem_append.2 (.inl hp))) H hE0 hds) ?_)
       rintro e' a' w' ⟨rfl, m', H', hE1, hd1⟩
       exact ih _ _ _ _ _ _ _ _ _ _ h2 (fun p hp => hk p (List.mem_append.2 (.inr hp))) H' hE1 hd1
     · cases h
   · rename_i hnn
     refine wpIn_seq (wpIn_mono (ih _ _ _ _ _ _ _ _ _ _ h hk H hE0 hds) ?_)
     rintro e' a' w' ⟨rfl, m', H', hE1, hd1⟩
     cases e' with
     | normal => exact absurd h (hnn _ _ _)
     | _ => exact ⟨rfl, m', H', hE1, hd1⟩
  | cond c x y =>
   simp only [runC] at h
   split at h
   · rename_i t t0 b0 hb sc1 hc
     split at h
     · rename_i e2 σ2 sc2 k2 h2
       simp only [Option.some.injEq, Prod.mk.injEq] at h
       obtain ⟨rfl, rfl, rfl, rfl⟩ := h
       have hkey := hk _ (List.mem_cons_self ..)
       simp only [List.cons.injEq, V.k.injEq, Value.bool.injEq, and_true] at hkey
       subst hkey
       have hv := ev_rep (a := a) (x := c) (σ := σ) (w := w) (A := Av M σ.ho m) (m := m) H.K.gl fun t0 _ => H.slot t0
       rw [hc] at hv
       refine wpIn_cond (Rep.k_inv hv) ?_
       have h3 := ih _ _ _ _ _ _ _ _ _ _ h2 (fun p hp => hk p (List.mem_cons_of_mem _ hp)) H hE0 hds
       rw [hb]
       cases b0 <;> exact h3
     · cases h
   · cases h
  | block id c =>
   simp only [runC] at h
   split at h
   · rename_i i σ1 sc1 k1 h1
     split at h
     · rename_i hi
       simp only [Option.some.injEq, Prod.mk.injEq] at h
       obtain ⟨rfl, rfl, rfl, rfl⟩ := h
       have := Nat.eq_of_beq_eq_true hi
       subst this
       refine wpIn_block (wpIn_mono (ih _ _ _ _ _ _ _ _ _ _ h1 hk H hE0 hds) ?_)
       rintro e' a' w' ⟨rfl, m', H', hE1, hd1⟩
       simp only [Exit.inBlock, if_true]
       exact ⟨rfl, m', H', hE1, hd1⟩
     · rename_i hi
       simp only [Option.some.injEq, Prod.mk.injEq] at h
       obtain ⟨rfl, rfl, rfl, rfl⟩ := h
       refine wpIn_block (wpIn_mono (ih _ _ _ _ _ _ _ _ _ _ h1 hk H hE0 hds) ?_)
       rintro e' a' w' ⟨rfl, m', H', hE1, hd1⟩
       have hne : i ≠ id := fun e => by rw [e] at hi; rw [Nat.beq_refl] at hi; cases hi
       simp only [Exit.inBlock, if_neg hne]
       exact ⟨rfl, m', H', hE1, hd1⟩
   · rename_i hnn
     refine wpIn_block (wpIn_mono (ih _ _ _ _ _ _ _ _ _ _ h hk H hE0 hds) ?_)
     rintro e' a' w' ⟨rfl, m', H', hE1, hd1⟩
     cases e' with
     | exit i => exact absurd h (hnn _ _ _ _)
     | _ => exact ⟨rfl, m', H', hE1, hd1⟩
  | _ => simp [runC] at h
end
end Go.Proofs.YtnpdpjfdgialeaaGreatDoor.E
