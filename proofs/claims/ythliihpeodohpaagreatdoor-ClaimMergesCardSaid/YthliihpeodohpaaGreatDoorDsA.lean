/-
 SLICES.SORTFUNC of a row that is lent, from the kit's contract.
-/
import Derived.Test.YthliihpeodohpaaGreatDoorFlowR
import Derived.Test.YthliihpeodohpaaGreatDoorMemR
import Derived.Test.YthliihpeodohpaaGreatDoorEmJ
import Derived.Test.YthliihpeodohpaaGreatDoorChecked
import Derived.KernelRfl
import Derived.Lib.SliceRun
import Derived.Test.YthliihpeodohpaaGreatDoorInv
import Derived.Sort.Grow

namespace Go.Proofs.YthliihpeodohpaaGreatDoor
theorem q_eq {p q : Int} (hq : q ≠ 0) : (Rat.divInt p q).num * q = p * (Rat.divInt p q).den :=
 (Rat.divInt_eq_divInt_iff (by have := (Rat.divInt p q).den_nz; omega) hq).1 (Rat.num_divInt_den _)
theorem q_dvd {p q : Int} (hq : q ≠ 0) : (Rat.divInt p q).num.natAbs ∣ p.natAbs ∧ (Rat.divInt p q).den ∣ q.natAbs := by
 have h := congrArg Int.natAbs (q_eq (p := p) hq)
 rw [Int.natAbs_mul, Int.natAbs_mul, Int.natAbs_natCast] at h
 have hr := (Rat.divInt p q).reduced
 exact ⟨Nat.Coprime.dvd_of_dvd_mul_right hr ⟨_, h.symm⟩, Nat.Coprime.dvd_of_dvd_mul_left hr.symm ⟨p.natAbs, by rw [h, Nat.mul_comm]⟩⟩
theorem den_ne (r : Rat) : (r.den : Int) ≠ 0 := by have := r.den_nz; omega
theorem q_add (r t : Rat) : Rat.divInt (r.num * t.den + t.num * r.den) (r.den * t.den) = r + t := by
 rw [← Rat.divInt_add_divInt _ _ (den_ne r) (den_ne t), Rat.num_divInt_den, Rat.num_divInt_den]
theorem q_mul (r t : Rat) : Rat.divInt (r.num * t.num) (r.den * t.den) = r * t := by
 rw [← Rat.divInt_mul_divInt, Rat.num_divInt_den, Rat.num_divInt_den]
theorem q_mulx (r t : Rat) : Rat.divInt r.num t.den * Rat.divInt t.num r.den = r * t := by
 rw [Rat.divInt_mul_divInt, ← q_mul r t, Int.mul_comm (t.den : Int)]
theorem q_gcd (r t : Rat) : Int.gcd ((Rat.divInt r.num t.den).num * (Rat.divInt t.num r.den).num) ((Rat.divInt r.num t.den).den * (Rat.divInt t.num r.den).den) = 1 := by
 have h1 := q_dvd (p := r.num) (den_ne t)
 have h2 := q_dvd (p := t.num) (den_ne r)
 rw [Int.natAbs_natCast] at h1 h2
 have c1 := (Rat.divInt r.num t.den).reduced
 have c2 := (Rat.divInt t.num r.den).reduced
 have c3 : (Rat.divInt r.num t.den).num.natAbs.Coprime (Rat.divInt t.num r.den).den := (r.reduced.coprime_dvd_left h1.1).coprime_dvd_right h2.2
 have c4 : (Rat.divInt t.num r.den).num.natAbs.Coprime (Rat.divInt r.num t.den).den := (t.reduced.coprime_dvd_left h2.1).coprime_dvd_right h1.2
 have h3 := Nat.Coprime.mul_left (c1.mul_right c3) (c4.mul_right c2)
 rw [← Int.natAbs_mul] at h3
 unfold Int.gcd
 rw [← Int.natCast_mul, Int.natAbs_natCast]
 exact h3
theorem Bd.dvd {k : Nat} {x y : Int} (h : I.Bd k y) (hd : x.natAbs ∣ y.natAbs) (h0 : y ≠ 0) : I.Bd k x := h.of_le (Nat.le_of_dvd (by omega) hd)
theorem Bq.mono {j k : Nat} {r : Rat} (h : Bq j r) (hk : j ≤ k) : Bq k r := ⟨h.1.mono hk, h.2.mono hk⟩
theorem Bq.divInt {k : Nat} {p q : Int} (hp : I.Bd k p) (hq : I.Bd k q) (h0 : q ≠ 0) : Bq k (Rat.divInt p q) := by
 have h := q_dvd (p := p) h0
 refine ⟨?_, Bd.dvd hq (by rw [Int.natAbs_natCast]; exact h.2) h0⟩
 by_cases hp0 : p = 0
 ·subst hp0
  rw [Rat.zero_divInt]
  exact I.Bd.zero k
 ·exact Bd.dvd hp h.1 hp0
theorem Bq.add {j k : Nat} {r t : Rat} (h : Bq j r) (g : Bq k t) : Bq (j + k + 1) (r + t) := by
 rw [← q_add]
 exact Bq.divInt ((h.1.mul g.2).add' (by rw [Nat.add_comm]; exact g.1.mul h.2)) ((h.2.mul g.2).mono (by omega)) (by have := den_ne r; have := den_ne t; exact Int.mul_ne_zero ‹_› ‹_›)
theorem Bq.mul {j k : Nat} {r t : Rat} (h : Bq j r) (g : Bq k t) : Bq (j + k) (r * t) := by
 rw [← q_mul]
 exact Bq.divInt (h.1.mul g.1) (h.2.mul g.2) (Int.mul_ne_zero (den_ne r) (den_ne t))
theorem num_zero {r : Rat} : r.num = 0 ↔ r = 0 := Rat.num_eq_zero
theorem Bq.zero {k : Nat} (hk : 0 < k) : Bq k 0 := ⟨I.Bd.zero k, by
 show (1 : Nat) < 2 ^ k
 exact Nat.one_lt_two_pow (by omega)⟩
end Go.Proofs.YthliihpeodohpaaGreatDoor
namespace Go.Proofs.YthliihpeodohpaaGreatDoor
open Go.RowKit
section
end
/-- The sum of rationals, from the front. -/
def rsum (l : List Rat) : Rat := l.foldl (· + ·) 0
theorem rsum_two (r t : Rat) : rsum [r, t] = r + t := by simp [rsum, Rat.zero_add]
theorem rsum_take {l : List Rat} {i : Nat} {r : Rat} (h : l[i]? = some r) : rsum (l.take (i + 1)) = rsum (l.take i) + r := by
 have h1 := List.getElem?_eq_some_iff.1 h
 rw [List.take_succ_eq_append_getElem h1.1, h1.2]
 simp [rsum]
end Go.Proofs.YthliihpeodohpaaGreatDoor
namespace Go.Proofs.YthliihpeodohpaaGreatDoor.E
open Go.RowKit
set_option linter.unusedVariables false
set_option linter.unusedSimpArgs false
/-- The canonical digits of a number. -/
def digs (n : Nat) : List Int := if h : n = 0 then [] else ((n % 1000000000 : Nat) : Int) :: digs (n / 1000000000)
termination_by n
decreasing_by omega
theorem digs_ok (n : Nat) : I.Can (digs n) ∧ I.val (digs n) = (n : Int) := by
 induction n using Nat.strongRecOn with
 | _ n ih =>
   unfold digs
   by_cases h : n = 0
   · rw [dif_pos h]; subst h; exact ⟨I.Can.nil, rfl⟩
   · rw [dif_neg h]
     obtain ⟨⟨h1, h2⟩, h3⟩ := ih (n / 1000000000) (by omega)
     refine ⟨⟨I.Dig.cons (by omega) (by omega) h1, fun d hd => ?_⟩, ?_⟩
     · cases hq : digs (n / 1000000000) with
       | nil =>
         rw [hq] at hd h3
         simp only [List.getLast?_singleton, Option.some.injEq] at hd
         simp only [I.val] at h3
         omega
       | cons e r =>
         rw [hq] at hd h2
         rw [List.getLast?_cons_cons] at hd
         exact h2 d hd
     · simp only [I.val, h3]
       omega
/-- Cells. -/
def bo (b : Bool) : V := .k (.bool b)
def ni (x : Int) : V := .k (.int .i64 x)
def zs (l : List Int) : List (List V) := l.map fun x => [ni x]
def zl (l : List Int) : V := .sl (zs l)
abbrev dg (x : Int) : V := .sl (zs (digs x.natAbs))
def dI (x : Int) : List V := [.k (.bool (decide (x < 0))), .sl (zs (digs x.natAbs))]
abbrev RD.ag (l : List V) : RD := .v (.ag l)
abbrev RD.tu (l : List V) : RD := .v (.tu l)
abbrev RD.sl (l : List (List V)) : RD := .v (.sl l)
noncomputable abbrev PP : Program := Tryz.prog
theorem mo_ : PP.follows .mixedOrders = true := by kernel_rfl
def okB (P : Program) (f : FuncId) : Bool := match P.funcs[f]? with
 | some fn => !(fn.name == "runtime.NumGoroutine") && fn.body.isSome
 | none => false
theorem okF_of {P : Program} {f : FuncId} (h : okB P f = true) : okF P f := fun vs w => by
 unfold okB at h
 split at h
 · rename_i fn hf
   simp only [Bool.and_eq_true, Bool.not_eq_true'] at h
   have h2 : fn.body.isNone = false := by
    cases hb : fn.body with
    | none => rw [hb] at h; cases h.2
    | some c => rfl
   have h3 : fn.name ≠ "runtime.NumGoroutine" := by simpa using h.1
   have h4 : fn.body ≠ none := by intro e; rw [e] at h2; cases h2
   simp [callFunc, hf, h3, h4]
 · cases h
/-- A function's facts by its number. -/
def fnOf (P : Program) (f : FuncId) : Func := (P.funcs[f]?).getD default
theorem fn_of {P : Program} {f : FuncId} (h : okB P f = true) : P.funcs[f]? = some (fnOf P f) ∧ (fnOf P f).body.isSome = true := by
 unfold okB at h
 unfold fnOf
 split at h
 · rename_i fn hf
   rw [hf]
   simp only [Bool.and_eq_true] at h
   exact ⟨rfl, h.2⟩
 · cases h
def met2 (b : Bool) (x : Bool × List (List V) × RD) : Bool × List (List V) × RD := (b && x.1, x.2)
/-- **A function that runs straight to its end**. -/
theorem tr {f : FuncId} {ds : List V} {d : RD} (sc : List (Fa PP)) (e : met2 (okB PP f && Nat.beq d.n 0) (met (runE PP (fnOf PP f) d (body (fnOf PP f)) (st0 (fnOf PP f) ds) sc)) = told (runE PP (fnOf PP f) d (body (fnOf PP f)) (st0 (fnOf PP f) ds) sc) d) : Pure PP f ds d := by
 have hb : (okB PP f && Nat.beq d.n 0) = true ∧ met (runE PP (fnOf PP f) d (body (fnOf PP f)) (st0 (fnOf PP f) ds) sc) = told (runE PP (fnOf PP f) d (body (fnOf PP f)) (st0 (fnOf PP f) ds) sc) d := by
  have h1 : (told (runE PP (fnOf PP f) d (body (fnOf PP f)) (st0 (fnOf PP f) ds) sc) d).1 = true := by cases runE PP (fnOf PP f) d (body (fnOf PP f)) (st0 (fnOf PP f) ds) sc <;> rfl
  have h2 := congrArg (·.1) e
  have h3 := congrArg (·.2) e
  rw [h1] at h2
  simp only [met2, Bool.and_eq_true] at h2 h3
  exact ⟨by rw [Bool.and_eq_true]; exact h2.1, Prod.ext (h2.2.trans h1.symm) h3⟩
 obtain ⟨k0, k1⟩ := hb
 rw [Bool.and_eq_true] at k0
 obtain ⟨h1, h2⟩ := fn_of k0.1
 exact .of_gd h1 h2 (okF_of k0.1) (Nat.eq_of_beq_eq_true k0.2) (.end_ mo_ h1 sc k1)
/-- With loops. -/
theorem pf {f : FuncId} {ds : List V} {d : RD} (h : (okB PP f && Nat.beq d.n 0) = true) (g : Gd PP f d (body (fnOf PP f)) (st0 (fnOf PP f) ds)) : Pure PP f ds d := by
 rw [Bool.and_eq_true] at h
 exact .of_gd (fn_of h.1).1 (fn_of h.1).2 (okF_of h.1) (Nat.eq_of_beq_eq_true h.2) g
/-- With objects that come in and stay the caller's. -/
theorem pfT {f : FuncId} {hs : List HO} {ds : List V} {d : RD} (h : okB PP f = true) (g : Gd PP f d (body (fnOf PP f)) (st0T (fnOf PP f) hs ds)) (hdr : (∀ m0, d.rest m0 = []) := by intro; rfl) : PureT PP f hs ds d := .of_gd (fn_of h).1 (fn_of h).2 (okF_of h) g hdr
theorem trT {f : FuncId} {hs : List HO} {ds : List V} {d : RD} (sc : List (Fa PP)) (e : met2 (okB PP f) (met (runE PP (fnOf PP f) d (body (fnOf PP f)) (st0T (fnOf PP f) hs ds) sc)) = told (runE PP (fnOf PP f) d (body (fnOf PP f)) (st0T (fnOf PP f) hs ds) sc) d) (hdr : (∀ m0, d.rest m0 = []) := by intro; rfl) : PureT PP f hs ds d := by
 have hb : okB PP f = true ∧ met (runE PP (fnOf PP f) d (body (fnOf PP f)) (st0T (fnOf PP f) hs ds) sc) = told (runE PP (fnOf PP f) d (body (fnOf PP f)) (st0T (fnOf PP f) hs ds) sc) d := by
  have h1 : (told (runE PP (fnOf PP f) d (body (fnOf PP f)) (st0T (fnOf PP f) hs ds) sc) d).1 = true := by cases runE PP (fnOf PP f) d (body (fnOf PP f)) (st0T (fnOf PP f) hs ds) sc <;> rfl
  have h2 := congrArg (·.1) e
  have h3 := congrArg (·.2) e
  rw [h1] at h2
  simp only [met2, Bool.and_eq_true] at h2 h3
  exact ⟨h2.1, Prod.ext (h2.2.trans h1.symm) h3⟩
 exact pfT hb.1 (.end_ mo_ (fn_of hb.1).1 sc hb.2) hdr
theorem fi {f : FuncId} {d : RD} {td : List Item} {σ : St} (sc : List (Fa PP)) (h : okB PP f = true) (e : met (runE PP (fnOf PP f) d td σ sc) = told (runE PP (fnOf PP f) d td σ sc) d) : Gd PP f d td σ := .end_ mo_ (fn_of h).1 sc e
theorem inc_ {i : Nat} (h : i < 9223372036854775807) : IntKind.i64.wrap ((i : Int) + 1) = ((i + 1 : Nat) : Int) := by rw [IntKind.wrap_i64]; omega
/-- A counter goes on. -/
def inc {P : Program} (t i : Nat) (h : i < 9223372036854775807) : Fa P := .eqv t (.k (.int .i64 (IntKind.i64.wrap ((i : Int) + 1)))) (.k (.int .i64 ((i + 1 : Nat) : Int))) (by rw [inc_ h])
def cl {P : Program} {f : FuncId} {ds : List V} {d : RD} (h : Pure P f ds d) : Fa P := .call f ds d h
section
variable {P : Program}
def ye {t : Bool} (h : t = true) : Fa P := .dec t true h
def na {t : Bool} (h : t = false) : Fa P := .dec t false h
end
theorem digs_z {x : Int} (h : x = 0) : digs x.natAbs = [] := by subst h; unfold digs; rfl
theorem digs_nz {x : Int} (h : x ≠ 0) : (digs x.natAbs).length ≠ 0 := by
 unfold digs
 rw [dif_neg (by omega)]
 simp
theorem len_z {x : Int} (h : x = 0) : (((digs x.natAbs).length : Int) == 0) = true := by rw [digs_z h]; rfl
theorem len_nz {x : Int} (h : x ≠ 0) : (((digs x.natAbs).length : Int) == 0) = false := by
 have := digs_nz h
 simp; exact fun e => this (by rw [e]; rfl)
theorem digs_one {x : Int} (h0 : ¬ x < 0) (h : (digs x.natAbs).length = 1) : digs x.natAbs = [x] := by
 have h2 := (digs_ok x.natAbs).2
 match hd : digs x.natAbs, h with
 | [d], _ =>
   rw [hd] at h2
   simp only [I.val] at h2
   congr 1
   omega
theorem digs_1 : digs (1 : Int).natAbs = [1] := by
 unfold digs; rw [dif_neg (by decide)]
 unfold digs; rfl
abbrev F_ := Fa PP
noncomputable def yt : F_ := ye (t := true) rfl
noncomputable def nf : F_ := na (t := false) rfl
theorem zs_len (l : List Int) : (zs l).length = l.length := List.length_map ..
theorem num_el {l : List Int} {i : Nat} (h : i < l.length) : l[i]? = some (l.getD i 0) := by rw [List.getD_eq_getElem?_getD, List.getElem?_eq_getElem h]; rfl
theorem zs_el {l : List Int} {i : Nat} (h : i < l.length) : (zs l)[i]? = some [ni (l.getD i 0)] := by unfold zs; rw [List.getElem?_map, num_el h]; rfl
theorem zs_at {l : List Int} {i : Nat} {d : Int} (h : l[i]? = some d) : (zs l)[i]? = some [ni d] := by unfold zs; rw [List.getElem?_map, h]; rfl
theorem zs_app (l l2 : List Int) : zs (l ++ l2) = zs l ++ zs l2 := List.map_append
theorem zs_one (l : List Int) (d : Int) : zs l ++ [[ni d]] = zs (l ++ [d]) := by rw [zs_app]; rfl
theorem zs_set (l : List Int) (i : Nat) (d : Int) : (zs l).set i [ni d] = zs (l.set i d) := by unfold zs; rw [List.map_set]
theorem zs_take (l : List Int) (i : Nat) : (zs l).take i = zs (l.take i) := by unfold zs; rw [List.map_take]
theorem zs_rep (n : Nat) : List.replicate n [ni 0] = zs (List.replicate n 0) := by unfold zs; rw [List.map_replicate]
theorem zs_z (l : List Int) : ∀ cs ∈ zs l, cs.length = 1 := fun cs h => by obtain ⟨x, _, rfl⟩ := List.mem_map.1 h; rfl
theorem zs_z1 (l : List Int) : ∀ cs ∈ zs l, cs.length = 1 ∧ cs.all one = true := fun cs h => by obtain ⟨x, _, rfl⟩ := List.mem_map.1 h; exact ⟨rfl, rfl⟩
section
variable {w w' : World} {A : Nat → Prop} {m : Nat → Option Value} {u : Value}
theorem reps_of : ∀ {us : List Value} {ds : List V}, us.length = ds.length → Glo w A → (∀ j, j < ds.length → Rep w A m (us.getD j undef) (ds.getD j .un)) → Reps w A m us.toArray ds := fun {us ds} h hg h2 => by
 refine ⟨h, fun j x hx => ?_, hg⟩
 have hlt := (List.getElem?_eq_some_iff.1 hx).1
 have := h2 j hlt
 rw [List.getD_eq_getElem?_getD (l := ds), hx] at this
 rw [← getD_toList]
 exact this
end
end Go.Proofs.YthliihpeodohpaaGreatDoor.E
namespace Go.Proofs.YthliihpeodohpaaGreatDoor.E
open Go.RowKit
set_option linter.unusedVariables false
set_option linter.unusedSimpArgs false
section
variable {P : Program}
theorem two_of {α : Type} {xs : List α} (h : xs.length = 2) : ∃ x y, xs = [x, y] := by
 match xs, h with
 | [x, y], _ => exact ⟨x, y, rfl⟩
def mkEq (op : BinOp) (T yT : TypeId) (xs : List Operand) : Op := .binOp op T (xs.getD 0 (.tmp 0)) (xs.getD 1 (.tmp 0)) yT
def mkAp (T T2 : TypeId) (xs : List Operand) : Op := .call ⟨.builtin .append, #[xs.getD 0 (.tmp 0), xs.getD 1 (.tmp 0)], #[T, T2]⟩
/-- A row with elements is not nil. -/
theorem x_eqnil {T e yT : TypeId} (hT : P.underlying T = some (.slice e)) (hg : P.eqGuardType P.depth T = false) (c : List V) (l : List (List V)) : Ext P (mkEq .eql T yT) [.sl (c :: l), .k (.slice none 0 0)] [] [] (bo false) := by
 intro B M h m w a o xs ho K hl hr _ _
 obtain ⟨x, y, rfl⟩ := two_of hl
 have hx := hr 0 x _ rfl rfl
 have hy := Rep.k_inv (hr 1 y _ rfl rfl)
 generalize hu : a.eval x = u at hx
 cases hx with
 | sl _ ad b off cc z _ us h1 h2 h3 =>
  obtain ⟨rfl, _⟩ := h3 (by simp)
  have hq := Lib.run_eql_slice_nil (P := P) w T e (some ⟨b, off, none⟩) (c :: l).length cc 0 0 hT
  have hgd : (eqGuard .eql T x y (.slice (some ⟨b, off, none⟩) (c :: l).length cc) (.slice none 0 0)).run P w = .ok () w := by simp [eqGuard, hg]
  refine Exec.val (u := .bool false) (w' := w) ?_ (.same K (.k _ _))
  simp only [mkEq, List.getD_cons_zero, List.getD_cons_succ] at ho
  simp only [Option.isNone] at hq
  simp only [List.length_cons] at hq hgd hu
  simp [execOp, ho, hu, hy, hgd, hq]
/-- Nothing is appended. -/
theorem x_apk {T e : TypeId} (hT : P.underlying T = some (.slice e)) {n0 : Nat} (hs : szT P e = some n0) {b U z : Nat} {l : List (List V)} {X : Option Addr} {c2 : Nat} : Ext P (mkAp T T) [.ow b, .k (.slice X 0 c2)] [(b, .rw U z l)] [] (.ow b) := by
 intro B M h m w a o xs ho K hl hr hrd _
 obtain ⟨x, y, rfl⟩ := two_of hl
 have hx := hr 0 x _ rfl rfl
 have hy := Rep.k_inv (hr 1 y _ rfl rfl)
 have hb : h b = .rw U z l := hrd _ (List.mem_singleton.2 rfl)
 obtain ⟨v1, xs1, h1, h2, h3, h4, h5⟩ := K.rw b U z l hb
 generalize hu : a.eval x = u at hx
 cases hx with
 | ow _ _ ad n c hm =>
  rw [h1] at hm
  injection hm with hm
  subst hm
  have hle : n ≤ c := by
   rcases h3.2 with ⟨e1, e2⟩ | ⟨g, cap, cur, e1, _, _, e2, _⟩
   · injection e1 with e1 e3 e4; omega
   · injection e1 with e1 e3 e4; omega
  simp only [mkAp, List.getD_cons_zero, List.getD_cons_succ] at ho
  refine Exec.val (u := .slice ad n c) (w' := w) ?_ (.same K (.ow _ _ _ _ _ h1))
  simp [execOp, ho, resolve, invoke, builtin, hu, hy, append_none hT hs hle]
/-- A row without elements: whatever it is, nil or not. -/
theorem Pure.em {f : FuncId} {pre post : List V} {D : RD} (h : ∀ ad c, Pure P f (pre ++ .k (.slice ad 0 c) :: post) D) : Pure P f (pre ++ .sl [] :: post) D := by
 refine ⟨(h none 0).1, fun w M args hM ha => ?_⟩
 have h0 := ha.2 pre.length (.sl []) (by simp)
 generalize hu : args.getD pre.length undef = u at h0
 cases h0 with
 | sl _ ad b o c z _ us h1 h2 h3 =>
  refine (h ad c).2 w M args hM ⟨by rw [ha.1]; simp, fun j x hx => ?_, ha.3⟩
  by_cases hj : j = pre.length
  · subst hj
    simp at hx
    subst hx
    rw [hu]
    exact .k _ _
  · refine ha.2 j x ?_
    rcases Nat.lt_or_ge j pre.length with h4 | h4
    · rw [List.getElem?_append_left h4] at hx ⊢
      exact hx
    · rw [List.getElem?_append_right h4] at hx ⊢
      obtain ⟨k, hk⟩ : ∃ k, j - pre.length = k + 1 := ⟨j - pre.length - 1, by omega⟩
      rw [hk] at hx ⊢
      simpa using hx
end
end Go.Proofs.YthliihpeodohpaaGreatDoor.E
namespace Go.Proofs.YthliihpeodohpaaGreatDoor.E
open Go.RowKit Go.Sort
set_option linter.unusedVariables false
set_option linter.unusedSimpArgs false
section
variable {w w' : World}
theorem grow_of (h : Go.RowKit.Below w.heap.size w w') (hd : w.drawn ≤ w'.drawn) : ∃ q os', w' = grow (w.drewN q) os' := by
 refine ⟨w'.drawn - w.drawn, w'.heap.extract w.heap.size w'.heap.size, ?_⟩
 have hs := h.size
 have e1 : w'.heap = w.heap ++ w'.heap.extract w.heap.size w'.heap.size := by
  apply Array.ext
  · simp; omega
  · intro i h1 h2
    rw [Array.getElem_append]
    split
    · rename_i hi
      have := h.block i hi
      rw [Array.getElem?_eq_getElem h1, Array.getElem?_eq_getElem hi] at this
      exact Option.some.inj this
    · rename_i hi
      rw [Array.getElem_extract]
      congr 1
      omega
 have e2 : w'.drawn = w.drawn + (w'.drawn - w.drawn) := by omega
 have h1 := h.os
 have h2 := h.tape
 have h3 := h.output
 generalize w'.heap.extract w.heap.size w'.heap.size = os' at e1
 generalize w'.drawn - w.drawn = q at e2
 obtain ⟨hp, tp, dr, o, ot⟩ := w'
 simp only at e1 e2 h1 h2 h3
 subst e1; subst e2; subst h1; subst h2; subst h3
 rfl
end
end Go.Proofs.YthliihpeodohpaaGreatDoor.E
