/-
 CLAIMS: package slices as it is used, Same, by the engine (printed by gen/cac.py).
-/
import Derived.Test.YthliihpeodohpaaGreatDoorDsA
import Derived.ChangeKeysEq
import Derived.Test.YthliihpeodohpaaGreatDoorEqA
namespace Go.Proofs.YthliihpeodohpaaGreatDoor.E
open Go.RowKit
set_option linter.unusedVariables false
section
variable {P : Program} {w : World}
def iT (P : Program) (t : TypeId) : Bool := match P.underlying t with
 | some (.int .i64) => true
 | _ => false
theorem iT_of {t : TypeId} (h : iT P t = true) : P.underlying t = some (.int .i64) := by
 unfold iT at h
 split at h
 · assumption
 · cases h
theorem part_int {t : TypeId} (he : P.underlying t = some (.int .i64)) {xs : Array Value} {off : Nat} {v : Value} (hx : xs[off]? = some v) : (part t xs off).run P w = .ok v w := by simp [part, isAgg, run_under he, hx]
def intsF (P : Program) : Nat → List Field → Bool
 | _, [] => true
 | o, f :: r => f.name != "_" && (iT P f.type && (Nat.beq f.offset o && intsF P (o + 1) r))
theorem at_end {pre xs : List Value} {x : Value} {o : Nat} (h : pre.length = o) : (pre ++ x :: xs).toArray[o]? = some x := by
 subst h
 simp
theorem eqFields_ints (d : Nat) : ∀ (fs : List Field) (o : Nat) (xs ys : List Int) (pre pre' : List Value), intsF P o fs = true → xs.length = fs.length → ys.length = fs.length → pre.length = o → pre'.length = o → (Op.eqFields (d + 1) (pre ++ xs.map (Value.int .i64)).toArray (pre' ++ ys.map (Value.int .i64)).toArray fs).run P w = .ok (decide (xs = ys)) w
 | [], o, xs, ys, pre, pre', _, hx, hy, _, _ => by
  have hx : xs = [] := List.length_eq_zero_iff.1 hx
  have hy : ys = [] := List.length_eq_zero_iff.1 hy
  subst hx; subst hy
  simp [Op.eqFields]
 | f :: r, o, x :: xs, y :: ys, pre, pre', h, hx, hy, hp, hp' => by
  simp only [intsF, Bool.and_eq_true, bne_iff_ne] at h
  obtain ⟨h1, h2, h3, h4⟩ := h
  have h2 := iT_of h2
  have h3 := Nat.eq_of_beq_eq_true h3
  have ih := eqFields_ints d r (o + 1) xs ys (pre ++ [.int .i64 x]) (pre' ++ [.int .i64 y]) h4 (by simpa using hx) (by simpa using hy) (by simp [hp]) (by simp [hp'])
  rw [List.append_assoc, List.append_assoc] at ih
  have e1 := part_int (w := w) h2 (xs := (pre ++ .int .i64 x :: xs.map (Value.int .i64)).toArray) (off := f.offset) (at_end (hp.trans h3.symm))
  have e2 := part_int (w := w) h2 (xs := (pre' ++ .int .i64 y :: ys.map (Value.int .i64)).toArray) (off := f.offset) (at_end (hp'.trans h3.symm))
  have e3 := run_equalIn_int (P := P) w d f.type .i64 .i64 x y h2
  simp only [List.map_cons, Op.eqFields, h1, ne_eq, not_false_eq_true, if_true, Sem.run_bind, e1, e2, e3, Result.andThen_ok]
  by_cases hxy : x = y
  · subst hxy
    rw [if_neg (by simp)]
    simpa using ih
  · rw [if_pos (by simp [hxy])]
    simp [hxy]
 | f :: r, o, [], ys, pre, pre', _, hx, _, _, _ => by simp at hx
 | f :: r, o, x :: xs, [], pre, pre', _, _, hy, _, _ => by simp at hy
def sOk (P : Program) (T : TypeId) (n : Nat) : Bool := (match P.underlying T with
 | some (.struct fs) => intsF P 0 fs.toList && Nat.beq fs.toList.length n
 | _ => false) && !P.stoodInHeld T
theorem kv_ni (l : List Int) : (l.map ni).map kv = l.map (Value.int .i64) := by rw [List.map_map]; rfl
theorem EqA.str {T : TypeId} {n : Nat} (h : sOk P T n = true) {xs ys : List Int} (hx : xs.length = n) (hy : ys.length = n) : EqA P T (xs.map ni) (ys.map ni) (decide (xs = ys)) := fun w => by
 unfold sOk at h
 rw [Bool.and_eq_true] at h
 obtain ⟨h, hs⟩ := h
 split at h
 · rename_i fs hu
   simp only [Bool.and_eq_true] at h
   have hn := Nat.eq_of_beq_eq_true h.2
   have hf : P.fieldsOf T = fs := by simp [Program.fieldsOf, hu]
   rw [kv_ni, kv_ni]
   show (Op.equalIn 10000 T _ _).run P w = _
   rw [run_equalIn_struct w 9999 T _ _ (by rw [hu, hf]) (by simpa using hs), hf]
   exact eqFields_ints 9998 fs.toList 0 xs ys [] [] h.1 (by omega) (by omega) rfl rfl
 · cases h
theorem eqItems_ints (d : Nat) {e : TypeId} (he : P.underlying e = some (.int .i64)) : ∀ (n o : Nat) (xs ys : List Int) (pre pre' : List Value), xs.length = n → ys.length = n → pre.length = o → pre'.length = o → (Op.eqItems (d + 1) e 1 (pre ++ xs.map (Value.int .i64)).toArray (pre' ++ ys.map (Value.int .i64)).toArray (List.range' o n)).run P w = .ok (decide (xs = ys)) w
 | 0, o, xs, ys, pre, pre', hx, hy, _, _ => by
  have hx : xs = [] := List.length_eq_zero_iff.1 hx
  have hy : ys = [] := List.length_eq_zero_iff.1 hy
  subst hx; subst hy
  simp [Op.eqItems]
 | n + 1, o, x :: xs, y :: ys, pre, pre', hx, hy, hp, hp' => by
  have ih := eqItems_ints d he n (o + 1) xs ys (pre ++ [.int .i64 x]) (pre' ++ [.int .i64 y]) (by simpa using hx) (by simpa using hy) (by simp [hp]) (by simp [hp'])
  rw [List.append_assoc, List.append_assoc] at ih
  have e1 := part_int (w := w) he (xs := (pre ++ .int .i64 x :: xs.map (Value.int .i64)).toArray) (off := o * 1) (at_end (by omega))
  have e2 := part_int (w := w) he (xs := (pre' ++ .int .i64 y :: ys.map (Value.int .i64)).toArray) (off := o * 1) (at_end (by omega))
  have e3 := run_equalIn_int (P := P) w d e .i64 .i64 x y he
  simp only [List.range'_succ, List.map_cons, Op.eqItems, Sem.run_bind, e1, e2, e3, Result.andThen_ok]
  by_cases hxy : x = y
  · subst hxy
    rw [if_neg (by simp)]
    simpa using ih
  · rw [if_pos (by simp [hxy])]
    simp [hxy]
 | n + 1, o, [], ys, pre, pre', hx, _, _, _ => by simp at hx
 | n + 1, o, x :: xs, [], pre, pre', _, hy, _, _ => by simp at hy
def aOk (P : Program) (T : TypeId) (n : Nat) : Bool := match P.underlying T with
 | some (.array k e) => Nat.beq k n && (iT P e && (Nat.beq (P.cellsOf e) 1 && (P.info? e).isSome))
 | _ => false
theorem EqA.arr {T : TypeId} {n : Nat} (h : aOk P T n = true) {xs ys : List Int} (hx : xs.length = n) (hy : ys.length = n) : EqA P T (xs.map ni) (ys.map ni) (decide (xs = ys)) := fun w => by
 unfold aOk at h
 split at h
 · rename_i k e hu
   simp only [Bool.and_eq_true] at h
   obtain ⟨h1, h2, h3, h4⟩ := h
   have h1 := Nat.eq_of_beq_eq_true h1
   have h3 := Nat.eq_of_beq_eq_true h3
   subst h1
   obtain ⟨i, hi⟩ := Option.isSome_iff_exists.1 h4
   rw [kv_ni, kv_ni]
   show (Op.equalIn 10000 T _ _).run P w = _
   rw [run_equalIn_array w 9999 _ _ hu hi, h3, List.range_eq_range']
   exact eqItems_ints 9998 (iT_of h2) k 0 xs ys [] [] hx hy rfl rfl
 · cases h
end
end Go.Proofs.YthliihpeodohpaaGreatDoor.E
namespace Go.Proofs.YthliihpeodohpaaGreatDoor.E
open Go.RowKit
set_option linter.unusedVariables false
section
variable {x y b s : Int} {p q : Int × Int}
def cI (x y : Int) : Int := if x < y then -1 else if x > y then 1 else 0
theorem e_ccmp (x y : Int) : Pure PP 47 [ni x, ni y] (ni (cI x y)) := by
 unfold cI
 by_cases h : x < y
 · rw [if_pos h]
   exact tr [cl (e_nan x), cl (e_nan y), nf, nf, ye (t := decide (x < y)) (decide_eq_true h)] (by kernel_rfl)
 · rw [if_neg h]
   by_cases g : x > y
   · rw [if_pos g]
     exact tr [cl (e_nan x), cl (e_nan y), nf, nf, na (t := decide (x < y)) (decide_eq_false h), ye (t := decide (x > y)) (decide_eq_true g)] (by kernel_rfl)
   · rw [if_neg g]
     exact tr [cl (e_nan x), cl (e_nan y), nf, nf, na (t := decide (x < y)) (decide_eq_false h), na (t := decide (x > y)) (decide_eq_false g)] (by kernel_rfl)
def orI (x y : Int) : Int := if x = 0 then y else x
noncomputable abbrev fcor : Func := fnOf PP 21
theorem e_or (x y : Int) : Pure PP 21 [zl [x, y]] (ni (orI x y)) := by
 unfold orI
 let X : Nat → St := fun i => at_ fcor [(3, ni 0), (6, zl [x, y]), (7, ni 2), (8, ni i)] []
 refine pf (by kernel_rfl) (.to mo_ [] [3, 6, 7, 8] [] 0 [] (td' := lp fcor 0) (σ' := X 0) ?_ (by kernel_rfl))
 by_cases h : x = 0
 · rw [if_pos h]
   refine .to mo_ [] [3, 6, 7, 8] [] 0 [yt, .sel (zs [x, y]) 0 [ni x] rfl, na (t := x != 0) (by simp [h])] (td' := lp fcor 0) (σ' := X 1) ?_ (by kernel_rfl)
   by_cases g : y = 0
   · refine .to mo_ [] [3, 6, 7, 8] [] 0 [yt, .sel (zs [x, y]) 1 [ni y] rfl, na (t := y != 0) (by simp [g])] (td' := lp fcor 0) (σ' := X 2) ?_ (by kernel_rfl)
     rw [g]
     exact fi [nf] (by kernel_rfl) (by kernel_rfl)
   · exact fi [yt, .sel (zs [x, y]) 1 [ni y] rfl, ye (t := y != 0) (by simp [g])] (by kernel_rfl) (by kernel_rfl)
 · rw [if_neg h]
   exact fi [yt, .sel (zs [x, y]) 0 [ni x] rfl, ye (t := x != 0) (by simp [h])] (by kernel_rfl) (by kernel_rfl)
/-- A name. -/
def nm (p : Int × Int) : List V := [ni p.1, ni p.2]
def ordN (p q : Int × Int) : Int := orI (cI p.1 q.1) (cI p.2 q.2)
theorem e_order (p q : Int × Int) : Pure PP 22 [.ag (nm p), .ag (nm q)] (ni (ordN p q)) :=
 tr [cl (e_ccmp p.1 q.1), cl (e_ccmp p.2 q.2), cl (e_or (cI p.1 q.1) (cI p.2 q.2))] (by kernel_rfl)
end
end Go.Proofs.YthliihpeodohpaaGreatDoor.E
namespace Go.Proofs.YthliihpeodohpaaGreatDoor.E.Ca
open Go.RowKit
set_option linter.unusedVariables false
set_option linter.unusedSimpArgs false
/-- A fit: its numbers, and its rational numbers as they are written. -/
structure FM where
 a : Int
 b : Int
 ea : Int
 eb : Int
 many : Int
 n0 : RN
 n1 : RN
 n2 : RN
 n3 : RN
 n4 : RN
 n5 : RN
structure CM where
 by_ : Int
 seq : Int
 tick : Int
 kind : Int
 refs : List (Int × Int)
 fit : FM
 w : Int
def wh (f : FM) : List Int := [f.a, f.b, f.ea, f.eb, f.many]
def whV (f : FM) : List V := (wh f).map ni
def dF (f : FM) : List V := [ni f.a, ni f.b, ni f.ea, ni f.eb, ni f.many, bo f.n0.s, zl f.n0.l, bo f.n0.t, zl f.n0.m, bo f.n1.s, zl f.n1.l, bo f.n1.t, zl f.n1.m, bo f.n2.s, zl f.n2.l, bo f.n2.t, zl f.n2.m, bo f.n3.s, zl f.n3.l, bo f.n3.t, zl f.n3.m, bo f.n4.s, zl f.n4.l, bo f.n4.t, zl f.n4.m, bo f.n5.s, zl f.n5.l, bo f.n5.t, zl f.n5.m]
def nu (f : FM) : List RN := [f.n0, f.n1, f.n2, f.n3, f.n4, f.n5]
def rfs (l : List (Int × Int)) : List (List V) := l.map nm
def dC (c : CM) : List V := [ni c.by_, ni c.seq, ni c.tick, ni c.kind, .sl (rfs c.refs), ni c.fit.a, ni c.fit.b, ni c.fit.ea, ni c.fit.eb, ni c.fit.many, bo c.fit.n0.s, zl c.fit.n0.l, bo c.fit.n0.t, zl c.fit.n0.m, bo c.fit.n1.s, zl c.fit.n1.l, bo c.fit.n1.t, zl c.fit.n1.m, bo c.fit.n2.s, zl c.fit.n2.l, bo c.fit.n2.t, zl c.fit.n2.m, bo c.fit.n3.s, zl c.fit.n3.l, bo c.fit.n3.t, zl c.fit.n3.m, bo c.fit.n4.s, zl c.fit.n4.l, bo c.fit.n4.t, zl c.fit.n4.m, bo c.fit.n5.s, zl c.fit.n5.l, bo c.fit.n5.t, zl c.fit.n5.m, ni c.w]
def CM.nm (c : CM) : Int × Int := (c.by_, c.seq)
section
variable {p q : Int × Int} {c d : CM} {f g : FM}
def possB (p : Int × Int) : Bool := decide (p.1 ≥ 0) && decide (p.1 < 5) && decide (p.2 ≥ 0) && decide (p.2 < 200)
def lessN (p q : Int × Int) : Bool := decide (p.1 < q.1) || (p.1 == q.1 && decide (p.2 < q.2))
def cmpC (c d : CM) : Int := orI (cI c.tick d.tick) (ordN c.nm d.nm)
def befB (c d : CM) : Bool := decide (cmpC c d < 0)
theorem e_name (c : CM) : Pure PP 23 [.ag (dC c)] (.ag (nm c.nm)) := tr [] (by kernel_rfl)
theorem e_compare (c d : CM) : Pure PP 28 [.ag (dC c), .ag (dC d)] (ni (cmpC c d)) :=
 tr [cl (e_ccmp c.tick d.tick), cl (e_name c), cl (e_name d), cl (e_order c.nm d.nm), cl (e_or (cI c.tick d.tick) (ordN c.nm d.nm))] (by kernel_rfl)
theorem e_before (c d : CM) : Pure PP 14 [.ag (dC c), .ag (dC d)] (bo (befB c d)) := tr [cl (e_compare c d)] (by kernel_rfl)
theorem e_whole (f : FM) : Pure PP 50 [.ag (dF f)] (.ag (whV f)) := tr [] (by kernel_rfl)
def nuV (f : FM) : List V := cN f.n0 ++ cN f.n1 ++ cN f.n2 ++ cN f.n3 ++ cN f.n4 ++ cN f.n5
theorem e_numbersC (f : FM) : Pure PP 52 [.ag (dF f)] (.ag (nuV f)) := tr [] (by kernel_rfl)
theorem e_numbersC6 (f : FM) : Pure PP 55 [.ag (dF f)] (.sl ((nu f).map cN)) := tr [] (by kernel_rfl)
theorem eqN (p q : Int × Int) : EqA PP 29 (E.nm p) (E.nm q) (decide ([p.1, p.2] = [q.1, q.2])) := EqA.str (n := 2) (by kernel_rfl) (xs := [p.1, p.2]) (ys := [q.1, q.2]) rfl rfl
theorem nm_dec (p q : Int × Int) : decide ([p.1, p.2] = [q.1, q.2]) = decide (p = q) := decide_eq_decide.2 ⟨fun h => by injection h with h1 h2; injection h2 with h2; exact Prod.ext h1 h2, fun h => by rw [h]⟩
noncomputable def fEq (p q : Int × Int) : F_ := .eqa 29 (nm p) (nm q) _ (nm_dec p q ▸ eqN p q)
theorem e_poss (p : Int × Int) : Pure PP 58 [.ag (nm p)] (bo (possB p)) := by
 cases h1 : (decide (p.1 ≥ 0) : Bool) with
 | true =>
   cases h2 : (decide (p.1 < 5) : Bool) with
   | true =>
     cases h3 : (decide (p.2 ≥ 0) : Bool) with
     | true =>
       rw [show possB p = (decide (p.2 < 200)) from by simp only [possB, h1, h2, h3, Bool.and_true, Bool.true_and, Bool.and_false, Bool.false_and, Bool.or_true, Bool.true_or, Bool.or_false, Bool.false_or, Bool.not_true, Bool.not_false, Bool.false_eq_true, if_true, if_false, reduceIte]]
       exact tr [ye (t := decide (p.1 ≥ 0)) h1, ye (t := decide (p.1 < 5)) h2, ye (t := decide (p.2 ≥ 0)) h3] (by kernel_rfl)
     | false =>
       rw [show possB p = false from by simp only [possB, h1, h2, h3, Bool.and_true, Bool.true_and, Bool.and_false, Bool.false_and, Bool.or_true, Bool.true_or, Bool.or_false, Bool.false_or, Bool.not_true, Bool.not_false, Bool.false_eq_true, if_true, if_false, reduceIte]]
       exact tr [ye (t := decide (p.1 ≥ 0)) h1, ye (t := decide (p.1 < 5)) h2, na (t := decide (p.2 ≥ 0)) h3] (by kernel_rfl)
   | false =>
     rw [show possB p = false from by simp only [possB, h1, h2, Bool.and_true, Bool.true_and, Bool.and_false, Bool.false_and, Bool.or_true, Bool.true_or, Bool.or_false, Bool.false_or, Bool.not_true, Bool.not_false, Bool.false_eq_true, if_true, if_false, reduceIte]]
     exact tr [ye (t := decide (p.1 ≥ 0)) h1, na (t := decide (p.1 < 5)) h2, nf] (by kernel_rfl)
 | false =>
   rw [show possB p = false from by simp only [possB, h1, Bool.and_true, Bool.true_and, Bool.and_false, Bool.false_and, Bool.or_true, Bool.true_or, Bool.or_false, Bool.false_or, Bool.not_true, Bool.not_false, Bool.false_eq_true, if_true, if_false, reduceIte]]
   exact tr [na (t := decide (p.1 ≥ 0)) h1, nf, nf] (by kernel_rfl)
theorem e_less6 (p q : Int × Int) : Pure PP 39 [.ag (nm p), .ag (nm q)] (bo (lessN p q)) := by
 cases h7 : (decide (p.1 < q.1) : Bool) with
 | true =>
   rw [show lessN p q = true from by simp only [lessN, h7, Bool.and_true, Bool.true_and, Bool.and_false, Bool.false_and, Bool.or_true, Bool.true_or, Bool.or_false, Bool.false_or, Bool.not_true, Bool.not_false, Bool.false_eq_true, if_true, if_false, reduceIte]]
   exact tr [ye (t := decide (p.1 < q.1)) h7] (by kernel_rfl)
 | false =>
   cases h8 : (p.1 == q.1 : Bool) with
   | true =>
     rw [show lessN p q = (decide (p.2 < q.2)) from by simp only [lessN, h7, h8, Bool.and_true, Bool.true_and, Bool.and_false, Bool.false_and, Bool.or_true, Bool.true_or, Bool.or_false, Bool.false_or, Bool.not_true, Bool.not_false, Bool.false_eq_true, if_true, if_false, reduceIte]]
     exact tr [na (t := decide (p.1 < q.1)) h7, ye (t := p.1 == q.1) h8] (by kernel_rfl)
   | false =>
     rw [show lessN p q = false from by simp only [lessN, h7, h8, Bool.and_true, Bool.true_and, Bool.and_false, Bool.false_and, Bool.or_true, Bool.true_or, Bool.or_false, Bool.false_or, Bool.not_true, Bool.not_false, Bool.false_eq_true, if_true, if_false, reduceIte]]
     exact tr [na (t := decide (p.1 < q.1)) h7, na (t := p.1 == q.1) h8] (by kernel_rfl)
end
end Go.Proofs.YthliihpeodohpaaGreatDoor.E.Ca
namespace Go.Proofs.YthliihpeodohpaaGreatDoor.E.Ca
open Go.RowKit
set_option linter.unusedVariables false
set_option linter.unusedSimpArgs false
section
variable {α : Type}
theorem get_of {l : List α} {i : Nat} (h : i < l.length) : ∃ a, l[i]? = some a ∧ a ∈ l := ⟨l[i], List.getElem?_eq_getElem h, List.getElem_mem h⟩
theorem take_step {l m : List α} {i : Nat} {a b : α} (h : l.take i = m.take i) (ha : l[i]? = some a) (hb : m[i]? = some b) (e : a = b) : l.take (i + 1) = m.take (i + 1) := by
 rw [List.take_add_one, List.take_add_one, h, ha, hb, e]
theorem eq_of_take {l m : List α} {i : Nat} (h : l.take i = m.take i) (hi : ¬ i < l.length) (hl : l.length = m.length) : l = m := by
 rwa [List.take_of_length_le (by omega), List.take_of_length_le (by omega)] at h
theorem ne_at {l m : List α} {i : Nat} {a b : α} (ha : l[i]? = some a) (hb : m[i]? = some b) (e : a ≠ b) : l ≠ m := fun h => by
 subst h
 rw [ha] at hb
 injection hb with hb
 exact e hb
/-- The first that is so, or -1. -/
def fidx (bad : α → Bool) (l : List α) : Int := match l.findIdx? bad with
 | some i => i
 | none => -1
theorem fidx_at {bad : α → Bool} {l : List α} {i : Nat} {a : α} (h : ∀ t b, t < i → l[t]? = some b → bad b = false) (ha : l[i]? = some a) (hb : bad a = true) : fidx bad l = i := by
 have hi := (List.getElem?_eq_some_iff.1 ha).1
 have : l.findIdx? bad = some i := by
  rw [List.findIdx?_eq_some_iff_getElem]
  refine ⟨hi, ?_, fun j hj => ?_⟩
  · have := (List.getElem?_eq_some_iff.1 ha).2; rw [this]; exact hb
  · have := h j _ hj (List.getElem?_eq_getElem (by omega)); simp [this]
 unfold fidx
 rw [this]
theorem fidx_no {bad : α → Bool} {l : List α} {i : Nat} (h : ∀ t b, t < i → l[t]? = some b → bad b = false) (hi : ¬ i < l.length) : fidx bad l = -1 := by
 have : l.findIdx? bad = none := by
  rw [List.findIdx?_eq_none_iff]
  intro x hx
  obtain ⟨t, ht⟩ := List.getElem?_of_mem hx
  exact h t x (by have := (List.getElem?_eq_some_iff.1 ht).1; omega) ht
 unfold fidx
 rw [this]
theorem fidx_any (bad : α → Bool) (l : List α) : decide (fidx bad l ≥ 0) = l.any bad := by
 unfold fidx
 cases h : l.findIdx? bad with
 | none =>
  rw [List.findIdx?_eq_none_iff] at h
  rw [List.any_eq_false.2 fun x hx => by simp [h x hx]]
  rfl
 | some i =>
  rw [List.findIdx?_eq_some_iff_getElem] at h
  obtain ⟨h1, h2, _⟩ := h
  rw [List.any_eq_true.2 ⟨_, List.getElem_mem h1, h2⟩]
  simp
theorem no_step {bad : α → Bool} {l : List α} {i : Nat} {a : α} (h : ∀ t b, t < i → l[t]? = some b → bad b = false) (ha : l[i]? = some a) (hb : bad a = false) : ∀ t b, t < i + 1 → l[t]? = some b → bad b = false := fun t b ht e => by
 by_cases g : t = i
 · subst g; rw [ha] at e; injection e with e; rw [← e]; exact hb
 · exact h t b (by omega) e
theorem no_zero {bad : α → Bool} {l : List α} : ∀ t b, t < 0 → l[t]? = some b → bad b = false := fun t b h => absurd h (Nat.not_lt_zero t)
end
abbrev ci (x : Int) : List V := [ni x]
noncomputable abbrev fe_eqInts : Func := fnOf PP 139
theorem e_eqInts (l m : List Int) : Pure PP 139 [.sl (l.map ci), .sl (m.map ci)] (bo (decide (l = m))) := by
 refine .len 0 (l := l.map ci) (by kernel_rfl) rfl fun hm => ?_
 rw [List.length_map] at hm
 unfold maxLen at hm
 by_cases hl : l.length = m.length
 · let X : Nat → St := fun i => at_ fe_eqInts [(0, .sl (l.map ci)), (1, .sl (m.map ci)), (12, ni ((l.map ci).length : Int)), (13, ni i)] []
   refine pf (by kernel_rfl) (.to mo_ [] [0, 1, 12, 13] [] 0 [na (t := ((l.map ci).length : Int) != ((m.map ci).length : Int)) (by simp [hl])] (td' := lp fe_eqInts 0) (σ' := X 0) ?_ (by kernel_rfl))
   refine Gd.loop X (fun i => i ≤ l.length ∧ l.take i = m.take i) (fun i => l.length - i) ?_ 0 ⟨Nat.zero_le _, rfl⟩
   intro i ⟨hi, hI⟩ ih
   by_cases h : i < l.length
   · obtain ⟨a, ha, _⟩ := get_of h
     obtain ⟨b, hb, _⟩ := get_of (l := m) (i := i) (by omega)
     have hlt : decide ((i : Int) < ((l.map ci).length : Int)) = true := decide_eq_true (by rw [List.length_map]; omega)
     by_cases e : a = b
     · exact .to mo_ [] [0, 1, 12, 13] [] 0 ([ye hlt, .sel _ _ _ (sel_map (f := ci) ha), .sel _ _ _ (sel_map (f := ci) hb)] ++ [na (t := a != b) (by simp [e]), inc 25 i (by omega)]) (ih (i + 1) ⟨h, take_step hI ha hb e⟩ (by omega)) (by kernel_rfl)
     · rw [show decide (l = m) = false from decide_eq_false (ne_at ha hb e)]
       exact fi ([ye hlt, .sel _ _ _ (sel_map (f := ci) ha), .sel _ _ _ (sel_map (f := ci) hb)] ++ [ye (t := a != b) (by simp [e])]) (by kernel_rfl) (by kernel_rfl)
   · rw [show decide (l = m) = true from decide_eq_true (eq_of_take hI h hl)]
     exact fi [na (t := decide ((i : Int) < ((l.map ci).length : Int))) (decide_eq_false (by rw [List.length_map]; omega))] (by kernel_rfl) (by kernel_rfl)
 · rw [show decide (l = m) = false from decide_eq_false fun e => hl (by rw [e])]
   exact tr [ye (t := ((l.map ci).length : Int) != ((m.map ci).length : Int)) (by simp; omega)] (by kernel_rfl)
theorem e_sameR1 (x y : Int) : Pure PP 138 [.ag (dI x), .ag (dI y)] (bo (decide (x = y))) := by
 have hd : decide (x = y) = ((decide (x < 0) == decide (y < 0)) && decide (digs x.natAbs = digs y.natAbs)) := by
  by_cases h : x = y
  · subst h; simp
  · rw [decide_eq_false h]
    by_cases h1 : digs x.natAbs = digs y.natAbs
    · have h2 : (x.natAbs : Int) = y.natAbs := by rw [← (digs_ok x.natAbs).2, ← (digs_ok y.natAbs).2, h1]
      have h3 : (decide (x < 0) == decide (y < 0)) = false := by
       rw [beq_eq_false_iff_ne]
       intro e
       have := decide_eq_decide.1 e
       omega
      rw [h3]; rfl
    · rw [decide_eq_false h1, Bool.and_false]
 rw [hd]
 cases h : (decide (x < 0) == decide (y < 0)) with
 | true => exact tr [ye (t := decide (x < 0) == decide (y < 0)) h, cl (e_eqInts (digs x.natAbs) (digs y.natAbs))] (by kernel_rfl)
 | false => exact tr [na (t := decide (x < 0) == decide (y < 0)) h] (by kernel_rfl)
theorem e_rsame (r t : Rat) : Pure PP 118 [.ag (dR r), .ag (dR t)] (bo (decide (r = t))) := by
 by_cases h : r.num = t.num
 · rw [show decide (r = t) = decide (dq r = dq t) from decide_eq_decide.2 ⟨fun e => by rw [e], dq_inj h⟩]
   exact tr [cl (e_sameR1 r.num t.num), ye (decide_eq_true h), cl (e_sameR1 (dq r) (dq t))] (by kernel_rfl)
 · rw [show decide (r = t) = false from decide_eq_false fun e => h (by rw [e])]
   exact tr [cl (e_sameR1 r.num t.num), na (decide_eq_false h)] (by kernel_rfl)
noncomputable abbrev fe_idxR : Func := fnOf PP 114
theorem e_idxR {G : FuncId} {c0 : List V} {bad : RN → Bool} (L : List RN) (hc : ∀ a ∈ L, Pure PP G [.ag (cN a), .ip c0] (bo (bad a))) : Pure PP 114 [.sl (L.map cN), .cl G [.ip c0]] (ni (fidx bad L)) := by
 refine .len 0 (l := L.map cN) (by kernel_rfl) rfl fun hm => ?_
 rw [List.length_map] at hm
 unfold maxLen at hm
 let X : Nat → St := fun i => at_ fe_idxR [(0, .sl (L.map cN)), (1, .cl G [.ip c0]), (7, ni ((L.map cN).length : Int)), (8, ni i)] []
 refine pf (by kernel_rfl) (.to mo_ [] [0, 1, 7, 8] [] 0 [] (td' := lp fe_idxR 0) (σ' := X 0) ?_ (by kernel_rfl))
 refine Gd.loop X (fun i => i ≤ L.length ∧ ∀ t b, t < i → L[t]? = some b → bad b = false) (fun i => L.length - i) ?_ 0 ⟨Nat.zero_le _, no_zero⟩
 intro i ⟨hi, hI⟩ ih
 by_cases h : i < L.length
 · obtain ⟨a, ha, hma⟩ := get_of h
   have hlt : decide ((i : Int) < ((L.map cN).length : Int)) = true := decide_eq_true (by rw [List.length_map]; omega)
   have hcc := hc a hma
   cases hb : bad a with
   | true =>
     rw [hb] at hcc
     rw [fidx_at hI ha hb]
     exact fi [ye hlt, .sel _ _ _ (sel_map (f := cN) ha), cl hcc, yt] (by kernel_rfl) (by kernel_rfl)
   | false =>
     rw [hb] at hcc
     exact .to mo_ [] [0, 1, 7, 8] [] 0 [ye hlt, .sel _ _ _ (sel_map (f := cN) ha), cl hcc, nf, inc 18 i (by omega)] (ih (i + 1) ⟨h, no_step hI ha hb⟩ (by omega)) (by kernel_rfl)
 · rw [fidx_no hI h]
   exact fi [na (t := decide ((i : Int) < ((L.map cN).length : Int))) (decide_eq_false (by rw [List.length_map]; omega))] (by kernel_rfl) (by kernel_rfl)
theorem e_idxRC {G : FuncId} {c0 : List V} {bad : RN → Bool} (L : List RN) (hc : ∀ a ∈ L, Pure PP G [.ag (cN a), .ip c0] (bo (bad a))) : Pure PP 88 [.sl (L.map cN), .cl G [.ip c0]] (bo (L.any bad)) := by
 rw [← fidx_any]
 exact tr [cl (e_idxR L hc)] (by kernel_rfl)
noncomputable abbrev fe_idxC : Func := fnOf PP 32
theorem e_idxC {G : FuncId} {c0 : List V} {bad : CM → Bool} (L : List CM) (hc : ∀ a ∈ L, Pure PP G [.ag (dC a), .ip c0] (bo (bad a))) : Pure PP 32 [.sl (L.map dC), .cl G [.ip c0]] (ni (fidx bad L)) := by
 refine .len 0 (l := L.map dC) (by kernel_rfl) rfl fun hm => ?_
 rw [List.length_map] at hm
 unfold maxLen at hm
 let X : Nat → St := fun i => at_ fe_idxC [(0, .sl (L.map dC)), (1, .cl G [.ip c0]), (7, ni ((L.map dC).length : Int)), (8, ni i)] []
 refine pf (by kernel_rfl) (.to mo_ [] [0, 1, 7, 8] [] 0 [] (td' := lp fe_idxC 0) (σ' := X 0) ?_ (by kernel_rfl))
 refine Gd.loop X (fun i => i ≤ L.length ∧ ∀ t b, t < i → L[t]? = some b → bad b = false) (fun i => L.length - i) ?_ 0 ⟨Nat.zero_le _, no_zero⟩
 intro i ⟨hi, hI⟩ ih
 by_cases h : i < L.length
 · obtain ⟨a, ha, hma⟩ := get_of h
   have hlt : decide ((i : Int) < ((L.map dC).length : Int)) = true := decide_eq_true (by rw [List.length_map]; omega)
   have hcc := hc a hma
   cases hb : bad a with
   | true =>
     rw [hb] at hcc
     rw [fidx_at hI ha hb]
     exact fi [ye hlt, .sel _ _ _ (sel_map (f := dC) ha), cl hcc, yt] (by kernel_rfl) (by kernel_rfl)
   | false =>
     rw [hb] at hcc
     exact .to mo_ [] [0, 1, 7, 8] [] 0 [ye hlt, .sel _ _ _ (sel_map (f := dC) ha), cl hcc, nf, inc 18 i (by omega)] (ih (i + 1) ⟨h, no_step hI ha hb⟩ (by omega)) (by kernel_rfl)
 · rw [fidx_no hI h]
   exact fi [na (t := decide ((i : Int) < ((L.map dC).length : Int))) (decide_eq_false (by rw [List.length_map]; omega))] (by kernel_rfl) (by kernel_rfl)
noncomputable abbrev fixn : Func := fnOf PP 97
theorem e_idxN (L : List (Int × Int)) (p : Int × Int) : Pure PP 97 [.sl (L.map nm), .ag (nm p)] (ni (fidx (fun q => decide (p = q)) L)) := by
 refine .len 0 (l := L.map nm) (by kernel_rfl) rfl fun hm => ?_
 rw [List.length_map] at hm
 unfold maxLen at hm
 let X : Nat → St := fun i => at_ fixn [(0, .sl (L.map nm)), (3, .lp 0 0), (7, ni ((L.map nm).length : Int)), (8, ni i)] [.bx 29 (nm p)]
 refine pf (by kernel_rfl) (.to mo_ [] [0, 3, 7, 8] [0] 1 [] (td' := lp fixn 0) (σ' := X 0) ?_ (by kernel_rfl))
 refine Gd.loop X (fun i => i ≤ L.length ∧ ∀ t b, t < i → L[t]? = some b → decide (p = b) = false) (fun i => L.length - i) ?_ 0 ⟨Nat.zero_le _, no_zero (bad := fun q => decide (p = q))⟩
 intro i ⟨hi, hI⟩ ih
 by_cases h : i < L.length
 · obtain ⟨a, ha, hma⟩ := get_of h
   have hlt : decide ((i : Int) < ((L.map nm).length : Int)) = true := decide_eq_true (by rw [List.length_map]; omega)
   cases hb : decide (p = a) with
   | true =>
     rw [fidx_at (bad := fun q => decide (p = q)) hI ha hb]
     exact fi [ye hlt, .sel _ _ _ (sel_map (f := nm) ha), fEq p a, ye (t := decide (p = a)) hb] (by kernel_rfl) (by kernel_rfl)
   | false =>
     exact .to mo_ [] [0, 3, 7, 8] [0] 1 [ye hlt, .sel _ _ _ (sel_map (f := nm) ha), fEq p a, na (t := decide (p = a)) hb, inc 18 i (by omega)] (ih (i + 1) ⟨h, no_step (bad := fun q => decide (p = q)) hI ha hb⟩ (by omega)) (by kernel_rfl)
 · rw [fidx_no (bad := fun q => decide (p = q)) hI h]
   exact fi [na (t := decide ((i : Int) < ((L.map nm).length : Int))) (decide_eq_false (by rw [List.length_map]; omega))] (by kernel_rfl) (by kernel_rfl)
theorem e_containsN (L : List (Int × Int)) (p : Int × Int) : Pure PP 65 [.sl (L.map nm), .ag (nm p)] (bo (L.any fun q => decide (p = q))) := by
 rw [← fidx_any]
 exact tr [cl (e_idxN L p)] (by kernel_rfl)
end Go.Proofs.YthliihpeodohpaaGreatDoor.E.Ca
