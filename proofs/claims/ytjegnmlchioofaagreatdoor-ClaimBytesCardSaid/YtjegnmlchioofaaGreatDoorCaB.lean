/-
 CLAIMS: what is said of one or two of them, by the engine (printed by gen/cab.py).
-/
import Derived.Test.YtjegnmlchioofaaGreatDoorEpN
import Derived.Test.YtjegnmlchioofaaGreatDoorEmL
import Derived.ChangeKeysEq
namespace Go.Proofs.YtjegnmlchioofaaGreatDoor.E
open Go.RowKit
set_option linter.unusedVariables false
/-- A raw rational number: signs and digits. -/
structure RN where
 s : Bool
 l : List Int
 t : Bool
 m : List Int
def cN (n : RN) : List V := [bo n.s, zl n.l, bo n.t, zl n.m]
/-- An integer's digits, as they should be. -/
def iok (s : Bool) (l : List Int) : Prop := ∃ x : Int, s = decide (x < 0) ∧ l = digs x.natAbs
def ofR (r : Rat) : RN := ⟨decide (r.num < 0), digs r.num.natAbs, decide (dq r < 0), digs (dq r).natAbs⟩
def rok (n : RN) : Prop := ∃ r : Rat, n = ofR r
/-- Few digits. -/
def Bn (k : Nat) (n : RN) : Prop := (I.Can n.l → I.Bd k (I.val n.l)) ∧ (I.Can n.m → I.Bd k (I.val n.m))
theorem Pure.lenA {P : Program} {f : FuncId} {ds : List V} {D : RD} (i j : Nat) {xs : List V} {l : List (List V)} (hok : okB P f = true) (hi : ds[i]? = some (.ag xs)) (hj : xs[j]? = some (.sl l)) (h : l.length ≤ maxLen → Pure P f ds D) : Pure P f ds D :=
 ⟨okF_of hok, fun w M args hM ha cs => by
  have h1 := ha.2 i _ hi
  have h2 : l.length ≤ maxLen := by
   generalize args.getD i undef = u at h1
   cases h1 with
   | ag _ us _ h3 h4 =>
     have h5 := h4 j _ hj
     generalize us.getD j undef = u at h5
     cases h5 with
     | sl _ ad b off c zz _ us h1 h2' => omega
  exact (h h2).2 w M args hM ha cs⟩
section
variable {s t : Bool} {l m : List Int} {k : Nat} {n : RN}
theorem can_val0 (h : I.Can l) : 0 ≤ I.val l := by
 by_cases e : l = []
 · subst e; exact Int.le_refl _
 · have := h.pos e
   have h2 : 0 ≤ I.pw (l.length - 1) := by unfold I.pw; exact Int.natCast_nonneg _
   omega
theorem iok_of (h : I.Can l) (h2 : l = [] → s = false) : iok s l := by
 have h0 := can_val0 h
 refine ⟨sg s (I.val l), ?_, ?_⟩
 · cases s with
   | false => unfold sg; simp; exact h0
   | true =>
     have hl : l ≠ [] := fun e => by have := h2 e; cases this
     have h3 : I.val l ≠ 0 := fun e => hl (h.zero e)
     unfold sg; simp; omega
 · have h3 : (sg s (I.val l)).natAbs = (I.val l).natAbs := by unfold sg; cases s <;> simp
   rw [h3]
   exact h.uniq (digs_ok _).1 (by rw [(digs_ok _).2]; omega)
theorem dig_first : ∀ {l : List Int}, ¬ I.Dig l → ∃ (i : Nat) (d : Int), l[i]? = some d ∧ (d < 0 ∨ d ≥ 1000000000) ∧ ∀ t e, t < i → l[t]? = some e → 0 ≤ e ∧ e < 1000000000
 | [], h => absurd I.Dig.nil h
 | a :: r, h => by
  by_cases ha : a < 0 ∨ a ≥ 1000000000
  · exact ⟨0, a, rfl, ha, fun t e ht => absurd ht (Nat.not_lt_zero t)⟩
  · obtain ⟨i, d, h1, h2, h3⟩ := dig_first (l := r) (fun g => h (I.Dig.cons (by omega) (by omega) g))
    refine ⟨i + 1, d, h1, h2, fun t e ht he => ?_⟩
    cases t with
    | zero => simp at he; subst he; omega
    | succ t => exact h3 t e (by omega) (by simpa using he)
theorem e_index_no (hd : ¬ I.Dig l) : ∃ i : Nat, Pure PP 116 [zl l, .cl 126 []] (ni i) := by
 obtain ⟨i0, d0, h1, h2, h3⟩ := dig_first hd
 have hi0 := (List.getElem?_eq_some_iff.1 h1).1
 refine ⟨i0, .len 0 (l := zs l) (by kernel_rfl) rfl fun hm => ?_⟩
 rw [zs_len] at hm
 unfold maxLen at hm
 let X : Nat → St := fun i => at_ fix [(0, zl l), (1, .cl 126 []), (7, ni l.length), (8, ni i)] []
 refine pf (by kernel_rfl) (.to mo_ [] [0, 1, 7, 8] [] 0 [.eqv 7 (ni ((zs l).length : Int)) (ni l.length) (by rw [zs_len])] (td' := lp fix 0) (σ' := X 0) ?_ (by kernel_rfl))
 refine Gd.loop X (fun i => i ≤ i0) (fun i => l.length - i) ?_ 0 (Nat.zero_le _)
 intro i hi ih
 have hlt : decide ((i : Int) < (l.length : Int)) = true := decide_eq_true (by omega)
 by_cases h : i = i0
 · subst h
   have c := e_bad d0
   rw [decide_eq_true h2] at c
   exact fi [ye hlt, .sel _ _ _ (zs_at h1), cl c, yt] (by kernel_rfl) (by kernel_rfl)
 · have e := num_el (l := l) (i := i) (by omega)
   generalize l.getD i 0 = d at e
   obtain ⟨d0, d1⟩ := h3 i d (by omega) e
   exact .to mo_ [] [0, 1, 7, 8] [] 0 [ye hlt, .sel _ _ _ (zs_at e), cl (e_good d0 d1), nf, inc 18 i (by omega)] (ih (i + 1) (by omega) (by omega)) (by kernel_rfl)
theorem e_contains_no (hd : ¬ I.Dig l) : Pure PP 82 [zl l, .cl 126 []] (bo true) := by
 obtain ⟨i, h⟩ := e_index_no hd
 exact tr [cl h, .eqv 8 (bo (decide ((i : Int) ≥ 0))) (bo true) (by rw [decide_eq_true (by omega)])] (by kernel_rfl)
theorem last_of (h : l ≠ []) : ∃ d, l[l.length - 1]? = some d ∧ l.getLast? = some d := by
 have hl : 0 < l.length := List.length_pos_iff.2 h
 have e := num_el (l := l) (i := l.length - 1) (by omega)
 exact ⟨_, e, by rw [List.getLast?_eq_getElem?]; exact e⟩
theorem iok_zero (hd : I.Dig l) (h : ¬ iok s l) (hl : l ≠ []) : l[l.length - 1]? = some 0 := by
 obtain ⟨d, h1, h2⟩ := last_of hl
 by_cases h0 : d = 0
 · rw [h1, h0]
 · exact absurd (iok_of ⟨hd, fun e he => by rw [h2] at he; injection he with he; subst he; exact h0⟩ fun e => absurd e hl) h
theorem e_ivalid_no (h : ¬ iok s l) : Pure PP 99 [.ag [bo s, zl l]] (bo false) := by
 refine .lenA 0 1 (l := zs l) (by kernel_rfl) rfl rfl fun hm => ?_
 rw [zs_len] at hm
 unfold maxLen at hm
 by_cases hd : I.Dig l
 · have hc := e_contains hd
   by_cases hl : l = []
   · subst hl
     have hs : s = true := by
      cases s with
      | true => rfl
      | false => exact absurd (iok_of I.Can.nil fun _ => rfl) h
     subst hs
     rw [show zl [] = .sl [] from rfl] at hc ⊢
     exact tr [cl hc, nf, yt, nf, nf] (by kernel_rfl)
   · have e := iok_zero hd h hl
     have hp : 0 < l.length := List.length_pos_iff.2 hl
     exact tr [cl hc, nf, na (t := ((zs l).length : Int) == 0) (by rw [zs_len]; simpa using hl), nf, ye (t := decide (((zs l).length : Int) > 0)) (by rw [zs_len]; exact decide_eq_true (by omega)), .eqv 25 (ni ((zs l).length : Int)) (ni l.length) (by rw [zs_len]), wq 26 ((l.length : Int) - 1) ((l.length - 1 : Nat) : Int) (by omega), .sel _ _ _ (zs_at e)] (by kernel_rfl)
 · exact tr [cl (e_contains_no hd), yt] (by kernel_rfl)
theorem e_ivalid3_no (h : ¬ iok s l) : Pure PP 102 [.ag [bo s, zl l]] (bo false) := by
 refine .lenA 0 1 (l := zs l) (by kernel_rfl) rfl rfl fun hm => ?_
 rw [zs_len] at hm
 unfold maxLen at hm
 let X : Nat → St := fun i => at_ fv3 [(1, .lp 0 0), (3, ni i)] [.bx 33 [bo s, zl l]]
 have start : Gd PP 102 (bo false) (lp fv3 0) (X 0) → Pure PP 102 [.ag [bo s, zl l]] (bo false) := fun g => pf (by kernel_rfl) (.to mo_ [] [1, 3] [0] 1 [] (td' := lp fv3 0) (σ' := X 0) g (by kernel_rfl))
 refine start ?_
 by_cases hd : I.Dig l
 · refine Gd.loop X (fun i => i ≤ l.length) (fun i => l.length - i) ?_ 0 (Nat.zero_le _)
   intro i hi ih
   by_cases hlt : i < l.length
   · have e := num_el hlt
     generalize l.getD i 0 = d at e
     obtain ⟨d0, d1⟩ := hd.get e
     exact .to mo_ [] [1, 3] [0] 1 [ye (t := decide ((i : Int) < ((zs l).length : Int))) (decide_eq_true (by rw [zs_len]; omega)), .sel _ _ _ (zs_at e), na (t := decide (d < 0)) (decide_eq_false (by omega)), .sel _ _ _ (zs_at e), na (t := decide (d ≥ 1000000000)) (decide_eq_false (by omega)), inc 10 i (by omega)] (ih (i + 1) hlt (by omega)) (by kernel_rfl)
   · by_cases hl : l = []
     · subst hl
       have hs : s = true := by
        cases s with
        | true => rfl
        | false => exact absurd (iok_of I.Can.nil fun _ => rfl) h
       subst hs
       have hx : X i = at_ fv3 [(1, .lp 0 0), (3, ni i)] [.bx 33 [bo true, .sl []]] := rfl
       rw [hx]
       exact fi [na (t := decide ((i : Int) < ((([] : List (List V))).length : Int))) (decide_eq_false (by simp)), yt] (by kernel_rfl) (by kernel_rfl)
     · have e := iok_zero hd h hl
       have hp : 0 < l.length := List.length_pos_iff.2 hl
       exact fi [na (t := decide ((i : Int) < ((zs l).length : Int))) (decide_eq_false (by rw [zs_len]; omega)), na (t := ((zs l).length : Int) == 0) (by rw [zs_len]; simpa using hl), .eqv 36 (ni ((zs l).length : Int)) (ni l.length) (by rw [zs_len]), wq 37 ((l.length : Int) - 1) ((l.length - 1 : Nat) : Int) (by omega), .sel _ _ _ (zs_at e)] (by kernel_rfl) (by kernel_rfl)
 · obtain ⟨i0, d0, h1, h2, h3⟩ := dig_first hd
   have hi0 := (List.getElem?_eq_some_iff.1 h1).1
   refine Gd.loop X (fun i => i ≤ i0) (fun i => l.length - i) ?_ 0 (Nat.zero_le _)
   intro i hi ih
   have hlt : decide ((i : Int) < ((zs l).length : Int)) = true := decide_eq_true (by rw [zs_len]; omega)
   by_cases hii : i = i0
   · subst hii
     by_cases hneg : d0 < 0
     · exact fi [ye hlt, .sel _ _ _ (zs_at h1), ye (t := decide (d0 < 0)) (decide_eq_true hneg), yt] (by kernel_rfl) (by kernel_rfl)
     · exact fi [ye hlt, .sel _ _ _ (zs_at h1), na (t := decide (d0 < 0)) (decide_eq_false hneg), .sel _ _ _ (zs_at h1), ye (t := decide (d0 ≥ 1000000000)) (decide_eq_true (by omega))] (by kernel_rfl) (by kernel_rfl)
   · have e := num_el (l := l) (i := i) (by omega)
     generalize l.getD i 0 = d at e
     obtain ⟨d0, d1⟩ := h3 i d (by omega) e
     exact .to mo_ [] [1, 3] [0] 1 [ye hlt, .sel _ _ _ (zs_at e), na (t := decide (d < 0)) (decide_eq_false (by omega)), .sel _ _ _ (zs_at e), na (t := decide (d ≥ 1000000000)) (decide_eq_false (by omega)), inc 10 i (by omega)] (ih (i + 1) (by omega) (by omega)) (by kernel_rfl)
/-- What makes a raw number one. -/
theorem rok_whole {x : Int} (h1 : n.s = decide (x < 0)) (h2 : n.l = digs x.natAbs) (h3 : n.t = false) (h4 : n.m = []) : rok n := by
 refine ⟨(x : Rat), ?_⟩
 obtain ⟨s, l, t, m⟩ := n
 simp only at h1 h2 h3 h4
 subst h1; subst h2; subst h3; subst h4
 unfold ofR
 rw [dq_one (r := (x : Rat)) rfl, show (x : Rat).num = x from rfl, show digs (0 : Int).natAbs = [] from digs_z rfl]
 rfl
theorem rok_frac {x y : Int} (h1 : n.s = decide (x < 0)) (h2 : n.l = digs x.natAbs) (h3 : n.t = decide (y < 0)) (h4 : n.m = digs y.natAbs) (hy : 1 < y) (hg : Int.gcd x y = 1) : rok n := by
 refine ⟨Rat.divInt x y, ?_⟩
 obtain ⟨e1, e2⟩ := divInt_pos (p := x) (q := y) (by omega) hg
 obtain ⟨s, l, t, m⟩ := n
 simp only at h1 h2 h3 h4
 subst h1; subst h2; subst h3; subst h4
 unfold ofR
 rw [dq_more (r := Rat.divInt x y) (by omega), e1, e2]
theorem iok_bd {x : Int} (h : l = digs x.natAbs) (hb : I.Can l → I.Bd k (I.val l)) : I.Bd k x := by
 subst h
 have := hb (digs_ok _).1
 rw [(digs_ok _).2] at this
 unfold I.Bd at *
 simpa using this
theorem e_rvalid_no (h : ¬ rok n) (hb : Bn k n) (hk : k ≤ 1000000000000) : Pure PP 67 [.ag (cN n)] (bo false) := by
 by_cases h1 : iok n.s n.l
 · obtain ⟨x, hx1, hx2⟩ := h1
   have vx := e_ivalid x
   have bx := iok_bd hx2 hb.1
   by_cases h2 : iok n.t n.m
   · obtain ⟨y, hy1, hy2⟩ := h2
     have vy := e_ivalid y
     have by_ := iok_bd hy2 hb.2
     have hc : cN n = [bo (decide (x < 0)), .sl (zs (digs x.natAbs)), bo (decide (y < 0)), .sl (zs (digs y.natAbs))] := by unfold cN; rw [hx1, hx2, hy1, hy2]; rfl
     rw [hc]
     by_cases y0 : y < 0
     · exact tr [cl vx, nf, cl vy, nf, ye (t := decide (y < 0)) (decide_eq_true y0), yt] (by kernel_rfl)
     · by_cases y1 : y = 1
       · exact tr [cl vx, nf, cl vy, nf, na (t := decide (y < 0)) (decide_eq_false y0), cl (e_unit y), ye (t := decide (y = 1)) (decide_eq_true y1)] (by kernel_rfl)
       · by_cases yz : y = 0
         · subst yz
           exact absurd (rok_whole hx1 hx2 hy1 (hy2.trans (digs_z rfl))) h
         · have hg := e_gcd bx by_ hk
           have hu := e_unit (Int.gcd x y : Int)
           rw [decide_eq_false (show ¬ (Int.gcd x y : Int) = 1 from fun e => h (rok_frac hx1 hx2 hy1 hy2 (by omega) (by omega)))] at hu
           exact tr [cl vx, nf, cl vy, nf, na (t := decide (y < 0)) (decide_eq_false y0), cl (e_unit y), na (t := decide (y = 1)) (decide_eq_false y1), na (lz_nz yz), cl hg, cl hu] (by kernel_rfl)
   · have hc : cN n = [bo (decide (x < 0)), .sl (zs (digs x.natAbs)), bo n.t, zl n.m] := by unfold cN; rw [hx1, hx2]; rfl
     rw [hc]
     exact tr [cl vx, nf, cl (e_ivalid_no h2), yt, yt, yt] (by kernel_rfl)
 · exact tr [cl (e_ivalid_no h1), yt, yt, yt, yt] (by kernel_rfl)
theorem e_valid4_no (h : ¬ rok n) (hb : Bn k n) (hk : k ≤ 800000000000) : Pure PP 72 [.ag (cN n)] (bo false) := by
 by_cases h1 : iok n.s n.l
 · obtain ⟨x, hx1, hx2⟩ := h1
   have vx := e_ivalid3 x
   have bx := iok_bd hx2 hb.1
   by_cases h2 : iok n.t n.m
   · obtain ⟨y, hy1, hy2⟩ := h2
     have vy := e_ivalid3 y
     have by_ := iok_bd hy2 hb.2
     have hc : cN n = [bo (decide (x < 0)), .sl (zs (digs x.natAbs)), bo (decide (y < 0)), .sl (zs (digs y.natAbs))] := by unfold cN; rw [hx1, hx2, hy1, hy2]; rfl
     rw [hc]
     by_cases y0 : y < 0
     · exact tr [cl vx, nf, cl vy, nf, ye (t := decide (y < 0)) (decide_eq_true y0), yt] (by kernel_rfl)
     · by_cases y1 : y = 1
       · exact tr [cl vx, nf, cl vy, nf, na (t := decide (y < 0)) (decide_eq_false y0), cl (e_one4 y), ye (t := decide (y = 1)) (decide_eq_true y1)] (by kernel_rfl)
       · by_cases yz : y = 0
         · subst yz
           exact absurd (rok_whole hx1 hx2 hy1 (hy2.trans (digs_z rfl))) h
         · have hg := e_gcd3 bx by_ hk
           have hu := e_one4 (Int.gcd x y : Int)
           rw [decide_eq_false (show ¬ (Int.gcd x y : Int) = 1 from fun e => h (rok_frac hx1 hx2 hy1 hy2 (by omega) (by omega)))] at hu
           exact tr [cl vx, nf, cl vy, nf, na (t := decide (y < 0)) (decide_eq_false y0), cl (e_one4 y), na (t := decide (y = 1)) (decide_eq_false y1), na (lz_nz yz), cl hg, cl hu] (by kernel_rfl)
   · have hc : cN n = [bo (decide (x < 0)), .sl (zs (digs x.natAbs)), bo n.t, zl n.m] := by unfold cN; rw [hx1, hx2]; rfl
     rw [hc]
     exact tr [cl vx, nf, cl (e_ivalid3_no h2), yt, yt, yt] (by kernel_rfl)
 · exact tr [cl (e_ivalid3_no h1), yt, yt, yt, yt] (by kernel_rfl)
/-- A raw number that is one. -/
theorem Bn.bq {r : Rat} (h : Bn k (ofR r)) (hk : 1 ≤ k) : Bq k r := by
 have h1 := iok_bd (l := (ofR r).l) (x := r.num) rfl h.1
 have h2 := iok_bd (l := (ofR r).m) (x := dq r) rfl h.2
 refine ⟨h1, ?_⟩
 by_cases e : r.den = 1
 · rw [e]
   unfold I.Bd
   have : 2 ^ 1 ≤ 2 ^ k := Nat.pow_le_pow_right (by omega) hk
   simp; omega
 · rw [← dq_more e]; exact h2
end
end Go.Proofs.YtjegnmlchioofaaGreatDoor.E
namespace Go.Proofs.YtjegnmlchioofaaGreatDoor.E
open Go.RowKit
set_option linter.unusedVariables false
section
variable {P : Program} {w : World}
def iT (P : Program) (t : TypeId) : Bool := match P.underlying t with
 | some (.int .i64) => true
 | _ => false
theorem iT_of {t : TypeId} (h : iT P t = true) : P.underlying t = some (.int .i64) := by
 unfold iT at h
 split at h
 · assumption
 · cases h
theorem part_int {t : TypeId} (he : P.underlying t = some (.int .i64)) {xs : Array Value} {off : Nat} {v : Value} (hx : xs[off]? = some v) : (part t xs off).run P w = .ok v w := by simp [part, isAgg, run_under he, hx]
def intsF (P : Program) : Nat → List Field → Bool
 | _, [] => true
 | o, f :: r => f.name != "_" && (iT P f.type && (Nat.beq f.offset o && intsF P (o + 1) r))
theorem at_end {pre xs : List Value} {x : Value} {o : Nat} (h : pre.length = o) : (pre ++ x :: xs).toArray[o]? = some x := by
 subst h
 simp
theorem eqFields_ints (d : Nat) : ∀ (fs : List Field) (o : Nat) (xs ys : List Int) (pre pre' : List Value), intsF P o fs = true → xs.length = fs.length → ys.length = fs.length → pre.length = o → pre'.length = o → (Op.eqFields (d + 1) (pre ++ xs.map (Value.int .i64)).toArray (pre' ++ ys.map (Value.int .i64)).toArray fs).run P w = .ok (decide (xs = ys)) w
 | [], o, xs, ys, pre, pre', _, hx, hy, _, _ => by
  have hx : xs = [] := List.length_eq_zero_iff.1 hx
  have hy : ys = [] := List.length_eq_zero_iff.1 hy
  subst hx; subst hy
  simp [Op.eqFields]
 | f :: r, o, x :: xs, y :: ys, pre, pre', h, hx, hy, hp, hp' => by
  simp only [intsF, Bool.and_eq_true, bne_iff_ne] at h
  obtain ⟨h1, h2, h3, h4⟩ := h
  have h2 := iT_of h2
  have h3 := Nat.eq_of_beq_eq_true h3
  have ih := eqFields_ints d r (o + 1) xs ys (pre ++ [.int .i64 x]) (pre' ++ [.int .i64 y]) h4 (by simpa using hx) (by simpa using hy) (by simp [hp]) (by simp [hp'])
  rw [List.append_assoc, List.append_assoc] at ih
  have e1 := part_int (w := w) h2 (xs := (pre ++ .int .i64 x :: xs.map (Value.int .i64)).toArray) (off := f.offset) (at_end (hp.trans h3.symm))
  have e2 := part_int (w := w) h2 (xs := (pre' ++ .int .i64 y :: ys.map (Value.int .i64)).toArray) (off := f.offset) (at_end (hp'.trans h3.symm))
  have e3 := run_equalIn_int (P := P) w d f.type .i64 .i64 x y h2
  simp only [List.map_cons, Op.eqFields, h1, ne_eq, not_false_eq_true, if_true, Sem.run_bind, e1, e2, e3, Result.andThen_ok]
  by_cases hxy : x = y
  · subst hxy
    rw [if_neg (by simp)]
    simpa using ih
  · rw [if_pos (by simp [hxy])]
    simp [hxy]
 | f :: r, o, [], ys, pre, pre', _, hx, _, _, _ => by simp at hx
 | f :: r, o, x :: xs, [], pre, pre', _, _, hy, _, _ => by simp at hy
def sOk (P : Program) (T : TypeId) (n : Nat) : Bool := (match P.underlying T with
 | some (.struct fs) => intsF P 0 fs.toList && Nat.beq fs.toList.length n
 | _ => false) && !P.stoodInHeld T
theorem kv_ni (l : List Int) : (l.map ni).map kv = l.map (Value.int .i64) := by rw [List.map_map]; rfl
theorem EqA.str {T : TypeId} {n : Nat} (h : sOk P T n = true) {xs ys : List Int} (hx : xs.length = n) (hy : ys.length = n) : EqA P T (xs.map ni) (ys.map ni) (decide (xs = ys)) := fun w => by
 unfold sOk at h
 rw [Bool.and_eq_true] at h
 obtain ⟨h, hs⟩ := h
 split at h
 · rename_i fs hu
   simp only [Bool.and_eq_true] at h
   have hn := Nat.eq_of_beq_eq_true h.2
   have hf : P.fieldsOf T = fs := by simp [Program.fieldsOf, hu]
   rw [kv_ni, kv_ni]
   show (Op.equalIn 10000 T _ _).run P w = _
   rw [run_equalIn_struct w 9999 T _ _ (by rw [hu, hf]) (by simpa using hs), hf]
   exact eqFields_ints 9998 fs.toList 0 xs ys [] [] h.1 (by omega) (by omega) rfl rfl
 · cases h
theorem eqItems_ints (d : Nat) {e : TypeId} (he : P.underlying e = some (.int .i64)) : ∀ (n o : Nat) (xs ys : List Int) (pre pre' : List Value), xs.length = n → ys.length = n → pre.length = o → pre'.length = o → (Op.eqItems (d + 1) e 1 (pre ++ xs.map (Value.int .i64)).toArray (pre' ++ ys.map (Value.int .i64)).toArray (List.range' o n)).run P w = .ok (decide (xs = ys)) w
 | 0, o, xs, ys, pre, pre', hx, hy, _, _ => by
  have hx : xs = [] := List.length_eq_zero_iff.1 hx
  have hy : ys = [] := List.length_eq_zero_iff.1 hy
  subst hx; subst hy
  simp [Op.eqItems]
 | n + 1, o, x :: xs, y :: ys, pre, pre', hx, hy, hp, hp' => by
  have ih := eqItems_ints d he n (o + 1) xs ys (pre ++ [.int .i64 x]) (pre' ++ [.int .i64 y]) (by simpa using hx) (by simpa using hy) (by simp [hp]) (by simp [hp'])
  rw [List.append_assoc, List.append_assoc] at ih
  have e1 := part_int (w := w) he (xs := (pre ++ .int .i64 x :: xs.map (Value.int .i64)).toArray) (off := o * 1) (at_end (by omega))
  have e2 := part_int (w := w) he (xs := (pre' ++ .int .i64 y :: ys.map (Value.int .i64)).toArray) (off := o * 1) (at_end (by omega))
  have e3 := run_equalIn_int (P := P) w d e .i64 .i64 x y he
  simp only [List.range'_succ, List.map_cons, Op.eqItems, Sem.run_bind, e1, e2, e3, Result.andThen_ok]
  by_cases hxy : x = y
  · subst hxy
    rw [if_neg (by simp)]
    simpa using ih
  · rw [if_pos (by simp [hxy])]
    simp [hxy]
 | n + 1, o, [], ys, pre, pre', hx, _, _, _ => by simp at hx
 | n + 1, o, x :: xs, [], pre, pre', _, hy, _, _ => by simp at hy
def aOk (P : Program) (T : TypeId) (n : Nat) : Bool := match P.underlying T with
 | some (.array k e) => Nat.beq k n && (iT P e && (Nat.beq (P.cellsOf e) 1 && (P.info? e).isSome))
 | _ => false
theorem EqA.arr {T : TypeId} {n : Nat} (h : aOk P T n = true) {xs ys : List Int} (hx : xs.length = n) (hy : ys.length = n) : EqA P T (xs.map ni) (ys.map ni) (decide (xs = ys)) := fun w => by
 unfold aOk at h
 split at h
 · rename_i k e hu
   simp only [Bool.and_eq_true] at h
   obtain ⟨h1, h2, h3, h4⟩ := h
   have h1 := Nat.eq_of_beq_eq_true h1
   have h3 := Nat.eq_of_beq_eq_true h3
   subst h1
   obtain ⟨i, hi⟩ := Option.isSome_iff_exists.1 h4
   rw [kv_ni, kv_ni]
   show (Op.equalIn 10000 T _ _).run P w = _
   rw [run_equalIn_array w 9999 _ _ hu hi, h3, List.range_eq_range']
   exact eqItems_ints 9998 (iT_of h2) k 0 xs ys [] [] hx hy rfl rfl
 · cases h
end
end Go.Proofs.YtjegnmlchioofaaGreatDoor.E
namespace Go.Proofs.YtjegnmlchioofaaGreatDoor.E
open Go.RowKit
set_option linter.unusedVariables false
section
variable {x y b s : Int} {p q : Int × Int}
def cI (x y : Int) : Int := if x < y then -1 else if x > y then 1 else 0
theorem e_ccmp (x y : Int) : Pure PP 115 [ni x, ni y] (ni (cI x y)) := by
 unfold cI
 by_cases h : x < y
 · rw [if_pos h]
   exact tr [cl (e_nan x), cl (e_nan y), nf, nf, ye (t := decide (x < y)) (decide_eq_true h)] (by kernel_rfl)
 · rw [if_neg h]
   by_cases g : x > y
   · rw [if_pos g]
     exact tr [cl (e_nan x), cl (e_nan y), nf, nf, na (t := decide (x < y)) (decide_eq_false h), ye (t := decide (x > y)) (decide_eq_true g)] (by kernel_rfl)
   · rw [if_neg g]
     exact tr [cl (e_nan x), cl (e_nan y), nf, nf, na (t := decide (x < y)) (decide_eq_false h), na (t := decide (x > y)) (decide_eq_false g)] (by kernel_rfl)
def orI (x y : Int) : Int := if x = 0 then y else x
noncomputable abbrev fcor : Func := fnOf PP 114
theorem e_or (x y : Int) : Pure PP 114 [zl [x, y]] (ni (orI x y)) := by
 unfold orI
 let X : Nat → St := fun i => at_ fcor [(3, ni 0), (6, zl [x, y]), (7, ni 2), (8, ni i)] []
 refine pf (by kernel_rfl) (.to mo_ [] [3, 6, 7, 8] [] 0 [] (td' := lp fcor 0) (σ' := X 0) ?_ (by kernel_rfl))
 by_cases h : x = 0
 · rw [if_pos h]
   refine .to mo_ [] [3, 6, 7, 8] [] 0 [yt, .sel (zs [x, y]) 0 [ni x] rfl, na (t := x != 0) (by simp [h])] (td' := lp fcor 0) (σ' := X 1) ?_ (by kernel_rfl)
   by_cases g : y = 0
   · refine .to mo_ [] [3, 6, 7, 8] [] 0 [yt, .sel (zs [x, y]) 1 [ni y] rfl, na (t := y != 0) (by simp [g])] (td' := lp fcor 0) (σ' := X 2) ?_ (by kernel_rfl)
     rw [g]
     exact fi [nf] (by kernel_rfl) (by kernel_rfl)
   · exact fi [yt, .sel (zs [x, y]) 1 [ni y] rfl, ye (t := y != 0) (by simp [g])] (by kernel_rfl) (by kernel_rfl)
 · rw [if_neg h]
   exact fi [yt, .sel (zs [x, y]) 0 [ni x] rfl, ye (t := x != 0) (by simp [h])] (by kernel_rfl) (by kernel_rfl)
/-- A name. -/
def nm (p : Int × Int) : List V := [ni p.1, ni p.2]
def ordN (p q : Int × Int) : Int := orI (cI p.1 q.1) (cI p.2 q.2)
theorem e_order (p q : Int × Int) : Pure PP 106 [.ag (nm p), .ag (nm q)] (ni (ordN p q)) :=
 tr [cl (e_ccmp p.1 q.1), cl (e_ccmp p.2 q.2), cl (e_or (cI p.1 q.1) (cI p.2 q.2))] (by kernel_rfl)
end
end Go.Proofs.YtjegnmlchioofaaGreatDoor.E
namespace Go.Proofs.YtjegnmlchioofaaGreatDoor.E.Ca
open Go.RowKit
set_option linter.unusedVariables false
set_option linter.unusedSimpArgs false
/-- A fit: its numbers, and its rational numbers as they are written. -/
structure FM where
 a : Int
 b : Int
 ea : Int
 eb : Int
 many : Int
 n0 : RN
 n1 : RN
 n2 : RN
 n3 : RN
 n4 : RN
 n5 : RN
structure CM where
 by_ : Int
 seq : Int
 tick : Int
 kind : Int
 refs : List (Int × Int)
 fit : FM
 w : Int
def wh (f : FM) : List Int := [f.a, f.b, f.ea, f.eb, f.many]
def whV (f : FM) : List V := (wh f).map ni
def dF (f : FM) : List V := [ni f.a, ni f.b, ni f.ea, ni f.eb, ni f.many, bo f.n0.s, zl f.n0.l, bo f.n0.t, zl f.n0.m, bo f.n1.s, zl f.n1.l, bo f.n1.t, zl f.n1.m, bo f.n2.s, zl f.n2.l, bo f.n2.t, zl f.n2.m, bo f.n3.s, zl f.n3.l, bo f.n3.t, zl f.n3.m, bo f.n4.s, zl f.n4.l, bo f.n4.t, zl f.n4.m, bo f.n5.s, zl f.n5.l, bo f.n5.t, zl f.n5.m]
def nu (f : FM) : List RN := [f.n0, f.n1, f.n2, f.n3, f.n4, f.n5]
def rfs (l : List (Int × Int)) : List (List V) := l.map nm
def dC (c : CM) : List V := [ni c.by_, ni c.seq, ni c.tick, ni c.kind, .sl (rfs c.refs), ni c.fit.a, ni c.fit.b, ni c.fit.ea, ni c.fit.eb, ni c.fit.many, bo c.fit.n0.s, zl c.fit.n0.l, bo c.fit.n0.t, zl c.fit.n0.m, bo c.fit.n1.s, zl c.fit.n1.l, bo c.fit.n1.t, zl c.fit.n1.m, bo c.fit.n2.s, zl c.fit.n2.l, bo c.fit.n2.t, zl c.fit.n2.m, bo c.fit.n3.s, zl c.fit.n3.l, bo c.fit.n3.t, zl c.fit.n3.m, bo c.fit.n4.s, zl c.fit.n4.l, bo c.fit.n4.t, zl c.fit.n4.m, bo c.fit.n5.s, zl c.fit.n5.l, bo c.fit.n5.t, zl c.fit.n5.m, ni c.w]
def CM.nm (c : CM) : Int × Int := (c.by_, c.seq)
section
variable {p q : Int × Int} {c d : CM} {f g : FM}
def possB (p : Int × Int) : Bool := decide (p.1 ≥ 0) && decide (p.1 < 5) && decide (p.2 ≥ 0) && decide (p.2 < 200)
def lessN (p q : Int × Int) : Bool := decide (p.1 < q.1) || (p.1 == q.1 && decide (p.2 < q.2))
def cmpC (c d : CM) : Int := orI (cI c.tick d.tick) (ordN c.nm d.nm)
def befB (c d : CM) : Bool := decide (cmpC c d < 0)
theorem e_name (c : CM) : Pure PP 43 [.ag (dC c)] (.ag (nm c.nm)) := tr [] (by kernel_rfl)
theorem e_compare (c d : CM) : Pure PP 81 [.ag (dC c), .ag (dC d)] (ni (cmpC c d)) :=
 tr [cl (e_ccmp c.tick d.tick), cl (e_name c), cl (e_name d), cl (e_order c.nm d.nm), cl (e_or (cI c.tick d.tick) (ordN c.nm d.nm))] (by kernel_rfl)
theorem e_before (c d : CM) : Pure PP 53 [.ag (dC c), .ag (dC d)] (bo (befB c d)) := tr [cl (e_compare c d)] (by kernel_rfl)
theorem e_whole (f : FM) : Pure PP 23 [.ag (dF f)] (.ag (whV f)) := tr [] (by kernel_rfl)
def nuV (f : FM) : List V := cN f.n0 ++ cN f.n1 ++ cN f.n2 ++ cN f.n3 ++ cN f.n4 ++ cN f.n5
theorem e_numbersC (f : FM) : Pure PP 25 [.ag (dF f)] (.ag (nuV f)) := tr [] (by kernel_rfl)
theorem e_numbersC6 (f : FM) : Pure PP 28 [.ag (dF f)] (.sl ((nu f).map cN)) := tr [] (by kernel_rfl)
theorem eqN (p q : Int × Int) : EqA PP 58 (E.nm p) (E.nm q) (decide ([p.1, p.2] = [q.1, q.2])) := EqA.str (n := 2) (by kernel_rfl) (xs := [p.1, p.2]) (ys := [q.1, q.2]) rfl rfl
theorem eqW (f g : FM) : EqA PP 63 (whV f) (whV g) (decide (wh f = wh g)) := EqA.arr (n := 5) (by kernel_rfl) rfl rfl
theorem nm_dec (p q : Int × Int) : decide ([p.1, p.2] = [q.1, q.2]) = decide (p = q) := decide_eq_decide.2 ⟨fun h => by injection h with h1 h2; injection h2 with h2; exact Prod.ext h1 h2, fun h => by rw [h]⟩
noncomputable def fEq (p q : Int × Int) : F_ := .eqa 58 (nm p) (nm q) _ (nm_dec p q ▸ eqN p q)
noncomputable def wEq (f g : FM) : F_ := .eqa 63 (whV f) (whV g) _ (eqW f g)
theorem e_poss (p : Int × Int) : Pure PP 76 [.ag (nm p)] (bo (possB p)) := by
 cases h1 : (decide (p.1 ≥ 0) : Bool) with
 | true =>
   cases h2 : (decide (p.1 < 5) : Bool) with
   | true =>
     cases h3 : (decide (p.2 ≥ 0) : Bool) with
     | true =>
       rw [show possB p = (decide (p.2 < 200)) from by simp only [possB, h1, h2, h3, Bool.and_true, Bool.true_and, Bool.and_false, Bool.false_and, Bool.or_true, Bool.true_or, Bool.or_false, Bool.false_or, Bool.not_true, Bool.not_false, Bool.false_eq_true, if_true, if_false, reduceIte]]
       exact tr [ye (t := decide (p.1 ≥ 0)) h1, ye (t := decide (p.1 < 5)) h2, ye (t := decide (p.2 ≥ 0)) h3] (by kernel_rfl)
     | false =>
       rw [show possB p = false from by simp only [possB, h1, h2, h3, Bool.and_true, Bool.true_and, Bool.and_false, Bool.false_and, Bool.or_true, Bool.true_or, Bool.or_false, Bool.false_or, Bool.not_true, Bool.not_false, Bool.false_eq_true, if_true, if_false, reduceIte]]
       exact tr [ye (t := decide (p.1 ≥ 0)) h1, ye (t := decide (p.1 < 5)) h2, na (t := decide (p.2 ≥ 0)) h3] (by kernel_rfl)
   | false =>
     rw [show possB p = false from by simp only [possB, h1, h2, Bool.and_true, Bool.true_and, Bool.and_false, Bool.false_and, Bool.or_true, Bool.true_or, Bool.or_false, Bool.false_or, Bool.not_true, Bool.not_false, Bool.false_eq_true, if_true, if_false, reduceIte]]
     exact tr [ye (t := decide (p.1 ≥ 0)) h1, na (t := decide (p.1 < 5)) h2, nf] (by kernel_rfl)
 | false =>
   rw [show possB p = false from by simp only [possB, h1, Bool.and_true, Bool.true_and, Bool.and_false, Bool.false_and, Bool.or_true, Bool.true_or, Bool.or_false, Bool.false_or, Bool.not_true, Bool.not_false, Bool.false_eq_true, if_true, if_false, reduceIte]]
   exact tr [na (t := decide (p.1 ≥ 0)) h1, nf, nf] (by kernel_rfl)
theorem e_less6 (p q : Int × Int) : Pure PP 54 [.ag (nm p), .ag (nm q)] (bo (lessN p q)) := by
 cases h7 : (decide (p.1 < q.1) : Bool) with
 | true =>
   rw [show lessN p q = true from by simp only [lessN, h7, Bool.and_true, Bool.true_and, Bool.and_false, Bool.false_and, Bool.or_true, Bool.true_or, Bool.or_false, Bool.false_or, Bool.not_true, Bool.not_false, Bool.false_eq_true, if_true, if_false, reduceIte]]
   exact tr [ye (t := decide (p.1 < q.1)) h7] (by kernel_rfl)
 | false =>
   cases h8 : (p.1 == q.1 : Bool) with
   | true =>
     rw [show lessN p q = (decide (p.2 < q.2)) from by simp only [lessN, h7, h8, Bool.and_true, Bool.true_and, Bool.and_false, Bool.false_and, Bool.or_true, Bool.true_or, Bool.or_false, Bool.false_or, Bool.not_true, Bool.not_false, Bool.false_eq_true, if_true, if_false, reduceIte]]
     exact tr [na (t := decide (p.1 < q.1)) h7, ye (t := p.1 == q.1) h8] (by kernel_rfl)
   | false =>
     rw [show lessN p q = false from by simp only [lessN, h7, h8, Bool.and_true, Bool.true_and, Bool.and_false, Bool.false_and, Bool.or_true, Bool.true_or, Bool.or_false, Bool.false_or, Bool.not_true, Bool.not_false, Bool.false_eq_true, if_true, if_false, reduceIte]]
     exact tr [na (t := decide (p.1 < q.1)) h7, na (t := p.1 == q.1) h8] (by kernel_rfl)
end
end Go.Proofs.YtjegnmlchioofaaGreatDoor.E.Ca
