/-
 RAW LISTS OF VECTORS: which are polygons, by the engine.
-/
import Derived.Test.YtcfejkpadcccbaaGreatEoRw
namespace Go.Proofs.YtcfejkpadcccbaaGreat.E
open Go.RowKit
set_option linter.unusedVariables false
/-- A raw rational number: signs and digits. -/
structure RN where
 s : Bool
 l : List Int
 t : Bool
 m : List Int
def cN (n : RN) : List V := [bo n.s, zl n.l, bo n.t, zl n.m]
/-- An integer's digits, as they should be. -/
def iok (s : Bool) (l : List Int) : Prop := ∃ x : Int, s = decide (x < 0) ∧ l = digs x.natAbs
def ofR (r : Rat) : RN := ⟨decide (r.num < 0), digs r.num.natAbs, decide (dq r < 0), digs (dq r).natAbs⟩
def rok (n : RN) : Prop := ∃ r : Rat, n = ofR r
/-- Few digits. -/
def Bn (k : Nat) (n : RN) : Prop := (I.Can n.l → I.Bd k (I.val n.l)) ∧ (I.Can n.m → I.Bd k (I.val n.m))
theorem Pure.lenA {P : Program} {f : FuncId} {ds : List V} {D : RD} (i j : Nat) {xs : List V} {l : List (List V)} (hok : okB P f = true) (hi : ds[i]? = some (.ag xs)) (hj : xs[j]? = some (.sl l)) (h : l.length ≤ maxLen → Pure P f ds D) : Pure P f ds D :=
 ⟨okF_of hok, fun w M args hM ha cs => by
  have h1 := ha.2 i _ hi
  have h2 : l.length ≤ maxLen := by
   generalize args.getD i undef = u at h1
   cases h1 with
   | ag _ us _ h3 h4 =>
     have h5 := h4 j _ hj
     generalize us.getD j undef = u at h5
     cases h5 with
     | sl _ ad b off c zz _ us h1 h2' => omega
  exact (h h2).2 w M args hM ha cs⟩
section
variable {s t : Bool} {l m : List Int} {k : Nat} {n : RN}
theorem can_val0 (h : I.Can l) : 0 ≤ I.val l := by
 by_cases e : l = []
 · subst e; exact Int.le_refl _
 · have := h.pos e
   have h2 : 0 ≤ I.pw (l.length - 1) := by unfold I.pw; exact Int.natCast_nonneg _
   omega
theorem iok_of (h : I.Can l) (h2 : l = [] → s = false) : iok s l := by
 have h0 := can_val0 h
 refine ⟨sg s (I.val l), ?_, ?_⟩
 · cases s with
   | false => unfold sg; simp; exact h0
   | true =>
     have hl : l ≠ [] := fun e => by have := h2 e; cases this
     have h3 : I.val l ≠ 0 := fun e => hl (h.zero e)
     unfold sg; simp; omega
 · have h3 : (sg s (I.val l)).natAbs = (I.val l).natAbs := by unfold sg; cases s <;> simp
   rw [h3]
   exact h.uniq (digs_ok _).1 (by rw [(digs_ok _).2]; omega)
theorem dig_first : ∀ {l : List Int}, ¬ I.Dig l → ∃ (i : Nat) (d : Int), l[i]? = some d ∧ (d < 0 ∨ d ≥ 1000000000) ∧ ∀ t e, t < i → l[t]? = some e → 0 ≤ e ∧ e < 1000000000
 | [], h => absurd I.Dig.nil h
 | a :: r, h => by
  by_cases ha : a < 0 ∨ a ≥ 1000000000
  · exact ⟨0, a, rfl, ha, fun t e ht => absurd ht (Nat.not_lt_zero t)⟩
  · obtain ⟨i, d, h1, h2, h3⟩ := dig_first (l := r) (fun g => h (I.Dig.cons (by omega) (by omega) g))
    refine ⟨i + 1, d, h1, h2, fun t e ht he => ?_⟩
    cases t with
    | zero => simp at he; subst he; omega
    | succ t => exact h3 t e (by omega) (by simpa using he)
theorem e_index_no (hd : ¬ I.Dig l) : ∃ i : Nat, Pure PP 136 [zl l, .cl 126 []] (ni i) := by
 obtain ⟨i0, d0, h1, h2, h3⟩ := dig_first hd
 have hi0 := (List.getElem?_eq_some_iff.1 h1).1
 refine ⟨i0, .len 0 (l := zs l) (by kernel_rfl) rfl fun hm => ?_⟩
 rw [zs_len] at hm
 unfold maxLen at hm
 let X : Nat → St := fun i => at_ fix [(0, zl l), (1, .cl 126 []), (7, ni l.length), (8, ni i)] []
 refine pf (by kernel_rfl) (.to mo_ [] [0, 1, 7, 8] [] 0 [.eqv 7 (ni ((zs l).length : Int)) (ni l.length) (by rw [zs_len])] (td' := lp fix 0) (σ' := X 0) ?_ (by kernel_rfl))
 refine Gd.loop X (fun i => i ≤ i0) (fun i => l.length - i) ?_ 0 (Nat.zero_le _)
 intro i hi ih
 have hlt : decide ((i : Int) < (l.length : Int)) = true := decide_eq_true (by omega)
 by_cases h : i = i0
 · subst h
   have c := e_bad d0
   rw [decide_eq_true h2] at c
   exact fi [ye hlt, .sel _ _ _ (zs_at h1), cl c, yt] (by kernel_rfl) (by kernel_rfl)
 · have e := num_el (l := l) (i := i) (by omega)
   generalize l.getD i 0 = d at e
   obtain ⟨d0, d1⟩ := h3 i d (by omega) e
   exact .to mo_ [] [0, 1, 7, 8] [] 0 [ye hlt, .sel _ _ _ (zs_at e), cl (e_good d0 d1), nf, inc 18 i (by omega)] (ih (i + 1) (by omega) (by omega)) (by kernel_rfl)
theorem e_contains_no (hd : ¬ I.Dig l) : Pure PP 125 [zl l, .cl 126 []] (bo true) := by
 obtain ⟨i, h⟩ := e_index_no hd
 exact tr [cl h, .eqv 8 (bo (decide ((i : Int) ≥ 0))) (bo true) (by rw [decide_eq_true (by omega)])] (by kernel_rfl)
theorem last_of (h : l ≠ []) : ∃ d, l[l.length - 1]? = some d ∧ l.getLast? = some d := by
 have hl : 0 < l.length := List.length_pos_iff.2 h
 have e := num_el (l := l) (i := l.length - 1) (by omega)
 exact ⟨_, e, by rw [List.getLast?_eq_getElem?]; exact e⟩
theorem iok_zero (hd : I.Dig l) (h : ¬ iok s l) (hl : l ≠ []) : l[l.length - 1]? = some 0 := by
 obtain ⟨d, h1, h2⟩ := last_of hl
 by_cases h0 : d = 0
 · rw [h1, h0]
 · exact absurd (iok_of ⟨hd, fun e he => by rw [h2] at he; injection he with he; subst he; exact h0⟩ fun e => absurd e hl) h
theorem e_ivalid_no (h : ¬ iok s l) : Pure PP 96 [.ag [bo s, zl l]] (bo false) := by
 refine .lenA 0 1 (l := zs l) (by kernel_rfl) rfl rfl fun hm => ?_
 rw [zs_len] at hm
 unfold maxLen at hm
 by_cases hd : I.Dig l
 · have hc := e_contains hd
   by_cases hl : l = []
   · subst hl
     have hs : s = true := by
      cases s with
      | true => rfl
      | false => exact absurd (iok_of I.Can.nil fun _ => rfl) h
     subst hs
     rw [show zl [] = .sl [] from rfl] at hc ⊢
     exact tr [cl hc, nf, yt, nf, nf] (by kernel_rfl)
   · have e := iok_zero hd h hl
     have hp : 0 < l.length := List.length_pos_iff.2 hl
     exact tr [cl hc, nf, na (t := ((zs l).length : Int) == 0) (by rw [zs_len]; simpa using hl), nf, ye (t := decide (((zs l).length : Int) > 0)) (by rw [zs_len]; exact decide_eq_true (by omega)), .eqv 25 (ni ((zs l).length : Int)) (ni l.length) (by rw [zs_len]), wq 26 ((l.length : Int) - 1) ((l.length - 1 : Nat) : Int) (by omega), .sel _ _ _ (zs_at e)] (by kernel_rfl)
 · exact tr [cl (e_contains_no hd), yt] (by kernel_rfl)
theorem e_ivalid3_no (h : ¬ iok s l) : Pure PP 101 [.ag [bo s, zl l]] (bo false) := by
 refine .lenA 0 1 (l := zs l) (by kernel_rfl) rfl rfl fun hm => ?_
 rw [zs_len] at hm
 unfold maxLen at hm
 let X : Nat → St := fun i => at_ fv3 [(1, .lp 0 0), (3, ni i)] [.bx 31 [bo s, zl l]]
 have start : Gd PP 101 (bo false) (lp fv3 0) (X 0) → Pure PP 101 [.ag [bo s, zl l]] (bo false) := fun g => pf (by kernel_rfl) (.to mo_ [] [1, 3] [0] 1 [] (td' := lp fv3 0) (σ' := X 0) g (by kernel_rfl))
 refine start ?_
 by_cases hd : I.Dig l
 · refine Gd.loop X (fun i => i ≤ l.length) (fun i => l.length - i) ?_ 0 (Nat.zero_le _)
   intro i hi ih
   by_cases hlt : i < l.length
   · have e := num_el hlt
     generalize l.getD i 0 = d at e
     obtain ⟨d0, d1⟩ := hd.get e
     exact .to mo_ [] [1, 3] [0] 1 [ye (t := decide ((i : Int) < ((zs l).length : Int))) (decide_eq_true (by rw [zs_len]; omega)), .sel _ _ _ (zs_at e), na (t := decide (d < 0)) (decide_eq_false (by omega)), .sel _ _ _ (zs_at e), na (t := decide (d ≥ 1000000000)) (decide_eq_false (by omega)), inc 10 i (by omega)] (ih (i + 1) hlt (by omega)) (by kernel_rfl)
   · by_cases hl : l = []
     · subst hl
       have hs : s = true := by
        cases s with
        | true => rfl
        | false => exact absurd (iok_of I.Can.nil fun _ => rfl) h
       subst hs
       have hx : X i = at_ fv3 [(1, .lp 0 0), (3, ni i)] [.bx 31 [bo true, .sl []]] := rfl
       rw [hx]
       exact fi [na (t := decide ((i : Int) < ((([] : List (List V))).length : Int))) (decide_eq_false (by simp)), yt] (by kernel_rfl) (by kernel_rfl)
     · have e := iok_zero hd h hl
       have hp : 0 < l.length := List.length_pos_iff.2 hl
       exact fi [na (t := decide ((i : Int) < ((zs l).length : Int))) (decide_eq_false (by rw [zs_len]; omega)), na (t := ((zs l).length : Int) == 0) (by rw [zs_len]; simpa using hl), .eqv 36 (ni ((zs l).length : Int)) (ni l.length) (by rw [zs_len]), wq 37 ((l.length : Int) - 1) ((l.length - 1 : Nat) : Int) (by omega), .sel _ _ _ (zs_at e)] (by kernel_rfl) (by kernel_rfl)
 · obtain ⟨i0, d0, h1, h2, h3⟩ := dig_first hd
   have hi0 := (List.getElem?_eq_some_iff.1 h1).1
   refine Gd.loop X (fun i => i ≤ i0) (fun i => l.length - i) ?_ 0 (Nat.zero_le _)
   intro i hi ih
   have hlt : decide ((i : Int) < ((zs l).length : Int)) = true := decide_eq_true (by rw [zs_len]; omega)
   by_cases hii : i = i0
   · subst hii
     by_cases hneg : d0 < 0
     · exact fi [ye hlt, .sel _ _ _ (zs_at h1), ye (t := decide (d0 < 0)) (decide_eq_true hneg), yt] (by kernel_rfl) (by kernel_rfl)
     · exact fi [ye hlt, .sel _ _ _ (zs_at h1), na (t := decide (d0 < 0)) (decide_eq_false hneg), .sel _ _ _ (zs_at h1), ye (t := decide (d0 ≥ 1000000000)) (decide_eq_true (by omega))] (by kernel_rfl) (by kernel_rfl)
   · have e := num_el (l := l) (i := i) (by omega)
     generalize l.getD i 0 = d at e
     obtain ⟨d0, d1⟩ := h3 i d (by omega) e
     exact .to mo_ [] [1, 3] [0] 1 [ye hlt, .sel _ _ _ (zs_at e), na (t := decide (d < 0)) (decide_eq_false (by omega)), .sel _ _ _ (zs_at e), na (t := decide (d ≥ 1000000000)) (decide_eq_false (by omega)), inc 10 i (by omega)] (ih (i + 1) (by omega) (by omega)) (by kernel_rfl)
/-- What makes a raw number one. -/
theorem rok_whole {x : Int} (h1 : n.s = decide (x < 0)) (h2 : n.l = digs x.natAbs) (h3 : n.t = false) (h4 : n.m = []) : rok n := by
 refine ⟨(x : Rat), ?_⟩
 obtain ⟨s, l, t, m⟩ := n
 simp only at h1 h2 h3 h4
 subst h1; subst h2; subst h3; subst h4
 unfold ofR
 rw [dq_one (r := (x : Rat)) rfl, show (x : Rat).num = x from rfl, show digs (0 : Int).natAbs = [] from digs_z rfl]
 rfl
theorem rok_frac {x y : Int} (h1 : n.s = decide (x < 0)) (h2 : n.l = digs x.natAbs) (h3 : n.t = decide (y < 0)) (h4 : n.m = digs y.natAbs) (hy : 1 < y) (hg : Int.gcd x y = 1) : rok n := by
 refine ⟨Rat.divInt x y, ?_⟩
 obtain ⟨e1, e2⟩ := divInt_pos (p := x) (q := y) (by omega) hg
 obtain ⟨s, l, t, m⟩ := n
 simp only at h1 h2 h3 h4
 subst h1; subst h2; subst h3; subst h4
 unfold ofR
 rw [dq_more (r := Rat.divInt x y) (by omega), e1, e2]
theorem iok_bd {x : Int} (h : l = digs x.natAbs) (hb : I.Can l → I.Bd k (I.val l)) : I.Bd k x := by
 subst h
 have := hb (digs_ok _).1
 rw [(digs_ok _).2] at this
 unfold I.Bd at *
 simpa using this
theorem e_rvalid_no (h : ¬ rok n) (hb : Bn k n) (hk : k ≤ 1000000000000) : Pure PP 53 [.ag (cN n)] (bo false) := by
 by_cases h1 : iok n.s n.l
 · obtain ⟨x, hx1, hx2⟩ := h1
   have vx := e_ivalid x
   have bx := iok_bd hx2 hb.1
   by_cases h2 : iok n.t n.m
   · obtain ⟨y, hy1, hy2⟩ := h2
     have vy := e_ivalid y
     have by_ := iok_bd hy2 hb.2
     have hc : cN n = [bo (decide (x < 0)), .sl (zs (digs x.natAbs)), bo (decide (y < 0)), .sl (zs (digs y.natAbs))] := by unfold cN; rw [hx1, hx2, hy1, hy2]; rfl
     rw [hc]
     by_cases y0 : y < 0
     · exact tr [cl vx, nf, cl vy, nf, ye (t := decide (y < 0)) (decide_eq_true y0), yt] (by kernel_rfl)
     · by_cases y1 : y = 1
       · exact tr [cl vx, nf, cl vy, nf, na (t := decide (y < 0)) (decide_eq_false y0), cl (e_unit y), ye (t := decide (y = 1)) (decide_eq_true y1)] (by kernel_rfl)
       · by_cases yz : y = 0
         · subst yz
           exact absurd (rok_whole hx1 hx2 hy1 (hy2.trans (digs_z rfl))) h
         · have hg := e_gcd bx by_ hk
           have hu := e_unit (Int.gcd x y : Int)
           rw [decide_eq_false (show ¬ (Int.gcd x y : Int) = 1 from fun e => h (rok_frac hx1 hx2 hy1 hy2 (by omega) (by omega)))] at hu
           exact tr [cl vx, nf, cl vy, nf, na (t := decide (y < 0)) (decide_eq_false y0), cl (e_unit y), na (t := decide (y = 1)) (decide_eq_false y1), na (lz_nz yz), cl hg, cl hu] (by kernel_rfl)
   · have hc : cN n = [bo (decide (x < 0)), .sl (zs (digs x.natAbs)), bo n.t, zl n.m] := by unfold cN; rw [hx1, hx2]; rfl
     rw [hc]
     exact tr [cl vx, nf, cl (e_ivalid_no h2), yt, yt, yt] (by kernel_rfl)
 · exact tr [cl (e_ivalid_no h1), yt, yt, yt, yt] (by kernel_rfl)
theorem e_valid4_no (h : ¬ rok n) (hb : Bn k n) (hk : k ≤ 800000000000) : Pure PP 60 [.ag (cN n)] (bo false) := by
 by_cases h1 : iok n.s n.l
 · obtain ⟨x, hx1, hx2⟩ := h1
   have vx := e_ivalid3 x
   have bx := iok_bd hx2 hb.1
   by_cases h2 : iok n.t n.m
   · obtain ⟨y, hy1, hy2⟩ := h2
     have vy := e_ivalid3 y
     have by_ := iok_bd hy2 hb.2
     have hc : cN n = [bo (decide (x < 0)), .sl (zs (digs x.natAbs)), bo (decide (y < 0)), .sl (zs (digs y.natAbs))] := by unfold cN; rw [hx1, hx2, hy1, hy2]; rfl
     rw [hc]
     by_cases y0 : y < 0
     · exact tr [cl vx, nf, cl vy, nf, ye (t := decide (y < 0)) (decide_eq_true y0), yt] (by kernel_rfl)
     · by_cases y1 : y = 1
       · exact tr [cl vx, nf, cl vy, nf, na (t := decide (y < 0)) (decide_eq_false y0), cl (e_one4 y), ye (t := decide (y = 1)) (decide_eq_true y1)] (by kernel_rfl)
       · by_cases yz : y = 0
         · subst yz
           exact absurd (rok_whole hx1 hx2 hy1 (hy2.trans (digs_z rfl))) h
         · have hg := e_gcd3 bx by_ hk
           have hu := e_one4 (Int.gcd x y : Int)
           rw [decide_eq_false (show ¬ (Int.gcd x y : Int) = 1 from fun e => h (rok_frac hx1 hx2 hy1 hy2 (by omega) (by omega)))] at hu
           exact tr [cl vx, nf, cl vy, nf, na (t := decide (y < 0)) (decide_eq_false y0), cl (e_one4 y), na (t := decide (y = 1)) (decide_eq_false y1), na (lz_nz yz), cl hg, cl hu] (by kernel_rfl)
   · have hc : cN n = [bo (decide (x < 0)), .sl (zs (digs x.natAbs)), bo n.t, zl n.m] := by unfold cN; rw [hx1, hx2]; rfl
     rw [hc]
     exact tr [cl vx, nf, cl (e_ivalid3_no h2), yt, yt, yt] (by kernel_rfl)
 · exact tr [cl (e_ivalid3_no h1), yt, yt, yt, yt] (by kernel_rfl)
/-- A raw number that is one. -/
theorem Bn.bq {r : Rat} (h : Bn k (ofR r)) (hk : 1 ≤ k) : Bq k r := by
 have h1 := iok_bd (l := (ofR r).l) (x := r.num) rfl h.1
 have h2 := iok_bd (l := (ofR r).m) (x := dq r) rfl h.2
 refine ⟨h1, ?_⟩
 by_cases e : r.den = 1
 · rw [e]
   unfold I.Bd
   have : 2 ^ 1 ≤ 2 ^ k := Nat.pow_le_pow_right (by omega) hk
   simp; omega
 · rw [← dq_more e]; exact h2
end
end Go.Proofs.YtcfejkpadcccbaaGreat.E
namespace Go.Proofs.YtcfejkpadcccbaaGreat.E
open Go.RowKit
set_option linter.unusedVariables false
section
variable {l m : List Int} {how by_ : Int}
end
end Go.Proofs.YtcfejkpadcccbaaGreat.E
namespace Go.Proofs.YtcfejkpadcccbaaGreat.E
open Go.RowKit
set_option linter.unusedVariables false
section
variable {l m : List Int} {how by_ : Int} {Ls : List (List (Rat × Rat))} {i : Nat}
end
end Go.Proofs.YtcfejkpadcccbaaGreat.E
namespace Go.Proofs.YtcfejkpadcccbaaGreat.E
open Go.RowKit
set_option linter.unusedVariables false
abbrev RV := RN × RN
def cV2 (v : RV) : List V := cN v.1 ++ cN v.2
def rL (C : List RV) : V := .sl (C.map cV2)
def oV (a : Rat × Rat) : RV := (ofR a.1, ofR a.2)
theorem rL_oV (L : List (Rat × Rat)) : rL (L.map oV) = dL L := by unfold rL; rw [List.map_map]; rfl
def okV (v : RV) : Prop := rok v.1 ∧ rok v.2
def Bw (k : Nat) (v : RV) : Prop := Bn k v.1 ∧ Bn k v.2
theorem all_ok : ∀ {C : List RV}, (∀ v ∈ C, okV v) → ∃ L : List (Rat × Rat), C = L.map oV
 | [], _ => ⟨[], rfl⟩
 | v :: r, h => by
  obtain ⟨L, hL⟩ := all_ok fun u hu => h u (List.mem_cons_of_mem _ hu)
  obtain ⟨⟨x, hx⟩, ⟨y, hy⟩⟩ := h v (List.mem_cons_self ..)
  refine ⟨(x, y) :: L, ?_⟩
  rw [List.map_cons, ← hL]
  show v :: r = (ofR x, ofR y) :: r
  rw [← hx, ← hy]
theorem first_bad : ∀ {C : List RV}, (¬ ∀ v ∈ C, okV v) → ∃ (i : Nat) (v : RV), C[i]? = some v ∧ ¬ okV v ∧ ∀ t u, t < i → C[t]? = some u → okV u
 | [], h => absurd (fun v hv => by cases hv) h
 | a :: r, h => by
  by_cases ha : okV a
  · obtain ⟨i, v, h1, h2, h3⟩ := first_bad (C := r) (fun g => h fun v hv => by
     rcases List.mem_cons.1 hv with rfl | hv
     · exact ha
     · exact g v hv)
    refine ⟨i + 1, v, h1, h2, fun t u ht hu => ?_⟩
    cases t with
    | zero => simp at hu; subst hu; exact ha
    | succ t => exact h3 t u (by omega) (by simpa using hu)
  · exact ⟨0, a, rfl, ha, fun t u ht => absurd ht (Nat.not_lt_zero t)⟩
section
variable {C : List RV} {k i : Nat} {n : RN}
theorem e_rvalid_ok (h : rok n) (hb : Bn k n) (h1 : 1 ≤ k) (hk : k ≤ 800000000000) : Pure PP 53 [.ag (cN n)] (bo true) := by
 obtain ⟨r, rfl⟩ := h
 exact e_rvalid (hb.bq h1) (by omega)
theorem e_valid4_ok (h : rok n) (hb : Bn k n) (h1 : 1 ≤ k) (hk : k ≤ 800000000000) : Pure PP 60 [.ag (cN n)] (bo true) := by
 obtain ⟨r, rfl⟩ := h
 exact e_valid4 (hb.bq h1) (by omega)
def ir_ (i : Nat) (C : List RV) : Bool := decide ((i : Int) < ((C.map cV2).length : Int))
theorem ir_t (h : i < C.length) : ir_ i C = true := decide_eq_true (by rw [List.length_map]; omega)
theorem ir_f (h : ¬ i < C.length) : ir_ i C = false := decide_eq_false (by rw [List.length_map]; omega)
theorem rel {v : RV} (h : C[i]? = some v) : (C.map cV2)[i]? = some (cV2 v) := by rw [List.getElem?_map, h]; rfl
/-- The rounds of a loop up to the first number that is none. -/
theorem e_valid_no (hC : ¬ ∀ v ∈ C, okV v) (hb : ∀ v ∈ C, Bw k v) (hn : C.length ≤ 100) (h1 : 1 ≤ k) (hk : k ≤ 800000000000) : Pure PP 14 [rL C] (bo false) := by
 have hl : (C.map cV2).length = C.length := List.length_map ..
 by_cases h3 : C.length < 3
 · exact tr [ye (t := decide (((C.map cV2).length : Int) < 3)) (decide_eq_true (by omega)), yt] (by kernel_rfl)
 by_cases h12 : C.length > 12
 · exact tr [na (t := decide (((C.map cV2).length : Int) < 3)) (decide_eq_false (by omega)), ye (t := decide (((C.map cV2).length : Int) > 12)) (decide_eq_true (by omega))] (by kernel_rfl)
 obtain ⟨i0, v0, hv0, hv1, hv2⟩ := first_bad hC
 have hi0 := (List.getElem?_eq_some_iff.1 hv0).1
 have hbv := hb v0 (List.mem_of_getElem? hv0)
 let X : Nat → St := fun i => at_ fva [(1, .lp 0 0), (3, .lp 1 0), (17, rL C), (18, ni ((C.map cV2).length : Int)), (19, ni i)] [.bx 23 [rL C], .bx 3 [ni ((C.map cV2).length : Int)]]
 refine pf (by kernel_rfl) (.to mo_ [] [1, 3, 17, 18, 19] [0, 1] 2 [na (t := decide (((C.map cV2).length : Int) < 3)) (decide_eq_false (by omega)), na (t := decide (((C.map cV2).length : Int) > 12)) (decide_eq_false (by omega))] (td' := lp fva 0) (σ' := X 0) ?_ (by kernel_rfl))
 refine Gd.loop X (fun i => i ≤ i0) (fun i => C.length - i) ?_ 0 (Nat.zero_le _)
 intro i hi ih
 by_cases h : i = i0
 · subst h
   by_cases hx : rok v0.1
   · exact fi [ye (t := ir_ i C) (ir_t hi0), .sel _ _ _ (rel hv0), cl (e_rvalid_ok hx hbv.1 h1 hk), nf, cl (e_rvalid_no (fun e => hv1 ⟨hx, e⟩) hbv.2 (by omega)), yt] (by kernel_rfl) (by kernel_rfl)
   · exact fi [ye (t := ir_ i C) (ir_t hi0), .sel _ _ _ (rel hv0), cl (e_rvalid_no hx hbv.1 (by omega)), yt, yt] (by kernel_rfl) (by kernel_rfl)
 · have hlt : i < C.length := by omega
   have hu : C[i]? = some C[i] := List.getElem?_eq_getElem hlt
   have ho := hv2 i _ (by omega) hu
   have hbu := hb _ (List.mem_of_getElem? hu)
   generalize C[i] = u at hu ho hbu
   exact .to mo_ [] [1, 3, 17, 18, 19] [0, 1] 2 [ye (t := ir_ i C) (ir_t hlt), .sel _ _ _ (rel hu), cl (e_rvalid_ok ho.1 hbu.1 h1 hk), nf, cl (e_rvalid_ok ho.2 hbu.2 h1 hk), nf, inc 33 i (by omega)] (ih (i + 1) (by omega) (by omega)) (by kernel_rfl)
theorem e_numbers_no (hC : ¬ ∀ v ∈ C, okV v) (hb : ∀ v ∈ C, Bw k v) (hn : C.length ≤ 100) (h1 : 1 ≤ k) (hk : k ≤ 800000000000) : Pure PP 20 [rL C] (bo false) := by
 have hl : (C.map cV2).length = C.length := List.length_map ..
 obtain ⟨i0, v0, hv0, hv1, hv2⟩ := first_bad hC
 have hi0 := (List.getElem?_eq_some_iff.1 hv0).1
 have hbv := hb v0 (List.mem_of_getElem? hv0)
 let X : Nat → St := fun i => at_ (fnOf PP 20) [(0, rL C), (3, ni i)] []
 refine pf (by kernel_rfl) (.to mo_ [] [0, 3] [] 0 [] (td' := lp (fnOf PP 20) 0) (σ' := X 0) ?_ (by kernel_rfl))
 refine Gd.loop X (fun i => i ≤ i0) (fun i => C.length - i) ?_ 0 (Nat.zero_le _)
 intro i hi ih
 by_cases h : i = i0
 · subst h
   by_cases hx : rok v0.1
   · exact fi [ye (t := ir_ i C) (ir_t hi0), .sel _ _ _ (rel hv0), cl (e_valid4_ok hx hbv.1 h1 hk), nf, .sel _ _ _ (rel hv0), cl (e_valid4_no (fun e => hv1 ⟨hx, e⟩) hbv.2 (by omega)), yt] (by kernel_rfl) (by kernel_rfl)
   · exact fi [ye (t := ir_ i C) (ir_t hi0), .sel _ _ _ (rel hv0), cl (e_valid4_no hx hbv.1 (by omega)), yt, yt] (by kernel_rfl) (by kernel_rfl)
 · have hlt : i < C.length := by omega
   have hu : C[i]? = some C[i] := List.getElem?_eq_getElem hlt
   have ho := hv2 i _ (by omega) hu
   have hbu := hb _ (List.mem_of_getElem? hu)
   generalize C[i] = u at hu ho hbu
   exact .to mo_ [] [0, 3] [] 0 [ye (t := ir_ i C) (ir_t hlt), .sel _ _ _ (rel hu), cl (e_valid4_ok ho.1 hbu.1 h1 hk), nf, .sel _ _ _ (rel hu), cl (e_valid4_ok ho.2 hbu.2 h1 hk), nf, inc 9 i (by omega)] (ih (i + 1) (by omega) (by omega)) (by kernel_rfl)
theorem e_valid6_no (hC : ¬ ∀ v ∈ C, okV v) (hb : ∀ v ∈ C, Bw k v) (hn : C.length ≤ 100) (h1 : 1 ≤ k) (hk : k ≤ 800000000000) : Pure PP 15 [rL C] (bo false) := by
 have hl : (C.map cV2).length = C.length := List.length_map ..
 by_cases h3 : C.length < 3
 · exact tr [ye (t := decide (((C.map cV2).length : Int) < 3)) (decide_eq_true (by omega)), yt, yt] (by kernel_rfl)
 by_cases h12 : C.length > 12
 · exact tr [na (t := decide (((C.map cV2).length : Int) < 3)) (decide_eq_false (by omega)), ye (t := decide (((C.map cV2).length : Int) > 12)) (decide_eq_true (by omega)), yt] (by kernel_rfl)
 exact tr [na (t := decide (((C.map cV2).length : Int) < 3)) (decide_eq_false (by omega)), na (t := decide (((C.map cV2).length : Int) > 12)) (decide_eq_false (by omega)), cl (e_numbers_no hC hb hn h1 hk), yt] (by kernel_rfl)
theorem e_convex_no (hC : ¬ ∀ v ∈ C, okV v) (hb : ∀ v ∈ C, Bw k v) (hn : C.length ≤ 100) (h1 : 1 ≤ k) (hk : k ≤ 800000000000) : Pure PP 16 [rL C] (bo false) :=
 tr [cl (e_valid_no hC hb hn h1 hk), yt] (by kernel_rfl)
theorem e_convex6_no (hC : ¬ ∀ v ∈ C, okV v) (hb : ∀ v ∈ C, Bw k v) (hn : C.length ≤ 100) (h1 : 1 ≤ k) (hk : k ≤ 800000000000) : Pure PP 17 [rL C] (bo false) :=
 tr [cl (e_valid6_no hC hb hn h1 hk), yt] (by kernel_rfl)
theorem e_convex6 {L : List (Rat × Rat)} (hb : ∀ a ∈ L, Bv k a) (hn : L.length ≤ 100) (hk : k ≤ 10000) : Pure PP 17 [dL L] (bo (Pg.convex6 L)) := by
 have hv := e_valid6 hb hn hk
 cases g : Pg.valid6 L with
 | false =>
   rw [show Pg.convex6 L = false by unfold Pg.convex6; rw [g]; rfl]
   rw [g] at hv
   exact tr [cl hv, yt] (by kernel_rfl)
 | true =>
   rw [g] at hv
   have h3 := valid6_three g
   let X : Nat → St := fun i => at_ (fnOf PP 17) [(0, dL L), (3, ni i)] []
   refine pf (by kernel_rfl) (.to mo_ [] [0, 3] [] 0 [cl hv, nf] (td' := lp (fnOf PP 17) 0) (σ' := X 0) ?_ (by kernel_rfl))
   refine Gd.loop X (fun i => i ≤ L.length ∧ ∀ t, t < i → Pg.dent L t = false) (fun i => L.length - i) ?_ _ ⟨Nat.zero_le _, fun t ht => absurd ht (Nat.not_lt_zero t)⟩
   rintro i ⟨hi, hI⟩ ih
   by_cases h : i < L.length
   · let F : List F_ := [ye (t := il_ i L) (il_t h), .sel _ _ _ (el h), inc 19 i (by omega), cl (e_corner (L := L) (by omega) (i + 1)), inc2 23 i (by omega), cl (e_corner (L := L) (by omega) (i + 2)), cl (e_side5 (bel hb h) (bco hb (by omega) (i + 1)) (bco hb (by omega) (i + 2)) (by omega))]
     cases hd : Pg.dent L i with
     | true =>
       rw [show Pg.convex6 L = false by unfold Pg.convex6; rw [any_true h hd]; simp]
       exact fi (F ++ [ye (t := Pg.dent L i) hd]) (by kernel_rfl) (by kernel_rfl)
     | false => exact .to mo_ [] [0, 3] [] 0 (F ++ [na (t := Pg.dent L i) hd, inc 12 i (by omega)]) (ih (i + 1) ⟨h, fun t ht => by
         by_cases e : t = i
         · subst e; exact hd
         · exact hI t (by omega)⟩ (by omega)) (by kernel_rfl)
   · rw [show Pg.convex6 L = true by unfold Pg.convex6; rw [g, any_false fun t ht => hI t (by omega)]; rfl]
     exact fi [na (t := il_ i L) (il_f h)] (by kernel_rfl) (by kernel_rfl)
/-- **Any list**: both say the same. -/
theorem e_valid_any (hb : ∀ v ∈ C, Bw k v) (hn : C.length ≤ 100) (h1 : 1 ≤ k) (hk : k ≤ 10000) : ∃ b c : Bool, Pure PP 14 [rL C] (bo b) ∧ Pure PP 15 [rL C] (bo b) ∧ Pure PP 16 [rL C] (bo c) ∧ Pure PP 17 [rL C] (bo c) := by
 by_cases hC : ∀ v ∈ C, okV v
 · obtain ⟨L, rfl⟩ := all_ok hC
   have hbL : ∀ a ∈ L, Bv k a := fun a ha => by
    have := hb (oV a) (List.mem_map_of_mem ha)
    exact ⟨this.1.bq h1, this.2.bq h1⟩
   rw [List.length_map] at hn
   rw [rL_oV]
   have v1 := e_valid hbL hn hk
   have v2 := e_valid6 hbL hn (by omega)
   have c1 := e_convex hbL hn hk
   have c2 := e_convex6 hbL hn (by omega)
   rw [valid_eq] at v2
   rw [convex_eq] at c2
   exact ⟨_, _, v1, v2, c1, c2⟩
 · exact ⟨false, false, e_valid_no hC hb hn h1 (by omega), e_valid6_no hC hb hn h1 (by omega), e_convex_no hC hb hn h1 (by omega), e_convex6_no hC hb hn h1 (by omega)⟩
/-- Few vectors of few digits. -/
def few4 (v : RV) : Prop := v.1.l.length ≤ 3 ∧ v.1.m.length ≤ 3 ∧ v.2.l.length ≤ 3 ∧ v.2.m.length ≤ 3
theorem e_few : ∃ b : Bool, (b = true → C.length ≤ 16 ∧ ∀ v ∈ C, few4 v) ∧ Pure PP 13 [rL C] (bo b) := by
 have hl : (C.map cV2).length = C.length := List.length_map ..
 by_cases h16 : C.length > 16
 · exact ⟨false, fun h => (by cases h), tr [ye (t := decide (((C.map cV2).length : Int) > 16)) (decide_eq_true (by omega))] (by kernel_rfl)⟩
 let ff : Func := fnOf PP 13
 let X : Nat → St := fun i => at_ (fnOf PP 13) [(0, rL C), (3, ni i)] []
 have key : ∀ i : Nat, (i ≤ C.length ∧ ∀ t v, t < i → C[t]? = some v → few4 v) → ∃ b : Bool, (b = true → C.length ≤ 16 ∧ ∀ v ∈ C, few4 v) ∧ Gd PP 13 (bo b) (lp (fnOf PP 13) 0) (X i) := by
  refine Gd.loopE (R := fun b : Bool => bo b) X _ (fun i => C.length - i) ?_
  rintro i ⟨hi, hI⟩ ih
  by_cases h : i < C.length
  · have hu : C[i]? = some C[i] := List.getElem?_eq_getElem h
    generalize C[i] = u at hu
    have lt : ∀ l : List Int, l.length ≤ 3 → decide (((zs l).length : Int) > 3) = false := fun l h => decide_eq_false (by rw [zs_len]; omega)
    have gt : ∀ l : List Int, ¬ l.length ≤ 3 → decide (((zs l).length : Int) > 3) = true := fun l h => decide_eq_true (by rw [zs_len]; omega)
    by_cases a1 : u.1.l.length ≤ 3
    · by_cases a2 : u.1.m.length ≤ 3
      · by_cases a3 : u.2.l.length ≤ 3
        · by_cases a4 : u.2.m.length ≤ 3
          · obtain ⟨b, hb, g⟩ := ih (i + 1) ⟨h, fun t v ht hv => by
             by_cases e : t = i
             · subst e; rw [hu] at hv; injection hv with hv; subst hv; exact ⟨a1, a2, a3, a4⟩
             · exact hI t v (by omega) hv⟩ (by omega)
            exact ⟨b, hb, .to mo_ [] [0, 3] [] 0 [ye (t := ir_ i C) (ir_t h), .sel _ _ _ (rel hu), na (lt _ a1), .sel _ _ _ (rel hu), na (lt _ a2), .sel _ _ _ (rel hu), na (lt _ a3), .sel _ _ _ (rel hu), na (lt _ a4), inc 12 i (by omega)] g (by kernel_rfl)⟩
          · exact ⟨false, fun h => (by cases h), fi [ye (t := ir_ i C) (ir_t h), .sel _ _ _ (rel hu), na (lt _ a1), .sel _ _ _ (rel hu), na (lt _ a2), .sel _ _ _ (rel hu), na (lt _ a3), .sel _ _ _ (rel hu), ye (gt _ a4)] (by kernel_rfl) (by kernel_rfl)⟩
        · exact ⟨false, fun h => (by cases h), fi [ye (t := ir_ i C) (ir_t h), .sel _ _ _ (rel hu), na (lt _ a1), .sel _ _ _ (rel hu), na (lt _ a2), .sel _ _ _ (rel hu), ye (gt _ a3), yt] (by kernel_rfl) (by kernel_rfl)⟩
      · exact ⟨false, fun h => (by cases h), fi [ye (t := ir_ i C) (ir_t h), .sel _ _ _ (rel hu), na (lt _ a1), .sel _ _ _ (rel hu), ye (gt _ a2), yt, yt] (by kernel_rfl) (by kernel_rfl)⟩
    · exact ⟨false, fun h => (by cases h), fi [ye (t := ir_ i C) (ir_t h), .sel _ _ _ (rel hu), ye (gt _ a1), yt, yt, yt] (by kernel_rfl) (by kernel_rfl)⟩
  · exact ⟨true, fun _ => ⟨by omega, fun v hv => by
     obtain ⟨t, ht⟩ := List.getElem?_of_mem hv
     exact hI t v (by have := (List.getElem?_eq_some_iff.1 ht).1; omega) ht⟩, fi [na (t := ir_ i C) (ir_f h)] (by kernel_rfl) (by kernel_rfl)⟩
 obtain ⟨b, hb, g⟩ := key 0 ⟨Nat.zero_le _, fun t v ht => absurd ht (Nat.not_lt_zero t)⟩
 exact ⟨b, hb, pf (by kernel_rfl) (.to mo_ [] [0, 3] [] 0 [na (t := decide (((C.map cV2).length : Int) > 16)) (decide_eq_false (by omega))] g (by kernel_rfl))⟩
theorem bd_few {l : List Int} (h : l.length ≤ 3) : I.Can l → I.Bd 90 (I.val l) := fun hc => by
 have h1 := I.val_lt hc.1
 have h2 : I.pw l.length ≤ I.pw 3 := I.pw_mono h
 have h3 : I.pw 3 = 1000000000000000000000000000 := by unfold I.pw; decide
 have h4 := can_val0 hc
 unfold I.Bd
 have h5 : (2 : Nat) ^ 90 = 1237940039285380274899124224 := by decide
 omega
theorem few_bits {v : RV} (h : few4 v) : Bw 90 v := ⟨⟨bd_few h.1, bd_few h.2.1⟩, ⟨bd_few h.2.2.1, bd_few h.2.2.2⟩⟩
end
end Go.Proofs.YtcfejkpadcccbaaGreat.E
