/-
 CODES OF NUMBERS, by the engine: lists of the reference, integers and rationals of both.
-/
import Derived.Test.YtnpdpjfdgialeaaGreatDoorEpN
import Derived.Test.YtnpdpjfdgialeaaGreatDoorEtC
import Derived.Test.YtnpdpjfdgialeaaGreatDoorEwB
namespace Go.Proofs.YtnpdpjfdgialeaaGreatDoor.E
open Go.RowKit
set_option linter.unusedVariables false
/-- A raw rational number: signs and digits. -/
structure RN where
 s : Bool
 l : List Int
 t : Bool
 m : List Int
def cN (n : RN) : List V := [bo n.s, zl n.l, bo n.t, zl n.m]
/-- An integer's digits, as they should be. -/
def iok (s : Bool) (l : List Int) : Prop := ∃ x : Int, s = decide (x < 0) ∧ l = digs x.natAbs
def ofR (r : Rat) : RN := ⟨decide (r.num < 0), digs r.num.natAbs, decide (dq r < 0), digs (dq r).natAbs⟩
def rok (n : RN) : Prop := ∃ r : Rat, n = ofR r
theorem cN_ofR (r : Rat) : cN (ofR r) = dR r := rfl
/-- Few digits. -/
def Bn (k : Nat) (n : RN) : Prop := (I.Can n.l → I.Bd k (I.val n.l)) ∧ (I.Can n.m → I.Bd k (I.val n.m))
theorem Pure.lenA {P : Program} {f : FuncId} {ds : List V} {D : RD} (i j : Nat) {xs : List V} {l : List (List V)} (hok : okB P f = true) (hi : ds[i]? = some (.ag xs)) (hj : xs[j]? = some (.sl l)) (h : l.length ≤ maxLen → Pure P f ds D) : Pure P f ds D :=
 ⟨okF_of hok, fun w M args hM ha cs => by
  have h1 := ha.2 i _ hi
  have h2 : l.length ≤ maxLen := by
   generalize args.getD i undef = u at h1
   cases h1 with
   | ag _ us _ h3 h4 =>
     have h5 := h4 j _ hj
     generalize us.getD j undef = u at h5
     cases h5 with
     | sl _ ad b off c zz _ us h1 h2' => omega
  exact (h h2).2 w M args hM ha cs⟩
section
variable {s t : Bool} {l m : List Int} {k : Nat} {n : RN}
theorem can_val0 (h : I.Can l) : 0 ≤ I.val l := by
 by_cases e : l = []
 · subst e; exact Int.le_refl _
 · have := h.pos e
   have h2 : 0 ≤ I.pw (l.length - 1) := by unfold I.pw; exact Int.natCast_nonneg _
   omega
theorem iok_of (h : I.Can l) (h2 : l = [] → s = false) : iok s l := by
 have h0 := can_val0 h
 refine ⟨sg s (I.val l), ?_, ?_⟩
 · cases s with
   | false => unfold sg; simp; exact h0
   | true =>
     have hl : l ≠ [] := fun e => by have := h2 e; cases this
     have h3 : I.val l ≠ 0 := fun e => hl (h.zero e)
     unfold sg; simp; omega
 · have h3 : (sg s (I.val l)).natAbs = (I.val l).natAbs := by unfold sg; cases s <;> simp
   rw [h3]
   exact h.uniq (digs_ok _).1 (by rw [(digs_ok _).2]; omega)
theorem dig_first : ∀ {l : List Int}, ¬ I.Dig l → ∃ (i : Nat) (d : Int), l[i]? = some d ∧ (d < 0 ∨ d ≥ 1000000000) ∧ ∀ t e, t < i → l[t]? = some e → 0 ≤ e ∧ e < 1000000000
 | [], h => absurd I.Dig.nil h
 | a :: r, h => by
  by_cases ha : a < 0 ∨ a ≥ 1000000000
  · exact ⟨0, a, rfl, ha, fun t e ht => absurd ht (Nat.not_lt_zero t)⟩
  · obtain ⟨i, d, h1, h2, h3⟩ := dig_first (l := r) (fun g => h (I.Dig.cons (by omega) (by omega) g))
    refine ⟨i + 1, d, h1, h2, fun t e ht he => ?_⟩
    cases t with
    | zero => simp at he; subst he; omega
    | succ t => exact h3 t e (by omega) (by simpa using he)
theorem e_index_no (hd : ¬ I.Dig l) : ∃ i : Nat, Pure PP 172 [zl l, .cl 144 []] (ni i) := by
 obtain ⟨i0, d0, h1, h2, h3⟩ := dig_first hd
 have hi0 := (List.getElem?_eq_some_iff.1 h1).1
 refine ⟨i0, .len 0 (l := zs l) (by kernel_rfl) rfl fun hm => ?_⟩
 rw [zs_len] at hm
 unfold maxLen at hm
 let X : Nat → St := fun i => at_ fix [(0, zl l), (1, .cl 144 []), (7, ni l.length), (8, ni i)] []
 refine pf (by kernel_rfl) (.to mo_ [] [0, 1, 7, 8] [] 0 [.eqv 7 (ni ((zs l).length : Int)) (ni l.length) (by rw [zs_len])] (td' := lp fix 0) (σ' := X 0) ?_ (by kernel_rfl))
 refine Gd.loop X (fun i => i ≤ i0) (fun i => l.length - i) ?_ 0 (Nat.zero_le _)
 intro i hi ih
 have hlt : decide ((i : Int) < (l.length : Int)) = true := decide_eq_true (by omega)
 by_cases h : i = i0
 · subst h
   have c := e_bad d0
   rw [decide_eq_true h2] at c
   exact fi [ye hlt, .sel _ _ _ (zs_at h1), cl c, yt] (by kernel_rfl) (by kernel_rfl)
 · have e := num_el (l := l) (i := i) (by omega)
   generalize l.getD i 0 = d at e
   obtain ⟨d0, d1⟩ := h3 i d (by omega) e
   exact .to mo_ [] [0, 1, 7, 8] [] 0 [ye hlt, .sel _ _ _ (zs_at e), cl (e_good d0 d1), nf, inc 18 i (by omega)] (ih (i + 1) (by omega) (by omega)) (by kernel_rfl)
theorem e_contains_no (hd : ¬ I.Dig l) : Pure PP 143 [zl l, .cl 144 []] (bo true) := by
 obtain ⟨i, h⟩ := e_index_no hd
 exact tr [cl h, .eqv 8 (bo (decide ((i : Int) ≥ 0))) (bo true) (by rw [decide_eq_true (by omega)])] (by kernel_rfl)
theorem last_of (h : l ≠ []) : ∃ d, l[l.length - 1]? = some d ∧ l.getLast? = some d := by
 have hl : 0 < l.length := List.length_pos_iff.2 h
 have e := num_el (l := l) (i := l.length - 1) (by omega)
 exact ⟨_, e, by rw [List.getLast?_eq_getElem?]; exact e⟩
theorem iok_zero (hd : I.Dig l) (h : ¬ iok s l) (hl : l ≠ []) : l[l.length - 1]? = some 0 := by
 obtain ⟨d, h1, h2⟩ := last_of hl
 by_cases h0 : d = 0
 · rw [h1, h0]
 · exact absurd (iok_of ⟨hd, fun e he => by rw [h2] at he; injection he with he; subst he; exact h0⟩ fun e => absurd e hl) h
theorem e_ivalid_no (h : ¬ iok s l) : Pure PP 107 [.ag [bo s, zl l]] (bo false) := by
 refine .lenA 0 1 (l := zs l) (by kernel_rfl) rfl rfl fun hm => ?_
 rw [zs_len] at hm
 unfold maxLen at hm
 by_cases hd : I.Dig l
 · have hc := e_contains hd
   by_cases hl : l = []
   · subst hl
     have hs : s = true := by
      cases s with
      | true => rfl
      | false => exact absurd (iok_of I.Can.nil fun _ => rfl) h
     subst hs
     rw [show zl [] = .sl [] from rfl] at hc ⊢
     exact tr [cl hc, nf, yt, nf, nf] (by kernel_rfl)
   · have e := iok_zero hd h hl
     have hp : 0 < l.length := List.length_pos_iff.2 hl
     exact tr [cl hc, nf, na (t := ((zs l).length : Int) == 0) (by rw [zs_len]; simpa using hl), nf, ye (t := decide (((zs l).length : Int) > 0)) (by rw [zs_len]; exact decide_eq_true (by omega)), .eqv 25 (ni ((zs l).length : Int)) (ni l.length) (by rw [zs_len]), wq 26 ((l.length : Int) - 1) ((l.length - 1 : Nat) : Int) (by omega), .sel _ _ _ (zs_at e)] (by kernel_rfl)
 · exact tr [cl (e_contains_no hd), yt] (by kernel_rfl)
theorem e_ivalid3_no (h : ¬ iok s l) : Pure PP 57 [.ag [bo s, zl l]] (bo false) := by
 refine .lenA 0 1 (l := zs l) (by kernel_rfl) rfl rfl fun hm => ?_
 rw [zs_len] at hm
 unfold maxLen at hm
 let X : Nat → St := fun i => at_ fv3 [(1, .lp 0 0), (3, ni i)] [.bx 26 [bo s, zl l]]
 have start : Gd PP 57 (bo false) (lp fv3 0) (X 0) → Pure PP 57 [.ag [bo s, zl l]] (bo false) := fun g => pf (by kernel_rfl) (.to mo_ [] [1, 3] [0] 1 [] (td' := lp fv3 0) (σ' := X 0) g (by kernel_rfl))
 refine start ?_
 by_cases hd : I.Dig l
 · refine Gd.loop X (fun i => i ≤ l.length) (fun i => l.length - i) ?_ 0 (Nat.zero_le _)
   intro i hi ih
   by_cases hlt : i < l.length
   · have e := num_el hlt
     generalize l.getD i 0 = d at e
     obtain ⟨d0, d1⟩ := hd.get e
     exact .to mo_ [] [1, 3] [0] 1 [ye (t := decide ((i : Int) < ((zs l).length : Int))) (decide_eq_true (by rw [zs_len]; omega)), .sel _ _ _ (zs_at e), na (t := decide (d < 0)) (decide_eq_false (by omega)), .sel _ _ _ (zs_at e), na (t := decide (d ≥ 1000000000)) (decide_eq_false (by omega)), inc 10 i (by omega)] (ih (i + 1) hlt (by omega)) (by kernel_rfl)
   · by_cases hl : l = []
     · subst hl
       have hs : s = true := by
        cases s with
        | true => rfl
        | false => exact absurd (iok_of I.Can.nil fun _ => rfl) h
       subst hs
       have hx : X i = at_ fv3 [(1, .lp 0 0), (3, ni i)] [.bx 26 [bo true, .sl []]] := rfl
       rw [hx]
       exact fi [na (t := decide ((i : Int) < ((([] : List (List V))).length : Int))) (decide_eq_false (by simp)), yt] (by kernel_rfl) (by kernel_rfl)
     · have e := iok_zero hd h hl
       have hp : 0 < l.length := List.length_pos_iff.2 hl
       exact fi [na (t := decide ((i : Int) < ((zs l).length : Int))) (decide_eq_false (by rw [zs_len]; omega)), na (t := ((zs l).length : Int) == 0) (by rw [zs_len]; simpa using hl), .eqv 36 (ni ((zs l).length : Int)) (ni l.length) (by rw [zs_len]), wq 37 ((l.length : Int) - 1) ((l.length - 1 : Nat) : Int) (by omega), .sel _ _ _ (zs_at e)] (by kernel_rfl) (by kernel_rfl)
 · obtain ⟨i0, d0, h1, h2, h3⟩ := dig_first hd
   have hi0 := (List.getElem?_eq_some_iff.1 h1).1
   refine Gd.loop X (fun i => i ≤ i0) (fun i => l.length - i) ?_ 0 (Nat.zero_le _)
   intro i hi ih
   have hlt : decide ((i : Int) < ((zs l).length : Int)) = true := decide_eq_true (by rw [zs_len]; omega)
   by_cases hii : i = i0
   · subst hii
     by_cases hneg : d0 < 0
     · exact fi [ye hlt, .sel _ _ _ (zs_at h1), ye (t := decide (d0 < 0)) (decide_eq_true hneg), yt] (by kernel_rfl) (by kernel_rfl)
     · exact fi [ye hlt, .sel _ _ _ (zs_at h1), na (t := decide (d0 < 0)) (decide_eq_false hneg), .sel _ _ _ (zs_at h1), ye (t := decide (d0 ≥ 1000000000)) (decide_eq_true (by omega))] (by kernel_rfl) (by kernel_rfl)
   · have e := num_el (l := l) (i := i) (by omega)
     generalize l.getD i 0 = d at e
     obtain ⟨d0, d1⟩ := h3 i d (by omega) e
     exact .to mo_ [] [1, 3] [0] 1 [ye hlt, .sel _ _ _ (zs_at e), na (t := decide (d < 0)) (decide_eq_false (by omega)), .sel _ _ _ (zs_at e), na (t := decide (d ≥ 1000000000)) (decide_eq_false (by omega)), inc 10 i (by omega)] (ih (i + 1) (by omega) (by omega)) (by kernel_rfl)
/-- What makes a raw number one. -/
theorem rok_whole {x : Int} (h1 : n.s = decide (x < 0)) (h2 : n.l = digs x.natAbs) (h3 : n.t = false) (h4 : n.m = []) : rok n := by
 refine ⟨(x : Rat), ?_⟩
 obtain ⟨s, l, t, m⟩ := n
 simp only at h1 h2 h3 h4
 subst h1; subst h2; subst h3; subst h4
 unfold ofR
 rw [dq_one (r := (x : Rat)) rfl, show (x : Rat).num = x from rfl, show digs (0 : Int).natAbs = [] from digs_z rfl]
 rfl
theorem rok_frac {x y : Int} (h1 : n.s = decide (x < 0)) (h2 : n.l = digs x.natAbs) (h3 : n.t = decide (y < 0)) (h4 : n.m = digs y.natAbs) (hy : 1 < y) (hg : Int.gcd x y = 1) : rok n := by
 refine ⟨Rat.divInt x y, ?_⟩
 obtain ⟨e1, e2⟩ := divInt_pos (p := x) (q := y) (by omega) hg
 obtain ⟨s, l, t, m⟩ := n
 simp only at h1 h2 h3 h4
 subst h1; subst h2; subst h3; subst h4
 unfold ofR
 rw [dq_more (r := Rat.divInt x y) (by omega), e1, e2]
theorem iok_bd {x : Int} (h : l = digs x.natAbs) (hb : I.Can l → I.Bd k (I.val l)) : I.Bd k x := by
 subst h
 have := hb (digs_ok _).1
 rw [(digs_ok _).2] at this
 unfold I.Bd at *
 simpa using this
theorem e_rvalid_no (h : ¬ rok n) (hb : Bn k n) (hk : k ≤ 1000000000000) : Pure PP 71 [.ag (cN n)] (bo false) := by
 by_cases h1 : iok n.s n.l
 · obtain ⟨x, hx1, hx2⟩ := h1
   have vx := e_ivalid x
   have bx := iok_bd hx2 hb.1
   by_cases h2 : iok n.t n.m
   · obtain ⟨y, hy1, hy2⟩ := h2
     have vy := e_ivalid y
     have by_ := iok_bd hy2 hb.2
     have hc : cN n = [bo (decide (x < 0)), .sl (zs (digs x.natAbs)), bo (decide (y < 0)), .sl (zs (digs y.natAbs))] := by unfold cN; rw [hx1, hx2, hy1, hy2]; rfl
     rw [hc]
     by_cases y0 : y < 0
     · exact tr [cl vx, nf, cl vy, nf, ye (t := decide (y < 0)) (decide_eq_true y0), yt] (by kernel_rfl)
     · by_cases y1 : y = 1
       · exact tr [cl vx, nf, cl vy, nf, na (t := decide (y < 0)) (decide_eq_false y0), cl (e_unit y), ye (t := decide (y = 1)) (decide_eq_true y1)] (by kernel_rfl)
       · by_cases yz : y = 0
         · subst yz
           exact absurd (rok_whole hx1 hx2 hy1 (hy2.trans (digs_z rfl))) h
         · have hg := e_gcd bx by_ hk
           have hu := e_unit (Int.gcd x y : Int)
           rw [decide_eq_false (show ¬ (Int.gcd x y : Int) = 1 from fun e => h (rok_frac hx1 hx2 hy1 hy2 (by omega) (by omega)))] at hu
           exact tr [cl vx, nf, cl vy, nf, na (t := decide (y < 0)) (decide_eq_false y0), cl (e_unit y), na (t := decide (y = 1)) (decide_eq_false y1), na (lz_nz yz), cl hg, cl hu] (by kernel_rfl)
   · have hc : cN n = [bo (decide (x < 0)), .sl (zs (digs x.natAbs)), bo n.t, zl n.m] := by unfold cN; rw [hx1, hx2]; rfl
     rw [hc]
     exact tr [cl vx, nf, cl (e_ivalid_no h2), yt, yt, yt] (by kernel_rfl)
 · exact tr [cl (e_ivalid_no h1), yt, yt, yt, yt] (by kernel_rfl)
theorem e_valid4_no (h : ¬ rok n) (hb : Bn k n) (hk : k ≤ 800000000000) : Pure PP 21 [.ag (cN n)] (bo false) := by
 by_cases h1 : iok n.s n.l
 · obtain ⟨x, hx1, hx2⟩ := h1
   have vx := e_ivalid3 x
   have bx := iok_bd hx2 hb.1
   by_cases h2 : iok n.t n.m
   · obtain ⟨y, hy1, hy2⟩ := h2
     have vy := e_ivalid3 y
     have by_ := iok_bd hy2 hb.2
     have hc : cN n = [bo (decide (x < 0)), .sl (zs (digs x.natAbs)), bo (decide (y < 0)), .sl (zs (digs y.natAbs))] := by unfold cN; rw [hx1, hx2, hy1, hy2]; rfl
     rw [hc]
     by_cases y0 : y < 0
     · exact tr [cl vx, nf, cl vy, nf, ye (t := decide (y < 0)) (decide_eq_true y0), yt] (by kernel_rfl)
     · by_cases y1 : y = 1
       · exact tr [cl vx, nf, cl vy, nf, na (t := decide (y < 0)) (decide_eq_false y0), cl (e_one4 y), ye (t := decide (y = 1)) (decide_eq_true y1)] (by kernel_rfl)
       · by_cases yz : y = 0
         · subst yz
           exact absurd (rok_whole hx1 hx2 hy1 (hy2.trans (digs_z rfl))) h
         · have hg := e_gcd3 bx by_ hk
           have hu := e_one4 (Int.gcd x y : Int)
           rw [decide_eq_false (show ¬ (Int.gcd x y : Int) = 1 from fun e => h (rok_frac hx1 hx2 hy1 hy2 (by omega) (by omega)))] at hu
           exact tr [cl vx, nf, cl vy, nf, na (t := decide (y < 0)) (decide_eq_false y0), cl (e_one4 y), na (t := decide (y = 1)) (decide_eq_false y1), na (lz_nz yz), cl hg, cl hu] (by kernel_rfl)
   · have hc : cN n = [bo (decide (x < 0)), .sl (zs (digs x.natAbs)), bo n.t, zl n.m] := by unfold cN; rw [hx1, hx2]; rfl
     rw [hc]
     exact tr [cl vx, nf, cl (e_ivalid3_no h2), yt, yt, yt] (by kernel_rfl)
 · exact tr [cl (e_ivalid3_no h1), yt, yt, yt, yt] (by kernel_rfl)
/-- A raw number that is one. -/
theorem Bn.bq {r : Rat} (h : Bn k (ofR r)) (hk : 1 ≤ k) : Bq k r := by
 have h1 := iok_bd (l := (ofR r).l) (x := r.num) rfl h.1
 have h2 := iok_bd (l := (ofR r).m) (x := dq r) rfl h.2
 refine ⟨h1, ?_⟩
 by_cases e : r.den = 1
 · rw [e]
   unfold I.Bd
   have : 2 ^ 1 ≤ 2 ^ k := Nat.pow_le_pow_right (by omega) hk
   simp; omega
 · rw [← dq_more e]; exact h2
end
end Go.Proofs.YtnpdpjfdgialeaaGreatDoor.E
namespace Go.Proofs.YtnpdpjfdgialeaaGreatDoor.W
open Go.RowKit
theorem decL_le {α : Type} {e : α → List UInt8} {d : List UInt8 → α × Nat × Int} {V : α → Prop} (h : Codec e d V) (b : List UInt8) : (decL d b).1.length ≤ b.length ∧ (decL d b).2.1 ≤ b.length := by
  by_cases he : (decL d b).2.2 = 0
  · have h2 := (decL_canon h b he).2.1
    unfold decL at he h2 ⊢
    by_cases hc : (cnt b 1).2.2 = 0
    · rw [if_neg (by simp [hc])] at he h2 ⊢
      obtain ⟨n, hn, hn2, _⟩ := cnt_bound hc
      rw [hn, Int.toNat_natCast] at he h2 ⊢
      obtain ⟨l', i1, i2, _⟩ := seqD_canon h b n (cnt b 1).2.1 [] (by omega) he
      rw [i1, List.nil_append, i2]
      exact ⟨by omega, h2⟩
    · rw [if_pos hc] at he
      exact absurd he hc
  · unfold decL at he ⊢
    by_cases hc : (cnt b 1).2.2 = 0
    · rw [if_neg (by simp [hc])] at he ⊢
      have key : ∀ (k p : Nat) (acc : List α), (seqD d b k p acc).2.2 ≠ 0 → (seqD d b k p acc).1 = [] ∧ (seqD d b k p acc).2.1 = 0 := by
        intro k
        induction k with
        | zero => intro p acc h; simp [seqD] at h
        | succ k ih =>
          intro p acc h
          simp only [seqD] at h ⊢
          by_cases h0 : (d (b.drop p)).2.2 = 0
          · rw [if_neg (by simp [h0])] at h ⊢
            exact ih _ _ h
          · rw [if_pos h0]
            exact ⟨rfl, rfl⟩
      obtain ⟨k1, k2⟩ := key _ _ _ he
      rw [k1, k2]
      exact ⟨Nat.zero_le _, Nat.zero_le _⟩
    · rw [if_pos hc]
      exact ⟨Nat.zero_le _, Nat.zero_le _⟩
theorem dM_le {α β : Type} [Inhabited β] {d : List UInt8 → α × Nat × Int} {f : α → Option β} {b : List UInt8} (h : (d b).2.1 ≤ b.length) : (dM d f b).2.1 ≤ b.length := by
  unfold dM
  split
  · exact Nat.zero_le _
  · split
    · exact h
    · exact Nat.zero_le _
end Go.Proofs.YtnpdpjfdgialeaaGreatDoor.W
namespace Go.Proofs.YtnpdpjfdgialeaaGreatDoor.E
open Go.RowKit
set_option linter.unusedVariables false
set_option linter.unusedSimpArgs false
section
variable {x y : Int} {k : Nat} {r : Rat}
theorem digs_inj {a b : Nat} (h : digs a = digs b) : a = b := by
 have h1 := (digs_ok a).2
 have h2 := (digs_ok b).2
 rw [h, h2] at h1
 exact_mod_cast h1.symm
theorem digs_64 (n : Nat) : ∀ d ∈ digs n, W.Is64 d := fun d hd => by
 obtain ⟨i, hi⟩ := List.getElem?_of_mem hd
 obtain ⟨h1, h2⟩ := (digs_ok n).1.1.get hi
 unfold W.Is64
 omega
theorem sgn_64 (x : Int) : W.Is64 (sgnZ x) := by unfold W.Is64 sgnZ cmpZ; split <;> (try split) <;> omega
/-- The numbers that stand for an integer. -/
def znL (x : Int) : List Int := sgnZ x :: digs x.natAbs
theorem zn_64 (x : Int) : ∀ d ∈ znL x, W.Is64 d := fun d hd => by
 rcases List.mem_cons.1 hd with rfl | hd
 · exact sgn_64 x
 · exact digs_64 _ d hd
def encZ (x : Int) : List UInt8 := W.encI (znL x)
/-- Few digits. -/
def Fz (x : Int) : Prop := (digs x.natAbs).length ≤ 90000
theorem e_ienc (hb : Fz x) : Pure PP 63 [.ag (dI x)] (.o 5 1 (byL (encZ x))) := by
 have hl : (znL x).length ≤ 100000 := by unfold Fz at hb; simp only [znL, List.length_cons]; omega
 have c := e_wints (zn_64 x) hl
 unfold Fz at hb
 unfold encZ
 by_cases h0 : x = 0
 · subst h0
   have hz : digs (0 : Int).natAbs = [] := digs_z rfl
   unfold znL at c ⊢
   rw [hz] at c ⊢
   have s := e_sign 0
   rw [dI_0] at s ⊢
   exact tr [cl s, .ape [] rfl, cl c] (by kernel_rfl)
 · have hnz := digs_nz h0
   exact tr [cl (e_sign x), .aps (zs [sgnZ x]) (zs (digs x.natAbs)) (zs (znL x)) 100000 1 rfl (by rw [zs_len]; omega) (by rw [zs_len]; exact hl) (zs_z1 _), cl c] (by kernel_rfl)
theorem e_ienc3 (hb : Fz x) : Pure PP 105 [.ag (dI x)] (.o 5 1 (byL (encZ x))) := by
 have hl : (znL x).length ≤ 100000 := by unfold Fz at hb; simp only [znL, List.length_cons]; omega
 have c := e_rints (zn_64 x) hl
 unfold Fz at hb
 unfold encZ
 by_cases h0 : x = 0
 · subst h0
   have hz : digs (0 : Int).natAbs = [] := digs_z rfl
   unfold znL at c ⊢
   rw [hz] at c ⊢
   have s := e_sign3 0
   rw [dI_0] at s ⊢
   exact tr [cl s, .ape [] rfl, cl c] (by kernel_rfl)
 · have hnz := digs_nz h0
   exact tr [cl (e_sign3 x), .aps (zs [sgnZ x]) (zs (digs x.natAbs)) (zs (znL x)) 100000 1 rfl (by rw [zs_len]; omega) (by rw [zs_len]; exact hl) (zs_z1 _), cl c] (by kernel_rfl)
open Classical in
noncomputable def prZ1 (a : Int) (D : List Int) : Option Int := if h : ∃ x : Int, D = digs x.natAbs ∧ sgnZ x = a ∧ (a == -1) = decide (x < 0) then some h.choose else none
/-- The integer for which numbers stand. -/
noncomputable def prZ : List Int → Option Int
 | [] => none
 | a :: D => prZ1 a D
theorem prZ_ok {a : Int} {D : List Int} (h1 : D = digs x.natAbs) (h2 : sgnZ x = a) (h3 : (a == -1) = decide (x < 0)) : prZ (a :: D) = some x := by
 have h : ∃ x : Int, D = digs x.natAbs ∧ sgnZ x = a ∧ (a == -1) = decide (x < 0) := ⟨x, h1, h2, h3⟩
 show prZ1 a D = _
 unfold prZ1
 rw [dif_pos h]
 obtain ⟨q1, q2, q3⟩ := h.choose_spec
 generalize h.choose = y at q1 q2 q3
 have e1 : x.natAbs = y.natAbs := digs_inj (h1.symm.trans q1)
 have e2 : decide (x < 0) = decide (y < 0) := h3.symm.trans q3
 have e3 := decide_eq_decide.1 e2
 congr 1
 omega
theorem prZ_no {a : Int} {D : List Int} (h : ∀ x : Int, D = digs x.natAbs → (a == -1) = decide (x < 0) → sgnZ x ≠ a) : prZ (a :: D) = none := by
 show prZ1 a D = _
 unfold prZ1
 rw [dif_neg]
 rintro ⟨x, h1, h2, h3⟩
 exact h x h1 h3 h2
theorem sgn_neg (x : Int) : (sgnZ x == -1) = decide (x < 0) := by
 unfold sgnZ cmpZ
 by_cases h : x < 0
 · simp [h]
 · by_cases h2 : x = 0
   · subst h2; decide
   · have : 0 < x := by omega
     simp [h, this]
theorem prZ_zn (x : Int) : prZ (znL x) = some x := prZ_ok rfl rfl (sgn_neg x)
noncomputable def decZ : List UInt8 → Int × Nat × Int := W.dM W.decI prZ
def VZ (x : Int) : Prop := W.Is64 ((znL x).length : Int)
theorem codecZ : W.Codec encZ decZ VZ := W.codecM (g := znL) W.codecI (fun x h => ⟨⟨zn_64 x, h⟩, prZ_zn x⟩) fun l x hl hx => by
 cases l with
 | nil => cases hx
 | cons a D =>
  change prZ1 a D = some x at hx
  unfold prZ1 at hx
  split at hx
  · rename_i h
    injection hx with hx
    obtain ⟨q1, q2, q3⟩ := h.choose_spec
    rw [hx] at q1 q2 q3
    have e : znL x = a :: D := by unfold znL; rw [q1, q2]
    exact ⟨e, by unfold VZ; rw [e]; exact hl.2⟩
  · cases hx
theorem decZ_le (l : List UInt8) : (decZ l).2.1 ≤ l.length := W.dM_le (W.decL_le W.codec_int l).2
theorem decZ_few (l : List UInt8) : (digs (decZ l).1.natAbs).length ≤ l.length := by
 have h := (W.decL_le W.codec_int l).1
 unfold decZ W.dM
 split
 · show (digs (0 : Int).natAbs).length ≤ _
   rw [digs_z rfl]; exact Nat.zero_le _
 · cases hp : prZ (W.decI l).1 with
   | none =>
    show (digs (0 : Int).natAbs).length ≤ _
    rw [digs_z rfl]; exact Nat.zero_le _
   | some x =>
    show (digs x.natAbs).length ≤ _
    cases hl : (W.decI l).1 with
    | nil => rw [hl] at hp; cases hp
    | cons a D =>
     rw [hl] at hp
     change prZ1 a D = some x at hp
     unfold prZ1 at hp
     split at hp
     · rename_i hh
       injection hp with hp
       obtain ⟨q1, q2, q3⟩ := hh.choose_spec
       rw [hp] at q1
       have h : (W.decI l).1.length ≤ l.length := h
       rw [hl, List.length_cons] at h
       rw [← q1]
       omega
     · cases hp
def tuZ (r : Int × Nat × Int) : V := .tu [.ag (dI r.1), ni (r.2.1 : Int), ni r.2.2]
theorem tuZ_0 (e : Int) : tuZ (default, 0, e) = .tu [.ag [bo false, .sl []], ni 0, ni e] := by
 show V.tu [.ag (dI 0), _, _] = _
 rw [dI_0]; rfl
theorem zs_sl1 {a : Int} {D : List Int} : ((zs (a :: D)).take (zs (a :: D)).length).drop 1 = zs D := by rw [List.take_of_length_le (Nat.le_refl _)]; rfl
theorem e_idec (l : List UInt8) (hb : l.length ≤ 1000000) : Pure PP 167 [.sl (byL l)] (tuZ (decZ l)) := by
 have c := e_wgetints l hb
 have hlen := (W.decL_le W.codec_int l).1
 unfold decZ W.dM
 change (W.decI l).1.length ≤ l.length at hlen
 rcases hd : W.decI l with ⟨L, n, e⟩
 rw [hd] at c hlen
 simp only at hlen ⊢
 by_cases he : e = 0
 · subst he
   rw [if_neg (by simp)]
   cases L with
   | nil =>
     show Pure PP _ _ (tuZ (default, 0, 2))
     rw [tuZ_0]
     exact tr [cl c, nf, yt] (by kernel_rfl)
   | cons a D =>
     rw [List.length_cons] at hlen
     have nz : (((zs (a :: D)).length : Int) == 0) = false := by rw [zs_len]; simp; omega
     have hcl := e_cloneI D (by omega)
     have s0 : (zs (a :: D))[0]? = some [ni a] := rfl
     let S : F_ := .slc (zs (a :: D)) 1 (zs (a :: D)).length 1 (zs D) zs_sl1 (by rw [zs_len]; simp) (zs_z _)
     generalize hs : (a == -1) = s
     let q : F_ := .eqv 26 (bo (a == -1)) (bo s) (by rw [hs])
     by_cases hv : iok s D
     · obtain ⟨x, h1, h2⟩ := hv
       have v := e_ivalid x
       have g := e_sign x
       unfold dI at v g
       rw [← h1, ← h2] at v g
       by_cases hsg : sgnZ x = a
       · rw [prZ_ok h2 hsg (by rw [hs, h1])]
         show Pure PP _ _ (.tu [.ag [.k (.bool (decide (x < 0))), .sl (zs (digs x.natAbs))], ni n, ni 0])
         rw [← h1, ← h2]
         exact tr [cl c, nf, na nz, .sel _ _ _ s0, q, S, cl hcl, cl v, nf, cl g, .sel _ _ _ s0, na (t := sgnZ x != a) (by simp [hsg])] (by kernel_rfl)
       · rw [prZ_no fun y k1 k2 => by
          have e1 : x.natAbs = y.natAbs := digs_inj (h2.symm.trans k1)
          rw [hs, h1] at k2
          have e3 := decide_eq_decide.1 k2
          rw [show y = x by omega]
          exact hsg]
         show Pure PP _ _ (tuZ (default, 0, 2))
         rw [tuZ_0]
         exact tr [cl c, nf, na nz, .sel _ _ _ s0, q, S, cl hcl, cl v, nf, cl g, .sel _ _ _ s0, ye (t := sgnZ x != a) (by simp [hsg])] (by kernel_rfl)
     · have v := e_ivalid_no hv
       rw [prZ_no fun y k1 k2 _ => hv ⟨y, by rw [← k2, hs], k1⟩]
       show Pure PP _ _ (tuZ (default, 0, 2))
       rw [tuZ_0]
       exact tr [cl c, nf, na nz, .sel _ _ _ s0, q, S, cl hcl, cl v, yt, yt] (by kernel_rfl)
 · rw [if_pos he, tuZ_0]
   exact tr [cl c, ye (t := e != 0) (by simpa using he)] (by kernel_rfl)
end
end Go.Proofs.YtnpdpjfdgialeaaGreatDoor.E
