/-
 CODES OF RATIONAL NUMBERS, by the engine; bytes joined; the first bytes.
-/
import Derived.Test.YtjegnmlchioofaaGreatDoorEuA
import Derived.Test.YtjegnmlchioofaaGreatDoorCaB
import Derived.Test.YtjegnmlchioofaaGreatDoorEpN
namespace Go.Proofs.YtjegnmlchioofaaGreatDoor.W
open Go.RowKit
theorem decL_le {α : Type} {e : α → List UInt8} {d : List UInt8 → α × Nat × Int} {V : α → Prop} (h : Codec e d V) (b : List UInt8) : (decL d b).1.length ≤ b.length ∧ (decL d b).2.1 ≤ b.length := by
  by_cases he : (decL d b).2.2 = 0
  · have h2 := (decL_canon h b he).2.1
    unfold decL at he h2 ⊢
    by_cases hc : (cnt b 1).2.2 = 0
    · rw [if_neg (by simp [hc])] at he h2 ⊢
      obtain ⟨n, hn, hn2, _⟩ := cnt_bound hc
      rw [hn, Int.toNat_natCast] at he h2 ⊢
      obtain ⟨l', i1, i2, _⟩ := seqD_canon h b n (cnt b 1).2.1 [] (by omega) he
      rw [i1, List.nil_append, i2]
      exact ⟨by omega, h2⟩
    · rw [if_pos hc] at he
      exact absurd he hc
  · unfold decL at he ⊢
    by_cases hc : (cnt b 1).2.2 = 0
    · rw [if_neg (by simp [hc])] at he ⊢
      have key : ∀ (k p : Nat) (acc : List α), (seqD d b k p acc).2.2 ≠ 0 → (seqD d b k p acc).1 = [] ∧ (seqD d b k p acc).2.1 = 0 := by
        intro k
        induction k with
        | zero => intro p acc h; simp [seqD] at h
        | succ k ih =>
          intro p acc h
          simp only [seqD] at h ⊢
          by_cases h0 : (d (b.drop p)).2.2 = 0
          · rw [if_neg (by simp [h0])] at h ⊢
            exact ih _ _ h
          · rw [if_pos h0]
            exact ⟨rfl, rfl⟩
      obtain ⟨k1, k2⟩ := key _ _ _ he
      rw [k1, k2]
      exact ⟨Nat.zero_le _, Nat.zero_le _⟩
    · rw [if_pos hc]
      exact ⟨Nat.zero_le _, Nat.zero_le _⟩
theorem dM_le {α β : Type} [Inhabited β] {d : List UInt8 → α × Nat × Int} {f : α → Option β} {b : List UInt8} (h : (d b).2.1 ≤ b.length) : (dM d f b).2.1 ≤ b.length := by
  unfold dM
  split
  · exact Nat.zero_le _
  · split
    · exact h
    · exact Nat.zero_le _
theorem dP_le {α β : Type} [Inhabited α] [Inhabited β] {d : List UInt8 → α × Nat × Int} {d2 : List UInt8 → β × Nat × Int} (h : ∀ b, (d b).2.1 ≤ b.length) (h2 : ∀ b, (d2 b).2.1 ≤ b.length) (b : List UInt8) : (dP d d2 b).2.1 ≤ b.length := by
  have a := h b
  have c := h2 (b.drop (d b).2.1)
  rw [List.length_drop] at c
  unfold dP
  split
  · exact Nat.zero_le _
  · split
    · exact Nat.zero_le _
    · simp only; omega
end Go.Proofs.YtjegnmlchioofaaGreatDoor.W
namespace Go.Proofs.YtjegnmlchioofaaGreatDoor.E
open Go.RowKit
set_option linter.unusedVariables false
set_option linter.unusedSimpArgs false
/-- A length, as the reference tells it. -/
def cntR (l : List UInt8) (s : Nat) : Int × Nat × Int := if (W.cnt l s).2.2 ≠ 0 then (0, 0, (W.cnt l s).2.2) else W.cnt l s
theorem e_rcount (l : List UInt8) (s : Nat) (hs : s ≤ 100) (hb : l.length ≤ 1000000000000) : Pure PP 69 [.sl (byL l), ni ((s + 1 : Nat) : Int)] (tu3 (cntR l (s + 1))) := by
 have c := e_rgetint l
 have h1 := W.dec_at_le l
 unfold cntR W.cnt
 rcases hd : W.dec l with ⟨n, u, e⟩
 rw [hd] at c h1
 simp only at h1 ⊢
 by_cases he : e = 0
 · subst he
   simp only [ne_eq, not_true, if_false]
   by_cases hn : n < 0
   · rw [if_pos hn, if_pos (by simp)]
     exact tr [cl c, nf, ye (t := decide (n < 0)) (decide_eq_true hn)] (by kernel_rfl)
   · rw [if_neg hn]
     by_cases hl : n > (l.length : Int)
     · have hq : (((l.length - u) / (s + 1) : Nat) : Int) < n := by
        have := Nat.div_le_self (l.length - u) (s + 1)
        omega
       rw [if_pos hq, if_pos (by simp)]
       exact tr [cl c, nf, na (t := decide (n < 0)) (decide_eq_false hn), lnq 23 l, ye (t := decide (n > (l.length : Int))) (decide_eq_true hl), yt] (by kernel_rfl)
     · obtain ⟨k, rfl⟩ : ∃ k : Nat, n = (k : Int) := ⟨n.toNat, by omega⟩
       have hk : k ≤ 1000000000000 := by omega
       have hks : k * (s + 1) ≤ 1000000000000 * 101 := Nat.mul_le_mul hk (by omega)
       have hcast : (k : Int) * ((s + 1 : Nat) : Int) = ((k * (s + 1) : Nat) : Int) := by rw [Int.natCast_mul]
       have hdiv := Nat.div_lt_iff_lt_mul (x := l.length - u) (y := k) (k := s + 1) (by omega)
       by_cases hm : (l.length - u) / (s + 1) < k
       · rw [if_pos (Int.ofNat_lt.2 hm), if_pos (by simp)]
         have := hdiv.1 hm
         exact tr [cl c, nf, na (t := decide ((k : Int) < 0)) (decide_eq_false hn), lnq 23 l, na (t := decide ((k : Int) > (l.length : Int))) (decide_eq_false hl), wq 28 ((k : Int) * ((s + 1 : Nat) : Int)) ((k * (s + 1) : Nat) : Int) (by rw [hcast]; omega), lnq 30 l, wq 32 ((l.length : Int) - (u : Int)) ((l.length : Int) - (u : Int)) (by omega), ye (t := decide (((k * (s + 1) : Nat) : Int) > (l.length : Int) - (u : Int))) (decide_eq_true (by omega))] (by kernel_rfl)
       · rw [if_neg (fun h => hm (Int.ofNat_lt.1 h)), if_neg (by simp)]
         have : ¬ l.length - u < k * (s + 1) := fun h => hm (hdiv.2 h)
         exact tr [cl c, nf, na (t := decide ((k : Int) < 0)) (decide_eq_false hn), lnq 23 l, na (t := decide ((k : Int) > (l.length : Int))) (decide_eq_false hl), wq 28 ((k : Int) * ((s + 1 : Nat) : Int)) ((k * (s + 1) : Nat) : Int) (by rw [hcast]; omega), lnq 30 l, wq 32 ((l.length : Int) - (u : Int)) ((l.length : Int) - (u : Int)) (by omega), na (t := decide (((k * (s + 1) : Nat) : Int) > (l.length : Int) - (u : Int))) (decide_eq_false (by omega))] (by kernel_rfl)
 · rw [if_pos he, if_pos (by simpa using he)]
   exact tr [cl c, ye (t := e != 0) (by simpa using he)] (by kernel_rfl)
noncomputable abbrev frS : Func := fnOf PP 41
noncomputable def rSs (l : List UInt8) (n : Nat) (x : Nat × List Int × Nat) : St := at_ frS [(0, .sl (byL l)), (5, ni n), (6, ni x.2.2), (8, .ow 0), (9, ni x.1)] [.rw 3 1 (zs x.2.1)]
theorem e_rgetints (l : List UInt8) (hb : l.length ≤ 1000000) : Pure PP 41 [.sl (byL l)] (tuI (W.decI l)) := by
 have c := e_rcount l 0 (by omega) (by omega)
 unfold W.decI W.decL
 unfold cntR at c
 by_cases hc : (W.cnt l (0 + 1)).2.2 = 0
 · obtain ⟨n, hn, hn2, hn3⟩ := W.cnt_bound hc
   rw [if_neg (by simp [hc])] at c ⊢
   rcases hd : W.cnt l (0 + 1) with ⟨k, p0, e⟩
   rw [hd] at c hc hn hn2 hn3
   simp only at hc hn hn2 hn3
   subst hc
   subst hn
   have hp0 : n + p0 ≤ l.length := by simpa using hn2
   rw [Int.toNat_natCast]
   show Pure PP _ _ (tuI (W.seqD W.dec l n p0 []))
   refine pf (by kernel_rfl) (.to mo_ [.ow 8 (.rw 3 1 [])] [0, 5, 6, 8, 9] [0] 1 [cl c, nf] (td' := lp frS 0) (σ' := rSs l n (0, [], p0)) ?_ (by kernel_rfl))
   refine Gd.loop (rSs l n) (fun x => x.1 ≤ n ∧ x.2.1.length = x.1 ∧ x.2.2 ≤ l.length ∧ W.seqD W.dec l n p0 [] = W.seqD W.dec l (n - x.1) x.2.2 x.2.1) (fun x => n - x.1) ?_ (0, [], p0) ⟨Nat.zero_le _, rfl, by simp only; omega, rfl⟩
   rintro ⟨i, acc, p⟩ ⟨hi, ha, hp, hI⟩ ih
   simp only at hi ha hp hI ih
   by_cases h : i < n
   · have N := e_rgetint (l.drop p)
     have hle := W.dec_at_le (l.drop p)
     rw [List.length_drop] at hle
     rw [show n - i = (n - (i + 1)) + 1 from by omega] at hI
     simp only [W.seqD] at hI
     rcases hx : W.dec (l.drop p) with ⟨x, u, e⟩
     rw [hx] at N hle hI
     simp only at N hle hI
     by_cases he : e = 0
     · subst he
       rw [if_neg (by simp)] at hI
       exact .to mo_ [.mv 0 2] [0, 5, 6, 8, 9] [0] 1 [ye (t := decide ((i : Int) < (n : Int))) (decide_eq_true (by omega)), slD l p hp, cl N, nf, .app (zs acc) (zs [x]) (zs (acc ++ [x])) 1000000 (zs_app _ _).symm Nat.zero_lt_one (by rw [zs_len, List.length_append]; simp; omega), wq 44 ((p : Int) + (u : Int)) ((p + u : Nat) : Int) (by omega), inc 26 i (by omega)] (ih (i + 1, acc ++ [x], p + u) ⟨h, by simp [ha], by simp only; omega, hI⟩ (by simp only; omega)) (by kernel_rfl)
     · rw [if_pos he] at hI
       rw [hI]
       exact fi [ye (t := decide ((i : Int) < (n : Int))) (decide_eq_true (by omega)), slD l p hp, cl N, ye (t := e != 0) (by simpa using he)] (by kernel_rfl) (by kernel_rfl)
   · have hi2 : i = n := by omega
     subst hi2
     rw [Nat.sub_self] at hI
     rw [hI]
     exact fi [na (t := decide ((i : Int) < (i : Int))) (decide_eq_false (by omega))] (by kernel_rfl) (by kernel_rfl)
 · rw [if_pos hc] at c ⊢
   rcases hd : W.cnt l (0 + 1) with ⟨n, u, e⟩
   rw [hd] at c hc
   simp only at hc c ⊢
   exact tr [cl c, ye (t := e != 0) (by simpa using hc)] (by kernel_rfl)
section
variable {x y : Int} {k : Nat} {r : Rat}
theorem digs_inj {a b : Nat} (h : digs a = digs b) : a = b := by
 have h1 := (digs_ok a).2
 have h2 := (digs_ok b).2
 rw [h, h2] at h1
 exact_mod_cast h1.symm
theorem digs_64 (n : Nat) : ∀ d ∈ digs n, W.Is64 d := fun d hd => by
 obtain ⟨i, hi⟩ := List.getElem?_of_mem hd
 obtain ⟨h1, h2⟩ := (digs_ok n).1.1.get hi
 unfold W.Is64
 omega
theorem sgn_64 (x : Int) : W.Is64 (sgnZ x) := by unfold W.Is64 sgnZ cmpZ; split <;> (try split) <;> omega
/-- The numbers that stand for an integer. -/
def znL (x : Int) : List Int := sgnZ x :: digs x.natAbs
theorem zn_64 (x : Int) : ∀ d ∈ znL x, W.Is64 d := fun d hd => by
 rcases List.mem_cons.1 hd with rfl | hd
 · exact sgn_64 x
 · exact digs_64 _ d hd
def encZ (x : Int) : List UInt8 := W.encI (znL x)
/-- Few digits. -/
def Fz (x : Int) : Prop := (digs x.natAbs).length ≤ 90000
theorem e_ienc (hb : Fz x) : Pure PP 60 [.ag (dI x)] (.o 5 1 (byL (encZ x))) := by
 have hl : (znL x).length ≤ 100000 := by unfold Fz at hb; simp only [znL, List.length_cons]; omega
 have c := e_wints (zn_64 x) hl
 unfold Fz at hb
 unfold encZ
 by_cases h0 : x = 0
 · subst h0
   have hz : digs (0 : Int).natAbs = [] := digs_z rfl
   unfold znL at c ⊢
   rw [hz] at c ⊢
   have s := e_sign 0
   rw [dI_0] at s ⊢
   exact tr [cl s, .ape [] rfl, cl c] (by kernel_rfl)
 · have hnz := digs_nz h0
   exact tr [cl (e_sign x), .aps (zs [sgnZ x]) (zs (digs x.natAbs)) (zs (znL x)) 100000 1 rfl (by rw [zs_len]; omega) (by rw [zs_len]; exact hl) (zs_z1 _), cl c] (by kernel_rfl)
theorem e_ienc3 (hb : Fz x) : Pure PP 62 [.ag (dI x)] (.o 5 1 (byL (encZ x))) := by
 have hl : (znL x).length ≤ 100000 := by unfold Fz at hb; simp only [znL, List.length_cons]; omega
 have c := e_rints (zn_64 x) hl
 unfold Fz at hb
 unfold encZ
 by_cases h0 : x = 0
 · subst h0
   have hz : digs (0 : Int).natAbs = [] := digs_z rfl
   unfold znL at c ⊢
   rw [hz] at c ⊢
   have s := e_sign3 0
   rw [dI_0] at s ⊢
   exact tr [cl s, .ape [] rfl, cl c] (by kernel_rfl)
 · have hnz := digs_nz h0
   exact tr [cl (e_sign3 x), .aps (zs [sgnZ x]) (zs (digs x.natAbs)) (zs (znL x)) 100000 1 rfl (by rw [zs_len]; omega) (by rw [zs_len]; exact hl) (zs_z1 _), cl c] (by kernel_rfl)
open Classical in
noncomputable def prZ1 (a : Int) (D : List Int) : Option Int := if h : ∃ x : Int, D = digs x.natAbs ∧ sgnZ x = a ∧ (a == -1) = decide (x < 0) then some h.choose else none
/-- The integer for which numbers stand. -/
noncomputable def prZ : List Int → Option Int
 | [] => none
 | a :: D => prZ1 a D
theorem prZ_ok {a : Int} {D : List Int} (h1 : D = digs x.natAbs) (h2 : sgnZ x = a) (h3 : (a == -1) = decide (x < 0)) : prZ (a :: D) = some x := by
 have h : ∃ x : Int, D = digs x.natAbs ∧ sgnZ x = a ∧ (a == -1) = decide (x < 0) := ⟨x, h1, h2, h3⟩
 show prZ1 a D = _
 unfold prZ1
 rw [dif_pos h]
 obtain ⟨q1, q2, q3⟩ := h.choose_spec
 generalize h.choose = y at q1 q2 q3
 have e1 : x.natAbs = y.natAbs := digs_inj (h1.symm.trans q1)
 have e2 : decide (x < 0) = decide (y < 0) := h3.symm.trans q3
 have e3 := decide_eq_decide.1 e2
 congr 1
 omega
theorem prZ_no {a : Int} {D : List Int} (h : ∀ x : Int, D = digs x.natAbs → (a == -1) = decide (x < 0) → sgnZ x ≠ a) : prZ (a :: D) = none := by
 show prZ1 a D = _
 unfold prZ1
 rw [dif_neg]
 rintro ⟨x, h1, h2, h3⟩
 exact h x h1 h3 h2
noncomputable def decZ : List UInt8 → Int × Nat × Int := W.dM W.decI prZ
theorem decZ_le (l : List UInt8) : (decZ l).2.1 ≤ l.length := W.dM_le (W.decL_le W.codec_int l).2
theorem decZ_few (l : List UInt8) : (digs (decZ l).1.natAbs).length ≤ l.length := by
 have h := (W.decL_le W.codec_int l).1
 unfold decZ W.dM
 split
 · show (digs (0 : Int).natAbs).length ≤ _
   rw [digs_z rfl]; exact Nat.zero_le _
 · cases hp : prZ (W.decI l).1 with
   | none =>
    show (digs (0 : Int).natAbs).length ≤ _
    rw [digs_z rfl]; exact Nat.zero_le _
   | some x =>
    show (digs x.natAbs).length ≤ _
    cases hl : (W.decI l).1 with
    | nil => rw [hl] at hp; cases hp
    | cons a D =>
     rw [hl] at hp
     change prZ1 a D = some x at hp
     unfold prZ1 at hp
     split at hp
     · rename_i hh
       injection hp with hp
       obtain ⟨q1, q2, q3⟩ := hh.choose_spec
       rw [hp] at q1
       have h : (W.decI l).1.length ≤ l.length := h
       rw [hl, List.length_cons] at h
       rw [← q1]
       omega
     · cases hp
def tuZ (r : Int × Nat × Int) : V := .tu [.ag (dI r.1), ni (r.2.1 : Int), ni r.2.2]
theorem tuZ_0 (e : Int) : tuZ (default, 0, e) = .tu [.ag [bo false, .sl []], ni 0, ni e] := by
 show V.tu [.ag (dI 0), _, _] = _
 rw [dI_0]; rfl
theorem zs_sl1 {a : Int} {D : List Int} : ((zs (a :: D)).take (zs (a :: D)).length).drop 1 = zs D := by rw [List.take_of_length_le (Nat.le_refl _)]; rfl
theorem e_idec (l : List UInt8) (hb : l.length ≤ 1000000) : Pure PP 66 [.sl (byL l)] (tuZ (decZ l)) := by
 have c := e_wgetints l hb
 have hlen := (W.decL_le W.codec_int l).1
 unfold decZ W.dM
 change (W.decI l).1.length ≤ l.length at hlen
 rcases hd : W.decI l with ⟨L, n, e⟩
 rw [hd] at c hlen
 simp only at hlen ⊢
 by_cases he : e = 0
 · subst he
   rw [if_neg (by simp)]
   cases L with
   | nil =>
     show Pure PP _ _ (tuZ (default, 0, 2))
     rw [tuZ_0]
     exact tr [cl c, nf, yt] (by kernel_rfl)
   | cons a D =>
     rw [List.length_cons] at hlen
     have nz : (((zs (a :: D)).length : Int) == 0) = false := by rw [zs_len]; simp; omega
     have hcl := e_cloneI D (by omega)
     have s0 : (zs (a :: D))[0]? = some [ni a] := rfl
     let S : F_ := .slc (zs (a :: D)) 1 (zs (a :: D)).length 1 (zs D) zs_sl1 (by rw [zs_len]; simp) (zs_z _)
     generalize hs : (a == -1) = s
     let q : F_ := .eqv 26 (bo (a == -1)) (bo s) (by rw [hs])
     by_cases hv : iok s D
     · obtain ⟨x, h1, h2⟩ := hv
       have v := e_ivalid x
       have g := e_sign x
       unfold dI at v g
       rw [← h1, ← h2] at v g
       by_cases hsg : sgnZ x = a
       · rw [prZ_ok h2 hsg (by rw [hs, h1])]
         show Pure PP _ _ (.tu [.ag [.k (.bool (decide (x < 0))), .sl (zs (digs x.natAbs))], ni n, ni 0])
         rw [← h1, ← h2]
         exact tr [cl c, nf, na nz, .sel _ _ _ s0, q, S, cl hcl, cl v, nf, cl g, .sel _ _ _ s0, na (t := sgnZ x != a) (by simp [hsg])] (by kernel_rfl)
       · rw [prZ_no fun y k1 k2 => by
          have e1 : x.natAbs = y.natAbs := digs_inj (h2.symm.trans k1)
          rw [hs, h1] at k2
          have e3 := decide_eq_decide.1 k2
          rw [show y = x by omega]
          exact hsg]
         show Pure PP _ _ (tuZ (default, 0, 2))
         rw [tuZ_0]
         exact tr [cl c, nf, na nz, .sel _ _ _ s0, q, S, cl hcl, cl v, nf, cl g, .sel _ _ _ s0, ye (t := sgnZ x != a) (by simp [hsg])] (by kernel_rfl)
     · have v := e_ivalid_no hv
       rw [prZ_no fun y k1 k2 _ => hv ⟨y, by rw [← k2, hs], k1⟩]
       show Pure PP _ _ (tuZ (default, 0, 2))
       rw [tuZ_0]
       exact tr [cl c, nf, na nz, .sel _ _ _ s0, q, S, cl hcl, cl v, yt, yt] (by kernel_rfl)
 · rw [if_pos he, tuZ_0]
   exact tr [cl c, ye (t := e != 0) (by simpa using he)] (by kernel_rfl)
theorem e_idec3 (l : List UInt8) (hb : l.length ≤ 1000000) : Pure PP 71 [.sl (byL l)] (tuZ (decZ l)) := by
 have c := e_rgetints l hb
 have hlen := (W.decL_le W.codec_int l).1
 unfold decZ W.dM
 change (W.decI l).1.length ≤ l.length at hlen
 rcases hd : W.decI l with ⟨L, n, e⟩
 rw [hd] at c hlen
 simp only at hlen ⊢
 by_cases he : e = 0
 · subst he
   rw [if_neg (by simp)]
   cases L with
   | nil =>
     show Pure PP _ _ (tuZ (default, 0, 2))
     rw [tuZ_0]
     exact tr [cl c, nf, yt] (by kernel_rfl)
   | cons a D =>
     rw [List.length_cons] at hlen
     have nz : (((zs (a :: D)).length : Int) == 0) = false := by rw [zs_len]; simp; omega
     have s0 : (zs (a :: D))[0]? = some [ni a] := rfl
     let S : F_ := .slc (zs (a :: D)) 1 (zs (a :: D)).length 1 (zs D) zs_sl1 (by rw [zs_len]; simp) (zs_z _)
     generalize hs : (a == -1) = s
     let q : F_ := .eqv 26 (bo (a == -1)) (bo s) (by rw [hs])
     by_cases hv : iok s D
     · obtain ⟨x, h1, h2⟩ := hv
       have v := e_ivalid3 x
       have g := e_sign3 x
       unfold dI at v g
       rw [← h1, ← h2] at v g
       by_cases hsg : sgnZ x = a
       · rw [prZ_ok h2 hsg (by rw [hs, h1])]
         show Pure PP _ _ (.tu [.ag [.k (.bool (decide (x < 0))), .sl (zs (digs x.natAbs))], ni n, ni 0])
         rw [← h1, ← h2]
         exact tr [cl c, nf, na nz, .sel _ _ _ s0, q, S, cl v, nf, cl g, .sel _ _ _ s0, na (t := sgnZ x != a) (by simp [hsg])] (by kernel_rfl)
       · rw [prZ_no fun y k1 k2 => by
          have e1 : x.natAbs = y.natAbs := digs_inj (h2.symm.trans k1)
          rw [hs, h1] at k2
          have e3 := decide_eq_decide.1 k2
          rw [show y = x by omega]
          exact hsg]
         show Pure PP _ _ (tuZ (default, 0, 2))
         rw [tuZ_0]
         exact tr [cl c, nf, na nz, .sel _ _ _ s0, q, S, cl v, nf, cl g, .sel _ _ _ s0, ye (t := sgnZ x != a) (by simp [hsg])] (by kernel_rfl)
     · have v := e_ivalid3_no hv
       rw [prZ_no fun y k1 k2 _ => hv ⟨y, by rw [← k2, hs], k1⟩]
       show Pure PP _ _ (tuZ (default, 0, 2))
       rw [tuZ_0]
       exact tr [cl c, nf, na nz, .sel _ _ _ s0, q, S, cl v, yt] (by kernel_rfl)
 · rw [if_pos he, tuZ_0]
   exact tr [cl c, ye (t := e != 0) (by simpa using he)] (by kernel_rfl)
end
end Go.Proofs.YtjegnmlchioofaaGreatDoor.E
namespace Go.Proofs.YtjegnmlchioofaaGreatDoor.E
open Go.RowKit
set_option linter.unusedVariables false
set_option linter.unusedSimpArgs false
theorem e_growB {n : Nat} (h : 0 < n ∧ n ≤ 100000) : Pure PP 59 [.nl, ni n] (.o 5 1 []) :=
 tr [na (t := decide ((n : Int) < 0)) (decide_eq_false (by omega)), .nil, .eqv 13 (ni (IntKind.i64.wrap (0 - 0))) (ni 0) rfl, wq 14 ((n : Int) - 0) (n : Int) (by omega), ye (t := decide ((n : Int) > 0)) (decide_eq_true (by omega)), .nil, .nil, .apz n (by omega), .trn (List.replicate n [.k (.int .u8 0)]) [] 0 rfl (Nat.zero_le _)] (by kernel_rfl)
noncomputable abbrev fcB : Func := fnOf PP 24
def rowsB (ls : List (List UInt8)) : List (List V) := ls.map fun b => [.sl (byL b)]
theorem e_concatB {ls : List (List UInt8)} (h0 : 0 < ls.flatten.length) (h1 : ls.flatten.length ≤ 100000) (hn : ls.length ≤ 1000) (hp : ∀ b ∈ ls, 0 < b.length) : Pure PP 24 [.sl (rowsB ls)] (.o 5 1 (byL ls.flatten)) := by
 have hl : (rowsB ls).length = ls.length := List.length_map ..
 have el : ∀ {i}, i < ls.length → (rowsB ls)[i]? = some [.sl (byL (ls.getD i []))] := fun {i} h => by
  unfold rowsB
  rw [List.getElem?_map, List.getD_eq_getElem?_getD, List.getElem?_eq_getElem h]; rfl
 have hx : ∀ {i}, i < ls.length → ls[i]? = some (ls.getD i []) := fun {i} h => by rw [List.getD_eq_getElem?_getD, List.getElem?_eq_getElem h]; rfl
 let S : Nat → List UInt8 := fun i => (ls.take i).flatten
 have hS : ∀ {i}, i < ls.length → S (i + 1) = S i ++ ls.getD i [] := fun {i} h => by simp only [S]; rw [List.take_add_one, hx h]; simp
 have hSl : ∀ i, (S i).length ≤ ls.flatten.length := fun i => by
  have : ls.flatten = S i ++ (ls.drop i).flatten := by simp only [S]; rw [← List.flatten_append, List.take_append_drop]
  rw [this, List.length_append]; omega
 have hSn : S ls.length = ls.flatten := by simp [S]
 let X : Nat → St := fun i => at_ fcB [(0, .sl (rowsB ls)), (3, ni ((S i).length : Int)), (9, .sl (rowsB ls)), (10, ni ((rowsB ls).length : Int)), (11, ni i)] []
 let Y : Nat → St := fun i => at_ fcB [(6, .ow 0), (25, .sl (rowsB ls)), (26, ni ((rowsB ls).length : Int)), (27, ni i)] [.rw 5 1 (byL (S i))]
 refine pf (by kernel_rfl) (.to mo_ [] [0, 3, 9, 10, 11] [] 0 [] (td' := lp fcB 0) (σ' := X 0) ?_ (by kernel_rfl))
 refine Gd.loop X (fun i => i ≤ ls.length) (fun i => ls.length - i) ?_ 0 (Nat.zero_le _)
 intro i hi ih
 by_cases h : i < ls.length
 · have e := el h
   have hs := hS h
   have h2 := hSl (i + 1)
   rw [hs, List.length_append] at h2
   exact .to mo_ [] [0, 3, 9, 10, 11] [] 0 [ye (t := decide ((i : Int) < ((rowsB ls).length : Int))) (decide_eq_true (by omega)), .sel _ _ _ e, .eqv 17 (ni ((byL (ls.getD i [])).length : Int)) (ni ((ls.getD i []).length : Int)) (by rw [byL_len]), wq 18 (((S i).length : Int) + ((ls.getD i []).length : Int)) ((S (i + 1)).length : Int) (by rw [hs, List.length_append]; omega), na (t := decide (((S (i + 1)).length : Int) < 0)) (decide_eq_false (by omega)), inc 22 i (by omega)] (ih (i + 1) h (by omega)) (by kernel_rfl)
 · have hi2 : i = ls.length := by omega
   subst hi2
   refine .to mo_ [] [6, 25, 26, 27] [0] 1 [na (t := decide ((ls.length : Int) < ((rowsB ls).length : Int))) (decide_eq_false (by omega)), .newr true false _ _ _ _ _ (e_growB (n := (S ls.length).length) (by rw [hSn]; exact ⟨h0, h1⟩)) (fun cs h => by cases h)] (td' := lp fcB 1) (σ' := Y 0) ?_ (by kernel_rfl)
   refine Gd.loop Y (fun i => i ≤ ls.length) (fun i => ls.length - i) ?_ 0 (Nat.zero_le _)
   intro i hi jh
   by_cases g : i < ls.length
   · have e := el g
     have hs := hS g
     have h2 := hSl (i + 1)
     have h3 := hp (ls.getD i []) (List.mem_of_getElem? (hx g))
     exact .to mo_ [.mv 0 1] [6, 25, 26, 27] [0] 1 [ye (t := decide ((i : Int) < ((rowsB ls).length : Int))) (decide_eq_true (by omega)), .sel _ _ _ e, .aps (byL (S i)) (byL (ls.getD i [])) (byL (S (i + 1))) 100000 1 (by rw [byL_app, hs]) (by rw [byL_len]; exact h3) (by rw [byL_len]; omega) (byL_ok _), inc 34 i (by omega)] (jh (i + 1) g (by omega)) (by kernel_rfl)
   · have hi3 : i = ls.length := by omega
     subst hi3
     rw [← hSn]
     exact fi [na (t := decide ((ls.length : Int) < ((rowsB ls).length : Int))) (decide_eq_false (by omega))] (by kernel_rfl) (by kernel_rfl)
section
variable {x y : Int} {k : Nat} {r : Rat}
def encQ (r : Rat) : List UInt8 := encZ r.num ++ encZ (dq r)
/-- Few digits. -/
def Fq (r : Rat) : Prop := (digs r.num.natAbs).length ≤ 4000 ∧ (digs (dq r).natAbs).length ≤ 4000
theorem encZ_len (x : Int) : 1 ≤ (encZ x).length ∧ (encZ x).length ≤ 18 + 9 * (digs x.natAbs).length := by
 unfold encZ
 have h1 := W.encI_le (znL x)
 have h2 := (W.enc_le ((znL x).length : Int)).1
 refine ⟨by unfold W.encI; rw [List.length_append]; omega, ?_⟩
 simp only [znL, List.length_cons] at h1 ⊢
 omega
theorem encQ_len (h : Fq r) : 2 ≤ (encQ r).length ∧ (encQ r).length ≤ 72036 := by
 have h1 := encZ_len r.num
 have h2 := encZ_len (dq r)
 obtain ⟨h3, h4⟩ := h
 unfold encQ
 rw [List.length_append]
 omega
theorem e_renc (h : Fq r) : Pure PP 26 [.ag (dR r)] (.o 5 1 (byL (encQ r))) := by
 have c1 := e_ienc (x := r.num) (by have := h.1; unfold Fz; omega)
 have c2 := e_ienc (x := dq r) (by have := h.2; unfold Fz; omega)
 have hl := encQ_len h
 have l1 := encZ_len r.num
 have l2 := encZ_len (dq r)
 have c3 := e_concatB (ls := [encZ r.num, encZ (dq r)]) (by simp; omega) (by unfold encQ at hl; simp at hl ⊢; omega) (by simp) (fun b hb => by
  simp at hb
  rcases hb with rfl | rfl <;> omega)
 simp only [List.flatten_cons, List.flatten_nil, List.append_nil] at c3
 exact tr [.newr false true _ _ _ _ _ c1 (byL_k _), .newr false true _ _ _ _ _ c2 (byL_k _), cl c3] (by kernel_rfl)
theorem e_renc4 (h : Fq r) : Pure PP 29 [.ag (dR r)] (.o 5 1 (byL (encQ r))) := by
 have c1 := e_ienc3 (x := r.num) (by have := h.1; unfold Fz; omega)
 have c2 := e_ienc3 (x := dq r) (by have := h.2; unfold Fz; omega)
 have hl := encQ_len h
 have l2 := encZ_len (dq r)
 exact tr [cl c1, cl c2, .app (byL (encZ r.num)) (byL (encZ (dq r))) (byL (encQ r)) 100000 (byL_app _ _) (by rw [byL_len]; omega) (by rw [byL_len]; omega)] (by kernel_rfl)
open Classical in
/-- The rational number that two integers stand for. -/
noncomputable def prQ (p : Int × Int) : Option Rat := if h : ∃ r : Rat, r.num = p.1 ∧ dq r = p.2 then some h.choose else none
theorem prQ_ok (r : Rat) : prQ (r.num, dq r) = some r := by
 have h : ∃ t : Rat, t.num = (r.num, dq r).1 ∧ dq t = (r.num, dq r).2 := ⟨r, rfl, rfl⟩
 unfold prQ
 rw [dif_pos h]
 obtain ⟨q1, q2⟩ := h.choose_spec
 generalize h.choose = t at q1 q2
 rw [dq_inj (r := t) (t := r) q1 q2]
theorem prQ_no {p : Int × Int} (h : ∀ r : Rat, r.num = p.1 → dq r ≠ p.2) : prQ p = none := by
 unfold prQ
 rw [dif_neg]
 rintro ⟨r, h1, h2⟩
 exact h r h1 h2
noncomputable def decQ : List UInt8 → Rat × Nat × Int := W.dM (W.dP decZ decZ) prQ
theorem decQ_le (l : List UInt8) : (decQ l).2.1 ≤ l.length := W.dM_le (W.dP_le decZ_le decZ_le l)
theorem sgx {a b : Int} (h1 : digs a.natAbs = digs b.natAbs) (h2 : decide (a < 0) = decide (b < 0)) : a = b := by
 have := digs_inj h1
 have := decide_eq_decide.1 h2
 omega
/-- So many digits, so many bits. -/
theorem bd_dig {n : Nat} (h : (digs x.natAbs).length ≤ n) : I.Bd (30 * n) x := by
 have h1 := I.val_lt (digs_ok x.natAbs).1.1
 rw [(digs_ok x.natAbs).2] at h1
 have h2 : I.pw (digs x.natAbs).length ≤ I.pw n := I.pw_mono h
 have h3 : I.pw n ≤ ((2 ^ (30 * n) : Nat) : Int) := by
  unfold I.pw
  rw [Nat.pow_mul, show (1000000000 : Int) ^ n = ((1000000000 ^ n : Nat) : Int) from by rw [Int.natCast_pow]; rfl]
  exact Int.ofNat_le.2 (Nat.pow_le_pow_left (by decide) n)
 unfold I.Bd
 omega
def tuQ (r : Rat × Nat × Int) : V := .tu [.ag (dR r.1), ni (r.2.1 : Int), ni r.2.2]
theorem tuQ_0 (e : Int) : tuQ (default, 0, e) = .tu [.ag [bo false, .sl [], bo false, .sl []], ni 0, ni e] := by
 show V.tu [.ag (dR 0), _, _] = _
 rw [dR_0]; rfl
theorem bq_of {n : Nat} (h1 : (digs r.num.natAbs).length ≤ n) (h2 : (digs (dq r).natAbs).length ≤ n) : Bq (30 * n + 1) r := by
 refine ⟨(bd_dig h1).mono (by omega), ?_⟩
 by_cases h : r.den = 1
 · rw [h]
   show (1 : Int).natAbs < _
   have : 1 < 2 ^ (30 * n + 1) := Nat.one_lt_two_pow (by omega)
   exact this
 · have := (bd_dig (x := dq r) h2).mono (k := 30 * n + 1) (by omega)
   rwa [dq_more h] at this
theorem e_rdec (l : List UInt8) (hb : l.length ≤ 1000000) : Pure PP 39 [.sl (byL l)] (tuQ (decQ l)) := by
 obtain ⟨N, hN⟩ : ∃ N, N = 1000000 := ⟨_, rfl⟩
 have c := e_idec l hb
 have hle := decZ_le l
 have f1 := decZ_few l
 unfold decQ
 rcases hd : decZ l with ⟨x, p, e⟩
 rw [hd] at c hle f1
 simp only at hle f1
 by_cases he : e = 0
 · subst he
   have c2 := e_idec (l.drop p) (by rw [List.length_drop]; omega)
   have hle2 := decZ_le (l.drop p)
   have f2 := decZ_few (l.drop p)
   rw [List.length_drop] at hle2 f2
   rcases hd2 : decZ (l.drop p) with ⟨y, q, e2⟩
   rw [hd2] at c2 hle2 f2
   simp only at hle2 f2
   by_cases he2 : e2 = 0
   · subst he2
     have hP : W.dP decZ decZ l = ((x, y), p + q, 0) := by
      rw [W.dP_0 (by rw [hd]) (by rw [hd]; simp only; rw [hd2])]
      rw [hd]; simp only; rw [hd2]
     have ad : F_ := wq 41 ((p : Int) + (q : Int)) ((p + q : Nat) : Int) (by omega)
     by_cases hr : ∃ r : Rat, r.num = x ∧ dq r = y
     · obtain ⟨r, rfl, rfl⟩ := hr
       rw [W.dM_0 (y := r) (by rw [hP]) (by rw [hP]; exact prQ_ok r), hP]
       have v := e_rvalid (r := r) (bq_of (n := N) (by omega) (by omega)) (by omega)
       exact tr [cl c, nf, slD l p hle, cl c2, nf, cl v, yt, wq 41 ((p : Int) + (q : Int)) ((p + q : Nat) : Int) (by omega)] (by kernel_rfl)
     · rw [W.dM_2 (by rw [hP]) (by rw [hP]; exact prQ_no fun r h1 h2 => hr ⟨r, h1, h2⟩), tuQ_0]
       have v := e_rvalid_no (n := ⟨decide (x < 0), digs x.natAbs, decide (y < 0), digs y.natAbs⟩) (k := 30 * N) (fun ⟨r, h⟩ => by
        unfold ofR at h
        simp only [RN.mk.injEq] at h
        exact hr ⟨r, (sgx h.2.1 h.1).symm, (sgx h.2.2.2 h.2.2.1).symm⟩) ⟨fun _ => by
         have := bd_dig (x := x) (n := N) (by omega)
         unfold I.Bd at this ⊢
         rw [(digs_ok _).2]
         simpa using this, fun _ => by
         have := bd_dig (x := y) (n := N) (by omega)
         unfold I.Bd at this ⊢
         rw [(digs_ok _).2]
         simpa using this⟩ (by omega)
       exact tr [cl c, nf, slD l p hle, cl c2, nf, cl v, nf] (by kernel_rfl)
   · rw [W.dM_1 (by rw [W.dP_2 (by rw [hd]) (by rw [hd]; simp only; rw [hd2]; exact he2)]; rw [hd]; simp only; rw [hd2]; exact he2), W.dP_2 (by rw [hd]) (by rw [hd]; simp only; rw [hd2]; exact he2), hd]
     simp only
     rw [hd2, tuQ_0]
     exact tr [cl c, nf, slD l p hle, cl c2, ye (t := e2 != 0) (by simpa using he2)] (by kernel_rfl)
 · rw [W.dM_1 (by rw [W.dP_1 (by rw [hd]; exact he), hd]; exact he), W.dP_1 (by rw [hd]; exact he), hd, tuQ_0]
   exact tr [cl c, ye (t := e != 0) (by simpa using he)] (by kernel_rfl)
theorem e_rdec4 (l : List UInt8) (hb : l.length ≤ 1000000) : Pure PP 42 [.sl (byL l)] (tuQ (decQ l)) := by
 obtain ⟨N, hN⟩ : ∃ N, N = 1000000 := ⟨_, rfl⟩
 have c := e_idec3 l hb
 have hle := decZ_le l
 have f1 := decZ_few l
 unfold decQ
 rcases hd : decZ l with ⟨x, p, e⟩
 rw [hd] at c hle f1
 simp only at hle f1
 by_cases he : e = 0
 · subst he
   have c2 := e_idec3 (l.drop p) (by rw [List.length_drop]; omega)
   have hle2 := decZ_le (l.drop p)
   have f2 := decZ_few (l.drop p)
   rw [List.length_drop] at hle2 f2
   rcases hd2 : decZ (l.drop p) with ⟨y, q, e2⟩
   rw [hd2] at c2 hle2 f2
   simp only at hle2 f2
   by_cases he2 : e2 = 0
   · subst he2
     have hP : W.dP decZ decZ l = ((x, y), p + q, 0) := by
      rw [W.dP_0 (by rw [hd]) (by rw [hd]; simp only; rw [hd2])]
      rw [hd]; simp only; rw [hd2]
     by_cases hr : ∃ r : Rat, r.num = x ∧ dq r = y
     · obtain ⟨r, rfl, rfl⟩ := hr
       rw [W.dM_0 (y := r) (by rw [hP]) (by rw [hP]; exact prQ_ok r), hP]
       have v := e_valid4 (r := r) (bq_of (n := N) (by omega) (by omega)) (by omega)
       exact tr [cl c, nf, slD l p hle, cl c2, nf, cl v, nf, wq 44 ((p : Int) + (q : Int)) ((p + q : Nat) : Int) (by omega)] (by kernel_rfl)
     · rw [W.dM_2 (by rw [hP]) (by rw [hP]; exact prQ_no fun r h1 h2 => hr ⟨r, h1, h2⟩), tuQ_0]
       have v := e_valid4_no (n := ⟨decide (x < 0), digs x.natAbs, decide (y < 0), digs y.natAbs⟩) (k := 30 * N) (fun ⟨r, h⟩ => by
        unfold ofR at h
        simp only [RN.mk.injEq] at h
        exact hr ⟨r, (sgx h.2.1 h.1).symm, (sgx h.2.2.2 h.2.2.1).symm⟩) ⟨fun _ => by
         have := bd_dig (x := x) (n := N) (by omega)
         unfold I.Bd at this ⊢
         rw [(digs_ok _).2]
         simpa using this, fun _ => by
         have := bd_dig (x := y) (n := N) (by omega)
         unfold I.Bd at this ⊢
         rw [(digs_ok _).2]
         simpa using this⟩ (by omega)
       exact tr [cl c, nf, slD l p hle, cl c2, nf, cl v, yt] (by kernel_rfl)
   · rw [W.dM_1 (by rw [W.dP_2 (by rw [hd]) (by rw [hd]; simp only; rw [hd2]; exact he2)]; rw [hd]; simp only; rw [hd2]; exact he2), W.dP_2 (by rw [hd]) (by rw [hd]; simp only; rw [hd2]; exact he2), hd]
     simp only
     rw [hd2, tuQ_0]
     exact tr [cl c, nf, slD l p hle, cl c2, ye (t := e2 != 0) (by simpa using he2)] (by kernel_rfl)
 · rw [W.dM_1 (by rw [W.dP_1 (by rw [hd]; exact he), hd]; exact he), W.dP_1 (by rw [hd]; exact he), hd, tuQ_0]
   exact tr [cl c, ye (t := e != 0) (by simpa using he)] (by kernel_rfl)
noncomputable abbrev fFw : Func := fnOf PP 6
theorem e_few1 (l : List UInt8) (k : Nat) (hk : k ≤ 1000000) : Pure PP 6 [.sl (byL l), ni k] (.o 5 1 (byL (l.take k))) := by
 refine pf (by kernel_rfl) (.to mo_ [.ow 5 (.rw 5 1 [])] [0, 1, 5] [0] 1 [] (td' := rg fFw 2) (σ' := at_ fFw [(0, .sl (byL l)), (1, ni k), (5, .ow 0)] [.rw 5 1 []]) ?_ (by kernel_rfl))
 have hs : ((byL l).take (min l.length k)).drop 0 = byL (l.take k) := by
  rw [List.drop_zero, byL_take]
  congr 1
  rcases Nat.le_total l.length k with h | h
  · rw [Nat.min_eq_left h, List.take_of_length_le (Nat.le_refl _), List.take_of_length_le h]
  · rw [Nat.min_eq_right h]
 have hlen : (l.take k).length ≤ k := by rw [List.length_take]; omega
 let q : F_ := .eqv 11 (ni (if (k : Int) < (l.length : Int) then (k : Int) else (l.length : Int))) (ni ((min l.length k : Nat) : Int)) (by
  congr 1
  split <;> omega)
 by_cases h : l.take k = []
 · rw [h] at hs ⊢
   exact fi [lnq 9 l, q, .slc (byL l) 0 (min l.length k) 1 [] hs (by rw [byL_len]; omega) (byL_z _), .ape [] rfl] (by kernel_rfl) (by kernel_rfl)
 · exact fi [lnq 9 l, q, .slc (byL l) 0 (min l.length k) 1 (byL (l.take k)) hs (by rw [byL_len]; omega) (byL_z _), .aps [] (byL (l.take k)) (byL (l.take k)) 1000000 1 rfl (by rw [byL_len]; exact List.length_pos_iff.2 h) (by rw [byL_len]; omega) (byL_ok _)] (by kernel_rfl) (by kernel_rfl)
end
end Go.Proofs.YtjegnmlchioofaaGreatDoor.E
