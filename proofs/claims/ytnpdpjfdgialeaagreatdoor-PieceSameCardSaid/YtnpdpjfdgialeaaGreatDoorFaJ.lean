/-
 PIECE: a piece with something changed: up to the change.
-/
import Derived.Test.YtnpdpjfdgialeaaGreatDoorFaI
import Derived.Test.YtnpdpjfdgialeaaGreatDoorEzH
namespace Go.Proofs.YtnpdpjfdgialeaaGreatDoor.E.Pc
open Go.RowKit
set_option linter.unusedVariables false
set_option linter.unusedSimpArgs false
section
variable {p : Ct.Pi} {q : Pr}
noncomputable abbrev fsi_ : Func := fnOf PP 36
noncomputable abbrev fS12 : Func := fnOf PP 12
/-- Numbers: whether all numbers are ones. -/
theorem e_numbers12 (ok : q.Ok) : ∃ b : Bool, Pure PP 6 [.ag q.v] (bo b) ∧ (b = true → rok q.a ∧ rok q.b ∧ rok q.c ∧ rok q.d ∧ rok q.e) := by
 obtain ⟨t1, k1, i1⟩ := e_valid4_ex ok.a
 obtain ⟨t2, k2, i2⟩ := e_valid4_ex ok.b
 obtain ⟨t3, k3, i3⟩ := e_valid4_ex ok.c
 obtain ⟨t4, k4, i4⟩ := e_valid4_ex ok.d
 obtain ⟨t5, k5, i5⟩ := e_valid4_ex ok.e
 have hv : q.v = [ni q.id, ni q.home, .sl (Ct.ptR q.rim), .sl (Ct.wnR q.worn), zl q.marks] ++ (cN q.a ++ (cN q.b ++ (cN q.c ++ (cN q.d ++ cN q.e)))) := rfl
 refine ⟨t1 && (t2 && (t3 && (t4 && t5))), ?_, fun h => ?_⟩
 · rw [hv]
   generalize Ct.ptR q.rim = PR at *
   generalize Ct.wnR q.worn = WR at *
   cases t1 with
   | false => exact tr [cl k1, nf, nf, nf, nf] (by kernel_rfl)
   | true =>
   cases t2 with
   | false => exact tr [cl k1, yt, cl k2, nf, nf, nf] (by kernel_rfl)
   | true =>
   cases t3 with
   | false => exact tr [cl k1, yt, cl k2, yt, cl k3, nf, nf] (by kernel_rfl)
   | true =>
   cases t4 with
   | false => exact tr [cl k1, yt, cl k2, yt, cl k3, yt, cl k4, nf] (by kernel_rfl)
   | true => exact tr [cl k1, yt, cl k2, yt, cl k3, yt, cl k4, yt, cl k5] (by kernel_rfl)
 · simp only [Bool.and_eq_true] at h
   obtain ⟨g1, g2, g3, g4, g5⟩ := h
   refine ⟨?_, ?_, ?_, ?_, ?_⟩
   · exact Classical.byContradiction fun g => by rw [i1 g] at g1; cases g1
   · exact Classical.byContradiction fun g => by rw [i2 g] at g2; cases g2
   · exact Classical.byContradiction fun g => by rw [i3 g] at g3; cases g3
   · exact Classical.byContradiction fun g => by rw [i4 g] at g4; cases g4
   · exact Classical.byContradiction fun g => by rw [i5 g] at g5; cases g5
end
end Go.Proofs.YtnpdpjfdgialeaaGreatDoor.E.Pc
namespace Go.Proofs.YtnpdpjfdgialeaaGreatDoor.E.Pc
open Go.RowKit
set_option linter.unusedVariables false
set_option linter.unusedSimpArgs false
def pvv (id home : Int) (R W M : List (List V)) (a b c d e : Rat) : List V := [ni id, ni home, .sl R, .sl W, .sl M] ++ (dR a ++ (dR b ++ (dR c ++ (dR d ++ dR e))))
def nvv (a b c d e : Rat) : List V := dR a ++ (dR b ++ (dR c ++ (dR d ++ dR e)))
section
variable {id home id' home' : Int} {R W M R' W' M' : List (List V)} {a b c d e a' b' c' d' e' : Rat} {p q : Ct.Pi} {c0 c1 c2 c3 c4 c5 c6 c7 : Bool}
theorem e_numv (id home : Int) (R W M : List (List V)) (a b c d e : Rat) : Pure PP 28 [.ag (pvv id home R W M a b c d e)] (.ag (nvv a b c d e)) := tr [] (by kernel_rfl)
noncomputable def smY (x y n m : List V) (i : Nat) : St := at_ fsm [(2, .lp 0 0), (3, .lp 1 0), (5, .lp 2 0), (6, .lp 3 0), (12, ni (i : Int))] [.bx 30 x, .bx 30 y, .bx 69 n, .bx 69 m]
theorem sm_end (n m : List V) (k5 : Pure PP 33 [.sl R, .sl R'] (bo c5)) (k6 : Pure PP 34 [.sl W, .sl W'] (bo c6)) (k7 : Pure PP 35 [.sl M, .sl M'] (bo c7)) :
  Gd PP 11 (.v (bo ((id == id') && ((home == home') && (c5 && (c6 && c7)))))) (lp fsm 0) (smY (pvv id home R W M a b c d e) (pvv id' home' R' W' M' a' b' c' d' e') n m 5) := by
 cases h1 : (id == id') with
 | false => exact fi [nf, na (t := id == id') h1, nf, nf, nf] (by kernel_rfl) (by kernel_rfl)
 | true =>
 cases h2 : (home == home') with
 | false => exact fi [nf, ye (t := id == id') h1, na (t := home == home') h2, nf, nf] (by kernel_rfl) (by kernel_rfl)
 | true =>
 cases c5 with
 | false => exact fi [nf, ye (t := id == id') h1, ye (t := home == home') h2, cl k5, nf, nf] (by kernel_rfl) (by kernel_rfl)
 | true =>
 cases c6 with
 | false => exact fi [nf, ye (t := id == id') h1, ye (t := home == home') h2, cl k5, yt, cl k6, nf] (by kernel_rfl) (by kernel_rfl)
 | true => exact fi [nf, ye (t := id == id') h1, ye (t := home == home') h2, cl k5, yt, cl k6, yt, cl k7] (by kernel_rfl) (by kernel_rfl)
theorem sm_gen (s0 : Pure PP 32 [.ag (dR a), .ag (dR a')] (bo c0)) (s1 : Pure PP 32 [.ag (dR b), .ag (dR b')] (bo c1)) (s2 : Pure PP 32 [.ag (dR c), .ag (dR c')] (bo c2)) (s3 : Pure PP 32 [.ag (dR d), .ag (dR d')] (bo c3)) (s4 : Pure PP 32 [.ag (dR e), .ag (dR e')] (bo c4))
  (k5 : Pure PP 33 [.sl R, .sl R'] (bo c5)) (k6 : Pure PP 34 [.sl W, .sl W'] (bo c6)) (k7 : Pure PP 35 [.sl M, .sl M'] (bo c7)) :
  Pure PP 11 [.ag (pvv id home R W M a b c d e), .ag (pvv id' home' R' W' M' a' b' c' d' e')] (bo (c0 && (c1 && (c2 && (c3 && (c4 && ((id == id') && ((home == home') && (c5 && (c6 && c7)))))))))) := by
 have n1 := e_numv id home R W M a b c d e
 have n2 := e_numv id' home' R' W' M' a' b' c' d' e'
 have en := sm_end (id := id) (home := home) (id' := id') (home' := home') (a := a) (b := b) (c := c) (d := d) (e := e) (a' := a') (b' := b') (c' := c') (d' := d') (e' := e') (nvv a b c d e) (nvv a' b' c' d' e') k5 k6 k7
 refine pf (by kernel_rfl) (.to mo_ [] [2, 3, 5, 6, 12] [0, 1, 2, 3] 4 [cl n1, cl n2] (td' := lp fsm 0) (σ' := smY (pvv id home R W M a b c d e) (pvv id' home' R' W' M' a' b' c' d' e') (nvv a b c d e) (nvv a' b' c' d' e') 0) ?_ (by kernel_rfl))
 cases c0 with
 | false => exact fi [yt, cl s0, yt] (by kernel_rfl) (by kernel_rfl)
 | true =>
 refine .to mo_ [] [2, 3, 5, 6, 12] [0, 1, 2, 3] 4 [yt, cl s0, nf] (td' := lp fsm 0) (σ' := smY (pvv id home R W M a b c d e) (pvv id' home' R' W' M' a' b' c' d' e') (nvv a b c d e) (nvv a' b' c' d' e') 1) ?_ (by kernel_rfl)
 cases c1 with
 | false => exact fi [yt, cl s1, yt] (by kernel_rfl) (by kernel_rfl)
 | true =>
 refine .to mo_ [] [2, 3, 5, 6, 12] [0, 1, 2, 3] 4 [yt, cl s1, nf] (td' := lp fsm 0) (σ' := smY (pvv id home R W M a b c d e) (pvv id' home' R' W' M' a' b' c' d' e') (nvv a b c d e) (nvv a' b' c' d' e') 2) ?_ (by kernel_rfl)
 cases c2 with
 | false => exact fi [yt, cl s2, yt] (by kernel_rfl) (by kernel_rfl)
 | true =>
 refine .to mo_ [] [2, 3, 5, 6, 12] [0, 1, 2, 3] 4 [yt, cl s2, nf] (td' := lp fsm 0) (σ' := smY (pvv id home R W M a b c d e) (pvv id' home' R' W' M' a' b' c' d' e') (nvv a b c d e) (nvv a' b' c' d' e') 3) ?_ (by kernel_rfl)
 cases c3 with
 | false => exact fi [yt, cl s3, yt] (by kernel_rfl) (by kernel_rfl)
 | true =>
 refine .to mo_ [] [2, 3, 5, 6, 12] [0, 1, 2, 3] 4 [yt, cl s3, nf] (td' := lp fsm 0) (σ' := smY (pvv id home R W M a b c d e) (pvv id' home' R' W' M' a' b' c' d' e') (nvv a b c d e) (nvv a' b' c' d' e') 4) ?_ (by kernel_rfl)
 cases c4 with
 | false => exact fi [yt, cl s4, yt] (by kernel_rfl) (by kernel_rfl)
 | true => exact .to mo_ [] [2, 3, 5, 6, 12] [0, 1, 2, 3] 4 [yt, cl s4, nf] en (by kernel_rfl)
def eqPi (p q : Ct.Pi) : Bool := decide (p.tol = q.tol) && (decide (p.light = q.light) && (decide (p.heavy = q.heavy) && (decide (p.str = q.str) && (decide (p.rough = q.rough) && ((p.id == q.id) && ((p.home == q.home) && (decide (p.rim = q.rim) && (decide (p.worn = q.worn) && decide (p.marks = q.marks)))))))))
theorem eqPi_iff : eqPi p q = true ↔ p = q := by
 obtain ⟨i, h, r, w, m, a, b, c, d, e⟩ := p
 obtain ⟨i', h', r', w', m', a', b', c', d', e'⟩ := q
 unfold eqPi
 simp only [decide_eq_true_eq, Bool.and_eq_true, beq_iff_eq, Ct.Pi.mk.injEq]
 constructor
 · rintro ⟨rfl, rfl, rfl, rfl, rfl, rfl, rfl, rfl, rfl, rfl⟩
   simp
 · rintro ⟨rfl, rfl, rfl, rfl, rfl, rfl, rfl, rfl, rfl, rfl⟩
   simp
theorem eqPi_no (h : p ≠ q) : eqPi p q = false := by
 cases e : eqPi p q with
 | false => rfl
 | true => exact absurd (eqPi_iff.1 e) h
/-- Same says whether two pieces are equal. -/
theorem e_sameG (p q : Ct.Pi) : Pure PP 11 [.ag p.v, .ag q.v] (bo (eqPi p q)) :=
 sm_gen (e_psame p.tol q.tol) (e_psame p.light q.light) (e_psame p.heavy q.heavy) (e_psame p.str q.str) (e_psame p.rough q.rough) (e_eqP p.rim q.rim) (e_eqB p.worn q.worn) (e_eqI p.marks q.marks)
theorem e_sintsG (l m : List Int) (hn : l.length ≤ 1000000) : Pure PP 36 [zl l, zl m] (bo (decide (l = m))) := by
 have z1 := zs_len l
 have z2 := zs_len m
 by_cases hl : l.length = m.length
 · let X : Nat → St := fun i => at_ fsi_ [(0, zl l), (1, zl m), (5, ni (i : Int))] []
   refine pf (by kernel_rfl) (.to mo_ [] [0, 1, 5] [] 0 [na (t := ((zs l).length : Int) != ((zs m).length : Int)) (by rw [z1, z2, hl]; simp)] (td' := lp fsi_ 0) (σ' := X 0) ?_ (by kernel_rfl))
   refine Gd.loop X (fun i => i ≤ l.length ∧ l.take i = m.take i) (fun i => l.length - i) ?_ 0 ⟨Nat.zero_le _, rfl⟩
   intro i ⟨hi, hI⟩ ih
   by_cases h : i < l.length
   · obtain ⟨a, ha, _⟩ := Ct.get_of h
     obtain ⟨b, hb, _⟩ := Ct.get_of (l := m) (i := i) (by omega)
     have hlt : decide ((i : Int) < ((zs l).length : Int)) = true := decide_eq_true (by omega)
     by_cases e : a = b
     · exact .to mo_ [] [0, 1, 5] [] 0 [ye hlt, .sel _ _ _ (zs_at ha), .sel _ _ _ (zs_at hb), na (t := a != b) (by simp [e]), inc 16 i (by omega)] (ih (i + 1) ⟨h, take_st hI ha hb e⟩ (by omega)) (by kernel_rfl)
     · have hne : l ≠ m := fun h2 => by subst h2; rw [ha] at hb; exact e (Option.some.inj hb)
       rw [show decide (l = m) = false from decide_eq_false hne]
       exact fi [ye hlt, .sel _ _ _ (zs_at ha), .sel _ _ _ (zs_at hb), ye (t := a != b) (by simp [e])] (by kernel_rfl) (by kernel_rfl)
   · have heq : l = m := by rwa [List.take_of_length_le (by omega), List.take_of_length_le (by omega)] at hI
     rw [show decide (l = m) = true from decide_eq_true heq]
     exact fi [na (t := decide ((i : Int) < ((zs l).length : Int))) (decide_eq_false (by omega))] (by kernel_rfl) (by kernel_rfl)
 · rw [show decide (l = m) = false from decide_eq_false fun e => hl (by rw [e])]
   exact tr [ye (t := ((zs l).length : Int) != ((zs m).length : Int)) (by rw [z1, z2]; simp; omega)] (by kernel_rfl)
noncomputable def s2X (p q : Ct.Pi) (i : Nat) : St := at_ fS12 [(2, .ip p.v), (3, .ip q.v), (5, ni (i : Int))] []
noncomputable def s2Z (p q : Ct.Pi) (i : Nat) : St := at_ fS12 [(2, .ip p.v), (3, .ip q.v), (6, ni (i : Int))] []
noncomputable abbrev GS12 (b : Bool) (td : List Item) (σ : St) : Prop := Gd PP 12 (.v (bo b)) td σ
/-- The end: the numbers. -/
theorem s2_end (p q : Ct.Pi) (hn : p.worn.length ≤ 1000000) : GS12 (decide (p.tol = q.tol) && (decide (p.light = q.light) && (decide (p.heavy = q.heavy) && (decide (p.str = q.str) && decide (p.rough = q.rough))))) (lp fS12 1) (s2Z p q p.worn.length) := by
 have z2 : (Ct.wnR p.worn).length = p.worn.length := List.length_map ..
 have e2 : ni ((Ct.wnR p.worn).length : Int) = ni (p.worn.length : Int) := by rw [z2]
 have lt : decide ((p.worn.length : Int) < (p.worn.length : Int)) = false := decide_eq_false (by omega)
 have s0 := e_same4 p.tol q.tol
 have s1 := e_same4 p.light q.light
 have s2 := e_same4 p.heavy q.heavy
 have s3 := e_same4 p.str q.str
 have s4 := e_same4 p.rough q.rough
 unfold s2Z
 cases h0 : decide (p.tol = q.tol) with
 | false => rw [h0] at s0; exact fi [.eqv 83 _ _ e2, na lt, cl s0, nf, nf, nf, nf] (by kernel_rfl) (by kernel_rfl)
 | true =>
 rw [h0] at s0
 cases h1 : decide (p.light = q.light) with
 | false => rw [h1] at s1; exact fi [.eqv 83 _ _ e2, na lt, cl s0, yt, cl s1, nf, nf, nf] (by kernel_rfl) (by kernel_rfl)
 | true =>
 rw [h1] at s1
 cases h2 : decide (p.heavy = q.heavy) with
 | false => rw [h2] at s2; exact fi [.eqv 83 _ _ e2, na lt, cl s0, yt, cl s1, yt, cl s2, nf, nf] (by kernel_rfl) (by kernel_rfl)
 | true =>
 rw [h2] at s2
 cases h3 : decide (p.str = q.str) with
 | false => rw [h3] at s3; exact fi [.eqv 83 _ _ e2, na lt, cl s0, yt, cl s1, yt, cl s2, yt, cl s3, nf] (by kernel_rfl) (by kernel_rfl)
 | true =>
 rw [h3] at s3
 exact fi [.eqv 83 _ _ e2, na lt, cl s0, yt, cl s1, yt, cl s2, yt, cl s3, yt, cl s4] (by kernel_rfl) (by kernel_rfl)
end
end Go.Proofs.YtnpdpjfdgialeaaGreatDoor.E.Pc
namespace Go.Proofs.YtnpdpjfdgialeaaGreatDoor.E.Pc
open Go.RowKit
set_option linter.unusedVariables false
set_option linter.unusedSimpArgs false
section
variable {p q : Ct.Pi} {i : Nat}
theorem eq_nums (h1 : p.id = q.id) (h2 : p.home = q.home) (h3 : p.rim = q.rim) (h4 : p.worn = q.worn) (h5 : p.marks = q.marks) : eqPi p q = (decide (p.tol = q.tol) && (decide (p.light = q.light) && (decide (p.heavy = q.heavy) && (decide (p.str = q.str) && decide (p.rough = q.rough))))) := by
 unfold eqPi
 rw [decide_eq_true h3, decide_eq_true h4, decide_eq_true h5, beq_iff_eq.2 h1, beq_iff_eq.2 h2]
 simp
theorem s2_worn (hn : p.worn.length ≤ 1000000) (hl : p.worn.length = q.worn.length) (h1 : p.id = q.id) (h2 : p.home = q.home) (h3 : p.rim = q.rim) (h5 : p.marks = q.marks) : GS12 (eqPi p q) (lp fS12 1) (s2Z p q 0) := by
 have z2 : (Ct.wnR p.worn).length = p.worn.length := List.length_map ..
 have e2 : ni ((Ct.wnR p.worn).length : Int) = ni (p.worn.length : Int) := by rw [z2]
 refine Gd.loop (s2Z p q) (fun i => i ≤ p.worn.length ∧ p.worn.take i = q.worn.take i) (fun i => p.worn.length - i) ?_ 0 ⟨Nat.zero_le _, rfl⟩
 intro i ⟨hi, hI⟩ ih
 by_cases g : i < p.worn.length
 · obtain ⟨a, ha, _⟩ := Ct.get_of g
   obtain ⟨b, hb, _⟩ := Ct.get_of (l := q.worn) (i := i) (by omega)
   have sa := wn_at ha
   have sb := wn_at hb
   have lt : decide ((i : Int) < (p.worn.length : Int)) = true := decide_eq_true (by omega)
   by_cases e : a = b
   · have nx := ih (i + 1) ⟨g, take_st hI ha hb e⟩ (by omega)
     unfold s2Z at nx ⊢
     exact .to mo_ [] [2, 3, 6] [] 0 [.eqv 83 _ _ e2, ye lt, .sel _ _ _ sa, .sel _ _ _ sb, na (t := a != b) (by simp [e]), inc 86 i (by omega)] nx (by kernel_rfl)
   · have hne : p ≠ q := fun h => by
      rw [h] at ha
      rw [ha] at hb
      exact e (Option.some.inj hb)
     rw [eqPi_no hne]
     unfold s2Z
     exact fi [.eqv 83 _ _ e2, ye lt, .sel _ _ _ sa, .sel _ _ _ sb, ye (t := a != b) (by simpa using e)] (by kernel_rfl) (by kernel_rfl)
 · have hi2 : i = p.worn.length := by omega
   subst hi2
   have h4 : p.worn = q.worn := by rwa [List.take_of_length_le (by omega), List.take_of_length_le (by omega)] at hI
   rw [eq_nums h1 h2 h3 h4 h5]
   exact s2_end p q hn
theorem s2_rim (hr : p.rim.length ≤ 1000000) (hn : p.worn.length ≤ 1000000) (hlr : p.rim.length = q.rim.length) (hl : p.worn.length = q.worn.length) (h1 : p.id = q.id) (h2 : p.home = q.home) (h5 : p.marks = q.marks) : GS12 (eqPi p q) (lp fS12 0) (s2X p q 0) := by
 have z1 : (Ct.ptR p.rim).length = p.rim.length := List.length_map ..
 have e1 : ni ((Ct.ptR p.rim).length : Int) = ni (p.rim.length : Int) := by rw [z1]
 refine Gd.loop (s2X p q) (fun i => i ≤ p.rim.length ∧ p.rim.take i = q.rim.take i) (fun i => p.rim.length - i) ?_ 0 ⟨Nat.zero_le _, rfl⟩
 intro i ⟨hi, hI⟩ ih
 by_cases g : i < p.rim.length
 · obtain ⟨a, ha, _⟩ := Ct.get_of g
   obtain ⟨b, hb, _⟩ := Ct.get_of (l := q.rim) (i := i) (by omega)
   have sa := Ct.pt_at ha
   have sb := Ct.pt_at hb
   have lt : decide ((i : Int) < (p.rim.length : Int)) = true := decide_eq_true (by omega)
   by_cases e : a = b
   · have nx := ih (i + 1) ⟨g, take_st hI ha hb e⟩ (by omega)
     unfold s2X at nx ⊢
     exact .to mo_ [] [2, 3, 5] [] 0 [.eqv 48 _ _ e1, ye lt, .sel _ _ _ sa, .sel _ _ _ sb, na (t := a.1 != b.1) (by simp [e]), .sel _ _ _ sa, .sel _ _ _ sb, na (t := a.2 != b.2) (by simp [e]), inc 51 i (by omega)] nx (by kernel_rfl)
   · have hne : p ≠ q := fun h => by
      rw [h] at ha
      rw [ha] at hb
      exact e (Option.some.inj hb)
     rw [eqPi_no hne]
     unfold s2X
     by_cases f : a.1 = b.1
     · have f2 : a.2 ≠ b.2 := fun h => e (Prod.ext f h)
       exact fi [.eqv 48 _ _ e1, ye lt, .sel _ _ _ sa, .sel _ _ _ sb, na (t := a.1 != b.1) (by simp [f]), .sel _ _ _ sa, .sel _ _ _ sb, ye (t := a.2 != b.2) (by simpa using f2)] (by kernel_rfl) (by kernel_rfl)
     · exact fi [.eqv 48 _ _ e1, ye lt, .sel _ _ _ sa, .sel _ _ _ sb, ye (t := a.1 != b.1) (by simpa using f), yt] (by kernel_rfl) (by kernel_rfl)
 have hi2 : i = p.rim.length := by omega
 subst hi2
 have h3 : p.rim = q.rim := by rwa [List.take_of_length_le (by omega), List.take_of_length_le (by omega)] at hI
 have nx := s2_worn hn hl h1 h2 h3 h5
 have lt : decide ((p.rim.length : Int) < (p.rim.length : Int)) = false := decide_eq_false (by omega)
 unfold s2X
 unfold s2Z at nx
 exact .to mo_ [] [2, 3, 6] [] 0 [.eqv 48 _ _ e1, na lt] nx (by kernel_rfl)
theorem e_same12G (p q : Ct.Pi) (hr : p.rim.length ≤ 1000000) (hn : p.worn.length ≤ 1000000) (hm : p.marks.length ≤ 1000000) : Pure PP 12 [.ag p.v, .ag q.v] (bo (eqPi p q)) := by
 have z1 : (Ct.ptR p.rim).length = p.rim.length := List.length_map ..
 have z2 : (Ct.wnR p.worn).length = p.worn.length := List.length_map ..
 have y1 : (Ct.ptR q.rim).length = q.rim.length := List.length_map ..
 have y2 : (Ct.wnR q.worn).length = q.worn.length := List.length_map ..
 have s := e_sintsG p.marks q.marks hm
 have q3 : (((Ct.ptR p.rim).length : Int) != ((Ct.ptR q.rim).length : Int)) = decide (p.rim.length ≠ q.rim.length) := by
  rw [z1, y1, Bool.eq_iff_iff]
  simp
  omega
 have q4 : (((Ct.wnR p.worn).length : Int) != ((Ct.wnR q.worn).length : Int)) = decide (p.worn.length ≠ q.worn.length) := by
  rw [z2, y2, Bool.eq_iff_iff]
  simp
  omega
 by_cases h1 : p.id = q.id
 · have q1 : (p.id != q.id) = false := by simp [h1]
   by_cases h2 : p.home = q.home
   · have q2 : (p.home != q.home) = false := by simp [h2]
     by_cases h3 : p.rim.length = q.rim.length
     · rw [decide_eq_false (fun h => h h3)] at q3
       by_cases h4 : p.worn.length = q.worn.length
       · rw [decide_eq_false (fun h => h h4)] at q4
         by_cases h5 : p.marks = q.marks
         · rw [decide_eq_true h5] at s
           have nx := s2_rim hr hn h3 h4 h1 h2 h5
           unfold s2X at nx
           exact pf (by kernel_rfl) (.to mo_ [.fz 2, .fz 3] [2, 3, 5] [] 0 [na q1, na q2, na q3, na q4, cl s, nf] nx (by kernel_rfl))
         · rw [decide_eq_false h5] at s
           rw [eqPi_no fun h => h5 (by rw [h])]
           exact tr [na q1, na q2, na q3, na q4, cl s, yt] (by kernel_rfl)
       · rw [decide_eq_true h4] at q4
         rw [eqPi_no fun h => h4 (by rw [h])]
         exact tr [na q1, na q2, na q3, ye q4, yt] (by kernel_rfl)
     · rw [decide_eq_true h3] at q3
       rw [eqPi_no fun h => h3 (by rw [h])]
       exact tr [na q1, na q2, ye q3, yt, yt] (by kernel_rfl)
   · rw [eqPi_no fun h => h2 (by rw [h])]
     exact tr [na q1, ye (t := p.home != q.home) (by simpa using h2), yt, yt, yt] (by kernel_rfl)
 · rw [eqPi_no fun h => h1 (by rw [h])]
   exact tr [ye (t := p.id != q.id) (by simpa using h1), yt, yt, yt, yt] (by kernel_rfl)
end
end Go.Proofs.YtnpdpjfdgialeaaGreatDoor.E.Pc
namespace Go.Proofs.YtnpdpjfdgialeaaGreatDoor.E.Pc
open Go.RowKit
set_option linter.unusedVariables false
set_option linter.unusedSimpArgs false
abbrev Tu : Type := List Int × List Int × List Int × List Int × Rat × Rat × Rat × Rat × Rat
def tupP (p : Ct.Pi) : Tu := ([p.id, p.home], crn p.rim, wnI p.worn, p.marks, p.tol, p.light, p.heavy, p.str, p.rough)
noncomputable def decT : List UInt8 → Tu × Nat × Int := W.dP W.decI (W.dP W.decI (W.dP W.decI (W.dP W.decI (W.dP decQ (W.dP decQ (W.dP decQ (W.dP decQ decQ)))))))
def encT : Tu → List UInt8 := W.eP W.encI (W.eP W.encI (W.eP W.encI (W.eP W.encI (W.eP encQ (W.eP encQ (W.eP encQ (W.eP encQ encQ)))))))
def VT (t : Tu) : Prop := W.VI t.1 ∧ W.VI t.2.1 ∧ W.VI t.2.2.1 ∧ W.VI t.2.2.2.1 ∧ VQ t.2.2.2.2.1 ∧ VQ t.2.2.2.2.2.1 ∧ VQ t.2.2.2.2.2.2.1 ∧ VQ t.2.2.2.2.2.2.2.1 ∧ VQ t.2.2.2.2.2.2.2.2
theorem codecT : W.Codec encT decT VT := W.codecP W.codecI (W.codecP W.codecI (W.codecP W.codecI (W.codecP W.codecI (W.codecP codecQ (W.codecP codecQ (W.codecP codecQ (W.codecP codecQ codecQ)))))))
theorem encT_p (p : Ct.Pi) : encT (tupP p) = encP p := by simp [encT, W.eP, tupP, encP, hdP, numP]
theorem crn_inj {P Q : List (Int × Int)} (h : crn P = crn Q) : P = Q := by
 induction P generalizing Q with
 | nil =>
  cases Q with
  | nil => rfl
  | cons c Q => cases h
 | cons a P ih =>
  cases Q with
  | nil => cases h
  | cons c Q =>
   have h : a.1 :: a.2 :: crn P = c.1 :: c.2 :: crn Q := h
   injection h with h1 h
   injection h with h2 h
   rw [ih h, Prod.ext h1 h2]
theorem wnI_inj {l m : List Bool} (h : wnI l = wnI m) : l = m := by
 induction l generalizing m with
 | nil =>
  cases m with
  | nil => rfl
  | cons c m => cases h
 | cons a l ih =>
  cases m with
  | nil => cases h
  | cons c m =>
   have h : (if a then (1 : Int) else 0) :: wnI l = (if c then (1 : Int) else 0) :: wnI m := h
   injection h with h1 h
   rw [ih h]
   cases a <;> cases c <;> first | rfl | (exact absurd h1 (by decide))
theorem tupP_inj {p q : Ct.Pi} (h : tupP p = tupP q) : p = q := by
 obtain ⟨a1, a2, a3, a4, a5, a6, a7, a8, a9, a10⟩ := p
 obtain ⟨b1, b2, b3, b4, b5, b6, b7, b8, b9, b10⟩ := q
 unfold tupP at h
 simp only [Prod.mk.injEq, List.cons.injEq, and_true] at h
 obtain ⟨⟨rfl, rfl⟩, h3, h4, rfl, rfl, rfl, rfl, rfl, rfl⟩ := h
 rw [crn_inj h3, wnI_inj h4]
end Go.Proofs.YtnpdpjfdgialeaaGreatDoor.E.Pc
namespace Go.Proofs.YtnpdpjfdgialeaaGreatDoor.E.Pc
open Go.RowKit
set_option linter.unusedVariables false
set_option linter.unusedSimpArgs false
noncomputable abbrev fsp : Func := fnOf PP 5
noncomputable abbrev GSp (q : Pr) (td : List Item) (σ : St) : Prop := Gd PP 5 (.v (.ag q.v)) td σ
def nums (p : Pr) : List V := cN p.a ++ (cN p.b ++ (cN p.c ++ (cN p.d ++ cN p.e)))
def z25 : List V := [ni 0, ni 0, .nl, .nl, .nl] ++ (Ct.z4n ++ (Ct.z4n ++ (Ct.z4n ++ (Ct.z4n ++ Ct.z4n))))
noncomputable def spS (p : Pr) (how by_ : Int) (x y w : V) (m : List (Nat × V)) (l : List HO) : St := at_ fsp ([(1, ni how), (2, ni by_), (3, .lp 0 0), (6, .lp 1 0), (7, .lp 2 0)] ++ m) ([.bx 30 p.v, .bx 30 z25, .bx 30 ([ni p.id, ni p.home, x, y, w] ++ nums p)] ++ l)
section
variable {p q : Pr} {how by_ : Int}
theorem pt_z (P : List (Int × Int)) : ∀ cs ∈ Ct.ptR P, cs.length = 2 ∧ cs.all one = true := fun cs h => by
 obtain ⟨p, _, rfl⟩ := List.mem_map.1 h
 exact ⟨rfl, rfl⟩
theorem wn_z (P : List Bool) : ∀ cs ∈ Ct.wnR P, cs.length = 1 ∧ cs.all one = true := fun cs h => by
 obtain ⟨p, _, rfl⟩ := List.mem_map.1 h
 exact ⟨rfl, rfl⟩
noncomputable def sp5 (p : Pr) (how by_ : Int) : St := spS p how by_ (.ow 3) (.ow 4) (.ow 5) [(19, .ow 4)] [.rw 52 2 (Ct.ptR p.rim), .rw 4 1 (Ct.wnR p.worn), .rw 3 1 (zs p.marks)]
theorem sp_1 (ok : p.Ok) (next : GSp q (rg fsp 3) (spS p how by_ (.ow 3) (.sl (Ct.wnR p.worn)) (zl p.marks) [] [.rw 52 2 (Ct.ptR p.rim)])) : Pure PP 5 [.ag p.v, ni how, ni by_] (.ag q.v) := by
 have h1 := ok.nr
 have hl : (Ct.ptR p.rim).length = p.rim.length := List.length_map ..
 have hz := pt_z p.rim
 unfold spS nums Pr.v anyP at next
 unfold Pr.v anyP
 by_cases g : 0 < p.rim.length
 · generalize Ct.ptR p.rim = PR at *
   generalize Ct.wnR p.worn = WR at *
   exact pf (by kernel_rfl) (.to mo_ [.mv 3 4] [1, 2, 3, 6, 7] [0, 1, 2, 3] 4 [.aps [] PR PR 1000 2 rfl (by omega) (by omega) hz] next (by kernel_rfl))
 · have he : p.rim = [] := List.length_eq_zero_iff.1 (by omega)
   rw [he] at next ⊢
   generalize Ct.wnR p.worn = WR at *
   exact pf (by kernel_rfl) (.to mo_ [] [1, 2, 3, 6, 7] [0, 1, 2, 3] 4 [.ape [] rfl] next (by kernel_rfl))
theorem sp_2 (ok : p.Ok) (next : GSp q (rg fsp 4) (spS p how by_ (.ow 3) (.ow 4) (zl p.marks) [(19, .ow 4)] [.rw 52 2 (Ct.ptR p.rim), .rw 4 1 (Ct.wnR p.worn)])) : GSp q (rg fsp 3) (spS p how by_ (.ow 3) (.sl (Ct.wnR p.worn)) (zl p.marks) [] [.rw 52 2 (Ct.ptR p.rim)]) := by
 have h1 := ok.nw
 have hl : (Ct.wnR p.worn).length = p.worn.length := List.length_map ..
 have hz := wn_z p.worn
 unfold spS nums Pr.v anyP at next
 unfold spS nums Pr.v anyP
 by_cases g : 0 < p.worn.length
 · generalize Ct.ptR p.rim = PR at *
   generalize Ct.wnR p.worn = WR at *
   exact .to mo_ [.mv 4 5] [1, 2, 3, 6, 7, 19] [0, 1, 2, 3, 4] 5 [.aps [] WR WR 1000 1 rfl (by omega) (by omega) hz] next (by kernel_rfl)
 · have he : p.worn = [] := List.length_eq_zero_iff.1 (by omega)
   rw [he] at next ⊢
   generalize Ct.ptR p.rim = PR at *
   exact .to mo_ [] [1, 2, 3, 6, 7, 19] [0, 1, 2, 3, 4] 5 [.ape [] rfl] next (by kernel_rfl)
theorem sp_3 (ok : p.Ok) (next : GSp q (rg fsp 5) (sp5 p how by_)) : GSp q (rg fsp 4) (spS p how by_ (.ow 3) (.ow 4) (zl p.marks) [(19, .ow 4)] [.rw 52 2 (Ct.ptR p.rim), .rw 4 1 (Ct.wnR p.worn)]) := by
 have h1 := ok.nm
 have hl := zs_len p.marks
 have hz := zs_z1 p.marks
 unfold sp5 spS nums Pr.v anyP at next
 unfold spS nums Pr.v anyP
 change GSp q _ (at_ fsp _ [_, _, _, _, _, .rw _ 1 (zs p.marks)]) at next
 change GSp q _ (at_ fsp _ ([.bx _ ([_, _, _, _, .sl (zs p.marks)] ++ _), _, .bx _ ([_, _, _, _, .sl (zs p.marks)] ++ _)] ++ _))
 by_cases g : 0 < p.marks.length
 · generalize Ct.ptR p.rim = PR at *
   generalize Ct.wnR p.worn = WR at *
   generalize zs p.marks = ZM at *
   exact .to mo_ [.mv 5 6] [1, 2, 3, 6, 7, 19] [0, 1, 2, 3, 4, 5] 6 [.aps [] ZM ZM 1000 1 rfl (by omega) (by omega) hz] next (by kernel_rfl)
 · have he : p.marks = [] := List.length_eq_zero_iff.1 (by omega)
   rw [he] at next ⊢
   generalize Ct.ptR p.rim = PR at *
   generalize Ct.wnR p.worn = WR at *
   exact .to mo_ [] [1, 2, 3, 6, 7, 19] [0, 1, 2, 3, 4, 5] 6 [.ape [] rfl] next (by kernel_rfl)
theorem sp_0 (ok : p.Ok) (next : GSp q (rg fsp 5) (sp5 p how by_)) : Pure PP 5 [.ag p.v, ni how, ni by_] (.ag q.v) := sp_1 ok (sp_2 ok (sp_3 ok next))
end
end Go.Proofs.YtnpdpjfdgialeaaGreatDoor.E.Pc
