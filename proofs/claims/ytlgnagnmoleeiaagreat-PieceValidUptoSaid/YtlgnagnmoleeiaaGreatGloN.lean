/-
 No package variable is listed.
-/
import Derived.Test.YtlgnagnmoleeiaaGreatLawO
import Derived.Test.YtlgnagnmoleeiaaGreatFaO
import Derived.Test.YtlgnagnmoleeiaaGreatEoV
import Derived.Test.YtlgnagnmoleeiaaGreatFaJ
namespace Go.Proofs.YtlgnagnmoleeiaaGreat.E.Pc
open Go.RowKit
set_option linter.unusedVariables false
set_option linter.unusedSimpArgs false
section
variable {l : List Int} {p q : Pr} {how by_ : Int} {n i : Nat} {a : RN}
theorem e_digits (h1 : a.l.length ≤ 1048576) (h2 : a.m.length ≤ 1048576) : Pure PP 60 [.ag (cN a)] (ni ((a.l.length + a.m.length : Nat) : Int)) := by
 have l1 := zs_len a.l
 have l2 := zs_len a.m
 unfold cN
 change Pure PP _ [.ag [_, .sl (zs a.l), _, .sl (zs a.m)]] _
 generalize zs a.l = A at *
 generalize zs a.m = B at *
 exact tr [.eqv 6 (ni (A.length : Int)) (ni (a.l.length : Int)) (by rw [l1]), .eqv 10 (ni (B.length : Int)) (ni (a.m.length : Int)) (by rw [l2]), wq 11 ((a.l.length : Int) + (a.m.length : Int)) ((a.l.length + a.m.length : Nat) : Int) (by omega)] (by kernel_rfl)
def dgN (a : RN) : Nat := a.l.length + a.m.length
/-- Few. -/
theorem e_fewP (up : p.Up 1048576) : ∃ t : Bool, Pure PP 11 [.ag p.v] (bo t) ∧ (t = true → p.Le 14 ∧ dgN p.a + dgN p.b + dgN p.c + dgN p.d + dgN p.e ≤ 16) := by
 have u1 := up.r; have u2 := up.w; have u3 := up.m
 obtain ⟨a1, a2⟩ := up.a
 obtain ⟨b1, b2⟩ := up.b
 obtain ⟨c1, c2⟩ := up.c
 obtain ⟨d1, d2⟩ := up.d
 obtain ⟨e1, e2⟩ := up.e
 have ka := e_digits a1 a2
 have kb := e_digits b1 b2
 have kc := e_digits c1 c2
 have kd := e_digits d1 d2
 have ke := e_digits e1 e2
 have l1 : (Ct.ptR p.rim).length = p.rim.length := List.length_map ..
 have l2 : (Ct.wnR p.worn).length = p.worn.length := List.length_map ..
 have l3 := zs_len p.marks
 unfold Pr.v anyP
 change ∃ t, Pure PP _ [.ag ([_, _, _, _, .sl (zs p.marks)] ++ _)] _ ∧ _
 generalize Ct.ptR p.rim = PR at *
 generalize Ct.wnR p.worn = WR at *
 generalize zs p.marks = ZR at *
 let E1 : F_ := .eqv 5 (ni (PR.length : Int)) (ni (p.rim.length : Int)) (by rw [l1])
 let E2 : F_ := .eqv 10 (ni (WR.length : Int)) (ni (p.worn.length : Int)) (by rw [l2])
 let E3 : F_ := .eqv 16 (ni (ZR.length : Int)) (ni (p.marks.length : Int)) (by rw [l3])
 by_cases h1 : p.rim.length ≤ 14
 case neg => exact ⟨false, tr [E1, na (t := decide ((p.rim.length : Int) ≤ 14)) (decide_eq_false (by omega)), nf, nf] (by kernel_rfl), fun h => by cases h⟩
 by_cases h2 : p.worn.length ≤ 14
 case neg => exact ⟨false, tr [E1, ye (t := decide ((p.rim.length : Int) ≤ 14)) (decide_eq_true (by omega)), E2, na (t := decide ((p.worn.length : Int) ≤ 14)) (decide_eq_false (by omega)), nf] (by kernel_rfl), fun h => by cases h⟩
 by_cases h3 : p.marks.length ≤ 14
 case neg => exact ⟨false, tr [E1, ye (t := decide ((p.rim.length : Int) ≤ 14)) (decide_eq_true (by omega)), E2, ye (t := decide ((p.worn.length : Int) ≤ 14)) (decide_eq_true (by omega)), E3, na (t := decide ((p.marks.length : Int) ≤ 14)) (decide_eq_false (by omega))] (by kernel_rfl), fun h => by cases h⟩
 refine ⟨decide (((dgN p.a + dgN p.b + dgN p.c + dgN p.d + dgN p.e : Nat) : Int) ≤ 16), ?_, fun h => ⟨⟨h1, h2, h3⟩, by have := of_decide_eq_true h; omega⟩⟩
 unfold dgN
 exact tr [E1, ye (t := decide ((p.rim.length : Int) ≤ 14)) (decide_eq_true (by omega)), E2, ye (t := decide ((p.worn.length : Int) ≤ 14)) (decide_eq_true (by omega)), E3, ye (t := decide ((p.marks.length : Int) ≤ 14)) (decide_eq_true (by omega)), cl ka, cl kb, wq 26 (((p.a.l.length + p.a.m.length : Nat) : Int) + ((p.b.l.length + p.b.m.length : Nat) : Int)) ((p.a.l.length + p.a.m.length + (p.b.l.length + p.b.m.length) : Nat) : Int) (by omega), cl kc, wq 30 (((p.a.l.length + p.a.m.length + (p.b.l.length + p.b.m.length) : Nat) : Int) + ((p.c.l.length + p.c.m.length : Nat) : Int)) ((p.a.l.length + p.a.m.length + (p.b.l.length + p.b.m.length) + (p.c.l.length + p.c.m.length) : Nat) : Int) (by omega), cl kd, wq 34 (((p.a.l.length + p.a.m.length + (p.b.l.length + p.b.m.length) + (p.c.l.length + p.c.m.length) : Nat) : Int) + ((p.d.l.length + p.d.m.length : Nat) : Int)) ((p.a.l.length + p.a.m.length + (p.b.l.length + p.b.m.length) + (p.c.l.length + p.c.m.length) + (p.d.l.length + p.d.m.length) : Nat) : Int) (by omega), cl ke, wq 38 (((p.a.l.length + p.a.m.length + (p.b.l.length + p.b.m.length) + (p.c.l.length + p.c.m.length) + (p.d.l.length + p.d.m.length) : Nat) : Int) + ((p.e.l.length + p.e.m.length : Nat) : Int)) ((p.a.l.length + p.a.m.length + (p.b.l.length + p.b.m.length) + (p.c.l.length + p.c.m.length) + (p.d.l.length + p.d.m.length) + (p.e.l.length + p.e.m.length) : Nat) : Int) (by omega)] (by kernel_rfl)
/-- A raw piece that is few. -/
theorem few_ok (h1 : W.Is64 p.id) (h2 : W.Is64 p.home) (h3 : ∀ x ∈ p.rim, W.Is64 x.1 ∧ W.Is64 x.2) (h4 : ∀ x ∈ p.marks, W.Is64 x) (hl : p.Le 14) (hd : dgN p.a + dgN p.b + dgN p.c + dgN p.d + dgN p.e ≤ 16) : p.Ok := by
 unfold dgN at hd
 have key : ∀ {x : RN} {k : Nat}, x.l.length + x.m.length ≤ 16 → 480 ≤ k → Bn k x := fun {x k} h hk => bn_len (by omega) (by omega)
 have r := hl.r; have w := hl.w; have m := hl.m
 have ka : Bn 1000 p.a := key (by omega) (by omega)
 have kb : Bn 1000 p.b := key (by omega) (by omega)
 have kc : Bn 1000 p.c := key (by omega) (by omega)
 have kd : Bn 1000 p.d := key (by omega) (by omega)
 have ke : Bn 1000 p.e := key (by omega) (by omega)
 exact ⟨h1, h2, h3, h4, by omega, by omega, by omega, ka, kb, kc, kd, ke⟩
/-- The piece made of numbers is one of them. -/
theorem p12P_pr (l : List Int) (P : List (Int × Int)) (hs : ∀ c ∈ P, (-12 ≤ c.1 ∧ c.1 ≤ 12) ∧ (-12 ≤ c.2 ∧ c.2 ≤ 12)) (hl : 3 ≤ P.length ∧ P.length ≤ 5) (b1 : Bq 8 (Ct.p12P l P).tol) (b2 : Bq 8 (Ct.p12P l P).light) (b3 : Bq 20 (Ct.p12P l P).heavy) (b4 : Bq 8 (Ct.p12P l P).str) (b5 : Bq 8 (Ct.p12P l P).rough) : (prOf (Ct.p12P l P)).Ok ∧ (prOf (Ct.p12P l P)).Le 5 ∧ rngB (Ct.p12P l P).id (Ct.p12P l P).home (Ct.p12P l P).rim (Ct.p12P l P).marks = true ∧ (Ct.p12P l P).worn.length = (Ct.p12P l P).rim.length ∧ (Ct.p12P l P).marks.length = (Ct.p12P l P).rim.length := by
 have w1 : (Ct.p12P l P).worn.length = P.length := by
  show (Ct.pwn l P.length P.length).length = P.length
  unfold Ct.pwn
  rw [List.length_map, List.length_range]
 have m1 : (Ct.p12P l P).marks.length = P.length := by
  show (Ct.pmk l P.length P.length).length = P.length
  unfold Ct.pmk
  rw [List.length_map, List.length_range]
 have a8 := atz_in l 8 39
 have a9 := atz_in l 9 4
 have mm : ∀ x ∈ (Ct.p12P l P).marks, 0 ≤ x ∧ x ≤ 4 := fun x hx => by
  have hx : x ∈ Ct.pmk l P.length P.length := hx
  unfold Ct.pmk at hx
  obtain ⟨i, _, rfl⟩ := List.mem_map.1 hx
  have h1 := atz_in l (20 + i) 4
  split
  · rw [Int.tdiv_eq_ediv_of_nonneg h1.1]; omega
  · omega
 refine ⟨⟨⟨by show _ ≤ atz l 8 39; omega, by show atz l 8 39 ≤ _; omega⟩, ⟨by show _ ≤ atz l 9 4; omega, by show atz l 9 4 ≤ _; omega⟩, fun x hx => ?_, fun x hx => ?_, by show P.length ≤ _; omega, by show (Ct.p12P l P).worn.length ≤ _; omega, by show (Ct.p12P l P).marks.length ≤ _; omega, bn_of (b1.mono (by omega)), bn_of (b2.mono (by omega)), bn_of (b3.mono (by omega)), bn_of (b4.mono (by omega)), bn_of (b5.mono (by omega))⟩, ⟨hl.2, by show (Ct.p12P l P).worn.length ≤ _; omega, by show (Ct.p12P l P).marks.length ≤ _; omega⟩, ?_, w1, m1⟩
 · have := hs x hx
   exact ⟨⟨by omega, by omega⟩, ⟨by omega, by omega⟩⟩
 · have := mm x hx
   exact ⟨by omega, by omega⟩
 · show rngB (atz l 8 39) (atz l 9 4) P (Ct.p12P l P).marks = true
   unfold rngB inW
   rw [Bool.and_eq_true, List.all_eq_true, Bool.and_eq_true, List.all_eq_true]
   refine ⟨fun x hx => ?_, fun x hx => ?_, ?_⟩
   · have := hs x hx
     unfold ptW inW
     simp only [Bool.and_eq_true, decide_eq_true_eq]
     omega
   · have := mm x hx
     simp only [Bool.and_eq_true, decide_eq_true_eq]
     omega
   · simp only [Bool.and_eq_true, decide_eq_true_eq]
     omega
theorem p12_pr (l : List Int) : (prOf (Ct.p12 l)).Ok ∧ (prOf (Ct.p12 l)).Le 5 ∧ rngB (Ct.p12 l).id (Ct.p12 l).home (Ct.p12 l).rim (Ct.p12 l).marks = true ∧ (Ct.p12 l).worn.length = (Ct.p12 l).rim.length ∧ (Ct.p12 l).marks.length = (Ct.p12 l).rim.length := by
 have hb := p12_bits l
 have hl := p12_len l
 have hs := p12_sm l
 rw [Ct.p12_rim] at hl hs
 unfold Ct.p12 at *
 obtain ⟨b1, b2, b3, b4, b5⟩ := hb
 exact p12P_pr l _ hs hl b1 b2 b3 b4 b5
def okN (r : Rat) : Bool := !negB r
theorem p12_fine (l : List Int) : okA (Ct.p12 l) true = true := by
 have a10 := atz_in l 10 2
 have a11 := atz_in l 11 5
 have a12 := atz_in l 12 3
 have a13 := atz_in l 13 99
 have a14 := atz_in l 14 4
 have t1 : (List.range 3).all (fun a => okN (Rat.divInt (a : Int) 4) && decide (cmpQ (Rat.divInt (a : Int) 4) (Rat.divInt 4 1) ≤ 0)) = true := by decide +kernel
 have t2 : ((List.range 6).all fun a => (List.range 4).all fun b => (okN (Rat.divInt (1 + (a : Int)) 2) && okN (Rat.divInt (1 + (a : Int)) 2 + Rat.divInt (b : Int) 2)) && (decide (sgnZ (Rat.divInt (1 + (a : Int)) 2).num > 0) && (decide (cmpQ (Rat.divInt (1 + (a : Int)) 2) (Rat.divInt (1 + (a : Int)) 2 + Rat.divInt (b : Int) 2) ≤ 0) && decide (cmpQ (Rat.divInt (1 + (a : Int)) 2 + Rat.divInt (b : Int) 2) (Rat.divInt 1000 1) ≤ 0)))) = true := by decide +kernel
 have t3 : (List.range 100).all (fun a => okN (Rat.divInt (20 + (a : Int)) 1) && !(sgnZ (Rat.divInt (20 + (a : Int)) 1).num == 0)) = true := by decide +kernel
 have t4 : (List.range 5).all (fun a => okN (Rat.divInt (a : Int) 4) && decide (cmpQ (Rat.divInt (a : Int) 4) (Rat.divInt 4 1) ≤ 0)) = true := by decide +kernel
 rw [List.all_eq_true] at t1 t2 t3 t4
 have k1 := t1 (atz l 10 2).toNat (List.mem_range.2 (by omega))
 have k2 := t2 (atz l 11 5).toNat (List.mem_range.2 (by omega))
 rw [List.all_eq_true] at k2
 have k2 := k2 (atz l 12 3).toNat (List.mem_range.2 (by omega))
 have k3 := t3 (atz l 13 99).toNat (List.mem_range.2 (by omega))
 have k4 := t4 (atz l 14 4).toNat (List.mem_range.2 (by omega))
 rw [Int.toNat_of_nonneg (by omega)] at k1 k3 k4
 rw [Int.toNat_of_nonneg (by omega), Int.toNat_of_nonneg (by omega)] at k2
 unfold okA fineB smB hvB
 unfold Ct.p12
 generalize Ct.rimP l = P
 unfold Ct.p12P Ct.pHeavy Ct.pLight
 unfold okN at k1 k2 k3 k4
 simp only [Bool.and_eq_true] at *
 simp only [k1, k2, k3, k4, true_and, and_true, and_self]
end
end Go.Proofs.YtlgnagnmoleeiaaGreat.E.Pc
namespace Go.Proofs.YtlgnagnmoleeiaaGreat.E.Pc
open Go.RowKit
set_option linter.unusedVariables false
set_option linter.unusedSimpArgs false
section
variable {L : List Vc} {R : List Nat} {b p q m n i j : Nat} {k : Int} {u v w x : Vc}
end
end Go.Proofs.YtlgnagnmoleeiaaGreat.E.Pc
namespace Go.Proofs.YtlgnagnmoleeiaaGreat.E.Pc
open Go.RowKit
set_option linter.unusedVariables false
set_option linter.unusedSimpArgs false
section
variable {L : List Vc} {R : List Nat} {b p q m n i j : Nat} {k : Int}
end
end Go.Proofs.YtlgnagnmoleeiaaGreat.E.Pc
namespace Go.Proofs.YtlgnagnmoleeiaaGreat.E.Pc
open Go.RowKit
set_option linter.unusedVariables false
set_option linter.unusedSimpArgs false
section
variable {L : List Vc} {R : List Nat} {b p q m n i j : Nat} {k : Int} {A T : List (List Nat)}
end
end Go.Proofs.YtlgnagnmoleeiaaGreat.E.Pc
namespace Go.Proofs.YtlgnagnmoleeiaaGreat.E.Pc
open Go.RowKit
set_option linter.unusedVariables false
set_option linter.unusedSimpArgs false
section
variable {l : List Int} {k : Int} {p : Ct.Pi} {Ks : List Int} {i j n m q : Nat}
end
end Go.Proofs.YtlgnagnmoleeiaaGreat.E.Pc
namespace Go.Proofs.YtlgnagnmoleeiaaGreat.E.Pc
open Go.RowKit
set_option linter.unusedVariables false
set_option linter.unusedSimpArgs false
section
variable {L : List Vc} {b j k m n i : Nat} {p q : Vc × Vc} {pc : Ct.Pi} {T : List (List Vc)} {l at_l : List Int} {u v : Vc}
end
end Go.Proofs.YtlgnagnmoleeiaaGreat.E.Pc
namespace Go.Proofs.YtlgnagnmoleeiaaGreat.E.Pc
open Go.RowKit
set_option linter.unusedVariables false
set_option linter.unusedSimpArgs false
section
variable {L : List Vc} {b j k m n i : Nat} {p q : Vc × Vc} {pc : Ct.Pi} {T A C : List (List Vc)} {l at_l : List Int} {u v : Vc}
theorem p12_bv (l : List Int) : ∀ a ∈ (Ct.p12 l).rimV, Bv 20 a := fun a ha => by
 obtain ⟨c, hc, rfl⟩ := List.mem_map.1 ha
 have := p12_sm l c hc
 exact qv_bv (by omega)
theorem e_valP (l : List Int) : Pure PP 67 [dL (Ct.p12 l).rimV] (bo true) := by
 have hl := p12_len l
 have hv : (Ct.p12 l).rimV.length = (Ct.p12 l).rim.length := List.length_map ..
 have := e_valid (p12_bv l) (by omega) (by omega)
 rwa [p12_val] at this
end
end Go.Proofs.YtlgnagnmoleeiaaGreat.E.Pc
namespace Go.Proofs.YtlgnagnmoleeiaaGreat.E.Pc
open Go.RowKit
set_option linter.unusedVariables false
set_option linter.unusedSimpArgs false
noncomputable abbrev flV : Func := fnOf PP 3
noncomputable def lvS (p : Pr) (R : List (List V)) (i : Nat) : St := at_ flV [(9, .lp 1 0), (12, .sl R), (13, ni (i : Int))] [.dead, .bx 30 p.v]
def pr0 : Pr := ⟨0, 0, [], [], [], ⟨false, [], false, []⟩, ⟨false, [], false, []⟩, ⟨false, [], false, []⟩, ⟨false, [], false, []⟩, ⟨false, [], false, []⟩⟩
section
variable {l : List Int} {p q raw : Pr} {how by_ : Int} {n i : Nat} {R : List (List V)}
theorem pr0_ok : pr0.Ok where
 id := ⟨by decide, by decide⟩
 home := ⟨by decide, by decide⟩
 r := fun x h => by cases h
 m := fun x h => by cases h
 nr := Nat.zero_le _
 nw := Nat.zero_le _
 nm := Nat.zero_le _
 a := bn_len (Nat.zero_le _) (Nat.zero_le _)
 b := bn_len (Nat.zero_le _) (Nat.zero_le _)
 c := bn_len (Nat.zero_le _) (Nat.zero_le _)
 d := bn_len (Nat.zero_le _) (Nat.zero_le _)
 e := bn_len (Nat.zero_le _) (Nat.zero_le _)
/-- All of the pieces. -/
theorem lv_1 (hR : ∀ (i : Nat) (cs : List V), R[i]? = some cs → ∃ q : Pr, q.Ok ∧ cs = q.v) (hn : R.length ≤ 100) (cv : Pure PP 12 [.ag p.v] (ni 0)) : Gd PP 3 (.v (bo true)) (lp flV 0) (lvS p R 0) := by
 refine Gd.loop (lvS p R) (fun i => i ≤ R.length) (fun i => R.length - i) ?_ 0 (Nat.zero_le _)
 intro i hi ih
 by_cases g : i < R.length
 · have nx := ih (i + 1) g (by omega)
   obtain ⟨cs, hcs, _⟩ := Ct.get_of g
   have hx : decide ((i : Int) < (R.length : Int)) = true := decide_eq_true (by omega)
   unfold lvS at nx ⊢
   obtain ⟨q, ok, rfl⟩ := hR i cs hcs
   obtain ⟨z, c1, c2⟩ := e_vBoth ok
   exact .to mo_ [] [9, 12, 13] [1] 2 [ye hx, .sel _ _ _ hcs, cl c1, .sel _ _ _ hcs, cl c2, na (t := (z != z)) (by simp), inc 46 i (by omega)] nx (by kernel_rfl)
 · have hx : decide ((i : Int) < (R.length : Int)) = false := decide_eq_false (by omega)
   unfold lvS
   exact fi [na hx, cl cv, yt, cl e_lives] (by kernel_rfl) (by kernel_rfl)
theorem l_pvalid (hl : ∀ x ∈ l, W.Is64 x) (hw : W.Is64 how) (hy : W.Is64 by_) (h1 : W.Is64 raw.id) (h2 : W.Is64 raw.home) (h3 : ∀ x ∈ raw.rim, W.Is64 x.1 ∧ W.Is64 x.2) (h4 : ∀ x ∈ raw.marks, W.Is64 x) (up : raw.Up 1048576) : Pure PP 3 [zl l, ni how, ni by_, .ag raw.v] (bo true) := by
 have cp := Ct.e_piece12 hl
 obtain ⟨ok, le, hr, w1, m1⟩ := p12_pr l
 have hlen := p12_len l
 have cv := e_progA (pk_of (p12_ok l)) (by omega) hr w1 m1 (e_valP l)
 rw [if_pos (p12_fine l)] at cv
 generalize Ct.p12 l = pc at *
 have cp : Pure PP 9 [zl l] (.ag (prOf pc).v) := cp
 have cv : Pure PP 12 [.ag (prOf pc).v] (ni 0) := cv
 generalize prOf pc = p at *
 obtain ⟨q, okq, leq, cq⟩ := e_spoiltP ok le (by omega) hw hy
 obtain ⟨r, okr, ler, cr⟩ := e_spoiltP okq leq (by omega) hy hw
 have t14 : -9223372036854775808 ≤ Int.tdiv how 14 ∧ Int.tdiv how 14 ≤ 9223372036854775807 := tdiv_64 hw 14 (by omega)
 have t9 : -9223372036854775808 ≤ Int.tdiv by_ 9 ∧ Int.tdiv by_ 9 ≤ 9223372036854775807 := tdiv_64 hy 9 (by omega)
 obtain ⟨s, oks, les, cs⟩ := e_spoiltP okr ler (by omega) (how := Int.tdiv how 14) (by_ := Int.tdiv by_ 9) ⟨t14.1, t14.2⟩ ⟨t9.1, t9.2⟩
 obtain ⟨t, cf, hf⟩ := e_fewP up
 have hz : ∀ (i : Nat) (cs : List V), [p.v, q.v, r.v, s.v, pr0.v][i]? = some cs → ∃ q : Pr, q.Ok ∧ cs = q.v := fun i cs h => by
  match i with
  | 0 => injection h with h; exact ⟨p, ok, h.symm⟩
  | 1 => injection h with h; exact ⟨q, okq, h.symm⟩
  | 2 => injection h with h; exact ⟨r, okr, h.symm⟩
  | 3 => injection h with h; exact ⟨s, oks, h.symm⟩
  | 4 => injection h with h; exact ⟨pr0, pr0_ok, h.symm⟩
  | n + 5 => simp at h
 cases t with
 | false =>
  have nn := lv_1 (R := [p.v, q.v, r.v, s.v, pr0.v]) hz (Nat.le_of_ble_eq_true rfl) cv
  unfold lvS at nn
  exact pf (by kernel_rfl) (.to mo_ [.fz 12] [9, 12, 13] [1] 2 [cl cp, cl cq, cl cr, wq 29 (Int.tdiv how 14) (Int.tdiv how 14) ⟨rfl, t14.1, t14.2⟩, wq 31 (Int.tdiv by_ 9) (Int.tdiv by_ 9) ⟨rfl, t9.1, t9.2⟩, cl cs, cl cf, nf] nn (by kernel_rfl))
 | true =>
  obtain ⟨k0, ld⟩ := hf rfl
  have okw := few_ok h1 h2 h3 h4 k0 ld
  have hz2 : ∀ (i : Nat) (cs : List V), [p.v, q.v, r.v, s.v, pr0.v, raw.v][i]? = some cs → ∃ q : Pr, q.Ok ∧ cs = q.v := fun i cs h => by
   match i with
   | 0 => injection h with h; exact ⟨p, ok, h.symm⟩
   | 1 => injection h with h; exact ⟨q, okq, h.symm⟩
   | 2 => injection h with h; exact ⟨r, okr, h.symm⟩
   | 3 => injection h with h; exact ⟨s, oks, h.symm⟩
   | 4 => injection h with h; exact ⟨pr0, pr0_ok, h.symm⟩
   | 5 => injection h with h; exact ⟨raw, okw, h.symm⟩
   | n + 6 => simp at h
  have nn := lv_1 (R := [p.v, q.v, r.v, s.v, pr0.v, raw.v]) hz2 (Nat.le_of_ble_eq_true rfl) cv
  unfold lvS at nn
  exact pf (by kernel_rfl) (.to mo_ [.fz 12] [9, 12, 13] [1] 2 [cl cp, cl cq, cl cr, wq 29 (Int.tdiv how 14) (Int.tdiv how 14) ⟨rfl, t14.1, t14.2⟩, wq 31 (Int.tdiv by_ 9) (Int.tdiv by_ 9) ⟨rfl, t9.1, t9.2⟩, cl cs, cl cf, yt, .app [p.v, q.v, r.v, s.v, pr0.v] [raw.v] [p.v, q.v, r.v, s.v, pr0.v, raw.v] 1000 rfl (Nat.le_of_ble_eq_true rfl) (Nat.le_of_ble_eq_true rfl)] nn (by kernel_rfl))
end
end Go.Proofs.YtlgnagnmoleeiaaGreat.E.Pc
namespace Go.Proofs.YtlgnagnmoleeiaaGreat.E
open Go.RowKit
theorem gln_nil : gl = [] := by kernel_rfl
theorem glo_none (w : World) : Glo w (fun _ => False) := fun p hp => by rw [gln_nil] at hp; cases hp
end Go.Proofs.YtlgnagnmoleeiaaGreat.E
