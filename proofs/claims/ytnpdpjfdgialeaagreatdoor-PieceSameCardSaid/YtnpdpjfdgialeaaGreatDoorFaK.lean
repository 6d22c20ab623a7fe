/-
 PIECE: a piece with something changed: each way.
-/
import Derived.Test.YtnpdpjfdgialeaaGreatDoorFaJ
namespace Go.Proofs.YtnpdpjfdgialeaaGreatDoor.E.Pc
open Go.RowKit
set_option linter.unusedVariables false
set_option linter.unusedSimpArgs false
/-- How long the rows are. -/
structure Pr.Le (p : Pr) (n : Nat) : Prop where
 r : p.rim.length ≤ n
 w : p.worn.length ≤ n
 m : p.marks.length ≤ n
section
variable {p q : Pr} {how by_ : Int} {n : Nat}
theorem bn_gen {k : Nat} {r : Rat} (h : Bq k r) : Bn k (ofR r) := by
 have key : ∀ x : Int, I.Bd k x → I.Bd k (I.val (digs x.natAbs)) := fun x hx => by
  rw [(digs_ok _).2]
  unfold I.Bd at *
  simpa using hx
 refine ⟨fun _ => key _ h.1, fun _ => key _ ?_⟩
 by_cases e : r.den = 1
 · rw [dq_one e]
   unfold I.Bd
   exact Nat.two_pow_pos _
 · rw [dq_more e]
   exact h.2
theorem bn_of {r : Rat} (h : Bq 1000 r) : Bn 1000 (ofR r) := bn_gen h
theorem bn_gen1 {k : Nat} (hk : 1 ≤ k) {a : RN} (h : Bn k a) : Bn k ⟨a.s, a.l, false, [1]⟩ := ⟨h.1, fun _ => by
 unfold I.Bd
 show (I.val [1]).natAbs < _
 have : (2 : Nat) ^ 1 ≤ 2 ^ k := Nat.pow_le_pow_right (by omega) hk
 simp only [I.val]
 omega⟩
theorem bn_one {a : RN} (h : Bn 1000 a) : Bn 1000 ⟨a.s, a.l, false, [1]⟩ := bn_gen1 (by omega) h
theorem sp_num (hy : W.Is64 by_) : Bq 1000 (Rat.divInt (rnd by_ 8 - 3) (1 + rnd (Int.tdiv by_ 9) 2)) := by
 have h1 := rnd_in by_ 8
 have h2 := rnd_in (Int.tdiv by_ 9) 2
 exact (bq8 (by omega) (by omega)).mono (by omega)
theorem tdiv_64 {x : Int} (h : W.Is64 x) (m : Nat) (hm : 1 ≤ m) : -9223372036854775808 ≤ Int.tdiv x (m : Int) ∧ Int.tdiv x (m : Int) ≤ 9223372036854775807 := by
 obtain ⟨h1, h2⟩ := h
 by_cases h0 : x = -9223372036854775808 ∧ m = 1
 · obtain ⟨rfl, rfl⟩ := h0; decide
 have h3 : (Int.tdiv x (m : Int)).natAbs = x.natAbs / m := by
  have := Int.natAbs_tdiv x (m : Int)
  rwa [Int.natAbs_natCast] at this
 have h4 : x.natAbs / m ≤ x.natAbs := Nat.div_le_self _ _
 by_cases hx : x = -9223372036854775808
 · subst hx
   have h5 : (Int.natAbs (-9223372036854775808)) / m ≤ (Int.natAbs (-9223372036854775808)) / 2 := Nat.div_le_div_left (by omega) (by omega)
   have h6 : (Int.natAbs (-9223372036854775808)) / 2 = 4611686018427387904 := by decide
   omega
 · omega
theorem pt_set {P : List (Int × Int)} {i : Nat} (x y : Int) : (Ct.ptR P).set i [ni x, ni y] = Ct.ptR (P.set i (x, y)) := by unfold Ct.ptR; rw [List.map_set]
theorem wn_set1 {P : List Bool} {i : Nat} (x : Bool) : (Ct.wnR P).set i [bo x] = Ct.wnR (P.set i x) := by unfold Ct.wnR; rw [List.map_set]
theorem pt_snoc (P : List (Int × Int)) (x y : Int) : Ct.ptR P ++ [[ni x, ni y]] = Ct.ptR (P ++ [(x, y)]) := by unfold Ct.ptR; rw [List.map_append]; rfl
theorem ks_sel {l : List Int} {x : Int} (h0 : 0 ≤ x) (h1 : x < l.length) : ∃ i : Nat, x = (i : Int) ∧ i < l.length ∧ (zs l)[i]? = some [ni (l.getD i 0)] := ⟨x.toNat, by omega, by omega, zs_el (by omega)⟩
theorem sp_w0 (ok : p.Ok) (hn : p.Le n) (h99 : n ≤ 90) (hw : W.Is64 how) (hy : W.Is64 by_) (hc : rnd how 13 = 0) : ∃ q : Pr, q.Ok ∧ q.Le (n + 1) ∧ GSp q (rg fsp 5) (sp5 p how by_) := by
 have o1 := ok.nr; have o2 := ok.nw; have o3 := ok.nm
 have n1 := hn.r; have n2 := hn.w; have n3 := hn.m
 have ch := E.e_around hw 13
 rw [hc] at ch
 have t9 : -9223372036854775808 ≤ Int.tdiv by_ 9 ∧ Int.tdiv by_ 9 ≤ 9223372036854775807 := tdiv_64 hy 9 (by omega)
 have r9 := rnd_in by_ 8
 have r3 := rnd_in (Int.tdiv by_ 9) 2
 have c9 := E.e_around hy 8
 have c3 := E.e_around (n := Int.tdiv by_ 9) ⟨t9.1, t9.2⟩ 2
 have co := e_of4 (x := rnd by_ 8 - 3) (y := 1 + rnd (Int.tdiv by_ 9) 2) ⟨by omega, by omega⟩ ⟨by omega, by omega⟩
 have l1 : (Ct.ptR p.rim).length = p.rim.length := List.length_map ..
 have l2 : (Ct.wnR p.worn).length = p.worn.length := List.length_map ..
 have l3 := zs_len p.marks
 have hbq := sp_num hy
 have ck := E.e_around hy (p.rim.length - 1)
 have hk := rnd_in by_ (p.rim.length - 1)
 have r4 := rnd_in by_ 3
 have c4 := E.e_around hy 3
 obtain ⟨i, hi, hil, hs⟩ := ks_sel (l := [-1, 1000, 999, 0]) (x := rnd by_ 3) r4.1 (by simp; omega)
 rw [hi] at c4
 have hv : W.Is64 (([-1, 1000, 999, 0] : List Int).getD i 0) := by
  have : i < 4 := hil
  match i, this with
  | 0, _ => exact ⟨by decide, by decide⟩
  | 1, _ => exact ⟨by decide, by decide⟩
  | 2, _ => exact ⟨by decide, by decide⟩
  | 3, _ => exact ⟨by decide, by decide⟩
 have m30 : V.k (.int .i64 (if (1 : Int) > (p.rim.length : Int) then 1 else (p.rim.length : Int))) = ni ((p.rim.length - 1 + 1 : Nat) : Int) := by
  show ni _ = _
  congr 2
  congr 1
  split <;> omega
 refine ⟨{ p with id := ([-1, 1000, 999, 0] : List Int).getD i 0 }, { ok with id := hv }, ⟨Nat.le_succ_of_le n1, Nat.le_succ_of_le n2, Nat.le_succ_of_le n3⟩, ?_⟩
 unfold sp5 spS nums GSp Pr.v anyP
 generalize hD : Rat.divInt (rnd by_ 8 - 3) (1 + rnd (Int.tdiv by_ 9) 2) = D at *
 generalize hPR : Ct.ptR p.rim = PR at *
 generalize hWR : Ct.wnR p.worn = WR at *
 generalize rnd by_ (p.rim.length - 1) = kk at *
 generalize ([-1, 1000, 999, 0] : List Int).getD i 0 = X at *
 exact fi ([.eqv 29 (ni (PR.length : Int)) (ni (p.rim.length : Int)) (by rw [l1]), .eqv 30 _ _ m30, cl ck, cl c9, wq 34 (rnd by_ 8 - 3) (rnd by_ 8 - 3) (by omega), wq 36 (Int.tdiv by_ 9) (Int.tdiv by_ 9) ⟨rfl, t9.1, t9.2⟩, cl c3, wq 38 (1 + rnd (Int.tdiv by_ 9) 2) (1 + rnd (Int.tdiv by_ 9) 2) (by omega), cl co, cl ch, yt] ++ [.ro, cl c4, .sel _ _ _ hs]) (by kernel_rfl) (by kernel_rfl)
theorem sp_w1 (ok : p.Ok) (hn : p.Le n) (h99 : n ≤ 90) (hw : W.Is64 how) (hy : W.Is64 by_) (hc : rnd how 13 = 1) : ∃ q : Pr, q.Ok ∧ q.Le (n + 1) ∧ GSp q (rg fsp 5) (sp5 p how by_) := by
 have o1 := ok.nr; have o2 := ok.nw; have o3 := ok.nm
 have n1 := hn.r; have n2 := hn.w; have n3 := hn.m
 have ch := E.e_around hw 13
 rw [hc] at ch
 have t9 : -9223372036854775808 ≤ Int.tdiv by_ 9 ∧ Int.tdiv by_ 9 ≤ 9223372036854775807 := tdiv_64 hy 9 (by omega)
 have r9 := rnd_in by_ 8
 have r3 := rnd_in (Int.tdiv by_ 9) 2
 have c9 := E.e_around hy 8
 have c3 := E.e_around (n := Int.tdiv by_ 9) ⟨t9.1, t9.2⟩ 2
 have co := e_of4 (x := rnd by_ 8 - 3) (y := 1 + rnd (Int.tdiv by_ 9) 2) ⟨by omega, by omega⟩ ⟨by omega, by omega⟩
 have l1 : (Ct.ptR p.rim).length = p.rim.length := List.length_map ..
 have l2 : (Ct.wnR p.worn).length = p.worn.length := List.length_map ..
 have l3 := zs_len p.marks
 have hbq := sp_num hy
 have ck := E.e_around hy (p.rim.length - 1)
 have hk := rnd_in by_ (p.rim.length - 1)
 have r4 := rnd_in by_ 3
 have c4 := E.e_around hy 3
 obtain ⟨i, hi, hil, hs⟩ := ks_sel (l := [-1, 5, 4, 0]) (x := rnd by_ 3) r4.1 (by simp; omega)
 rw [hi] at c4
 have hv : W.Is64 (([-1, 5, 4, 0] : List Int).getD i 0) := by
  have : i < 4 := hil
  match i, this with
  | 0, _ => exact ⟨by decide, by decide⟩
  | 1, _ => exact ⟨by decide, by decide⟩
  | 2, _ => exact ⟨by decide, by decide⟩
  | 3, _ => exact ⟨by decide, by decide⟩
 have m30 : V.k (.int .i64 (if (1 : Int) > (p.rim.length : Int) then 1 else (p.rim.length : Int))) = ni ((p.rim.length - 1 + 1 : Nat) : Int) := by
  show ni _ = _
  congr 2
  congr 1
  split <;> omega
 refine ⟨{ p with home := ([-1, 5, 4, 0] : List Int).getD i 0 }, { ok with home := hv }, ⟨Nat.le_succ_of_le n1, Nat.le_succ_of_le n2, Nat.le_succ_of_le n3⟩, ?_⟩
 unfold sp5 spS nums GSp Pr.v anyP
 generalize hD : Rat.divInt (rnd by_ 8 - 3) (1 + rnd (Int.tdiv by_ 9) 2) = D at *
 generalize hPR : Ct.ptR p.rim = PR at *
 generalize hWR : Ct.wnR p.worn = WR at *
 generalize rnd by_ (p.rim.length - 1) = kk at *
 generalize ([-1, 5, 4, 0] : List Int).getD i 0 = X at *
 exact fi ([.eqv 29 (ni (PR.length : Int)) (ni (p.rim.length : Int)) (by rw [l1]), .eqv 30 _ _ m30, cl ck, cl c9, wq 34 (rnd by_ 8 - 3) (rnd by_ 8 - 3) (by omega), wq 36 (Int.tdiv by_ 9) (Int.tdiv by_ 9) ⟨rfl, t9.1, t9.2⟩, cl c3, wq 38 (1 + rnd (Int.tdiv by_ 9) 2) (1 + rnd (Int.tdiv by_ 9) 2) (by omega), cl co, cl ch, nf, yt] ++ [.ro, cl c4, .sel _ _ _ hs]) (by kernel_rfl) (by kernel_rfl)
theorem sp_w7 (ok : p.Ok) (hn : p.Le n) (h99 : n ≤ 90) (hw : W.Is64 how) (hy : W.Is64 by_) (hc : rnd how 13 = 7) : ∃ q : Pr, q.Ok ∧ q.Le (n + 1) ∧ GSp q (rg fsp 5) (sp5 p how by_) := by
 have o1 := ok.nr; have o2 := ok.nw; have o3 := ok.nm
 have n1 := hn.r; have n2 := hn.w; have n3 := hn.m
 have ch := E.e_around hw 13
 rw [hc] at ch
 have t9 : -9223372036854775808 ≤ Int.tdiv by_ 9 ∧ Int.tdiv by_ 9 ≤ 9223372036854775807 := tdiv_64 hy 9 (by omega)
 have r9 := rnd_in by_ 8
 have r3 := rnd_in (Int.tdiv by_ 9) 2
 have c9 := E.e_around hy 8
 have c3 := E.e_around (n := Int.tdiv by_ 9) ⟨t9.1, t9.2⟩ 2
 have co := e_of4 (x := rnd by_ 8 - 3) (y := 1 + rnd (Int.tdiv by_ 9) 2) ⟨by omega, by omega⟩ ⟨by omega, by omega⟩
 have l1 : (Ct.ptR p.rim).length = p.rim.length := List.length_map ..
 have l2 : (Ct.wnR p.worn).length = p.worn.length := List.length_map ..
 have l3 := zs_len p.marks
 have hbq := sp_num hy
 have ck := E.e_around hy (p.rim.length - 1)
 have hk := rnd_in by_ (p.rim.length - 1)
 have m30 : V.k (.int .i64 (if (1 : Int) > (p.rim.length : Int) then 1 else (p.rim.length : Int))) = ni ((p.rim.length - 1 + 1 : Nat) : Int) := by
  show ni _ = _
  congr 2
  congr 1
  split <;> omega
 refine ⟨{ p with a := ofR (Rat.divInt (rnd by_ 8 - 3) (1 + rnd (Int.tdiv by_ 9) 2)) }, { ok with a := bn_of hbq }, ⟨Nat.le_succ_of_le n1, Nat.le_succ_of_le n2, Nat.le_succ_of_le n3⟩, ?_⟩
 unfold sp5 spS nums GSp Pr.v anyP
 generalize hD : Rat.divInt (rnd by_ 8 - 3) (1 + rnd (Int.tdiv by_ 9) 2) = D at *
 generalize hPR : Ct.ptR p.rim = PR at *
 generalize hWR : Ct.wnR p.worn = WR at *
 generalize rnd by_ (p.rim.length - 1) = kk at *
 exact fi ([.eqv 29 (ni (PR.length : Int)) (ni (p.rim.length : Int)) (by rw [l1]), .eqv 30 _ _ m30, cl ck, cl c9, wq 34 (rnd by_ 8 - 3) (rnd by_ 8 - 3) (by omega), wq 36 (Int.tdiv by_ 9) (Int.tdiv by_ 9) ⟨rfl, t9.1, t9.2⟩, cl c3, wq 38 (1 + rnd (Int.tdiv by_ 9) 2) (1 + rnd (Int.tdiv by_ 9) 2) (by omega), cl co, cl ch, nf, nf, nf, nf, nf, nf, nf, yt]) (by kernel_rfl) (by kernel_rfl)
theorem sp_w8 (ok : p.Ok) (hn : p.Le n) (h99 : n ≤ 90) (hw : W.Is64 how) (hy : W.Is64 by_) (hc : rnd how 13 = 8) : ∃ q : Pr, q.Ok ∧ q.Le (n + 1) ∧ GSp q (rg fsp 5) (sp5 p how by_) := by
 have o1 := ok.nr; have o2 := ok.nw; have o3 := ok.nm
 have n1 := hn.r; have n2 := hn.w; have n3 := hn.m
 have ch := E.e_around hw 13
 rw [hc] at ch
 have t9 : -9223372036854775808 ≤ Int.tdiv by_ 9 ∧ Int.tdiv by_ 9 ≤ 9223372036854775807 := tdiv_64 hy 9 (by omega)
 have r9 := rnd_in by_ 8
 have r3 := rnd_in (Int.tdiv by_ 9) 2
 have c9 := E.e_around hy 8
 have c3 := E.e_around (n := Int.tdiv by_ 9) ⟨t9.1, t9.2⟩ 2
 have co := e_of4 (x := rnd by_ 8 - 3) (y := 1 + rnd (Int.tdiv by_ 9) 2) ⟨by omega, by omega⟩ ⟨by omega, by omega⟩
 have l1 : (Ct.ptR p.rim).length = p.rim.length := List.length_map ..
 have l2 : (Ct.wnR p.worn).length = p.worn.length := List.length_map ..
 have l3 := zs_len p.marks
 have hbq := sp_num hy
 have ck := E.e_around hy (p.rim.length - 1)
 have hk := rnd_in by_ (p.rim.length - 1)
 have m30 : V.k (.int .i64 (if (1 : Int) > (p.rim.length : Int) then 1 else (p.rim.length : Int))) = ni ((p.rim.length - 1 + 1 : Nat) : Int) := by
  show ni _ = _
  congr 2
  congr 1
  split <;> omega
 refine ⟨{ p with b := ofR (Rat.divInt (rnd by_ 8 - 3) (1 + rnd (Int.tdiv by_ 9) 2)) }, { ok with b := bn_of hbq }, ⟨Nat.le_succ_of_le n1, Nat.le_succ_of_le n2, Nat.le_succ_of_le n3⟩, ?_⟩
 unfold sp5 spS nums GSp Pr.v anyP
 generalize hD : Rat.divInt (rnd by_ 8 - 3) (1 + rnd (Int.tdiv by_ 9) 2) = D at *
 generalize hPR : Ct.ptR p.rim = PR at *
 generalize hWR : Ct.wnR p.worn = WR at *
 generalize rnd by_ (p.rim.length - 1) = kk at *
 exact fi ([.eqv 29 (ni (PR.length : Int)) (ni (p.rim.length : Int)) (by rw [l1]), .eqv 30 _ _ m30, cl ck, cl c9, wq 34 (rnd by_ 8 - 3) (rnd by_ 8 - 3) (by omega), wq 36 (Int.tdiv by_ 9) (Int.tdiv by_ 9) ⟨rfl, t9.1, t9.2⟩, cl c3, wq 38 (1 + rnd (Int.tdiv by_ 9) 2) (1 + rnd (Int.tdiv by_ 9) 2) (by omega), cl co, cl ch, nf, nf, nf, nf, nf, nf, nf, nf, yt]) (by kernel_rfl) (by kernel_rfl)
theorem sp_w10 (ok : p.Ok) (hn : p.Le n) (h99 : n ≤ 90) (hw : W.Is64 how) (hy : W.Is64 by_) (hc : rnd how 13 = 10) : ∃ q : Pr, q.Ok ∧ q.Le (n + 1) ∧ GSp q (rg fsp 5) (sp5 p how by_) := by
 have o1 := ok.nr; have o2 := ok.nw; have o3 := ok.nm
 have n1 := hn.r; have n2 := hn.w; have n3 := hn.m
 have ch := E.e_around hw 13
 rw [hc] at ch
 have t9 : -9223372036854775808 ≤ Int.tdiv by_ 9 ∧ Int.tdiv by_ 9 ≤ 9223372036854775807 := tdiv_64 hy 9 (by omega)
 have r9 := rnd_in by_ 8
 have r3 := rnd_in (Int.tdiv by_ 9) 2
 have c9 := E.e_around hy 8
 have c3 := E.e_around (n := Int.tdiv by_ 9) ⟨t9.1, t9.2⟩ 2
 have co := e_of4 (x := rnd by_ 8 - 3) (y := 1 + rnd (Int.tdiv by_ 9) 2) ⟨by omega, by omega⟩ ⟨by omega, by omega⟩
 have l1 : (Ct.ptR p.rim).length = p.rim.length := List.length_map ..
 have l2 : (Ct.wnR p.worn).length = p.worn.length := List.length_map ..
 have l3 := zs_len p.marks
 have hbq := sp_num hy
 have ck := E.e_around hy (p.rim.length - 1)
 have hk := rnd_in by_ (p.rim.length - 1)
 have m30 : V.k (.int .i64 (if (1 : Int) > (p.rim.length : Int) then 1 else (p.rim.length : Int))) = ni ((p.rim.length - 1 + 1 : Nat) : Int) := by
  show ni _ = _
  congr 2
  congr 1
  split <;> omega
 refine ⟨{ p with d := ofR (Rat.divInt (rnd by_ 8 - 3) (1 + rnd (Int.tdiv by_ 9) 2)) }, { ok with d := bn_of hbq }, ⟨Nat.le_succ_of_le n1, Nat.le_succ_of_le n2, Nat.le_succ_of_le n3⟩, ?_⟩
 unfold sp5 spS nums GSp Pr.v anyP
 generalize hD : Rat.divInt (rnd by_ 8 - 3) (1 + rnd (Int.tdiv by_ 9) 2) = D at *
 generalize hPR : Ct.ptR p.rim = PR at *
 generalize hWR : Ct.wnR p.worn = WR at *
 generalize rnd by_ (p.rim.length - 1) = kk at *
 exact fi ([.eqv 29 (ni (PR.length : Int)) (ni (p.rim.length : Int)) (by rw [l1]), .eqv 30 _ _ m30, cl ck, cl c9, wq 34 (rnd by_ 8 - 3) (rnd by_ 8 - 3) (by omega), wq 36 (Int.tdiv by_ 9) (Int.tdiv by_ 9) ⟨rfl, t9.1, t9.2⟩, cl c3, wq 38 (1 + rnd (Int.tdiv by_ 9) 2) (1 + rnd (Int.tdiv by_ 9) 2) (by omega), cl co, cl ch, nf, nf, nf, nf, nf, nf, nf, nf, nf, nf, yt]) (by kernel_rfl) (by kernel_rfl)
theorem sp_w11 (ok : p.Ok) (hn : p.Le n) (h99 : n ≤ 90) (hw : W.Is64 how) (hy : W.Is64 by_) (hc : rnd how 13 = 11) : ∃ q : Pr, q.Ok ∧ q.Le (n + 1) ∧ GSp q (rg fsp 5) (sp5 p how by_) := by
 have o1 := ok.nr; have o2 := ok.nw; have o3 := ok.nm
 have n1 := hn.r; have n2 := hn.w; have n3 := hn.m
 have ch := E.e_around hw 13
 rw [hc] at ch
 have t9 : -9223372036854775808 ≤ Int.tdiv by_ 9 ∧ Int.tdiv by_ 9 ≤ 9223372036854775807 := tdiv_64 hy 9 (by omega)
 have r9 := rnd_in by_ 8
 have r3 := rnd_in (Int.tdiv by_ 9) 2
 have c9 := E.e_around hy 8
 have c3 := E.e_around (n := Int.tdiv by_ 9) ⟨t9.1, t9.2⟩ 2
 have co := e_of4 (x := rnd by_ 8 - 3) (y := 1 + rnd (Int.tdiv by_ 9) 2) ⟨by omega, by omega⟩ ⟨by omega, by omega⟩
 have l1 : (Ct.ptR p.rim).length = p.rim.length := List.length_map ..
 have l2 : (Ct.wnR p.worn).length = p.worn.length := List.length_map ..
 have l3 := zs_len p.marks
 have hbq := sp_num hy
 have ck := E.e_around hy (p.rim.length - 1)
 have hk := rnd_in by_ (p.rim.length - 1)
 have m30 : V.k (.int .i64 (if (1 : Int) > (p.rim.length : Int) then 1 else (p.rim.length : Int))) = ni ((p.rim.length - 1 + 1 : Nat) : Int) := by
  show ni _ = _
  congr 2
  congr 1
  split <;> omega
 refine ⟨{ p with e := ofR (Rat.divInt (rnd by_ 8 - 3) (1 + rnd (Int.tdiv by_ 9) 2)) }, { ok with e := bn_of hbq }, ⟨Nat.le_succ_of_le n1, Nat.le_succ_of_le n2, Nat.le_succ_of_le n3⟩, ?_⟩
 unfold sp5 spS nums GSp Pr.v anyP
 generalize hD : Rat.divInt (rnd by_ 8 - 3) (1 + rnd (Int.tdiv by_ 9) 2) = D at *
 generalize hPR : Ct.ptR p.rim = PR at *
 generalize hWR : Ct.wnR p.worn = WR at *
 generalize rnd by_ (p.rim.length - 1) = kk at *
 exact fi ([.eqv 29 (ni (PR.length : Int)) (ni (p.rim.length : Int)) (by rw [l1]), .eqv 30 _ _ m30, cl ck, cl c9, wq 34 (rnd by_ 8 - 3) (rnd by_ 8 - 3) (by omega), wq 36 (Int.tdiv by_ 9) (Int.tdiv by_ 9) ⟨rfl, t9.1, t9.2⟩, cl c3, wq 38 (1 + rnd (Int.tdiv by_ 9) 2) (1 + rnd (Int.tdiv by_ 9) 2) (by omega), cl co, cl ch, nf, nf, nf, nf, nf, nf, nf, nf, nf, nf, nf, yt]) (by kernel_rfl) (by kernel_rfl)
theorem sp_w12 (ok : p.Ok) (hn : p.Le n) (h99 : n ≤ 90) (hw : W.Is64 how) (hy : W.Is64 by_) (hc : rnd how 13 = 12) : ∃ q : Pr, q.Ok ∧ q.Le (n + 1) ∧ GSp q (rg fsp 5) (sp5 p how by_) := by
 have o1 := ok.nr; have o2 := ok.nw; have o3 := ok.nm
 have n1 := hn.r; have n2 := hn.w; have n3 := hn.m
 have ch := E.e_around hw 13
 rw [hc] at ch
 have t9 : -9223372036854775808 ≤ Int.tdiv by_ 9 ∧ Int.tdiv by_ 9 ≤ 9223372036854775807 := tdiv_64 hy 9 (by omega)
 have r9 := rnd_in by_ 8
 have r3 := rnd_in (Int.tdiv by_ 9) 2
 have c9 := E.e_around hy 8
 have c3 := E.e_around (n := Int.tdiv by_ 9) ⟨t9.1, t9.2⟩ 2
 have co := e_of4 (x := rnd by_ 8 - 3) (y := 1 + rnd (Int.tdiv by_ 9) 2) ⟨by omega, by omega⟩ ⟨by omega, by omega⟩
 have l1 : (Ct.ptR p.rim).length = p.rim.length := List.length_map ..
 have l2 : (Ct.wnR p.worn).length = p.worn.length := List.length_map ..
 have l3 := zs_len p.marks
 have hbq := sp_num hy
 have ck := E.e_around hy (p.rim.length - 1)
 have hk := rnd_in by_ (p.rim.length - 1)
 have m30 : V.k (.int .i64 (if (1 : Int) > (p.rim.length : Int) then 1 else (p.rim.length : Int))) = ni ((p.rim.length - 1 + 1 : Nat) : Int) := by
  show ni _ = _
  congr 2
  congr 1
  split <;> omega
 refine ⟨{ p with e := ⟨p.e.s, p.e.l, false, [1]⟩ }, { ok with e := bn_one ok.e }, ⟨Nat.le_succ_of_le n1, Nat.le_succ_of_le n2, Nat.le_succ_of_le n3⟩, ?_⟩
 unfold sp5 spS nums GSp Pr.v anyP
 generalize hD : Rat.divInt (rnd by_ 8 - 3) (1 + rnd (Int.tdiv by_ 9) 2) = D at *
 generalize hPR : Ct.ptR p.rim = PR at *
 generalize hWR : Ct.wnR p.worn = WR at *
 generalize rnd by_ (p.rim.length - 1) = kk at *
 exact fi ([.eqv 29 (ni (PR.length : Int)) (ni (p.rim.length : Int)) (by rw [l1]), .eqv 30 _ _ m30, cl ck, cl c9, wq 34 (rnd by_ 8 - 3) (rnd by_ 8 - 3) (by omega), wq 36 (Int.tdiv by_ 9) (Int.tdiv by_ 9) ⟨rfl, t9.1, t9.2⟩, cl c3, wq 38 (1 + rnd (Int.tdiv by_ 9) 2) (1 + rnd (Int.tdiv by_ 9) 2) (by omega), cl co, cl ch, nf, nf, nf, nf, nf, nf, nf, nf, nf, nf, nf, nf, yt] ++ [.ro]) (by kernel_rfl) (by kernel_rfl)
end
end Go.Proofs.YtnpdpjfdgialeaaGreatDoor.E.Pc
