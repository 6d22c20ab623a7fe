/-
 PIECE: a piece with something changed.
-/
import Derived.Test.YtnpdpjfdgialeaaGreatDoorFaK
import Derived.Test.YtnpdpjfdgialeaaGreatDoorEwB
namespace Go.Proofs.YtnpdpjfdgialeaaGreatDoor.E.Pc
open Go.RowKit
set_option linter.unusedVariables false
set_option linter.unusedSimpArgs false
section
variable {p q : Pr} {how by_ : Int} {n : Nat}
theorem sp_w2 (ok : p.Ok) (hn : p.Le n) (h99 : n ≤ 90) (hw : W.Is64 how) (hy : W.Is64 by_) (hc : rnd how 13 = 2) : ∃ q : Pr, q.Ok ∧ q.Le (n + 1) ∧ GSp q (rg fsp 5) (sp5 p how by_) := by
 have o1 := ok.nr; have o2 := ok.nw; have o3 := ok.nm
 have n1 := hn.r; have n2 := hn.w; have n3 := hn.m
 have ch := E.e_around hw 13
 rw [hc] at ch
 have t9 : -9223372036854775808 ≤ Int.tdiv by_ 9 ∧ Int.tdiv by_ 9 ≤ 9223372036854775807 := tdiv_64 hy 9 (by omega)
 have r9 := rnd_in by_ 8
 have r3 := rnd_in (Int.tdiv by_ 9) 2
 have c9 := E.e_around hy 8
 have c3 := E.e_around (n := Int.tdiv by_ 9) ⟨t9.1, t9.2⟩ 2
 have co := e_of4 (x := rnd by_ 8 - 3) (y := 1 + rnd (Int.tdiv by_ 9) 2) ⟨by omega, by omega⟩ ⟨by omega, by omega⟩
 have l1 : (Ct.ptR p.rim).length = p.rim.length := List.length_map ..
 have l2 : (Ct.wnR p.worn).length = p.worn.length := List.length_map ..
 have l3 := zs_len p.marks
 have hbq := sp_num hy
 have ck := E.e_around hy (p.rim.length - 1)
 have hk := rnd_in by_ (p.rim.length - 1)
 have m30 : V.k (.int .i64 (if (1 : Int) > (p.rim.length : Int) then 1 else (p.rim.length : Int))) = ni ((p.rim.length - 1 + 1 : Nat) : Int) := by
  show ni _ = _
  congr 2
  congr 1
  split <;> omega
 by_cases g : 0 < p.rim.length
 · skip
   have t5 : -9223372036854775808 ≤ Int.tdiv by_ 5 ∧ Int.tdiv by_ 5 ≤ 9223372036854775807 := tdiv_64 hy 5 (by omega)
   have c5 := E.e_around (n := Int.tdiv by_ 5) ⟨t5.1, t5.2⟩ 5
   have r5 := rnd_in (Int.tdiv by_ 5) 5
   obtain ⟨i, hi, hil, hs⟩ := ks_sel (l := [65536, 65537, -65536, -65537, 1, 2]) (x := rnd (Int.tdiv by_ 5) 5) r5.1 (by simp; omega)
   rw [hi] at c5
   obtain ⟨j, hj⟩ : ∃ j : Nat, rnd by_ (p.rim.length - 1) = (j : Int) := ⟨(rnd by_ (p.rim.length - 1)).toNat, by omega⟩
   rw [hj] at ck hk
   have he := cpt_at (P := p.rim) (q := j) (by omega)
   have hset := pt_set (P := p.rim) (i := j) (([65536, 65537, -65536, -65537, 1, 2] : List Int).getD i 0) (rnd by_ 8)
   have hX : W.Is64 (([65536, 65537, -65536, -65537, 1, 2] : List Int).getD i 0) := by
    have : i < 6 := hil
    match i, this with
    | 0, _ => exact ⟨by decide, by decide⟩
    | 1, _ => exact ⟨by decide, by decide⟩
    | 2, _ => exact ⟨by decide, by decide⟩
    | 3, _ => exact ⟨by decide, by decide⟩
    | 4, _ => exact ⟨by decide, by decide⟩
    | 5, _ => exact ⟨by decide, by decide⟩
   have hr2 : ∀ x ∈ p.rim.set j (([65536, 65537, -65536, -65537, 1, 2] : List Int).getD i 0, rnd by_ 8), W.Is64 x.1 ∧ W.Is64 x.2 := fun x hx => by
    rcases List.mem_or_eq_of_mem_set hx with h | rfl
    · exact ok.r x h
    · exact ⟨hX, ⟨by show _ ≤ rnd by_ 8; omega, by show rnd by_ 8 ≤ _; omega⟩⟩
   refine ⟨{ p with rim := p.rim.set j (([65536, 65537, -65536, -65537, 1, 2] : List Int).getD i 0, rnd by_ 8) }, { ok with r := hr2, nr := (by show (p.rim.set _ _).length ≤ _; rw [List.length_set]; exact o1) }, ⟨(by show (p.rim.set _ _).length ≤ _; rw [List.length_set]; exact Nat.le_succ_of_le n1), Nat.le_succ_of_le n2, Nat.le_succ_of_le n3⟩, ?_⟩
   unfold sp5 spS nums GSp Pr.v anyP
   generalize hD : Rat.divInt (rnd by_ 8 - 3) (1 + rnd (Int.tdiv by_ 9) 2) = D at *
   generalize hPR : Ct.ptR p.rim = PR at *
   generalize hWR : Ct.wnR p.worn = WR at *
   generalize rnd by_ (p.rim.length - 1) = kk at *
   generalize ([65536, 65537, -65536, -65537, 1, 2] : List Int).getD i 0 = X at *
   generalize Ct.ptR (p.rim.set j (X, rnd by_ 8)) = PR2 at *
   exact fi ([.eqv 29 (ni (PR.length : Int)) (ni (p.rim.length : Int)) (by rw [l1]), .eqv 30 _ _ m30, cl ck, cl c9, wq 34 (rnd by_ 8 - 3) (rnd by_ 8 - 3) (by omega), wq 36 (Int.tdiv by_ 9) (Int.tdiv by_ 9) ⟨rfl, t9.1, t9.2⟩, cl c3, wq 38 (1 + rnd (Int.tdiv by_ 9) 2) (1 + rnd (Int.tdiv by_ 9) 2) (by omega), cl co, cl ch, nf, nf, yt] ++ [.eqv 74 (ni (PR.length : Int)) (ni (p.rim.length : Int)) (by rw [l1]), ye (t := decide ((p.rim.length : Int) > 0)) (decide_eq_true (by omega)), .ro, wq 81 (Int.tdiv by_ 5) (Int.tdiv by_ 5) ⟨rfl, t5.1, t5.2⟩, cl c5, .sel _ _ _ hs, cl c9, .sel _ _ _ he, .upd _ _ _ _ _ he hset]) (by kernel_rfl) (by kernel_rfl)
 · skip
   refine ⟨p, ok, ⟨Nat.le_succ_of_le n1, Nat.le_succ_of_le n2, Nat.le_succ_of_le n3⟩, ?_⟩
   unfold sp5 spS nums GSp Pr.v anyP
   generalize hD : Rat.divInt (rnd by_ 8 - 3) (1 + rnd (Int.tdiv by_ 9) 2) = D at *
   generalize hPR : Ct.ptR p.rim = PR at *
   generalize hWR : Ct.wnR p.worn = WR at *
   generalize rnd by_ (p.rim.length - 1) = kk at *
   exact fi ([.eqv 29 (ni (PR.length : Int)) (ni (p.rim.length : Int)) (by rw [l1]), .eqv 30 _ _ m30, cl ck, cl c9, wq 34 (rnd by_ 8 - 3) (rnd by_ 8 - 3) (by omega), wq 36 (Int.tdiv by_ 9) (Int.tdiv by_ 9) ⟨rfl, t9.1, t9.2⟩, cl c3, wq 38 (1 + rnd (Int.tdiv by_ 9) 2) (1 + rnd (Int.tdiv by_ 9) 2) (by omega), cl co, cl ch, nf, nf, yt] ++ [.eqv 74 (ni (PR.length : Int)) (ni (p.rim.length : Int)) (by rw [l1]), na (t := decide ((p.rim.length : Int) > 0)) (decide_eq_false (by omega))]) (by kernel_rfl) (by kernel_rfl)
theorem sp_w3 (ok : p.Ok) (hn : p.Le n) (h99 : n ≤ 90) (hw : W.Is64 how) (hy : W.Is64 by_) (hc : rnd how 13 = 3) : ∃ q : Pr, q.Ok ∧ q.Le (n + 1) ∧ GSp q (rg fsp 5) (sp5 p how by_) := by
 have o1 := ok.nr; have o2 := ok.nw; have o3 := ok.nm
 have n1 := hn.r; have n2 := hn.w; have n3 := hn.m
 have ch := E.e_around hw 13
 rw [hc] at ch
 have t9 : -9223372036854775808 ≤ Int.tdiv by_ 9 ∧ Int.tdiv by_ 9 ≤ 9223372036854775807 := tdiv_64 hy 9 (by omega)
 have r9 := rnd_in by_ 8
 have r3 := rnd_in (Int.tdiv by_ 9) 2
 have c9 := E.e_around hy 8
 have c3 := E.e_around (n := Int.tdiv by_ 9) ⟨t9.1, t9.2⟩ 2
 have co := e_of4 (x := rnd by_ 8 - 3) (y := 1 + rnd (Int.tdiv by_ 9) 2) ⟨by omega, by omega⟩ ⟨by omega, by omega⟩
 have l1 : (Ct.ptR p.rim).length = p.rim.length := List.length_map ..
 have l2 : (Ct.wnR p.worn).length = p.worn.length := List.length_map ..
 have l3 := zs_len p.marks
 have hbq := sp_num hy
 have ck := E.e_around hy (p.rim.length - 1)
 have hk := rnd_in by_ (p.rim.length - 1)
 have c8 := E.e_around (n := Int.tdiv by_ 9) ⟨t9.1, t9.2⟩ 8
 have r8 := rnd_in (Int.tdiv by_ 9) 8
 have happ := pt_snoc p.rim (rnd by_ 8) (rnd (Int.tdiv by_ 9) 8)
 have hpl : (Ct.ptR (p.rim ++ [(rnd by_ 8, rnd (Int.tdiv by_ 9) 8)])).length ≤ 1000 := by
  have : (Ct.ptR (p.rim ++ [(rnd by_ 8, rnd (Int.tdiv by_ 9) 8)])).length = (p.rim ++ [(rnd by_ 8, rnd (Int.tdiv by_ 9) 8)]).length := List.length_map ..
  rw [this, List.length_append]
  simp
  omega
 have hr2 : ∀ x ∈ p.rim ++ [(rnd by_ 8, rnd (Int.tdiv by_ 9) 8)], W.Is64 x.1 ∧ W.Is64 x.2 := fun x hx => by
  rcases List.mem_append.1 hx with h | h
  · exact ok.r x h
  · simp only [List.mem_singleton] at h
    subst h
    exact ⟨⟨by show _ ≤ rnd by_ 8; omega, by show rnd by_ 8 ≤ _; omega⟩, ⟨by show _ ≤ rnd (Int.tdiv by_ 9) 8; omega, by show rnd (Int.tdiv by_ 9) 8 ≤ _; omega⟩⟩
 have m30 : V.k (.int .i64 (if (1 : Int) > (p.rim.length : Int) then 1 else (p.rim.length : Int))) = ni ((p.rim.length - 1 + 1 : Nat) : Int) := by
  show ni _ = _
  congr 2
  congr 1
  split <;> omega
 refine ⟨{ p with rim := p.rim ++ [(rnd by_ 8, rnd (Int.tdiv by_ 9) 8)] }, { ok with r := hr2, nr := (by show (p.rim ++ _).length ≤ _; rw [List.length_append]; simp; omega) }, ⟨(by show (p.rim ++ _).length ≤ _; rw [List.length_append]; simp; omega), Nat.le_succ_of_le n2, Nat.le_succ_of_le n3⟩, ?_⟩
 unfold sp5 spS nums GSp Pr.v anyP
 generalize hD : Rat.divInt (rnd by_ 8 - 3) (1 + rnd (Int.tdiv by_ 9) 2) = D at *
 generalize hPR : Ct.ptR p.rim = PR at *
 generalize hWR : Ct.wnR p.worn = WR at *
 generalize rnd by_ (p.rim.length - 1) = kk at *
 generalize Ct.ptR (p.rim ++ [(rnd by_ 8, rnd (Int.tdiv by_ 9) 8)]) = PR2 at *
 exact fi ([.eqv 29 (ni (PR.length : Int)) (ni (p.rim.length : Int)) (by rw [l1]), .eqv 30 _ _ m30, cl ck, cl c9, wq 34 (rnd by_ 8 - 3) (rnd by_ 8 - 3) (by omega), wq 36 (Int.tdiv by_ 9) (Int.tdiv by_ 9) ⟨rfl, t9.1, t9.2⟩, cl c3, wq 38 (1 + rnd (Int.tdiv by_ 9) 2) (1 + rnd (Int.tdiv by_ 9) 2) (by omega), cl co, cl ch, nf, nf, nf, yt] ++ [cl c9, wq 96 (Int.tdiv by_ 9) (Int.tdiv by_ 9) ⟨rfl, t9.1, t9.2⟩, cl c8, .app _ _ _ 1000 happ (show 0 < 1 by decide) hpl]) (by kernel_rfl) (by kernel_rfl)
theorem sp_w5 (ok : p.Ok) (hn : p.Le n) (h99 : n ≤ 90) (hw : W.Is64 how) (hy : W.Is64 by_) (hc : rnd how 13 = 5) : ∃ q : Pr, q.Ok ∧ q.Le (n + 1) ∧ GSp q (rg fsp 5) (sp5 p how by_) := by
 have o1 := ok.nr; have o2 := ok.nw; have o3 := ok.nm
 have n1 := hn.r; have n2 := hn.w; have n3 := hn.m
 have ch := E.e_around hw 13
 rw [hc] at ch
 have t9 : -9223372036854775808 ≤ Int.tdiv by_ 9 ∧ Int.tdiv by_ 9 ≤ 9223372036854775807 := tdiv_64 hy 9 (by omega)
 have r9 := rnd_in by_ 8
 have r3 := rnd_in (Int.tdiv by_ 9) 2
 have c9 := E.e_around hy 8
 have c3 := E.e_around (n := Int.tdiv by_ 9) ⟨t9.1, t9.2⟩ 2
 have co := e_of4 (x := rnd by_ 8 - 3) (y := 1 + rnd (Int.tdiv by_ 9) 2) ⟨by omega, by omega⟩ ⟨by omega, by omega⟩
 have l1 : (Ct.ptR p.rim).length = p.rim.length := List.length_map ..
 have l2 : (Ct.wnR p.worn).length = p.worn.length := List.length_map ..
 have l3 := zs_len p.marks
 have hbq := sp_num hy
 have ck := E.e_around hy (p.rim.length - 1)
 have hk := rnd_in by_ (p.rim.length - 1)
 have c2 := E.e_around hy 2
 have r2 := rnd_in by_ 2
 have happ := zs_one p.marks (rnd by_ 2)
 have hpl : (zs (p.marks ++ [rnd by_ 2])).length ≤ 1000 := by
  rw [zs_len, List.length_append]
  simp
  omega
 have hm2 : ∀ x ∈ p.marks ++ [rnd by_ 2], W.Is64 x := fun x hx => by
  rcases List.mem_append.1 hx with h | h
  · exact ok.m x h
  · simp only [List.mem_singleton] at h
    subst h
    exact ⟨by omega, by omega⟩
 have m30 : V.k (.int .i64 (if (1 : Int) > (p.rim.length : Int) then 1 else (p.rim.length : Int))) = ni ((p.rim.length - 1 + 1 : Nat) : Int) := by
  show ni _ = _
  congr 2
  congr 1
  split <;> omega
 refine ⟨{ p with marks := p.marks ++ [rnd by_ 2] }, { ok with m := hm2, nm := (by show (p.marks ++ _).length ≤ _; rw [List.length_append]; simp; omega) }, ⟨Nat.le_succ_of_le n1, Nat.le_succ_of_le n2, (by show (p.marks ++ _).length ≤ _; rw [List.length_append]; simp; omega)⟩, ?_⟩
 unfold sp5 spS nums GSp Pr.v anyP
 generalize hD : Rat.divInt (rnd by_ 8 - 3) (1 + rnd (Int.tdiv by_ 9) 2) = D at *
 generalize hPR : Ct.ptR p.rim = PR at *
 generalize hWR : Ct.wnR p.worn = WR at *
 generalize rnd by_ (p.rim.length - 1) = kk at *
 exact fi ([.eqv 29 (ni (PR.length : Int)) (ni (p.rim.length : Int)) (by rw [l1]), .eqv 30 _ _ m30, cl ck, cl c9, wq 34 (rnd by_ 8 - 3) (rnd by_ 8 - 3) (by omega), wq 36 (Int.tdiv by_ 9) (Int.tdiv by_ 9) ⟨rfl, t9.1, t9.2⟩, cl c3, wq 38 (1 + rnd (Int.tdiv by_ 9) 2) (1 + rnd (Int.tdiv by_ 9) 2) (by omega), cl co, cl ch, nf, nf, nf, nf, nf, yt] ++ [cl c2, .app _ _ _ 1000 happ (show 0 < 1 by decide) hpl]) (by kernel_rfl) (by kernel_rfl)
theorem sp_w6 (ok : p.Ok) (hn : p.Le n) (h99 : n ≤ 90) (hw : W.Is64 how) (hy : W.Is64 by_) (hc : rnd how 13 = 6) : ∃ q : Pr, q.Ok ∧ q.Le (n + 1) ∧ GSp q (rg fsp 5) (sp5 p how by_) := by
 have o1 := ok.nr; have o2 := ok.nw; have o3 := ok.nm
 have n1 := hn.r; have n2 := hn.w; have n3 := hn.m
 have ch := E.e_around hw 13
 rw [hc] at ch
 have t9 : -9223372036854775808 ≤ Int.tdiv by_ 9 ∧ Int.tdiv by_ 9 ≤ 9223372036854775807 := tdiv_64 hy 9 (by omega)
 have r9 := rnd_in by_ 8
 have r3 := rnd_in (Int.tdiv by_ 9) 2
 have c9 := E.e_around hy 8
 have c3 := E.e_around (n := Int.tdiv by_ 9) ⟨t9.1, t9.2⟩ 2
 have co := e_of4 (x := rnd by_ 8 - 3) (y := 1 + rnd (Int.tdiv by_ 9) 2) ⟨by omega, by omega⟩ ⟨by omega, by omega⟩
 have l1 : (Ct.ptR p.rim).length = p.rim.length := List.length_map ..
 have l2 : (Ct.wnR p.worn).length = p.worn.length := List.length_map ..
 have l3 := zs_len p.marks
 have hbq := sp_num hy
 have ck := E.e_around hy (p.rim.length - 1)
 have hk := rnd_in by_ (p.rim.length - 1)
 have m30 : V.k (.int .i64 (if (1 : Int) > (p.rim.length : Int) then 1 else (p.rim.length : Int))) = ni ((p.rim.length - 1 + 1 : Nat) : Int) := by
  show ni _ = _
  congr 2
  congr 1
  split <;> omega
 by_cases g : 0 < p.marks.length
 · skip
   have c4 := E.e_around hy 4
   have r4 := rnd_in by_ 4
   obtain ⟨i, hi, hil, hs⟩ := ks_sel (l := [-1, 1025, 1024, 0, 7]) (x := rnd by_ 4) r4.1 (by simp; omega)
   rw [hi] at c4
   have he := zs_el (l := p.marks) (i := 0) g
   have hset := zs_set p.marks 0 (([-1, 1025, 1024, 0, 7] : List Int).getD i 0)
   have hX : W.Is64 (([-1, 1025, 1024, 0, 7] : List Int).getD i 0) := by
    have : i < 5 := hil
    match i, this with
    | 0, _ => exact ⟨by decide, by decide⟩
    | 1, _ => exact ⟨by decide, by decide⟩
    | 2, _ => exact ⟨by decide, by decide⟩
    | 3, _ => exact ⟨by decide, by decide⟩
    | 4, _ => exact ⟨by decide, by decide⟩
   have hm2 : ∀ x ∈ p.marks.set 0 (([-1, 1025, 1024, 0, 7] : List Int).getD i 0), W.Is64 x := fun x hx => by
    rcases List.mem_or_eq_of_mem_set hx with h | rfl
    · exact ok.m x h
    · exact hX
   refine ⟨{ p with marks := p.marks.set 0 (([-1, 1025, 1024, 0, 7] : List Int).getD i 0) }, { ok with m := hm2, nm := (by show (p.marks.set _ _).length ≤ _; rw [List.length_set]; exact o3) }, ⟨Nat.le_succ_of_le n1, Nat.le_succ_of_le n2, (by show (p.marks.set _ _).length ≤ _; rw [List.length_set]; exact Nat.le_succ_of_le n3)⟩, ?_⟩
   unfold sp5 spS nums GSp Pr.v anyP
   generalize hD : Rat.divInt (rnd by_ 8 - 3) (1 + rnd (Int.tdiv by_ 9) 2) = D at *
   generalize hPR : Ct.ptR p.rim = PR at *
   generalize hWR : Ct.wnR p.worn = WR at *
   generalize rnd by_ (p.rim.length - 1) = kk at *
   generalize ([-1, 1025, 1024, 0, 7] : List Int).getD i 0 = X at *
   exact fi ([.eqv 29 (ni (PR.length : Int)) (ni (p.rim.length : Int)) (by rw [l1]), .eqv 30 _ _ m30, cl ck, cl c9, wq 34 (rnd by_ 8 - 3) (rnd by_ 8 - 3) (by omega), wq 36 (Int.tdiv by_ 9) (Int.tdiv by_ 9) ⟨rfl, t9.1, t9.2⟩, cl c3, wq 38 (1 + rnd (Int.tdiv by_ 9) 2) (1 + rnd (Int.tdiv by_ 9) 2) (by omega), cl co, cl ch, nf, nf, nf, nf, nf, nf, yt] ++ [.eqv 125 (ni ((zs p.marks).length : Int)) (ni (p.marks.length : Int)) (by rw [l3]), ye (t := decide ((p.marks.length : Int) > 0)) (decide_eq_true (by omega)), .ro, cl c4, .sel _ _ _ hs, .sel _ _ _ he, .upd _ _ _ _ _ he hset]) (by kernel_rfl) (by kernel_rfl)
 · skip
   refine ⟨p, ok, ⟨Nat.le_succ_of_le n1, Nat.le_succ_of_le n2, Nat.le_succ_of_le n3⟩, ?_⟩
   unfold sp5 spS nums GSp Pr.v anyP
   generalize hD : Rat.divInt (rnd by_ 8 - 3) (1 + rnd (Int.tdiv by_ 9) 2) = D at *
   generalize hPR : Ct.ptR p.rim = PR at *
   generalize hWR : Ct.wnR p.worn = WR at *
   generalize rnd by_ (p.rim.length - 1) = kk at *
   exact fi ([.eqv 29 (ni (PR.length : Int)) (ni (p.rim.length : Int)) (by rw [l1]), .eqv 30 _ _ m30, cl ck, cl c9, wq 34 (rnd by_ 8 - 3) (rnd by_ 8 - 3) (by omega), wq 36 (Int.tdiv by_ 9) (Int.tdiv by_ 9) ⟨rfl, t9.1, t9.2⟩, cl c3, wq 38 (1 + rnd (Int.tdiv by_ 9) 2) (1 + rnd (Int.tdiv by_ 9) 2) (by omega), cl co, cl ch, nf, nf, nf, nf, nf, nf, yt] ++ [.eqv 125 (ni ((zs p.marks).length : Int)) (ni (p.marks.length : Int)) (by rw [l3]), na (t := decide ((p.marks.length : Int) > 0)) (decide_eq_false (by omega))]) (by kernel_rfl) (by kernel_rfl)
theorem sp_w9 (ok : p.Ok) (hn : p.Le n) (h99 : n ≤ 90) (hw : W.Is64 how) (hy : W.Is64 by_) (hc : rnd how 13 = 9) : ∃ q : Pr, q.Ok ∧ q.Le (n + 1) ∧ GSp q (rg fsp 5) (sp5 p how by_) := by
 have o1 := ok.nr; have o2 := ok.nw; have o3 := ok.nm
 have n1 := hn.r; have n2 := hn.w; have n3 := hn.m
 have ch := E.e_around hw 13
 rw [hc] at ch
 have t9 : -9223372036854775808 ≤ Int.tdiv by_ 9 ∧ Int.tdiv by_ 9 ≤ 9223372036854775807 := tdiv_64 hy 9 (by omega)
 have r9 := rnd_in by_ 8
 have r3 := rnd_in (Int.tdiv by_ 9) 2
 have c9 := E.e_around hy 8
 have c3 := E.e_around (n := Int.tdiv by_ 9) ⟨t9.1, t9.2⟩ 2
 have co := e_of4 (x := rnd by_ 8 - 3) (y := 1 + rnd (Int.tdiv by_ 9) 2) ⟨by omega, by omega⟩ ⟨by omega, by omega⟩
 have l1 : (Ct.ptR p.rim).length = p.rim.length := List.length_map ..
 have l2 : (Ct.wnR p.worn).length = p.worn.length := List.length_map ..
 have l3 := zs_len p.marks
 have hbq := sp_num hy
 have ck := E.e_around hy (p.rim.length - 1)
 have hk := rnd_in by_ (p.rim.length - 1)
 have c2 := E.e_around hy 2
 have r2 := rnd_in by_ 2
 have k1 := e_of4 (x := 1000) (y := 1) ⟨by decide, by decide⟩ ⟨by decide, by decide⟩
 have k2 := e_of4 (x := 1001) (y := 1) ⟨by decide, by decide⟩ ⟨by decide, by decide⟩
 have q1 : Bq 1000 (Rat.divInt 1000 1) := Bq.mono (j := 11) (Bq.divInt (by unfold I.Bd; decide) (by unfold I.Bd; decide) (by omega)) (by omega)
 have q2 : Bq 1000 (Rat.divInt 1001 1) := Bq.mono (j := 11) (Bq.divInt (by unfold I.Bd; decide) (by unfold I.Bd; decide) (by omega)) (by omega)
 obtain ⟨i, hi, hil⟩ : ∃ i : Nat, rnd by_ 2 = (i : Int) ∧ i < 3 := ⟨(rnd by_ 2).toNat, by omega, by omega⟩
 rw [hi] at c2
 have hs : ∃ r : Rat, Bq 1000 r ∧ [dR (Rat.divInt (rnd by_ 8 - 3) (1 + rnd (Int.tdiv by_ 9) 2)), dR (Rat.divInt 1000 1), dR (Rat.divInt 1001 1)][i]? = some (dR r) := by
  match i, hil with
  | 0, _ => exact ⟨_, hbq, rfl⟩
  | 1, _ => exact ⟨_, q1, rfl⟩
  | 2, _ => exact ⟨_, q2, rfl⟩
 obtain ⟨r, hrb, hs⟩ := hs
 have m30 : V.k (.int .i64 (if (1 : Int) > (p.rim.length : Int) then 1 else (p.rim.length : Int))) = ni ((p.rim.length - 1 + 1 : Nat) : Int) := by
  show ni _ = _
  congr 2
  congr 1
  split <;> omega
 refine ⟨{ p with c := ofR r }, { ok with c := bn_of hrb }, ⟨Nat.le_succ_of_le n1, Nat.le_succ_of_le n2, Nat.le_succ_of_le n3⟩, ?_⟩
 unfold sp5 spS nums GSp Pr.v anyP
 generalize hD : Rat.divInt (rnd by_ 8 - 3) (1 + rnd (Int.tdiv by_ 9) 2) = D at *
 generalize hPR : Ct.ptR p.rim = PR at *
 generalize hWR : Ct.wnR p.worn = WR at *
 generalize rnd by_ (p.rim.length - 1) = kk at *
 generalize Rat.divInt 1000 1 = D1 at *
 generalize Rat.divInt 1001 1 = D2 at *
 exact fi ([.eqv 29 (ni (PR.length : Int)) (ni (p.rim.length : Int)) (by rw [l1]), .eqv 30 _ _ m30, cl ck, cl c9, wq 34 (rnd by_ 8 - 3) (rnd by_ 8 - 3) (by omega), wq 36 (Int.tdiv by_ 9) (Int.tdiv by_ 9) ⟨rfl, t9.1, t9.2⟩, cl c3, wq 38 (1 + rnd (Int.tdiv by_ 9) 2) (1 + rnd (Int.tdiv by_ 9) 2) (by omega), cl co, cl ch, nf, nf, nf, nf, nf, nf, nf, nf, nf, yt] ++ [cl k1, cl k2, .ro, cl c2, .sel _ _ _ hs]) (by kernel_rfl) (by kernel_rfl)
theorem sp_w13 (ok : p.Ok) (hn : p.Le n) (h99 : n ≤ 90) (hw : W.Is64 how) (hy : W.Is64 by_) (hc : rnd how 13 = 13) : ∃ q : Pr, q.Ok ∧ q.Le (n + 1) ∧ GSp q (rg fsp 5) (sp5 p how by_) := by
 have o1 := ok.nr; have o2 := ok.nw; have o3 := ok.nm
 have n1 := hn.r; have n2 := hn.w; have n3 := hn.m
 have ch := E.e_around hw 13
 rw [hc] at ch
 have t9 : -9223372036854775808 ≤ Int.tdiv by_ 9 ∧ Int.tdiv by_ 9 ≤ 9223372036854775807 := tdiv_64 hy 9 (by omega)
 have r9 := rnd_in by_ 8
 have r3 := rnd_in (Int.tdiv by_ 9) 2
 have c9 := E.e_around hy 8
 have c3 := E.e_around (n := Int.tdiv by_ 9) ⟨t9.1, t9.2⟩ 2
 have co := e_of4 (x := rnd by_ 8 - 3) (y := 1 + rnd (Int.tdiv by_ 9) 2) ⟨by omega, by omega⟩ ⟨by omega, by omega⟩
 have l1 : (Ct.ptR p.rim).length = p.rim.length := List.length_map ..
 have l2 : (Ct.wnR p.worn).length = p.worn.length := List.length_map ..
 have l3 := zs_len p.marks
 have hbq := sp_num hy
 have ck := E.e_around hy (p.rim.length - 1)
 have hk := rnd_in by_ (p.rim.length - 1)
 have m30 : V.k (.int .i64 (if (1 : Int) > (p.rim.length : Int) then 1 else (p.rim.length : Int))) = ni ((p.rim.length - 1 + 1 : Nat) : Int) := by
  show ni _ = _
  congr 2
  congr 1
  split <;> omega
 by_cases g : 0 < p.worn.length
 · skip
   obtain ⟨w, hwn⟩ : ∃ w, p.worn[0]? = some w := ⟨_, List.getElem?_eq_getElem g⟩
   have he : (Ct.wnR p.worn)[0]? = some [bo w] := by unfold Ct.wnR; rw [List.getElem?_map, hwn]; rfl
   have hset := wn_set1 (P := p.worn) (i := 0) (!w)
   refine ⟨{ p with worn := p.worn.set 0 (!w) }, { ok with nw := (by show (p.worn.set _ _).length ≤ _; rw [List.length_set]; exact o2) }, ⟨Nat.le_succ_of_le n1, (by show (p.worn.set _ _).length ≤ _; rw [List.length_set]; exact Nat.le_succ_of_le n2), Nat.le_succ_of_le n3⟩, ?_⟩
   unfold sp5 spS nums GSp Pr.v anyP
   generalize hD : Rat.divInt (rnd by_ 8 - 3) (1 + rnd (Int.tdiv by_ 9) 2) = D at *
   generalize hPR : Ct.ptR p.rim = PR at *
   generalize hWR : Ct.wnR p.worn = WR at *
   generalize rnd by_ (p.rim.length - 1) = kk at *
   generalize Ct.wnR (p.worn.set 0 (!w)) = WR2 at *
   exact fi ([.eqv 29 (ni (PR.length : Int)) (ni (p.rim.length : Int)) (by rw [l1]), .eqv 30 _ _ m30, cl ck, cl c9, wq 34 (rnd by_ 8 - 3) (rnd by_ 8 - 3) (by omega), wq 36 (Int.tdiv by_ 9) (Int.tdiv by_ 9) ⟨rfl, t9.1, t9.2⟩, cl c3, wq 38 (1 + rnd (Int.tdiv by_ 9) 2) (1 + rnd (Int.tdiv by_ 9) 2) (by omega), cl co, cl ch, nf, nf, nf, nf, nf, nf, nf, nf, nf, nf, nf, nf, nf] ++ [.eqv 44 (ni (WR.length : Int)) (ni (p.worn.length : Int)) (by rw [l2]), ye (t := decide ((p.worn.length : Int) > 0)) (decide_eq_true (by omega)), .sel _ _ _ he, .sel _ _ _ he, .sel _ _ _ he, .upd _ _ _ _ _ he hset]) (by kernel_rfl) (by kernel_rfl)
 · skip
   refine ⟨p, ok, ⟨Nat.le_succ_of_le n1, Nat.le_succ_of_le n2, Nat.le_succ_of_le n3⟩, ?_⟩
   unfold sp5 spS nums GSp Pr.v anyP
   generalize hD : Rat.divInt (rnd by_ 8 - 3) (1 + rnd (Int.tdiv by_ 9) 2) = D at *
   generalize hPR : Ct.ptR p.rim = PR at *
   generalize hWR : Ct.wnR p.worn = WR at *
   generalize rnd by_ (p.rim.length - 1) = kk at *
   exact fi ([.eqv 29 (ni (PR.length : Int)) (ni (p.rim.length : Int)) (by rw [l1]), .eqv 30 _ _ m30, cl ck, cl c9, wq 34 (rnd by_ 8 - 3) (rnd by_ 8 - 3) (by omega), wq 36 (Int.tdiv by_ 9) (Int.tdiv by_ 9) ⟨rfl, t9.1, t9.2⟩, cl c3, wq 38 (1 + rnd (Int.tdiv by_ 9) 2) (1 + rnd (Int.tdiv by_ 9) 2) (by omega), cl co, cl ch, nf, nf, nf, nf, nf, nf, nf, nf, nf, nf, nf, nf, nf] ++ [.eqv 44 (ni (WR.length : Int)) (ni (p.worn.length : Int)) (by rw [l2]), na (t := decide ((p.worn.length : Int) > 0)) (decide_eq_false (by omega))]) (by kernel_rfl) (by kernel_rfl)
end
end Go.Proofs.YtnpdpjfdgialeaaGreatDoor.E.Pc
namespace Go.Proofs.YtnpdpjfdgialeaaGreatDoor.E
open Go.RowKit
set_option linter.unusedVariables false
set_option linter.unusedSimpArgs false
section
variable {P : Program} {w : World}
def mkS1 (T : TypeId) (xs : List Operand) : Op := .slice T (xs.getD 0 (.tmp 0)) (some (xs.getD 1 (.tmp 0))) none none
theorem two2_of {α : Type} {xs : List α} (h : xs.length = 2) : ∃ x y, xs = [x, y] := by
 match xs, h with
 | [x, y], _ => exact ⟨x, y, rfl⟩
theorem bounds1 {len cap i : Nat} (h1 : i ≤ len) (h2 : len ≤ cap) : (Instr.sliceBounds true len cap (some (.int .i64 (i : Int))) none none).run P w = .ok (i, len, cap) w := by
 simp [Instr.sliceBounds, Instr.sliceBound, asIntOf, h1, h2]
/-- The tail of an own row. -/
theorem x_tail {T e U b n i : Nat} (hT : P.underlying T = some (.slice e)) (hs : szT P e = some n) {l l' : List (List V)} (hl' : l.drop i = l') (h2 : i ≤ l.length) (h0 : 0 < l.length) : Ext P (mkS1 T) [.ow b, ni (i : Int)] [(b, .rw U n l)] [(b, .dead)] (.sl l') := by
 intro B M h m w a o xs ho K hl hr hrd _
 obtain ⟨x, y1, rfl⟩ := two2_of hl
 have hx := hr 0 x _ rfl rfl
 have hy1 := Rep.k_inv (hr 1 y1 _ rfl rfl)
 simp only [mkS1, List.getD_cons_zero, List.getD_cons_succ] at ho
 have hb : h b = .rw U n l := hrd (b, .rw U n l) (List.mem_singleton.2 rfl)
 have hsub : ∀ c, upds h [(b, HO.dead)] c = h c ∨ upds h [(b, HO.dead)] c = .dead := fun c => by
  show upd (upds h []) b .dead c = _ ∨ _
  by_cases hc : c = b
  · subst hc; right; exact upd_eq
  · left; rw [upd_ne hc]; rfl
 have K' := K.sub hsub
 have hmo := Mo.sub (w := w) (M := M) (m := m) hsub
 have hAv : ∀ g, Av M (upds h [(b, HO.dead)]) m g → Av M h m g := fun g hg => (hmo.av g hg).elim id fun e => by
  have := K'.av_lt hg
  omega
 have hz : ∀ cs ∈ l, cs.length = n := (K.rw b U n l hb).choose_spec.choose_spec.2.1
 have hrep := exp_rep K (A' := Av M (upds h [(b, HO.dead)]) m) (h0 := h) hAv 1 (.ow b) (.sl l) [b] (by show (match h b with | .rw _ _ l => some (V.sl l, [b]) | _ => none) = _; rw [hb]) (fun c hc => by
  simp only [List.mem_singleton] at hc
  subst hc
  refine ⟨rfl, fun v g hv hg hA => ?_⟩
  rcases hA with hA | ⟨c2, v2, k1, k2, k3⟩
  · exact (K.blk (by rw [hb]; rfl) hv hg).1 (K.mb g hA)
  · have hne : c2 ≠ c := fun e => by
     subst e
     rw [show upds h [(c2, HO.dead)] c2 = .dead from upd_eq] at k1
     cases k1
    have e2 : upds h [(c, HO.dead)] c2 = h c2 := upd_ne hne
    rw [e2] at k1
    exact hne (K.inj c2 c v2 v g k1 (by rw [hb]; rfl) k2 hv k3 hg)) _ hx
 generalize hu : a.eval x = u at hrep
 cases hrep with
 | sl _ ad bb off c zz _ us h1 h2' h3 h4 h5 h6 =>
  have hlen : l'.length = l.length - i := by rw [← hl']; simp
  have hel : ∀ q cs, l'[q]? = some cs → l[i + q]? = some cs := fun q cs hq => by
   rw [← hl', List.getElem?_drop] at hq
   exact hq
  have hzz : zz = n := by
   have h8 := List.getElem_mem (l := l) h0
   rw [← h4 _ h8, hz _ h8]
  have hbd := bounds1 (P := P) (w := w) (len := l.length) (cap := c) h2 h1
  have hrep : Rep w (Av M (upds h [(b, HO.dead)]) m) m (.slice (if c = i then ad else ad.map (·.add (i * n))) l'.length (c - i)) (.sl l') := by
   refine .sl _ _ bb (off + i * zz) _ zz _ (fun i' j => us (i + i') j) (by omega) (by omega) (fun hp => ?_) (fun cs hc => ?_) (fun i' j' cs y hi hj => ?_) (fun i' j' cs y hi hj => h6 (i + i') j' cs y (hel i' cs hi) hj)
   · obtain ⟨rfl, hA, hB⟩ := h3 h0
     refine ⟨?_, hA, hB⟩
     rw [if_neg (by omega), ← hzz]
     simp [Addr.add_lit]
   · obtain ⟨q, hq⟩ := List.getElem?_of_mem hc
     exact h4 cs (List.mem_of_getElem? (hel q cs hq))
   · have := h5 (i + i') j' cs y (hel i' cs hi) hj
     rw [Nat.add_mul] at this
     rwa [show off + i * zz + i' * zz + j' = off + (i * zz + i' * zz) + j' by omega]
  rw [hlen] at hrep
  refine Exec.val (w' := w) ?_ ⟨m, K', hrep, hmo, Bl.refl _ _, fun c hc => .inl hc⟩
  simp [execOp, ho, Instr.sliceAt, Instr.slice, hu, hy1, run_under hT, run_size hs, hbd]
end
end Go.Proofs.YtnpdpjfdgialeaaGreatDoor.E
namespace Go.Proofs.YtnpdpjfdgialeaaGreatDoor.E.Pc
open Go.RowKit
set_option linter.unusedVariables false
set_option linter.unusedSimpArgs false
section
variable {p q : Pr} {how by_ : Int} {n : Nat}
theorem sp_w4 (ok : p.Ok) (hn : p.Le n) (h99 : n ≤ 90) (hw : W.Is64 how) (hy : W.Is64 by_) (hc : rnd how 13 = 4) : ∃ q : Pr, q.Ok ∧ q.Le (n + 1) ∧ GSp q (rg fsp 5) (sp5 p how by_) := by
 have o1 := ok.nr; have o2 := ok.nw; have o3 := ok.nm
 have n1 := hn.r; have n2 := hn.w; have n3 := hn.m
 have ch := E.e_around hw 13
 rw [hc] at ch
 have t9 : -9223372036854775808 ≤ Int.tdiv by_ 9 ∧ Int.tdiv by_ 9 ≤ 9223372036854775807 := tdiv_64 hy 9 (by omega)
 have r9 := rnd_in by_ 8
 have r3 := rnd_in (Int.tdiv by_ 9) 2
 have c9 := E.e_around hy 8
 have c3 := E.e_around (n := Int.tdiv by_ 9) ⟨t9.1, t9.2⟩ 2
 have co := e_of4 (x := rnd by_ 8 - 3) (y := 1 + rnd (Int.tdiv by_ 9) 2) ⟨by omega, by omega⟩ ⟨by omega, by omega⟩
 have l1 : (Ct.ptR p.rim).length = p.rim.length := List.length_map ..
 have l2 : (Ct.wnR p.worn).length = p.worn.length := List.length_map ..
 have l3 := zs_len p.marks
 have hbq := sp_num hy
 have ck := E.e_around hy (p.rim.length - 1)
 have hk := rnd_in by_ (p.rim.length - 1)
 have m30 : V.k (.int .i64 (if (1 : Int) > (p.rim.length : Int) then 1 else (p.rim.length : Int))) = ni ((p.rim.length - 1 + 1 : Nat) : Int) := by
  show ni _ = _
  congr 2
  congr 1
  split <;> omega
 by_cases g : 0 < p.worn.length
 · skip
   have hwl : 0 < (Ct.wnR p.worn).length := by omega
   have ht : (Ct.wnR p.worn).drop 1 = Ct.wnR (p.worn.drop 1) := by unfold Ct.wnR; rw [List.map_drop]
   have xt := x_tail (P := PP) (T := 24) (e := 4) (U := 4) (b := 4) (n := 1) (i := 1) (by kernel_rfl) (by kernel_rfl) ht (by omega) hwl
   refine ⟨{ p with worn := p.worn.drop 1 }, { ok with nw := (by show (p.worn.drop 1).length ≤ _; rw [List.length_drop]; omega) }, ⟨Nat.le_succ_of_le n1, (by show (p.worn.drop 1).length ≤ _; rw [List.length_drop]; omega), Nat.le_succ_of_le n3⟩, ?_⟩
   unfold sp5 spS nums GSp Pr.v anyP
   generalize hD : Rat.divInt (rnd by_ 8 - 3) (1 + rnd (Int.tdiv by_ 9) 2) = D at *
   generalize hPR : Ct.ptR p.rim = PR at *
   generalize hWR : Ct.wnR p.worn = WR at *
   generalize rnd by_ (p.rim.length - 1) = kk at *
   generalize Ct.wnR (p.worn.drop 1) = WR2 at *
   exact fi ([.eqv 29 (ni (PR.length : Int)) (ni (p.rim.length : Int)) (by rw [l1]), .eqv 30 _ _ m30, cl ck, cl c9, wq 34 (rnd by_ 8 - 3) (rnd by_ 8 - 3) (by omega), wq 36 (Int.tdiv by_ 9) (Int.tdiv by_ 9) ⟨rfl, t9.1, t9.2⟩, cl c3, wq 38 (1 + rnd (Int.tdiv by_ 9) 2) (1 + rnd (Int.tdiv by_ 9) 2) (by omega), cl co, cl ch, nf, nf, nf, nf, yt] ++ [.eqv 106 (ni (WR.length : Int)) (ni (p.worn.length : Int)) (by rw [l2]), ye (t := decide ((p.worn.length : Int) > 0)) (decide_eq_true (by omega)), .ext (some 110) _ _ _ _ _ xt]) (by kernel_rfl) (by kernel_rfl)
 · skip
   refine ⟨p, ok, ⟨Nat.le_succ_of_le n1, Nat.le_succ_of_le n2, Nat.le_succ_of_le n3⟩, ?_⟩
   unfold sp5 spS nums GSp Pr.v anyP
   generalize hD : Rat.divInt (rnd by_ 8 - 3) (1 + rnd (Int.tdiv by_ 9) 2) = D at *
   generalize hPR : Ct.ptR p.rim = PR at *
   generalize hWR : Ct.wnR p.worn = WR at *
   generalize rnd by_ (p.rim.length - 1) = kk at *
   exact fi ([.eqv 29 (ni (PR.length : Int)) (ni (p.rim.length : Int)) (by rw [l1]), .eqv 30 _ _ m30, cl ck, cl c9, wq 34 (rnd by_ 8 - 3) (rnd by_ 8 - 3) (by omega), wq 36 (Int.tdiv by_ 9) (Int.tdiv by_ 9) ⟨rfl, t9.1, t9.2⟩, cl c3, wq 38 (1 + rnd (Int.tdiv by_ 9) 2) (1 + rnd (Int.tdiv by_ 9) 2) (by omega), cl co, cl ch, nf, nf, nf, nf, yt] ++ [.eqv 106 (ni (WR.length : Int)) (ni (p.worn.length : Int)) (by rw [l2]), na (t := decide ((p.worn.length : Int) > 0)) (decide_eq_false (by omega))]) (by kernel_rfl) (by kernel_rfl)
/-- A piece with something changed. -/
theorem e_spoiltP (ok : p.Ok) (hn : p.Le n) (h99 : n ≤ 90) (hw : W.Is64 how) (hy : W.Is64 by_) : ∃ q : Pr, q.Ok ∧ q.Le (n + 1) ∧ Pure PP 5 [.ag p.v, ni how, ni by_] (.ag q.v) := by
 have hr := rnd_in how 13
 have key : (∃ q : Pr, q.Ok ∧ q.Le (n + 1) ∧ GSp q (rg fsp 5) (sp5 p how by_)) → ∃ q : Pr, q.Ok ∧ q.Le (n + 1) ∧ Pure PP 5 [.ag p.v, ni how, ni by_] (.ag q.v) := fun ⟨q, h1, h2, h3⟩ => ⟨q, h1, h2, sp_0 ok h3⟩
 have : rnd how 13 = 0 ∨ rnd how 13 = 1 ∨ rnd how 13 = 2 ∨ rnd how 13 = 3 ∨ rnd how 13 = 4 ∨ rnd how 13 = 5 ∨ rnd how 13 = 6 ∨ rnd how 13 = 7 ∨ rnd how 13 = 8 ∨ rnd how 13 = 9 ∨ rnd how 13 = 10 ∨ rnd how 13 = 11 ∨ rnd how 13 = 12 ∨ rnd how 13 = 13 := by omega
 rcases this with h | h | h | h | h | h | h | h | h | h | h | h | h | h
 · exact key (sp_w0 ok hn h99 hw hy h)
 · exact key (sp_w1 ok hn h99 hw hy h)
 · exact key (sp_w2 ok hn h99 hw hy h)
 · exact key (sp_w3 ok hn h99 hw hy h)
 · exact key (sp_w4 ok hn h99 hw hy h)
 · exact key (sp_w5 ok hn h99 hw hy h)
 · exact key (sp_w6 ok hn h99 hw hy h)
 · exact key (sp_w7 ok hn h99 hw hy h)
 · exact key (sp_w8 ok hn h99 hw hy h)
 · exact key (sp_w9 ok hn h99 hw hy h)
 · exact key (sp_w10 ok hn h99 hw hy h)
 · exact key (sp_w11 ok hn h99 hw hy h)
 · exact key (sp_w12 ok hn h99 hw hy h)
 · exact key (sp_w13 ok hn h99 hw hy h)
end
end Go.Proofs.YtnpdpjfdgialeaaGreatDoor.E.Pc
