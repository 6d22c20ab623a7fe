/-
 none
-/
import Derived.Test.YtnpdpjfdgialeaaGreatDoorExE
import Derived.Test.YtnpdpjfdgialeaaGreatDoorEoA
namespace Go.Proofs.YtnpdpjfdgialeaaGreatDoor.E.Ct
open Go.RowKit
set_option linter.unusedVariables false
set_option linter.unusedSimpArgs false
section
variable {l : List Int} {P : List (Int × Int)} {n : Int} {a k b : Nat}
def wys : List (Int × Int) := [(4, 0), (3, 3), (0, 4), (-3, 3), (-4, 0), (-3, -3), (0, -4), (3, -3)]
def wyz (k : Nat) : Int × Int := wys.getD k (0, 0)
def rimX (l : List Int) (k : Nat) : Int × Int := (4 + Int.tdiv (wyz k).1 (atz l k 4), 4 + Int.tdiv (wyz k).2 (atz l k 4))
def rim1 (l : List Int) (k : Nat) : List (Int × Int) := if atz l k 4 = 1 ∨ atz l k 4 = 2 then [rimX l k] else []
def rimS (l : List Int) : Nat → List (Int × Int)
 | 0 => []
 | k + 1 => if (rimS l k).length < 5 then rimS l k ++ rim1 l k else rimS l k
def triP (l : List Int) : List (Int × Int) := [(0, 0), (4 + atz l 0 2, 0), (atz l 1 3, 3)]
noncomputable def rimP (l : List Int) : List (Int × Int) := if Pg.valid6 ((rimS l 8).map qv) = true then rimS l 8 else triP l
theorem wyz_in (k : Nat) : Sm_ 4 (wyz k) := by
 have h : ∀ p ∈ wys, -4 ≤ p.1 ∧ p.1 ≤ 4 ∧ -4 ≤ p.2 ∧ p.2 ≤ 4 := by decide
 unfold wyz
 rw [List.getD_eq_getElem?_getD]
 cases e : wys[k]? with
 | none => exact ⟨by decide, by decide, by decide, by decide⟩
 | some p => exact h p (List.mem_of_getElem? e)
theorem tdiv_in {x a : Int} (ha : a = 1 ∨ a = 2) (hx : -4 ≤ x ∧ x ≤ 4) : -4 ≤ Int.tdiv x a ∧ Int.tdiv x a ≤ 4 := by
 have : x = -4 ∨ x = -3 ∨ x = -2 ∨ x = -1 ∨ x = 0 ∨ x = 1 ∨ x = 2 ∨ x = 3 ∨ x = 4 := by omega
 rcases ha with rfl | rfl <;> rcases this with rfl | rfl | rfl | rfl | rfl | rfl | rfl | rfl | rfl <;> decide
theorem rim1_in : ∀ p ∈ rim1 l k, Sm_ 12 p := fun p hp => by
 unfold rim1 at hp
 split at hp
 · rename_i h
   simp only [List.mem_singleton] at hp
   subst hp
   have hw := wyz_in k
   unfold Sm_ at hw
   have h1 := tdiv_in h ⟨hw.1, hw.2.1⟩
   have h2 := tdiv_in h ⟨hw.2.2.1, hw.2.2.2⟩
   unfold Sm_ rimX
   simp only
   omega
 · cases hp
theorem rimS_in : ∀ k, ∀ p ∈ rimS l k, Sm_ 12 p
 | 0, p, hp => by cases hp
 | k + 1, p, hp => by
  unfold rimS at hp
  split at hp
  · rcases List.mem_append.1 hp with h | h
    · exact rimS_in k p h
    · exact rim1_in p h
  · exact rimS_in k p hp
theorem rimS_len : ∀ k, (rimS l k).length ≤ 5
 | 0 => Nat.zero_le _
 | k + 1 => by
  have := rimS_len k
  have h1 : (rim1 l k).length ≤ 1 := by unfold rim1; split <;> simp
  unfold rimS
  split
  · rw [List.length_append]; omega
  · exact this
theorem rimS_stop (h : ¬ (rimS l k).length < 5) : ∀ j, rimS l (k + j) = rimS l k
 | 0 => rfl
 | j + 1 => by
  have ih := rimS_stop h j
  show (if (rimS l (k + j)).length < 5 then _ else rimS l (k + j)) = _
  rw [ih, if_neg h]
theorem triP_in : ∀ p ∈ triP l, Sm_ 12 p := fun p hp => by
 have h0 := atz_in l 0 2
 have h1 := atz_in l 1 3
 unfold triP at hp
 simp only [List.mem_cons, List.not_mem_nil, or_false] at hp
 rcases hp with rfl | rfl | rfl <;> (unfold Sm_; simp only; omega)
theorem rimP_in (l : List Int) : (∀ p ∈ rimP l, Sm_ 12 p) ∧ 3 ≤ (rimP l).length ∧ (rimP l).length ≤ 5 := by
 unfold rimP
 split
 · rename_i h
   refine ⟨rimS_in 8, ?_, rimS_len 8⟩
   unfold Pg.valid6 at h
   simp only [Bool.and_eq_true, decide_eq_true_eq, List.length_map] at h
   exact h.1.1.1
 · exact ⟨triP_in, Nat.le_refl 3, show 3 ≤ 5 by decide⟩
end
end Go.Proofs.YtnpdpjfdgialeaaGreatDoor.E.Ct
namespace Go.Proofs.YtnpdpjfdgialeaaGreatDoor.E.Ct
open Go.RowKit
set_option linter.unusedVariables false
set_option linter.unusedSimpArgs false
def wayR : List (List V) := wys.map fun p => [ni p.1, ni p.2]
section
variable {l : List Int} {P : List (Int × Int)} {n : Int} {a k b : Nat}
theorem way_at (h : k < 8) : wayR[k]? = some [ni (wyz k).1, ni (wyz k).2] := by
 unfold wayR wyz
 rw [List.getElem?_map, List.getD_eq_getElem?_getD, List.getElem?_eq_getElem (show k < wys.length from h)]
 rfl
noncomputable abbrev fri : Func := fnOf PP 17
/-- A piece that has corners alone. -/
def bare (P : List (Int × Int)) : Pi := ⟨0, 0, P, [], [], 0, 0, 0, 0, 0⟩
theorem bare_v (P : List (Int × Int)) : (bare P).v = [ni 0, ni 0, .sl (ptR P), .sl [], .sl []] ++ (z4_ ++ (z4_ ++ (z4_ ++ (z4_ ++ z4_)))) := by
 show [ni 0, ni 0, .sl (ptR P), .sl [], .sl []] ++ (dR 0 ++ (dR 0 ++ (dR 0 ++ (dR 0 ++ dR 0)))) = _
 rw [dR_0]
 rfl
noncomputable def riS (l : List Int) (k : Nat) : St := at_ fri [(0, zl l), (3, .sl wayR), (4, .ow 1), (5, ni (k : Int))] [.dead, .rw 52 2 (ptR (rimS l k))]
theorem e_rimG (hl : ∀ x ∈ l, W.Is64 x) : Pure PP 17 [zl l] (.sl (ptR (rimP l))) := by
 have hi := rimS_in (l := l) 8
 have hn := rimS_len (l := l) 8
 unfold rimP
 generalize hR : rimS l 8 = R at *
 have h0 := atz_in l 0 2
 have h1 := atz_in l 1 3
 have cr := e_rim12w (p := bare (R)) (fun p hp => sm64 (hi p hp)) (by show (R).length ≤ _; omega)
 rw [bare_v] at cr
 have cv := e_valid6 (L := (R).map qv) (qvs hi) (by rw [List.length_map]; omega) (by omega)
 change Pure PP _ _ (.o _ _ (((R).map qv).map dV)) at cr
 have fin : ∀ k, k ≤ 8 → (k = 8 ∨ ¬ (rimS l k).length < 5) → Gd PP 17 (.v (.sl (ptR (if Pg.valid6 (R.map qv) = true then R else triP l)))) (lp fri 0) (riS l k) := by
  intro k hk hor
  have e8 : rimS l k = R := by
   rcases hor with e | e
   · rw [e, hR]
   · have := rimS_stop e (8 - k)
     rw [show k + (8 - k) = 8 by omega, hR] at this
     exact this.symm
  have hlen : (ptR (R)).length = (R).length := ptR_len _
  have hor2 : k < 8 → ¬ (R).length < 5 := fun hlt => by
   rcases hor with e | e
   · omega
   · rwa [e8] at e
  unfold riS
  rw [e8]
  let C : List F_ := [cl (e_at hl 0 2), wq 64 (4 + atz l 0 2) (4 + atz l 0 2) (by omega), cl (e_at hl 1 3)]
  cases hv : Pg.valid6 ((R).map qv) with
  | true =>
   rw [hv] at cv
   rw [if_pos rfl]
   by_cases g : k < 8
   · have h5 := hor2 g
     exact fi [ye (t := decide ((k : Int) < 8)) (decide_eq_true (by omega)), .eqv 22 (ni ((ptR (R)).length : Int)) (ni ((R).length : Int)) (by rw [hlen]), na (t := decide (((R).length : Int) < 5)) (decide_eq_false (by omega)), cl cr, cl cv, nf] (by kernel_rfl) (by kernel_rfl)
   · exact fi [na (t := decide ((k : Int) < 8)) (decide_eq_false (by omega)), nf, cl cr, cl cv, nf] (by kernel_rfl) (by kernel_rfl)
  | false =>
   rw [hv] at cv
   rw [if_neg (by simp)]
   by_cases g : k < 8
   · have h5 := hor2 g
     exact fi ([ye (t := decide ((k : Int) < 8)) (decide_eq_true (by omega)), .eqv 22 (ni ((ptR (R)).length : Int)) (ni ((R).length : Int)) (by rw [hlen]), na (t := decide (((R).length : Int) < 5)) (decide_eq_false (by omega)), cl cr, cl cv, yt] ++ C) (by kernel_rfl) (by kernel_rfl)
   · exact fi ([na (t := decide ((k : Int) < 8)) (decide_eq_false (by omega)), nf, cl cr, cl cv, yt] ++ C) (by kernel_rfl) (by kernel_rfl)
 refine pf (by kernel_rfl) (.to mo_ [.ow 4 (.rw 52 2 []), .fz 3] [0, 3, 4, 5] [1] 2 [] (td' := lp fri 0) (σ' := riS l 0) ?_ (by kernel_rfl))
 refine Gd.loop (fun k => riS l k) (fun k => k ≤ 8) (fun k => 8 - k) ?_ 0 (Nat.zero_le _)
 intro k hk ih
 by_cases g : k < 8 ∧ (rimS l k).length < 5
 · obtain ⟨g, g5⟩ := g
   have nx := ih (k + 1) g (by omega)
   have ha := atz_in l k 4
   have hw := wyz_in k
   unfold Sm_ at hw
   have hlen : (ptR (rimS l k)).length = (rimS l k).length := ptR_len _
   have hs : rimS l (k + 1) = rimS l k ++ rim1 l k := if_pos g5
   have hle : (ptR (rimS l (k + 1))).length ≤ 1000 := by rw [ptR_len]; have := rimS_len (l := l) (k + 1); omega
   let F : List F_ := [ye (t := decide ((k : Int) < 8)) (decide_eq_true (by omega)), .eqv 22 (ni ((ptR (rimS l k)).length : Int)) (ni ((rimS l k).length : Int)) (by rw [hlen]), ye (t := decide (((rimS l k).length : Int) < 5)) (decide_eq_true (by omega)), cl (e_at hl k 4)]
   by_cases h1 : atz l k 4 = 1
   · have q1 := tdiv_in (x := (wyz k).1) (.inl rfl) ⟨hw.1, hw.2.1⟩
     have q2 := tdiv_in (x := (wyz k).2) (.inl rfl) ⟨hw.2.2.1, hw.2.2.2⟩
     have hr : rim1 l k = [(4 + Int.tdiv (wyz k).1 1, 4 + Int.tdiv (wyz k).2 1)] := by unfold rim1 rimX; rw [if_pos (.inl h1), h1]
     rw [hr] at hs
     have ap : ptR (rimS l k) ++ [[ni (4 + Int.tdiv (wyz k).1 1), ni (4 + Int.tdiv (wyz k).2 1)]] = ptR (rimS l (k + 1)) := by rw [hs]; exact pt_app _ (4 + Int.tdiv (wyz k).1 1, 4 + Int.tdiv (wyz k).2 1)
     unfold riS at nx ⊢
     generalize ptR (rimS l (k + 1)) = R1 at *
     have hway := way_at g
     exact .to mo_ [.mv 1 3] [0, 3, 4, 5] [1] 2 (F ++ [.eqv 29 (ni (atz l k 4)) (ni 1) (by rw [h1]), yt, yt, .sel _ _ _ hway, wq 43 (Int.tdiv (wyz k).1 1) (Int.tdiv (wyz k).1 1) (by omega), wq 44 (4 + Int.tdiv (wyz k).1 1) (4 + Int.tdiv (wyz k).1 1) (by omega), .sel _ _ _ hway, wq 51 (Int.tdiv (wyz k).2 1) (Int.tdiv (wyz k).2 1) (by omega), wq 52 (4 + Int.tdiv (wyz k).2 1) (4 + Int.tdiv (wyz k).2 1) (by omega), .app _ _ _ 1000 ap Nat.zero_lt_one hle, inc 26 k (by omega)]) nx (by kernel_rfl)
   · by_cases h2 : atz l k 4 = 2
     · have q1 := tdiv_in (x := (wyz k).1) (.inr rfl) ⟨hw.1, hw.2.1⟩
       have q2 := tdiv_in (x := (wyz k).2) (.inr rfl) ⟨hw.2.2.1, hw.2.2.2⟩
       have hr : rim1 l k = [(4 + Int.tdiv (wyz k).1 2, 4 + Int.tdiv (wyz k).2 2)] := by unfold rim1 rimX; rw [if_pos (.inr h2), h2]
       rw [hr] at hs
       have ap : ptR (rimS l k) ++ [[ni (4 + Int.tdiv (wyz k).1 2), ni (4 + Int.tdiv (wyz k).2 2)]] = ptR (rimS l (k + 1)) := by rw [hs]; exact pt_app _ (4 + Int.tdiv (wyz k).1 2, 4 + Int.tdiv (wyz k).2 2)
       have hway := way_at g
       unfold riS at nx ⊢
       generalize ptR (rimS l (k + 1)) = R1 at *
       exact .to mo_ [.mv 1 3] [0, 3, 4, 5] [1] 2 (F ++ [.eqv 29 (ni (atz l k 4)) (ni 2) (by rw [h2]), nf, yt, .sel _ _ _ hway, wq 43 (Int.tdiv (wyz k).1 2) (Int.tdiv (wyz k).1 2) (by omega), wq 44 (4 + Int.tdiv (wyz k).1 2) (4 + Int.tdiv (wyz k).1 2) (by omega), .sel _ _ _ hway, wq 51 (Int.tdiv (wyz k).2 2) (Int.tdiv (wyz k).2 2) (by omega), wq 52 (4 + Int.tdiv (wyz k).2 2) (4 + Int.tdiv (wyz k).2 2) (by omega), .app _ _ _ 1000 ap Nat.zero_lt_one hle, inc 26 k (by omega)]) nx (by kernel_rfl)
     · have hr : rim1 l k = [] := by unfold rim1; rw [if_neg (by omega)]
       rw [hr, List.append_nil] at hs
       unfold riS at nx ⊢
       rw [hs] at nx
       exact .to mo_ [] [0, 3, 4, 5] [1] 2 (F ++ [na (t := (atz l k 4 == 1)) (by simp [h1]), na (t := (atz l k 4 == 2)) (by simp [h2]), inc 26 k (by omega)]) nx (by kernel_rfl)
 · exact fin k hk (by omega)
end
end Go.Proofs.YtnpdpjfdgialeaaGreatDoor.E.Ct
namespace Go.Proofs.YtnpdpjfdgialeaaGreatDoor.E.Ct
open Go.RowKit
set_option linter.unusedVariables false
set_option linter.unusedSimpArgs false
def pwn (l : List Int) (n k : Nat) : List Bool := (List.range n).map fun i => if i < k then (atz l (15 + i) 8 == 8) else false
def pmk (l : List Int) (n k : Nat) : List Int := (List.range n).map fun i => if i < k then Int.tdiv (atz l (20 + i) 4) 2 else 0
def pLight (l : List Int) : Rat := Rat.divInt (1 + atz l 11 5) 2
def pHeavy (l : List Int) : Rat := pLight l + Rat.divInt (atz l 12 3) 2
/-- Sherdref12's Piece. -/
def p12P (l : List Int) (P : List (Int × Int)) : Pi := ⟨atz l 8 39, atz l 9 4, P, pwn l P.length P.length, pmk l P.length P.length, Rat.divInt (atz l 10 2) 4, pLight l, pHeavy l, Rat.divInt (20 + atz l 13 99) 1, Rat.divInt (atz l 14 4) 4⟩
def z4n : List V := [bo false, .nl, bo false, .nl]
noncomputable def p12 (l : List Int) : Pi := p12P l (rimP l)
theorem p12P_rim (l : List Int) (P : List (Int × Int)) : (p12P l P).rim = P := rfl
theorem p12_rim (l : List Int) : (p12 l).rim = rimP l := p12P_rim l (rimP l)
/-- The objects that are behind Plain. -/
def plH (id : Int) (P : List (Int × Int)) : List HO := [.bx 30 ([ni id, ni 0, .ow 3, .ow 5, .ow 6] ++ (z4n ++ (dR (Rat.divInt 1 1) ++ (dR (Rat.divInt 1 1) ++ (dR (Rat.divInt 100 1) ++ dR (Rat.divInt 1 2)))))), .bx 28 (dR (Rat.divInt 1 1)), .dead, .rw 52 2 (ptR P), .bx 30 ([ni id, ni 0, .ow 3, .ow 5, .ow 6] ++ (z4n ++ (dR (Rat.divInt 1 1) ++ (dR (Rat.divInt 1 1) ++ (dR (Rat.divInt 100 1) ++ dR (Rat.divInt 1 2)))))), .rw 4 1 (List.replicate P.length [bo false]), .rw 3 1 (List.replicate P.length [ni 0])]
section
variable {l : List Int} {P : List (Int × Int)} {n : Int} {a k b : Nat}
theorem e_plain (id : Int) (h0 : 0 < P.length) (hn : P.length ≤ 1000) : PureT PP 15 [] [ni id, .sl (ptR P)] (.io 0 (plH id P) (.ag ([ni id, ni 0, .ow 3, .ow 5, .ow 6] ++ (z4n ++ (dR (Rat.divInt 1 1) ++ (dR (Rat.divInt 1 1) ++ (dR (Rat.divInt 100 1) ++ dR (Rat.divInt 1 2)))))))) := by
 have hl := ptR_len P
 have hz : ∀ cs ∈ ptR P, cs.length = 2 ∧ cs.all one = true := fun cs h => by
  obtain ⟨p, _, rfl⟩ := List.mem_map.1 h
  exact ⟨rfl, rfl⟩
 exact trT [cl (e_of4 (x := 1) (y := 1) is1_ is1_), .aps [] (ptR P) (ptR P) 1000 2 rfl (by omega) (by omega) hz, cl (e_of4 (x := 100) (y := 1) (i64_ (by decide)) is1_), cl (e_of4 (x := 1) (y := 2) is1_ is2_), .eqv 18 (ni ((ptR P).length : Int)) (ni (P.length : Int)) (by rw [hl]), .mk P.length (by omega), .eqv 22 (ni ((ptR P).length : Int)) (ni (P.length : Int)) (by rw [hl]), .mk P.length (by omega)] (by kernel_rfl)
theorem wn_0 (l : List Int) (n : Nat) : List.replicate n [bo false] = wnR (pwn l n 0) := by
 unfold wnR pwn
 apply List.ext_getElem?
 intro i
 rw [List.map_map, List.getElem?_map, List.getElem?_replicate]
 by_cases h : i < n
 · rw [if_pos h, List.getElem?_range h]; rfl
 · rw [if_neg h, List.getElem?_eq_none (by simpa using h)]; rfl
theorem mk_0 (l : List Int) (n : Nat) : List.replicate n [ni 0] = zs (pmk l n 0) := by
 unfold zs pmk
 apply List.ext_getElem?
 intro i
 rw [List.map_map, List.getElem?_map, List.getElem?_replicate]
 by_cases h : i < n
 · rw [if_pos h, List.getElem?_range h]; rfl
 · rw [if_neg h, List.getElem?_eq_none (by simpa using h)]; rfl
theorem wn_fun {f : Nat → Bool} {n k : Nat} (h : k < n) : (wnR ((List.range n).map f))[k]? = some [bo (f k)] := by unfold wnR; rw [List.getElem?_map, List.getElem?_map, List.getElem?_range h]; rfl
theorem wn_set {f g : Nat → Bool} {n k : Nat} {x : Bool} (hk : k < n) (h1 : g k = x) (h2 : ∀ i, i ≠ k → g i = f i) : (wnR ((List.range n).map f)).set k [bo x] = wnR ((List.range n).map g) := by
 unfold wnR
 apply List.ext_getElem?
 intro i
 rw [List.getElem?_set, List.length_map, List.length_map, List.length_range, List.getElem?_map, List.getElem?_map, List.getElem?_map, List.getElem?_map]
 by_cases e : k = i
 · subst e
   rw [if_pos rfl, if_pos hk, List.getElem?_range hk]
   simp only [Option.map_some, h1]
 · rw [if_neg e]
   by_cases hi : i < n
   · rw [List.getElem?_range hi]
     simp only [Option.map_some, h2 i (fun e' => e e'.symm)]
   · rw [List.getElem?_eq_none (by simpa using hi)]; rfl
noncomputable abbrev fp12 : Func := fnOf PP 4
noncomputable def p12S (l : List Int) (P : List (Int × Int)) (k : Nat) (z : List V) : St := at_ fp12 [(0, zl l), (2, .lp 0 0), (3, .lp 8 0), (4, ni (k : Int))] [.bx 30 z, .dead, .dead, .dead, .rw 52 2 (ptR P), .dead, .rw 4 1 (wnR (pwn l P.length k)), .rw 3 1 (zs (pmk l P.length k)), .bx 30 ([ni (atz l 8 39), ni (atz l 9 4), .ow 4, .ow 6, .ow 7] ++ (dR (Rat.divInt (atz l 10 2) 4) ++ (dR (pLight l) ++ (dR (pHeavy l) ++ (dR (Rat.divInt (20 + atz l 13 99) 1) ++ dR (Rat.divInt (atz l 14 4) 4))))))]
theorem e_piece12 (hl : ∀ x ∈ l, W.Is64 x) : Pure PP 4 [zl l] (.ag (p12 l).v) := by
 obtain ⟨r1, r2, r3⟩ := rimP_in l
 have cr := e_rimG hl
 unfold p12
 generalize rimP l = P at *
 have hpl := ptR_len P
 have a10 := atz_in l 10 2
 have a11 := atz_in l 11 5
 have a12 := atz_in l 12 3
 have a13 := atz_in l 13 99
 have a14 := atz_in l 14 4
 have cp := e_plain (P := P) (atz l 8 39) (by omega) (by omega)
 have c1 : Pure PP 18 [ni (1 + atz l 11 5), ni 2] (.ag (dR (pLight l))) := e_of4 (x := 1 + atz l 11 5) (y := 2) (i64_ (by omega)) is2_
 have b1 : Bq 8 (pLight l) := bq_small (by omega) (by omega)
 have b2 : Bq 8 (Rat.divInt (atz l 12 3) 2) := bq_small (by omega) (by omega)
 have c2 : Pure PP 19 [.ag (dR (pLight l)), .ag (dR (Rat.divInt (atz l 12 3) 2))] (.ag (dR (pHeavy l))) := e_add4 b1 b2 (by omega)
 refine pf (by kernel_rfl) (.to mo_ [] [0, 2, 3, 4] [0, 4, 6, 7, 8] 9 [cl (e_at hl 8 39), cl cr, .lend 15 [] [ni (atz l 8 39), .sl (ptR P)] _ [] cp, cl (e_at hl 9 4), cl (e_at hl 10 2), cl (e_of4 (x := atz l 10 2) (y := 4) (i64_ (by omega)) (i64_ (by decide))), cl (e_at hl 11 5), wq 19 (1 + atz l 11 5) (1 + atz l 11 5) (by omega), cl c1, cl (e_at hl 12 3), cl (e_of4 (x := atz l 12 3) (y := 2) (i64_ (by omega)) is2_), cl c2, cl (e_at hl 13 99), wq 31 (20 + atz l 13 99) (20 + atz l 13 99) (by omega), cl (e_of4 (x := 20 + atz l 13 99) (y := 1) (i64_ (by omega)) is1_), cl (e_at hl 14 4), cl (e_of4 (x := atz l 14 4) (y := 4) (i64_ (by omega)) (i64_ (by decide)))] (td' := lp fp12 0) (σ' := at_ fp12 [(0, zl l), (2, .lp 0 0), (3, .lp 8 0), (4, ni ((0 : Nat) : Int))] [.bx 30 pi0, .dead, .dead, .dead, .rw 52 2 (ptR P), .dead, .rw 4 1 (List.replicate P.length [bo false]), .rw 3 1 (List.replicate P.length [ni 0]), .bx 30 ([ni (atz l 8 39), ni (atz l 9 4), .ow 4, .ow 6, .ow 7] ++ (dR (Rat.divInt (atz l 10 2) 4) ++ (dR (pLight l) ++ (dR (pHeavy l) ++ (dR (Rat.divInt (20 + atz l 13 99) 1) ++ dR (Rat.divInt (atz l 14 4) 4))))))]) ?_ (by kernel_rfl))
 rw [wn_0 l, mk_0 l]
 refine Gd.loop (fun k => p12S l P k pi0) (fun k => k ≤ P.length) (fun k => P.length - k) ?_ 0 (Nat.zero_le _)
 intro k hk ih
 by_cases g : k < P.length
 · have nx := ih (k + 1) g (by omega)
   have h1 := atz_in l (20 + k) 4
   have w0 : (wnR (pwn l P.length k))[k]? = some [bo false] := by
    have := wn_fun (n := P.length) (k := k) (f := fun i => if i < k then (atz l (15 + i) 8 == 8) else false) g
    rw [if_neg (by omega)] at this
    exact this
   have w1 : (wnR (pwn l P.length k)).set k [bo (atz l (15 + k) 8 == 8)] = wnR (pwn l P.length (k + 1)) := wn_set g (by rw [if_pos (by omega)]) fun i hi => by
    have : i < k + 1 ↔ i < k := by omega
    simp only [this]
   have m0 : (zs (pmk l P.length k))[k]? = some [ni 0] := by
    have := zs_fun_at (n := P.length) (k := k) (f := fun i => if i < k then Int.tdiv (atz l (20 + i) 4) 2 else 0) g
    rw [if_neg (by omega)] at this
    exact this
   have m1 : (zs (pmk l P.length k)).set k [ni (Int.tdiv (atz l (20 + k) 4) 2)] = zs (pmk l P.length (k + 1)) := zs_fun g (by rw [if_pos (by omega)]) fun i hi => by
    have : i < k + 1 ↔ i < k := by omega
    simp only [this]
   have hq : Int.tdiv (atz l (20 + k) 4) 2 = Int.tdiv (atz l (20 + k) 4) 2 ∧ -9223372036854775808 ≤ Int.tdiv (atz l (20 + k) 4) 2 ∧ Int.tdiv (atz l (20 + k) 4) 2 ≤ 9223372036854775807 := by
    rw [Int.tdiv_eq_ediv_of_nonneg h1.1]; omega
   have e15 := e_at hl (15 + k) 8
   have e20 := e_at hl (20 + k) 4
   unfold p12S at nx ⊢
   generalize wnR (pwn l P.length (k + 1)) = W1 at *
   generalize wnR (pwn l P.length k) = W0 at *
   generalize zs (pmk l P.length (k + 1)) = M1 at *
   generalize zs (pmk l P.length k) = M0 at *
   exact .to mo_ [] [0, 2, 3, 4] [0, 4, 6, 7, 8] 9 [.eqv 41 (ni ((ptR P).length : Int)) (ni (P.length : Int)) (by rw [hpl]), ye (t := decide ((k : Int) < (P.length : Int))) (decide_eq_true (by omega)), wq 50 (15 + (k : Int)) ((15 + k : Nat) : Int) (by omega), cl e15, .sel _ _ _ w0, .upd _ _ _ _ _ w0 w1, wq 59 (20 + (k : Int)) ((20 + k : Nat) : Int) (by omega), cl e20, wq 61 (Int.tdiv (atz l (20 + k) 4) 2) (Int.tdiv (atz l (20 + k) 4) 2) hq, .sel _ _ _ m0, .upd _ _ _ _ _ m0 m1, inc 44 k (by omega)] nx (by kernel_rfl)
 · have e : k = P.length := by omega
   subst e
   exact fi [.eqv 41 (ni ((ptR P).length : Int)) (ni (P.length : Int)) (by rw [hpl]), na (t := decide ((P.length : Int) < (P.length : Int))) (decide_eq_false (by omega))] (by kernel_rfl) (by kernel_rfl)
end
end Go.Proofs.YtnpdpjfdgialeaaGreatDoor.E.Ct
namespace Go.Proofs.YtnpdpjfdgialeaaGreatDoor.E.Pc
open Go.RowKit
set_option linter.unusedVariables false
set_option linter.unusedSimpArgs false
def bdR : List (Int × Int) := [(0, 0), (4, 0), (4, 3), (0, 3)]
/-- The board. -/
def bd : Ct.Pi := ⟨7, 0, bdR, [false, false, false, false], [0, 0, 0, 0], 0, Rat.divInt 1 1, Rat.divInt 1 1, Rat.divInt 100 1, Rat.divInt 1 2⟩
theorem e_board : Pure PP 38 [] (.ag bd.v) := by
 have cp := Ct.e_plain (P := bdR) 7 (show 0 < 4 by decide) (show 4 ≤ 1000 by decide)
 have hv : bd.v = [ni 7, ni 0, .sl (Ct.ptR bdR), .sl (Ct.wnR [false, false, false, false]), zl [0, 0, 0, 0]] ++ (dR 0 ++ (dR (Rat.divInt 1 1) ++ (dR (Rat.divInt 1 1) ++ (dR (Rat.divInt 100 1) ++ dR (Rat.divInt 1 2))))) := rfl
 rw [hv, dR_0]
 generalize Rat.divInt 1 1 = r1 at *
 unfold Ct.plH at cp
 generalize Rat.divInt 1 1 = r1 at *
 generalize Rat.divInt 100 1 = r100 at *
 generalize Rat.divInt 1 2 = r2 at *
 exact tr [.ro, .lend _ _ _ _ [] cp] (by kernel_rfl)
theorem bd_ok : bd.Ok 100 where
 r := by unfold W.Is64; decide
 n := by decide
 tol := Bq.zero (by omega)
 light := Bq.mono (j := 11) (Bq.divInt (by unfold I.Bd; decide) (by unfold I.Bd; decide) (by omega)) (by omega)
 heavy := Bq.mono (j := 11) (Bq.divInt (by unfold I.Bd; decide) (by unfold I.Bd; decide) (by omega)) (by omega)
 str := Bq.mono (j := 11) (Bq.divInt (by unfold I.Bd; decide) (by unfold I.Bd; decide) (by omega)) (by omega)
 rough := Bq.mono (j := 11) (Bq.divInt (by unfold I.Bd; decide) (by unfold I.Bd; decide) (by omega)) (by omega)
theorem bd_val : Pg.valid bd.rimV = true := by decide +kernel
theorem bd_bv : ∀ a ∈ bd.rimV, Bv 8 a := by
 intro a ha
 obtain ⟨c, hc, rfl⟩ := List.mem_map.1 ha
 have h : ∀ c ∈ bdR, I.Bd 8 c.1 ∧ I.Bd 8 c.2 := by unfold I.Bd; decide
 obtain ⟨h1, h2⟩ := h c hc
 exact ⟨Bq.divInt h1 (by unfold I.Bd; decide) (by omega), Bq.divInt h2 (by unfold I.Bd; decide) (by omega)⟩
theorem e_bdval : Pure PP 75 [dL bd.rimV] (bo true) := by
 have h := e_valid bd_bv (show 4 ≤ 100 by decide) (by omega)
 rwa [bd_val] at h
theorem e_bdv : Pure PP 39 [.ag bd.v] (ni 0) := by
 have h := e_pvalid (p := bd) (v := true) (pk_of bd_ok) (show 4 ≤ 12 by decide) (by decide) rfl rfl (by decide +kernel) (by decide +kernel) (by decide +kernel) (by decide +kernel) (by decide +kernel) e_bdval
 rwa [if_pos (by decide +kernel)] at h
theorem bd_en : En bd where
 id := ⟨by decide, by decide⟩
 home := ⟨by decide, by decide⟩
 r := by unfold W.Is64; decide
 m := by unfold W.Is64; decide
 nr := by decide
 nw := by decide
 nm := by decide
 q := by unfold Fs; decide +kernel
theorem bd_len : (cutT bd.rimV).length = 2 := by decide +kernel
end Go.Proofs.YtnpdpjfdgialeaaGreatDoor.E.Pc
namespace Go.Proofs.YtnpdpjfdgialeaaGreatDoor.E.Pc
open Go.RowKit
set_option linter.unusedVariables false
set_option linter.unusedSimpArgs false
def bdL : Ct.Pi := { bd with light := Rat.divInt 2 1 }
def bdF : Ct.Pi := { bd with id := 1000 }
def bdM : Ct.Pi := { bd with marks := [0, 0, 0] }
theorem bdL_ok : bdL.Ok 100 := { bd_ok with light := Bq.mono (j := 11) (Bq.divInt (by unfold I.Bd; decide) (by unfold I.Bd; decide) (by omega)) (by omega) }
theorem e_bdLv : Pure PP 39 [.ag bdL.v] (ni 1) := by
 have h := e_pvalid (p := bdL) (v := true) (pk_of bdL_ok) (show 4 ≤ 12 by decide) (by decide) rfl rfl (by decide +kernel) (by decide +kernel) (by decide +kernel) (by decide +kernel) (by decide +kernel) e_bdval
 rwa [if_neg (by decide +kernel)] at h
theorem e_bdFv : Pure PP 39 [.ag bdF.v] (ni 5) := e_pv_rng (id := 1000) (home := 0) (P := bdR) (M := [0, 0, 0, 0]) (Wn := [false, false, false, false]) (a := ofR 0) (b := ofR (Rat.divInt 1 1)) (c := ofR (Rat.divInt 1 1)) (d := ofR (Rat.divInt 100 1)) (e := ofR (Rat.divInt 1 2)) (by decide) (by decide) (by decide)
theorem e_bdMv : Pure PP 39 [.ag bdM.v] (ni 1) := e_pv_len (id := 7) (home := 0) (P := bdR) (M := [0, 0, 0]) (Wn := [false, false, false, false]) (a := ofR 0) (b := ofR (Rat.divInt 1 1)) (c := ofR (Rat.divInt 1 1)) (d := ofR (Rat.divInt 100 1)) (e := ofR (Rat.divInt 1 2)) (by decide) (by decide) (by decide) (by decide)
def plS : Vc × (Rat × Rat) := (Ct.stillV, (0, 0))
def plT : Vc × (Rat × Rat) := ((0, Rat.divInt 1 1), (Rat.divInt 1 1, Rat.divInt 0 1))
theorem b8_ (x y : Int) (h : I.Bd 8 x ∧ I.Bd 8 y ∧ y ≠ 0) : Bq 100 (Rat.divInt x y) := Bq.mono (j := 8) (Bq.divInt h.1 h.2.1 h.2.2) (by omega)
theorem goodS : bd.Good plS 100 := ⟨bd_ok, fun a ha => (bd_bv a ha).mono (by omega), ⟨b8_ 1 1 (by unfold I.Bd; decide), Bq.zero (by omega)⟩, ⟨Bq.zero (by omega), Bq.zero (by omega)⟩, by decide, by omega⟩
theorem goodT : bd.Good plT 100 := ⟨bd_ok, fun a ha => (bd_bv a ha).mono (by omega), ⟨Bq.zero (by omega), b8_ 1 1 (by unfold I.Bd; decide)⟩, ⟨b8_ 1 1 (by unfold I.Bd; decide), b8_ 0 1 (by unfold I.Bd; decide)⟩, by decide, by omega⟩
theorem cenS : Ct.cenV bd plS = (Rat.divInt 2 1, Rat.divInt 3 2) := by decide +kernel
theorem cenT : Ct.cenV bd plT = (-(Rat.divInt 1 2), Rat.divInt 2 1) := by decide +kernel
theorem dPlS : dPl plS = dV Ct.stillV ++ (Ct.z4_ ++ Ct.z4_) := by
 show dV Ct.stillV ++ dV (0, 0) = _
 rw [Ct.dV_00]
theorem dPlT : dPl plT = (Ct.z4_ ++ dR (Rat.divInt 1 1)) ++ dV (Rat.divInt 1 1, Rat.divInt 0 1) := by
 show (dR 0 ++ dR (Rat.divInt 1 1)) ++ _ = _
 rw [dR_0]
 rfl
theorem bd_small : SmP bd.rim := by unfold SmP; decide
theorem e_lives : Pure PP 14 [] (bo true) := by
 have hv : bd.v = [ni 7, ni 0, .sl (Ct.ptR bdR), .sl (Ct.wnR [false, false, false, false]), zl [0, 0, 0, 0]] ++ (dR 0 ++ (dR (Rat.divInt 1 1) ++ (dR (Rat.divInt 1 1) ++ (dR (Rat.divInt 100 1) ++ dR (Rat.divInt 1 2))))) := rfl
 have hL : bdL.v = [ni 7, ni 0, .sl (Ct.ptR bdR), .sl (Ct.wnR [false, false, false, false]), zl [0, 0, 0, 0]] ++ (dR 0 ++ (dR (Rat.divInt 2 1) ++ (dR (Rat.divInt 1 1) ++ (dR (Rat.divInt 100 1) ++ dR (Rat.divInt 1 2))))) := rfl
 have hF : bdF.v = [ni 1000, ni 0, .sl (Ct.ptR bdR), .sl (Ct.wnR [false, false, false, false]), zl [0, 0, 0, 0]] ++ (dR 0 ++ (dR (Rat.divInt 1 1) ++ (dR (Rat.divInt 1 1) ++ (dR (Rat.divInt 100 1) ++ dR (Rat.divInt 1 2))))) := rfl
 have hM : bdM.v = [ni 7, ni 0, .sl (Ct.ptR bdR), .sl (Ct.wnR [false, false, false, false]), zl [0, 0, 0]] ++ (dR 0 ++ (dR (Rat.divInt 1 1) ++ (dR (Rat.divInt 1 1) ++ (dR (Rat.divInt 100 1) ++ dR (Rat.divInt 1 2))))) := rfl
 have eb := e_board
 have v1 := e_bdv
 have v2 := e_bdLv
 have v3 := e_bdMv
 have v4 := e_bdFv
 have z : ∀ x : Int, -1000 ≤ x ∧ x ≤ 1000 → W.Is64 x := fun x h => ⟨by omega, by omega⟩
 have q := fun (x y : Int) (hx : -1000 ≤ x ∧ x ≤ 1000) (hy : -1000 ≤ y ∧ y ≤ 1000) => e_of4 (z x hx) (z y hy)
 have o := fun (x y : Int) (hx : -1000 ≤ x ∧ x ≤ 1000) (hy : -1000 ≤ y ∧ y ≤ 1000) => e_vof (z x hx) (z y hy)
 have ce := e_pcells (pl := plS) (b := 8) (j := 100) bd_ok bd_bv (show 3 ≤ 4 by decide) (show 4 ≤ 900 by decide) e_bdval goodS.t goodS.a (by omega)
 have hcl : (rowsL ((cutT bd.rimV).map fun K => K.map (vput plS))).length = 2 := by
  have : (rowsL ((cutT bd.rimV).map fun K => K.map (vput plS))).length = _ := List.length_map ..
  rw [this, List.length_map, bd_len]
 have cr := (Ct.e_rim bd_ok).ro
 have hrl : (bd.rimV.map dV).length = 4 := rfl
 have n1 := Ct.e_pcen goodS
 have n2 := Ct.e_pcen goodT
 rw [cenS] at n1
 rw [cenT] at n2
 have s1 := same_v (Rat.divInt 2 1, Rat.divInt 3 2)
 have s2 := same_v (-(Rat.divInt 1 2), Rat.divInt 2 1)
 have en := e_penc bd_en
 have de := e_pdec (t := []) bd_en e_bdv (by decide)
 rw [List.append_nil] at de
 have g1 := e_edgeV (p := bd) (k := 1) (by decide) (by decide) bd_small (z 1 (by omega))
 have g2 := e_edgeV (p := bd) (k := -1) (by decide) (by decide) bd_small (z (-1) (by omega))
 have g3 := e_square (p := bd) (k := 0) (by decide) (by decide) bd_small (z 0 (by omega))
 rw [show edV bd.rim (edK 1 bd.rim.length) = (0, 3) by decide] at g1
 rw [show edV bd.rim (edK (-1) bd.rim.length) = (0, -3) by decide] at g2
 rw [show sqV bd.rim (edK 0 bd.rim.length) = 16 by decide] at g3
 have s3 := same_v (Rat.divInt 0 1, Rat.divInt 3 1)
 have s4 := same_v (Rat.divInt 0 1, Rat.divInt (-3) 1)
 have sm := e_same1 bd
 have hel : (byL (encP bd)).length = (encP bd).length := byL_len _
 rw [dPlS] at ce n1
 rw [dPlT] at n2
 rw [hv] at *
 rw [hL] at v2
 rw [hM] at v3
 rw [hF] at v4
 have q21 := q 2 1 (by omega) (by omega)
 have q12 := q 1 2 (by omega) (by omega)
 have q11 := q 1 1 (by omega) (by omega)
 have q32 := q 3 2 (by omega) (by omega)
 have o10 := o 1 0 (by omega) (by omega)
 have o03 := o 0 3 (by omega) (by omega)
 have o04 := o 0 (-3) (by omega) (by omega)
 have ng := e_neg4 (Rat.divInt 1 2)
 clear q o z
 change Pure PP _ _ (.ag (dV (Rat.divInt 0 1, Rat.divInt 3 1))) at g1
 change Pure PP _ _ (.ag (dV (Rat.divInt 0 1, Rat.divInt (-3) 1))) at g2
 change Pure PP _ _ (.v (.sl (bd.rimV.map dV))) at cr
 simp only [dR_0] at *
 generalize rowsL ((cutT bd.rimV).map fun K => K.map (vput plS)) = RW at *
 generalize bd.rimV.map dV = RM at *
 generalize encP bd = EB at *
 generalize Rat.divInt 1 1 = r11 at *
 generalize Rat.divInt 2 1 = r21 at *
 generalize Rat.divInt 3 2 = r32 at *
 generalize Rat.divInt 0 1 = r01 at *
 generalize Rat.divInt 3 1 = r31 at *
 generalize Rat.divInt (-3) 1 = rm31 at *
 generalize Rat.divInt 100 1 = r100 at *
 generalize Rat.divInt 1 2 = r12 at *
 exact tr [cl eb, cl eb, cl q21, cl eb, .slc (zs [0, 0, 0, 0]) 0 3 1 (zs [0, 0, 0]) rfl (by decide) (fun cs h => (zs_z1 _ cs h).1), cl eb, cl v1, nf, cl v2, nf, cl v3, nf, cl v4, nf, cl q12, cl Ct.e_still5, cl q11, cl o10,
  cl ce, .eqv 50 (ni (RW.length : Int)) (ni 2) (by rw [hcl]; rfl), nf, cl cr, .eqv 55 (ni (RM.length : Int)) (ni 4) (by rw [hrl]; rfl), nf, cl n1, cl q21, cl q32, cl s1, nf, cl n2, cl ng, cl q21, cl s2, nf,
  cl en, cl de, cl g1, cl o03, cl s3, yt, cl g2, cl o04, cl s4, yt, cl g3, yt, yt, cl en, .eqv 109 (ni ((byL EB).length : Int)) (ni (EB.length : Int)) (by rw [hel]), ye (t := (EB.length : Int) == (EB.length : Int)) (by simp), cl sm] (by kernel_rfl)
end Go.Proofs.YtnpdpjfdgialeaaGreatDoor.E.Pc





namespace Go.Proofs.YtnpdpjfdgialeaaGreatDoor.E.Pc
open Go.RowKit
set_option linter.unusedVariables false
set_option linter.unusedSimpArgs false
section
variable {l : List Int} {k : Int} {P : List (Int × Int)} {p : Ct.Pi} {i j n m q : Nat}
theorem bq8 {x y : Int} (hx : -200 ≤ x ∧ x ≤ 200) (hy : 1 ≤ y ∧ y ≤ 200) : Bq 8 (Rat.divInt x y) := Bq.divInt (k := 8) (by unfold I.Bd; omega) (by unfold I.Bd; omega) (by omega)
theorem p12_bits (l : List Int) : Bq 8 (Ct.p12 l).tol ∧ Bq 8 (Ct.p12 l).light ∧ Bq 20 (Ct.p12 l).heavy ∧ Bq 8 (Ct.p12 l).str ∧ Bq 8 (Ct.p12 l).rough := by
 unfold Ct.p12
 generalize Ct.rimP l = P at *
 have a10 := atz_in l 10 2
 have a11 := atz_in l 11 5
 have a12 := atz_in l 12 3
 have a13 := atz_in l 13 99
 have a14 := atz_in l 14 4
 have bl : Bq 8 (Ct.pLight l) := bq8 (by omega) (by omega)
 exact ⟨bq8 (x := atz l 10 2) (y := 4) (by omega) (by omega), bl, (bl.add (bq8 (x := atz l 12 3) (y := 2) (by omega) (by omega))).mono (by omega), bq8 (x := 20 + atz l 13 99) (y := 1) (by omega) (by omega), bq8 (x := atz l 14 4) (y := 4) (by omega) (by omega)⟩
theorem p12_sm (l : List Int) : ∀ c ∈ (Ct.p12 l).rim, (-12 ≤ c.1 ∧ c.1 ≤ 12) ∧ (-12 ≤ c.2 ∧ c.2 ≤ 12) := fun c hc => by
 rw [Ct.p12_rim] at hc
 have := (Ct.rimP_in l).1 c hc
 unfold Ct.Sm_ at this
 omega
theorem p12_len (l : List Int) : 3 ≤ (Ct.p12 l).rim.length ∧ (Ct.p12 l).rim.length ≤ 5 := by
 rw [Ct.p12_rim]
 exact (Ct.rimP_in l).2
end
end Go.Proofs.YtnpdpjfdgialeaaGreatDoor.E.Pc

