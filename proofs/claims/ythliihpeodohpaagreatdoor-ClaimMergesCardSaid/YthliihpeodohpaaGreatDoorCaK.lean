/-
 CLAIMS: Odd, Some, by the engine (printed by gen/cak.py).
-/
import Derived.Test.YthliihpeodohpaaGreatDoorCaF

namespace Go.Proofs.YthliihpeodohpaaGreatDoor.E.Ca
open Go.RowKit
set_option linter.unusedVariables false
set_option linter.unusedSimpArgs false
section
variable {n r : Int} {l : List Int} {at_i k : Nat}
/-- One of six turns. -/
def turnQ (r : Int) : Rat × Rat := if r = 0 then (Rat.divInt 1 1, 0) else if r = 1 then (0, Rat.divInt 1 1) else if r = 2 then (Rat.divInt (-1) 1, 0) else if r = 3 then (0, Rat.divInt (-1) 1) else if r = 4 then (Rat.divInt 3 5, Rat.divInt 4 5) else (Rat.divInt (-5) 13, Rat.divInt 12 13)
theorem o4 {x y : Int} (hx : -100 ≤ x ∧ x ≤ 100) (hy : -100 ≤ y ∧ y ≤ 100) : Pure PP 43 [ni x, ni y] (.ag (dR (Rat.divInt x y))) := e_of4 (i64 (by omega)) (i64 (by omega))
theorem e_turn (hn : W.Is64 n) : Pure PP 40 [ni n] (.ag (dR (turnQ (rnd n 5)).1 ++ dR (turnQ (rnd n 5)).2)) := by
 have ha := e_around hn 5
 have hr := rnd_in n 5
 generalize rnd n 5 = r at ha hr
 have hc : r = 0 ∨ r = 1 ∨ r = 2 ∨ r = 3 ∨ r = 4 ∨ r = 5 := by omega
 rcases hc with rfl | rfl | rfl | rfl | rfl | rfl
 · rw [show turnQ 0 = (Rat.divInt 1 1, 0) from rfl]; dsimp only; rw [dR_0]
   exact tr [cl ha, yt, cl (o4 (x := 1) (y := 1) (by omega) (by omega))] (by kernel_rfl)
 · rw [show turnQ 1 = (0, Rat.divInt 1 1) from rfl]; dsimp only; rw [dR_0]
   exact tr [cl ha, nf, yt, cl (o4 (x := 1) (y := 1) (by omega) (by omega))] (by kernel_rfl)
 · rw [show turnQ 2 = (Rat.divInt (-1) 1, 0) from rfl]; dsimp only; rw [dR_0]
   exact tr [cl ha, nf, nf, yt, cl (o4 (x := -1) (y := 1) (by omega) (by omega))] (by kernel_rfl)
 · rw [show turnQ 3 = (0, Rat.divInt (-1) 1) from rfl]; dsimp only; rw [dR_0]
   exact tr [cl ha, nf, nf, nf, yt, cl (o4 (x := -1) (y := 1) (by omega) (by omega))] (by kernel_rfl)
 · exact tr [cl ha, nf, nf, nf, nf, yt, cl (o4 (x := 3) (y := 5) (by omega) (by omega)), cl (o4 (x := 4) (y := 5) (by omega) (by omega))] (by kernel_rfl)
 · exact tr [cl ha, nf, nf, nf, nf, nf, cl (o4 (x := -5) (y := 13) (by omega) (by omega)), cl (o4 (x := 12) (y := 13) (by omega) (by omega))] (by kernel_rfl)
def smK (n : Int) : Nat := (rnd n 1099511627775).toNat
def smJ (n : Int) : Nat := smK n % 6
def smP (n : Int) : Int := ((smK n / 6 % (16 * (smJ n + 1) + 1) : Nat) : Int) - ((8 * (smJ n + 1) : Nat) : Int)
def smallQ (n : Int) : Rat := Rat.divInt (smP n) ((smJ n + 1 : Nat) : Int)
theorem sm_in (n : Int) : rnd n 1099511627775 = (smK n : Int) ∧ smJ n < 6 ∧ -48 ≤ smP n ∧ smP n ≤ 48 := by
 have := rnd_in n 1099511627775
 have hj : smJ n < 6 := Nat.mod_lt _ (by omega)
 have h2 := Nat.mod_lt (smK n / 6) (show 0 < 16 * (smJ n + 1) + 1 by omega)
 refine ⟨by unfold smK; omega, hj, ?_⟩
 unfold smP
 omega
theorem e_small (hn : W.Is64 n) : Pure PP 41 [ni n] (.ag (dR (smallQ n))) := by
 have ha := e_around hn 1099511627775
 obtain ⟨h1, h2, h3, h4⟩ := sm_in n
 have h5 : smK n ≤ 1099511627775 := by have := rnd_in n 1099511627775; omega
 rw [h1] at ha
 exact tr [cl ha, .eqv 8 (ni ((smK n : Int).tmod 6)) (ni (smJ n : Int)) (by rw [show ((6 : Int)) = ((6 : Nat) : Int) from rfl, tmod_]; rfl), wq 9 (1 + (smJ n : Int)) ((smJ n + 1 : Nat) : Int) (by omega),
   wq 11 ((smK n : Int).tdiv 6) ((smK n / 6 : Nat) : Int) ⟨rfl, by omega⟩, wq 13 (16 * ((smJ n + 1 : Nat) : Int)) ((16 * (smJ n + 1) : Nat) : Int) (by omega), wq 14 (((16 * (smJ n + 1) : Nat) : Int) + 1) ((16 * (smJ n + 1) + 1 : Nat) : Int) (by omega),
   .eqv 15 (ni (((smK n / 6 : Nat) : Int).tmod ((16 * (smJ n + 1) + 1 : Nat) : Int))) (ni ((smK n / 6 % (16 * (smJ n + 1) + 1) : Nat) : Int)) (by rw [tmod_]), wq 17 (8 * ((smJ n + 1 : Nat) : Int)) ((8 * (smJ n + 1) : Nat) : Int) (by omega), wq 18 (((smK n / 6 % (16 * (smJ n + 1) + 1) : Nat) : Int) - ((8 * (smJ n + 1) : Nat) : Int)) (smP n) (by unfold smP at *; omega), cl (o4 (x := smP n) (y := ((smJ n + 1 : Nat) : Int)) (by omega) (by omega))] (by kernel_rfl)
theorem small_bits (n : Int) : Bq 7 (smallQ n) := by
 obtain ⟨h1, h2, h3, h4⟩ := sm_in n
 exact Bq.divInt (bd7 (by omega) (by omega)) (bd7 (by omega) (by omega)) (by omega)
/-- The generator's fit. -/
def fitQ (l : List Int) (i : Nat) : FQ :=
 ⟨atz l i 2, atz l i 2 + 1 + atz l (i + 1) 1, atz l (i + 2) 11, atz l (i + 3) 11, 1 + atz l (i + 4) 2, (turnQ (rnd (atz l (i + 5) 5) 5)).1, (turnQ (rnd (atz l (i + 5) 5) 5)).2, smallQ (atz l (i + 6) 999), smallQ (atz l (i + 7) 999), smallQ (atz l (i + 6) 999) + Rat.divInt (atz l (i + 8) 2) 2, smallQ (atz l (i + 7) 999)⟩
noncomputable def at_n (t i k : Nat) (h : i + k < 9000000000000000000) : F_ := wq t ((i : Int) + (k : Int)) ((i + k : Nat) : Int) (by omega)
theorem e_fit (hl : ∀ x ∈ l, W.Is64 x) (i : Nat) (hi : i < 1000000) : Pure PP 17 [zl l, ni i] (.ag (dF (fitQ l i).fm)) := by
 have h0 := atz_in l i 2
 have h1 := atz_in l (i + 1) 1
 have h4 := atz_in l (i + 4) 2
 have h5 := atz_in l (i + 5) 5
 have h6 := atz_in l (i + 6) 999
 have h7 := atz_in l (i + 7) 999
 have h8 := atz_in l (i + 8) 2
 exact tr [cl (e_at hl i 2), wq 12 (atz l i 2 + 1) (atz l i 2 + 1) (by omega), at_n 15 i 1 (by omega), cl (e_at hl (i + 1) 1), wq 17 (atz l i 2 + 1 + atz l (i + 1) 1) (atz l i 2 + 1 + atz l (i + 1) 1) (by omega), at_n 20 i 2 (by omega), cl (e_at hl (i + 2) 11), at_n 24 i 3 (by omega), cl (e_at hl (i + 3) 11), at_n 28 i 4 (by omega), cl (e_at hl (i + 4) 2), wq 30 (1 + atz l (i + 4) 2) (1 + atz l (i + 4) 2) (by omega), at_n 33 i 5 (by omega), cl (e_at hl (i + 5) 5), cl (e_turn (n := atz l (i + 5) 5) (i64 (by omega))),
   at_n 39 i 6 (by omega), cl (e_at hl (i + 6) 999), cl (e_small (n := atz l (i + 6) 999) (i64 (by omega))), at_n 44 i 7 (by omega), cl (e_at hl (i + 7) 999), cl (e_small (n := atz l (i + 7) 999) (i64 (by omega))),
   at_n 54 i 8 (by omega), cl (e_at hl (i + 8) 2), cl (o4 (x := atz l (i + 8) 2) (y := 2) (by omega) (by omega)), cl (e_add4 (small_bits (atz l (i + 6) 999)) (Bq.divInt (bd7 (x := atz l (i + 8) 2) (by omega) (by omega)) (bd7 (x := 2) (by omega) (by omega)) (by omega)) (by omega))] (by kernel_rfl)
/-- Nothing. -/
def rz : RN := ⟨false, [], false, []⟩
def zF : FM := ⟨0, 0, 0, 0, 0, rz, rz, rz, rz, rz, rz⟩
theorem ofR_0 : ofR 0 = rz := by
 unfold ofR rz
 rw [show (0 : Rat).num = 0 from rfl, dq_one (r := (0 : Rat)) rfl, show digs (0 : Int).natAbs = [] from digs_z rfl]
 rfl
def zQ : FQ := ⟨0, 0, 0, 0, 0, 0, 0, 0, 0, 0, 0⟩
theorem zQ_fm : zQ.fm = zF := by unfold zQ FQ.fm zF; rw [ofR_0]
end
end Go.Proofs.YthliihpeodohpaaGreatDoor.E.Ca
namespace Go.Proofs.YthliihpeodohpaaGreatDoor.E.Ca
open Go.RowKit
set_option linter.unusedVariables false
set_option linter.unusedSimpArgs false
def posN (o : List (Int × Int)) (n : Int × Int) : Nat → Nat
 | 0 => 0
 | k + 1 => if lessN n (o.getD k (0, 0)) = true then posN o n k else k + 1
def insN (o : List (Int × Int)) (n : Int × Int) : List (Int × Int) := o.take (posN o n o.length) ++ [n] ++ o.drop (posN o n o.length)
def bitB (bits : Int) (i : Nat) : Bool := (bits.fdiv (2 ^ min (IntKind.u64.wrap (i : Int)).toNat IntKind.i64.bits)).tmod 2 == 1
def refsF (L : List CM) (bits : Int) : Nat → List (Int × Int)
 | 0 => []
 | i + 1 => if bitB bits i = true then insN (refsF L bits i) (L.getD i ⟨0, 0, 0, 0, [], zF, 0⟩).nm else refsF L bits i
abbrev c0 : CM := ⟨0, 0, 0, 0, [], zF, 0⟩
section
variable {L : List CM} {bits : Int} {i k : Nat} {o : List (Int × Int)} {n : Int × Int}
theorem posN_le : ∀ k, posN o n k ≤ k
 | 0 => Nat.le_refl _
 | k + 1 => by
  unfold posN
  split
  · exact Nat.le_succ_of_le (posN_le k)
  · exact Nat.le_refl _
theorem insN_len : (insN o n).length = o.length + 1 := by
 have := posN_le (o := o) (n := n) o.length
 unfold insN
 simp
 omega
theorem refsF_len : ∀ i, (refsF L bits i).length ≤ i
 | 0 => Nat.le_refl _
 | i + 1 => by
  have := refsF_len i
  unfold refsF
  split
  · rw [insN_len]; omega
  · omega
theorem nm_ok (o : List (Int × Int)) : ∀ cs ∈ rfs o, cs.length = 2 ∧ cs.all one = true := fun cs h => by
 obtain ⟨a, _, rfl⟩ := List.mem_map.1 h
 exact ⟨rfl, rfl⟩
theorem nm_len (o : List (Int × Int)) : ∀ cs ∈ rfs o, cs.length = 2 := fun cs h => (nm_ok o cs h).1
theorem rfs_len (o : List (Int × Int)) : (rfs o).length = o.length := List.length_map ..
theorem rfs_app (a b : List (Int × Int)) : rfs a ++ rfs b = rfs (a ++ b) := List.map_append.symm
theorem getc {L : List CM} (h : i < L.length) : L[i]? = some (L.getD i c0) := by rw [List.getD_eq_getElem?_getD, List.getElem?_eq_getElem h]; rfl
theorem elC {L : List CM} (h : i < L.length) : (L.map dC)[i]? = some (dC (L.getD i c0)) := sel_map (f := dC) (getc h)
noncomputable abbrev frs : Func := fnOf PP 16
noncomputable def XR (L : List CM) (bits : Int) (o : List (Int × Int)) (i : Nat) : St := at_ frs [(0, .sl (L.map dC)), (1, ni bits), (5, .ow 0), (6, ni i)] [.rw 29 2 (rfs o)]
noncomputable def YR (L : List CM) (bits : Int) (o : List (Int × Int)) (i : Nat) (n : Int × Int) (k : Nat) : St := at_ frs [(0, .sl (L.map dC)), (1, ni bits), (5, .sl (rfs o)), (6, ni i), (7, .lp 1 0), (8, ni k)] [.dead, .bx 29 (nm n)]
abbrev GRs (D : RD) (td : List Item) (σ : St) : Prop := Gd PP 16 D td σ
theorem refs_in {R : List (List V)} (hk : k ≤ o.length) (hn : o.length ≤ 1000) (hi : i < 1000) (he : posN o n o.length = posN o n k) (next : GRs (.o 29 2 R) (lp frs 0) (XR L bits (insN o n) (i + 1))) : GRs (.o 29 2 R) (lp frs 1) (YR L bits o i n k) := by
 refine Gd.loop (YR L bits o i n) (fun k => k ≤ o.length ∧ posN o n o.length = posN o n k) (fun k => k) ?_ k ⟨hk, he⟩
 intro k ⟨hk, he⟩ ih
 match k, hk, he, ih with
 | 0, hk, he, ih =>
  have hin : insN o n = [] ++ [n] ++ o := by unfold insN; rw [he]; rfl
  rw [hin] at next
  by_cases h0 : o = []
  · subst h0
    exact .to mo_ [.mv 0 4] [0, 1, 5, 6] [0] 1 [na (t := decide (((0 : Nat) : Int) > 0)) rfl, nf, .slc (rfs []) 0 0 2 [] rfl ⟨Nat.le_refl _, Nat.le_refl _⟩ (nm_len []), .ape [] rfl, .app [] [nm n] [nm n] 2000 rfl (by simp) (by simp), .slc (rfs []) 0 0 2 [] rfl ⟨Nat.le_refl _, Nat.le_refl _⟩ (nm_len []), .ape [] rfl, inc 18 i (by omega)] next (by kernel_rfl)
  · have hp : 0 < o.length := List.length_pos_iff.2 h0
    exact .to mo_ [.mv 0 5] [0, 1, 5, 6] [0] 1 [na (t := decide (((0 : Nat) : Int) > 0)) rfl, nf, .slc (rfs o) 0 0 2 [] rfl ⟨Nat.le_refl _, Nat.zero_le _⟩ (nm_len o), .ape [] rfl, .app [] [nm n] [nm n] 2000 rfl (by simp) (by simp), .slc (rfs o) 0 (rfs o).length 2 (rfs o) (by rw [List.take_length]; rfl) ⟨Nat.zero_le _, Nat.le_refl _⟩ (nm_len o), .aps [nm n] (rfs o) (rfs ([] ++ [n] ++ o)) 2000 2 rfl (by rw [rfs_len]; exact hp) (by simp [rfs]; omega) (nm_ok o), inc 18 i (by omega)] next (by kernel_rfl)
 | k + 1, hk, he, ih =>
  have el := el_n (rf := o) (i := k) (by omega)
  have hgt : decide (((k + 1 : Nat) : Int) > 0) = true := decide_eq_true (by omega)
  cases hb : lessN n (o.getD k (0, 0)) with
  | true => exact .to mo_ [] [0, 1, 5, 6, 7, 8] [1] 2 [ye hgt, wq 44 (((k + 1 : Nat) : Int) - 1) (k : Int) (by omega), .sel _ _ _ el, cl (e_less6 n (o.getD k (0, 0))), ye (t := lessN n (o.getD k (0, 0))) hb, wq 50 (((k + 1 : Nat) : Int) - 1) (k : Int) (by omega)] (ih k ⟨by omega, by rw [he]; show (if lessN n (o.getD k (0, 0)) = true then _ else _) = _; rw [if_pos hb]⟩ (by omega)) (by kernel_rfl)
  | false =>
   have hpos : posN o n o.length = k + 1 := by rw [he]; show (if lessN n (o.getD k (0, 0)) = true then _ else _) = _; rw [if_neg (by rw [hb]; exact Bool.false_ne_true)]
   have hin : insN o n = o.take (k + 1) ++ [n] ++ o.drop (k + 1) := by unfold insN; rw [hpos]
   rw [hin] at next
   have ht : (rfs o).take (k + 1) = rfs (o.take (k + 1)) := by unfold rfs; rw [List.map_take]
   have hd : (rfs o).drop (k + 1) = rfs (o.drop (k + 1)) := by unfold rfs; rw [List.map_drop]
   let F : List F_ := [ye hgt, wq 44 (((k + 1 : Nat) : Int) - 1) (k : Int) (by omega), .sel _ _ _ el, cl (e_less6 n (o.getD k (0, 0))), na (t := lessN n (o.getD k (0, 0))) hb, .slc (rfs o) 0 (k + 1) 2 (rfs (o.take (k + 1))) (by rw [← ht]; rfl) ⟨Nat.zero_le _, by rw [rfs_len]; exact hk⟩ (nm_len o), .aps [] (rfs (o.take (k + 1))) (rfs (o.take (k + 1))) 2000 2 rfl (by rw [rfs_len, List.length_take]; omega) (by rw [rfs_len, List.length_take]; omega) (nm_ok _), .app (rfs (o.take (k + 1))) [nm n] (rfs (o.take (k + 1) ++ [n])) 2000 (by rw [← rfs_app]; rfl) (by simp) (by rw [rfs_len]; simp; omega)]
   by_cases h0 : o.drop (k + 1) = []
   · rw [h0, List.append_nil] at next
     exact .to mo_ [.mv 0 5] [0, 1, 5, 6] [0] 1 (F ++ [.slc (rfs o) (k + 1) (rfs o).length 2 [] (by rw [List.take_length, hd, h0]; rfl) ⟨by rw [rfs_len]; exact hk, Nat.le_refl _⟩ (nm_len o), .ape [] rfl, inc 18 i (by omega)]) next (by kernel_rfl)
   · have hp : 0 < (o.drop (k + 1)).length := List.length_pos_iff.2 h0
     exact .to mo_ [.mv 0 6] [0, 1, 5, 6] [0] 1 (F ++ [.slc (rfs o) (k + 1) (rfs o).length 2 (rfs (o.drop (k + 1))) (by rw [List.take_length, hd]) ⟨by rw [rfs_len]; exact hk, Nat.le_refl _⟩ (nm_len o), .aps (rfs (o.take (k + 1) ++ [n])) (rfs (o.drop (k + 1))) (rfs (o.take (k + 1) ++ [n] ++ o.drop (k + 1))) 2000 2 (rfs_app _ _) (by rw [rfs_len]; exact hp) (by rw [rfs_len]; simp; omega) (nm_ok _), inc 18 i (by omega)]) next (by kernel_rfl)
theorem e_refs (hL : L.length ≤ 10) (hw : W.Is64 bits) : Pure PP 16 [.sl (L.map dC), ni bits] (.o 29 2 (rfs (refsF L bits L.length))) := by
 have hl : (L.map dC).length = L.length := List.length_map ..
 refine pf (by kernel_rfl) (.to mo_ [.ow 5 (.rw 29 2 [])] [0, 1, 5, 6] [0] 1 [] (td' := lp frs 0) (σ' := XR L bits [] 0) ?_ (by kernel_rfl))
 refine Gd.loop (fun x : Nat × List (Int × Int) => XR L bits x.2 x.1) (fun x => x.1 ≤ L.length ∧ x.2 = refsF L bits x.1) (fun x => L.length - x.1) ?_ (0, []) ⟨Nat.zero_le _, rfl⟩
 rintro ⟨i, o⟩ ⟨hi, ho⟩ ih
 simp only at hi ho
 subst ho
 have hlen := refsF_len (L := L) (bits := bits) i
 by_cases h : i < L.length
 · have e := elC h
   have hi10 : decide ((i : Int) < 10) = true := decide_eq_true (by omega)
   have hlt : decide ((i : Int) < ((L.map dC).length : Int)) = true := decide_eq_true (by omega)
   let F : List F_ := [ye hlt, ye hi10, .sel _ _ _ e, .sel _ _ _ e]
   cases hb : bitB bits i with
   | false => exact .to mo_ [] [0, 1, 5, 6] [0] 1 (F ++ [na (t := bitB bits i) hb, inc 18 i (by omega)]) (ih (i + 1, refsF L bits i) ⟨h, by show _ = (if bitB bits i = true then _ else _); rw [if_neg (by rw [hb]; exact Bool.false_ne_true)]⟩ (by simp only; omega)) (by kernel_rfl)
   | true =>
    refine .to mo_ [.fz 5] [0, 1, 5, 6, 7, 8] [1] 2 (F ++ [ye (t := bitB bits i) hb, .eqv 8 (ni ((rfs (refsF L bits i)).length : Int)) (ni ((refsF L bits i).length : Int)) (by rw [rfs_len])]) (td' := lp frs 1) (σ' := YR L bits (refsF L bits i) i (L.getD i c0).nm (refsF L bits i).length) ?_ (by kernel_rfl)
    exact refs_in (Nat.le_refl _) (by omega) (by omega) rfl (ih (i + 1, insN (refsF L bits i) (L.getD i c0).nm) ⟨h, by show _ = (if bitB bits i = true then _ else _); rw [if_pos hb]⟩ (by simp only; omega))
 · rw [show L.length = i by omega]
   exact fi [na (t := decide ((i : Int) < ((L.map dC).length : Int))) (decide_eq_false (by omega)), nf] (by kernel_rfl) (by kernel_rfl)
end
end Go.Proofs.YthliihpeodohpaaGreatDoor.E.Ca
namespace Go.Proofs.YthliihpeodohpaaGreatDoor.E.Ca
open Go.RowKit
set_option linter.unusedVariables false
set_option linter.unusedSimpArgs false
def byG (l : List Int) (i : Nat) : Int := atz l (5 * i) 2
def kdG (l : List Int) (i : Nat) : Int := (atz l (5 * i + 1) 4).tmod 4
def seqG (L : List CM) (b : Int) (k : Nat) : Nat := ((L.take k).filter fun c => c.by_ == b).length
def tkG (tick : Int) (l : List Int) (i : Nat) : Int := tick + 1 + atz l (5 * i + 2) 1
def bitsG (l : List Int) (i : Nat) : Int := 1 + atz l (5 * i + 3) 1023
def rfG (L : List CM) (l : List Int) (i : Nat) : List (Int × Int) := refsF L (bitsG l i) L.length
/-- A claim of a kind. -/
def clG (l : List Int) (i : Nat) (b s t : Int) (rf : List (Int × Int)) : Int → CM
 | 0 => ⟨b, s, t, 0, [], zF, 1 + atz l (5 * i + 4) 8⟩
 | 1 => ⟨b, s, t, 1, rf, (fitQ l (5 * i + 2)).fm, 0⟩
 | k => ⟨b, s, t, k, rf, zF, 0⟩
def kd2 (kd : Int) (rf : List (Int × Int)) : Int := if rf.length = 0 ∨ (kd = 2 ∧ rf.length < 2) then 0 else kd
def stepG (l : List Int) (i : Nat) (x : List CM × Int) : List CM × Int :=
 (x.1 ++ [clG l i (byG l i) (seqG x.1 (byG l i) x.1.length) (tkG x.2 l i) (rfG x.1 l i) (kd2 (kdG l i) (rfG x.1 l i))], tkG x.2 l i)
def goodF (l : List Int) : Nat → List CM × Int
 | 0 => ([], 0)
 | i + 1 => stepG l i (goodF l i)
def numG (l : List Int) : Nat := min 10 ((l.length + 3) / 5)
def goodL (l : List Int) : List CM := (goodF l (numG l)).1
section
variable {l : List Int} {L : List CM} {i k : Nat} {tick : Int}
theorem good_len : ∀ i, (goodF l i).1.length = i
 | 0 => rfl
 | i + 1 => by
  show ((goodF l i).1 ++ [_]).length = _
  rw [List.length_append, good_len i]; rfl
theorem good_tick : ∀ i, 0 ≤ (goodF l i).2 ∧ (goodF l i).2 ≤ 2 * i
 | 0 => ⟨Int.le_refl _, Int.le_refl _⟩
 | i + 1 => by
  have h := good_tick i
  have h2 := atz_in l (5 * i + 2) 1
  show 0 ≤ tkG _ l i ∧ tkG _ l i ≤ _
  unfold tkG
  omega
theorem kdG_in (l : List Int) (i : Nat) : kdG l i = 0 ∨ kdG l i = 1 ∨ kdG l i = 2 ∨ kdG l i = 3 := by
 have h := atz_in l (5 * i + 1) 4
 unfold kdG
 generalize atz l (5 * i + 1) 4 = x at *
 have hx : x = 0 ∨ x = 1 ∨ x = 2 ∨ x = 3 ∨ x = 4 := by omega
 rcases hx with rfl | rfl | rfl | rfl | rfl <;> decide
theorem seq_step (h : k < L.length) (b : Int) : seqG L b (k + 1) = if (L.getD k c0).by_ == b then seqG L b k + 1 else seqG L b k := by
 unfold seqG
 rw [List.take_add_one, getc h]
 cases g : ((L.getD k c0).by_ == b) <;> simp only [Option.toList, List.filter_append, List.length_append, List.filter_cons, g, List.filter_nil] <;> simp
theorem seq_le (L : List CM) (b : Int) (k : Nat) : seqG L b k ≤ k := by
 unfold seqG
 exact Nat.le_trans (List.length_filter_le _ _) (by rw [List.length_take]; omega)
theorem rf_k (o : List (Int × Int)) : ∀ cs ∈ rfs o, cs.all isK = true := fun cs h => by
 obtain ⟨a, _, rfl⟩ := List.mem_map.1 h
 rfl
theorem dC_ok (L : List CM) : ∀ cs ∈ L.map dC, cs.length = 35 ∧ cs.all one = true := fun cs h => by
 obtain ⟨a, _, rfl⟩ := List.mem_map.1 h
 exact ⟨rfl, rfl⟩
noncomputable abbrev fgd : Func := fnOf PP 6
noncomputable def XG (l : List Int) (L : List CM) (tick : Int) (i : Nat) : St := at_ fgd [(0, zl l), (1, .sl []), (5, .ow 0), (6, ni tick), (7, ni i)] [.rw 45 35 (L.map dC)]
noncomputable def YG (l : List Int) (L : List CM) (tick : Int) (i : Nat) (b s kd : Int) (k : Nat) : St := at_ fgd [(0, zl l), (1, .sl []), (5, .ow 0), (6, ni tick), (7, ni i), (8, ni b), (9, .lp 1 0), (10, ni k)] [.rw 45 35 (L.map dC), .bx 45 (dC ⟨b, s, 0, kd, [], zF, 0⟩)]
abbrev GGd (D : RD) (td : List Item) (σ : St) : Prop := Gd PP 6 D td σ
noncomputable def m5 (t i : Nat) (h : i < 1000) : F_ := wq t (5 * (i : Int)) ((5 * i : Nat) : Int) (by omega)
noncomputable def fRefs (L : List CM) (bits : Int) (hL : L.length ≤ 10) (hw : W.Is64 bits) : F_ := .newr false true 16 [.sl (L.map dC), ni bits] 29 2 (rfs (refsF L bits L.length)) (e_refs hL hw) (rf_k _)
/-- The rest of a round. -/
theorem good_rest {R : List (List V)} (hl : ∀ x ∈ l, W.Is64 x) (hL : L.length ≤ 10) (hi : i < 10) (ht : 0 ≤ tick ∧ tick ≤ 1000) {b s kd : Int} (hkd : kd = 0 ∨ kd = 1 ∨ kd = 2 ∨ kd = 3)
  (next : GGd (.o 45 35 R) (lp fgd 0) (XG l (L ++ [clG l i b s (tkG tick l i) (rfG L l i) (kd2 kd (rfG L l i))]) (tkG tick l i) (i + 1))) : GGd (.o 45 35 R) (lp fgd 1) (YG l L tick i b s kd L.length) := by
 have hge : decide (((L.length : Nat) : Int) < ((L.map dC).length : Int)) = false := decide_eq_false (by rw [List.length_map]; omega)
 have h2 := atz_in l (5 * i + 2) 1
 have h3 := atz_in l (5 * i + 3) 1023
 have h4 := atz_in l (5 * i + 4) 8
 have hrl : (rfs (rfG L l i)).length = (rfG L l i).length := rfs_len _
 let F0 : List F_ := [na hge, wq 53 (tick + 1) (tick + 1) (by omega), m5 56 i (by omega), at_n 57 (5 * i) 2 (by omega), cl (e_at hl (5 * i + 2) 1), wq 59 (tick + 1 + atz l (5 * i + 2) 1) (tkG tick l i) (by unfold tkG; omega), m5 65 i (by omega), at_n 66 (5 * i) 3 (by omega), cl (e_at hl (5 * i + 3) 1023), wq 68 (1 + atz l (5 * i + 3) 1023) (bitsG l i) (by unfold bitsG; omega), fRefs L (bitsG l i) hL (by unfold W.Is64 bitsG; omega)]
 let FN : List F_ := [m5 93 i (by omega), at_n 94 (5 * i) 4 (by omega), cl (e_at hl (5 * i + 4) 8), wq 96 (1 + atz l (5 * i + 4) 8) (1 + atz l (5 * i + 4) 8) (by omega)]
 let FF : List F_ := [m5 103 i (by omega), at_n 104 (5 * i) 2 (by omega), cl (e_fit hl (5 * i + 2) (by omega)), nf]
 have fin : ∀ c : CM, (L.map dC) ++ [dC c] = (L ++ [c]).map dC := fun c => by simp
 have hlen : ∀ c : CM, ((L ++ [c]).map dC).length ≤ 2000 := fun c => by simp; omega
 by_cases h0 : (rfG L l i).length = 0
 · rw [show kd2 kd (rfG L l i) = 0 from by unfold kd2; rw [if_pos (.inl h0)]] at next
   have e0 : (((rfs (rfG L l i)).length : Int) == 0) = true := by rw [hrl, h0]; rfl
   exact .to mo_ [.mv 0 3] [0, 1, 5, 6, 7] [0] 1 (F0 ++ [ye e0, yt, yt] ++ FN ++ [nf, .app _ _ _ 2000 (fin (clG l i b s (tkG tick l i) (rfG L l i) 0)) (by simp) (hlen _), inc 22 i (by omega)]) next (by kernel_rfl)
 · have e0 : (((rfs (rfG L l i)).length : Int) == 0) = false := by rw [hrl]; simp; intro e; rw [e] at h0; exact h0 rfl
   rcases hkd with rfl | rfl | rfl | rfl
   · rw [show kd2 0 (rfG L l i) = 0 from by unfold kd2; split <;> rfl] at next
     exact .to mo_ [.mv 0 3] [0, 1, 5, 6, 7] [0] 1 (F0 ++ [na e0, nf, nf, yt] ++ FN ++ [nf, .app _ _ _ 2000 (fin (clG l i b s (tkG tick l i) (rfG L l i) 0)) (by simp) (hlen _), inc 22 i (by omega)]) next (by kernel_rfl)
   · rw [show kd2 1 (rfG L l i) = 1 from by unfold kd2; rw [if_neg]; simp [h0]] at next
     exact .to mo_ [.mv 0 3] [0, 1, 5, 6, 7] [0] 1 (F0 ++ [na e0, nf, nf, nf, yt] ++ FF ++ [.app _ _ _ 2000 (fin (clG l i b s (tkG tick l i) (rfG L l i) 1)) (by simp) (hlen _), inc 22 i (by omega)]) next (by kernel_rfl)
   · by_cases h1 : (rfG L l i).length < 2
     · rw [show kd2 2 (rfG L l i) = 0 from by unfold kd2; rw [if_pos (.inr ⟨rfl, h1⟩)]] at next
       exact .to mo_ [.mv 0 3] [0, 1, 5, 6, 7] [0] 1 (F0 ++ [na e0, yt, ye (t := decide (((rfs (rfG L l i)).length : Int) < 2)) (decide_eq_true (by omega)), yt] ++ FN ++ [nf, .app _ _ _ 2000 (fin (clG l i b s (tkG tick l i) (rfG L l i) 0)) (by simp) (hlen _), inc 22 i (by omega)]) next (by kernel_rfl)
     · rw [show kd2 2 (rfG L l i) = 2 from by unfold kd2; rw [if_neg (by omega)]] at next
       exact .to mo_ [.mv 0 3] [0, 1, 5, 6, 7] [0] 1 (F0 ++ [na e0, yt, na (t := decide (((rfs (rfG L l i)).length : Int) < 2)) (decide_eq_false (by omega)), nf, nf] ++ [.app _ _ _ 2000 (fin (clG l i b s (tkG tick l i) (rfG L l i) 2)) (by simp) (hlen _), inc 22 i (by omega)]) next (by kernel_rfl)
   · rw [show kd2 3 (rfG L l i) = 3 from by unfold kd2; rw [if_neg (by omega)]] at next
     exact .to mo_ [.mv 0 3] [0, 1, 5, 6, 7] [0] 1 (F0 ++ [na e0, nf, nf, nf, nf] ++ [.app _ _ _ 2000 (fin (clG l i b s (tkG tick l i) (rfG L l i) 3)) (by simp) (hlen _), inc 22 i (by omega)]) next (by kernel_rfl)
theorem e_good (hl : ∀ x ∈ l, W.Is64 x) : Pure PP 6 [zl l, .sl []] (.o 45 35 ((goodL l).map dC)) := by
 have hz : (zs l).length = l.length := zs_len l
 refine .len 0 (l := zs l) (by kernel_rfl) rfl fun hm => ?_
 rw [hz] at hm
 unfold maxLen at hm
 refine pf (by kernel_rfl) (.to mo_ [.ow 5 (.rw 45 35 [])] [0, 1, 5, 6, 7] [0] 1 [] (td' := lp fgd 0) (σ' := XG l [] 0 0) ?_ (by kernel_rfl))
 refine Gd.loop (fun x : Nat × (List CM × Int) => XG l x.2.1 x.2.2 x.1) (fun x => x.1 ≤ numG l ∧ x.2 = goodF l x.1) (fun x => numG l - x.1) ?_ (0, ([], 0)) ⟨Nat.zero_le _, rfl⟩
 rintro ⟨i, ⟨L, tick⟩⟩ ⟨hi, ho⟩ ih
 simp only at hi ho
 have hN : numG l ≤ 10 := Nat.min_le_left _ _
 have hlen : L.length = i := by rw [show L = (goodF l i).1 from by rw [← ho]]; exact good_len i
 have htk : 0 ≤ tick ∧ tick ≤ 2 * i := by rw [show tick = (goodF l i).2 from by rw [← ho]]; exact good_tick i
 by_cases h : i < numG l
 · have h5 : 5 * i + 1 < l.length ∧ i < 10 := by unfold numG at h; omega
   let F : List F_ := [m5 12 i (by omega), at_n 13 (5 * i) 1 (by omega), ye (t := decide (((5 * i + 1 : Nat) : Int) < ((zs l).length : Int))) (decide_eq_true (by omega)), ye (t := decide ((i : Int) < 10)) (decide_eq_true (by omega)), m5 25 i (by omega), cl (e_at hl (5 * i) 2), m5 30 i (by omega), at_n 31 (5 * i) 1 (by omega), cl (e_at hl (5 * i + 1) 4)]
   refine .to mo_ [.wk 1] [0, 1, 5, 6, 7, 8, 9, 10] [0, 1] 2 F (td' := lp fgd 1) (σ' := YG l L tick i (byG l i) 0 (kdG l i) 0) ?_ (by kernel_rfl)
   refine Gd.loop (fun k => YG l L tick i (byG l i) (seqG L (byG l i) k : Nat) (kdG l i) k) (fun k => k ≤ L.length) (fun k => L.length - k) ?_ 0 (Nat.zero_le _)
   intro k hk jh
   by_cases g : k < L.length
   · have e := elC g
     have hs := seq_le L (byG l i) k
     have hst := seq_step g (byG l i)
     have hlt : decide ((k : Int) < ((L.map dC).length : Int)) = true := decide_eq_true (by rw [List.length_map]; omega)
     cases hb : ((L.getD k c0).by_ == byG l i) with
     | true =>
      rw [if_pos hb] at hst
      have hn := jh (k + 1) g (by omega)
      simp only [hst] at hn
      exact .to mo_ [] [0, 1, 5, 6, 7, 8, 9, 10] [0, 1] 2 [ye hlt, .sel _ _ _ e, .sel _ _ _ e, ye (t := (L.getD k c0).by_ == byG l i) hb, inc 50 (seqG L (byG l i) k) (by omega), inc 40 k (by omega)] hn (by kernel_rfl)
     | false =>
      rw [if_neg (by rw [hb]; exact Bool.false_ne_true)] at hst
      have hn := jh (k + 1) g (by omega)
      simp only [hst] at hn
      exact .to mo_ [] [0, 1, 5, 6, 7, 8, 9, 10] [0, 1] 2 [ye hlt, .sel _ _ _ e, .sel _ _ _ e, na (t := (L.getD k c0).by_ == byG l i) hb, inc 40 k (by omega)] hn (by kernel_rfl)
   · have hk2 : k = L.length := by omega
     subst hk2
     refine good_rest hl (by omega) (by omega) (by omega) (kdG_in l i) ?_
     exact ih (i + 1, stepG l i (L, tick)) ⟨h, by show stepG l i (L, tick) = stepG l i (goodF l i); rw [← ho]⟩ (by simp only; omega)
 · have hn : goodL l = L := by unfold goodL; rw [show numG l = i by omega, ← ho]
   rw [hn]
   have h5 : ¬ (5 * i + 1 < l.length) ∨ ¬ i < 10 := by unfold numG at h hi; omega
   by_cases h6 : 5 * i + 1 < l.length
   · exact fi [m5 12 i (by omega), at_n 13 (5 * i) 1 (by omega), ye (t := decide (((5 * i + 1 : Nat) : Int) < ((zs l).length : Int))) (decide_eq_true (by omega)), na (t := decide ((i : Int) < 10)) (decide_eq_false (by omega))] (by kernel_rfl) (by kernel_rfl)
   · exact fi [m5 12 i (by omega), at_n 13 (5 * i) 1 (by omega), na (t := decide (((5 * i + 1 : Nat) : Int) < ((zs l).length : Int))) (decide_eq_false (by omega)), nf] (by kernel_rfl) (by kernel_rfl)
end
end Go.Proofs.YthliihpeodohpaaGreatDoor.E.Ca
namespace Go.Proofs.YthliihpeodohpaaGreatDoor.E.Ca
open Go.RowKit
set_option linter.unusedVariables false
set_option linter.unusedSimpArgs false
section
variable {c : CM} {how n : Int} {l : List Int} {i : Nat}
def someC (l : List Int) (i : Nat) (c : CM) : CM :=
 if atz l (5 * i + 4) 1 = 0 then { c with seq := atz l (5 * i + 2) 2, tick := atz l (5 * i + 3) 3, kind := 3, refs := [(atz l (5 * i + 3) 2, atz l (5 * i + 1) 2), (atz l (5 * i) 1, (atz l (5 * i + 4) 3).tdiv 2)] }
 else { c with seq := atz l (5 * i + 2) 2, tick := atz l (5 * i + 3) 3 }
def someF (l : List Int) : Nat → List CM
 | 0 => []
 | i + 1 => someF l i ++ [someC l i ((goodL l).getD i c0)]
def someL (l : List Int) : List CM := someF l (goodL l).length
theorem some_len : ∀ i, (someF l i).length = i
 | 0 => rfl
 | i + 1 => by
  show (someF l i ++ [_]).length = _
  rw [List.length_append, some_len i]; rfl
theorem goodL_len (l : List Int) : (goodL l).length ≤ 10 := by
 unfold goodL
 rw [good_len]
 exact Nat.min_le_left _ _
noncomputable abbrev fsm : Func := fnOf PP 5
theorem tdiv2 {x : Int} (h : 0 ≤ x ∧ x ≤ 3) : -9 ≤ x.tdiv 2 ∧ x.tdiv 2 ≤ 9 := by
 have hx : x = 0 ∨ x = 1 ∨ x = 2 ∨ x = 3 := by omega
 rcases hx with rfl | rfl | rfl | rfl <;> decide
theorem e_some (hl : ∀ x ∈ l, W.Is64 x) : Pure PP 5 [zl l] (.o 45 35 ((someL l).map dC)) := by
 have hG := goodL_len l
 unfold someL
 let X : Nat → List CM → St := fun i o => at_ fsm [(0, zl l), (3, .sl ((goodL l).map dC)), (4, .ow 0), (5, ni i)] [.rw 45 35 (o.map dC)]
 refine pf (by kernel_rfl) (.to mo_ [.fz 3, .ow 4 (.rw 45 35 []), .mv 0 1] [0, 3, 4, 5] [0] 1 [cl (e_good hl)] (td' := lp fsm 0) (σ' := X 0 []) ?_ (by kernel_rfl))
 refine Gd.loop (fun x : Nat × List CM => X x.1 x.2) (fun x => x.1 ≤ (goodL l).length ∧ x.2 = someF l x.1) (fun x => (goodL l).length - x.1) ?_ (0, []) ⟨Nat.zero_le _, rfl⟩
 rintro ⟨i, o⟩ ⟨hi, ho⟩ ih
 simp only at hi ho
 subst ho
 have hlen := some_len (l := l) i
 have hgl : ((goodL l).map dC).length = (goodL l).length := List.length_map ..
 by_cases h : i < (goodL l).length
 · have e := elC h
   have a4 := atz_in l (5 * i + 4) 1
   have h43 := atz_in l (5 * i + 4) 3
   have h9 := tdiv2 h43
   have hq := e_at hl (5 * i + 4) 1
   have fin : ∀ c : CM, ((someF l i).map dC) ++ [dC c] = (someF l i ++ [c]).map dC := fun c => by simp
   have hle : ∀ c : CM, ((someF l i ++ [c]).map dC).length ≤ 2000 := fun c => by simp; omega
   have nx := ih (i + 1, someF l (i + 1)) ⟨h, rfl⟩ (by simp only; omega)
   have hsC : someF l (i + 1) = someF l i ++ [someC l i ((goodL l).getD i c0)] := rfl
   rw [hsC] at nx
   generalize (goodL l).getD i c0 = c at e nx
   let F : List F_ := [ye (t := decide ((i : Int) < (((goodL l).map dC).length : Int))) (decide_eq_true (by omega)), .sel _ _ _ e, m5 21 i (by omega), at_n 22 (5 * i) 2 (by omega), cl (e_at hl (5 * i + 2) 2), m5 27 i (by omega), at_n 28 (5 * i) 3 (by omega), cl (e_at hl (5 * i + 3) 3), m5 33 i (by omega), at_n 34 (5 * i) 4 (by omega)]
   by_cases g : atz l (5 * i + 4) 1 = 0
   · rw [g] at hq
     have hc : someC l i c = { c with seq := atz l (5 * i + 2) 2, tick := atz l (5 * i + 3) 3, kind := 3, refs := [(atz l (5 * i + 3) 2, atz l (5 * i + 1) 2), (atz l (5 * i) 1, (atz l (5 * i + 4) 3).tdiv 2)] } := by unfold someC; rw [if_pos g]
     rw [hc] at nx
     exact .to mo_ [.mv 0 4] [0, 3, 4, 5] [0] 1 (F ++ [cl hq, yt, m5 40 i (by omega), at_n 41 (5 * i) 3 (by omega), cl (e_at hl (5 * i + 3) 2), m5 45 i (by omega), at_n 46 (5 * i) 1 (by omega), cl (e_at hl (5 * i + 1) 2), m5 51 i (by omega), cl (e_at hl (5 * i) 1), m5 55 i (by omega), at_n 56 (5 * i) 4 (by omega), cl (e_at hl (5 * i + 4) 3), wq 58 ((atz l (5 * i + 4) 3).tdiv 2) ((atz l (5 * i + 4) 3).tdiv 2) (by omega), .ro, .app _ _ _ 2000 (fin { c with seq := atz l (5 * i + 2) 2, tick := atz l (5 * i + 3) 3, kind := 3, refs := [(atz l (5 * i + 3) 2, atz l (5 * i + 1) 2), (atz l (5 * i) 1, (atz l (5 * i + 4) 3).tdiv 2)] }) (by simp) (hle { c with seq := atz l (5 * i + 2) 2, tick := atz l (5 * i + 3) 3, kind := 3, refs := [(atz l (5 * i + 3) 2, atz l (5 * i + 1) 2), (atz l (5 * i) 1, (atz l (5 * i + 4) 3).tdiv 2)] }), inc 14 i (by omega)]) nx (by kernel_rfl)
   · rw [show atz l (5 * i + 4) 1 = 1 by omega] at hq
     have hc : someC l i c = { c with seq := atz l (5 * i + 2) 2, tick := atz l (5 * i + 3) 3 } := by unfold someC; rw [if_neg g]
     rw [hc] at nx
     exact .to mo_ [.mv 0 3] [0, 3, 4, 5] [0] 1 (F ++ [cl hq, nf, .app _ _ _ 2000 (fin { c with seq := atz l (5 * i + 2) 2, tick := atz l (5 * i + 3) 3 }) (by simp) (hle { c with seq := atz l (5 * i + 2) 2, tick := atz l (5 * i + 3) 3 }), inc 14 i (by omega)]) nx (by kernel_rfl)
 · rw [show (goodL l).length = i by omega]
   exact fi [na (t := decide ((i : Int) < (((goodL l).map dC).length : Int))) (decide_eq_false (by omega))] (by kernel_rfl) (by kernel_rfl)
end
end Go.Proofs.YthliihpeodohpaaGreatDoor.E.Ca
