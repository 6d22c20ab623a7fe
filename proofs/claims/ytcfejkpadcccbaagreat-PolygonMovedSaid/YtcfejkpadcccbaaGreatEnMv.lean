/-
 MOVES, places, and the law PolygonMoved, by the engine.
-/
import Derived.Test.YtcfejkpadcccbaaGreatEnBg
import Derived.Test.YtcfejkpadcccbaaGreatPgU
namespace Go.Proofs.YtcfejkpadcccbaaGreat.E
open Go.RowKit
set_option linter.unusedVariables false
section
variable {L : List (Rat × Rat)} {k j i : Nat} {p : Pl} {l m : List Int} {how by_ : Int}
theorem take_map_app {g : Rat × Rat → Rat × Rat} (h : i < L.length) : ((L.take i).map g).map dV ++ [dV (g (L.getD i (0, 0)))] = ((L.take (i + 1)).map g).map dV := by
 rw [List.take_succ_eq_append_getElem h, List.map_append, List.map_append, List.getD_eq_getElem?_getD, List.getElem?_eq_getElem h]; rfl
theorem e_move (b1 : Bv j p.1) (b2 : Bv j p.2) (hb : ∀ a ∈ L, Bv k a) (hn : L.length ≤ 100) (hk : 40 * (j + k) + 100 ≤ 800000000000) : Pure false PP 44 [.ag (dPl p), dL L] (dL (L.map (vput p))) := by
 have hl : (L.map dV).length = L.length := List.length_map ..
 let X : Nat → St := fun i => at_ (fnOf PP 44) [(2, .lp 0 0), (5, .ow 1), (8, dL L), (9, ni (L.map dV).length), (10, ni i)] [.bx 61 (dPl p), .rw 35 8 (((L.take i).map (vput p)).map dV)]
 refine pf (by kernel_rfl) (.to mo_ [.ow 5 (.rw 35 8 [])] [2, 5, 8, 9, 10] [0, 1] 2 [] (td' := lp (fnOf PP 44) 0) (σ' := X 0) ?_ (by kernel_rfl))
 refine Gd.loop X (fun i => i ≤ L.length) (fun i => L.length - i) ?_ _ (Nat.zero_le _)
 intro i hi ih
 by_cases h : i < L.length
 · exact .to mo_ [.mv 1 4] [2, 5, 8, 9, 10] [0, 1] 2 [ye (t := il_ i L) (il_t h), .sel _ _ _ (el h), cl (e_put b1 b2 (bel hb h) hk), .app (((L.take i).map (vput p)).map dV) [dV (vput p (L.getD i (0, 0)))] (((L.take (i + 1)).map (vput p)).map dV) 200 (take_map_app h) (by simp) (by rw [List.length_map, List.length_map, List.length_take]; omega), inc 20 i (by omega)] (ih (i + 1) h (by omega)) (by kernel_rfl)
 · rw [show L.map (vput p) = (L.take i).map (vput p) by rw [List.take_of_length_le (by omega)]]
   exact fi [na (t := il_ i L) (il_f h)] (by kernel_rfl) (by kernel_rfl)
theorem e_move6 (b1 : Bv j p.1) (b2 : Bv j p.2) (hb : ∀ a ∈ L, Bv k a) (hn : L.length ≤ 100) (hk : 40 * (j + k) + 100 ≤ 800000000000) : Pure false PP 46 [.ag (dPl p), dL L] (dL (L.map (vput p))) := by
 have hl : (L.map dV).length = L.length := List.length_map ..
 let X : Nat → St := fun i => at_ (fnOf PP 46) [(1, dL L), (2, .lp 0 0), (5, .ow 1), (6, ni i)] [.bx 61 (dPl p), .rw 35 8 (((L.take i).map (vput p)).map dV)]
 refine pf (by kernel_rfl) (.to mo_ [.ow 5 (.rw 35 8 [])] [1, 2, 5, 6] [0, 1] 2 [] (td' := lp (fnOf PP 46) 0) (σ' := X 0) ?_ (by kernel_rfl))
 refine Gd.loop X (fun i => i ≤ L.length) (fun i => L.length - i) ?_ _ (Nat.zero_le _)
 intro i hi ih
 by_cases h : i < L.length
 · have ba := bel hb h
   exact .to mo_ [.mv 1 3] [1, 2, 5, 6] [0, 1] 2 [ye (t := il_ i L) (il_t h), .sel _ _ _ (el h), cl (e_vrot5 b1 ba (by omega)), cl (e_vadd5 (b1.rot ba) b2 (by omega)), .app (((L.take i).map (vput p)).map dV) [dV (vput p (L.getD i (0, 0)))] (((L.take (i + 1)).map (vput p)).map dV) 200 (take_map_app h) (by simp) (by rw [List.length_map, List.length_map, List.length_take]; omega), inc 12 i (by omega)] (ih (i + 1) h (by omega)) (by kernel_rfl)
 · rw [show L.map (vput p) = (L.take i).map (vput p) by rw [List.take_of_length_le (by omega)]]
   exact fi [na (t := il_ i L) (il_f h)] (by kernel_rfl) (by kernel_rfl)
theorem e_lsame (L : List (Rat × Rat)) (hn : L.length ≤ 100) : Pure false PP 45 [dL L, dL L] (bo true) := by
 let X : Nat → St := fun i => at_ (fnOf PP 45) [(0, dL L), (1, dL L), (5, ni i)] []
 refine pf (by kernel_rfl) (.to mo_ [] [0, 1, 5] [] 0 [na (t := ((L.map dV).length : Int) != ((L.map dV).length : Int)) (by simp)] (td' := lp (fnOf PP 45) 0) (σ' := X 0) ?_ (by kernel_rfl))
 refine Gd.loop X (fun i => i ≤ L.length) (fun i => L.length - i) ?_ _ (Nat.zero_le _)
 intro i hi ih
 by_cases h : i < L.length
 · exact .to mo_ [] [0, 1, 5] [] 0 [ye (t := il_ i L) (il_t h), .sel _ _ _ (el h), .sel _ _ _ (el h), cl (same_r (L.getD i (0, 0)).1), nf, .sel _ _ _ (el h), .sel _ _ _ (el h), cl (same_r (L.getD i (0, 0)).2), nf, inc 16 i (by omega)] (ih (i + 1) h (by omega)) (by kernel_rfl)
 · exact fi [na (t := il_ i L) (il_f h)] (by kernel_rfl) (by kernel_rfl)
/-- The turns of the laws. -/
def tns : List (Int × Int × Int) := [(1, 0, 1), (0, 1, 1), (-1, 0, 1), (0, -1, 1), (3, 4, 5), (-4, 3, 5), (5, -12, 13), (-3, -4, 5)]
def tnz (i : Nat) : Int × Int × Int := tns.getD i (1, 0, 1)
def tnL : List (List V) := tns.map fun p => [ni p.1, ni p.2.1, ni p.2.2]
theorem tnz_in (i : Nat) : (-100 ≤ (tnz i).1 ∧ (tnz i).1 ≤ 100) ∧ (-100 ≤ (tnz i).2.1 ∧ (tnz i).2.1 ≤ 100) ∧ (1 ≤ (tnz i).2.2 ∧ (tnz i).2.2 ≤ 100) ∧ (Rat.divInt (tnz i).1 (tnz i).2.2 * Rat.divInt (tnz i).1 (tnz i).2.2 + Rat.divInt (tnz i).2.1 (tnz i).2.2 * Rat.divInt (tnz i).2.1 (tnz i).2.2 = 1) := by
 have h : ∀ p ∈ tns, (-100 ≤ p.1 ∧ p.1 ≤ 100) ∧ (-100 ≤ p.2.1 ∧ p.2.1 ≤ 100) ∧ (1 ≤ p.2.2 ∧ p.2.2 ≤ 100) ∧ (Rat.divInt p.1 p.2.2 * Rat.divInt p.1 p.2.2 + Rat.divInt p.2.1 p.2.2 * Rat.divInt p.2.1 p.2.2 = 1) := by decide +kernel
 unfold tnz
 rw [List.getD_eq_getElem?_getD]
 cases e : tns[i]? with
 | none => exact h (1, 0, 1) (by decide)
 | some p => exact h p (List.mem_of_getElem? e)
theorem tnL_el (h : i < 8) : tnL[i]? = some [ni (tnz i).1, ni (tnz i).2.1, ni (tnz i).2.2] := by
 unfold tnL tnz
 rw [List.getElem?_map, List.getD_eq_getElem?_getD, List.getElem?_eq_getElem (show i < tns.length from h)]; rfl
def tnv (i : Nat) : Rat × Rat := (Rat.divInt (tnz i).1 (tnz i).2.2, Rat.divInt (tnz i).2.1 (tnz i).2.2)
theorem tnv_bits (i : Nat) : Bv 7 (tnv i) := by
 obtain ⟨h1, h2, h3, _⟩ := tnz_in i
 exact bv7 h1 h2 h3
theorem e_spin {n : Int} (hn : W.Is64 n) : Pure false PP 89 [ni n] (.ag (dV (tnv (rnd n 7).toNat))) := by
 have hr := rnd_in n 7
 have hi : (rnd n 7).toNat < 8 := by omega
 obtain ⟨h1, h2, h3, _⟩ := tnz_in (rnd n 7).toNat
 exact tr [cl (e_around hn 7), .eqv 18 (ni (rnd n 7)) (ni ((rnd n 7).toNat : Nat)) (by rw [Int.toNat_of_nonneg hr.1]), .sel tnL _ _ (tnL_el hi), .sel tnL _ _ (tnL_el hi), cl (e_of4 (x := (tnz (rnd n 7).toNat).1) (y := (tnz (rnd n 7).toNat).2.2) (i64 (by omega)) (i64 (by omega))), cl (e_of4 (x := (tnz (rnd n 7).toNat).2.1) (y := (tnz (rnd n 7).toNat).2.2) (i64 (by omega)) (i64 (by omega)))] (by kernel_rfl)
def plc (l : List Int) (a : Nat) : Pl := (tnv (rnd (atz l a 63) 7).toNat, spot l (a + 1))
theorem plc_unit (l : List Int) (a : Nat) : Pg.Unit (plc l a) := (tnz_in _).2.2.2
theorem plc_bits (l : List Int) (a : Nat) : Bv 7 (plc l a).1 ∧ Bv 7 (plc l a).2 := ⟨tnv_bits _, spot_bits l (a + 1)⟩
theorem e_place (hl : ∀ x ∈ l, W.Is64 x) (a : Nat) (ha : a ≤ 100000) : Pure false PP 43 [zl l, ni a] (.ag (dPl (plc l a))) := by
 have h1 := atz_in l a 63
 exact tr [cl (e_at hl a 63), cl (e_spin (n := atz l a 63) (i64 (by omega))), inc 11 a (by omega), cl (e_spot hl (a + 1) (by omega))] (by kernel_rfl)
/-- What is changed in one of the ways 0, 2, 4, 6. -/
theorem e_spo (hb : ∀ a ∈ L, Bv k a) (hk : 20 * (k + k) + 200 ≤ 800000000000) (h0 : 0 < L.length) (hn : L.length ≤ 100) (hw : W.Is64 how) (hy : W.Is64 by_) (hc : rnd how 6 ≠ 5) : Pure false PP 12 [dL L, ni how, ni by_] (dL (spo L by_ (rnd how 6))) := by
 have hr := rnd_in how 6
 have : rnd how 6 = 0 ∨ rnd how 6 = 1 ∨ rnd how 6 = 2 ∨ rnd how 6 = 3 ∨ rnd how 6 = 4 ∨ rnd how 6 = 6 := by omega
 rcases this with h | h | h | h | h | h <;> rw [h]
 · exact e_spoilt0 h0 hn hw hy h
 · exact e_spoilt1 h0 hn hw hy h
 · exact e_spoilt2 h0 hn hw hy h
 · exact e_spoilt3 hb hk h0 hn hw hy h
 · exact e_spoilt4 h0 hn hw hy h
 · exact e_spoilt6 hb hk h0 hn hw hy h
theorem spo_len (L : List (Rat × Rat)) (by_ c : Int) : (spo L by_ c).length ≤ L.length + 1 := by
 unfold spo
 repeat' split
 all_goals simp only [List.length_append, List.length_take, List.length_drop, List.length_set, List.length_reverse, List.length_cons, List.length_nil]
 all_goals omega
theorem set_mem {A : List (Rat × Rat)} {i : Nat} {x a : Rat × Rat} (h : a ∈ A.set i x) : a ∈ A ∨ a = x := List.mem_or_eq_of_mem_set h
theorem spo_bits (hb : ∀ a ∈ L, Bv k a) (h0 : 0 < L.length) (by_ c : Int) : ∀ a ∈ spo L by_ c, Bv (k + k + 10) a := by
 have hm : Bv (k + k + 10) (sMid L (sk L by_)) := (mid_bv (bel hb (sk_lt h0 by_)) (bco hb h0 _)).mono (by omega)
 have r1 := rnd_in by_ 16
 have r2 := rnd_in (by_.tdiv 17) 16
 have hN : Bv (k + k + 10) (sNew by_) := (bv7 (x := rnd by_ 16 - 8) (y := rnd (by_.tdiv 17) 16 - 8) (z := 1) (by omega) (by omega) (by omega)).mono (by omega)
 have hb' : ∀ a ∈ L, Bv (k + k + 10) a := fun a ha => (hb a ha).mono (by omega)
 intro a ha
 unfold spo at ha
 split at ha
 · rcases List.mem_append.1 ha with h | h
   · exact hb' a (List.mem_of_mem_take h)
   · exact hb' a (List.mem_of_mem_drop h)
 split at ha
 · rcases set_mem ha with h | rfl
   · exact hb' a h
   · exact hN
 split at ha
 · rcases set_mem ha with h | rfl
   · exact hb' a h
   · exact bel hb' (sk_lt h0 _)
 split at ha
 · rcases set_mem ha with h | rfl
   · exact hb' a h
   · exact hm
 split at ha
 · exact hb' a (List.mem_reverse.1 ha)
 · rw [List.mem_append, List.mem_append, List.mem_singleton] at ha
   rcases ha with (h | rfl) | h
   · exact hb' a (List.mem_of_mem_take h)
   · exact hm
   · exact hb' a (List.mem_of_mem_drop h)
theorem map_put_bits (b1 : Bv j p.1) (b2 : Bv j p.2) (hb : ∀ a ∈ L, Bv k a) : ∀ a ∈ L.map (vput p), Bv (10 * (j + k) + 10) a := by
 intro a ha
 obtain ⟨x, hx, rfl⟩ := List.mem_map.1 ha
 exact ((b1.rot (hb x hx)).add b2).mono (by omega)
end
end Go.Proofs.YtcfejkpadcccbaaGreat.E
