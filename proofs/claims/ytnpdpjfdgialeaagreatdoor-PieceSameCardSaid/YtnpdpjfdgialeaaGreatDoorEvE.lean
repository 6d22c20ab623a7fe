/-
 none
-/
import Derived.Test.YtnpdpjfdgialeaaGreatDoorEoA
import Derived.Test.YtnpdpjfdgialeaaGreatDoorWalkPgK
import Derived.Test.YtnpdpjfdgialeaaGreatDoorEwB
namespace Go.Proofs.YtnpdpjfdgialeaaGreatDoor.E
open Go.RowKit
set_option linter.unusedVariables false
section
variable {L : List (Rat × Rat)} {k : Nat}
theorem rep_one_cell {w : World} {A : Nat → Prop} {u : Value} {x : V} (h : Rep w A no u x) (hx : one x = true) : u.oneCell' = true := by
 cases h with
 | k v => exact hx
 | un v => cases hx
 | nm => cases hx
 | ag => cases hx
 | tu => cases hx
 | _ => rfl
abbrev sdV (L : List (Rat × Rat)) (i : Nat) : List V := [.ag (dV (L.getD i (0, 0))), .ag (dV (L.getD ((i + 1) % L.length) (0, 0)))]
theorem it_sides (hn : L.length ≤ 1000) : Iter PP 161 [.ip [dL L]] (fun x : Fin L.length => sdV L x.1) (fun xs => xs = List.finRange L.length) (fun _ => True) L.length := by
 refine ⟨okF_of (by kernel_rfl), fun w A lb hreps => ?_⟩
 have hl : (L.map dV).length = L.length := List.length_map ..
 have h8 : ∀ v : Rat × Rat, (dV v).length = 8 := fun v => rfl
 obtain ⟨lbl⟩ := lb
 obtain ⟨r1, r2, r3⟩ := hreps
 match lbl, r1 with
 | [u], _ =>
  have hu := r2 0 _ rfl
  have hu : Rep w A no u (.ip [dL L]) := hu
  cases hu with
  | ip _ b0 q _ us0 g1 g2 g3 g4 =>
   have k0 := g3 0 _ rfl
   have hr0 := g4 0 _ rfl
   generalize us0 0 = u0 at k0 hr0
   cases hr0 with
   | sl _ a b o c z _ us h1 h2 h3 h4 h5 h6 =>
    have hz : 0 < L.length → z = 8 := fun hp => by
     have := h4 (dV L[0]) (List.mem_map.2 ⟨_, List.getElem_mem hp, rfl⟩)
     rw [h8] at this
     exact this.symm
    have hel : ∀ i, i < L.length → (L.map dV)[i]? = some (dV (L.getD i (0, 0))) := fun i hi => by
     rw [List.getElem?_map, List.getD_eq_getElem?_getD, List.getElem?_eq_getElem hi]; rfl
    have hone : ∀ (v : Rat × Rat) (x : V), x ∈ dV v → one x = true := fun v x hx => by
     have hl : (dV v).all one = true := rfl
     exact List.all_eq_true.1 hl x hx
    let cs : Nat → Nat → Value := fun i j => if i < L.length ∧ j < 8 then us i j else .bool false
    have hcs : ∀ i j, i < L.length → j < 8 → cs i j = us i j := fun i j hi hj => if_pos ⟨hi, hj⟩
    have hrep : ∀ i j, i < L.length → ∀ x, (dV (L.getD i (0, 0)))[j]? = some x → Rep w A no (cs i j) x := fun i j hi x hx => by
     have hj := (List.getElem?_eq_some_iff.1 hx).1
     rw [h8] at hj
     rw [hcs i j hi hj]
     exact h6 i j _ x (hel i hi) hx
    have hone' : ∀ i j, (cs i j).oneCell' = true := fun i j => by
     by_cases hij : i < L.length ∧ j < 8
     · have hj : j < (dV (L.getD i (0, 0))).length := by rw [h8]; exact hij.2
       exact rep_one_cell (hrep i j hij.1 _ (List.getElem?_eq_getElem hj)) (hone _ _ (List.getElem_mem hj))
     · show (if _ then _ else _ : Value).oneCell' = true
       rw [if_neg hij]; rfl
    have hag : ∀ i, i < L.length → Rep w A no (Pg.ag cs i) (.ag (dV (L.getD i (0, 0)))) := fun i hi => by
     refine .ag _ _ _ rfl fun j x hx => ?_
     have hj := (List.getElem?_eq_some_iff.1 hx).1
     rw [h8] at hj
     have := hrep i j hi x hx
     match j, hj with
     | 0, _ => exact this
     | 1, _ => exact this
     | 2, _ => exact this
     | 3, _ => exact this
     | 4, _ => exact this
     | 5, _ => exact this
     | 6, _ => exact this
     | 7, _ => exact this
    refine ⟨fun x => #[Pg.ag cs x.1, Pg.ag cs ((x.1 + 1) % L.length)], fun g => g = b0 ∨ (0 < L.length ∧ g = b), ?_, fun x => ⟨rfl, fun j y hy => ?_, r3⟩, fun nf hnf => ?_⟩
    · rintro g (rfl | ⟨hp, rfl⟩)
      · exact ⟨cell_lt k0, g1⟩
      · obtain ⟨_, q1, q2⟩ := h3 (by rw [hl]; exact hp)
        exact ⟨q2.lt, q1⟩
    · have hx := x.2
      match j, hy with
      | 0, hy =>
        have hy : some (V.ag (dV (L.getD x.1 (0, 0)))) = some y := hy
        injection hy with hy
        subst hy
        exact hag _ hx
      | 1, hy =>
        have hy : some (V.ag (dV (L.getD ((x.1 + 1) % L.length) (0, 0)))) = some y := hy
        injection hy with hy
        subst hy
        exact hag _ (Nat.mod_lt _ (by omega))
      | j + 2, hy => cases hy
    · intro l J Jx W hw hJ hJx hY h0
      have hc0' : W.cell? ⟨b0, q, none⟩ = some (.slice a (L.map dV).length c) := (hw.cell (p := ⟨b0, q, none⟩) (cell_lt k0)).trans k0
      rw [hl] at hc0'
      rcases Nat.eq_zero_or_pos L.length with hz0 | hpos
      · obtain rfl : L = [] := List.length_eq_zero_iff.1 hz0
        refine (sides1Kn nf l b0 q a c J W hc0' h0).mono ?_
        rintro e W' ⟨k1, k2⟩
        exact ⟨k1, .inl ⟨[], rfl, k2⟩⟩
      · obtain ⟨rfl, hA, hCB⟩ := h3 (by rw [hl]; exact hpos)
        refine (sides1K nf hnf l b0 q b o L.length c cs hn (G := fun g => g = b0 ∨ (0 < L.length ∧ g = b)) (.inl rfl) (.inr ⟨hpos, rfl⟩) J Jx hone' hY W hc0' (fun i hi j hj => ?_) hJ h0).mono ?_
        · refine (hw.cell (p := ⟨b, o + i * 8 + j, none⟩) hCB.lt).trans ?_
          rw [hcs i j hi hj, ← hz hpos]
          have hj' : j < (dV (L.getD i (0, 0))).length := by rw [h8]; exact hj
          exact h5 i j _ _ (hel i hi) (List.getElem?_eq_getElem hj')
        · rintro e W' ⟨k1, k2 | ⟨kk, _, k2⟩⟩
          · exact ⟨k1, .inl ⟨_, rfl, k2⟩⟩
          · exact ⟨k1, .inr ⟨_, trivial, k2⟩⟩
theorem e_sides (L : List (Rat × Rat)) : Pure PP 121 [dL L] (.v (.cl 161 [.ip [dL L]])) := tr [] (by kernel_rfl)
noncomputable abbrev far : Func := fnOf PP 118
noncomputable def arH (s : Rat) : List HO := [.bx 28 z4, .bx 28 (dR s)]
noncomputable def arS (L : List (Rat × Rat)) : List V := (at_ (fnOf PP 118) [(2, .lp 0 0), (3, .lp 1 0), (7, .cl 161 [.ip [dL L]])] []).t
noncomputable def arA (L : List (Rat × Rat)) (i : Nat) : List V := (at_ (fnOf PP 118) [(2, .lp 0 0), (3, .lp 1 0), (4, .ip (dV (L.getD i (0, 0)))), (5, .ip (dV (L.getD ((i + 1) % L.length) (0, 0)))), (7, .cl 161 [.ip [dL L]]), (8, .ag (dV (L.getD i (0, 0)))), (9, .ag (dV (L.getD ((i + 1) % L.length) (0, 0))))] []).t
theorem sel_bits (hb : ∀ a ∈ L, Bv k a) {i : Nat} (hi : i < L.length) : Bv k (L.getD i (0, 0)) := hb _ (by rw [List.getD_eq_getElem?_getD, List.getElem?_eq_getElem hi]; exact List.getElem_mem _)
theorem area_end {j : Nat} (s : Rat) (hs : s = Pg.sum vcrs (Pg.sides L)) (hb : Bq j (Pg.sum vcrs (Pg.sides L))) (hj : j + 10 ≤ 800000000000) : Gd PP 118 (.ag (dR (Pg.area L))) (rf far).2.2.2.2 ⟨arS L, arH s⟩ := by
 subst hs
 unfold Pg.area
 exact fi [cl (e_rof (x := 1) (y := 2) ⟨by decide, by decide⟩ ⟨by decide, by decide⟩), cl (e_rmul hb half_bits (by omega))] (by kernel_rfl) (by kernel_rfl)
set_option maxRecDepth 10000 in
theorem e_area (hb : ∀ a ∈ L, Bv k a) (hn : L.length ≤ 100) (hk : (20 * k + 100) * (L.length + 2) ≤ 800000000000) : Pure PP 118 [dL L] (.ag (dR (Pg.area L))) := by
 let sm : List (Fin L.length) → Rat := fun pre => Pg.sum vcrs (pre.map fun x => Pg.at_ L L.length x.1)
 have hbd : (4 * k + 2) * L.length + 1 + (4 * k + 1) + 20 ≤ 800000000000 ∧ 10 * (k + k) + 100 ≤ 800000000000 := by
  have h9 : (20 * k + 100) * (L.length + 2) = 20 * (k * L.length) + 40 * k + 100 * L.length + 200 := by grind
  have h8 : (4 * k + 2) * L.length = 4 * (k * L.length) + 2 * L.length := by grind
  omega
 have sbits : ∀ pre : List (Fin L.length), pre.length ≤ L.length → Bq ((4 * k + 2) * L.length + 1) (sm pre) := fun pre hp => by
  refine (Pg.sum_bits (k := 4 * k + 1) _ (fun p hp => ?_)).mono ?_
  · obtain ⟨y, hy, rfl⟩ := List.mem_map.1 hp
    exact ((sel_bits hb y.2).crs (sel_bits hb (Nat.mod_lt _ (by have := y.2; omega)))).mono (by omega)
  · rw [List.length_map]
    exact Nat.add_le_add_right (Nat.mul_le_mul_left _ (by omega)) 1
 refine pf (by kernel_rfl) (.to mo_ [.wk 1] [2, 3, 7] [0, 1] 2 [cl (e_sides L)] (td' := rfI far) (σ' := ⟨arS L, [.bx 28 z4, .bx 28 [bo false, .sl [], bo false, .sl []]]⟩) ?_ (by kernel_rfl))
 refine Gd.range mo_ (fn_of (f := 118) (by kernel_rfl)).1 (k := (rf far).2.2.2.2) (σ := ⟨arS L, _⟩) (gf := 161) (caps := [.ip [dL L]]) (by kernel_rfl) (it_sides (L := L) (by omega)) (fun x => by kernel_rfl)
  (fun pre => arH (sm pre)) (by show arH 0 = _; unfold arH; rw [dR_0]; rfl) (fun pre => ⟨rfl, fun b => ?_⟩) (fun x => arA L x.1) (fun x => by kernel_rfl) (fun pre x => .of [.fz 4, .fz 5] [] (by kernel_rfl)) (fun _ => True) trivial (fun _ _ => False) (fun _ _ h => h.elim) (fun pre x hlt _ => .inl ⟨trivial, ?_⟩) (fun xs hS _ => ?_) (fun _ h => h.elim) (fun _ _ h => h.elim)
 · match b with
   | 0 => rfl
   | 1 => rfl
   | b + 2 => rfl
 · have hx := x.2
   have b1 := sel_bits hb hx
   have b2 := sel_bits hb (Nat.mod_lt (x.1 + 1) (show 0 < L.length by omega))
   have hs : sm (pre ++ [x]) = sm pre + vcrs (L.getD x.1 (0, 0)) (L.getD ((x.1 + 1) % L.length) (0, 0)) := by
    simp only [sm, List.map_append, List.map_cons, List.map_nil, Pg.sum_snoc, Pg.at_]
   show ∃ t', Rn PP 2 _ ⟨arA L x.1, arH (sm pre)⟩ .normal ⟨t', arH (sm (pre ++ [x]))⟩
   rw [hs]
   exact Rn.ofH [] [cl (e_vcrs b1 b2 (by omega)), cl (e_radd (sbits pre (by omega)) (b1.crs b2) (by omega))] (by kernel_rfl)
 · subst hS
   have hA : sm (List.finRange L.length) = Pg.sum vcrs (Pg.sides L) := by simp only [sm]; rw [Pg.at_all L _ rfl]
   have hbt := sbits (List.finRange L.length) (by simp)
   rw [hA] at hbt
   revert hA
   simp only
   generalize sm (List.finRange L.length) = s
   intro hA
   exact area_end s hA hbt (by omega)
end
end Go.Proofs.YtnpdpjfdgialeaaGreatDoor.E
namespace Go.Proofs.YtnpdpjfdgialeaaGreatDoor.E
open Go.RowKit
set_option linter.unusedVariables false
section
variable {L : List (Rat × Rat)} {j k : Nat} {r t : Rat}
theorem e_rdiv (br : Bq j r) (bt : Bq k t) (hk : j + k ≤ 1000000000000) : Pure PP 126 [.ag (dR r), .ag (dR t)] (.ag (dR (r / t))) := by
 by_cases h0 : t.num = 0
 · rw [num_zero.1 h0, Rat.div_def, Rat.inv_zero, Rat.mul_zero, dR_0]
   exact tr [ye (lz_z rfl)] (by kernel_rfl)
 · have hl := e_low (x := (t.den : Int)) (y := t.num) h0 (by rw [Int.gcd_comm]; exact t.reduced)
   have bi := bt.inv h0
   rw [← Rat.inv_def] at hl
   rw [Rat.div_def]
   exact tr [na (lz_nz h0), cl (e_den t), cl hl, cl (e_rmul br bi hk)] (by kernel_rfl)
noncomputable abbrev fce : Func := fnOf PP 80
noncomputable def ceH (v : Rat × Rat) (s : Rat) : List HO := [.bx 84 z8, .bx 84 (dV v), .bx 28 (dR s)]
noncomputable def ceS (L : List (Rat × Rat)) : List V := (at_ fce [(2, .lp 0 0), (3, .lp 1 0), (4, .lp 2 0), (9, .cl 161 [.ip [dL L]])] []).t
noncomputable def ceA (L : List (Rat × Rat)) (i : Nat) : List V := (at_ fce [(2, .lp 0 0), (3, .lp 1 0), (4, .lp 2 0), (5, .ip (dV (L.getD i (0, 0)))), (6, .ip (dV (L.getD ((i + 1) % L.length) (0, 0)))), (9, .cl 161 [.ip [dL L]]), (10, .ag (dV (L.getD i (0, 0)))), (11, .ag (dV (L.getD ((i + 1) % L.length) (0, 0))))] []).t
theorem center_end {j i : Nat} (v : Rat × Rat) (s : Rat) (hv : v = (Pg.sum Pg.fx (Pg.sides L), Pg.sum Pg.fy (Pg.sides L))) (hs : s = Pg.sum vcrs (Pg.sides L)) (bv : Bv j v) (bs : Bq i s) (hj : 10 * (j + i) + 200 ≤ 800000000000) : Gd PP 80 (.ag (dV (Pg.center L))) (rf fce).2.2.2.2 ⟨ceS L, ceH v s⟩ := by
 have hc : Pg.center L = vsca v (Rat.divInt 1 3 / s) := by rw [hv, hs]; rfl
 rw [hc]
 exact fi [cl (e_rof (x := 1) (y := 3) ⟨by decide, by decide⟩ ⟨by decide, by decide⟩), cl (e_rdiv third_bits bs (by omega)), cl (e_vsca bv (third_bits.div bs (by omega)) (by omega))] (by kernel_rfl) (by kernel_rfl)
set_option maxRecDepth 10000 in
theorem e_center (hb : ∀ a ∈ L, Bv k a) (hn : L.length ≤ 100) (hk : k ≤ 10000) : Pure PP 80 [dL L] (.ag (dV (Pg.center L))) := by
 let sf : (Rat × Rat → Rat × Rat → Rat) → List (Fin L.length) → Rat := fun f pre => Pg.sum f (pre.map fun x => Pg.at_ L L.length x.1)
 have b1 : ∀ pre : List (Fin L.length), pre.length ≤ 100 → Bq ((6 * k + 3) * 100 + 1) (sf Pg.fx pre) := fun pre hp => pre_bits (fun a b ha hb => (fx_bits (k := k) ha hb).1) rfl hb pre hp
 have b2 : ∀ pre : List (Fin L.length), pre.length ≤ 100 → Bq ((6 * k + 3) * 100 + 1) (sf Pg.fy pre) := fun pre hp => pre_bits (fun a b ha hb => (fx_bits (k := k) ha hb).2) rfl hb pre hp
 have b3 : ∀ pre : List (Fin L.length), pre.length ≤ 100 → Bq ((4 * k + 2) * 100 + 1) (sf vcrs pre) := fun pre hp => pre_bits (fun a b ha hb => crs_bits (k := k) ha hb) rfl hb pre hp
 have h8 : z8.length = 8 := rfl
 refine pf (by kernel_rfl) (.to mo_ [.wk 1, .wk 2] [2, 3, 4, 9] [0, 1, 2] 3 [cl (e_sides L)] (td' := rfI fce) (σ' := ⟨ceS L, [.bx 84 z8, .bx 84 [bo false, .sl [], bo false, .sl [], bo false, .sl [], bo false, .sl []], .bx 28 [bo false, .sl [], bo false, .sl []]]⟩) ?_ (by kernel_rfl))
 refine Gd.range mo_ (fn_of (f := 80) (by kernel_rfl)).1 (k := (rf fce).2.2.2.2) (σ := ⟨ceS L, _⟩) (gf := 161) (caps := [.ip [dL L]]) (by kernel_rfl) (it_sides (L := L) (by omega)) (fun x => by kernel_rfl)
  (fun pre => ceH (sf Pg.fx pre, sf Pg.fy pre) (sf vcrs pre)) (by show ceH (0, 0) 0 = _; unfold ceH dV; rw [dR_0]; rfl) (fun pre => ⟨rfl, fun b => ?_⟩) (fun x => ceA L x.1) (fun x => by kernel_rfl) (fun pre x => .of [.fz 5, .fz 6] [] (by kernel_rfl)) (fun _ => True) trivial (fun _ _ => False) (fun _ _ h => h.elim) (fun pre x hlt _ => .inl ⟨trivial, ?_⟩) (fun xs hS _ => ?_) (fun _ h => h.elim) (fun _ _ h => h.elim)
 · match b with
   | 0 => rfl
   | 1 => rfl
   | 2 => rfl
   | b + 3 => rfl
 · have hx := x.2
   have c1 := sel_bits hb hx
   have c2 := sel_bits hb (Nat.mod_lt (x.1 + 1) (show 0 < L.length by omega))
   have p1 := b1 pre (by omega)
   have p2 := b2 pre (by omega)
   have p3 := b3 pre (by omega)
   have hs : ∀ f, sf f (pre ++ [x]) = sf f pre + f (L.getD x.1 (0, 0)) (L.getD ((x.1 + 1) % L.length) (0, 0)) := fun f => by
    simp only [sf, List.map_append, List.map_cons, List.map_nil, Pg.sum_snoc, Pg.at_]
   show ∃ t', Rn PP 3 _ ⟨ceA L x.1, ceH (sf Pg.fx pre, sf Pg.fy pre) (sf vcrs pre)⟩ .normal ⟨t', ceH (sf Pg.fx (pre ++ [x]), sf Pg.fy (pre ++ [x])) (sf vcrs (pre ++ [x]))⟩
   rw [hs, hs, hs]
   generalize sf Pg.fx pre = s1 at p1
   generalize sf Pg.fy pre = s2 at p2
   generalize sf vcrs pre = s3 at p3
   generalize L.getD x.1 (0, 0) = A at c1
   generalize L.getD ((x.1 + 1) % L.length) (0, 0) = B at c2
   have c4 := crs_bits c1 c2
   have bs : Bv ((6 * k + 3) * 100 + 1) (s1, s2) := ⟨p1, p2⟩
   rw [show (s1 + Pg.fx A B, s2 + Pg.fy A B) = vadd (s1, s2) (vsca (vadd A B) (vcrs A B)) from rfl]
   exact Rn.ofH [.fz 7] [cl (e_vcrs c1 c2 (by omega)), cl (e_radd p3 c4 (by omega)), cl (e_vadd c1 c2 (by omega)), cl (e_vsca (c1.add c2) c4 (by omega)), cl (e_vadd bs ((c1.add c2).sca c4) (by omega))] (by kernel_rfl)
 · subst hS
   have e1 : ∀ f, sf f (List.finRange L.length) = Pg.sum f (Pg.sides L) := fun f => by simp only [sf]; rw [Pg.at_all L _ rfl]
   have p1 := b1 (List.finRange L.length) (by simpa using hn)
   have p2 := b2 (List.finRange L.length) (by simpa using hn)
   have p3 := b3 (List.finRange L.length) (by simpa using hn)
   have q1 := e1 Pg.fx
   have q2 := e1 Pg.fy
   have q3 := e1 vcrs
   revert q1 q2 q3 p1 p2 p3
   simp only
   generalize sf Pg.fx (List.finRange L.length) = s1
   generalize sf Pg.fy (List.finRange L.length) = s2
   generalize sf vcrs (List.finRange L.length) = s3
   intro p1 p2 p3 q1 q2 q3
   exact center_end (s1, s2) s3 (by rw [q1, q2]) q3 ⟨p1, p2⟩ p3 (by omega)
end
end Go.Proofs.YtnpdpjfdgialeaaGreatDoor.E

namespace Go.Proofs.YtnpdpjfdgialeaaGreatDoor.E
open Go.RowKit
set_option linter.unusedVariables false
section
variable {L : List (Rat × Rat)} {k m : Nat}
/-- The corner that comes at a number. -/
theorem e_vcor (hm : L.length = m + 1) (i : Nat) : Pure PP 115 [ni i, .ip [dL L], .ip [ni ((m + 1 : Nat) : Int)]] (.ag (dV (Pg.cor L i))) :=
 tr [rem_ 8 i m hm, .sel _ _ _ (elc (L := L) (by omega) i)] (by kernel_rfl)
noncomputable abbrev fva : Func := fnOf PP 75
/-- The boxes of the row and of its length, ahead of the corners' first call and behind it. -/
noncomputable def vaH (L : List (Rat × Rat)) (m : Nat) : Bool → List HO
 | false => [.bx 90 [dL L], .bx 3 [ni ((m + 1 : Nat) : Int)]]
 | true => [.fz (.ip [dL L]), .fz (.ip [ni ((m + 1 : Nat) : Int)])]
noncomputable def vaX (L : List (Rat × Rat)) (m i : Nat) (b : Bool) : St := at_ fva [(1, .lp 0 0), (3, .lp 1 0), (6, .cl 115 [.lp 0 0, .lp 1 0]), (35, ni ((m + 1 : Nat) : Int)), (36, ni i)] (vaH L m b)
/-- A round of the loop, to its inner loop: from both states. -/
theorem va_round (hm : L.length = m + 1) (hb : ∀ a ∈ L, Bv k a) (hn : L.length ≤ 12) (hk : k ≤ 10000) (b : Bool) {i : Nat} (hi : i < L.length) (hf : Go.Proofs.YtnpdpjfdgialeaaGreatDoor.vside (Pg.cor L i) (Pg.cor L (i + 1)) (Pg.cor L (i + 2)) ≠ 0) {D : V}
  (h : Gd PP 75 D (lp fva 2) (at_ fva [(1, .lp 0 0), (3, .lp 1 0), (6, .cl 115 [.lp 0 0, .lp 1 0]), (7, ni i), (8, ni ((i + 2 : Nat) : Int)), (35, ni ((m + 1 : Nat) : Int)), (36, ni i)] (vaH L m true))) :
  Gd PP 75 D (lp fva 1) (vaX L m i b) := by
 have c0 := e_vcor hm i
 have c1 := e_vcor hm (i + 1)
 have c2 := e_vcor hm (i + 2)
 have b0 := bco hb (by omega) i
 have b1 := bco hb (by omega) (i + 1)
 have b2 := bco hb (by omega) (i + 2)
 have sd := e_side b0 b1 b2 (by omega)
 cases b <;> exact .to mo_ [] [1, 3, 6, 7, 8, 35, 36] [0, 1] 2 [ye (t := decide ((i : Int) < ((m + 1 : Nat) : Int))) (decide_eq_true (by omega)), cl c0, inc 44 i (by omega), cl c1, inc2 48 i (by omega), cl c2, cl sd, na (t := Go.Proofs.YtnpdpjfdgialeaaGreatDoor.vside (Pg.cor L i) (Pg.cor L (i + 1)) (Pg.cor L (i + 2)) == 0) (by simpa using hf), inc2 53 i (by omega)] h (by kernel_rfl)
def bi : Nat → Bool
 | 0 => false
 | _ + 1 => true
noncomputable def vaY (L : List (Rat × Rat)) (m i j : Nat) : St := at_ fva [(1, .lp 0 0), (3, .lp 1 0), (6, .cl 115 [.lp 0 0, .lp 1 0]), (7, ni i), (8, ni j), (35, ni ((m + 1 : Nat) : Int)), (36, ni i)] (vaH L m true)
theorem va_bad {i t : Nat} (h : Pg.bad L i = true) (hi : i < L.length) : Pg.valid L = false := by
 unfold Pg.valid
 rw [any_true hi h]; simp
/-- The inner loop. -/
theorem va_inner (hm : L.length = m + 1) (hb : ∀ a ∈ L, Bv k a) (hn : L.length ≤ 12) (hk : k ≤ 10000) {i : Nat} (hi : i < L.length) (hfl : Pg.flatp L i = false)
  (h : Pg.bad L i = false → Gd PP 75 (bo (Pg.valid L)) (lp fva 1) (vaX L m (i + 1) true)) :
  ∀ j, (∀ t, t < j → (decide (i + 2 ≤ t) && Pg.q L i t) = false) ∧ j ≤ L.length + 2 ∧ i + 2 ≤ j → Gd PP 75 (bo (Pg.valid L)) (lp fva 2) (vaY L m i j) := by
 refine Gd.loop (vaY L m i) _ (fun j => L.length + 3 - j) ?_
 rintro j ⟨hq, hj, hij⟩ ih
 by_cases hlt : j < L.length
 · have c0 := e_vcor hm i
   have c1 := e_vcor hm (i + 1)
   have c2 := e_vcor hm j
   have c3 := e_vcor hm (j + 1)
   have b0 := bco hb (by omega) i
   have b1 := bco hb (by omega) (i + 1)
   have b2 := bco hb (by omega) j
   have b3 := bco hb (by omega) (j + 1)
   have me := e_meets b0 b1 b2 b3 (by omega)
   let F0 : List F_ := [ye (t := decide ((j : Int) < ((m + 1 : Nat) : Int))) (decide_eq_true (by omega)), inc 60 j (by omega), rem_ 62 (j + 1) m hm]
   let F1 : List F_ := [cl c0, inc 71 i (by omega), cl c1, cl c2, inc 78 j (by omega), cl c3, cl me]
   have next : Pg.q L i j = false → Gd PP 75 (bo (Pg.valid L)) (lp fva 2) (vaY L m i (j + 1)) := fun hqj =>
    ih (j + 1) ⟨fun t ht => by
     by_cases e : t = j
     · subst e; rw [hqj]; simp
     · exact hq t (by omega), by omega, by omega⟩ (by omega)
   by_cases hne : (((j + 1) % L.length : Nat) : Int) != (i : Int)
   · by_cases hmt : Pg.meets (Pg.cor L i) (Pg.cor L (i + 1)) (Pg.cor L j) (Pg.cor L (j + 1)) = true
     · rw [va_bad (i := i) (t := 0) (by
        unfold Pg.bad
        rw [any_true hlt (by unfold Pg.q; rw [hne, hmt]; simp; omega)]; simp) hi]
       exact fi (F0 ++ [ye hne] ++ F1 ++ [ye hmt]) (by kernel_rfl) (by kernel_rfl)
     · have hmt := Bool.eq_false_iff.2 hmt
       exact .to mo_ [] [1, 3, 6, 7, 8, 35, 36] [0, 1] 2 (F0 ++ [ye hne] ++ F1 ++ [na hmt, inc 58 j (by omega)]) (next (by unfold Pg.q; rw [hmt]; simp)) (by kernel_rfl)
   · have hne := Bool.eq_false_iff.2 hne
     exact .to mo_ [] [1, 3, 6, 7, 8, 35, 36] [0, 1] 2 (F0 ++ [na hne, nf, inc 58 j (by omega)]) (next (by unfold Pg.q; rw [hne]; simp)) (by kernel_rfl)
 · exact .to mo_ [] [1, 3, 6, 35, 36] [0, 1] 2 [na (t := decide ((j : Int) < ((m + 1 : Nat) : Int))) (decide_eq_false (by omega)), inc 82 i (by omega)] (h (by
    unfold Pg.bad
    rw [hfl, any_false fun t ht => hq t (by omega)]; rfl)) (by kernel_rfl)
theorem va_outer (hm : L.length = m + 1) (hb : ∀ a ∈ L, Bv k a) (hn : 3 ≤ L.length ∧ L.length ≤ 12) (hk : k ≤ 10000) :
  ∀ i, i ≤ L.length ∧ (∀ t, t < i → Pg.bad L t = false) → Gd PP 75 (bo (Pg.valid L)) (lp fva 1) (vaX L m i (bi i)) := by
 refine Gd.loop (fun i => vaX L m i (bi i)) _ (fun i => L.length - i) ?_
 rintro i ⟨hi, hI⟩ ih
 by_cases h : i < L.length
 · cases hf : Pg.flatp L i with
   | true =>
     rw [va_bad (i := i) (t := 0) (by unfold Pg.bad; rw [hf]; rfl) h]
     have c0 := e_vcor hm i
     have c1 := e_vcor hm (i + 1)
     have c2 := e_vcor hm (i + 2)
     have sd := e_side (bco hb (by omega) i) (bco hb (by omega) (i + 1)) (bco hb (by omega) (i + 2)) (by omega)
     generalize bi i = bb
     cases bb <;> exact fi [ye (t := decide ((i : Int) < ((m + 1 : Nat) : Int))) (decide_eq_true (by omega)), cl c0, inc 44 i (by omega), cl c1, inc2 48 i (by omega), cl c2, cl sd, ye (t := Go.Proofs.YtnpdpjfdgialeaaGreatDoor.vside (Pg.cor L i) (Pg.cor L (i + 1)) (Pg.cor L (i + 2)) == 0) hf] (by kernel_rfl) (by kernel_rfl)
   | false =>
     refine va_round hm hb hn.2 hk _ h (by unfold Pg.flatp at hf; simpa using hf) (va_inner hm hb hn.2 hk h hf (fun hbad => ih (i + 1) ⟨h, fun t ht => ?_⟩ (by omega)) (i + 2) ⟨fun t ht => by
      rw [show decide (i + 2 ≤ t) = false from decide_eq_false (by omega)]; rfl, by omega, Nat.le_refl _⟩)
     by_cases e : t = i
     · subst e; exact hbad
     · exact hI t (by omega)
 · have hv : Pg.valid L = decide (0 < sgnZ (Pg.area L).num) := by
    unfold Pg.valid
    rw [any_false fun t ht => hI t (by omega), decide_eq_true hn.1, decide_eq_true hn.2]; rfl
   rw [hv]
   have ha := e_area hb (by omega) (by
    have := Nat.mul_le_mul (show 20 * k + 100 ≤ 200100 by omega) (show L.length + 2 ≤ 14 by omega)
    omega)
   obtain ⟨i', rfl⟩ : ∃ q, i = q + 1 := ⟨i - 1, by omega⟩
   exact fi [na (t := decide (((i' + 1 : Nat) : Int) < ((m + 1 : Nat) : Int))) (decide_eq_false (by omega)), cl ha, cl (e_rsign (Pg.area L))] (by kernel_rfl) (by kernel_rfl)
theorem va_rats (hm : L.length = m + 1) (hb : ∀ a ∈ L, Bv k a) (hn : 3 ≤ L.length ∧ L.length ≤ 12) (hk : k ≤ 10000) :
  ∀ i, i ≤ L.length → Gd PP 75 (bo (Pg.valid L)) (lp fva 0) (at_ fva [(1, .lp 0 0), (3, .lp 1 0), (17, dL L), (18, ni ((L.map dV).length : Int)), (19, ni i)] (vaH L m false)) := by
 refine Gd.loop (fun i : Nat => at_ fva [(1, .lp 0 0), (3, .lp 1 0), (17, dL L), (18, ni ((L.map dV).length : Int)), (19, ni i)] (vaH L m false)) _ (fun i => L.length - i) ?_
 intro i hi ih
 by_cases h : i < L.length
 · have b := bel hb h
   exact .to mo_ [] [1, 3, 17, 18, 19] [0, 1] 2 [ye (t := il_ i L) (il_t h), .sel _ _ _ (el h), cl (e_rvalid b.1 (by omega)), nf, cl (e_rvalid b.2 (by omega)), nf, inc 33 i (by omega)] (ih (i + 1) h (by omega)) (by kernel_rfl)
 · exact .to mo_ [] [1, 3, 6, 35, 36] [0, 1] 2 [na (t := il_ i L) (il_f h)] (va_outer hm hb hn hk 0 ⟨Nat.zero_le _, fun t ht => absurd ht (Nat.not_lt_zero t)⟩) (by kernel_rfl)
theorem e_valid (hb : ∀ a ∈ L, Bv k a) (hn : L.length ≤ 100) (hk : k ≤ 10000) : Pure PP 75 [dL L] (bo (Pg.valid L)) := by
 cases hc : L with
 | nil =>
   rw [show Pg.valid [] = false from rfl]
   exact tr [yt, yt] (by kernel_rfl)
 | cons a r =>
   rw [← hc]
   obtain ⟨m, hm⟩ : ∃ m, L.length = m + 1 := ⟨r.length, by rw [hc]; rfl⟩
   by_cases h3 : L.length < 3
   · rw [show Pg.valid L = false by unfold Pg.valid; rw [decide_eq_false (by omega)]; rfl]
     exact tr [le_ 10 m hm, ye (t := decide (((m + 1 : Nat) : Int) < 3)) (decide_eq_true (by omega)), yt] (by kernel_rfl)
   · by_cases h12 : L.length ≤ 12
     · exact pf (by kernel_rfl) (.to mo_ [] [1, 3, 17, 18, 19] [0, 1] 2 [le_ 10 m hm, na (t := decide (((m + 1 : Nat) : Int) < 3)) (decide_eq_false (by omega)), na (t := decide (((m + 1 : Nat) : Int) > 12)) (decide_eq_false (by omega))] (va_rats hm hb ⟨by omega, h12⟩ hk 0 (Nat.zero_le _)) (by kernel_rfl))
     · rw [show Pg.valid L = false by unfold Pg.valid; rw [decide_eq_false h12]; simp]
       exact tr [le_ 10 m hm, na (t := decide (((m + 1 : Nat) : Int) < 3)) (decide_eq_false (by omega)), ye (t := decide (((m + 1 : Nat) : Int) > 12)) (decide_eq_true (by omega))] (by kernel_rfl)
end
end Go.Proofs.YtnpdpjfdgialeaaGreatDoor.E




namespace Go.Proofs.YtnpdpjfdgialeaaGreatDoor.E
open Go.RowKit
set_option linter.unusedVariables false
theorem same_v (v : Rat × Rat) : Pure PP 44 [.ag (dV v), .ag (dV v)] (bo true) := (show decide (v = v) = true by simp) ▸ e_vsame5 v v
section
end
end Go.Proofs.YtnpdpjfdgialeaaGreatDoor.E

namespace Go.Proofs.YtnpdpjfdgialeaaGreatDoor.E
open Go.RowKit
set_option linter.unusedVariables false
section
variable {L : List (Rat × Rat)} {k j i : Nat} {p : Pl} {l m : List Int} {how by_ : Int}
theorem take_map_app {g : Rat × Rat → Rat × Rat} (h : i < L.length) : ((L.take i).map g).map dV ++ [dV (g (L.getD i (0, 0)))] = ((L.take (i + 1)).map g).map dV := by
 rw [List.take_succ_eq_append_getElem h, List.map_append, List.map_append, List.getD_eq_getElem?_getD, List.getElem?_eq_getElem h]; rfl
theorem e_move (b1 : Bv j p.1) (b2 : Bv j p.2) (hb : ∀ a ∈ L, Bv k a) (hn : L.length ≤ 100) (hk : 40 * (j + k) + 100 ≤ 800000000000) : Pure PP 77 [.ag (dPl p), dL L] (dL (L.map (vput p))) := by
 have hl : (L.map dV).length = L.length := List.length_map ..
 let X : Nat → St := fun i => at_ (fnOf PP 77) [(2, .lp 0 0), (5, .ow 1), (8, dL L), (9, ni (L.map dV).length), (10, ni i)] [.bx 86 (dPl p), .rw 84 8 (((L.take i).map (vput p)).map dV)]
 refine pf (by kernel_rfl) (.to mo_ [.ow 5 (.rw 84 8 [])] [2, 5, 8, 9, 10] [0, 1] 2 [] (td' := lp (fnOf PP 77) 0) (σ' := X 0) ?_ (by kernel_rfl))
 refine Gd.loop X (fun i => i ≤ L.length) (fun i => L.length - i) ?_ _ (Nat.zero_le _)
 intro i hi ih
 by_cases h : i < L.length
 · exact .to mo_ [.mv 1 4] [2, 5, 8, 9, 10] [0, 1] 2 [ye (t := il_ i L) (il_t h), .sel _ _ _ (el h), cl (e_put b1 b2 (bel hb h) hk), .app (((L.take i).map (vput p)).map dV) [dV (vput p (L.getD i (0, 0)))] (((L.take (i + 1)).map (vput p)).map dV) 200 (take_map_app h) (by simp) (by rw [List.length_map, List.length_map, List.length_take]; omega), inc 20 i (by omega)] (ih (i + 1) h (by omega)) (by kernel_rfl)
 · rw [show L.map (vput p) = (L.take i).map (vput p) by rw [List.take_of_length_le (by omega)]]
   exact fi [na (t := il_ i L) (il_f h)] (by kernel_rfl) (by kernel_rfl)
end
end Go.Proofs.YtnpdpjfdgialeaaGreatDoor.E
namespace Go.Proofs.YtnpdpjfdgialeaaGreatDoor.E.Ct
open Go.RowKit
set_option linter.unusedVariables false
set_option linter.unusedSimpArgs false
abbrev Vc : Type := Rat × Rat
section
end
end Go.Proofs.YtnpdpjfdgialeaaGreatDoor.E.Ct


namespace Go.Proofs.YtnpdpjfdgialeaaGreatDoor.E.Ct
open Go.RowKit
set_option linter.unusedVariables false
set_option linter.unusedSimpArgs false
section
variable {b k : Nat}
theorem three_of {α : Type} {xs : List α} (h : xs.length = 3) : ∃ x y z, xs = [x, y, z] := by
 match xs, h with
 | [x, y, z], _ => exact ⟨x, y, z, rfl⟩
def mkC2 (ts : Array TypeId) (xs : List Operand) : Op := .call ⟨.value (xs.getD 0 (.tmp 0)), #[xs.getD 1 (.tmp 0), xs.getD 2 (.tmp 0)], ts⟩
end
end Go.Proofs.YtnpdpjfdgialeaaGreatDoor.E.Ct

