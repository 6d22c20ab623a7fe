/-
 PIECE: edges, their squares.
-/
import Derived.Test.YtlgnagnmoleeiaaGreatEoBg
import Derived.Test.YtlgnagnmoleeiaaGreatEoA
import Derived.Test.YtlgnagnmoleeiaaGreatWalkOf
import Derived.Test.YtlgnagnmoleeiaaGreatEmY
import Derived.Test.YtlgnagnmoleeiaaGreatPgR
namespace Go.Proofs.YtlgnagnmoleeiaaGreat.E
open Go.RowKit
set_option linter.unusedVariables false
section
variable {L : List (Rat × Rat)} {k j i : Nat} {p : Pl} {l m : List Int} {how by_ : Int}
theorem take_map_app {g : Rat × Rat → Rat × Rat} (h : i < L.length) : ((L.take i).map g).map dV ++ [dV (g (L.getD i (0, 0)))] = ((L.take (i + 1)).map g).map dV := by
 rw [List.take_succ_eq_append_getElem h, List.map_append, List.map_append, List.getD_eq_getElem?_getD, List.getElem?_eq_getElem h]; rfl
theorem e_move (b1 : Bv j p.1) (b2 : Bv j p.2) (hb : ∀ a ∈ L, Bv k a) (hn : L.length ≤ 100) (hk : 40 * (j + k) + 100 ≤ 800000000000) : Pure PP 39 [.ag (dPl p), dL L] (dL (L.map (vput p))) := by
 have hl : (L.map dV).length = L.length := List.length_map ..
 let X : Nat → St := fun i => at_ (fnOf PP 39) [(2, .lp 0 0), (5, .ow 1), (8, dL L), (9, ni (L.map dV).length), (10, ni i)] [.bx 60 (dPl p), .rw 58 8 (((L.take i).map (vput p)).map dV)]
 refine pf (by kernel_rfl) (.to mo_ [.ow 5 (.rw 58 8 [])] [2, 5, 8, 9, 10] [0, 1] 2 [] (td' := lp (fnOf PP 39) 0) (σ' := X 0) ?_ (by kernel_rfl))
 refine Gd.loop X (fun i => i ≤ L.length) (fun i => L.length - i) ?_ _ (Nat.zero_le _)
 intro i hi ih
 by_cases h : i < L.length
 · exact .to mo_ [.mv 1 4] [2, 5, 8, 9, 10] [0, 1] 2 [ye (t := il_ i L) (il_t h), .sel _ _ _ (el h), cl (e_put b1 b2 (bel hb h) hk), .app (((L.take i).map (vput p)).map dV) [dV (vput p (L.getD i (0, 0)))] (((L.take (i + 1)).map (vput p)).map dV) 200 (take_map_app h) (by simp) (by rw [List.length_map, List.length_map, List.length_take]; omega), inc 20 i (by omega)] (ih (i + 1) h (by omega)) (by kernel_rfl)
 · rw [show L.map (vput p) = (L.take i).map (vput p) by rw [List.take_of_length_le (by omega)]]
   exact fi [na (t := il_ i L) (il_f h)] (by kernel_rfl) (by kernel_rfl)
theorem e_lsame (L : List (Rat × Rat)) (hn : L.length ≤ 100) : Pure PP 38 [dL L, dL L] (bo true) := by
 let X : Nat → St := fun i => at_ (fnOf PP 38) [(0, dL L), (1, dL L), (5, ni i)] []
 refine pf (by kernel_rfl) (.to mo_ [] [0, 1, 5] [] 0 [na (t := ((L.map dV).length : Int) != ((L.map dV).length : Int)) (by simp)] (td' := lp (fnOf PP 38) 0) (σ' := X 0) ?_ (by kernel_rfl))
 refine Gd.loop X (fun i => i ≤ L.length) (fun i => L.length - i) ?_ _ (Nat.zero_le _)
 intro i hi ih
 by_cases h : i < L.length
 · exact .to mo_ [] [0, 1, 5] [] 0 [ye (t := il_ i L) (il_t h), .sel _ _ _ (el h), .sel _ _ _ (el h), cl (same_r (L.getD i (0, 0)).1), nf, .sel _ _ _ (el h), .sel _ _ _ (el h), cl (same_r (L.getD i (0, 0)).2), nf, inc 16 i (by omega)] (ih (i + 1) h (by omega)) (by kernel_rfl)
 · exact fi [na (t := il_ i L) (il_f h)] (by kernel_rfl) (by kernel_rfl)
/-- The turns of the laws. -/
def tns : List (Int × Int × Int) := [(1, 0, 1), (0, 1, 1), (-1, 0, 1), (0, -1, 1), (3, 4, 5), (-4, 3, 5), (5, -12, 13), (-3, -4, 5)]
def tnz (i : Nat) : Int × Int × Int := tns.getD i (1, 0, 1)
def tnL : List (List V) := tns.map fun p => [ni p.1, ni p.2.1, ni p.2.2]
theorem tnz_in (i : Nat) : (-100 ≤ (tnz i).1 ∧ (tnz i).1 ≤ 100) ∧ (-100 ≤ (tnz i).2.1 ∧ (tnz i).2.1 ≤ 100) ∧ (1 ≤ (tnz i).2.2 ∧ (tnz i).2.2 ≤ 100) ∧ (Rat.divInt (tnz i).1 (tnz i).2.2 * Rat.divInt (tnz i).1 (tnz i).2.2 + Rat.divInt (tnz i).2.1 (tnz i).2.2 * Rat.divInt (tnz i).2.1 (tnz i).2.2 = 1) := by
 have h : ∀ p ∈ tns, (-100 ≤ p.1 ∧ p.1 ≤ 100) ∧ (-100 ≤ p.2.1 ∧ p.2.1 ≤ 100) ∧ (1 ≤ p.2.2 ∧ p.2.2 ≤ 100) ∧ (Rat.divInt p.1 p.2.2 * Rat.divInt p.1 p.2.2 + Rat.divInt p.2.1 p.2.2 * Rat.divInt p.2.1 p.2.2 = 1) := by decide +kernel
 unfold tnz
 rw [List.getD_eq_getElem?_getD]
 cases e : tns[i]? with
 | none => exact h (1, 0, 1) (by decide)
 | some p => exact h p (List.mem_of_getElem? e)
theorem tnL_el (h : i < 8) : tnL[i]? = some [ni (tnz i).1, ni (tnz i).2.1, ni (tnz i).2.2] := by
 unfold tnL tnz
 rw [List.getElem?_map, List.getD_eq_getElem?_getD, List.getElem?_eq_getElem (show i < tns.length from h)]; rfl
def tnv (i : Nat) : Rat × Rat := (Rat.divInt (tnz i).1 (tnz i).2.2, Rat.divInt (tnz i).2.1 (tnz i).2.2)
theorem tnv_bits (i : Nat) : Bv 7 (tnv i) := by
 obtain ⟨h1, h2, h3, _⟩ := tnz_in i
 exact bv7 h1 h2 h3
theorem e_spin {n : Int} (hn : W.Is64 n) : Pure PP 93 [ni n] (.ag (dV (tnv (rnd n 7).toNat))) := by
 have hr := rnd_in n 7
 have hi : (rnd n 7).toNat < 8 := by omega
 obtain ⟨h1, h2, h3, _⟩ := tnz_in (rnd n 7).toNat
 exact tr [cl (e_around hn 7), .eqv 18 (ni (rnd n 7)) (ni ((rnd n 7).toNat : Nat)) (by rw [Int.toNat_of_nonneg hr.1]), .sel tnL _ _ (tnL_el hi), .sel tnL _ _ (tnL_el hi), cl (e_of4 (x := (tnz (rnd n 7).toNat).1) (y := (tnz (rnd n 7).toNat).2.2) (i64 (by omega)) (i64 (by omega))), cl (e_of4 (x := (tnz (rnd n 7).toNat).2.1) (y := (tnz (rnd n 7).toNat).2.2) (i64 (by omega)) (i64 (by omega)))] (by kernel_rfl)
def plc (l : List Int) (a : Nat) : Pl := (tnv (rnd (atz l a 63) 7).toNat, spot l (a + 1))
theorem plc_unit (l : List Int) (a : Nat) : Pg.Unit (plc l a) := (tnz_in _).2.2.2
theorem plc_bits (l : List Int) (a : Nat) : Bv 7 (plc l a).1 ∧ Bv 7 (plc l a).2 := ⟨tnv_bits _, spot_bits l (a + 1)⟩
theorem e_place (hl : ∀ x ∈ l, W.Is64 x) (a : Nat) (ha : a ≤ 100000) : Pure PP 29 [zl l, ni a] (.ag (dPl (plc l a))) := by
 have h1 := atz_in l a 63
 exact tr [cl (e_at hl a 63), cl (e_spin (n := atz l a 63) (i64 (by omega))), inc 11 a (by omega), cl (e_spot hl (a + 1) (by omega))] (by kernel_rfl)
theorem map_put_bits (b1 : Bv j p.1) (b2 : Bv j p.2) (hb : ∀ a ∈ L, Bv k a) : ∀ a ∈ L.map (vput p), Bv (10 * (j + k) + 10) a := by
 intro a ha
 obtain ⟨x, hx, rfl⟩ := List.mem_map.1 ha
 exact ((b1.rot (hb x hx)).add b2).mono (by omega)
end
end Go.Proofs.YtlgnagnmoleeiaaGreat.E
namespace Go.Proofs.YtlgnagnmoleeiaaGreat.E.Ct
open Go.RowKit
set_option linter.unusedVariables false
set_option linter.unusedSimpArgs false
abbrev Vc : Type := Rat × Rat
/-- A polygon, a prop, a margin. -/
structure Su where
 L : List Vc
 P : Vc
 Q : Vc
 e : Rat
def Su.v (s : Su) : List V := dL s.L :: (dV s.P ++ (dV s.Q ++ dR s.e))
def Su.at_ (s : Su) (k : Nat) : Vc := s.L.getD k (0, 0)
def Su.nx (s : Su) (k : Nat) : Nat := (k + 1) % s.L.length
def le0 (a b : Rat) : Bool := decide (cmpQ a b ≤ 0)
def gt0 (a b : Rat) : Bool := decide (cmpQ a b > 0)
def lt0 (a b : Rat) : Bool := decide (cmpQ a b < 0)
def nearB (y h e : Rat) : Bool := le0 (y - h) e && le0 (-(y - h)) e
def Su.near (s : Su) (k : Nat) : Bool := nearB (s.at_ k).2 s.P.2 s.e
def Su.level (s : Su) (k : Nat) : Bool := gt0 (s.at_ (s.nx k)).1 (s.at_ k).1 && (s.near k && s.near (s.nx k))
def Su.m (s : Su) : Nat := s.L.length - 1
structure Su.Ok (s : Su) (b : Nat) : Prop where
 l : ∀ a ∈ s.L, Bv b a
 p : Bv b s.P
 q : Bv b s.Q
 e : Bq b s.e
 n : 0 < s.L.length ∧ s.L.length ≤ 1000
 k : b ≤ 1000000
section
variable {s : Su} {b k : Nat}
theorem Su.Ok.at_ (h : s.Ok b) (hk : k < s.L.length) : Bv b (s.at_ k) := h.l _ (by unfold Su.at_; rw [List.getD_eq_getElem?_getD, List.getElem?_eq_getElem hk]; exact List.getElem_mem _)
theorem Su.Ok.hm (h : s.Ok b) : s.L.length = s.m + 1 := by have := h.n; unfold Su.m; omega
theorem Su.el (hk : k < s.L.length) : (s.L.map dV)[k]? = some (dV (s.at_ k)) := E.el hk
end
end Go.Proofs.YtlgnagnmoleeiaaGreat.E.Ct
namespace Go.Proofs.YtlgnagnmoleeiaaGreat.E.Ct
open Go.RowKit
set_option linter.unusedVariables false
set_option linter.unusedSimpArgs false
section
variable {s : Su} {b k : Nat}
def Su.bf (s : Su) (k : Nat) : Nat := (k + s.L.length - 1) % s.L.length
def Su.from_ (s : Su) (k : Nat) : Rat := if lt0 (s.at_ k).1 s.P.1 = true then s.P.1 else (s.at_ k).1
def Su.to_ (s : Su) (k : Nat) : Rat := if gt0 (s.at_ (s.nx k)).1 s.Q.1 = true then s.Q.1 else (s.at_ (s.nx k)).1
def Su.sg1 (s : Su) (k : Nat) : List (Vc × Vc) := if s.level k = true ∧ le0 (s.from_ k) (s.to_ k) = true then [((s.from_ k, s.P.2), (s.to_ k, s.P.2))] else []
def Su.tip (s : Su) (k : Nat) : Bool := !(s.level k) && (!(s.level (s.bf k)) && (s.near k && (!(lt0 (s.at_ k).1 s.P.1) && (!(gt0 (s.at_ k).1 s.Q.1) && (!(lt0 (s.at_ (s.bf k)).2 (s.at_ k).2) && !(lt0 (s.at_ (s.nx k)).2 (s.at_ k).2))))))
def Su.sg2 (s : Su) (k : Nat) : List (Vc × Vc) := if s.tip k = true then [(((s.at_ k).1, s.P.2), ((s.at_ k).1, s.P.2))] else []
def Su.p1 (s : Su) (k : Nat) : List (Vc × Vc) := (List.range k).flatMap s.sg1
def Su.p2 (s : Su) (k : Nat) : List (Vc × Vc) := s.p1 s.L.length ++ (List.range k).flatMap s.sg2
def Su.segs (s : Su) : List (Vc × Vc) := s.p2 s.L.length
theorem Su.p1_succ (s : Su) (k : Nat) : s.p1 (k + 1) = s.p1 k ++ s.sg1 k := by unfold Su.p1; rw [List.range_succ, List.flatMap_append]; simp
theorem Su.p2_succ (s : Su) (k : Nat) : s.p2 (k + 1) = s.p2 k ++ s.sg2 k := by unfold Su.p2; rw [List.range_succ, List.flatMap_append]; simp
theorem Su.sg1_len (s : Su) (k : Nat) : (s.sg1 k).length ≤ 1 := by unfold Su.sg1; split <;> simp
theorem Su.sg2_len (s : Su) (k : Nat) : (s.sg2 k).length ≤ 1 := by unfold Su.sg2; split <;> simp
theorem Su.p1_len (s : Su) : ∀ k, (s.p1 k).length ≤ k
 | 0 => by simp [Su.p1]
 | k + 1 => by rw [Su.p1_succ, List.length_append]; have := Su.p1_len s k; have := s.sg1_len k; omega
theorem Su.p2_len (s : Su) : ∀ k, (s.p2 k).length ≤ s.L.length + k
 | 0 => by unfold Su.p2; simp; exact s.p1_len _
 | k + 1 => by rw [Su.p2_succ, List.length_append]; have := Su.p2_len s k; have := s.sg2_len k; omega
def sgV (x : Vc × Vc) : List V := dV x.1 ++ dV x.2
section
variable {lb : Array Value} {l B0 : Nat} {J Jx : SD (Vc × Vc) → World → Prop}
/-- What the consumer promises. -/
abbrev HY (l : Nat) (N : List (Vc × Vc) → Vc × Vc → Prop) (J Jx : SD (Vc × Vc) → World → Prop) : Prop := ∀ (nf : Nat) (pre : List (Vc × Vc)) (x : Vc × Vc) (u : Array Value) (Wl : World) (D : Nat → Prop) (W1 : World), N pre x → J (pre, D) Wl → (∀ g, D g → g < Wl.heap.size) → Below Wl.heap.size Wl W1 → Reps W1 D no u [.ag (sgV x)] → YieldAt Fence.wide nf PP l u W1 fun e W' => ∃ D', Dn D D' W1 W' ∧ ((e = .returned (.bool true) ∧ J (pre ++ [x], D') W') ∨ (e = .returned (.bool false) ∧ Jx (pre ++ [x], D') W'))
end
end
end Go.Proofs.YtlgnagnmoleeiaaGreat.E.Ct
namespace Go.Proofs.YtlgnagnmoleeiaaGreat.E.Ct
open Go.RowKit
set_option linter.unusedVariables false
set_option linter.unusedSimpArgs false
section
variable {s : Su} {b k : Nat}
section
variable {lb : Array Value} {l B0 : Nat} {J Jx : SD (Vc × Vc) → World → Prop}
end
end
end Go.Proofs.YtlgnagnmoleeiaaGreat.E.Ct
namespace Go.Proofs.YtlgnagnmoleeiaaGreat.E.Ct
open Go.RowKit
set_option linter.unusedVariables false
set_option linter.unusedSimpArgs false
section
variable {s : Su} {b k : Nat}
theorem three_of {α : Type} {xs : List α} (h : xs.length = 3) : ∃ x y z, xs = [x, y, z] := by
 match xs, h with
 | [x, y, z], _ => exact ⟨x, y, z, rfl⟩
end
end Go.Proofs.YtlgnagnmoleeiaaGreat.E.Ct
namespace Go.Proofs.YtlgnagnmoleeiaaGreat.E.Ct
open Go.RowKit
set_option linter.unusedVariables false
set_option linter.unusedSimpArgs false
section
variable {s : Su} {b k : Nat}
def ge0 (a b : Rat) : Bool := decide (cmpQ a b ≥ 0)
/-- Between the ends; a lowest corner. -/
def Su.btw (s : Su) (k : Nat) : Bool := le0 s.P.1 (s.at_ k).1 && le0 (s.at_ k).1 s.Q.1
def Su.low (s : Su) (k : Nat) : Bool := ge0 (s.at_ (s.bf k)).2 (s.at_ k).2 && ge0 (s.at_ (s.nx k)).2 (s.at_ k).2
end
end Go.Proofs.YtlgnagnmoleeiaaGreat.E.Ct
namespace Go.Proofs.YtlgnagnmoleeiaaGreat.E.Ct
open Go.RowKit
set_option linter.unusedVariables false
set_option linter.unusedSimpArgs false
structure Pi where
 id : Int
 home : Int
 rim : List (Int × Int)
 worn : List Bool
 marks : List Int
 tol : Rat
 light : Rat
 heavy : Rat
 str : Rat
 rough : Rat
def ptR (l : List (Int × Int)) : List (List V) := l.map fun p => [ni p.1, ni p.2]
def wnR (l : List Bool) : List (List V) := l.map fun p => [bo p]
def Pi.v (p : Pi) : List V := [ni p.id, ni p.home, .sl (ptR p.rim), .sl (wnR p.worn), zl p.marks] ++ (dR p.tol ++ (dR p.light ++ (dR p.heavy ++ (dR p.str ++ dR p.rough))))
def qv (x : Int × Int) : Vc := (Rat.divInt x.1 1, Rat.divInt x.2 1)
def Pi.rimV (p : Pi) : List Vc := p.rim.map qv
structure Pi.Ok (p : Pi) (b : Nat) : Prop where
 r : ∀ x ∈ p.rim, W.Is64 x.1 ∧ W.Is64 x.2
 n : 0 < p.rim.length ∧ p.rim.length ≤ 1000
 tol : Bq b p.tol
 light : Bq b p.light
 heavy : Bq b p.heavy
 str : Bq b p.str
 rough : Bq b p.rough
section
variable {p : Pi} {b k : Nat} {x y : Int} {r t : Rat}
theorem get_of {α : Type} {l : List α} {i : Nat} (h : i < l.length) : ∃ x, l[i]? = some x ∧ x ∈ l := ⟨l[i], List.getElem?_eq_getElem h, List.getElem_mem h⟩
theorem is1_ : W.Is64 1 := ⟨by decide, by decide⟩
theorem e_pof (hx : W.Is64 x) (hy : W.Is64 y) : Pure PP 102 [ni x, ni y] (.ag (dV (qv (x, y)))) := tr [cl (e_rof hx is1_), cl (e_rof hy is1_)] (by kernel_rfl)
theorem pt_at {q : Int × Int} {l : List (Int × Int)} (h : l[k]? = some q) : (ptR l)[k]? = some [ni q.1, ni q.2] := by unfold ptR; rw [List.getElem?_map, h]; rfl
theorem rim_app {q : Int × Int} (h : p.rim[k]? = some q) : (p.rimV.take k).map dV ++ [qv q].map dV = (p.rimV.take (k + 1)).map dV := by
 rw [List.take_add_one]
 unfold Pi.rimV
 rw [List.getElem?_map, h, List.map_append]
 rfl
noncomputable abbrev frm : Func := fnOf PP 41
theorem e_rim (h : p.Ok b) : Pure PP 41 [.ag p.v] (.o 58 8 (p.rimV.map dV)) := by
 have hn := h.n
 have hl : (ptR p.rim).length = p.rim.length := List.length_map ..
 have hv : p.rimV.length = p.rim.length := List.length_map ..
 let X : Nat → St := fun k => at_ frm [(3, .ow 1), (7, .sl (ptR p.rim)), (8, ni (p.rim.length : Int)), (9, ni (k : Int))] [.dead, .rw 58 8 ((p.rimV.take k).map dV)]
 refine pf (by kernel_rfl) (.to mo_ [.ow 3 (.rw 58 8 [])] [3, 7, 8, 9] [1] 2 [.eqv 8 (ni ((ptR p.rim).length : Int)) (ni (p.rim.length : Int)) (by rw [hl])] (td' := lp frm 0) (σ' := X 0) ?_ (by kernel_rfl))
 refine Gd.loop X (fun k => k ≤ p.rim.length) (fun k => p.rim.length - k) ?_ 0 (Nat.zero_le _)
 intro k hk ih
 by_cases g : k < p.rim.length
 · obtain ⟨q, hq, hm⟩ := get_of g
   obtain ⟨h1, h2⟩ := h.r q hm
   exact .to mo_ [.mv 1 4] [3, 7, 8, 9] [1] 2 [ye (t := decide ((k : Int) < (p.rim.length : Int))) (decide_eq_true (by omega)), .sel _ _ _ (pt_at hq), cl (e_pof h1 h2), .app ((p.rimV.take k).map dV) ([qv q].map dV) ((p.rimV.take (k + 1)).map dV) 2000 (rim_app hq) Nat.zero_lt_one (by rw [List.length_map, List.length_take]; omega), inc 21 k (by omega)] (ih (k + 1) g (by omega)) (by kernel_rfl)
 · have e : k = p.rim.length := by omega
   subst e
   have hX : X p.rim.length = at_ frm [(3, .ow 1), (7, .sl (ptR p.rim)), (8, ni (p.rim.length : Int)), (9, ni (p.rim.length : Int))] [.dead, .rw 58 8 (p.rimV.map dV)] := by simp only [X]; rw [← hv, List.take_length]
   rw [hX]
   exact fi [na (t := decide ((p.rim.length : Int) < (p.rim.length : Int))) (decide_eq_false (by omega))] (by kernel_rfl) (by kernel_rfl)
noncomputable abbrev fr12 : Func := fnOf PP 49
theorem e_rim12w (hr : ∀ x ∈ p.rim, W.Is64 x.1 ∧ W.Is64 x.2) (hn : p.rim.length ≤ 1000) : Pure PP 49 [.ag p.v] (.o 58 8 (p.rimV.map dV)) := by
 have hl : (ptR p.rim).length = p.rim.length := List.length_map ..
 have hv : p.rimV.length = p.rim.length := List.length_map ..
 let X : Nat → St := fun k => at_ fr12 [(1, .ip p.v), (3, .ow 1), (4, ni (k : Int))] [.dead, .rw 58 8 ((p.rimV.take k).map dV)]
 refine pf (by kernel_rfl) (.to mo_ [.ow 3 (.rw 58 8 []), .fz 1] [1, 3, 4] [1] 2 [] (td' := lp fr12 0) (σ' := X 0) ?_ (by kernel_rfl))
 refine Gd.loop X (fun k => k ≤ p.rim.length) (fun k => p.rim.length - k) ?_ 0 (Nat.zero_le _)
 intro k hk ih
 by_cases g : k < p.rim.length
 · obtain ⟨q, hq, hm⟩ := get_of g
   obtain ⟨h1, h2⟩ := hr q hm
   exact .to mo_ [.mv 1 3] [1, 3, 4] [1] 2 [.eqv 8 (ni ((ptR p.rim).length : Int)) (ni (p.rim.length : Int)) (by rw [hl]), ye (t := decide ((k : Int) < (p.rim.length : Int))) (decide_eq_true (by omega)), .sel _ _ _ (pt_at hq), .sel _ _ _ (pt_at hq), cl (e_vof h1 h2), .app ((p.rimV.take k).map dV) ([qv q].map dV) ((p.rimV.take (k + 1)).map dV) 2000 (rim_app hq) Nat.zero_lt_one (by rw [List.length_map, List.length_take]; omega), inc 11 k (by omega)] (ih (k + 1) g (by omega)) (by kernel_rfl)
 · have e : k = p.rim.length := by omega
   subst e
   have hX : X p.rim.length = at_ fr12 [(1, .ip p.v), (3, .ow 1), (4, ni (p.rim.length : Int))] [.dead, .rw 58 8 (p.rimV.map dV)] := by simp only [X]; rw [← hv, List.take_length]
   rw [hX]
   exact fi [.eqv 8 (ni ((ptR p.rim).length : Int)) (ni (p.rim.length : Int)) (by rw [hl]), na (t := decide ((p.rim.length : Int) < (p.rim.length : Int))) (decide_eq_false (by omega))] (by kernel_rfl) (by kernel_rfl)
def lsr (a b : Rat) : Rat := if gt0 a b = true then b else a
end
end Go.Proofs.YtlgnagnmoleeiaaGreat.E.Ct
namespace Go.Proofs.YtlgnagnmoleeiaaGreat.E.Ct
open Go.RowKit
set_option linter.unusedVariables false
set_option linter.unusedSimpArgs false
section
variable {p : Pi} {pl : Pl} {b k j : Nat} {u : Vc} {st : Int}
/-- The rim of a piece as it is placed. -/
def plRim (p : Pi) (pl : Pl) : List Vc := p.rimV.map (vput pl)
structure Pi.Good (p : Pi) (pl : Pl) (b : Nat) : Prop where
 ok : p.Ok b
 r : ∀ a ∈ p.rimV, Bv b a
 t : Bv b pl.1
 a : Bv b pl.2
 n : p.rim.length ≤ 100
 k : b ≤ 10000
theorem Pi.Good.bits (h : p.Good pl b) : ∀ a ∈ plRim p pl, Bv (20 * b + 10) a := fun a ha => (map_put_bits h.t h.a h.r a ha).mono (by omega)
theorem plRim_len (p : Pi) (pl : Pl) : (plRim p pl).length = p.rim.length := by unfold plRim Pi.rimV; simp
end
end Go.Proofs.YtlgnagnmoleeiaaGreat.E.Ct
namespace Go.Proofs.YtlgnagnmoleeiaaGreat.E
open Go.RowKit
set_option linter.unusedVariables false
theorem Pure.ro {P : Program} {f : FuncId} {ds : List V} {T z : Nat} {l : List (List V)} (h : Pure P f ds (.o T z l)) : Pure P f ds (.v (.sl l)) :=
 ⟨h.1, fun w M args hM hr => (h.2 w M args hM hr).mono fun e w' ⟨v, e1, ok, bel⟩ => ⟨v, e1, by
  obtain ⟨q1, xs, q2, q3, q4⟩ := ok
  show Rep w' M no v (.sl l)
  have hxl : xs.length = l.flatten.length := by rw [q2.1, flat_len q1]
  rcases q2.2 with ⟨rfl, e0⟩ | ⟨g, cap, cur, rfl, hB, hh, hnc, hcm, hcs', htk⟩
  · have h0 : l = [] := List.length_eq_zero_iff.1 e0
    subst h0
    exact .sl _ none 0 0 0 z [] (fun _ _ => undef) (Nat.le_refl _) (Nat.zero_le _) (fun h => by simp at h) (fun _ h => by simp at h) (fun i j cs x h => by simp at h) (fun i j cs x h => by simp at h)
  · refine .sl _ _ g 0 cap z l (fun i j => xs.getD (i * z + j) undef) hnc hcm (fun _ => ⟨rfl, fun hA => hB (hM g hA), ⟨cur, T, (0, 0), hh⟩⟩) q1 (fun i j cs x hi hj => ?_) (fun i j cs x hi hj => ?_)
    · have e1 := flat_get q1 hi hj
      have e2 := (List.getElem?_eq_some_iff.1 e1).1
      have e3 : xs[i * z + j]? = some (xs.getD (i * z + j) undef) := by rw [List.getD_eq_getElem?_getD, List.getElem?_eq_getElem (by omega)]; rfl
      have := row_cell q2 rfl e3
      rwa [show 0 + i * z + j = i * z + j by omega]
    · exact (q4 _ x (flat_get q1 hi hj)).mo ⟨Nat.le_refl _, fun _ _ _ => rfl, fun g e => .inl (.inl e), fun _ _ e => e⟩, bel⟩⟩
end Go.Proofs.YtlgnagnmoleeiaaGreat.E
namespace Go.Proofs.YtlgnagnmoleeiaaGreat.E.Pc
open Go.RowKit
set_option linter.unusedVariables false
set_option linter.unusedSimpArgs false
/-- The cells, moved up to one of them. -/
def mvR (pl : Vc × (Rat × Rat)) (T : List (List Vc)) (k : Nat) : List (List Vc) := (T.take k).map (fun K => K.map (vput pl)) ++ T.drop k
section
variable {L : List Vc} {b k j : Nat} {T : List (List Vc)} {p : Ct.Pi} {pl : Vc × (Rat × Rat)}
theorem mvR_at (h : k < T.length) : (rowsL (mvR pl T k))[k]? = some [dL T[k]] := by
 have : (mvR pl T k)[k]? = some T[k] := by
  unfold mvR
  rw [List.getElem?_append_right (by rw [List.length_map, List.length_take]; omega), List.length_map, List.length_take, List.getElem?_drop, Nat.min_eq_left (by omega), Nat.sub_self, Nat.add_zero, List.getElem?_eq_getElem h]
 unfold rowsL
 rw [List.getElem?_map, this]
 rfl
theorem mvR_set (h : k < T.length) : (rowsL (mvR pl T k)).set k [dL (T[k].map (vput pl))] = rowsL (mvR pl T (k + 1)) := by
 unfold rowsL mvR
 rw [← List.map_set]
 congr 1
 rw [List.set_append_right _ _ (by rw [List.length_map, List.length_take]; omega), List.length_map, List.length_take, Nat.min_eq_left (by omega), Nat.sub_self, List.drop_eq_getElem_cons h, List.set_cons_zero, List.take_add_one, List.getElem?_eq_getElem h, List.map_append, List.append_assoc]
 rfl
theorem mvR_len : (rowsL (mvR pl T k)).length = T.length := by
 have : (rowsL (mvR pl T k)).length = (mvR pl T k).length := List.length_map ..
 rw [this]
 unfold mvR
 rw [List.length_append, List.length_map, List.length_take, List.length_drop]
 omega
noncomputable abbrev fpc : Func := fnOf PP 35
theorem e_pcells (ok : p.Ok 100) (hb : ∀ a ∈ p.rimV, Bv b a) (h3 : 3 ≤ p.rimV.length) (hn : p.rimV.length ≤ 900) (cv : Pure PP 67 [dL p.rimV] (bo true)) (b1 : Bv j pl.1) (b2 : Bv j pl.2) (hk : 100 * (b + j) + 1000 ≤ 800000000000) : Pure PP 35 [.ag p.v, .ag (dPl pl)] (.o 70 1 (rowsL ((cutT p.rimV).map fun K => K.map (vput pl)))) := by
 have cr := (Ct.e_rim ok).ro
 have co := e_cof hb (by omega) h3 hn cv
 have hr : Rm p.rimV (List.range p.rimV.length) b := ⟨fun x hx => List.mem_range.1 hx, by rw [List.length_range]; omega, hb, by omega⟩
 have hin := cut_in p.rimV.length (List.range p.rimV.length) hr List.nodup_range (by rw [List.length_range]; omega) (by rw [List.length_range]; omega)
 have ht : ∀ K ∈ cutT p.rimV, K.length = 3 ∧ ∀ a ∈ K, Bv b a := fun K hK => by
  unfold cutT at hK
  obtain ⟨t, hm, rfl⟩ := List.mem_map.1 hK
  obtain ⟨q1, q2⟩ := hin t hm
  refine ⟨by rw [List.length_map, q1], fun a ha => ?_⟩
  obtain ⟨x, hx, rfl⟩ := List.mem_map.1 ha
  exact hr.bv (q2 x hx)
 have hres : (cutT p.rimV).map (fun K => K.map (vput pl)) = mvR pl (cutT p.rimV) (cutT p.rimV).length := by unfold mvR; rw [List.take_length, List.drop_length, List.append_nil]
 rw [hres]
 have hst : rowsL (cutT p.rimV) = rowsL (mvR pl (cutT p.rimV) 0) := rfl
 rw [hst] at co
 have hTl : (cutT p.rimV).length ≤ 901 := by
  have h1 := cut_len (L := p.rimV) p.rimV.length (List.range p.rimV.length)
  have h2 : (cutT p.rimV).length = (cutL p.rimV).length := List.length_map ..
  have h3 : (cutL p.rimV).length ≤ p.rimV.length + 1 := h1
  omega
 generalize cutT p.rimV = T at *
 generalize p.rimV = L at *
 have hlen := mvR_len (pl := pl) (T := T) (k := 0)
 let X : Nat → St := fun k => at_ fpc [(3, .ip (dPl pl)), (5, .ow 2), (15, .ow 2), (16, ni (T.length : Int)), (17, ni (k : Int))] [.dead, .dead, .rw 70 1 (rowsL (mvR pl T k))]
 refine pf (by kernel_rfl) (.to mo_ [.fz 3] [3, 5, 15, 16, 17] [2] 3 [cl cr, .lend _ _ _ _ [] co, .eqv 16 (ni ((rowsL (mvR pl T 0)).length : Int)) (ni (T.length : Int)) (by rw [hlen])] (td' := lp fpc 0) (σ' := X 0) ?_ (by kernel_rfl))
 refine Gd.loop X (fun k => k ≤ T.length) (fun k => T.length - k) ?_ 0 (Nat.zero_le _)
 intro k hk' ih
 by_cases g : k < T.length
 · have hx : decide ((k : Int) < (T.length : Int)) = true := decide_eq_true (by omega)
   have nx := ih (k + 1) (by omega) (by omega)
   have e := mvR_at (pl := pl) g
   have s := mvR_set (pl := pl) g
   obtain ⟨q1, q2⟩ := ht _ (List.getElem_mem g)
   have m := e_move (p := pl) b1 b2 q2 (by omega) (by omega)
   simp only [X] at nx ⊢
   generalize rowsL (mvR pl T k) = A at *
   generalize rowsL (mvR pl T (k + 1)) = B at *
   generalize T[k] = K at *
   exact .to mo_ [] [3, 5, 15, 16, 17] [2] 3 [ye hx, .sel _ _ _ e, .sel _ _ _ e, cl m, .sel _ _ _ e, .upd _ _ _ _ _ e s, inc 28 k (by omega)] nx (by kernel_rfl)
 · have : k = T.length := by omega
   subst this
   have hx : decide ((T.length : Int) < (T.length : Int)) = false := decide_eq_false (by omega)
   exact fi [na hx] (by kernel_rfl) (by kernel_rfl)
end
end Go.Proofs.YtlgnagnmoleeiaaGreat.E.Pc
namespace Go.Proofs.YtlgnagnmoleeiaaGreat.E.Pc
open Go.RowKit
set_option linter.unusedVariables false
set_option linter.unusedSimpArgs false
/-- The number of an edge, counted around. -/
def edK (k : Int) (n : Nat) : Nat := (k % (n : Int)).toNat
def cpt (P : List (Int × Int)) (i : Nat) : Int × Int := P.getD i (0, 0)
def edV (P : List (Int × Int)) (q : Nat) : Int × Int := ((cpt P ((q + 1) % P.length)).1 - (cpt P q).1, (cpt P ((q + 1) % P.length)).2 - (cpt P q).2)
/-- Small coordinates. -/
def SmP (P : List (Int × Int)) : Prop := ∀ c ∈ P, (-100000 ≤ c.1 ∧ c.1 ≤ 100000) ∧ (-100000 ≤ c.2 ∧ c.2 ≤ 100000)
section
variable {p : Ct.Pi} {P : List (Int × Int)} {k : Int} {n m q i : Nat}
theorem ed_mod (hm : n = m + 1) : (k.tmod ((m + 1 : Nat) : Int) + ((m + 1 : Nat) : Int)).tmod ((m + 1 : Nat) : Int) = ((edK k n : Nat) : Int) := by
 subst hm
 have h0 : (0 : Int) < ((m + 1 : Nat) : Int) := by omega
 unfold edK
 rw [Int.toNat_of_nonneg (Int.emod_nonneg _ (by omega))]
 have h1 := Int.emod_nonneg k (show ((m + 1 : Nat) : Int) ≠ 0 by omega)
 have h2 := Int.emod_lt_of_pos k h0
 have h3 : 0 ≤ k.tmod ((m + 1 : Nat) : Int) + ((m + 1 : Nat) : Int) := by
  have := Int.lt_tmod_of_pos k h0
  omega
 rw [Int.tmod_eq_emod_of_nonneg h3, Int.add_emod_right]
 rw [Int.tmod_eq_emod]
 split
 · simp
 · rw [Int.natAbs_natCast, Int.sub_emod_right, Int.emod_emod_of_dvd _ (Int.dvd_refl _)]
theorem ed_lt (h : 0 < n) : edK k n < n := by
 unfold edK
 have h1 := Int.emod_nonneg k (show (n : Int) ≠ 0 by omega)
 have h2 := Int.emod_lt_of_pos k (show (0 : Int) < (n : Int) by omega)
 omega
theorem cpt_at (h : q < P.length) : (Ct.ptR P)[q]? = some [ni (cpt P q).1, ni (cpt P q).2] := by
 have : P[q]? = some (cpt P q) := by unfold cpt; rw [List.getD_eq_getElem?_getD, List.getElem?_eq_getElem h]; rfl
 exact Ct.pt_at this
theorem cpt_in (hs : SmP P) (h : q < P.length) : (-100000 ≤ (cpt P q).1 ∧ (cpt P q).1 ≤ 100000) ∧ (-100000 ≤ (cpt P q).2 ∧ (cpt P q).2 ≤ 100000) := hs _ (by unfold cpt; rw [List.getD_eq_getElem?_getD, List.getElem?_eq_getElem h]; exact List.getElem_mem h)
theorem e_edge (h0 : 0 < p.rim.length) (hn : p.rim.length ≤ 1000) (hs : SmP p.rim) (hk : W.Is64 k) : Pure PP 113 [.ag p.v, ni k] (.tu [ni (edV p.rim (edK k p.rim.length)).1, ni (edV p.rim (edK k p.rim.length)).2]) := by
 obtain ⟨m, hm⟩ : ∃ m, p.rim.length = m + 1 := ⟨p.rim.length - 1, by omega⟩
 have hl : (Ct.ptR p.rim).length = m + 1 := by rw [show (Ct.ptR p.rim).length = p.rim.length from List.length_map .., hm]
 have hq := ed_lt (k := k) h0
 have hmod := ed_mod (k := k) hm
 have hb : -((m + 1 : Nat) : Int) < k.tmod ((m + 1 : Nat) : Int) ∧ k.tmod ((m + 1 : Nat) : Int) < ((m + 1 : Nat) : Int) := ⟨Int.lt_tmod_of_pos k (by omega), Int.tmod_lt_of_pos k (by omega)⟩
 have hq2 : (edK k p.rim.length + 1) % p.rim.length < p.rim.length := Nat.mod_lt _ h0
 have e1 := cpt_at hq
 have e2 := cpt_at hq2
 obtain ⟨⟨a1, a2⟩, a3, a4⟩ := cpt_in hs hq
 obtain ⟨⟨b1, b2⟩, b3, b4⟩ := cpt_in hs hq2
 have r1 : ni (((edK k p.rim.length + 1 : Nat) : Int).tmod ((m + 1 : Nat) : Int)) = ni (((edK k p.rim.length + 1) % p.rim.length : Nat) : Int) := by rw [tmod_, hm]
 have hv : p.v = [ni p.id, ni p.home, .sl (Ct.ptR p.rim), .sl (Ct.wnR p.worn), zl p.marks] ++ (dR p.tol ++ (dR p.light ++ (dR p.heavy ++ (dR p.str ++ dR p.rough)))) := rfl
 unfold edV
 rw [hv]
 generalize edK k p.rim.length = q at *
 generalize cpt p.rim q = A at *
 generalize cpt p.rim ((q + 1) % p.rim.length) = B at *
 generalize (q + 1) % p.rim.length = q2 at *
 generalize Ct.ptR p.rim = PR at *
 generalize Ct.wnR p.worn = WR at *
 exact tr [.eqv 11 (ni (PR.length : Int)) (ni ((m + 1 : Nat) : Int)) (by rw [hl]), wq 16 (k.tmod ((m + 1 : Nat) : Int) + ((m + 1 : Nat) : Int)) (k.tmod ((m + 1 : Nat) : Int) + ((m + 1 : Nat) : Int)) (by omega), .eqv 18 (ni ((k.tmod ((m + 1 : Nat) : Int) + ((m + 1 : Nat) : Int)).tmod ((m + 1 : Nat) : Int))) (ni (q : Int)) (by rw [hmod]), .sel _ _ _ e1, inc 27 q (by omega), .eqv 29 _ _ r1, .sel _ _ _ e2, wq 36 (B.1 - A.1) (B.1 - A.1) (by omega), wq 41 (B.2 - A.2) (B.2 - A.2) (by omega)] (by kernel_rfl)
theorem ed_in (hs : SmP P) (h0 : 0 < P.length) (hq : q < P.length) : (-200000 ≤ (edV P q).1 ∧ (edV P q).1 ≤ 200000) ∧ (-200000 ≤ (edV P q).2 ∧ (edV P q).2 ≤ 200000) := by
 obtain ⟨⟨a1, a2⟩, a3, a4⟩ := cpt_in hs hq
 obtain ⟨⟨b1, b2⟩, b3, b4⟩ := cpt_in hs (Nat.mod_lt (q + 1) h0)
 unfold edV
 refine ⟨⟨?_, ?_⟩, ?_, ?_⟩ <;> (dsimp only; omega)
theorem e_edgeV (h0 : 0 < p.rim.length) (hn : p.rim.length ≤ 1000) (hs : SmP p.rim) (hk : W.Is64 k) : Pure PP 50 [.ag p.v, ni k] (.ag (dV (Ct.qv (edV p.rim (edK k p.rim.length))))) := by
 have c := e_edge h0 hn hs hk
 obtain ⟨⟨a1, a2⟩, a3, a4⟩ := ed_in hs h0 (ed_lt (k := k) h0)
 have o := Ct.e_pof (x := (edV p.rim (edK k p.rim.length)).1) (y := (edV p.rim (edK k p.rim.length)).2) ⟨by omega, by omega⟩ ⟨by omega, by omega⟩
 rw [Prod.eta] at o
 have hv : p.v = [ni p.id, ni p.home, .sl (Ct.ptR p.rim), .sl (Ct.wnR p.worn), zl p.marks] ++ (dR p.tol ++ (dR p.light ++ (dR p.heavy ++ (dR p.str ++ dR p.rough)))) := rfl
 rw [hv] at c ⊢
 generalize edV p.rim (edK k p.rim.length) = E at *
 exact tr [cl c, cl o] (by kernel_rfl)
def sqV (P : List (Int × Int)) (q : Nat) : Int := (edV P q).1 * (edV P q).1 + (edV P q).2 * (edV P q).2
theorem sq_le {x : Int} (h1 : -200000 ≤ x) (h2 : x ≤ 200000) : 0 ≤ x * x ∧ x * x ≤ 40000000000 := by
 constructor
 · rcases Int.le_total 0 x with h | h
   · exact Int.mul_nonneg h h
   · have := Int.mul_nonneg (show 0 ≤ -x by omega) (show 0 ≤ -x by omega)
     rwa [Int.neg_mul_neg] at this
 · have h3 : x.natAbs ≤ 200000 := by omega
   have h4 := Nat.mul_le_mul h3 h3
   rw [← Int.natAbs_mul] at h4
   omega
theorem e_square (h0 : 0 < p.rim.length) (hn : p.rim.length ≤ 1000) (hs : SmP p.rim) (hk : W.Is64 k) : Pure PP 53 [.ag p.v, ni k] (ni (sqV p.rim (edK k p.rim.length))) := by
 have c := e_edge h0 hn hs hk
 obtain ⟨⟨a1, a2⟩, a3, a4⟩ := ed_in hs h0 (ed_lt (k := k) h0)
 obtain ⟨s1, s2⟩ := sq_le a1 a2
 obtain ⟨s3, s4⟩ := sq_le a3 a4
 have hv : p.v = [ni p.id, ni p.home, .sl (Ct.ptR p.rim), .sl (Ct.wnR p.worn), zl p.marks] ++ (dR p.tol ++ (dR p.light ++ (dR p.heavy ++ (dR p.str ++ dR p.rough)))) := rfl
 unfold sqV
 rw [hv] at c ⊢
 generalize edV p.rim (edK k p.rim.length) = E at *
 exact tr [cl c, wq 15 (E.1 * E.1) (E.1 * E.1) (by omega), wq 18 (E.2 * E.2) (E.2 * E.2) (by omega), wq 19 (E.1 * E.1 + E.2 * E.2) (E.1 * E.1 + E.2 * E.2) (by omega)] (by kernel_rfl)
end
end Go.Proofs.YtlgnagnmoleeiaaGreat.E.Pc
