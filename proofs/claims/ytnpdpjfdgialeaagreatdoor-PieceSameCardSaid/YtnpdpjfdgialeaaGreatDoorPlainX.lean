/-
 PLAIN: decoding strings and lists.
-/
import Derived.Test.YtnpdpjfdgialeaaGreatDoorEvE
import Derived.Test.YtnpdpjfdgialeaaGreatDoorEmY
import Derived.Test.YtnpdpjfdgialeaaGreatDoorEoA
import Derived.ChangeKeysEq
import Derived.Test.YtnpdpjfdgialeaaGreatDoorFlow
namespace Go.Proofs.YtnpdpjfdgialeaaGreatDoor.E.Ct
open Go.RowKit
set_option linter.unusedVariables false
set_option linter.unusedSimpArgs false
structure Pi where
 id : Int
 home : Int
 rim : List (Int × Int)
 worn : List Bool
 marks : List Int
 tol : Rat
 light : Rat
 heavy : Rat
 str : Rat
 rough : Rat
def ptR (l : List (Int × Int)) : List (List V) := l.map fun p => [ni p.1, ni p.2]
def wnR (l : List Bool) : List (List V) := l.map fun p => [bo p]
def Pi.v (p : Pi) : List V := [ni p.id, ni p.home, .sl (ptR p.rim), .sl (wnR p.worn), zl p.marks] ++ (dR p.tol ++ (dR p.light ++ (dR p.heavy ++ (dR p.str ++ dR p.rough))))
def qv (x : Int × Int) : Vc := (Rat.divInt x.1 1, Rat.divInt x.2 1)
def Pi.rimV (p : Pi) : List Vc := p.rim.map qv
structure Pi.Ok (p : Pi) (b : Nat) : Prop where
 r : ∀ x ∈ p.rim, W.Is64 x.1 ∧ W.Is64 x.2
 n : 0 < p.rim.length ∧ p.rim.length ≤ 1000
 tol : Bq b p.tol
 light : Bq b p.light
 heavy : Bq b p.heavy
 str : Bq b p.str
 rough : Bq b p.rough
section
variable {p : Pi} {b k : Nat} {x y : Int} {r t : Rat}
theorem get_of {α : Type} {l : List α} {i : Nat} (h : i < l.length) : ∃ x, l[i]? = some x ∧ x ∈ l := ⟨l[i], List.getElem?_eq_getElem h, List.getElem_mem h⟩
theorem is1_ : W.Is64 1 := ⟨by decide, by decide⟩
theorem e_pof (hx : W.Is64 x) (hy : W.Is64 y) : Pure PP 78 [ni x, ni y] (.ag (dV (qv (x, y)))) := tr [cl (e_rof hx is1_), cl (e_rof hy is1_)] (by kernel_rfl)
theorem pt_at {q : Int × Int} {l : List (Int × Int)} (h : l[k]? = some q) : (ptR l)[k]? = some [ni q.1, ni q.2] := by unfold ptR; rw [List.getElem?_map, h]; rfl
theorem rim_app {q : Int × Int} (h : p.rim[k]? = some q) : (p.rimV.take k).map dV ++ [qv q].map dV = (p.rimV.take (k + 1)).map dV := by
 rw [List.take_add_one]
 unfold Pi.rimV
 rw [List.getElem?_map, h, List.map_append]
 rfl
noncomputable abbrev frm : Func := fnOf PP 43
theorem e_rim (h : p.Ok b) : Pure PP 43 [.ag p.v] (.o 84 8 (p.rimV.map dV)) := by
 have hn := h.n
 have hl : (ptR p.rim).length = p.rim.length := List.length_map ..
 have hv : p.rimV.length = p.rim.length := List.length_map ..
 let X : Nat → St := fun k => at_ frm [(3, .ow 1), (7, .sl (ptR p.rim)), (8, ni (p.rim.length : Int)), (9, ni (k : Int))] [.dead, .rw 84 8 ((p.rimV.take k).map dV)]
 refine pf (by kernel_rfl) (.to mo_ [.ow 3 (.rw 84 8 [])] [3, 7, 8, 9] [1] 2 [.eqv 8 (ni ((ptR p.rim).length : Int)) (ni (p.rim.length : Int)) (by rw [hl])] (td' := lp frm 0) (σ' := X 0) ?_ (by kernel_rfl))
 refine Gd.loop X (fun k => k ≤ p.rim.length) (fun k => p.rim.length - k) ?_ 0 (Nat.zero_le _)
 intro k hk ih
 by_cases g : k < p.rim.length
 · obtain ⟨q, hq, hm⟩ := get_of g
   obtain ⟨h1, h2⟩ := h.r q hm
   exact .to mo_ [.mv 1 4] [3, 7, 8, 9] [1] 2 [ye (t := decide ((k : Int) < (p.rim.length : Int))) (decide_eq_true (by omega)), .sel _ _ _ (pt_at hq), cl (e_pof h1 h2), .app ((p.rimV.take k).map dV) ([qv q].map dV) ((p.rimV.take (k + 1)).map dV) 2000 (rim_app hq) Nat.zero_lt_one (by rw [List.length_map, List.length_take]; omega), inc 21 k (by omega)] (ih (k + 1) g (by omega)) (by kernel_rfl)
 · have e : k = p.rim.length := by omega
   subst e
   have hX : X p.rim.length = at_ frm [(3, .ow 1), (7, .sl (ptR p.rim)), (8, ni (p.rim.length : Int)), (9, ni (p.rim.length : Int))] [.dead, .rw 84 8 (p.rimV.map dV)] := by simp only [X]; rw [← hv, List.take_length]
   rw [hX]
   exact fi [na (t := decide ((p.rim.length : Int) < (p.rim.length : Int))) (decide_eq_false (by omega))] (by kernel_rfl) (by kernel_rfl)
noncomputable abbrev fr12 : Func := fnOf PP 51
theorem e_rim12w (hr : ∀ x ∈ p.rim, W.Is64 x.1 ∧ W.Is64 x.2) (hn : p.rim.length ≤ 1000) : Pure PP 51 [.ag p.v] (.o 84 8 (p.rimV.map dV)) := by
 have hl : (ptR p.rim).length = p.rim.length := List.length_map ..
 have hv : p.rimV.length = p.rim.length := List.length_map ..
 let X : Nat → St := fun k => at_ fr12 [(1, .ip p.v), (3, .ow 1), (4, ni (k : Int))] [.dead, .rw 84 8 ((p.rimV.take k).map dV)]
 refine pf (by kernel_rfl) (.to mo_ [.ow 3 (.rw 84 8 []), .fz 1] [1, 3, 4] [1] 2 [] (td' := lp fr12 0) (σ' := X 0) ?_ (by kernel_rfl))
 refine Gd.loop X (fun k => k ≤ p.rim.length) (fun k => p.rim.length - k) ?_ 0 (Nat.zero_le _)
 intro k hk ih
 by_cases g : k < p.rim.length
 · obtain ⟨q, hq, hm⟩ := get_of g
   obtain ⟨h1, h2⟩ := hr q hm
   exact .to mo_ [.mv 1 3] [1, 3, 4] [1] 2 [.eqv 8 (ni ((ptR p.rim).length : Int)) (ni (p.rim.length : Int)) (by rw [hl]), ye (t := decide ((k : Int) < (p.rim.length : Int))) (decide_eq_true (by omega)), .sel _ _ _ (pt_at hq), .sel _ _ _ (pt_at hq), cl (e_vof h1 h2), .app ((p.rimV.take k).map dV) ([qv q].map dV) ((p.rimV.take (k + 1)).map dV) 2000 (rim_app hq) Nat.zero_lt_one (by rw [List.length_map, List.length_take]; omega), inc 11 k (by omega)] (ih (k + 1) g (by omega)) (by kernel_rfl)
 · have e : k = p.rim.length := by omega
   subst e
   have hX : X p.rim.length = at_ fr12 [(1, .ip p.v), (3, .ow 1), (4, ni (p.rim.length : Int))] [.dead, .rw 84 8 (p.rimV.map dV)] := by simp only [X]; rw [← hv, List.take_length]
   rw [hX]
   exact fi [.eqv 8 (ni ((ptR p.rim).length : Int)) (ni (p.rim.length : Int)) (by rw [hl]), na (t := decide ((p.rim.length : Int) < (p.rim.length : Int))) (decide_eq_false (by omega))] (by kernel_rfl) (by kernel_rfl)
end
end Go.Proofs.YtnpdpjfdgialeaaGreatDoor.E.Ct
namespace Go.Proofs.YtnpdpjfdgialeaaGreatDoor.E.Ct
open Go.RowKit
set_option linter.unusedVariables false
set_option linter.unusedSimpArgs false
section
variable {p : Pi} {pl : Pl} {b k j : Nat} {u : Vc} {st : Int}
structure Pi.Good (p : Pi) (pl : Pl) (b : Nat) : Prop where
 ok : p.Ok b
 r : ∀ a ∈ p.rimV, Bv b a
 t : Bv b pl.1
 a : Bv b pl.2
 n : p.rim.length ≤ 100
 k : b ≤ 10000
end
end Go.Proofs.YtnpdpjfdgialeaaGreatDoor.E.Ct
namespace Go.Proofs.YtnpdpjfdgialeaaGreatDoor.E
open Go.RowKit
set_option linter.unusedVariables false
theorem Pure.ro {P : Program} {f : FuncId} {ds : List V} {T z : Nat} {l : List (List V)} (h : Pure P f ds (.o T z l)) : Pure P f ds (.v (.sl l)) :=
 ⟨h.1, fun w M args hM hr => (h.2 w M args hM hr).mono fun e w' ⟨v, e1, ok, bel⟩ => ⟨v, e1, by
  obtain ⟨q1, xs, q2, q3, q4⟩ := ok
  show Rep w' M no v (.sl l)
  have hxl : xs.length = l.flatten.length := by rw [q2.1, flat_len q1]
  rcases q2.2 with ⟨rfl, e0⟩ | ⟨g, cap, cur, rfl, hB, hh, hnc, hcm, hcs', htk⟩
  · have h0 : l = [] := List.length_eq_zero_iff.1 e0
    subst h0
    exact .sl _ none 0 0 0 z [] (fun _ _ => undef) (Nat.le_refl _) (Nat.zero_le _) (fun h => by simp at h) (fun _ h => by simp at h) (fun i j cs x h => by simp at h) (fun i j cs x h => by simp at h)
  · refine .sl _ _ g 0 cap z l (fun i j => xs.getD (i * z + j) undef) hnc hcm (fun _ => ⟨rfl, fun hA => hB (hM g hA), ⟨cur, T, (0, 0), hh⟩⟩) q1 (fun i j cs x hi hj => ?_) (fun i j cs x hi hj => ?_)
    · have e1 := flat_get q1 hi hj
      have e2 := (List.getElem?_eq_some_iff.1 e1).1
      have e3 : xs[i * z + j]? = some (xs.getD (i * z + j) undef) := by rw [List.getD_eq_getElem?_getD, List.getElem?_eq_getElem (by omega)]; rfl
      have := row_cell q2 rfl e3
      rwa [show 0 + i * z + j = i * z + j by omega]
    · exact (q4 _ x (flat_get q1 hi hj)).mo ⟨Nat.le_refl _, fun _ _ _ => rfl, fun g e => .inl (.inl e), fun _ _ e => e⟩, bel⟩⟩
end Go.Proofs.YtnpdpjfdgialeaaGreatDoor.E
namespace Go.Proofs.YtnpdpjfdgialeaaGreatDoor.E.Pc
open Go.RowKit
set_option linter.unusedVariables false
set_option linter.unusedSimpArgs false
/-- The cells, moved up to one of them. -/
def mvR (pl : Vc × (Rat × Rat)) (T : List (List Vc)) (k : Nat) : List (List Vc) := (T.take k).map (fun K => K.map (vput pl)) ++ T.drop k
section
variable {L : List Vc} {b k j : Nat} {T : List (List Vc)} {p : Ct.Pi} {pl : Vc × (Rat × Rat)}
theorem mvR_at (h : k < T.length) : (rowsL (mvR pl T k))[k]? = some [dL T[k]] := by
 have : (mvR pl T k)[k]? = some T[k] := by
  unfold mvR
  rw [List.getElem?_append_right (by rw [List.length_map, List.length_take]; omega), List.length_map, List.length_take, List.getElem?_drop, Nat.min_eq_left (by omega), Nat.sub_self, Nat.add_zero, List.getElem?_eq_getElem h]
 unfold rowsL
 rw [List.getElem?_map, this]
 rfl
theorem mvR_set (h : k < T.length) : (rowsL (mvR pl T k)).set k [dL (T[k].map (vput pl))] = rowsL (mvR pl T (k + 1)) := by
 unfold rowsL mvR
 rw [← List.map_set]
 congr 1
 rw [List.set_append_right _ _ (by rw [List.length_map, List.length_take]; omega), List.length_map, List.length_take, Nat.min_eq_left (by omega), Nat.sub_self, List.drop_eq_getElem_cons h, List.set_cons_zero, List.take_add_one, List.getElem?_eq_getElem h, List.map_append, List.append_assoc]
 rfl
theorem mvR_len : (rowsL (mvR pl T k)).length = T.length := by
 have : (rowsL (mvR pl T k)).length = (mvR pl T k).length := List.length_map ..
 rw [this]
 unfold mvR
 rw [List.length_append, List.length_map, List.length_take, List.length_drop]
 omega
noncomputable abbrev fpc : Func := fnOf PP 42
theorem e_pcells (ok : p.Ok 100) (hb : ∀ a ∈ p.rimV, Bv b a) (h3 : 3 ≤ p.rimV.length) (hn : p.rimV.length ≤ 900) (cv : Pure PP 75 [dL p.rimV] (bo true)) (b1 : Bv j pl.1) (b2 : Bv j pl.2) (hk : 100 * (b + j) + 1000 ≤ 800000000000) : Pure PP 42 [.ag p.v, .ag (dPl pl)] (.o 90 1 (rowsL ((cutT p.rimV).map fun K => K.map (vput pl)))) := by
 have cr := (Ct.e_rim ok).ro
 have co := e_cof hb (by omega) h3 hn cv
 have hr : Rm p.rimV (List.range p.rimV.length) b := ⟨fun x hx => List.mem_range.1 hx, by rw [List.length_range]; omega, hb, by omega⟩
 have hin := cut_in p.rimV.length (List.range p.rimV.length) hr List.nodup_range (by rw [List.length_range]; omega) (by rw [List.length_range]; omega)
 have ht : ∀ K ∈ cutT p.rimV, K.length = 3 ∧ ∀ a ∈ K, Bv b a := fun K hK => by
  unfold cutT at hK
  obtain ⟨t, hm, rfl⟩ := List.mem_map.1 hK
  obtain ⟨q1, q2⟩ := hin t hm
  refine ⟨by rw [List.length_map, q1], fun a ha => ?_⟩
  obtain ⟨x, hx, rfl⟩ := List.mem_map.1 ha
  exact hr.bv (q2 x hx)
 have hres : (cutT p.rimV).map (fun K => K.map (vput pl)) = mvR pl (cutT p.rimV) (cutT p.rimV).length := by unfold mvR; rw [List.take_length, List.drop_length, List.append_nil]
 rw [hres]
 have hst : rowsL (cutT p.rimV) = rowsL (mvR pl (cutT p.rimV) 0) := rfl
 rw [hst] at co
 have hTl : (cutT p.rimV).length ≤ 901 := by
  have h1 := cut_len (L := p.rimV) p.rimV.length (List.range p.rimV.length)
  have h2 : (cutT p.rimV).length = (cutL p.rimV).length := List.length_map ..
  have h3 : (cutL p.rimV).length ≤ p.rimV.length + 1 := h1
  omega
 generalize cutT p.rimV = T at *
 generalize p.rimV = L at *
 have hlen := mvR_len (pl := pl) (T := T) (k := 0)
 let X : Nat → St := fun k => at_ fpc [(3, .ip (dPl pl)), (5, .ow 2), (15, .ow 2), (16, ni (T.length : Int)), (17, ni (k : Int))] [.dead, .dead, .rw 90 1 (rowsL (mvR pl T k))]
 refine pf (by kernel_rfl) (.to mo_ [.fz 3] [3, 5, 15, 16, 17] [2] 3 [cl cr, .lend _ _ _ _ [] co, .eqv 16 (ni ((rowsL (mvR pl T 0)).length : Int)) (ni (T.length : Int)) (by rw [hlen])] (td' := lp fpc 0) (σ' := X 0) ?_ (by kernel_rfl))
 refine Gd.loop X (fun k => k ≤ T.length) (fun k => T.length - k) ?_ 0 (Nat.zero_le _)
 intro k hk' ih
 by_cases g : k < T.length
 · have hx : decide ((k : Int) < (T.length : Int)) = true := decide_eq_true (by omega)
   have nx := ih (k + 1) (by omega) (by omega)
   have e := mvR_at (pl := pl) g
   have s := mvR_set (pl := pl) g
   obtain ⟨q1, q2⟩ := ht _ (List.getElem_mem g)
   have m := e_move (p := pl) b1 b2 q2 (by omega) (by omega)
   simp only [X] at nx ⊢
   generalize rowsL (mvR pl T k) = A at *
   generalize rowsL (mvR pl T (k + 1)) = B at *
   generalize T[k] = K at *
   exact .to mo_ [] [3, 5, 15, 16, 17] [2] 3 [ye hx, .sel _ _ _ e, .sel _ _ _ e, cl m, .sel _ _ _ e, .upd _ _ _ _ _ e s, inc 28 k (by omega)] nx (by kernel_rfl)
 · have : k = T.length := by omega
   subst this
   have hx : decide ((T.length : Int) < (T.length : Int)) = false := decide_eq_false (by omega)
   exact fi [na hx] (by kernel_rfl) (by kernel_rfl)
end
end Go.Proofs.YtnpdpjfdgialeaaGreatDoor.E.Pc
namespace Go.Proofs.YtnpdpjfdgialeaaGreatDoor.E.Pc
open Go.RowKit
set_option linter.unusedVariables false
set_option linter.unusedSimpArgs false
/-- The number of an edge, counted around. -/
def edK (k : Int) (n : Nat) : Nat := (k % (n : Int)).toNat
def cpt (P : List (Int × Int)) (i : Nat) : Int × Int := P.getD i (0, 0)
def edV (P : List (Int × Int)) (q : Nat) : Int × Int := ((cpt P ((q + 1) % P.length)).1 - (cpt P q).1, (cpt P ((q + 1) % P.length)).2 - (cpt P q).2)
/-- Small coordinates. -/
def SmP (P : List (Int × Int)) : Prop := ∀ c ∈ P, (-100000 ≤ c.1 ∧ c.1 ≤ 100000) ∧ (-100000 ≤ c.2 ∧ c.2 ≤ 100000)
section
variable {p : Ct.Pi} {P : List (Int × Int)} {k : Int} {n m q i : Nat}
theorem ed_mod (hm : n = m + 1) : (k.tmod ((m + 1 : Nat) : Int) + ((m + 1 : Nat) : Int)).tmod ((m + 1 : Nat) : Int) = ((edK k n : Nat) : Int) := by
 subst hm
 have h0 : (0 : Int) < ((m + 1 : Nat) : Int) := by omega
 unfold edK
 rw [Int.toNat_of_nonneg (Int.emod_nonneg _ (by omega))]
 have h1 := Int.emod_nonneg k (show ((m + 1 : Nat) : Int) ≠ 0 by omega)
 have h2 := Int.emod_lt_of_pos k h0
 have h3 : 0 ≤ k.tmod ((m + 1 : Nat) : Int) + ((m + 1 : Nat) : Int) := by
  have := Int.lt_tmod_of_pos k h0
  omega
 rw [Int.tmod_eq_emod_of_nonneg h3, Int.add_emod_right]
 rw [Int.tmod_eq_emod]
 split
 · simp
 · rw [Int.natAbs_natCast, Int.sub_emod_right, Int.emod_emod_of_dvd _ (Int.dvd_refl _)]
theorem ed_lt (h : 0 < n) : edK k n < n := by
 unfold edK
 have h1 := Int.emod_nonneg k (show (n : Int) ≠ 0 by omega)
 have h2 := Int.emod_lt_of_pos k (show (0 : Int) < (n : Int) by omega)
 omega
theorem cpt_at (h : q < P.length) : (Ct.ptR P)[q]? = some [ni (cpt P q).1, ni (cpt P q).2] := by
 have : P[q]? = some (cpt P q) := by unfold cpt; rw [List.getD_eq_getElem?_getD, List.getElem?_eq_getElem h]; rfl
 exact Ct.pt_at this
theorem cpt_in (hs : SmP P) (h : q < P.length) : (-100000 ≤ (cpt P q).1 ∧ (cpt P q).1 ≤ 100000) ∧ (-100000 ≤ (cpt P q).2 ∧ (cpt P q).2 ≤ 100000) := hs _ (by unfold cpt; rw [List.getD_eq_getElem?_getD, List.getElem?_eq_getElem h]; exact List.getElem_mem h)
theorem e_edge (h0 : 0 < p.rim.length) (hn : p.rim.length ≤ 1000) (hs : SmP p.rim) (hk : W.Is64 k) : Pure PP 86 [.ag p.v, ni k] (.tu [ni (edV p.rim (edK k p.rim.length)).1, ni (edV p.rim (edK k p.rim.length)).2]) := by
 obtain ⟨m, hm⟩ : ∃ m, p.rim.length = m + 1 := ⟨p.rim.length - 1, by omega⟩
 have hl : (Ct.ptR p.rim).length = m + 1 := by rw [show (Ct.ptR p.rim).length = p.rim.length from List.length_map .., hm]
 have hq := ed_lt (k := k) h0
 have hmod := ed_mod (k := k) hm
 have hb : -((m + 1 : Nat) : Int) < k.tmod ((m + 1 : Nat) : Int) ∧ k.tmod ((m + 1 : Nat) : Int) < ((m + 1 : Nat) : Int) := ⟨Int.lt_tmod_of_pos k (by omega), Int.tmod_lt_of_pos k (by omega)⟩
 have hq2 : (edK k p.rim.length + 1) % p.rim.length < p.rim.length := Nat.mod_lt _ h0
 have e1 := cpt_at hq
 have e2 := cpt_at hq2
 obtain ⟨⟨a1, a2⟩, a3, a4⟩ := cpt_in hs hq
 obtain ⟨⟨b1, b2⟩, b3, b4⟩ := cpt_in hs hq2
 have r1 : ni (((edK k p.rim.length + 1 : Nat) : Int).tmod ((m + 1 : Nat) : Int)) = ni (((edK k p.rim.length + 1) % p.rim.length : Nat) : Int) := by rw [tmod_, hm]
 have hv : p.v = [ni p.id, ni p.home, .sl (Ct.ptR p.rim), .sl (Ct.wnR p.worn), zl p.marks] ++ (dR p.tol ++ (dR p.light ++ (dR p.heavy ++ (dR p.str ++ dR p.rough)))) := rfl
 unfold edV
 rw [hv]
 generalize edK k p.rim.length = q at *
 generalize cpt p.rim q = A at *
 generalize cpt p.rim ((q + 1) % p.rim.length) = B at *
 generalize (q + 1) % p.rim.length = q2 at *
 generalize Ct.ptR p.rim = PR at *
 generalize Ct.wnR p.worn = WR at *
 exact tr [.eqv 11 (ni (PR.length : Int)) (ni ((m + 1 : Nat) : Int)) (by rw [hl]), wq 16 (k.tmod ((m + 1 : Nat) : Int) + ((m + 1 : Nat) : Int)) (k.tmod ((m + 1 : Nat) : Int) + ((m + 1 : Nat) : Int)) (by omega), .eqv 18 (ni ((k.tmod ((m + 1 : Nat) : Int) + ((m + 1 : Nat) : Int)).tmod ((m + 1 : Nat) : Int))) (ni (q : Int)) (by rw [hmod]), .sel _ _ _ e1, inc 27 q (by omega), .eqv 29 _ _ r1, .sel _ _ _ e2, wq 36 (B.1 - A.1) (B.1 - A.1) (by omega), wq 41 (B.2 - A.2) (B.2 - A.2) (by omega)] (by kernel_rfl)
theorem ed_in (hs : SmP P) (h0 : 0 < P.length) (hq : q < P.length) : (-200000 ≤ (edV P q).1 ∧ (edV P q).1 ≤ 200000) ∧ (-200000 ≤ (edV P q).2 ∧ (edV P q).2 ≤ 200000) := by
 obtain ⟨⟨a1, a2⟩, a3, a4⟩ := cpt_in hs hq
 obtain ⟨⟨b1, b2⟩, b3, b4⟩ := cpt_in hs (Nat.mod_lt (q + 1) h0)
 unfold edV
 refine ⟨⟨?_, ?_⟩, ?_, ?_⟩ <;> (dsimp only; omega)
theorem e_edgeV (h0 : 0 < p.rim.length) (hn : p.rim.length ≤ 1000) (hs : SmP p.rim) (hk : W.Is64 k) : Pure PP 48 [.ag p.v, ni k] (.ag (dV (Ct.qv (edV p.rim (edK k p.rim.length))))) := by
 have c := e_edge h0 hn hs hk
 obtain ⟨⟨a1, a2⟩, a3, a4⟩ := ed_in hs h0 (ed_lt (k := k) h0)
 have o := Ct.e_pof (x := (edV p.rim (edK k p.rim.length)).1) (y := (edV p.rim (edK k p.rim.length)).2) ⟨by omega, by omega⟩ ⟨by omega, by omega⟩
 rw [Prod.eta] at o
 have hv : p.v = [ni p.id, ni p.home, .sl (Ct.ptR p.rim), .sl (Ct.wnR p.worn), zl p.marks] ++ (dR p.tol ++ (dR p.light ++ (dR p.heavy ++ (dR p.str ++ dR p.rough)))) := rfl
 rw [hv] at c ⊢
 generalize edV p.rim (edK k p.rim.length) = E at *
 exact tr [cl c, cl o] (by kernel_rfl)
def sqV (P : List (Int × Int)) (q : Nat) : Int := (edV P q).1 * (edV P q).1 + (edV P q).2 * (edV P q).2
theorem sq_le {x : Int} (h1 : -200000 ≤ x) (h2 : x ≤ 200000) : 0 ≤ x * x ∧ x * x ≤ 40000000000 := by
 constructor
 · rcases Int.le_total 0 x with h | h
   · exact Int.mul_nonneg h h
   · have := Int.mul_nonneg (show 0 ≤ -x by omega) (show 0 ≤ -x by omega)
     rwa [Int.neg_mul_neg] at this
 · have h3 : x.natAbs ≤ 200000 := by omega
   have h4 := Nat.mul_le_mul h3 h3
   rw [← Int.natAbs_mul] at h4
   omega
theorem e_square (h0 : 0 < p.rim.length) (hn : p.rim.length ≤ 1000) (hs : SmP p.rim) (hk : W.Is64 k) : Pure PP 49 [.ag p.v, ni k] (ni (sqV p.rim (edK k p.rim.length))) := by
 have c := e_edge h0 hn hs hk
 obtain ⟨⟨a1, a2⟩, a3, a4⟩ := ed_in hs h0 (ed_lt (k := k) h0)
 obtain ⟨s1, s2⟩ := sq_le a1 a2
 obtain ⟨s3, s4⟩ := sq_le a3 a4
 have hv : p.v = [ni p.id, ni p.home, .sl (Ct.ptR p.rim), .sl (Ct.wnR p.worn), zl p.marks] ++ (dR p.tol ++ (dR p.light ++ (dR p.heavy ++ (dR p.str ++ dR p.rough)))) := rfl
 unfold sqV
 rw [hv] at c ⊢
 generalize edV p.rim (edK k p.rim.length) = E at *
 exact tr [cl c, wq 15 (E.1 * E.1) (E.1 * E.1) (by omega), wq 18 (E.2 * E.2) (E.2 * E.2) (by omega), wq 19 (E.1 * E.1 + E.2 * E.2) (E.1 * E.1 + E.2 * E.2) (by omega)] (by kernel_rfl)
end
end Go.Proofs.YtnpdpjfdgialeaaGreatDoor.E.Pc
namespace Go.Proofs.YtnpdpjfdgialeaaGreatDoor.E
open Go.RowKit
set_option linter.unusedVariables false
section
variable {P : Program} {w : World}
def iT (P : Program) (t : TypeId) : Bool := match P.underlying t with
 | some (.int .i64) => true
 | _ => false
theorem iT_of {t : TypeId} (h : iT P t = true) : P.underlying t = some (.int .i64) := by
 unfold iT at h
 split at h
 · assumption
 · cases h
theorem part_int {t : TypeId} (he : P.underlying t = some (.int .i64)) {xs : Array Value} {off : Nat} {v : Value} (hx : xs[off]? = some v) : (part t xs off).run P w = .ok v w := by simp [part, isAgg, run_under he, hx]
def intsF (P : Program) : Nat → List Field → Bool
 | _, [] => true
 | o, f :: r => f.name != "_" && (iT P f.type && (Nat.beq f.offset o && intsF P (o + 1) r))
theorem at_end {pre xs : List Value} {x : Value} {o : Nat} (h : pre.length = o) : (pre ++ x :: xs).toArray[o]? = some x := by
 subst h
 simp
theorem eqFields_ints (d : Nat) : ∀ (fs : List Field) (o : Nat) (xs ys : List Int) (pre pre' : List Value), intsF P o fs = true → xs.length = fs.length → ys.length = fs.length → pre.length = o → pre'.length = o → (Op.eqFields (d + 1) (pre ++ xs.map (Value.int .i64)).toArray (pre' ++ ys.map (Value.int .i64)).toArray fs).run P w = .ok (decide (xs = ys)) w
 | [], o, xs, ys, pre, pre', _, hx, hy, _, _ => by
  have hx : xs = [] := List.length_eq_zero_iff.1 hx
  have hy : ys = [] := List.length_eq_zero_iff.1 hy
  subst hx; subst hy
  simp [Op.eqFields]
 | f :: r, o, x :: xs, y :: ys, pre, pre', h, hx, hy, hp, hp' => by
  simp only [intsF, Bool.and_eq_true, bne_iff_ne] at h
  obtain ⟨h1, h2, h3, h4⟩ := h
  have h2 := iT_of h2
  have h3 := Nat.eq_of_beq_eq_true h3
  have ih := eqFields_ints d r (o + 1) xs ys (pre ++ [.int .i64 x]) (pre' ++ [.int .i64 y]) h4 (by simpa using hx) (by simpa using hy) (by simp [hp]) (by simp [hp'])
  rw [List.append_assoc, List.append_assoc] at ih
  have e1 := part_int (w := w) h2 (xs := (pre ++ .int .i64 x :: xs.map (Value.int .i64)).toArray) (off := f.offset) (at_end (hp.trans h3.symm))
  have e2 := part_int (w := w) h2 (xs := (pre' ++ .int .i64 y :: ys.map (Value.int .i64)).toArray) (off := f.offset) (at_end (hp'.trans h3.symm))
  have e3 := run_equalIn_int (P := P) w d f.type .i64 .i64 x y h2
  simp only [List.map_cons, Op.eqFields, h1, ne_eq, not_false_eq_true, if_true, Sem.run_bind, e1, e2, e3, Result.andThen_ok]
  by_cases hxy : x = y
  · subst hxy
    rw [if_neg (by simp)]
    simpa using ih
  · rw [if_pos (by simp [hxy])]
    simp [hxy]
 | f :: r, o, [], ys, pre, pre', _, hx, _, _, _ => by simp at hx
 | f :: r, o, x :: xs, [], pre, pre', _, _, hy, _, _ => by simp at hy
def sOk (P : Program) (T : TypeId) (n : Nat) : Bool := (match P.underlying T with
 | some (.struct fs) => intsF P 0 fs.toList && Nat.beq fs.toList.length n
 | _ => false) && !P.stoodInHeld T
theorem kv_ni (l : List Int) : (l.map ni).map kv = l.map (Value.int .i64) := by rw [List.map_map]; rfl
theorem EqA.str {T : TypeId} {n : Nat} (h : sOk P T n = true) {xs ys : List Int} (hx : xs.length = n) (hy : ys.length = n) : EqA P T (xs.map ni) (ys.map ni) (decide (xs = ys)) := fun w => by
 unfold sOk at h
 rw [Bool.and_eq_true] at h
 obtain ⟨h, hs⟩ := h
 split at h
 · rename_i fs hu
   simp only [Bool.and_eq_true] at h
   have hn := Nat.eq_of_beq_eq_true h.2
   have hf : P.fieldsOf T = fs := by simp [Program.fieldsOf, hu]
   rw [kv_ni, kv_ni]
   show (Op.equalIn 10000 T _ _).run P w = _
   rw [run_equalIn_struct w 9999 T _ _ (by rw [hu, hf]) (by simpa using hs), hf]
   exact eqFields_ints 9998 fs.toList 0 xs ys [] [] h.1 (by omega) (by omega) rfl rfl
 · cases h
end
end Go.Proofs.YtnpdpjfdgialeaaGreatDoor.E
namespace Go.Proofs.YtnpdpjfdgialeaaGreatDoor.W
open Go.RowKit
/-- A length at the beginning, of elements of at least so many bytes. -/
def cnt (l : List UInt8) (size : Nat) : Int × Nat × Int :=
 if (dec l).2.2 ≠ 0 then dec l
 else if (dec l).1 < 0 then ((dec l).1, (dec l).2.1, 2)
 else if ((l.length - (dec l).2.1) / size : Nat) < (dec l).1 then ((dec l).1, (dec l).2.1, 3)
 else dec l
theorem dec_at_le (l : List UInt8) : (dec l).2.1 ≤ l.length := by
 rcases hd : dec l with ⟨n, u, e⟩
 rcases dec_err hd with rfl | ⟨_, rfl, _⟩
 ·exact (dec_ok hd).2.1
 ·simp
theorem dec_at_le9 (l : List UInt8) : (dec l).2.1 ≤ 9 := by
 rcases hd : dec l with ⟨n, u, e⟩
 rcases dec_err hd with rfl | ⟨_, rfl, _⟩
 ·have := (dec_ok hd).2.2.2
  have := (enc_le n).2
  simp; omega
 ·simp
theorem dec_range (l : List UInt8) : Is64 (dec l).1 := by
 rcases hd : dec l with ⟨n, u, e⟩
 rcases dec_err hd with rfl | ⟨rfl, _, _⟩
 ·exact (dec_ok hd).1
 ·unfold Is64; simp
/-- A count that went well. -/
theorem cnt_ok {l : List UInt8} {size : Nat} (h : (cnt l size).2.2 = 0) : cnt l size = dec l ∧ (dec l).2.2 = 0 ∧ 0 ≤ (dec l).1 ∧ (dec l).1 ≤ ((l.length - (dec l).2.1) / size : Nat) := by
 unfold cnt at h ⊢
 by_cases h1 : (dec l).2.2 ≠ 0
 ·rw [if_pos h1] at h; exact absurd h h1
 rw [if_neg h1] at h ⊢
 by_cases h2 : (dec l).1 < 0
 ·rw [if_pos h2] at h; simp at h
 rw [if_neg h2] at h ⊢
 by_cases h3 : ((l.length - (dec l).2.1) / size : Nat) < (dec l).1
 ·rw [if_pos h3] at h; simp at h
 rw [if_neg h3] at h ⊢
 exact ⟨rfl, by simpa using h1, by omega, by omega⟩
/-- Decoding so many elements, one after the other. -/
def seqD {α : Type} (d : List UInt8 → α × Nat × Int) (b : List UInt8) : Nat → Nat → List α → List α × Nat × Int
 | 0, at_, acc => (acc, at_, 0)
 | k + 1, at_, acc => if (d (b.drop at_)).2.2 ≠ 0 then ([], 0, (d (b.drop at_)).2.2) else seqD d b k (at_ + (d (b.drop at_)).2.1) (acc ++ [(d (b.drop at_)).1])
def decL {α : Type} (d : List UInt8 → α × Nat × Int) (l : List UInt8) : List α × Nat × Int :=
 if (cnt l 1).2.2 ≠ 0 then ([], 0, (cnt l 1).2.2) else seqD d l (cnt l 1).1.toNat (cnt l 1).2.1 []
def decI (l : List UInt8) : List Int × Nat × Int := decL dec l
theorem cnt_bound {l : List UInt8} {size : Nat} (h : (cnt l size).2.2 = 0) : ∃ n : Nat, (cnt l size).1 = (n : Int) ∧ n * size + (cnt l size).2.1 ≤ l.length ∧ (cnt l size).2.1 ≤ 9 := by
 obtain ⟨h1, h2, h3, h4⟩ := cnt_ok h
 rw [h1]
 have h5 := dec_at_le l
 have h9 := dec_at_le9 l
 refine ⟨(dec l).1.toNat, by omega, ?_, h9⟩
 have h6 : (dec l).1.toNat ≤ (l.length - (dec l).2.1) / size := by omega
 have h7 := Nat.mul_le_mul_right size h6
 have h8 := Nat.div_mul_le_self (l.length - (dec l).2.1) size
 omega
end Go.Proofs.YtnpdpjfdgialeaaGreatDoor.W
