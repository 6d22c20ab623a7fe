/-
 PIECE: the law PieceMoved, by the engine: the whole.
-/
import Derived.Test.YtlgnagnmoleeiaaGreatFaB
namespace Go.Proofs.YtlgnagnmoleeiaaGreat.E.Pc
open Go.RowKit
set_option linter.unusedVariables false
set_option linter.unusedSimpArgs false
section
variable {L : List Vc} {b j k m n i : Nat} {p q : Vc × Vc} {pc : Ct.Pi} {T A C : List (List Vc)} {l at_l : List Int} {u v : Vc}
theorem p12_bv (l : List Int) : ∀ a ∈ (Ct.p12 l).rimV, Bv 20 a := fun a ha => by
 obtain ⟨c, hc, rfl⟩ := List.mem_map.1 ha
 have := p12_sm l c hc
 exact qv_bv (by omega)
theorem p12_good (l : List Int) (h1 : Bv 1000 p.1) (h2 : Bv 1000 p.2) : (Ct.p12 l).Good p 1000 := by
 have ok := p12_ok l
 have hl := p12_len l
 exact ⟨⟨ok.r, ok.n, ok.tol.mono (by omega), ok.light.mono (by omega), ok.heavy.mono (by omega), ok.str.mono (by omega), ok.rough.mono (by omega)⟩, fun a ha => (p12_bv l a ha).mono (by omega), h1, h2, by omega, by omega⟩
noncomputable abbrev flM : Func := fnOf PP 6
noncomputable def lmS (pv pl1 pl2 pl3 : List V) (A C : List (List V)) (i : Nat) : St := at_ flM [(7, .lp 2 0), (9, .sl A), (10, .sl C), (11, ni (i : Int))] [.dead, .dead, .bx 60 pl2]
theorem lm_1 (b1 : Bv j p.1) (b2 : Bv j p.2) (hA : ∀ K ∈ A, K.length = 3 ∧ ∀ a ∈ K, Bv b a) (hk : 40 * (j + b) + 100 ≤ 800000000000) (hn : A.length ≤ 1000) (pv pl1 pl3 : List V) : Gd PP 6 (.v (bo true)) (lp flM 0) (lmS pv pl1 (dPl p) pl3 (rowsL A) (rowsL (A.map fun K => K.map (vput p))) 0) := by
 have hl := rows_len A
 have hat := fun i => rows_at (T := A) (i := i)
 have hat2 : ∀ i (h : i < A.length), (rowsL (A.map fun K => K.map (vput p)))[i]? = some [dL (A[i].map (vput p))] := fun i h => by
  unfold rowsL
  rw [List.getElem?_map, List.getElem?_map, List.getElem?_eq_getElem h]
  rfl
 generalize rowsL A = W at *
 generalize rowsL (A.map fun K => K.map (vput p)) = W2 at *
 refine Gd.loop (lmS pv pl1 (dPl p) pl3 W W2) (fun i => i ≤ A.length) (fun i => A.length - i) ?_ 0 (Nat.zero_le _)
 intro i hi ih
 let E0 : F_ := .eqv 62 (ni (W.length : Int)) (ni (A.length : Int)) (by rw [hl])
 by_cases g : i < A.length
 · have nx := ih (i + 1) g (by omega)
   have e1 := hat i g
   have e2 := hat2 i g
   obtain ⟨q1, q2⟩ := hA _ (List.getElem_mem g)
   have cm := e_move (p := p) b1 b2 q2 (by omega) (by omega)
   have cs := e_lsame (A[i].map (vput p)) (by rw [List.length_map]; omega)
   unfold lmS at nx ⊢
   generalize A[i] = K at *
   exact .to mo_ [] [7, 9, 10, 11] [2] 3 [E0, ye (t := decide ((i : Int) < (A.length : Int))) (decide_eq_true (by omega)), .sel _ _ _ e1, cl cm, .sel _ _ _ e2, cl cs, nf, inc 65 i (by omega)] nx (by kernel_rfl)
 · unfold lmS
   exact fi [E0, na (t := decide ((i : Int) < (A.length : Int))) (decide_eq_false (by omega)), cl e_lives] (by kernel_rfl) (by kernel_rfl)
theorem e_val6 (l : List Int) : Pure PP 69 [dL (Ct.p12 l).rimV] (bo true) := by
 have hl := p12_len l
 have hv : (Ct.p12 l).rimV.length = (Ct.p12 l).rim.length := List.length_map ..
 have := e_valid6 (p12_bv l) (by omega) (by omega)
 rwa [valid_eq, p12_val] at this
theorem e_valP (l : List Int) : Pure PP 67 [dL (Ct.p12 l).rimV] (bo true) := by
 have hl := p12_len l
 have hv : (Ct.p12 l).rimV.length = (Ct.p12 l).rim.length := List.length_map ..
 have := e_valid (p12_bv l) (by omega) (by omega)
 rwa [p12_val] at this
theorem l_moved (hl : ∀ x ∈ l, W.Is64 x) (ha : ∀ x ∈ at_l, W.Is64 x) : Pure PP 6 [zl l, zl at_l] (bo true) := by
 have cp := Ct.e_piece12 hl
 have p1 := e_place ha 0 (by omega)
 have p2 := e_place ha 4 (by omega)
 obtain ⟨a1, a2⟩ := plc_bits at_l 0
 obtain ⟨d1, d2⟩ := plc_bits at_l 4
 generalize plc at_l 0 = one at *
 generalize plc at_l 4 = two at *
 have cb := e_compP d1 d2 a1 a2 (by omega)
 obtain ⟨f1, f2⟩ := comp_bits d1 d2 a1 a2
 have g1 := p12_good l (a1.mono (show 7 ≤ 1000 by omega)) (a2.mono (show 7 ≤ 1000 by omega))
 have g3 := p12_good l (f1.mono (show 10 * (7 + 7) + 10 ≤ 1000 by omega)) (f2.mono (show 10 * (7 + 7) + 10 ≤ 1000 by omega))
 have hv := e_val6 l
 have hvp := e_valP l
 have hpl := p12_len l
 have ok := p12_ok l
 have hb := p12_bv l
 have hrl : (Ct.p12 l).rimV.length = (Ct.p12 l).rim.length := List.length_map ..
 generalize Ct.p12 l = p at *
 have c1 := Ct.e_pcen g1
 have c2 := Ct.e_pcen12 g1
 have s1 := same_v (Ct.cenV p one)
 have k1 := (e_pcells (pl := one) ok hb (by omega) (by omega) hvp a1 a2 (by omega)).ro
 have k2 := (e_cells12 (p := one) ok hb (by omega) (by omega) hv a1 a2 (by omega)).ro
 obtain ⟨ht, hTl⟩ := cut_bits hb (by omega) (by omega) (by omega)
 have s2 := e_scells ((cutT p.rimV).map fun K => K.map (vput one)) (fun K hK => by
  obtain ⟨K0, h0, rfl⟩ := List.mem_map.1 hK
  rw [List.length_map, (ht K0 h0).1]
  omega) (by rw [List.length_map]; omega)
 have c3 := Ct.e_pcen g3
 have hcb := g1.cen
 have c4 := e_put (p := two) (u := Ct.cenV p one) d1 d2 g1.cenV (by omega)
 have hcv : Ct.cenV p (compP two one) = vput two (Ct.cenV p one) := put_comp two one (Pg.center p.rimV)
 rw [← hcv] at c4
 have s3 := same_v (Ct.cenV p (compP two one))
 have k3 := (e_pcells (pl := compP two one) ok hb (by omega) (by omega) hvp f1 f2 (by omega)).ro
 have hmm : ((cutT p.rimV).map fun K => K.map (vput (compP two one))) = ((cutT p.rimV).map fun K => K.map (vput one)).map fun K => K.map (vput two) := by
  rw [List.map_map]
  refine List.map_congr_left fun K _ => ?_
  show _ = (K.map (vput one)).map (vput two)
  rw [List.map_map]
  exact List.map_congr_left fun x _ => put_comp two one x
 rw [hmm] at k3
 have hT2 : ∀ K ∈ (cutT p.rimV).map (fun K => K.map (vput one)), K.length = 3 ∧ ∀ a ∈ K, Bv 1000 a := fun K hK => by
  obtain ⟨K0, h0, rfl⟩ := List.mem_map.1 hK
  obtain ⟨q1, q2⟩ := ht K0 h0
  exact ⟨by rw [List.length_map, q1], fun a ha => (map_put_bits a1 a2 q2 a ha).mono (by omega)⟩
 have hTl2 : ((cutT p.rimV).map fun K => K.map (vput one)).length ≤ 1000 := by rw [List.length_map]; omega
 generalize ((cutT p.rimV).map fun K => K.map (vput one)) = A at *
 have w1 := rows_len A
 have w2 := rows_len (A.map fun K => K.map (vput two))
 rw [List.length_map] at w2
 have nn := lm_1 (p := two) d1 d2 hT2 (by omega) hTl2 p.v (dPl one) (dPl (compP two one))
 unfold lmS at nn
 generalize rowsL (A.map fun K => K.map (vput two)) = W2 at *
 generalize rowsL A = W1 at *
 have hw : (W1.length : Int) = (W2.length : Int) := by rw [w1, w2]
 have hvv : p.v = [ni p.id, ni p.home, .sl (Ct.ptR p.rim), .sl (Ct.wnR p.worn), zl p.marks] ++ (dR p.tol ++ (dR p.light ++ (dR p.heavy ++ (dR p.str ++ dR p.rough)))) := rfl
 rw [hvv] at *
 generalize Ct.ptR p.rim = PR at *
 generalize Ct.wnR p.worn = WR at *
 generalize Ct.cenV p (compP two one) = C3 at *
 generalize compP two one = both at *
 generalize Ct.cenV p one = C1 at *
 exact pf (by kernel_rfl) (.to mo_ [] [7, 9, 10, 11] [2] 3 [cl cp, cl p1, cl p2, cl cb, cl c1, cl c2, cl s1, nf, cl k1, cl k2, cl s2, nf, cl c3, cl c1, cl c4, cl s3, nf, cl k1, cl k3, .eqv 56 (ni (W1.length : Int)) (ni (W2.length : Int)) (by rw [hw]), na (t := ((W2.length : Int) != (W2.length : Int))) (by simp)] nn (by kernel_rfl))
end
end Go.Proofs.YtlgnagnmoleeiaaGreat.E.Pc
