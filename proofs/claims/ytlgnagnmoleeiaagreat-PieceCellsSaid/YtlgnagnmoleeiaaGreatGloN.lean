/-
 No package variable is listed.
-/
import Derived.Test.YtlgnagnmoleeiaaGreatFaD
import Derived.Test.YtlgnagnmoleeiaaGreatMemI
import Derived.OpenShut
import Derived.Test.YtlgnagnmoleeiaaGreatPgO
import Derived.Carry
namespace Go.Proofs.YtlgnagnmoleeiaaGreat.E.Pc
open Go.RowKit
set_option linter.unusedVariables false
set_option linter.unusedSimpArgs false
noncomputable abbrev flC : Func := fnOf PP 7
abbrev GCl (td : List Item) (σ : St) : Prop := Gd PP 7 (.v (bo true)) td σ
def cA1 (K : List Vc) : Rat := (vsca (Pg.center K) (Pg.area K)).1
def cA2 (K : List Vc) : Rat := (vsca (Pg.center K) (Pg.area K)).2
def cS (A : List (List Vc)) (i : Nat) : Vc := (sumR cA1 A i, sumR cA2 A i)
noncomputable def lcS (pw : Ct.Pi) (pl : List V) (W W0 : List (List V)) (A : List (List Vc)) (i : Nat) : St := at_ flC [(5, .lp 0 0), (6, .lp 1 0), (7, .sl W), (8, .sl W0), (10, .lp 3 0), (11, .lp 4 0), (12, ni (i : Int))] [.bx 30 pw.v, .bx 60 pl, .dead, .bx 28 (dR (sumR Pg.area A i)), .bx 58 (dV (cS A i))]
section
variable {L : List Vc} {b j k m n i : Nat} {p : Vc × Vc} {A T : List (List Vc)} {K : List Vc} {l at_l : List Int} {pw : Ct.Pi}
theorem sumR_bits {f : List Vc → Rat} (h : ∀ K ∈ A, Bq k (f K)) : ∀ i, i ≤ A.length → Bq ((i + 1) * (k + 1)) (sumR f A i)
 | 0, _ => Bq.zero (by omega)
 | i + 1, hi => by
  rw [sumR_next (by omega)]
  refine ((sumR_bits h i (by omega)).add (h _ (List.getElem_mem (by omega)))).mono ?_
  simp only [Nat.succ_mul]
  omega
/-- What is known of the cells. -/
structure Cl (p : Vc × Vc) (T : List (List Vc)) : Prop where
 t : ∀ K ∈ T, K.length = 3 ∧ ∀ a ∈ K, Bv 20 a
 n : T.length ≤ 10
 c : ∀ K ∈ T, Pg.convex (K.map (vput p)) = true
 b1 : Bv 7 p.1
 b2 : Bv 7 p.2
theorem lc_1 (h : Cl p T) (next : GCl (rg flC 16) (lcS pw (dPl p) (rowsL (T.map fun K => K.map (vput p))) (rowsL T) (T.map fun K => K.map (vput p)) T.length)) : GCl (lp flC 0) (lcS pw (dPl p) (rowsL (T.map fun K => K.map (vput p))) (rowsL T) (T.map fun K => K.map (vput p)) 0) := by
 have hn := h.n
 have hl := rows_len (T.map fun K => K.map (vput p))
 rw [List.length_map] at hl
 have hat := fun i => rows_at (T := T) (i := i)
 have hat2 : ∀ i (h : i < T.length), (rowsL (T.map fun K => K.map (vput p)))[i]? = some [dL (T[i].map (vput p))] := fun i h => by
  unfold rowsL
  rw [List.getElem?_map, List.getElem?_map, List.getElem?_eq_getElem h]
  rfl
 have hAl : (T.map fun K => K.map (vput p)).length = T.length := List.length_map ..
 have hA : ∀ K ∈ T.map (fun K => K.map (vput p)), K.length = 3 ∧ ∀ a ∈ K, Bv 300 a := fun K hK => by
  obtain ⟨K0, h0, rfl⟩ := List.mem_map.1 hK
  obtain ⟨q1, q2⟩ := h.t K0 h0
  exact ⟨by rw [List.length_map, q1], fun a ha => (map_put_bits h.b1 h.b2 q2 a ha).mono (by omega)⟩
 have hab : ∀ K ∈ T.map (fun K => K.map (vput p)), Bq 130000 (Pg.area K) := fun K hK => by
  obtain ⟨q1, q2⟩ := hA K hK
  exact (area_bits q2 (by omega)).mono (by omega)
 have hcb : ∀ K ∈ T.map (fun K => K.map (vput p)), Bv 310000 (Pg.center K) := fun K hK => by
  obtain ⟨q1, q2⟩ := hA K hK
  exact (Ct.cen_bits q2 (by omega)).mono (by omega)
 have hsb : ∀ K ∈ T.map (fun K => K.map (vput p)), Bv 900000 (vsca (Pg.center K) (Pg.area K)) := fun K hK => ((hcb K hK).sca (hab K hK)).mono (by omega)
 refine Gd.loop (fun i => lcS pw (dPl p) (rowsL (T.map fun K => K.map (vput p))) (rowsL T) (T.map fun K => K.map (vput p)) i) (fun i => i ≤ T.length) (fun i => T.length - i) ?_ 0 (Nat.zero_le _)
 intro i hi ih
 by_cases g : i < T.length
 · have nx := ih (i + 1) g (by omega)
   have e1 := hat2 i g
   have e2 := hat i g
   obtain ⟨q1, q2⟩ := h.t _ (List.getElem_mem g)
   have hm : T[i].map (vput p) ∈ T.map (fun K => K.map (vput p)) := List.mem_map.2 ⟨_, List.getElem_mem g, rfl⟩
   obtain ⟨r1, r2⟩ := hA _ hm
   have cm := e_move (p := p) h.b1 h.b2 q2 (by omega) (by omega)
   have cs := e_lsame (T[i].map (vput p)) (by omega)
   have cx := e_convex r2 (by omega) (by omega)
   rw [h.c _ (List.getElem_mem g)] at cx
   have ca := e_area r2 (by omega) (by rw [r1]; omega)
   have cc := e_center r2 (by omega) (by omega)
   have bS := sumR_bits hab i (by omega)
   have bS1 := sumR_bits (f := cA1) (fun K hK => (hsb K hK).1) i (by omega)
   have bS2 := sumR_bits (f := cA2) (fun K hK => (hsb K hK).2) i (by omega)
   have hbd : (i + 1) * (900000 + 1) ≤ 11 * 900001 := Nat.mul_le_mul_right _ (by omega)
   have hbe : (i + 1) * (130000 + 1) ≤ 11 * 130001 := Nat.mul_le_mul_right _ (by omega)
   have bS' := bS.mono hbe
   have bV : Bv (11 * 900001) (cS (T.map fun K => K.map (vput p)) i) := ⟨bS1.mono hbd, bS2.mono hbd⟩
   have c1 := e_radd bS' (hab _ hm) (by omega)
   have c2 := e_vsca (hcb _ hm) (hab _ hm) (by show 10 * (_ + _) + _ ≤ _; omega)
   have c3 := e_vadd bV (hsb _ hm) (by show 10 * (_ + _) + _ ≤ _; omega)
   have hg : (T.map fun K => K.map (vput p))[i]'(by omega) = T[i].map (vput p) := by rw [List.getElem_map]
   have s1 : sumR Pg.area (T.map fun K => K.map (vput p)) (i + 1) = sumR Pg.area (T.map fun K => K.map (vput p)) i + Pg.area (T[i].map (vput p)) := by rw [sumR_next (by omega), hg]
   have s2 : cS (T.map fun K => K.map (vput p)) (i + 1) = vadd (cS (T.map fun K => K.map (vput p)) i) (vsca (Pg.center (T[i].map (vput p))) (Pg.area (T[i].map (vput p)))) := by
    unfold cS
    rw [sumR_next (by omega), sumR_next (by omega), hg]
    rfl
   clear hg
   unfold lcS at nx ⊢
   rw [s1, s2] at nx
   generalize rowsL (T.map fun K => K.map (vput p)) = W at *
   generalize rowsL T = W0 at *
   generalize sumR Pg.area (T.map fun K => K.map (vput p)) i = S0 at *
   generalize cS (T.map fun K => K.map (vput p)) i = V0 at *
   generalize T[i].map (vput p) = K at *
   generalize T[i] = K0 at *
   exact .to mo_ [] [5, 6, 7, 8, 10, 11, 12] [0, 1, 3, 4] 5 [.eqv 42 (ni (W.length : Int)) (ni (T.length : Int)) (by rw [hl]), ye (t := decide ((i : Int) < (T.length : Int))) (decide_eq_true (by omega)), .sel _ _ _ e1, .sel _ _ _ e2, cl cm, cl cs, nf, .sel _ _ _ e1, cl cx, nf, .sel _ _ _ e1, cl ca, cl c1, .sel _ _ _ e1, cl cc, .sel _ _ _ e1, cl ca, cl c2, cl c3, inc 45 i (by omega)] nx (by kernel_rfl)
 · have e : i = T.length := by omega
   subst e
   unfold lcS at next ⊢
   generalize sumR Pg.area (T.map fun K => K.map (vput p)) T.length = S0 at *
   generalize cS (T.map fun K => K.map (vput p)) T.length = V0 at *
   generalize rowsL (T.map fun K => K.map (vput p)) = W at *
   generalize rowsL T = W0 at *
   exact .to mo_ [] [5, 6, 7, 8, 10, 11, 12] [0, 1, 3, 4] 5 [.eqv 42 (ni (W.length : Int)) (ni (T.length : Int)) (by rw [hl]), na (t := decide ((T.length : Int) < (T.length : Int))) (decide_eq_false (by omega))] next (by kernel_rfl)
end
end Go.Proofs.YtlgnagnmoleeiaaGreat.E.Pc
namespace Go.Proofs.YtlgnagnmoleeiaaGreat.E.Pc
open Go.RowKit
set_option linter.unusedVariables false
set_option linter.unusedSimpArgs false
section
variable {L : List Vc} {b j k m n i : Nat} {p : Vc × Vc} {A T : List (List Vc)} {K : List Vc} {l at_l : List Int} {pw : Ct.Pi}
theorem right_area {L : List Vc} (h : Pg.Right L) : Pg.area L ≠ 0 := by
 have := h.2.2.2.2
 grind
/-- What the sums are at the end. -/
theorem cS_end (hu : Pg.Unit p) (hL : Pg.area L ≠ 0) (hK : ∀ K ∈ cutT L, Pg.area K ≠ 0) : sumR Pg.area ((cutT L).map fun K => K.map (vput p)) (cutT L).length = Pg.area L ∧ cS ((cutT L).map fun K => K.map (vput p)) (cutT L).length = vsca (vput p (Pg.center L)) (Pg.area L) := by
 have hm := Pg.vput_motion hu
 have hl : (cutT L).length = ((cutT L).map fun K => K.map (vput p)).length := (List.length_map ..).symm
 obtain ⟨t1, t2⟩ := center_tot (p := p) hL hK
 refine ⟨?_, Prod.ext ?_ ?_⟩
 · rw [hl, sumR_all, List.map_map]
   exact (foldr_congr (f := Pg.area ∘ fun K => K.map (vput p)) (g := Pg.area) fun K _ => hm.area K).trans (area_tot L)
 · show sumR cA1 _ _ = _
   rw [hl, sumR_all, List.map_map, ← t1]
   refine foldr_congr fun K hk => ?_
   show (vsca (Pg.center (K.map (vput p))) (Pg.area (K.map (vput p)))).1 = _
   rw [hm.area, Pg.center_put hu (hK K hk)]
 · show sumR cA2 _ _ = _
   rw [hl, sumR_all, List.map_map, ← t2]
   refine foldr_congr fun K hk => ?_
   show (vsca (Pg.center (K.map (vput p))) (Pg.area (K.map (vput p)))).2 = _
   rw [hm.area, Pg.center_put hu (hK K hk)]
theorem l_cells (hl : ∀ x ∈ l, W.Is64 x) (ha : ∀ x ∈ at_l, W.Is64 x) : Pure PP 7 [zl l, zl at_l] (bo true) := by
 have cp := Ct.e_piece12 hl
 have p1 := e_place ha 0 (by omega)
 obtain ⟨a1, a2⟩ := plc_bits at_l 0
 have hu := plc_unit at_l 0
 generalize plc at_l 0 = one at *
 have g1 := p12_good l (a1.mono (show 7 ≤ 1000 by omega)) (a2.mono (show 7 ≤ 1000 by omega))
 have hvp := e_valP l
 have hval := p12_val l
 have hpl := p12_len l
 have ok := p12_ok l
 have hb := p12_bv l
 have htri := cutT_tri l
 have hrl : (Ct.p12 l).rimV.length = (Ct.p12 l).rim.length := List.length_map ..
 generalize Ct.p12 l = p at *
 have c1 := Ct.e_pcen g1
 have k1 := (e_pcells (pl := one) ok hb (by omega) (by omega) hvp a1 a2 (by omega)).ro
 have kf := e_cof hb (by omega) (by omega) (by omega) hvp
 have cr := (Ct.e_rim ok).ro
 obtain ⟨ht, hTl⟩ := cut_bits hb (by omega) (by omega) (by omega)
 have hTl2 : (cutT p.rimV).length ≤ 10 := by
  have h1 := cut_len (L := p.rimV) p.rimV.length (List.range p.rimV.length)
  have h2 : (cutT p.rimV).length = (cutL p.rimV).length := List.length_map ..
  have h3 : (cutL p.rimV).length ≤ p.rimV.length + 1 := h1
  omega
 have hT0 : 0 < (cutT p.rimV).length := by
  have h2 : (cutT p.rimV).length = (cutL p.rimV).length := List.length_map ..
  rw [h2]
  unfold cutL
  cases p.rimV.length with
  | zero => exact Nat.zero_lt_one
  | succ n =>
   unfold cutF
   split
   · exact Nat.succ_pos _
   · exact Nat.zero_lt_one
 have hm := Pg.vput_motion hu
 have hcl : Cl one (cutT p.rimV) := ⟨ht, hTl2, fun K hK => by
  obtain ⟨x, y, z, rfl, hp⟩ := htri K hK
  rw [hm.convex]
  exact tri_convex hp, a1, a2⟩
 have hLa := right_area ((valid_iff _).1 hval)
 have hKa : ∀ K ∈ cutT p.rimV, Pg.area K ≠ 0 := fun K hK => by
  obtain ⟨x, y, z, rfl, hp⟩ := htri K hK
  exact right_area (tri_right hp)
 obtain ⟨e1, e2⟩ := cS_end hu hLa hKa
 have hab := area_bits hb (by omega)
 have ca := e_area hb (by omega) (by omega)
 have s1 := same_r (Pg.area p.rimV)
 have hcv := g1.cenV
 have c2 := e_vsca hcv hab (by show 10 * (_ + _) + _ ≤ _; omega)
 have s2 := same_v (vsca (Ct.cenV p one) (Pg.area p.rimV))
 have n2 : GCl (rg flC 16) (lcS p (dPl one) (rowsL ((cutT p.rimV).map fun K => K.map (vput one))) (rowsL (cutT p.rimV)) ((cutT p.rimV).map fun K => K.map (vput one)) (cutT p.rimV).length) := by
  unfold lcS
  rw [e1, e2]
  change GCl _ (at_ flC _ [_, _, _, _, .bx _ (dV (vsca (Ct.cenV p one) (Pg.area p.rimV)))])
  exact fi [cl cr, cl ca, cl s1, yt, cl c1, cl c2, cl s2, yt, cl e_lives] (by kernel_rfl) (by kernel_rfl)
 have n1 := lc_1 hcl n2
 have w1 := rows_len ((cutT p.rimV).map fun K => K.map (vput one))
 have w2 := rows_len (cutT p.rimV)
 rw [List.length_map] at w1
 have hs0 : sumR Pg.area ((cutT p.rimV).map fun K => K.map (vput one)) 0 = 0 := rfl
 have k0 : cS ((cutT p.rimV).map fun K => K.map (vput one)) 0 = (0, 0) := rfl
 unfold lcS at n1
 rw [hs0, k0, dR_0, Ct.dV_00] at n1
 generalize (cutT p.rimV).length = N at *
 exact pf (by kernel_rfl) (.to mo_ [.wk 3, .wk 4, .fz 8] [5, 6, 7, 8, 10, 11, 12] [0, 1, 3, 4] 5 [cl cp, cl p1, cl k1, cl cr, .lend _ _ _ _ [] kf, nf, .eqv 30 (ni ((rowsL ((cutT p.rimV).map fun K => K.map (vput one))).length : Int)) (ni (N : Int)) (by rw [w1]), .eqv 32 (ni ((rowsL (cutT p.rimV)).length : Int)) (ni (N : Int)) (by rw [w2]), na (t := ((N : Int) != (N : Int))) (by simp), .eqv 37 (ni ((rowsL ((cutT p.rimV).map fun K => K.map (vput one))).length : Int)) (ni (N : Int)) (by rw [w1]), na (t := ((N : Int) == 0)) (by simp; omega)] n1 (by kernel_rfl))
end
end Go.Proofs.YtlgnagnmoleeiaaGreat.E.Pc
namespace Go.Proofs.YtlgnagnmoleeiaaGreat
open Go.RowKit
theorem is64_of {n : Int} (h : (Lit.int .i64 n).wf = true) : W.Is64 n := by
 have := bounds_i64 h
 unfold W.Is64
 omega
end Go.Proofs.YtlgnagnmoleeiaaGreat
namespace Go.Proofs.YtlgnagnmoleeiaaGreat.E
open Go.RowKit
set_option linter.unusedVariables false
theorem cb_of {w : World} {b o : Nat} {v : Value} (h : w.cell? ⟨b, o, none⟩ = some v) : CB w b := by
 unfold World.cell? at h
 split at h
 · rename_i cs T fr hb
   exact ⟨cs, T, fr, hb⟩
 · cases h
def Rt (X : World → Value → Prop) (w : World) (e : Ending) (w' : World) : Prop := ∃ v, e = .returned v ∧ X w' v ∧ Below w.heap.size w w'
theorem back {P : Program} {f : FuncId} {ds : List V} {d : V} (h : Pure P f ds d) {w : World} {args : Array Value} (ha : Reps w (fun _ => False) no args ds) : Calls P f args w (Rt (fun w v => Rep w (fun _ => False) no v d) w) :=
 (h.2 w (fun _ => False) args (fun _ h => h.elim) ha).mono fun e w' h => h
theorem to_tt {w w' : World} {e : Ending} (h : Rt (fun w v => Rep w (fun _ => False) no v (bo true)) w e w') : e = .returned (.bool true) ∧ Below w.heap.size w w' := by
 obtain ⟨v, rfl, h1, h2⟩ := h
 exact ⟨by rw [Rep.k_inv h1], h2⟩
/-- A law of any arguments. -/
theorem lawG {f : FuncId} {us : List Value} {ds : List V} {w : World} (h : Pure PP f ds (bo true)) (hg : Glo w (fun _ => False)) (hl : us.length = ds.length) (hr : ∀ j, j < ds.length → Rep w (fun _ => False) no (us.getD j undef) (ds.getD j .un)) :
    Calls PP f us.toArray w fun e w' => e = .returned (.bool true) ∧ Below w.heap.size w w' :=
 (back h (reps_of hl hg hr)).mono fun _ _ => to_tt
theorem all2 {p : Nat → Prop} (h0 : p 0) (h1 : p 1) : ∀ j, j < 2 → p j := fun j hj => by
 match j, hj with
 | 0, _ => exact h0
 | 1, _ => exact h1
end Go.Proofs.YtlgnagnmoleeiaaGreat.E
namespace Go.Proofs.YtlgnagnmoleeiaaGreat.E
open Go.RowKit
set_option linter.unusedVariables false
/-- The cells of a type. -/
inductive Sh where
 | bb
 | ii (k : IntKind)
 | ss
 | row (e : List Sh)
def shapeF (g : TypeId → Option (List Sh)) (c : TypeId → Nat) : Nat → List Field → Option (List Sh)
 | _, [] => some []
 | o, f :: r => match g f.type, shapeF g c (o + c f.type) r with
   | some l, some m => match Nat.beq f.offset o && Nat.beq l.length (c f.type) with
     | true => some (l ++ m)
     | false => none
   | _, _ => none
def shape (P : Program) : Nat → TypeId → Option (List Sh)
 | 0, _ => none
 | n + 1, t => match P.underlying t with
   | some .bool => some [.bb]
   | some (.int k) => some [.ii k]
   | some .string => some [.ss]
   | some (.slice e) => match shape P n e with
     | some l => match Nat.beq l.length (P.cellsOf e) && Nat.blt 0 l.length with
       | true => some [.row l]
       | false => none
     | none => none
   | some (.struct fs) => match shapeF (shape P n) P.cellsOf 0 fs.toList with
     | some l => match Nat.beq l.length (P.cellsOf t) with
       | true => some l
       | false => none
     | none => none
   | _ => none
/-- What stands in such a cell. -/
inductive Fit : Sh → V → Prop
 | b (x : Bool) : Fit .bb (.k (.bool x))
 | i (k : IntKind) (n : Int) (h : (Lit.int k n).wf = true) : Fit (.ii k) (.k (.int k n))
 | s (x : ByteArray) (h : x.size ≤ maxLen) : Fit .ss (.k (.string x))
 | row (e : List Sh) (l : List (List V)) (h0 : l.length ≤ maxLen) (h1 : ∀ cs ∈ l, cs.length = e.length) (h2 : ∀ cs ∈ l, ∀ (j : Nat) (sh : Sh) (x : V), e[j]? = some sh → cs[j]? = some x → Fit sh x) : Fit (.row e) (.sl l)
def FitL (e : List Sh) (xs : List V) : Prop := xs.length = e.length ∧ ∀ (j : Nat) (sh : Sh) (x : V), e[j]? = some sh → xs[j]? = some x → Fit sh x
abbrev FA : Nat → Prop := fun _ => False
def RepL (w : World) (cs : List Value) (xs : List V) : Prop := ∀ (j : Nat) (v : Value) (d : V), cs[j]? = some v → xs[j]? = some d → Rep w FA no v d
theorem FitL.nil : FitL [] [] := ⟨rfl, fun j sh x h => by simp at h⟩
theorem FitL.one {q : Sh} {x : V} (h : Fit q x) : FitL [q] [x] := ⟨rfl, fun j sh y h1 h2 => by
 match j with
 | 0 => simp at h1 h2; subst h1; subst h2; exact h
 | j + 1 => simp at h1⟩
theorem FitL.app {e f : List Sh} {xs ys : List V} (h : FitL e xs) (g : FitL f ys) : FitL (e ++ f) (xs ++ ys) := by
 refine ⟨by rw [List.length_append, List.length_append, h.1, g.1], fun j sh x h1 h2 => ?_⟩
 by_cases hj : j < e.length
 · rw [List.getElem?_append_left hj] at h1
   rw [List.getElem?_append_left (by rw [h.1]; exact hj)] at h2
   exact h.2 j sh x h1 h2
 · rw [List.getElem?_append_right (by omega)] at h1
   rw [List.getElem?_append_right (by rw [h.1]; omega), h.1] at h2
   exact g.2 _ sh x h1 h2
section
variable {H : Type} {enc : TypeId × Value → H} {P : Program} {w : World}
theorem fields_rep {g : TypeId → Option (List Sh)} {c : TypeId → Nat} {α : Type} {tr : TypeId → List Value → Option α} {cs : List Value} (hg : ∀ t cs' x l, tr t cs' = some x → g t = some l → cs'.length = l.length ∧ ∃ xs, FitL l xs ∧ RepL w cs' xs) :
  ∀ (r : List Field) (o : Nat) (l : List Sh), shapeF g c o r = some l → (∀ f ∈ r, ∃ x, tr f.type ((cs.drop f.offset).take (c f.type)) = some x) → ∃ xs, FitL l xs ∧ RepL w (cs.drop o) xs
 | [], o, l, h, _ => by
  simp only [shapeF, Option.some.injEq] at h
  subst h
  exact ⟨[], FitL.nil, fun j v d _ h => by simp at h⟩
 | f :: r, o, l, h, ht => by
  simp only [shapeF] at h
  split at h
  · rename_i l1 l2 e1 e2
    split at h
    · rename_i hc
      simp only [Bool.and_eq_true, Nat.beq_eq] at hc
      injection h with h
      subst h
      obtain ⟨x, hx⟩ := ht f (List.mem_cons_self ..)
      obtain ⟨h1, xs, h2, h3⟩ := hg _ _ _ _ hx e1
      obtain ⟨ys, h4, h5⟩ := fields_rep hg r _ _ e2 fun f hf => ht f (List.mem_cons_of_mem _ hf)
      refine ⟨xs ++ ys, h2.app h4, fun j v d hv hd => ?_⟩
      rw [hc.1] at h3
      by_cases hj : j < l1.length
      · rw [List.getElem?_append_left (by rw [h2.1]; exact hj)] at hd
        refine h3 j v d ?_ hd
        rw [List.getElem?_take, if_pos (by omega)]
        exact hv
      · rw [List.getElem?_append_right (by rw [h2.1]; omega), h2.1] at hd
        refine h5 (j - l1.length) v d ?_ hd
        rw [List.getElem?_drop] at hv ⊢
        rw [show o + c f.type + (j - l1.length) = o + j by omega]
        exact hv
    · cases h
  · cases h
theorem trod_rep : ∀ (fuel n : Nat) (t : TypeId) (cs : List Value) (x : DataW H × List MemPlace) (l : List Sh), DataW.trod enc P w 0 (fun _ => true) true fuel t cs = some x → shape P n t = some l → cs.length = l.length ∧ ∃ xs, FitL l xs ∧ RepL w cs xs := by
 intro fuel
 induction fuel with
 | zero => intro n t cs x l h; simp [DataW.trod] at h
 | succ fuel ih =>
  intro n t cs x l h hs
  cases n with
  | zero => cases hs
  | succ n =>
   have one : ∀ {q : Sh} {v : Value} {d : V}, Fit q d → Rep w FA no v d → [v].length = [q].length ∧ ∃ xs, FitL [q] xs ∧ RepL w [v] xs := fun {q v d} h1 h2 => ⟨rfl, [d], FitL.one h1, fun j v' d' e1 e2 => by
    match j with
    | 0 => simp at e1 e2; subst e1; subst e2; exact h2
    | j + 1 => simp at e1⟩
   unfold shape at hs
   split at hs
   · rename_i hu
     injection hs with hs; subst hs
     unfold DataW.trod at h
     rw [hu] at h
     split at h <;> simp_all
     exact one (.b _) (.k _ _)
   · rename_i k hu
     injection hs with hs; subst hs
     unfold DataW.trod at h
     rw [hu] at h
     split at h <;> simp_all
     obtain ⟨⟨rfl, h1⟩, _⟩ := h
     exact one (.i _ _ h1) (.k _ _)
   · rename_i hu
     injection hs with hs; subst hs
     unfold DataW.trod at h
     rw [hu] at h
     split at h <;> simp_all
     exact one (.s _ h.1) (.k _ _)
   · rename_i e hu
     split at hs
     · rename_i l' hl'
       split at hs
       · rename_i hc
         simp only [Bool.and_eq_true, Nat.beq_eq, Nat.blt_eq] at hc
         injection hs with hs; subst hs
         rcases DataW.trod_slice hu h with ⟨rfl, _⟩ | ⟨a, len, cap, elems, rest, n', hn', rfl, rfl, hb, hl, hm, hlen, hel, hsp, hns⟩
         · exact one (.row l' [] (by simp) (by simp) (by simp)) (.sl _ none 0 0 0 l'.length [] (fun _ _ => undef) (Nat.zero_le _) (Nat.zero_le _) (by simp) (by simp) (by simp) (by simp))
         · obtain rfl : fuel = n' := by omega
           have he : ∀ i, i < len → ∃ xs, FitL l' xs ∧ ∀ j d, xs[j]? = some d → ∃ v, w.cell? (a.add (i * P.cellsOf e) |>.add j) = some v ∧ Rep w FA no v d := by
            intro i hi
            have hq := hel i hi
            rw [List.getElem?_eq_getElem (by omega)] at hq
            obtain ⟨cs', h1, h2⟩ := Option.bind_eq_some_iff.1 hq
            obtain ⟨h3, xs, h4, h5⟩ := ih n e cs' _ l' h2 hl'
            obtain ⟨_, h6, h7⟩ := World.cells?_some h1
            refine ⟨xs, h4, fun j d hd => ?_⟩
            have hjl := (List.getElem?_eq_some_iff.1 hd).1
            rw [h4.1] at hjl
            have hv : cs'[j]? = some cs'[j] := List.getElem?_eq_getElem (by omega)
            exact ⟨_, (h7 j (by omega)).trans hv, h5 j _ d hv hd⟩
           by_cases h0 : len = 0
           · subst h0
             exact one (.row l' [] (by simp) (by simp) (by simp)) (.sl _ (some a) 0 0 cap l'.length [] (fun _ _ => undef) (Nat.zero_le _) hm (by simp) (by simp) (by simp) (by simp))
           · have hch : ∃ F : Nat → List V, ∀ i, i < len → FitL l' (F i) ∧ ∀ j d, (F i)[j]? = some d → ∃ v, w.cell? (a.add (i * P.cellsOf e) |>.add j) = some v ∧ Rep w FA no v d :=
              ⟨fun i => if h : i < len then (he i h).choose else [], fun i hi => by simp only [dif_pos hi]; exact (he i hi).choose_spec⟩
             obtain ⟨F, hF⟩ := hch
             obtain ⟨b, o, spot⟩ := a
             have hspot : spot = none := by
              obtain ⟨h1, h2⟩ := hF 0 (by omega)
              have hlt : 0 < (F 0).length := by rw [h1.1]; exact hc.2
              obtain ⟨v, h3, _⟩ := h2 0 _ (List.getElem?_eq_getElem hlt)
              simpa [Addr.add] using World.cell?_spot h3
             subst hspot
             have hadd : ∀ i j : Nat, ((⟨b, o, none⟩ : Addr).add (i * P.cellsOf e)).add j = ⟨b, o + i * l'.length + j, none⟩ := fun i j => by rw [hc.1, Go.WideShapes.add_plain, Go.WideShapes.add_plain]
             let L : List (List V) := (List.range len).map F
             have hL : L.length = len := by simp [L]
             have hLi : ∀ i cs, L[i]? = some cs → i < len ∧ cs = F i := fun i cs hi => by
              have hlt := (List.getElem?_eq_some_iff.1 hi).1
              rw [hL] at hlt
              simp only [L, List.getElem?_map, List.getElem?_range hlt, Option.map_some, Option.some.injEq] at hi
              exact ⟨hlt, hi.symm⟩
             have hmem : ∀ cs ∈ L, ∃ i, i < len ∧ cs = F i := fun cs hcs => by
              obtain ⟨i, hi⟩ := List.getElem?_of_mem hcs
              exact ⟨i, hLi i cs hi⟩
             have hr : Rep w FA no (.slice (some ⟨b, o, none⟩) L.length cap) (.sl L) := by
              refine .sl _ _ b o cap l'.length L (fun i j => (w.cell? ⟨b, o + i * l'.length + j, none⟩).getD undef) (by omega) hm (fun _ => ⟨rfl, fun e => e, ?_⟩) (fun cs hcs => ?_) (fun i j cs x hi hj => ?_) (fun i j cs x hi hj => ?_)
              · obtain ⟨h1, h2⟩ := hF 0 (by omega)
                have hlt : 0 < (F 0).length := by rw [h1.1]; exact hc.2
                obtain ⟨v, h3, _⟩ := h2 0 _ (List.getElem?_eq_getElem hlt)
                rw [hadd] at h3
                exact cb_of h3
              · obtain ⟨i, hi, rfl⟩ := hmem cs hcs
                exact (hF i hi).1.1
              · obtain ⟨hi', rfl⟩ := hLi i cs hi
                obtain ⟨v, h3, _⟩ := (hF i hi').2 j x hj
                rw [hadd] at h3
                rw [h3]; rfl
              · obtain ⟨hi', rfl⟩ := hLi i cs hi
                obtain ⟨v, h3, h4⟩ := (hF i hi').2 j x hj
                rw [hadd] at h3
                rw [h3]
                exact h4
             rw [hL] at hr
             refine one (.row l' L (by omega) (fun cs hcs => ?_) (fun cs hcs j sh x h1 h2 => ?_)) hr
             · obtain ⟨i, hi, rfl⟩ := hmem cs hcs
               exact (hF i hi).1.1
             · obtain ⟨i, hi, rfl⟩ := hmem cs hcs
               exact (hF i hi).1.2 j sh x h1 h2
       · cases hs
     · cases hs
   · rename_i fs hu
     split at hs
     · rename_i l' hl'
       split at hs
       · rename_i hc
         have hc := Nat.eq_of_beq_eq_true hc
         injection hs with hs; subst hs
         obtain ⟨xs, n', hn', _, h1, h2, h3⟩ := DataW.trod_struct hu h
         obtain rfl : fuel = n' := by omega
         obtain ⟨ys, h4, h5⟩ := fields_rep (w := w) (c := P.cellsOf) (tr := fun t cs => DataW.trod enc P w 0 (fun _ => true) true fuel t cs) (cs := cs) (fun t cs' x l a b => ih n t cs' x l a b) fs.toList 0 l' hl' (fun f hf => by
          obtain ⟨i, hi⟩ := List.getElem?_of_mem hf
          have hi2 : fs[i]? = some f := by simpa using hi
          have hlt := (Array.getElem?_eq_some_iff.1 hi2).1
          have h6 := h3 i f hi2
          rw [List.getElem?_eq_getElem (by omega)] at h6
          exact ⟨_, h6⟩)
         exact ⟨by omega, ys, h4, by simpa using h5⟩
       · cases hs
     · cases hs
   · cases hs
/-- An argument of one cell. -/
theorem arg_1 {n : Nat} {t : TypeId} {v : Value} {d : DataW H} {ps : List MemPlace} {q : Sh} (h : DataW.Trod enc P w 0 (fun _ => true) true t v d ps) (hv : v.cells = #[v]) (hs : shape P n t = some [q]) : ∃ x, Fit q x ∧ Rep w FA no v x := by
 obtain ⟨fuel, hf⟩ := h
 rw [hv] at hf
 obtain ⟨_, xs, h1, h2⟩ := trod_rep fuel n t _ _ _ hf hs
 match xs, h1 with
 | [x], h1 => exact ⟨x, h1.2 0 q x rfl rfl, h2 0 v x rfl rfl⟩
end
/-- A row of ints. -/
theorem Fit.ints {x : V} (h : Fit (.row [.ii .i64]) x) : ∃ l : List Int, x = zl l ∧ ∀ n ∈ l, W.Is64 n := by
 cases h with
 | row e l h0 h1 h2 =>
  clear h0
  suffices h : ∃ l' : List Int, l = zs l' ∧ ∀ n ∈ l', W.Is64 n by
   obtain ⟨l', rfl, h⟩ := h
   exact ⟨l', rfl, h⟩
  induction l with
  | nil => exact ⟨[], rfl, by simp⟩
  | cons a r ih =>
   obtain ⟨l', rfl, h3⟩ := ih (fun cs h => h1 cs (List.mem_cons_of_mem _ h)) (fun cs h => h2 cs (List.mem_cons_of_mem _ h))
   have hl := h1 a (List.mem_cons_self ..)
   have hf := h2 a (List.mem_cons_self ..)
   match a, hl with
   | [y], _ =>
    have hy := hf 0 _ y rfl rfl
    cases hy with
    | i k n hw => exact ⟨n :: l', rfl, fun m hm => by
      rcases List.mem_cons.1 hm with rfl | hm
      · exact is64_of hw
      · exact h3 m hm⟩
theorem FitL.inv {a : Sh} {r : List Sh} {xs : List V} (h : FitL (a :: r) xs) : ∃ x ys, xs = x :: ys ∧ Fit a x ∧ FitL r ys := by
 obtain ⟨h1, h2⟩ := h
 match xs, h1 with
 | x :: ys, h1 => exact ⟨x, ys, rfl, h2 0 a x rfl rfl, by simpa using h1, fun j sh y e1 e2 => h2 (j + 1) sh y (by simpa using e1) (by simpa using e2)⟩
theorem Fit.int {x : V} (h : Fit (.ii .i64) x) : ∃ n : Int, x = ni n ∧ W.Is64 n := by
 cases h with
 | i k n hw => exact ⟨n, rfl, is64_of hw⟩
theorem Fit.bool {x : V} (h : Fit .bb x) : ∃ b : Bool, x = bo b := by
 cases h with
 | b x => exact ⟨x, rfl⟩
end Go.Proofs.YtlgnagnmoleeiaaGreat.E
namespace Go.Proofs.YtlgnagnmoleeiaaGreat.E
open Go.RowKit
theorem gln_nil : gl = [] := by kernel_rfl
theorem glo_none (w : World) : Glo w (fun _ => False) := fun p hp => by rw [gln_nil] at hp; cases hp
end Go.Proofs.YtlgnagnmoleeiaaGreat.E
