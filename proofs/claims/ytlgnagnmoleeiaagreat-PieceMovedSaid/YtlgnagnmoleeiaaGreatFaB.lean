/-
 PIECE: the law PieceMoved, by the engine.
-/
import Derived.Test.YtlgnagnmoleeiaaGreatFaA
import Derived.Test.YtlgnagnmoleeiaaGreatGloN
namespace Go.Proofs.YtlgnagnmoleeiaaGreat.E.Pc
open Go.RowKit
set_option linter.unusedVariables false
set_option linter.unusedSimpArgs false
/-- A place behind another one. -/
def compP (p q : Vc × Vc) : Vc × Vc := (vrot p.1 q.1, vput p q.2)
theorem put_comp (p q : Vc × Vc) (x : Vc) : vput (compP p q) x = vput p (vput q x) := by
 unfold compP vput vadd vrot
 refine Prod.ext ?_ ?_ <;> (dsimp only; grind)
section
variable {L : List Vc} {b j k m n i : Nat} {p q : Vc × Vc} {pc : Ct.Pi} {T : List (List Vc)} {l at_l : List Int} {u v : Vc}
theorem e_after (bv : Bv j v) (bu : Bv k u) (hk : Li j k) : Pure PP 95 [.ag (dV v), .ag (dV u)] (.ag (dV (vrot v u))) := tr [cl (e_vrot bv bu hk)] (by kernel_rfl)
theorem e_compP (b1 : Bv j p.1) (b2 : Bv j p.2) (c1 : Bv k q.1) (c2 : Bv k q.2) (hk : 40 * (j + k) + 100 ≤ 800000000000) : Pure PP 30 [.ag (dPl p), .ag (dPl q)] (.ag (dPl (compP p q))) :=
 tr [cl (e_after b1 c1 (by show 10 * (_ + _) + _ ≤ _; omega)), cl (e_mover p), cl (e_mover1 b1 b2 c2 hk)] (by kernel_rfl)
theorem comp_bits (b1 : Bv j p.1) (b2 : Bv j p.2) (c1 : Bv k q.1) (c2 : Bv k q.2) : Bv (10 * (j + k) + 10) (compP p q).1 ∧ Bv (10 * (j + k) + 10) (compP p q).2 := ⟨(b1.rot c1).mono (by omega), ((b1.rot c2).add b2).mono (by omega)⟩
theorem rows_len (T : List (List Vc)) : (rowsL T).length = T.length := List.length_map ..
theorem rows_at (h : i < T.length) : (rowsL T)[i]? = some [dL T[i]] := by unfold rowsL; rw [List.getElem?_map, List.getElem?_eq_getElem h]; rfl
noncomputable abbrev fsc : Func := fnOf PP 34
theorem e_scells (T : List (List Vc)) (h : ∀ K ∈ T, K.length ≤ 100) (hn : T.length ≤ 1000) : Pure PP 34 [.sl (rowsL T), .sl (rowsL T)] (bo true) := by
 have hl := rows_len T
 have hat := fun i => rows_at (T := T) (i := i)
 generalize rowsL T = W at *
 let X : Nat → St := fun i => at_ fsc [(0, .sl W), (1, .sl W), (5, ni (i : Int))] []
 refine pf (by kernel_rfl) (.to mo_ [] [0, 1, 5] [] 0 [na (t := ((W.length : Int) != (W.length : Int))) (by simp)] (td' := lp fsc 0) (σ' := X 0) ?_ (by kernel_rfl))
 refine Gd.loop X (fun i => i ≤ T.length) (fun i => T.length - i) ?_ 0 (Nat.zero_le _)
 intro i hi ih
 let E0 : F_ := .eqv 13 (ni (W.length : Int)) (ni (T.length : Int)) (by rw [hl])
 by_cases g : i < T.length
 · have e := hat i g
   have s := e_lsame T[i] (h _ (List.getElem_mem g))
   generalize T[i] = K at *
   exact .to mo_ [] [0, 1, 5] [] 0 [E0, ye (t := decide ((i : Int) < (T.length : Int))) (decide_eq_true (by omega)), .sel _ _ _ e, .sel _ _ _ e, cl s, nf, inc 16 i (by omega)] (ih (i + 1) g (by omega)) (by kernel_rfl)
 · exact fi [E0, na (t := decide ((i : Int) < (T.length : Int))) (decide_eq_false (by omega))] (by kernel_rfl) (by kernel_rfl)
/-- What is known of the triangles. -/
theorem cut_bits (hb : ∀ a ∈ L, Bv b a) (h3 : 3 ≤ L.length) (hn : L.length ≤ 900) (hk : 100 * b + 1000 ≤ 800000000000) : (∀ K ∈ cutT L, K.length = 3 ∧ ∀ a ∈ K, Bv b a) ∧ (cutT L).length ≤ 901 := by
 have hr : Rm L (List.range L.length) b := ⟨fun x hx => List.mem_range.1 hx, by rw [List.length_range]; omega, hb, by omega⟩
 have hin := cut_in L.length (List.range L.length) hr List.nodup_range (by rw [List.length_range]; omega) (by rw [List.length_range]; omega)
 refine ⟨fun K hK => ?_, ?_⟩
 · unfold cutT at hK
   obtain ⟨t, hm, rfl⟩ := List.mem_map.1 hK
   obtain ⟨q1, q2⟩ := hin t hm
   refine ⟨by rw [List.length_map, q1], fun a ha => ?_⟩
   obtain ⟨x, hx, rfl⟩ := List.mem_map.1 ha
   exact hr.bv (q2 x hx)
 · have h1 := cut_len (L := L) L.length (List.range L.length)
   have h2 : (cutT L).length = (cutL L).length := List.length_map ..
   have h3 : (cutL L).length ≤ L.length + 1 := h1
   omega
noncomputable abbrev fc12 : Func := fnOf PP 36
theorem e_cells12 (ok : pc.Ok 100) (hb : ∀ a ∈ pc.rimV, Bv b a) (h3 : 3 ≤ pc.rimV.length) (hn : pc.rimV.length ≤ 900) (cv : Pure PP 69 [dL pc.rimV] (bo true)) (b1 : Bv j p.1) (b2 : Bv j p.2) (hk : 100 * (b + j) + 1000 ≤ 800000000000) : Pure PP 36 [.ag pc.v, .ag (dPl p)] (.o 70 1 (rowsL ((cutT pc.rimV).map fun K => K.map (vput p)))) := by
 have cr := (Ct.e_rim12 ok).ro
 have co := e_of7 hb (by omega) h3 hn cv
 obtain ⟨ht, hTl⟩ := cut_bits hb h3 hn (by omega)
 change Pure PP _ _ (.v (.sl (pc.rimV.map dV))) at cr
 change Pure PP _ [.sl (pc.rimV.map dV)] _ at co
 generalize cutT pc.rimV = T at *
 generalize pc.rimV.map dV = RM at *
 have hl := rows_len T
 have hat := fun i => rows_at (T := T) (i := i)
 generalize rowsL T = W at *
 let X : Nat → St := fun i => at_ fc12 [(3, .lp 1 0), (5, .sl W), (7, .ow 2), (8, ni (i : Int))] [.dead, .bx 60 (dPl p), .rw 70 1 (rowsL ((T.take i).map fun K => K.map (vput p)))]
 refine pf (by kernel_rfl) (.to mo_ [.ow 7 (.rw 70 1 [])] [3, 5, 7, 8] [1, 2] 3 [cl cr, cl co] (td' := lp fc12 0) (σ' := X 0) ?_ (by kernel_rfl))
 refine Gd.loop X (fun i => i ≤ T.length) (fun i => T.length - i) ?_ 0 (Nat.zero_le _)
 intro i hi ih
 let E0 : F_ := .eqv 17 (ni (W.length : Int)) (ni (T.length : Int)) (by rw [hl])
 by_cases g : i < T.length
 · have e := hat i g
   have nx := ih (i + 1) g (by omega)
   obtain ⟨q1, q2⟩ := ht _ (List.getElem_mem g)
   have cm := e_move6 (p := p) b1 b2 q2 (by omega) (by omega)
   have htk : T.take (i + 1) = T.take i ++ [T[i]] := by rw [List.take_add_one, List.getElem?_eq_getElem g]; rfl
   simp only [X] at nx ⊢
   rw [htk, List.map_append] at nx
   have hap := rowsL_app ((T.take i).map fun K => K.map (vput p)) (T[i].map (vput p))
   have hl2 : (rowsL ((T.take i).map (fun K => K.map (vput p)) ++ [T[i].map (vput p)])).length ≤ 2000 := by
    rw [rows_len, List.length_append, List.length_map, List.length_take]
    simp
    omega
   rw [show List.map (fun K => K.map (vput p)) [T[i]] = [T[i].map (vput p)] from rfl] at nx
   rw [← hap] at nx hl2
   generalize rowsL ((T.take i).map fun K => K.map (vput p)) = B at *
   generalize T[i] = K at *
   exact .to mo_ [.mv 2 4] [3, 5, 7, 8] [1, 2] 3 [E0, ye (t := decide ((i : Int) < (T.length : Int))) (decide_eq_true (by omega)), .sel _ _ _ e, cl cm, .app B [[dL (K.map (vput p))]] _ 2000 rfl (show 0 < 1 by decide) hl2, inc 20 i (by omega)] nx (by kernel_rfl)
 · have : i = T.length := by omega
   subst this
   simp only [X]
   rw [List.take_length]
   exact fi [E0, na (t := decide ((T.length : Int) < (T.length : Int))) (decide_eq_false (by omega))] (by kernel_rfl) (by kernel_rfl)
end
end Go.Proofs.YtlgnagnmoleeiaaGreat.E.Pc
