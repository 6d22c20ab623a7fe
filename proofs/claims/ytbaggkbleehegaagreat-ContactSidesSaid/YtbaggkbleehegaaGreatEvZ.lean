/-
 CONTACT: the reference's Bodies, by the engine.
-/
import Derived.Test.YtbaggkbleehegaaGreatEvU
namespace Go.Proofs.YtbaggkbleehegaaGreat.E.Ct
open Go.RowKit
set_option linter.unusedVariables false
set_option linter.unusedSimpArgs false
/-- The glued fits among pieces of the set, in order. -/
def act1 (st gl : Int) (l : List Ft) (i : Nat) : List (Nat × Nat) := match l[i]? with
 | some f => if (inB gl i && (inB st f.a && inB st f.b)) = true then [(f.a, f.b)] else []
 | none => []
def acts (st gl : Int) (l : List Ft) (i : Nat) : List (Nat × Nat) := (List.range i).flatMap (act1 st gl l)
def rtB (st gl : Int) (l : List Ft) : Nat → Int := rtF (inB st) (cls (acts st gl l l.length))
def fillR (n k : Nat) : List Nat := (List.range n).map fun i => if i < k then i else 0
def oR (s : Sc) (rt : Nat → Int) (k : Nat) : List (List V) := (rts rt k).map fun j => (acc s rt j k).bo.v
def wR (s : Sc) (rt : Nat → Int) (k : Nat) : List (List V) := (rts rt k).map fun j => dR (acc s rt j k).w
def owL (rt : Nat → Int) (n k : Nat) : List Int := (List.range n).map fun i => if i < k then owF rt i else 0
def fR (s : Sc) (rt : Nat → Int) (n i : Nat) : List (List V) := ((rts rt n).take i).map (fun j => (acc s rt j n).fin.v) ++ ((rts rt n).drop i).map fun j => (acc s rt j n).bo.v
section
variable {s : Sc} {st gl : Int} {l : List Ft} {f : Ft} {i k n r b : Nat} {rt : Nat → Int}
theorem acts_succ (i : Nat) : acts st gl l (i + 1) = acts st gl l i ++ act1 st gl l i := by unfold acts; rw [List.range_succ, List.flatMap_append]; simp
theorem act_in (hf : l[i]? = some f) : act1 st gl l i = if (inB gl i && (inB st f.a && inB st f.b)) = true then [(f.a, f.b)] else [] := by unfold act1; rw [hf]
theorem fill_0 (n : Nat) : List.replicate n [ni 0] = nR (fillR n 0) := by
 unfold nR fillR
 apply List.ext_getElem?
 intro i
 rw [List.map_map, List.getElem?_map, List.getElem?_replicate]
 by_cases h : i < n
 · rw [if_pos h, List.getElem?_range h]; rfl
 · rw [if_neg h, List.getElem?_eq_none (by simpa using h)]; rfl
theorem fill_len (n k : Nat) : (fillR n k).length = n := by unfold fillR; simp
theorem fill_set (hk : k < n) : (fillR n k).set k k = fillR n (k + 1) := by
 unfold fillR
 apply List.ext_getElem?
 intro i
 rw [List.getElem?_set, List.length_map, List.length_range, List.getElem?_map, List.getElem?_map]
 by_cases e : k = i
 · subst e
   rw [if_pos rfl, if_pos hk, List.getElem?_range hk]
   simp
 · rw [if_neg e]
   by_cases h : i < n
   · rw [List.getElem?_range h]
     simp only [Option.map_some, Option.some.injEq]
     by_cases hik : i < k
     · rw [if_pos hik, if_pos (by omega)]
     · rw [if_neg hik, if_neg (by omega)]
   · rw [List.getElem?_eq_none (by simpa using h)]; rfl
theorem fill_n (n : Nat) : fillR n n = List.range n := by
 unfold fillR
 conv => rhs; rw [← List.map_id (List.range n)]
 exact List.map_congr_left fun i hi => if_pos (List.mem_range.1 hi)
theorem fo_0 (n : Nat) : Fo n (cls []) (List.range n) := by
 have hd : Dn (List.range n) := ⟨fun i => by
  rw [List.getD_eq_getElem?_getD]
  by_cases h : i < n
  · rw [List.getElem?_range h]; exact Nat.le_refl _
  · rw [List.getElem?_eq_none (by simpa using h)]; exact Nat.le_refl _⟩
 refine ⟨hd, List.length_range, fun j hj => ?_⟩
 refine ro_of ?_
 rw [List.getD_eq_getElem?_getD, List.getElem?_range hj]
 rfl
theorem ow_0 (n : Nat) : List.replicate n [ni 0] = zs (owL rt n 0) := by
 rw [zs_rep]
 congr 1
 unfold owL
 apply List.ext_getElem?
 intro i
 rw [List.getElem?_map, List.getElem?_replicate]
 by_cases h : i < n
 · rw [if_pos h, List.getElem?_range h]; rfl
 · rw [if_neg h, List.getElem?_eq_none (by simpa using h)]; rfl
theorem ow_len (n k : Nat) : (owL rt n k).length = n := by unfold owL; simp
theorem ow_at (h : i < k) (hn : i < n) : (zs (owL rt n k))[i]? = some [ni (owF rt i)] := by
 refine zs_at ?_
 unfold owL
 rw [List.getElem?_map, List.getElem?_range hn]
 simp only [Option.map_some, if_pos h]
theorem ow_ge (h : k ≤ i) (hn : i < n) : (zs (owL rt n k))[i]? = some [ni 0] := by
 refine zs_at ?_
 unfold owL
 rw [List.getElem?_map, List.getElem?_range hn]
 simp only [Option.map_some, if_neg (show ¬ i < k by omega)]
theorem ow_set (hk : k < n) : (zs (owL rt n k)).set k [ni (owF rt k)] = zs (owL rt n (k + 1)) := by
 rw [zs_set]
 congr 1
 unfold owL
 apply List.ext_getElem?
 intro i
 rw [List.getElem?_set, List.length_map, List.length_range, List.getElem?_map, List.getElem?_map]
 by_cases e : k = i
 · subst e
   rw [if_pos rfl, if_pos hk, List.getElem?_range hk]
   simp
 · rw [if_neg e]
   by_cases h : i < n
   · rw [List.getElem?_range h]
     simp only [Option.map_some, Option.some.injEq]
     by_cases hik : i < k
     · rw [if_pos hik, if_pos (by omega)]
     · rw [if_neg hik, if_neg (by omega)]
   · rw [List.getElem?_eq_none (by simpa using h)]; rfl
theorem step_old {α : Type} {g : Nat → Nat → α} (hk : rt k = (r : Int)) (hr : rt r = (r : Int)) (hlt : r < k) (hne : ∀ j, j ≠ r → g (k + 1) j = g k j) : ((rts rt k).map (g k)).set (pos rt r) (g (k + 1) r) = (rts rt (k + 1)).map (g (k + 1)) := by
 rw [map_set hr hlt hne, rts_succ, if_neg (by omega), List.append_nil]
theorem step_new {α : Type} {g : Nat → Nat → α} (hk : rt k = (k : Int)) (hne : ∀ j, j ≠ k → g (k + 1) j = g k j) : (rts rt k).map (g k) ++ [g (k + 1) k] = (rts rt (k + 1)).map (g (k + 1)) := map_new hk fun j hj => hne j (by omega)
theorem step_out {α : Type} {g : Nat → Nat → α} (hk : rt k < 0) (hne : ∀ j, g (k + 1) j = g k j) : (rts rt (k + 1)).map (g (k + 1)) = (rts rt k).map (g k) := map_old (by omega) fun j _ => hne j
theorem oR_at (hr : rt r = (r : Int)) (h : r < k) : (oR s rt k)[pos rt r]? = some (acc s rt r k).bo.v := by unfold oR; rw [List.getElem?_map, rts_at hr k h]; rfl
theorem wR_at (hr : rt r = (r : Int)) (h : r < k) : (wR s rt k)[pos rt r]? = some (dR (acc s rt r k).w) := by unfold wR; rw [List.getElem?_map, rts_at hr k h]; rfl
theorem oR_len : (oR s rt k).length = pos rt k := List.length_map ..
theorem wR_len : (wR s rt k).length = pos rt k := List.length_map ..
theorem owF_root (hr : rt r = (r : Int)) : owF rt r = (pos rt r : Int) := by unfold owF; rw [if_neg (by omega), hr]; rfl
theorem owF_of (hk : rt k = (r : Int)) : owF rt k = (pos rt r : Int) := by unfold owF; rw [if_neg (by omega), hk]; rfl
theorem owF_out (hk : rt k = -1) : owF rt k = -1 := if_pos (by omega)
/-- What is known of the roots. -/
structure RtOk (rt : Nat → Int) (n : Nat) : Prop where
 le : ∀ k, k < n → rt k ≤ (k : Int)
 ge : ∀ k, k < n → rt k = -1 ∨ ∃ r : Nat, rt k = (r : Int) ∧ r ≤ k ∧ rt r = (r : Int)
theorem fr_at (h : i < (rts rt n).length) : ∃ j, (rts rt n)[i]? = some j ∧ (fR s rt n i)[i]? = some (acc s rt j n).bo.v ∧ (wR s rt n)[i]? = some (dR (acc s rt j n).w) ∧ (fR s rt n i).set i (acc s rt j n).fin.v = fR s rt n (i + 1) := by
 have hj : (rts rt n)[i]? = some (rts rt n)[i] := List.getElem?_eq_getElem h
 generalize (rts rt n)[i] = j at hj
 have hl : (((rts rt n).take i).map fun j => (acc s rt j n).fin.v).length = i := by rw [List.length_map, List.length_take]; omega
 have hd : (rts rt n).drop i = j :: (rts rt n).drop (i + 1) := by
  rw [List.drop_eq_getElem_cons h]
  congr 1
  rw [List.getElem?_eq_getElem h] at hj
  exact Option.some.inj hj
 refine ⟨j, hj, ?_, ?_, ?_⟩
 · unfold fR
   rw [List.getElem?_append_right (by omega), hl, Nat.sub_self, hd]
   rfl
 · unfold wR
   rw [List.getElem?_map, hj]
   rfl
 · unfold fR
   rw [List.set_append_right _ _ (by omega), hl, Nat.sub_self, hd, List.take_add_one, hj, List.map_append, List.append_assoc]
   rfl
noncomputable abbrev fbo : Func := fnOf PP 27
abbrev GB (d : RD) (td : List Item) (σ : St) : Prop := Gd PP 27 d td σ
noncomputable def bo1T (s : Sc) (st gl : Int) (l : List Ft) (m : List (Nat × V)) : List V := (at_ fbo ([(0, .sl (piR s.L)), (1, .sl (plR s.A)), (2, .sl (ftR l)), (3, ni st), (4, ni gl), (12, .lp 1 0)] ++ m) []).t
noncomputable def bo2T (s : Sc) (st gl : Int) (l : List Ft) (i : Nat) : List V := (at_ fbo [(0, .sl (piR s.L)), (1, .sl (plR s.A)), (3, ni st), (4, ni gl), (12, .lp 1 0), (14, .lp 2 0), (43, .sl (ftR l)), (44, ni (l.length : Int)), (45, ni (i : Int))] []).t
noncomputable def bo3T (s : Sc) (st : Int) (k : Nat) : List V := (at_ fbo [(1, .sl (plR s.A)), (3, ni st), (14, .lp 2 0), (19, .ow 5), (20, .ow 3), (21, .ow 4), (92, .sl (piR s.L)), (93, ni (s.L.length : Int)), (94, ni (k : Int))] []).t
def bo3H (s : Sc) (rt : Nat → Int) (R : List Nat) (k : Nat) : List HO := fH s.L.length R ++ [.rw 3 1 (zs (owL rt s.L.length k)), .rw 37 4 (wR s rt k), .rw 83 20 (oR s rt k)]
noncomputable def bo4S (s : Sc) (rt : Nat → Int) (i : Nat) : St := at_ fbo [(19, .ow 5), (20, .ow 3), (21, .ow 4), (215, ni ((rts rt s.L.length).length : Int)), (216, ni (i : Int))] [.dead, .dead, .dead, .rw 3 1 (zs (owL rt s.L.length s.L.length)), .rw 37 4 (wR s rt s.L.length), .rw 83 20 (fR s rt s.L.length i)]
theorem piR_len (L : List Pi) : (piR L).length = L.length := List.length_map ..
theorem ftR_len (L : List Ft) : (ftR L).length = L.length := List.length_map ..
/-- The row of roots is made. -/
theorem bo_1 {d : RD} (hd : d.n = 0) (h : s.Ok b) (h0 : 0 < s.L.length) (next : GB d (lp fbo 1) ⟨bo2T s st gl l 0, fH s.L.length (List.range s.L.length)⟩) : GB d (body fbo) (st0 fbo [.sl (piR s.L), .sl (plR s.A), .sl (ftR l), ni st, ni gl]) := by
 have hn := h.n
 have hpl := piR_len s.L
 have hfl := ftR_len l
 generalize hN : s.L.length = n at *
 refine .to0 hd mo_ [] [0, 1, 2, 3, 4, 12, 33, 34] [0, 1] 2 [.eqv 30 (ni ((piR s.L).length : Int)) (ni (n : Int)) (by rw [hpl]), .mk n (by omega), .eqv 33 (ni ((List.replicate n [ni 0]).length : Int)) (ni (n : Int)) (by rw [List.length_replicate])] (td' := lp fbo 0) (σ' := ⟨bo1T s st gl l [(33, ni (n : Int)), (34, ni ((0 : Nat) : Int))], [.rw 3 1 (List.replicate n [ni 0]), .bx 22 [.ow 0]]⟩) ?_ (by kernel_rfl)
 rw [fill_0]
 refine Gd.loop (fun (k : Nat) => (⟨bo1T s st gl l [(33, ni (n : Int)), (34, ni (k : Int))], [.rw 3 1 (nR (fillR n k)), .bx 22 [.ow 0]]⟩ : St)) (fun k => k ≤ n) (fun k => n - k) ?_ 0 (Nat.zero_le _)
 intro k hk ih
 by_cases g : k < n
 · have hat := nR_at (R := fillR n k) (k := k) (by rw [fill_len]; omega)
   have hst := nR_set (fillR n k) k k
   rw [fill_set g] at hst
   exact .to0 hd mo_ [] [0, 1, 2, 3, 4, 12, 33, 34] [0, 1] 2 [ye (t := decide ((k : Int) < (n : Int))) (decide_eq_true (by omega)), .sel _ _ _ hat, .upd _ _ _ _ _ hat hst, inc 41 k (by omega)] (ih (k + 1) g (by omega)) (by kernel_rfl)
 · have e : k = n := by omega
   subst e
   rw [fill_n]
   have hrl : (nR (List.range k)).length = k := by rw [nR_len, List.length_range]
   refine .to0 hd mo_ [] [0, 1, 3, 4, 12, 14, 43, 44, 45] [0, 1, 2] 3 [na (t := decide ((k : Int) < (k : Int))) (decide_eq_false (by omega)), .eqv 44 (ni ((ftR l).length : Int)) (ni (l.length : Int)) (by rw [hfl])] (td' := lp fbo 1) (σ' := ⟨bo2T s st gl l 0, [.rw 3 1 (nR (List.range k)), .bx 22 [.ow 0], .bx 126 [.cl 79 [.lp 1 0, .lp 2 0]]]⟩) ?_ (by kernel_rfl)
   refine Gd.os3 (by rw [hrl]; exact h0) ?_
   rw [hrl]
   exact next
end
end Go.Proofs.YtbaggkbleehegaaGreat.E.Ct
namespace Go.Proofs.YtbaggkbleehegaaGreat.E.Ct
open Go.RowKit
set_option linter.unusedVariables false
set_option linter.unusedSimpArgs false
section
variable {s : Sc} {st gl : Int} {l : List Ft} {f : Ft} {i k n r b : Nat} {rt : Nat → Int} {d : RD}
theorem max_ (a b : Nat) : (if (b : Int) > (a : Int) then (b : Int) else (a : Int)) = ((max a b : Nat) : Int) := by split <;> omega
theorem min_ (a b : Nat) : (if (b : Int) < (a : Int) then (b : Int) else (a : Int)) = ((min a b : Nat) : Int) := by split <;> omega
/-- The fits are gone through. -/
theorem bo_2 (hd : d.n = 0) (hf : ∀ f ∈ l, f.Ok s) (hl : l.length ≤ 1000) (hn : s.L.length ≤ 100) (next : ∀ R, Fo s.L.length (cls (acts st gl l l.length)) R → GB d (lp fbo 2) ⟨bo3T s st 0, bo3H s rt R 0⟩) : GB d (lp fbo 1) ⟨bo2T s st gl l 0, fH s.L.length (List.range s.L.length)⟩ := by
 have hpl := piR_len s.L
 refine Gd.loop (fun (x : Nat × List Nat) => (⟨bo2T s st gl l x.1, fH s.L.length x.2⟩ : St)) (fun x => x.1 ≤ l.length ∧ Fo s.L.length (cls (acts st gl l x.1)) x.2) (fun x => l.length - x.1) ?_ (0, List.range s.L.length) ⟨Nat.zero_le _, fo_0 _⟩
 rintro ⟨i, R⟩ ⟨hi, hR⟩ ih
 simp only at hi hR ih ⊢
 by_cases g : i < l.length
 · obtain ⟨f, hfe, hm⟩ := get_of g
   have fo := hf f hm
   have es := ft_at hfe
   have ea := act_in (st := st) (gl := gl) hfe
   have eb := acts_succ (st := st) (gl := gl) (l := l) i
   rw [ea] at eb
   have nx : ∀ R', Fo s.L.length (cls (acts st gl l (i + 1))) R' → GB d (lp fbo 1) ⟨bo2T s st gl l (i + 1), fH s.L.length R'⟩ := fun R' hR' => ih (i + 1, R') ⟨g, hR'⟩ (by simp only; omega)
   let F : List F_ := [ye (t := decide ((i : Int) < (l.length : Int))) (decide_eq_true (by omega)), .sel _ _ _ es]
   cases h0 : inB gl i with
   | false =>
    rw [h0, if_neg (by simp), List.append_nil] at eb
    have nx := nx R (by rw [eb]; exact hR)
    exact .to0 hd mo_ [] [0, 1, 3, 4, 12, 14, 43, 44, 45] [0, 1, 2] 3 (F ++ [na (t := bitV gl i == 1) h0, nf, nf, inc 87 i (by omega)]) nx (by kernel_rfl)
   | true =>
    cases h1 : inB st f.a with
    | false =>
     rw [h0, h1, if_neg (by simp), List.append_nil] at eb
     have nx := nx R (by rw [eb]; exact hR)
     exact .to0 hd mo_ [] [0, 1, 3, 4, 12, 14, 43, 44, 45] [0, 1, 2] 3 (F ++ [ye (t := bitV gl i == 1) h0, na (t := bitV st f.a == 1) h1, nf, inc 87 i (by omega)]) nx (by kernel_rfl)
    | true =>
     cases h2 : inB st f.b with
     | false =>
      rw [h0, h1, h2, if_neg (by simp), List.append_nil] at eb
      have nx := nx R (by rw [eb]; exact hR)
      exact .to0 hd mo_ [] [0, 1, 3, 4, 12, 14, 43, 44, 45] [0, 1, 2] 3 (F ++ [ye (t := bitV gl i == 1) h0, ye (t := bitV st f.a == 1) h1, na (t := bitV st f.b == 1) h2, inc 87 i (by omega)]) nx (by kernel_rfl)
     | true =>
      rw [h0, h1, h2, if_pos (by rfl)] at eb
      have f1 := hR.fnd f.a
      have f2 := f1.fnd f.b
      have r1 := hR.two fo.a
      have r2 := f1.two fo.b
      have x1 := e_find (by omega) hR.len hR.dn f.a fo.a
      have x2 := e_find (by omega) f1.len f1.dn f.b fo.b
      have fu := f2.uni fo.a fo.b
      have la := hR.le fo.a
      have lb := hR.le fo.b
      rw [eb, cls_app] at nx
      have nx := nx _ fu
      have hlen := f2.len
      rw [r1] at x1
      rw [r2] at x2
      have hfa := fo.a
      have hfb := fo.b
      generalize cls (acts st gl l i) f.a = ra at *
      generalize cls (acts st gl l i) f.b = rb at *
      have hlt : max ra rb < s.L.length := by omega
      have hat := nR_at (R := (fnd (fnd R f.a).1 f.b).1) (k := max ra rb) (by omega)
      have hst := nR_set (fnd (fnd R f.a).1 f.b).1 (max ra rb) (min ra rb)
      exact .to0 hd mo_ [] [0, 1, 3, 4, 12, 14, 43, 44, 45] [0, 1, 2] 3 (F ++ [ye (t := bitV gl i == 1) h0, ye (t := bitV st f.a == 1) h1, ye (t := bitV st f.b == 1) h2, .ext (some 74) _ _ _ _ _ (x_find x1), .ext (some 78) _ _ _ _ _ (x_find x2), .eqv 82 (ni (if (rb : Int) > (ra : Int) then (rb : Int) else (ra : Int))) (ni ((max ra rb : Nat) : Int)) (by rw [max_]), .eqv 85 (ni (if (rb : Int) < (ra : Int) then (rb : Int) else (ra : Int))) (ni ((min ra rb : Nat) : Int)) (by rw [min_]), xio 86 hlt, .upd _ _ _ _ _ hat hst, inc 87 i (by omega)]) nx (by kernel_rfl)
 · have e : i = l.length := by omega
   subst e
   have nx := next R hR
   unfold bo3H at nx
   rw [← ow_0] at nx
   exact .to0 hd mo_ [.ow 19 (.rw 83 20 [])] [1, 3, 14, 19, 20, 21, 92, 93, 94] [0, 1, 2, 3, 4, 5] 6 [na (t := decide ((l.length : Int) < (l.length : Int))) (decide_eq_false (by omega)), .eqv 89 (ni ((piR s.L).length : Int)) (ni (s.L.length : Int)) (by rw [hpl]), .mk s.L.length (by omega), .eqv 93 (ni ((piR s.L).length : Int)) (ni (s.L.length : Int)) (by rw [hpl])] nx (by kernel_rfl)
/-- What a body's additions make of its words. -/
theorem upd4 {L : List (List V)} {p : Nat} {x0 x1 x2 x3 x4 : List V} (h : L[p]? = some x0) : (L.set p x1)[p]? = some x1 ∧ ((L.set p x1).set p x2)[p]? = some x2 ∧ (((L.set p x1).set p x2).set p x3)[p]? = some x3 ∧ (((L.set p x1).set p x2).set p x3).set p x4 = L.set p x4 := by
 have hl := (List.getElem?_eq_some_iff.1 h).1
 refine ⟨List.getElem?_set_self hl, ?_, ?_, ?_⟩
 · exact List.getElem?_set_self (by rw [List.length_set]; exact hl)
 · exact List.getElem?_set_self (by rw [List.length_set, List.length_set]; exact hl)
 · simp only [List.set_set]
set_option maxRecDepth 100000 in
/-- A piece comes to its body. -/
theorem bo_3s (hd : d.n = 0) (h : s.Ok b) (hrt : RtOk rt s.L.length) {ρ : Nat → Nat} {R : List Nat} (hR : Fo s.L.length ρ R) (hp : rt = rtF (inB st) ρ) (hk : k < s.L.length) (next : ∀ R, Fo s.L.length ρ R → GB d (lp fbo 2) ⟨bo3T s st (k + 1), bo3H s rt R (k + 1)⟩) : GB d (lp fbo 2) ⟨bo3T s st k, bo3H s rt R k⟩ := by
 have hn := h.n
 have hkb := h.k
 have g := h.g k hk
 have pb := Sc.Ok.pib h hk
 have e1 := pi_at hk
 have e2 := pl_at (s := s) (k := k) (by omega)
 have b0 := bit_0 st k
 have w0 : (zs (owL rt s.L.length k))[k]? = some [ni 0] := ow_ge (Nat.le_refl _) hk
 have wk := ow_set (rt := rt) hk
 have hol : (zs (owL rt s.L.length k)).length = s.L.length := by rw [zs_len, ow_len]
 cases hin : inB st k with
 | false =>
  rw [hin] at b0
  have hrk : rt k = -1 := by rw [hp]; unfold rtF; rw [if_neg (by rw [hin]; simp)]
  have q1 := step_out (g := fun k j => (acc s rt j k).bo.v) (k := k) (rt := rt) (by omega) fun j => by rw [acc_ne (by omega)]
  have q2 := step_out (g := fun k j => dR (acc s rt j k).w) (k := k) (rt := rt) (by omega) fun j => by rw [acc_ne (by omega)]
  rw [owF_out hrk] at wk
  have nx := next R hR
  unfold bo3H oR wR at nx ⊢
  rw [q1, q2] at nx
  exact .to0 hd mo_ [] [1, 3, 14, 19, 20, 21, 92, 93, 94] [0, 1, 2, 3, 4, 5] 6 [ye (t := decide ((k : Int) < (s.L.length : Int))) (decide_eq_true (by omega)), .sel _ _ _ e1, .sel _ _ _ w0, .upd _ _ _ _ _ w0 wk, ye (t := bitV st k == 0) b0, inc 213 k (by omega)] nx (by kernel_rfl)
 | true =>
  rw [hin] at b0
  obtain ⟨row1, hrow1⟩ : ∃ row1, (zs (owL rt s.L.length k)).set k [ni (-1)] = row1 := ⟨_, rfl⟩
  have w1 : row1[k]? = some [ni (-1)] := by rw [← hrow1]; exact List.getElem?_set_self (by omega)
  have w2 : row1.set k [ni (owF rt k)] = zs (owL rt s.L.length (k + 1)) := by rw [← hrow1, List.set_set]; exact wk
  obtain ⟨r, hr, hrk, hrr⟩ : ∃ r : Nat, rt k = (r : Int) ∧ r ≤ k ∧ rt r = (r : Int) := by
   rcases hrt.ge k hk with e | e
   · rw [hp] at e
     unfold rtF at e
     rw [if_pos hin] at e
     omega
   · exact e
  have hr2 : r = ρ k := by
   have e := hr
   rw [hp] at e
   unfold rtF at e
   rw [if_pos hin] at e
   omega
  have x := e_find (by omega) hR.len hR.dn k hk
  rw [hR.two hk, ← hr2] at x
  have nx := next _ (hR.fnd k)
  have hM : (piM b + 1) * k + 1 ≤ 4000000000 := by
   have h1 : piM b + 1 ≤ 30005001 := by unfold piM; omega
   have := Nat.mul_le_mul h1 (show k ≤ 100 by omega)
   omega
  have hM2 : piM b ≤ 30005000 := by unfold piM; omega
  have c1 : Pure PP 39 [.ag (dR (s.pi k).light), .ag (dR (s.pi k).heavy)] (.ag (dR (wt s k))) := e_radd g.ok.light g.ok.heavy (by omega)
  have c2 := e_pcen g
  have c3 : Pure PP 50 [.ag (dV (cenV (s.pi k) (s.pl k))), .ag (dR (wt s k))] (.ag (dV (cw s k))) := e_vsca g.cenV (g.ok.light.add g.ok.heavy) (by omega)
  by_cases hlt : r < k
  · have ab := acc_bits (s := s) (rt := rt) (j := r) (M := piM b) (Sc.Ok.pib h (show r < s.L.length by omega)).str k fun i hi => Sc.Ok.pib h (by omega)
    generalize (piM b + 1) * k + 1 = K at *
    have wr : row1[r]? = some [ni (pos rt r : Int)] := by
     rw [← hrow1, List.getElem?_set_ne (by omega), ow_at hlt (by omega), owF_root hrr]
    rw [owF_of hr] at w2
    have w3 : (zs (owL rt s.L.length (k + 1)))[k]? = some [ni (pos rt r : Int)] := by rw [ow_at (Nat.lt_succ_self k) hk, owF_of hr]
    have o0 := oR_at (s := s) hrr hlt
    have q0 := wR_at (s := s) hrr hlt
    have s1 := step_old (g := fun k j => (acc s rt j k).bo.v) hr hrr hlt fun j hj => by rw [acc_ne (by omega)]
    have s2 := step_old (g := fun k j => dR (acc s rt j k).w) hr hrr hlt fun j hj => by rw [acc_ne (by omega)]
    have d1 := e_vadd ab.c pb.c (by omega)
    have d2 := e_radd ab.light pb.light (by omega)
    have d3 := e_radd ab.heavy pb.heavy (by omega)
    have d4 := e_lsr ab.str pb.str (by omega)
    have d5 := e_radd ab.w pb.w (by omega)
    rw [acc_eq hr] at s1 s2
    unfold acS at s1 s2
    unfold Ac.bo at s1
    unfold Ac.bo at o0
    unfold bo3H at nx ⊢
    generalize acc s rt r k = A at *
    obtain ⟨Ac, Al, Ah, As, Aw⟩ := A
    simp only at s1 s2 o0 q0 d1 d2 d3 d4 d5
    have hu := upd4 (x1 := Bo.v ⟨vadd Ac (cw s k), Al, Ah, As⟩) (x2 := Bo.v ⟨vadd Ac (cw s k), Al + (s.pi k).light, Ah, As⟩) (x3 := Bo.v ⟨vadd Ac (cw s k), Al + (s.pi k).light, Ah + (s.pi k).heavy, As⟩) (x4 := Bo.v ⟨vadd Ac (cw s k), Al + (s.pi k).light, Ah + (s.pi k).heavy, lsr As (s.pi k).str⟩) o0
    obtain ⟨u1, u2, u3, u4⟩ := hu
    have u5 := u4.trans s1
    change _ = oR s rt (k + 1) at u5
    change (wR s rt k).set _ _ = wR s rt (k + 1) at s2
    generalize oR s rt (k + 1) = O1 at *
    generalize oR s rt k = O0 at *
    generalize wR s rt (k + 1) = W1 at *
    generalize wR s rt k = W0 at *
    generalize zs (owL rt s.L.length (k + 1)) = row2 at *
    generalize zs (owL rt s.L.length k) = row0 at *
    generalize cw s k = CW at *
    generalize wt s k = WT at *
    generalize pos rt r = pr at *
    generalize cenV (s.pi k) (s.pl k) = CV at *
    let F : List F_ := [ye (t := decide ((k : Int) < (s.L.length : Int))) (decide_eq_true (by omega)), .sel _ _ _ e1, .sel _ _ _ w0, .upd _ _ _ _ _ w0 hrow1, na (t := bitV st k == 0) b0, cl c1, .sel _ _ _ e2, cl c2, cl c3, .ext (some 122) _ _ _ _ _ (x_find x)]
    let nc (t : Nat) : F_ := .ext (some t) mkNC [.rp 5 20 pr 0] [] [] (.rp 5 20 pr 0) x_nilc
    exact .to0 hd mo_ [] [1, 3, 14, 19, 20, 21, 92, 93, 94] [0, 1, 2, 3, 4, 5] 6 (F ++ [ye (t := decide ((r : Int) < (k : Int))) (decide_eq_true (by omega)), .sel _ _ _ wr, .sel _ _ _ wr, .sel _ _ _ w1, .upd _ _ _ _ _ w1 w2, .sel _ _ _ w3, .sel _ _ _ w3, .sel _ _ _ o0,
     nc 144, .sel _ _ _ o0, cl d1, nc 150, .sel _ _ _ o0, cl d2, nc 157, .sel _ _ _ o0, cl d3, nc 164, .sel _ _ _ o0, cl d4, nc 170, .upd _ _ _ (Bo.v ⟨vadd Ac CW, Al, Ah, As⟩) _ o0 rfl, nc 172, .upd _ _ _ (Bo.v ⟨vadd Ac CW, Al + (s.pi k).light, Ah, As⟩) _ u1 rfl, nc 174, .upd _ _ _ (Bo.v ⟨vadd Ac CW, Al + (s.pi k).light, Ah + (s.pi k).heavy, As⟩) _ u2 rfl, nc 176, .upd _ _ _ _ _ u3 u5,
     .sel _ _ _ w3, .sel _ _ _ w3, .sel _ _ _ w3, .sel _ _ _ w3, .sel _ _ _ q0, .sel _ _ _ q0, cl d5, .sel _ _ _ q0, .upd _ _ _ _ _ q0 s2, inc 213 k (by omega)]) nx (by kernel_rfl)
  · have e : r = k := by omega
    subst e
    have s1 := step_new (g := fun k j => (acc s rt j k).bo.v) hr fun j hj => by rw [acc_ne (by omega)]
    have s2 := step_new (g := fun k j => dR (acc s rt j k).w) hr fun j hj => by rw [acc_ne (by omega)]
    rw [acc_new (fun i hi => hrt.le i (by omega)) hr] at s1 s2
    unfold Ac.bo at s1
    simp only at s1 s2
    change oR s rt r ++ _ = oR s rt (r + 1) at s1
    change wR s rt r ++ _ = wR s rt (r + 1) at s2
    rw [owF_root hr] at w2
    have l1 : (oR s rt (r + 1)).length ≤ 1000 := by rw [oR_len]; unfold pos; have := rts_len rt (r + 1); omega
    have l2 : (wR s rt (r + 1)).length ≤ 1000 := by rw [wR_len]; unfold pos; have := rts_len rt (r + 1); omega
    have l3 : (oR s rt r).length = pos rt r := oR_len
    unfold bo3H at nx ⊢
    generalize oR s rt (r + 1) = O1 at *
    generalize oR s rt r = O0 at *
    generalize wR s rt (r + 1) = W1 at *
    generalize wR s rt r = W0 at *
    generalize zs (owL rt s.L.length (r + 1)) = row2 at *
    generalize zs (owL rt s.L.length r) = row0 at *
    generalize cw s r = CW at *
    generalize wt s r = WT at *
    generalize pos rt r = pr at *
    generalize cenV (s.pi r) (s.pl r) = CV at *
    let F : List F_ := [ye (t := decide ((r : Int) < (s.L.length : Int))) (decide_eq_true (by omega)), .sel _ _ _ e1, .sel _ _ _ w0, .upd _ _ _ _ _ w0 hrow1, na (t := bitV st r == 0) b0, cl c1, .sel _ _ _ e2, cl c2, cl c3, .ext (some 122) _ _ _ _ _ (x_find x)]
    exact .to0 hd mo_ [.mv 5 10, .mv 4 12] [1, 3, 14, 19, 20, 21, 92, 93, 94] [0, 1, 2, 3, 4, 5] 6 (F ++ [na (t := decide ((r : Int) < (r : Int))) (decide_eq_false (by omega)), .eqv 196 (ni (O0.length : Int)) (ni (pr : Int)) (by rw [l3]), .sel _ _ _ w1, .upd _ _ _ _ _ w1 w2, .app _ _ _ 1000 s1 Nat.zero_lt_one l1, .app _ _ _ 1000 s2 Nat.zero_lt_one l2, inc 213 r (by omega)]) nx (by kernel_rfl)
end
end Go.Proofs.YtbaggkbleehegaaGreat.E.Ct
namespace Go.Proofs.YtbaggkbleehegaaGreat.E.Ct
open Go.RowKit
set_option linter.unusedVariables false
set_option linter.unusedSimpArgs false
def bodF (s : Sc) (rt : Nat → Int) : List Bo := (rts rt s.L.length).map fun j => (acc s rt j s.L.length).fin
def ownF (s : Sc) (rt : Nat → Int) : List Int := owL rt s.L.length s.L.length
section
variable {s : Sc} {st gl : Int} {l : List Ft} {f : Ft} {i k n r b : Nat} {rt : Nat → Int} {d : RD}
theorem fr_n (s : Sc) (rt : Nat → Int) : fR s rt s.L.length (rts rt s.L.length).length = boR (bodF s rt) := by
 unfold fR boR bodF
 rw [List.take_length, List.drop_length, List.map_map, List.map_nil, List.append_nil]
 rfl
theorem act_ok (hf : ∀ f ∈ l, f.Ok s) : ∀ i, ∀ e ∈ acts st gl l i, (e.1 < s.L.length ∧ inB st e.1 = true) ∧ (e.2 < s.L.length ∧ inB st e.2 = true) := fun i e he => by
 obtain ⟨j, _, hj⟩ := List.mem_flatMap.1 he
 unfold act1 at hj
 cases hx : l[j]? with
 | none => rw [hx] at hj; cases hj
 | some f =>
  rw [hx] at hj
  simp only at hj
  split at hj
  · rename_i h
    simp only [List.mem_singleton] at hj
    subst hj
    simp only [Bool.and_eq_true] at h
    have hm := hf f (List.mem_of_getElem? hx)
    exact ⟨⟨hm.a, h.2.1⟩, hm.b, h.2.2⟩
  · cases hj
theorem cls_go {p : Nat → Bool} : ∀ (E : List (Nat × Nat)) (ρ : Nat → Nat), (∃ R, Fo n ρ R) → (∀ j, p j = true → p (ρ j) = true) → (∀ e ∈ E, (e.1 < n ∧ p e.1 = true) ∧ (e.2 < n ∧ p e.2 = true)) → (∃ R, Fo n (E.foldl mrg ρ) R) ∧ ∀ j, p j = true → p (E.foldl mrg ρ j) = true
 | [], ρ, h1, h2, _ => ⟨h1, h2⟩
 | e :: E, ρ, ⟨R, hR⟩, h2, h => by
  obtain ⟨⟨a1, a2⟩, b1, b2⟩ := h e (List.mem_cons_self ..)
  exact cls_go E (mrg ρ e) ⟨_, hR.uni a1 b1⟩ (mrg_in h2 a2 b2) fun x hx => h x (List.mem_cons_of_mem _ hx)
theorem cls_ok {p : Nat → Bool} (E : List (Nat × Nat)) (h : ∀ e ∈ E, (e.1 < n ∧ p e.1 = true) ∧ (e.2 < n ∧ p e.2 = true)) : (∃ R, Fo n (cls E) R) ∧ ∀ j, p j = true → p (cls E j) = true := cls_go E id ⟨_, fo_0 n⟩ (fun _ h => h) h
theorem rt_ok {p : Nat → Bool} {ρ : Nat → Nat} {R : List Nat} (hR : Fo n ρ R) (h2 : ∀ j, p j = true → p (ρ j) = true) : RtOk (rtF p ρ) n := ⟨fun k hk => by
 unfold rtF
 split
 · have := hR.le hk; omega
 · omega, fun k hk => by
 by_cases hp : p k = true
 · refine .inr ⟨ρ k, by unfold rtF; rw [if_pos hp], hR.le hk, ?_⟩
   unfold rtF
   rw [if_pos (h2 k hp), hR.idem hk]
 · exact .inl (by unfold rtF; rw [if_neg hp])⟩
theorem rtB_ok (hf : ∀ f ∈ l, f.Ok s) : RtOk (rtB st gl l) s.L.length := by
 obtain ⟨⟨R, hR⟩, h2⟩ := cls_ok (p := inB st) (acts st gl l l.length) (act_ok hf _)
 exact rt_ok hR h2
theorem one_div (c : Vc) (w : Rat) : vsca c (Rat.divInt 1 1 / w) = (c.1 / w, c.2 / w) := by
 have : (Rat.divInt 1 1 : Rat) = 1 := by decide +kernel
 unfold vsca
 rw [this]
 simp only [Rat.div_def, Rat.one_mul]
theorem bo_3 (hd : d.n = 0) (h : s.Ok b) (hrt : RtOk rt s.L.length) {ρ : Nat → Nat} {R : List Nat} (hR : Fo s.L.length ρ R) (hp : rt = rtF (inB st) ρ) (next : GB d (lp fbo 3) (bo4S s rt 0)) : GB d (lp fbo 2) ⟨bo3T s st 0, bo3H s rt R 0⟩ := by
 have hn := h.n
 refine Gd.loop (fun (x : Nat × List Nat) => (⟨bo3T s st x.1, bo3H s rt x.2 x.1⟩ : St)) (fun x => x.1 ≤ s.L.length ∧ Fo s.L.length ρ x.2) (fun x => s.L.length - x.1) ?_ (0, R) ⟨Nat.zero_le _, hR⟩
 rintro ⟨k, R⟩ ⟨hk, hR⟩ ih
 simp only at hk hR ih ⊢
 by_cases g : k < s.L.length
 · exact bo_3s hd h hrt hR hp g fun R' hR' => ih (k + 1, R') ⟨g, hR'⟩ (by simp only; omega)
 · have e : k = s.L.length := by omega
   subst e
   have hl : (oR s rt s.L.length).length = (rts rt s.L.length).length := List.length_map ..
   exact .to0 hd mo_ [] [19, 20, 21, 215, 216] [3, 4, 5] 6 [na (t := decide ((s.L.length : Int) < (s.L.length : Int))) (decide_eq_false (by omega)), .eqv 215 (ni ((oR s rt s.L.length).length : Int)) (ni ((rts rt s.L.length).length : Int)) (by rw [hl])] next (by kernel_rfl)
theorem bo_4 (hd : d.n = 0) (h : s.Ok b) (next : GB d (lp fbo 3) (bo4S s rt (rts rt s.L.length).length)) : GB d (lp fbo 3) (bo4S s rt 0) := by
 have hn := h.n
 have hkb := h.k
 have hrl := rts_len rt s.L.length
 refine Gd.loop (fun (i : Nat) => bo4S s rt i) (fun i => i ≤ (rts rt s.L.length).length) (fun i => (rts rt s.L.length).length - i) ?_ 0 (Nat.zero_le _)
 intro i hi ih
 by_cases g : i < (rts rt s.L.length).length
 · obtain ⟨j, j1, j2, j3, j4⟩ := fr_at (s := s) g
   have hj := (mem_rts.1 (List.mem_of_getElem? j1)).1
   have ab := acc_bits (s := s) (rt := rt) (j := j) (M := piM b) (Sc.Ok.pib h hj).str s.L.length fun i hi => Sc.Ok.pib h hi
   have hM : (piM b + 1) * s.L.length + 1 ≤ 4000000000 := by
    have h1 : piM b + 1 ≤ 30005001 := by unfold piM; omega
    have := Nat.mul_le_mul h1 (show s.L.length ≤ 100 by omega)
    omega
   have nx := ih (i + 1) g (by omega)
   unfold bo4S at nx ⊢
   generalize (piM b + 1) * s.L.length + 1 = K at *
   have b1 : Bq 1 (Rat.divInt 1 1) := Bq.divInt (k := 1) (p := 1) (q := 1) (by unfold I.Bd; decide) (by unfold I.Bd; decide) (by decide)
   have c1 := e_rof (x := 1) (y := 1) is1_ is1_
   have c2 := e_rdiv b1 ab.w (by omega)
   have c3 := e_vsca ab.c (b1.div ab.w (by omega)) (by omega)
   rw [one_div] at c3
   unfold Ac.fin at j4
   unfold Ac.bo at j2
   generalize acc s rt j s.L.length = A at *
   generalize fR s rt s.L.length (i + 1) = F1 at *
   generalize fR s rt s.L.length i = F0 at *
   generalize wR s rt s.L.length = W0 at *
   exact .to0 hd mo_ [] [19, 20, 21, 215, 216] [3, 4, 5] 6 [ye (t := decide ((i : Int) < ((rts rt s.L.length).length : Int))) (decide_eq_true (by omega)), .sel _ _ _ j2, .sel _ _ _ j2, cl c1, .sel _ _ _ j3, .sel _ _ _ j3, cl c2, cl c3, .sel _ _ _ j2, .upd _ _ _ _ _ j2 j4, inc 235 i (by omega)] nx (by kernel_rfl)
 · have e : i = (rts rt s.L.length).length := by omega
   subst e
   exact next
theorem e_bodiesD (hd : d.n = 0) (h : s.Ok b) (hf : ∀ f ∈ l, f.Ok s) (hl : l.length ≤ 1000) (h0 : 0 < s.L.length) (next : GB d (lp fbo 3) (bo4S s (rtB st gl l) (rts (rtB st gl l) s.L.length).length)) : GB d (body fbo) (st0 fbo [.sl (piR s.L), .sl (plR s.A), .sl (ftR l), ni st, ni gl]) :=
 bo_1 hd h h0 (bo_2 hd hf hl h.n.2 fun R hR => bo_3 hd h (rtB_ok hf) hR rfl (bo_4 hd h next))
/-- **Bodies** of the program. -/
theorem e_bodies (h : s.Ok b) (hf : ∀ f ∈ l, f.Ok s) (hl : l.length ≤ 1000) (h0 : 0 < s.L.length) : Pure PP 27 [.sl (piR s.L), .sl (plR s.A), .sl (ftR l), ni st, ni gl] (.tu [.sl (boR (bodF s (rtB st gl l))), zl (ownF s (rtB st gl l))]) := by
 refine pf (by kernel_rfl) (e_bodiesD rfl h hf hl h0 ?_)
 have hx : decide (((rts (rtB st gl l) s.L.length).length : Int) < ((rts (rtB st gl l) s.L.length).length : Int)) = false := decide_eq_false (by omega)
 unfold bo4S
 rw [fr_n]
 exact fi [na hx] (by kernel_rfl) (by kernel_rfl)
end
end Go.Proofs.YtbaggkbleehegaaGreat.E.Ct
namespace Go.Proofs.YtbaggkbleehegaaGreat.E.Ct
open Go.RowKit
set_option linter.unusedVariables false
set_option linter.unusedSimpArgs false
section
variable {s : Sc} {st gl : Int} {l : List Ft} {f : Ft} {i k n r b a c m : Nat} {p : Nat → Bool} {M : List Nat} {E : List (Nat × Nat)}
end
end Go.Proofs.YtbaggkbleehegaaGreat.E.Ct
namespace Go.Proofs.YtbaggkbleehegaaGreat.E.Ct
open Go.RowKit
set_option linter.unusedVariables false
set_option linter.unusedSimpArgs false
section
variable {s : Sc} {st gl : Int} {l : List Ft} {f : Ft} {i k n r b m : Nat} {rt : Nat → Int}
end
end Go.Proofs.YtbaggkbleehegaaGreat.E.Ct
