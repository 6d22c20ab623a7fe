/-
 CONTACT: the reference's Bodies, by the engine.
-/
import Derived.Test.YtbaggkbleehegaaGreatEvW
namespace Go.Proofs.YtbaggkbleehegaaGreat.E.Ct
open Go.RowKit
set_option linter.unusedVariables false
set_option linter.unusedSimpArgs false
def bodF (s : Sc) (rt : Nat → Int) : List Bo := (rts rt s.L.length).map fun j => (acc s rt j s.L.length).fin
def ownF (s : Sc) (rt : Nat → Int) : List Int := owL rt s.L.length s.L.length
section
variable {s : Sc} {st gl : Int} {l : List Ft} {f : Ft} {i k n r b : Nat} {rt : Nat → Int} {d : RD}
theorem fr_n (s : Sc) (rt : Nat → Int) : fR s rt s.L.length (rts rt s.L.length).length = boR (bodF s rt) := by
 unfold fR boR bodF
 rw [List.take_length, List.drop_length, List.map_map, List.map_nil, List.append_nil]
 rfl
theorem act_ok (hf : ∀ f ∈ l, f.Ok s) : ∀ i, ∀ e ∈ acts st gl l i, (e.1 < s.L.length ∧ inB st e.1 = true) ∧ (e.2 < s.L.length ∧ inB st e.2 = true) := fun i e he => by
 obtain ⟨j, _, hj⟩ := List.mem_flatMap.1 he
 unfold act1 at hj
 cases hx : l[j]? with
 | none => rw [hx] at hj; cases hj
 | some f =>
  rw [hx] at hj
  simp only at hj
  split at hj
  · rename_i h
    simp only [List.mem_singleton] at hj
    subst hj
    simp only [Bool.and_eq_true] at h
    have hm := hf f (List.mem_of_getElem? hx)
    exact ⟨⟨hm.a, h.2.1⟩, hm.b, h.2.2⟩
  · cases hj
theorem cls_go {p : Nat → Bool} : ∀ (E : List (Nat × Nat)) (ρ : Nat → Nat), (∃ R, Fo n ρ R) → (∀ j, p j = true → p (ρ j) = true) → (∀ e ∈ E, (e.1 < n ∧ p e.1 = true) ∧ (e.2 < n ∧ p e.2 = true)) → (∃ R, Fo n (E.foldl mrg ρ) R) ∧ ∀ j, p j = true → p (E.foldl mrg ρ j) = true
 | [], ρ, h1, h2, _ => ⟨h1, h2⟩
 | e :: E, ρ, ⟨R, hR⟩, h2, h => by
  obtain ⟨⟨a1, a2⟩, b1, b2⟩ := h e (List.mem_cons_self ..)
  exact cls_go E (mrg ρ e) ⟨_, hR.uni a1 b1⟩ (mrg_in h2 a2 b2) fun x hx => h x (List.mem_cons_of_mem _ hx)
theorem cls_ok {p : Nat → Bool} (E : List (Nat × Nat)) (h : ∀ e ∈ E, (e.1 < n ∧ p e.1 = true) ∧ (e.2 < n ∧ p e.2 = true)) : (∃ R, Fo n (cls E) R) ∧ ∀ j, p j = true → p (cls E j) = true := cls_go E id ⟨_, fo_0 n⟩ (fun _ h => h) h
theorem rt_ok {p : Nat → Bool} {ρ : Nat → Nat} {R : List Nat} (hR : Fo n ρ R) (h2 : ∀ j, p j = true → p (ρ j) = true) : RtOk (rtF p ρ) n := ⟨fun k hk => by
 unfold rtF
 split
 · have := hR.le hk; omega
 · omega, fun k hk => by
 by_cases hp : p k = true
 · refine .inr ⟨ρ k, by unfold rtF; rw [if_pos hp], hR.le hk, ?_⟩
   unfold rtF
   rw [if_pos (h2 k hp), hR.idem hk]
 · exact .inl (by unfold rtF; rw [if_neg hp])⟩
theorem rtB_ok (hf : ∀ f ∈ l, f.Ok s) : RtOk (rtB st gl l) s.L.length := by
 obtain ⟨⟨R, hR⟩, h2⟩ := cls_ok (p := inB st) (acts st gl l l.length) (act_ok hf _)
 exact rt_ok hR h2
theorem one_div (c : Vc) (w : Rat) : vsca c (Rat.divInt 1 1 / w) = (c.1 / w, c.2 / w) := by
 have : (Rat.divInt 1 1 : Rat) = 1 := by decide +kernel
 unfold vsca
 rw [this]
 simp only [Rat.div_def, Rat.one_mul]
theorem bo_3 (hd : d.n = 0) (h : s.Ok b) (hrt : RtOk rt s.L.length) {ρ : Nat → Nat} {R : List Nat} (hR : Fo s.L.length ρ R) (hp : rt = rtF (inB st) ρ) (next : GB d (lp fbo 3) (bo4S s rt 0)) : GB d (lp fbo 2) ⟨bo3T s st 0, bo3H s rt R 0⟩ := by
 have hn := h.n
 refine Gd.loop (fun (x : Nat × List Nat) => (⟨bo3T s st x.1, bo3H s rt x.2 x.1⟩ : St)) (fun x => x.1 ≤ s.L.length ∧ Fo s.L.length ρ x.2) (fun x => s.L.length - x.1) ?_ (0, R) ⟨Nat.zero_le _, hR⟩
 rintro ⟨k, R⟩ ⟨hk, hR⟩ ih
 simp only at hk hR ih ⊢
 by_cases g : k < s.L.length
 · exact bo_3s hd h hrt hR hp g fun R' hR' => ih (k + 1, R') ⟨g, hR'⟩ (by simp only; omega)
 · have e : k = s.L.length := by omega
   subst e
   have hl : (oR s rt s.L.length).length = (rts rt s.L.length).length := List.length_map ..
   exact .to0 hd mo_ [] [19, 20, 21, 215, 216] [3, 4, 5] 6 [na (t := decide ((s.L.length : Int) < (s.L.length : Int))) (decide_eq_false (by omega)), .eqv 215 (ni ((oR s rt s.L.length).length : Int)) (ni ((rts rt s.L.length).length : Int)) (by rw [hl])] next (by kernel_rfl)
theorem bo_4 (hd : d.n = 0) (h : s.Ok b) (next : GB d (lp fbo 3) (bo4S s rt (rts rt s.L.length).length)) : GB d (lp fbo 3) (bo4S s rt 0) := by
 have hn := h.n
 have hkb := h.k
 have hrl := rts_len rt s.L.length
 refine Gd.loop (fun (i : Nat) => bo4S s rt i) (fun i => i ≤ (rts rt s.L.length).length) (fun i => (rts rt s.L.length).length - i) ?_ 0 (Nat.zero_le _)
 intro i hi ih
 by_cases g : i < (rts rt s.L.length).length
 · obtain ⟨j, j1, j2, j3, j4⟩ := fr_at (s := s) g
   have hj := (mem_rts.1 (List.mem_of_getElem? j1)).1
   have ab := acc_bits (s := s) (rt := rt) (j := j) (M := piM b) (Sc.Ok.pib h hj).str s.L.length fun i hi => Sc.Ok.pib h hi
   have hM : (piM b + 1) * s.L.length + 1 ≤ 4000000000 := by
    have h1 : piM b + 1 ≤ 30005001 := by unfold piM; omega
    have := Nat.mul_le_mul h1 (show s.L.length ≤ 100 by omega)
    omega
   have nx := ih (i + 1) g (by omega)
   unfold bo4S at nx ⊢
   generalize (piM b + 1) * s.L.length + 1 = K at *
   have b1 : Bq 1 (Rat.divInt 1 1) := Bq.divInt (k := 1) (p := 1) (q := 1) (by unfold I.Bd; decide) (by unfold I.Bd; decide) (by decide)
   have c1 := e_rof (x := 1) (y := 1) is1_ is1_
   have c2 := e_rdiv b1 ab.w (by omega)
   have c3 := e_vsca ab.c (b1.div ab.w (by omega)) (by omega)
   rw [one_div] at c3
   unfold Ac.fin at j4
   unfold Ac.bo at j2
   generalize acc s rt j s.L.length = A at *
   generalize fR s rt s.L.length (i + 1) = F1 at *
   generalize fR s rt s.L.length i = F0 at *
   generalize wR s rt s.L.length = W0 at *
   exact .to0 hd mo_ [] [19, 20, 21, 215, 216] [3, 4, 5] 6 [ye (t := decide ((i : Int) < ((rts rt s.L.length).length : Int))) (decide_eq_true (by omega)), .sel _ _ _ j2, .sel _ _ _ j2, cl c1, .sel _ _ _ j3, .sel _ _ _ j3, cl c2, cl c3, .sel _ _ _ j2, .upd _ _ _ _ _ j2 j4, inc 235 i (by omega)] nx (by kernel_rfl)
 · have e : i = (rts rt s.L.length).length := by omega
   subst e
   exact next
theorem e_bodiesD (hd : d.n = 0) (h : s.Ok b) (hf : ∀ f ∈ l, f.Ok s) (hl : l.length ≤ 1000) (h0 : 0 < s.L.length) (next : GB d (lp fbo 3) (bo4S s (rtB st gl l) (rts (rtB st gl l) s.L.length).length)) : GB d (body fbo) (st0 fbo [.sl (piR s.L), .sl (plR s.A), .sl (ftR l), ni st, ni gl]) :=
 bo_1 hd h h0 (bo_2 hd hf hl h.n.2 fun R hR => bo_3 hd h (rtB_ok hf) hR rfl (bo_4 hd h next))
/-- **Bodies** of the program. -/
theorem e_bodies (h : s.Ok b) (hf : ∀ f ∈ l, f.Ok s) (hl : l.length ≤ 1000) (h0 : 0 < s.L.length) : Pure PP 27 [.sl (piR s.L), .sl (plR s.A), .sl (ftR l), ni st, ni gl] (.tu [.sl (boR (bodF s (rtB st gl l))), zl (ownF s (rtB st gl l))]) := by
 refine pf (by kernel_rfl) (e_bodiesD rfl h hf hl h0 ?_)
 have hx : decide (((rts (rtB st gl l) s.L.length).length : Int) < ((rts (rtB st gl l) s.L.length).length : Int)) = false := decide_eq_false (by omega)
 unfold bo4S
 rw [fr_n]
 exact fi [na hx] (by kernel_rfl) (by kernel_rfl)
end
end Go.Proofs.YtbaggkbleehegaaGreat.E.Ct
namespace Go.Proofs.YtbaggkbleehegaaGreat.E.Ct
open Go.RowKit
set_option linter.unusedVariables false
set_option linter.unusedSimpArgs false
/-- The least ones that are known, of the pieces of a set. -/
def ocR (p : Nat → Bool) (M : List Nat) (k : Nat) : List Int := (List.range k).map fun j => if p j = true then ((M.getD j 0 : Nat) : Int) else -1
section
variable {s : Sc} {st gl : Int} {l : List Ft} {f : Ft} {i k n r b a c m : Nat} {p : Nat → Bool} {M : List Nat} {E : List (Nat × Nat)}
theorem oc_len : (ocR p M k).length = k := by unfold ocR; simp
theorem oc_succ : ocR p M (k + 1) = ocR p M k ++ [if p k = true then ((M.getD k 0 : Nat) : Int) else -1] := by unfold ocR; rw [List.range_succ, List.map_append]; rfl
theorem oc_at (h : a < n) (hp : p a = true) : (zs (ocR p M n))[a]? = some [ni ((M.getD a 0 : Nat) : Int)] := by
 refine zs_at ?_
 unfold ocR
 rw [List.getElem?_map, List.getElem?_range h]
 simp only [Option.map_some, if_pos hp]
theorem oc_set (h : a < n) (hM : M.length = n) (hp : p a = true) : (zs (ocR p M n)).set a [ni (m : Int)] = zs (ocR p (M.set a m) n) := by
 rw [zs_set]
 congr 1
 unfold ocR
 apply List.ext_getElem?
 intro i
 rw [List.getElem?_set, List.length_map, List.length_range, List.getElem?_map, List.getElem?_map]
 by_cases e : a = i
 · subst e
   rw [if_pos rfl, if_pos h, List.getElem?_range h]
   simp only [Option.map_some, Option.some.injEq]
   rw [if_pos hp, getD_set, if_pos ⟨rfl, by omega⟩]
 · rw [if_neg e]
   by_cases hi : i < n
   · rw [List.getElem?_range hi]
     have h9 : (M.set a m).getD i 0 = M.getD i 0 := by rw [getD_set, if_neg (by omega)]
     simp only [Option.map_some, Option.some.injEq, h9]
   · rw [List.getElem?_eq_none (by simpa using hi)]; rfl
theorem mp1_len (M : List Nat) (e : Nat × Nat) : (mp1 M e).length = M.length := by unfold mp1; rw [List.length_set, List.length_set]
theorem mpf_len : ∀ (E : List (Nat × Nat)) (M : List Nat), (E.foldl mp1 M).length = M.length
 | [], M => rfl
 | e :: E, M => by
  show (E.foldl mp1 (mp1 M e)).length = _
  rw [mpf_len E, mp1_len]
theorem mpR_len (E : List (Nat × Nat)) (M : List Nat) : ∀ r, (mpR E M r).length = M.length
 | 0 => rfl
 | r + 1 => by
  show (E.foldl mp1 (mpR E M r)).length = _
  rw [mpf_len, mpR_len]
noncomputable abbrev fow : Func := fnOf PP 81
noncomputable def owS (n : Nat) (l : List Ft) (st gl : Int) (m : List (Nat × V)) (R : List Int) : St := at_ fow ([(0, ni (n : Int)), (1, .sl (ftR l)), (2, ni st), (3, ni gl), (9, .ow 0)] ++ m) [.rw 3 1 (zs R)]
theorem range_get (h : k < n) : (List.range n).getD k 0 = k := by rw [List.getD_eq_getElem?_getD, List.getElem?_range h]; rfl
theorem e_owners (hn : n ≤ 1000) (hl : l.length ≤ 1000) (hf : ∀ f ∈ l, f.a < n ∧ f.b < n) : Pure PP 81 [ni (n : Int), .sl (ftR l), ni st, ni gl] (.o 3 1 (zs (ocR (inB st) (mp n (acts st gl l l.length)) n))) := by
 have hfl := ftR_len l
 let G : List Item → St → Prop := Gd PP 81 (.o 3 1 (zs (ocR (inB st) (mp n (acts st gl l l.length)) n)))
 have h2 : G (lp fow 1) (owS n l st gl [(11, ni ((0 : Nat) : Int))] (ocR (inB st) (List.range n) n)) := by
  refine Gd.loop (fun (r : Nat) => owS n l st gl [(11, ni (r : Int))] (ocR (inB st) (mpR (acts st gl l l.length) (List.range n) r) n)) (fun r => r ≤ n) (fun r => n - r) ?_ 0 (Nat.zero_le _)
  intro r hr ih
  by_cases g : r < n
  · have nx := ih (r + 1) g (by omega)
    have h3 : G (lp fow 2) (owS n l st gl [(11, ni (r : Int)), (12, ni ((0 : Nat) : Int))] (ocR (inB st) ((acts st gl l 0).foldl mp1 (mpR (acts st gl l l.length) (List.range n) r)) n)) := by
     have hml := (mpR_len (acts st gl l l.length) (List.range n) r).trans List.length_range
     change Gd _ _ _ _ (owS n l st gl [(11, ni ((r + 1 : Nat) : Int))] (ocR (inB st) ((acts st gl l l.length).foldl mp1 (mpR (acts st gl l l.length) (List.range n) r)) n)) at nx
     generalize mpR (acts st gl l l.length) (List.range n) r = M0 at *
     refine Gd.loop (fun (i : Nat) => owS n l st gl [(11, ni (r : Int)), (12, ni (i : Int))] (ocR (inB st) ((acts st gl l i).foldl mp1 M0) n)) (fun i => i ≤ l.length) (fun i => l.length - i) ?_ 0 (Nat.zero_le _)
     intro i hi ih
     by_cases g : i < l.length
     · obtain ⟨f, hfe, hm⟩ := get_of g
       obtain ⟨fa, fb⟩ := hf f hm
       have es := ft_at hfe
       have ea := act_in (st := st) (gl := gl) hfe
       have eb := acts_succ (st := st) (gl := gl) (l := l) i
       rw [ea] at eb
       have nx := ih (i + 1) g (by omega)
       rw [eb, List.foldl_append] at nx
       have hM1 := (mpf_len (acts st gl l i) M0).trans hml
       generalize (acts st gl l i).foldl mp1 M0 = M at *
       let F : List F_ := [.eqv 37 (ni ((ftR l).length : Int)) (ni (l.length : Int)) (by rw [hfl]), ye (t := decide ((i : Int) < (l.length : Int))) (decide_eq_true (by omega)), .sel _ _ _ es, cl (e_in gl i)]
       cases h0 : inB gl i with
       | false =>
        rw [h0, if_neg (by simp), List.foldl_nil] at nx
        exact .to mo_ [] [0, 1, 2, 3, 9, 11, 12] [0] 1 (F ++ [na (t := inB gl i) h0, nf, nf, inc 40 i (by omega)]) nx (by kernel_rfl)
       | true =>
        cases h1 : inB st f.a with
        | false =>
         rw [h0, h1, if_neg (by simp), List.foldl_nil] at nx
         exact .to mo_ [] [0, 1, 2, 3, 9, 11, 12] [0] 1 (F ++ [ye (t := inB gl i) h0, cl (e_in st f.a), na (t := inB st f.a) h1, nf, inc 40 i (by omega)]) nx (by kernel_rfl)
        | true =>
         cases h2 : inB st f.b with
         | false =>
          rw [h0, h1, h2, if_neg (by simp), List.foldl_nil] at nx
          exact .to mo_ [] [0, 1, 2, 3, 9, 11, 12] [0] 1 (F ++ [ye (t := inB gl i) h0, cl (e_in st f.a), ye (t := inB st f.a) h1, cl (e_in st f.b), na (t := inB st f.b) h2, inc 40 i (by omega)]) nx (by kernel_rfl)
         | true =>
          rw [h0, h1, h2, if_pos (by rfl)] at nx
          have a1 := oc_at (M := M) fa h1
          have a2 := oc_at (M := M) fb h2
          have u1 := oc_set (m := min (M.getD f.a 0) (M.getD f.b 0)) fa hM1 h1
          have a3 := oc_at (M := M.set f.a (min (M.getD f.a 0) (M.getD f.b 0))) fb h2
          have u2 := oc_set (M := M.set f.a (min (M.getD f.a 0) (M.getD f.b 0))) (m := min (M.getD f.a 0) (M.getD f.b 0)) fb (by rw [List.length_set]; exact hM1) h2
          change Gd _ _ _ _ (owS n l st gl [(11, ni (r : Int)), (12, ni ((i + 1 : Nat) : Int))] (ocR (inB st) ((M.set f.a (min (M.getD f.a 0) (M.getD f.b 0))).set f.b (min (M.getD f.a 0) (M.getD f.b 0))) n)) at nx
          generalize (M.set f.a (min (M.getD f.a 0) (M.getD f.b 0))).set f.b (min (M.getD f.a 0) (M.getD f.b 0)) = M2 at *
          generalize M.set f.a (min (M.getD f.a 0) (M.getD f.b 0)) = M1 at *
          exact .to mo_ [] [0, 1, 2, 3, 9, 11, 12] [0] 1 (F ++ [ye (t := inB gl i) h0, cl (e_in st f.a), ye (t := inB st f.a) h1, cl (e_in st f.b), ye (t := inB st f.b) h2, .sel _ _ _ a1, .sel _ _ _ a1, .sel _ _ _ a2, .sel _ _ _ a2, .eqv 70 (ni (if ((M.getD f.b 0 : Nat) : Int) < ((M.getD f.a 0 : Nat) : Int) then ((M.getD f.b 0 : Nat) : Int) else ((M.getD f.a 0 : Nat) : Int))) (ni ((min (M.getD f.a 0) (M.getD f.b 0) : Nat) : Int)) (by rw [min_]), .sel _ _ _ a1, .upd _ _ _ _ _ a1 u1, .sel _ _ _ a3, .upd _ _ _ _ _ a3 u2, inc 40 i (by omega)]) nx (by kernel_rfl)
     · have e : i = l.length := by omega
       subst e
       exact .to mo_ [] [0, 1, 2, 3, 9, 11] [0] 1 [.eqv 37 (ni ((ftR l).length : Int)) (ni (l.length : Int)) (by rw [hfl]), na (t := decide ((l.length : Int) < (l.length : Int))) (decide_eq_false (by omega)), inc 34 r (by omega)] nx (by kernel_rfl)
    exact .to mo_ [] [0, 1, 2, 3, 9, 11, 12] [0] 1 [ye (t := decide ((r : Int) < (n : Int))) (decide_eq_true (by omega))] h3 (by kernel_rfl)
  · have e : r = n := by omega
    subst e
    exact fi [na (t := decide ((r : Int) < (r : Int))) (decide_eq_false (by omega))] (by kernel_rfl) (by kernel_rfl)
 refine pf (by kernel_rfl) (.to mo_ [.ow 9 (.rw 3 1 [])] [0, 1, 2, 3, 9, 10] [0] 1 [] (td' := lp fow 0) (σ' := owS n l st gl [(10, ni ((0 : Nat) : Int))] (ocR (inB st) (List.range n) 0)) ?_ (by kernel_rfl))
 refine Gd.loop (fun (k : Nat) => owS n l st gl [(10, ni (k : Int))] (ocR (inB st) (List.range n) k)) (fun k => k ≤ n) (fun k => n - k) ?_ 0 (Nat.zero_le _)
 intro k hk ih
 by_cases g : k < n
 · have nx := ih (k + 1) g (by omega)
   have hz := oc_succ (p := inB st) (M := List.range n) (k := k)
   rw [range_get g] at hz
   have hlen : (zs (ocR (inB st) (List.range n) (k + 1))).length ≤ 2000 := by rw [zs_len, oc_len]; omega
   have hcx : ∀ x : Int, ocR (inB st) (List.range n) (k + 1) = ocR (inB st) (List.range n) k ++ [x] → zs (ocR (inB st) (List.range n) k) ++ [[ni x]] = zs (ocR (inB st) (List.range n) (k + 1)) := fun x hx => by rw [hx, zs_one]
   cases h1 : inB st k with
   | true =>
    rw [if_pos h1] at hz
    exact .to mo_ [.mv 0 2] [0, 1, 2, 3, 9, 10] [0] 1 [ye (t := decide ((k : Int) < (n : Int))) (decide_eq_true (by omega)), cl (e_in st k), ye (t := inB st k) h1, .app _ _ _ 2000 (hcx _ hz) Nat.zero_lt_one hlen, inc 19 k (by omega)] nx (by kernel_rfl)
   | false =>
    rw [if_neg (by rw [h1]; simp)] at hz
    exact .to mo_ [.mv 0 2] [0, 1, 2, 3, 9, 10] [0] 1 [ye (t := decide ((k : Int) < (n : Int))) (decide_eq_true (by omega)), cl (e_in st k), na (t := inB st k) h1, .app _ _ _ 2000 (hcx _ hz) Nat.zero_lt_one hlen, inc 19 k (by omega)] nx (by kernel_rfl)
 · have e : k = n := by omega
   subst e
   exact .to mo_ [] [0, 1, 2, 3, 9, 11] [0] 1 [na (t := decide ((k : Int) < (k : Int))) (decide_eq_false (by omega))] h2 (by kernel_rfl)
theorem acts_len : ∀ i, (acts st gl l i).length ≤ i
 | 0 => Nat.le_refl _
 | i + 1 => by
  have := acts_len i
  have h1 : (act1 st gl l i).length ≤ 1 := by
   unfold act1
   split
   · split <;> simp
   · simp
  rw [acts_succ, List.length_append]
  omega
/-- Few pieces and fits: the rounds find the classes. -/
theorem oc_rt (hn : n ≤ 3) (hl : l.length ≤ 3) (hf : ∀ f ∈ l, f.Ok s) (hs : s.L.length = n) : ocR (inB st) (mp n (acts st gl l l.length)) n = (List.range n).map (rtB st gl l) := by
 unfold ocR rtB rtF
 refine List.map_congr_left fun k hk => ?_
 have hk := List.mem_range.1 hk
 have hc := mp_cls (n := n) (k := k) (E := acts st gl l l.length) hn (Nat.le_trans (acts_len _) hl) (fun e he => by
  have := act_ok hf l.length e he
  rw [hs] at this
  exact ⟨this.1.1, this.2.1⟩) hk
 rw [hc]
end
end Go.Proofs.YtbaggkbleehegaaGreat.E.Ct
namespace Go.Proofs.YtbaggkbleehegaaGreat.E.Ct
open Go.RowKit
set_option linter.unusedVariables false
set_option linter.unusedSimpArgs false
def rtL (rt : Nat → Int) (n : Nat) : List Int := (List.range n).map rt
def oF6 (s : Sc) (rt : Nat → Int) (k : Nat) : List (List V) := (rts rt k).map fun j => (acc s rt j s.L.length).fin.v
def o2L (rt : Nat → Int) (n k m : Nat) : List Int := (List.range n).map fun i => if (0 ≤ rt i ∧ rt i < (k : Int)) ∨ (rt i = (k : Int) ∧ i < m) then (pos rt (rt i).toNat : Int) else -1
def o1L (n k : Nat) : List Int := (List.range n).map fun i => if i < k then -1 else 0
section
variable {s : Sc} {st gl : Int} {l : List Ft} {f : Ft} {i k n r b m : Nat} {rt : Nat → Int}
theorem rtL_at (h : k < n) : (zs (rtL rt n))[k]? = some [ni (rt k)] := zs_at (by unfold rtL; rw [List.getElem?_map, List.getElem?_range h]; rfl)
theorem zs_fun {f g : Nat → Int} {x : Int} (hk : k < n) (h1 : g k = x) (h2 : ∀ i, i ≠ k → g i = f i) : (zs ((List.range n).map f)).set k [ni x] = zs ((List.range n).map g) := by
 rw [zs_set]
 congr 1
 apply List.ext_getElem?
 intro i
 rw [List.getElem?_set, List.length_map, List.length_range, List.getElem?_map, List.getElem?_map]
 by_cases e : k = i
 · subst e
   rw [if_pos rfl, if_pos hk, List.getElem?_range hk]
   simp only [Option.map_some, h1]
 · rw [if_neg e]
   by_cases hi : i < n
   · rw [List.getElem?_range hi]
     simp only [Option.map_some, h2 i (fun e' => e e'.symm)]
   · rw [List.getElem?_eq_none (by simpa using hi)]; rfl
theorem zs_fun_at {f : Nat → Int} (hk : k < n) : (zs ((List.range n).map f))[k]? = some [ni (f k)] := zs_at (by rw [List.getElem?_map, List.getElem?_range hk]; rfl)
theorem o1_0 (n : Nat) : List.replicate n [ni 0] = zs (o1L n 0) := ow_0 (rt := fun _ => 0) n |>.trans (by unfold owL o1L; rfl)
theorem o1_n (n : Nat) (hge : RtOk rt n) : o1L n n = o2L rt n 0 0 := by
 unfold o1L o2L
 refine List.map_congr_left fun i hi => ?_
 rw [if_pos (List.mem_range.1 hi), if_neg (by omega)]
theorem o2_skip (h : rt m ≠ (k : Int)) : o2L rt n k (m + 1) = o2L rt n k m := by
 unfold o2L
 refine List.map_congr_left fun i hi => ?_
 by_cases e : i = m
 · subst e
   by_cases h2 : 0 ≤ rt i ∧ rt i < (k : Int)
   · rw [if_pos (.inl h2), if_pos (.inl h2)]
   · rw [if_neg (by omega), if_neg (by omega)]
 · have : ((0 ≤ rt i ∧ rt i < (k : Int)) ∨ (rt i = (k : Int) ∧ i < m + 1)) ↔ ((0 ≤ rt i ∧ rt i < (k : Int)) ∨ (rt i = (k : Int) ∧ i < m)) := by omega
   simp only [this]
theorem o2_next (h : RtOk rt n) : o2L rt n k n = o2L rt n (k + 1) 0 := by
 unfold o2L
 refine List.map_congr_left fun i hi => ?_
 have hi := List.mem_range.1 hi
 have : ((0 ≤ rt i ∧ rt i < (k : Int)) ∨ (rt i = (k : Int) ∧ i < n)) ↔ ((0 ≤ rt i ∧ rt i < ((k + 1 : Nat) : Int)) ∨ (rt i = ((k + 1 : Nat) : Int) ∧ i < 0)) := by omega
 simp only [this]
theorem o2_none (h : RtOk rt n) (hk : rt k ≠ (k : Int)) : o2L rt n k 0 = o2L rt n (k + 1) 0 := by
 unfold o2L
 refine List.map_congr_left fun i hi => ?_
 have hi := List.mem_range.1 hi
 have hik : rt i ≠ (k : Int) := fun e => by
  rcases h.ge i hi with h1 | ⟨r, h1, h2, h3⟩
  · omega
  · have : r = k := by omega
    subst this
    exact hk h3
 have : ((0 ≤ rt i ∧ rt i < (k : Int)) ∨ (rt i = (k : Int) ∧ i < 0)) ↔ ((0 ≤ rt i ∧ rt i < ((k + 1 : Nat) : Int)) ∨ (rt i = ((k + 1 : Nat) : Int) ∧ i < 0)) := by omega
 simp only [this]
theorem o2_end (h : RtOk rt n) : o2L rt n n 0 = owL rt n n := by
 unfold o2L owL
 refine List.map_congr_left fun i hi => ?_
 have hi := List.mem_range.1 hi
 rw [if_pos hi]
 unfold owF
 rcases h.ge i hi with h1 | ⟨r, h1, h2, h3⟩
 · rw [if_neg (by omega), if_pos (by omega)]
 · rw [if_pos (by omega), if_neg (by omega)]
theorem ac0_v (s : Sc) (k : Nat) : (ac0 s k).bo.v = [bo false, .sl [], bo false, .sl [], bo false, .sl [], bo false, .sl []] ++ ([bo false, .sl [], bo false, .sl []] ++ ([bo false, .sl [], bo false, .sl []] ++ dR (s.pi k).str)) := by
 show (dR 0 ++ dR 0) ++ (dR 0 ++ (dR 0 ++ dR (s.pi k).str)) = _
 rw [dR_0]
 rfl
theorem zero_v : dR 0 = [bo false, .sl [], bo false, .sl []] := by rw [dR_0]; rfl
noncomputable abbrev fb6 : Func := fnOf PP 28
noncomputable def b6T (s : Sc) (m : List (Nat × V)) (m2 : List (Nat × V)) : List V := (at_ fb6 ([(0, .sl (piR s.L)), (1, .sl (plR s.A))] ++ (m ++ ([(13, .ow 1)] ++ m2))) []).t
abbrev G6 (D : RD) (td : List Item) (σ : St) : Prop := Gd PP 28 D td σ
abbrev D6 (s : Sc) (rt : Nat → Int) : RD := .v (.tu [.sl (boR (bodF s rt)), zl (ownF s rt)])
set_option maxRecDepth 100000 in
/-- A piece is added to its body. -/
theorem b6_in (h : s.Ok b) (hrt : RtOk rt s.L.length) (hk : k < s.L.length) (hm : m < s.L.length) (next : G6 (D6 s rt) (lp fb6 2) ⟨b6T s [(12, zl (rtL rt s.L.length))] [(14, .ow 2), (16, ni (k : Int)), (17, .lp 3 0), (18, .lp 4 0), (19, ni ((m + 1 : Nat) : Int))], [.dead, .rw 3 1 (zs (o2L rt s.L.length k (m + 1))), .rw 83 20 (oF6 s rt k), .bx 83 (acc s rt k (m + 1)).bo.v, .bx 37 (dR (acc s rt k (m + 1)).w)]⟩) :
  G6 (D6 s rt) (lp fb6 2) ⟨b6T s [(12, zl (rtL rt s.L.length))] [(14, .ow 2), (16, ni (k : Int)), (17, .lp 3 0), (18, .lp 4 0), (19, ni (m : Int))], [.dead, .rw 3 1 (zs (o2L rt s.L.length k m)), .rw 83 20 (oF6 s rt k), .bx 83 (acc s rt k m).bo.v, .bx 37 (dR (acc s rt k m).w)]⟩ := by
 have hn := h.n
 have hkb := h.k
 have hpl := piR_len s.L
 have g := h.g m hm
 have ra := rtL_at (rt := rt) hm
 by_cases hr : rt m = (k : Int)
 · have pb := Sc.Ok.pib h hm
   have ab := acc_bits (s := s) (rt := rt) (j := k) (M := piM b) (Sc.Ok.pib h hk).str m fun i hi => Sc.Ok.pib h (by omega)
   have hM : (piM b + 1) * m + 1 ≤ 4000000000 := by
    have h1 : piM b + 1 ≤ 30005001 := by unfold piM; omega
    have := Nat.mul_le_mul h1 (show m ≤ 100 by omega)
    omega
   have hM2 : piM b ≤ 30005000 := by unfold piM; omega
   have e1 := pi_at hm
   have e2 := pl_at (s := s) (k := m) (by omega)
   have w0 : (zs (o2L rt s.L.length k m))[m]? = some [ni (-1)] := by
    have := zs_fun_at (n := s.L.length) (k := m) (f := fun i => if (0 ≤ rt i ∧ rt i < (k : Int)) ∨ (rt i = (k : Int) ∧ i < m) then (pos rt (rt i).toNat : Int) else -1) hm
    rw [if_neg (by omega)] at this
    exact this
   have w1 : (zs (o2L rt s.L.length k m)).set m [ni (pos rt k : Int)] = zs (o2L rt s.L.length k (m + 1)) := by
    refine zs_fun hm ?_ fun i hi => ?_
    · rw [if_pos (by omega), hr]; rfl
    · have : ((0 ≤ rt i ∧ rt i < (k : Int)) ∨ (rt i = (k : Int) ∧ i < m + 1)) ↔ ((0 ≤ rt i ∧ rt i < (k : Int)) ∨ (rt i = (k : Int) ∧ i < m)) := by omega
      simp only [this]
   have hol : (oF6 s rt k).length = pos rt k := List.length_map ..
   have c1 : Pure PP 82 [.ag (dR (s.pi m).light), .ag (dR (s.pi m).heavy)] (.ag (dR (wt s m))) := e_add4 g.ok.light g.ok.heavy (by omega)
   have c2 := e_pcen12 g
   have c3 : Pure PP 84 [.ag (dV (cenV (s.pi m) (s.pl m))), .ag (dR (wt s m))] (.ag (dV (cw s m))) := e_vsca5 g.cenV (g.ok.light.add g.ok.heavy) (by omega)
   generalize (piM b + 1) * m + 1 = K at *
   have d1 := e_vadd5 ab.c pb.c (by omega)
   have d2 := e_add4 ab.light pb.light (by omega)
   have d3 := e_add4 ab.heavy pb.heavy (by omega)
   have d4 := e_lsr6 ab.str pb.str (by omega)
   have d5 := e_add4 ab.w pb.w (by omega)
   rw [acc_eq hr] at next
   unfold acS Ac.bo at next
   unfold Ac.bo
   generalize acc s rt k m = A at *
   obtain ⟨Ac, Al, Ah, As, Aw⟩ := A
   simp only at next d1 d2 d3 d4 d5 ⊢
   generalize oF6 s rt k = O0 at *
   generalize zs (o2L rt s.L.length k (m + 1)) = row2 at *
   generalize zs (o2L rt s.L.length k m) = row0 at *
   generalize cw s m = CW at *
   generalize wt s m = WT at *
   generalize pos rt k = pr at *
   generalize cenV (s.pi m) (s.pl m) = CV at *
   exact .to mo_ [] [0, 1, 12, 13, 14, 16, 17, 18, 19] [1, 2, 3, 4] 5 [.eqv 60 (ni ((piR s.L).length : Int)) (ni (s.L.length : Int)) (by rw [hpl]), ye (t := decide ((m : Int) < (s.L.length : Int))) (decide_eq_true (by omega)), .sel _ _ _ ra, na (t := rt m != (k : Int)) (by simp [hr]), .sel _ _ _ e1, .sel _ _ _ e1, cl c1, cl d5, .sel _ _ _ e1, .sel _ _ _ e2, cl c2, cl c3, cl d1, .sel _ _ _ e1, cl d2, .sel _ _ _ e1, cl d3, .sel _ _ _ e1, cl d4, .eqv 129 (ni (O0.length : Int)) (ni (pr : Int)) (by rw [hol]), .sel _ _ _ w0, .upd _ _ _ _ _ w0 w1, inc 63 m (by omega)] next (by kernel_rfl)
 · rw [acc_ne hr, o2_skip hr] at next
   generalize acc s rt k m = A at *
   exact .to mo_ [] [0, 1, 12, 13, 14, 16, 17, 18, 19] [1, 2, 3, 4] 5 [.eqv 60 (ni ((piR s.L).length : Int)) (ni (s.L.length : Int)) (by rw [hpl]), ye (t := decide ((m : Int) < (s.L.length : Int))) (decide_eq_true (by omega)), .sel _ _ _ ra, ye (t := rt m != (k : Int)) (by simp [hr]), inc 63 m (by omega)] next (by kernel_rfl)
set_option maxRecDepth 100000 in
/-- A body. -/
theorem b6_out (h : s.Ok b) (hrt : RtOk rt s.L.length) (hk : k < s.L.length) (next : G6 (D6 s rt) (lp fb6 1) ⟨b6T s [(12, zl (rtL rt s.L.length))] [(14, .ow 2), (16, ni ((k + 1 : Nat) : Int))], [.dead, .rw 3 1 (zs (o2L rt s.L.length (k + 1) 0)), .rw 83 20 (oF6 s rt (k + 1))]⟩) :
  G6 (D6 s rt) (lp fb6 1) ⟨b6T s [(12, zl (rtL rt s.L.length))] [(14, .ow 2), (16, ni (k : Int))], [.dead, .rw 3 1 (zs (o2L rt s.L.length k 0)), .rw 83 20 (oF6 s rt k)]⟩ := by
 have hn := h.n
 have hkb := h.k
 have hpl := piR_len s.L
 have g := h.g k hk
 have ra := rtL_at (rt := rt) hk
 have e1 := pi_at hk
 let F : List F_ := [.eqv 41 (ni ((piR s.L).length : Int)) (ni (s.L.length : Int)) (by rw [hpl]), ye (t := decide ((k : Int) < (s.L.length : Int))) (decide_eq_true (by omega)), .sel _ _ _ ra]
 by_cases hr : rt k = (k : Int)
 · refine .to mo_ [.wk 3, .wk 4] [0, 1, 12, 13, 14, 16, 17, 18, 19] [1, 2, 3, 4] 5 (F ++ [na (t := rt k != (k : Int)) (by simp [hr]), .sel _ _ _ e1]) (td' := lp fb6 2) (σ' := ⟨b6T s [(12, zl (rtL rt s.L.length))] [(14, .ow 2), (16, ni (k : Int)), (17, .lp 3 0), (18, .lp 4 0), (19, ni ((0 : Nat) : Int))], [.dead, .rw 3 1 (zs (o2L rt s.L.length k 0)), .rw 83 20 (oF6 s rt k), .bx 83 ([bo false, .sl [], bo false, .sl [], bo false, .sl [], bo false, .sl []] ++ ([bo false, .sl [], bo false, .sl []] ++ ([bo false, .sl [], bo false, .sl []] ++ dR (s.pi k).str))), .bx 37 [bo false, .sl [], bo false, .sl []]]⟩) ?_ (by kernel_rfl)
   rw [← ac0_v, ← zero_v]
   refine Gd.loop (fun (m : Nat) => (⟨b6T s [(12, zl (rtL rt s.L.length))] [(14, .ow 2), (16, ni (k : Int)), (17, .lp 3 0), (18, .lp 4 0), (19, ni (m : Int))], [.dead, .rw 3 1 (zs (o2L rt s.L.length k m)), .rw 83 20 (oF6 s rt k), .bx 83 (acc s rt k m).bo.v, .bx 37 (dR (acc s rt k m).w)]⟩ : St)) (fun m => m ≤ s.L.length) (fun m => s.L.length - m) ?_ 0 (Nat.zero_le _)
   intro m hm ih
   by_cases gm : m < s.L.length
   · exact b6_in h hrt hk gm (ih (m + 1) gm (by omega))
   · have e : m = s.L.length := by omega
     rw [e]
     have ab := acc_bits (s := s) (rt := rt) (j := k) (M := piM b) (Sc.Ok.pib h hk).str s.L.length fun i hi => Sc.Ok.pib h (by omega)
     have hM : (piM b + 1) * s.L.length + 1 ≤ 4000000000 := by
      have h1 : piM b + 1 ≤ 30005001 := by unfold piM; omega
      have := Nat.mul_le_mul h1 (show s.L.length ≤ 100 by omega)
      omega
     have s1 : oF6 s rt k ++ [(acc s rt k s.L.length).fin.v] = oF6 s rt (k + 1) := map_new (f := fun j => (acc s rt j s.L.length).fin.v) (g := fun j => (acc s rt j s.L.length).fin.v) hr fun j _ => rfl
     have l1 : (oF6 s rt (k + 1)).length ≤ 1000 := by unfold oF6; rw [List.length_map]; have := rts_len rt (k + 1); omega
     rw [← o2_next hrt] at next
     generalize (piM b + 1) * s.L.length + 1 = K at *
     have c1 := e_div4 ab.c.1 ab.w (by omega)
     have c2 := e_div4 ab.c.2 ab.w (by omega)
     have hx : decide ((s.L.length : Int) < (s.L.length : Int)) = false := decide_eq_false (by omega)
     unfold Ac.fin at s1
     unfold Ac.bo
     generalize acc s rt k s.L.length = A at *
     obtain ⟨Ac, Al, Ah, As, Aw⟩ := A
     simp only at s1 c1 c2 ⊢
     generalize oF6 s rt (k + 1) = O1 at *
     generalize oF6 s rt k = O0 at *
     generalize zs (o2L rt s.L.length k s.L.length) = row at *
     exact .to mo_ [.mv 2 6] [0, 1, 12, 13, 14, 16] [1, 2] 3 [.eqv 60 (ni ((piR s.L).length : Int)) (ni (s.L.length : Int)) (by rw [hpl]), na hx, cl c1, cl c2, .app _ _ _ 1000 s1 Nat.zero_lt_one l1, inc 44 k (by omega)] next (by kernel_rfl)
 · have s1 : oF6 s rt (k + 1) = oF6 s rt k := map_old hr fun j _ => rfl
   rw [s1, ← o2_none hrt hr] at next
   exact .to mo_ [] [0, 1, 12, 13, 14, 16] [1, 2] 3 (F ++ [ye (t := rt k != (k : Int)) (by simp [hr]), inc 44 k (by omega)]) next (by kernel_rfl)
/-- **Bodies** of the reference. -/
theorem e_bodies6 (h : s.Ok b) (hf : ∀ f ∈ l, f.Ok s) (hl : l.length ≤ 3) (hn3 : s.L.length ≤ 3) : Pure PP 28 [.sl (piR s.L), .sl (plR s.A), .sl (ftR l), ni st, ni gl] (.tu [.sl (boR (bodF s (rtB st gl l))), zl (ownF s (rtB st gl l))]) := by
 have hn := h.n
 have hpl := piR_len s.L
 have hrt := rtB_ok (st := st) (gl := gl) hf
 have co := e_owners (st := st) (gl := gl) (l := l) (n := s.L.length) (by omega) (by omega) fun f hm => ⟨(hf f hm).a, (hf f hm).b⟩
 rw [oc_rt hn3 hl hf rfl] at co
 change Pure PP _ _ (.o _ _ (zs (rtL (rtB st gl l) s.L.length))) at co
 generalize rtB st gl l = rt at *
 have h2 : G6 (D6 s rt) (lp fb6 1) ⟨b6T s [(12, zl (rtL rt s.L.length))] [(14, .ow 2), (16, ni ((0 : Nat) : Int))], [.dead, .rw 3 1 (zs (o2L rt s.L.length 0 0)), .rw 83 20 (oF6 s rt 0)]⟩ := by
  refine Gd.loop (fun (k : Nat) => (⟨b6T s [(12, zl (rtL rt s.L.length))] [(14, .ow 2), (16, ni (k : Int))], [.dead, .rw 3 1 (zs (o2L rt s.L.length k 0)), .rw 83 20 (oF6 s rt k)]⟩ : St)) (fun k => k ≤ s.L.length) (fun k => s.L.length - k) ?_ 0 (Nat.zero_le _)
  intro k hk ih
  by_cases g : k < s.L.length
  · exact b6_out h hrt g (ih (k + 1) g (by omega))
  · have e : k = s.L.length := by omega
    rw [e, o2_end hrt]
    have hx : decide ((s.L.length : Int) < (s.L.length : Int)) = false := decide_eq_false (by omega)
    have hb : oF6 s rt s.L.length = boR (bodF s rt) := by unfold oF6 boR bodF; rw [List.map_map]; rfl
    rw [hb]
    exact fi [.eqv 41 (ni ((piR s.L).length : Int)) (ni (s.L.length : Int)) (by rw [hpl]), na hx] (by kernel_rfl) (by kernel_rfl)
 refine pf (by kernel_rfl) (.to mo_ [.ow 14 (.rw 83 20 []), .fz 12] [0, 1, 12, 13, 14, 15] [1, 2] 3 [.eqv 22 (ni ((piR s.L).length : Int)) (ni (s.L.length : Int)) (by rw [hpl]), cl co, .eqv 28 (ni ((piR s.L).length : Int)) (ni (s.L.length : Int)) (by rw [hpl]), .mk s.L.length (by omega)] (td' := lp fb6 0) (σ' := ⟨b6T s [(12, zl (rtL rt s.L.length))] [(14, .ow 2), (15, ni ((0 : Nat) : Int))], [.dead, .rw 3 1 (List.replicate s.L.length [ni 0]), .rw 83 20 (oF6 s rt 0)]⟩) ?_ (by kernel_rfl))
 rw [o1_0]
 refine Gd.loop (fun (k : Nat) => (⟨b6T s [(12, zl (rtL rt s.L.length))] [(14, .ow 2), (15, ni (k : Int))], [.dead, .rw 3 1 (zs (o1L s.L.length k)), .rw 83 20 (oF6 s rt 0)]⟩ : St)) (fun k => k ≤ s.L.length) (fun k => s.L.length - k) ?_ 0 (Nat.zero_le _)
 intro k hk ih
 by_cases g : k < s.L.length
 · have nx := ih (k + 1) g (by omega)
   have w0 : (zs (o1L s.L.length k))[k]? = some [ni 0] := by
    have := zs_fun_at (n := s.L.length) (k := k) (f := fun i => if i < k then -1 else 0) g
    rw [if_neg (by omega)] at this
    exact this
   have w1 : (zs (o1L s.L.length k)).set k [ni (-1)] = zs (o1L s.L.length (k + 1)) := zs_fun g (by rw [if_pos (by omega)]) fun i hi => by
    have : i < k + 1 ↔ i < k := by omega
    simp only [this]
   exact .to mo_ [] [0, 1, 12, 13, 14, 15] [1, 2] 3 [.eqv 32 (ni ((piR s.L).length : Int)) (ni (s.L.length : Int)) (by rw [hpl]), ye (t := decide ((k : Int) < (s.L.length : Int))) (decide_eq_true (by omega)), .sel _ _ _ w0, .upd _ _ _ _ _ w0 w1, inc 35 k (by omega)] nx (by kernel_rfl)
 · have e : k = s.L.length := by omega
   rw [e, o1_n _ hrt]
   have hx : decide ((s.L.length : Int) < (s.L.length : Int)) = false := decide_eq_false (by omega)
   exact .to mo_ [] [0, 1, 12, 13, 14, 16] [1, 2] 3 [.eqv 32 (ni ((piR s.L).length : Int)) (ni (s.L.length : Int)) (by rw [hpl]), na hx] h2 (by kernel_rfl)
end
end Go.Proofs.YtbaggkbleehegaaGreat.E.Ct
