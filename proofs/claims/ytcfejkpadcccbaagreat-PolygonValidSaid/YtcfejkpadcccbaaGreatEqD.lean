/-
 THE LAW PolygonValid, by the engine.
-/
import Derived.Test.YtcfejkpadcccbaaGreatEpA
namespace Go.Proofs.YtcfejkpadcccbaaGreat.E
open Go.RowKit
set_option linter.unusedVariables false
abbrev shN : List Sh := [.bb, .row [.ii .i64], .bb, .row [.ii .i64]]
abbrev shV : List Sh := shN ++ shN
theorem FitL.num {xs : List V} (h : FitL shN xs) : ∃ n : RN, xs = cN n := by
 obtain ⟨a, r, rfl, ha, h⟩ := h.inv
 obtain ⟨b, r, rfl, hb, h⟩ := h.inv
 obtain ⟨c, r, rfl, hc, h⟩ := h.inv
 obtain ⟨d, r, rfl, hd, h⟩ := h.inv
 obtain rfl : r = [] := List.length_eq_zero_iff.1 h.1
 obtain ⟨s, rfl⟩ := ha.bool
 obtain ⟨l, rfl, _⟩ := hb.ints
 obtain ⟨t, rfl⟩ := hc.bool
 obtain ⟨m, rfl, _⟩ := hd.ints
 exact ⟨⟨s, l, t, m⟩, rfl⟩
theorem FitL.split {e f : List Sh} {xs : List V} (h : FitL (e ++ f) xs) : ∃ ys zs, xs = ys ++ zs ∧ FitL e ys ∧ FitL f zs := by
 have hl := h.1
 rw [List.length_append] at hl
 refine ⟨xs.take e.length, xs.drop e.length, (List.take_append_drop ..).symm, ⟨by rw [List.length_take]; omega, fun j sh x h1 h2 => ?_⟩, ⟨by rw [List.length_drop]; omega, fun j sh x h1 h2 => ?_⟩⟩
 · have hj := (List.getElem?_eq_some_iff.1 h1).1
   rw [List.getElem?_take, if_pos hj] at h2
   exact h.2 j sh x (by rw [List.getElem?_append_left hj]; exact h1) h2
 · rw [List.getElem?_drop] at h2
   exact h.2 (e.length + j) sh x (by rw [List.getElem?_append_right (by omega), Nat.add_sub_cancel_left]; exact h1) h2
theorem FitL.vec {xs : List V} (h : FitL shV xs) : ∃ v : RV, xs = cV2 v := by
 obtain ⟨ys, zs, rfl, h1, h2⟩ := h.split
 obtain ⟨a, rfl⟩ := h1.num
 obtain ⟨b, rfl⟩ := h2.num
 exact ⟨(a, b), rfl⟩
theorem Fit.rows {e : List Sh} {x : V} {α : Type} {c : α → List V} (h : Fit (.row e) x) (hc : ∀ xs, FitL e xs → ∃ a, xs = c a) : ∃ L : List α, x = .sl (L.map c) := by
 cases h with
 | row e l h0 h1 h2 =>
  clear h0
  suffices h : ∃ L : List α, l = L.map c by
   obtain ⟨L, rfl⟩ := h
   exact ⟨L, rfl⟩
  induction l with
  | nil => exact ⟨[], rfl⟩
  | cons a r ih =>
   obtain ⟨L, rfl⟩ := ih (fun cs h => h1 cs (List.mem_cons_of_mem _ h)) (fun cs h => h2 cs (List.mem_cons_of_mem _ h))
   obtain ⟨y, rfl⟩ := hc a ⟨h1 a (List.mem_cons_self ..), h2 a (List.mem_cons_self ..)⟩
   exact ⟨y :: L, rfl⟩
theorem Fit.vecs {x : V} (h : Fit (.row shV) x) : ∃ C : List RV, x = rL C := h.rows fun _ h => h.vec
section
variable {l : List Int} {how by_ : Int} {Ls : List (List RV)} {i : Nat} {C : List RV}
/-- Rows of rows of vectors. -/
def rLL (Ls : List (List RV)) : List (List V) := Ls.map fun K => [rL K]
theorem rLL_el {K : List RV} (h : Ls[i]? = some K) : (rLL Ls)[i]? = some [rL K] := by unfold rLL; rw [List.getElem?_map, h]; rfl
def irr_ (i : Nat) (Ls : List (List RV)) : Bool := decide ((i : Int) < ((rLL Ls).length : Int))
theorem irr_t (h : i < Ls.length) : irr_ i Ls = true := decide_eq_true (by unfold rLL; rw [List.length_map]; omega)
theorem irr_f (h : ¬ i < Ls.length) : irr_ i Ls = false := decide_eq_false (by unfold rLL; rw [List.length_map]; omega)
def okK (K : List RV) : Prop := (∀ v ∈ K, Bw 1000 v) ∧ K.length ≤ 100
noncomputable abbrev fpv : Func := fnOf PP 3
theorem valid_loop {p : List (Rat × Rat)} (hv : Pure PP 14 [dL p] (bo true)) (hb : ∀ K ∈ Ls, okK K) (hn : Ls.length ≤ 100) : Gd PP 3 (bo true) (lp fpv 0) (at_ fpv [(9, dL p), (11, .sl (rLL Ls)), (12, ni 0)] []) := by
 let X : Nat → St := fun i => at_ fpv [(9, dL p), (11, .sl (rLL Ls)), (12, ni i)] []
 refine Gd.loop X (fun i => i ≤ Ls.length) (fun i => Ls.length - i) ?_ 0 (Nat.zero_le _)
 intro i hi ih
 by_cases h : i < Ls.length
 · have he : Ls[i]? = some Ls[i] := List.getElem?_eq_getElem h
   obtain ⟨hK, hl⟩ := hb _ (List.getElem_mem h)
   generalize Ls[i] = K at he hK hl
   obtain ⟨b, c, v1, v2, c1, c2⟩ := e_valid_any hK hl (by omega) (by omega)
   exact .to mo_ [] [9, 11, 12] [] 0 [ye (t := irr_ i Ls) (irr_t h), .sel _ _ _ (rLL_el he), cl v1, .sel _ _ _ (rLL_el he), cl v2, na (t := b != b) (by simp), .sel _ _ _ (rLL_el he), cl c1, .sel _ _ _ (rLL_el he), cl c2, na (t := c != c) (by simp), inc 39 i (by omega)] (ih (i + 1) h (by omega)) (by kernel_rfl)
 · exact fi [na (t := irr_ i Ls) (irr_f h), cl hv, yt, cl e_lives] (by kernel_rfl) (by kernel_rfl)
theorem l_valid (hl : ∀ x ∈ l, W.Is64 x) (hw : W.Is64 how) (hy : W.Is64 by_) : Pure PP 3 [zl l, ni how, ni by_, rL C] (bo true) := by
 have hb := (polL_ok l).2
 have hv := (polL_ok l).1
 have hn := polL_len l
 have hpoly := e_polygon hl
 generalize polL l = p at hb hv hn hpoly
 have hvp := e_valid hb (by omega) (by omega)
 rw [hv] at hvp
 have g0 : gC 15 (p.map oV) := fun v hv => by
  obtain ⟨a, ha, rfl⟩ := List.mem_map.1 hv
  exact ⟨a, gV_of (hb a ha)⟩
 obtain ⟨Q, gQ, q1, q2, hq⟩ := e_spoiltG (how := how) (by_ := by_) g0 (by omega) (by rw [List.length_map]; omega) (by rw [List.length_map]; omega) hw hy
 rw [List.length_map] at q1 q2
 rw [rL_oV] at hq
 obtain ⟨R, gR, r1, r2, hr⟩ := e_spoiltG (how := by_) (by_ := how) gQ (by omega) (by omega) (by omega) hy hw
 obtain ⟨b, hfew, cfew⟩ := e_few (C := C)
 have ok_of : ∀ {k : Nat} {K : List RV}, gC k K → 1 ≤ k → k ≤ 1000 → K.length ≤ 100 → okK K := fun {k K} g h1 hk hl => ⟨fun v hv => by
  obtain ⟨a, ha⟩ := g v hv
  exact (ha.mono hk).bw (by omega), hl⟩
 have g2 : gC 15 ((p.take 2).map oV) := fun v hv => by
  obtain ⟨a, ha, rfl⟩ := List.mem_map.1 hv
  exact ⟨a, gV_of (hb a (List.mem_of_mem_take ha))⟩
 have e2 : ((p.map dV).take 2).drop 0 = (p.take 2).map dV := by rw [List.drop_zero, List.map_take]
 have hlp : (p.map dV).length = p.length := List.length_map ..
 let Ls : List (List RV) := [p.map oV, Q, R, [], (p.take 2).map oV]
 have hLs : ∀ K ∈ Ls, okK K := by
  intro K hK
  simp only [Ls, List.mem_cons, List.not_mem_nil, or_false] at hK
  rcases hK with rfl | rfl | rfl | rfl | rfl
  · exact ok_of g0 (by omega) (by omega) (by rw [List.length_map]; omega)
  · exact ok_of gQ (by omega) (by omega) (by omega)
  · exact ok_of gR (by omega) (by omega) (by omega)
  · exact ⟨fun v hv => (by cases hv), by simp⟩
  · exact ok_of g2 (by omega) (by omega) (by rw [List.length_map, List.length_take]; omega)
 have hL5 : rLL Ls = [[dL p], [rL Q], [rL R], [.sl []], [dL (p.take 2)]] := by
  show [[rL (p.map oV)], [rL Q], [rL R], [rL []], [rL ((p.take 2).map oV)]] = _
  rw [rL_oV, rL_oV]; rfl
 let A : List F_ := [cl hpoly, cl hq, cl hr, .slc (p.map dV) 0 2 8 _ e2 (by omega) (fun cs h => (dV_ok p cs h).1), cl cfew]
 cases b with
 | false =>
  have loop := valid_loop hvp hLs (show 5 ≤ 100 by decide)
  rw [hL5] at loop
  exact pf (by kernel_rfl) (.to mo_ [.fz 11] [9, 11, 12] [] 0 (A ++ [nf]) (td' := lp fpv 0) loop (by kernel_rfl))
 | true =>
  obtain ⟨f1, f2⟩ := hfew rfl
  have loop := valid_loop (Ls := Ls ++ [C]) hvp (fun K hK => by
   rcases List.mem_append.1 hK with h | h
   · exact hLs K h
   · rw [List.mem_singleton.1 h]
     refine ⟨fun v hv => ?_, by omega⟩
     have := few_bits (f2 v hv)
     exact ⟨⟨fun c => (this.1.1 c).mono (by omega), fun c => (this.1.2 c).mono (by omega)⟩, ⟨fun c => (this.2.1 c).mono (by omega), fun c => (this.2.2 c).mono (by omega)⟩⟩) (show 6 ≤ 100 by decide)
  have hL6 : rLL (Ls ++ [C]) = [[dL p], [rL Q], [rL R], [.sl []], [dL (p.take 2)], [rL C]] := by
   show [[rL (p.map oV)], [rL Q], [rL R], [rL []], [rL ((p.take 2).map oV)], [rL C]] = _
   rw [rL_oV, rL_oV]; rfl
  rw [hL6] at loop
  exact pf (by kernel_rfl) (.to mo_ [.fz 11] [9, 11, 12] [] 0 (A ++ [yt, .app [[dL p], [rL Q], [rL R], [.sl []], [dL (p.take 2)]] [[rL C]] [[dL p], [rL Q], [rL R], [.sl []], [dL (p.take 2)], [rL C]] 10 rfl (by simp) (show 6 ≤ 10 by decide)]) (td' := lp fpv 0) loop (by kernel_rfl))
end
end Go.Proofs.YtcfejkpadcccbaaGreat.E
