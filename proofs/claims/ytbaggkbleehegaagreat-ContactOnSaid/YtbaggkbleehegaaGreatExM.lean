/-
 CONTACT: the law ContactOn, by the engine.
-/
import Derived.Test.YtbaggkbleehegaaGreatEpA
namespace Go.Proofs.YtbaggkbleehegaaGreat.E.Ct
open Go.RowKit
set_option linter.unusedVariables false
set_option linter.unusedSimpArgs false
def llR (L : List (List Vc)) : List (List V) := L.map fun a => [dL a]
section
variable {l x : List Int} {e : Int} {k i j : Nat}
theorem mar_bits (n : Int) : Bq 100 (marQ n) := by
 have h := rnd_in n 4
 exact (bq8 (by omega) (by omega)).mono (by omega)
theorem star_ok (l : List Int) : (∀ a ∈ star l, Bv 8 a) ∧ 0 < (star l).length ∧ (star l).length ≤ 8 := by
 unfold star
 have hb := star_bits l 8
 have hn := star_len l 8
 generalize starF l 8 = S at *
 split
 · rename_i h
   refine ⟨hb, ?_, hn⟩
   unfold Pg.valid6 at h
   simp only [Bool.and_eq_true, decide_eq_true_eq] at h
   omega
 · refine ⟨fun a ha => ?_, show 0 < 4 by omega, show 4 ≤ 8 by omega⟩
   unfold box2 at ha
   simp only [List.mem_cons, List.not_mem_nil, or_false] at ha
   rcases ha with rfl | rfl | rfl | rfl <;> exact ⟨bq8 (by omega) (by omega), bq8 (by omega) (by omega)⟩
noncomputable def lsts (l : List Int) (s : Sc) : List (List Vc) := [star l, plRim (s.pi 0) (s.pl 0), plRim (s.pi 1) (s.pl 1)]
theorem lsts_at {s : Sc} {F : List Ft} (h : ScOk s F) (hi : i < 3) : ∃ L : List Vc, (llR (lsts l s))[i]? = some [dL L] ∧ (∀ a ∈ L, Bv 2010 a) ∧ 0 < L.length ∧ L.length ≤ 100 := by
 have h1 := h.ok.g 0 (by have := h.n; omega)
 have h2 := h.ok.g 1 (by have := h.n; omega)
 obtain ⟨s1, s2, s3⟩ := star_ok l
 have go : ∀ {p : Pi} {pl : Pl}, p.Good pl 100 → (∀ a ∈ plRim p pl, Bv 2010 a) ∧ 0 < (plRim p pl).length ∧ (plRim p pl).length ≤ 100 := fun {p pl} g => ⟨g.bits, by rw [plRim_len]; exact g.ok.n.1, by rw [plRim_len]; exact g.n⟩
 match i, hi with
 | 0, _ => exact ⟨_, rfl, fun a ha => (s1 a ha).mono (by omega), s2, by omega⟩
 | 1, _ => exact ⟨_, rfl, go h1⟩
 | 2, _ => exact ⟨_, rfl, go h2⟩
noncomputable abbrev flo : Func := fnOf PP 3
def prO (l x : List Int) : List (Vc × Vc) := [(prP l 0, prQ_ l 0), (prP x 3, prQ_ x 3), (flP, flQ)]
theorem prO_at (h : k < 3) : ∃ p : Vc × Vc, (pqR (prO l x))[k]? = some (dV p.1 ++ dV p.2) ∧ Bv 100 p.1 ∧ Bv 100 p.2 := by
 have h0 := prP_bits l 0
 have h3 := prP_bits x 3
 match k, h with
 | 0, _ => exact ⟨(prP l 0, prQ_ l 0), rfl, h0.1.mono (by omega), h0.2.mono (by omega)⟩
 | 1, _ => exact ⟨(prP x 3, prQ_ x 3), rfl, h3.1.mono (by omega), h3.2.mono (by omega)⟩
 | 2, _ => exact ⟨(flP, flQ), rfl, fl_bits.1, fl_bits.2⟩
noncomputable def loS (LR PR : List (List V)) (e : Int) (m : List (Nat × V)) : St := at_ flo ([(2, ni e), (8, .sl LR), (9, .lp 2 0), (10, .sl PR)] ++ m) [.dead, .dead, .bx 48 (dV flP ++ dV flQ)]
abbrev GO (td : List Item) (σ : St) : Prop := Gd PP 3 (.v (bo true)) td σ
theorem lo_k {LR PR : List (List V)} {S : List (Vc × Vc)} (hj : j < 1000) (hS : S.length ≤ 1000) (next : GO (lp flo 1) (loS LR PR e [(11, ni (i : Int)), (12, ni ((j + 1 : Nat) : Int))])) : GO (lp flo 2) (loS LR PR e [(11, ni (i : Int)), (12, ni (j : Int)), (13, .sl (sgR S)), (14, .sl (sgR S)), (15, ni ((0 : Nat) : Int))]) := by
 have hl := sgR_len S
 refine Gd.loop (fun (k : Nat) => loS LR PR e [(11, ni (i : Int)), (12, ni (j : Int)), (13, .sl (sgR S)), (14, .sl (sgR S)), (15, ni (k : Int))]) (fun k => k ≤ S.length) (fun k => S.length - k) ?_ 0 (Nat.zero_le _)
 intro k hk ih
 by_cases h : k < S.length
 · have nx := ih (k + 1) h (by omega)
   obtain ⟨a, ha, _⟩ := get_of h
   have sa : (sgR S)[k]? = some (sgV a) := by unfold sgR; rw [List.getElem?_map, ha]; rfl
   exact .to mo_ [] [2, 8, 9, 10, 11, 12, 13, 14, 15] [2] 3 [ye (t := decide ((k : Int) < ((sgR S).length : Int))) (decide_eq_true (by omega)), .sel _ _ _ sa, .sel _ _ _ sa, cl (vsame a.1), nf, .sel _ _ _ sa, .sel _ _ _ sa, cl (vsame a.2), nf, inc 90 k (by omega)] nx (by kernel_rfl)
 · have e2 : k = S.length := by omega
   have hx : decide ((k : Int) < ((sgR S).length : Int)) = false := decide_eq_false (by omega)
   exact .to mo_ [] [2, 8, 9, 10, 11, 12] [2] 3 [na hx, inc 57 j (by omega)] next (by kernel_rfl)
theorem l_on (hl : ∀ a ∈ l, W.Is64 a) (hx : ∀ a ∈ x, W.Is64 a) (he : W.Is64 e) : Pure PP 3 [zl l, zl x, ni e] (bo true) := by
 obtain ⟨s, F, ok, cm⟩ := e_madeE hx
 have cs := (e_star hl).ro
 have g0 := ok.ok.g 0 (by have := ok.n; omega)
 have g1 := ok.ok.g 1 (by have := ok.n; omega)
 have p0 := (e_placed g0).ro
 have p1 := (e_placed g1).ro
 have i0 := pi_at (s := s) (k := 0) (by have := ok.n; omega)
 have i1 := pi_at (s := s) (k := 1) (by have := ok.n; omega)
 have j0 := pl_at (s := s) (k := 0) (by have := ok.n; have := ok.a; omega)
 have j1 := pl_at (s := s) (k := 1) (by have := ok.n; have := ok.a; omega)
 have q0 := e_prop hl 0 (by omega)
 have q3 := e_prop hx 3 (by omega)
 have cg := e_margin he
 have f1 := e_vof (x := -1048576) (y := 0) ⟨by decide, by decide⟩ ⟨by decide, by decide⟩
 have f2 := e_vof (x := 1048576) (y := 0) ⟨by decide, by decide⟩ ⟨by decide, by decide⟩
 have f3 := vsame flP
 have f4 := vsame flQ
 have hLR : ∀ i, i < 3 → ∃ L : List Vc, (llR (lsts l s))[i]? = some [dL L] ∧ (∀ a ∈ L, Bv 2010 a) ∧ 0 < L.length ∧ L.length ≤ 100 := fun i hi => lsts_at ok hi
 have hPR : ∀ k, k < 3 → ∃ p : Vc × Vc, (pqR (prO l x))[k]? = some (dV p.1 ++ dV p.2) ∧ Bv 100 p.1 ∧ Bv 100 p.2 := fun k hk => prO_at hk
 have nLR : (llR (lsts l s)).length = 3 := rfl
 have nPR : (pqR (prO l x)).length = 3 := rfl
 have h0 : GO (lp flo 0) (loS (llR (lsts l s)) (pqR (prO l x)) e [(11, ni ((0 : Nat) : Int))]) := by
  generalize llR (lsts l s) = LR at *
  generalize pqR (prO l x) = PR at *
  refine Gd.loop (fun (i : Nat) => loS LR PR e [(11, ni (i : Int))]) (fun i => i ≤ 3) (fun i => 3 - i) ?_ 0 (Nat.zero_le _)
  intro i hi ih
  let E1 : F_ := .eqv 48 (ni (LR.length : Int)) (ni 3) (by rw [nLR]; rfl)
  by_cases h : i < 3
  · have nx := ih (i + 1) h (by omega)
    obtain ⟨L, e1, b1, b2, b3⟩ := hLR i h
    have h2 : GO (lp flo 1) (loS LR PR e [(11, ni (i : Int)), (12, ni ((0 : Nat) : Int))]) := by
     refine Gd.loop (fun (j : Nat) => loS LR PR e [(11, ni (i : Int)), (12, ni (j : Int))]) (fun j => j ≤ 3) (fun j => 3 - j) ?_ 0 (Nat.zero_le _)
     intro j hj ih
     let E2 : F_ := .eqv 54 (ni (PR.length : Int)) (ni 3) (by rw [nPR]; rfl)
     by_cases g : j < 3
     · have nx := ih (j + 1) g (by omega)
       obtain ⟨p, e2, d1, d2⟩ := hPR j g
       have so : (⟨L, p.1, p.2, marQ e⟩ : Su).Ok 2010 := ⟨b1, d1.mono (by omega), d2.mono (by omega), (mar_bits e).mono (by omega), ⟨b2, by show L.length ≤ _; omega⟩, by omega⟩
       have c1 := (e_on so).ro
       have c2 := (e_on6 so).ro
       have hl2 : (⟨L, p.1, p.2, marQ e⟩ : Su).segs.length ≤ 1000 := by
        have := (⟨L, p.1, p.2, marQ e⟩ : Su).p2_len L.length
        show ((⟨L, p.1, p.2, marQ e⟩ : Su).p2 L.length).length ≤ 1000
        have h9 : (⟨L, p.1, p.2, marQ e⟩ : Su).L.length = L.length := rfl
        omega
       have nx := lo_k (LR := LR) (PR := PR) (e := e) (i := i) (show j < 1000 by omega) hl2 nx
       have hsl := sgR_len (⟨L, p.1, p.2, marQ e⟩ : Su).segs
       change Pure PP _ [dL L, .ag (dV p.1 ++ dV p.2), .ag (dR (marQ e))] _ at c1 c2
       generalize (⟨L, p.1, p.2, marQ e⟩ : Su).segs = S at *
       exact .to mo_ [] [2, 8, 9, 10, 11, 12, 13, 14, 15] [2] 3 [E2, ye (t := decide ((j : Int) < 3)) (decide_eq_true (by omega)), .sel _ _ _ e1, .sel _ _ _ e2, cl cg, cl c1, .sel _ _ _ e1, .sel _ _ _ e2, cl cg, cl c2, na (t := ((sgR S).length : Int) != ((sgR S).length : Int)) (by simp)] nx (by kernel_rfl)
     · have e2 : j = 3 := by omega
       subst e2
       exact .to mo_ [] [2, 8, 9, 10, 11] [2] 3 [E2, nf, inc 51 i (by omega)] nx (by kernel_rfl)
    exact .to mo_ [] [2, 8, 9, 10, 11, 12] [2] 3 [E1, ye (t := decide ((i : Int) < 3)) (decide_eq_true (by omega))] h2 (by kernel_rfl)
  · have e2 : i = 3 := by omega
    subst e2
    exact fi [E1, nf, cl f1, cl f3, yt, cl f2, cl f4, yt, cl e_lives] (by kernel_rfl) (by kernel_rfl)
 exact pf (by kernel_rfl) (.to mo_ [.fz 8, .fz 10] [2, 8, 9, 10, 11] [2] 3 [cl cm, cl cs, .sel _ _ _ i0, .sel _ _ _ j0, cl p0, .sel _ _ _ i1, .sel _ _ _ j1, cl p1, cl e_floor, cl q0, cl q3] h0 (by kernel_rfl))
end
end Go.Proofs.YtbaggkbleehegaaGreat.E.Ct
