/-
 PIECE: the reference's cells: corners that remain, ears.
-/
import Derived.Test.YtlgnagnmoleeiaaGreatEoV
namespace Go.Proofs.YtlgnagnmoleeiaaGreat.E.Pc
open Go.RowKit
set_option linter.unusedVariables false
set_option linter.unusedSimpArgs false
/-- What remains, as a value. -/
def rsV (R : List Nat) : V := .ag [zl (cI R)]
section
variable {L : List Vc} {R : List Nat} {b p q m n i j : Nat} {k : Int} {u v w x : Vc}
theorem e_near7 (h : Rm L R b) (hq : (p : Int) + k + (R.length : Int) = (q : Int)) (hp : p ≤ 1000000) (hk : -10 ≤ k ∧ k ≤ 10) : Pure PP 202 [rsV R, ni (p : Int), ni k] (ni ((cyc R q : Nat) : Int)) := by
 obtain ⟨m, hm⟩ : ∃ m, R.length = m + 1 := ⟨R.length - 1, by have := h.n; omega⟩
 have hn := h.n
 have e := cI_at (R := R) (p := q % R.length) (Nat.mod_lt _ h.n.1)
 exact tr [.eqv 10 (ni ((zs (cI R)).length : Int)) (ni ((m + 1 : Nat) : Int)) (by rw [cI_len, hm]), wq 15 ((p : Int) + k) ((p : Int) + k) (by omega), wq 17 ((p : Int) + k + ((m + 1 : Nat) : Int)) (q : Int) (by rw [← hm]; omega), .eqv 19 (ni ((q : Int).tmod ((m + 1 : Nat) : Int))) (ni ((q % R.length : Nat) : Int)) (by rw [tmod_, hm]), .sel _ _ _ e] (by kernel_rfl)
theorem e_pv7 (h : Rm L R b) (hp : p < R.length) : Pure PP 202 [rsV R, ni (p : Int), ni (-1)] (ni ((pv R p : Nat) : Int)) := by
 have hn := h.n
 exact e_near7 h (k := -1) (q := p + R.length - 1) (by omega) (by omega) (by omega)
theorem e_nx7 (h : Rm L R b) (hp : p < R.length) : Pure PP 202 [rsV R, ni (p : Int), ni 1] (ni ((nx R p : Nat) : Int)) := by
 have hn := h.n
 exact e_near7 h (k := 1) (q := p + 1 + R.length) (by omega) (by omega) (by omega)
theorem e_sd7 (h : Rm L R b) (hp : p < R.length) : Pure PP 220 [dL L, rsV R, ni (p : Int)] (ni (sdR L R p)) := by
 have hpv := h.cyc (p + R.length - 1)
 have hnx := h.cyc (p + 1 + R.length)
 have hmd := h.md hp
 exact tr [cl (e_pv7 h hp), .sel _ _ _ (ld_at hpv), .sel _ _ _ (cI_at hp), .sel _ _ _ (ld_at hmd), cl (e_nx7 h hp), .sel _ _ _ (ld_at hnx), cl (e_side5 (h.bv hpv) (h.bv hmd) (h.bv hnx) h.hb)] (by kernel_rfl)
def inB (u v w x : Vc) : Bool := !(decide (vside u v x < 0) || (decide (vside v w x < 0) || decide (vside w u x < 0)))
theorem ge_lt (z : Int) : decide (z ≥ 0) = !decide (z < 0) := by
 by_cases h : z < 0
 · rw [decide_eq_true h, decide_eq_false (by omega)]; rfl
 · rw [decide_eq_false h, decide_eq_true (by omega)]; rfl
theorem e_in7 (bu : Bv b u) (bv : Bv b v) (bw : Bv b w) (bx : Bv b x) (hb : 100 * b + 1000 ≤ 800000000000) : Pure PP 221 [.ag (dV u), .ag (dV v), .ag (dV w), .ag (dV x)] (bo (inB u v w x)) := by
 have c1 := e_side5 bu bv bx hb
 have c2 := e_side5 bv bw bx hb
 have c3 := e_side5 bw bu bx hb
 unfold inB
 have g1 := ge_lt (vside u v x)
 have g2 := ge_lt (vside v w x)
 have g3 := ge_lt (vside w u x)
 generalize Go.Proofs.YtlgnagnmoleeiaaGreat.vside u v x = s1 at *
 generalize Go.Proofs.YtlgnagnmoleeiaaGreat.vside v w x = s2 at *
 generalize Go.Proofs.YtlgnagnmoleeiaaGreat.vside w u x = s3 at *
 cases h1 : decide (s1 < 0) with
 | true => exact tr [cl c1, na (t := decide (s1 ≥ 0)) (by rw [g1, h1]; rfl), nf] (by kernel_rfl)
 | false =>
  cases h2 : decide (s2 < 0) with
  | true => exact tr [cl c1, ye (t := decide (s1 ≥ 0)) (by rw [g1, h1]; rfl), cl c2, na (t := decide (s2 ≥ 0)) (by rw [g2, h2]; rfl)] (by kernel_rfl)
  | false =>
   exact tr [cl c1, ye (t := decide (s1 ≥ 0)) (by rw [g1, h1]; rfl), cl c2, ye (t := decide (s2 ≥ 0)) (by rw [g2, h2]; rfl), cl c3, .eqv 26 (bo (decide (s3 ≥ 0))) (bo (!decide (s3 < 0))) (by rw [g3])] (by kernel_rfl)
theorem skip_in (p k : Nat) : skip L R p k = ((decide (k = pv R p) || (decide (k = nx R p) || decide (k = md R p))) || !inB (ld L (pv R p)) (ld L (md R p)) (ld L (nx R p)) (ld L k)) := by
 unfold skip
 congr 1
 show (outJ _ _ 0 || (outJ _ _ 1 || (outJ _ _ 2 || false))) = _
 unfold inB
 rw [Bool.or_false, Bool.not_not]
 rfl
theorem bne_nat (a b : Nat) : ((a : Int) != (b : Int)) = !decide (a = b) := by
 unfold bne
 rw [nat_eq]
noncomputable abbrev fe7 : Func := fnOf PP 201
noncomputable def e7S (L : List Vc) (R : List Nat) (p i : Nat) : St := at_ fe7 [(0, dL L), (2, ni (p : Int)), (4, .lp 0 0), (7, ni ((pv R p : Nat) : Int)), (8, ni ((md R p : Nat) : Int)), (9, ni ((nx R p : Nat) : Int)), (10, ni (i : Int))] [.bx 189 [zl (cI R)]]
theorem e_ear7 (h : Rm L R b) (hp : p < R.length) : Pure PP 201 [dL L, rsV R, ni (p : Int)] (bo (earB L R p)) := by
 have hn := h.n
 have hpv := h.cyc (p + R.length - 1)
 have hnx := h.cyc (p + 1 + R.length)
 have hmd := h.md hp
 have c1 := e_sd7 h hp
 by_cases hs : sdR L R p ≤ 0
 · have : earB L R p = false := by unfold earB; rw [decide_eq_false (by omega)]; rfl
   rw [this]
   exact tr [cl c1, ye (t := decide (sdR L R p ≤ 0)) (decide_eq_true hs)] (by kernel_rfl)
 · refine pf (by kernel_rfl) (.to mo_ [] [0, 2, 4, 7, 8, 9, 10] [0] 1 [cl c1, na (t := decide (sdR L R p ≤ 0)) (decide_eq_false hs), cl (e_pv7 h hp), .sel _ _ _ (cI_at hp), cl (e_nx7 h hp)] (td' := lp fe7 0) (σ' := e7S L R p 0) ?_ (by kernel_rfl))
   refine Gd.loop (e7S L R p) (fun i => i ≤ R.length ∧ ∀ t, t < i → skip L R p (md R t) = true) (fun i => R.length - i) ?_ 0 ⟨Nat.zero_le _, fun t ht => by omega⟩
   intro i ⟨hi, hall⟩ ih
   let E0 : F_ := .eqv 31 (ni ((zs (cI R)).length : Int)) (ni (R.length : Int)) (by rw [cI_len])
   by_cases h3 : i < R.length
   · have hx : decide ((i : Int) < (R.length : Int)) = true := decide_eq_true (by omega)
     have e1 := cI_at h3
     have hk := h.md h3
     have next : skip L R p (md R i) = true → Gd PP 201 (.v (bo (earB L R p))) (lp fe7 0) (e7S L R p (i + 1)) := fun hk => ih (i + 1) ⟨h3, fun t ht => by
      rcases Nat.lt_or_ge t i with h5 | h5
      · exact hall t h5
      · have : t = i := by omega
        subst this
        exact hk⟩ (by omega)
     have q1 := bne_nat (md R i) (pv R p)
     have q2 := bne_nat (md R i) (md R p)
     have q3 := bne_nat (md R i) (nx R p)
     have sk := skip_in (L := L) (R := R) p (md R i)
     cases g1 : decide (md R i = pv R p) with
     | true =>
      have nn := next (by rw [sk, g1]; rfl)
      rw [g1] at q1
      unfold e7S at nn ⊢
      exact .to mo_ [] [0, 2, 4, 7, 8, 9, 10] [0] 1 [E0, ye hx, .sel _ _ _ e1, na q1, nf, nf, nf, inc 34 i (by omega)] nn (by kernel_rfl)
     | false =>
      rw [g1] at q1
      cases g2 : decide (md R i = md R p) with
      | true =>
       have nn := next (by rw [sk, g1, g2]; simp)
       rw [g2] at q2
       unfold e7S at nn ⊢
       exact .to mo_ [] [0, 2, 4, 7, 8, 9, 10] [0] 1 [E0, ye hx, .sel _ _ _ e1, ye q1, na q2, nf, nf, inc 34 i (by omega)] nn (by kernel_rfl)
      | false =>
       rw [g2] at q2
       cases g3 : decide (md R i = nx R p) with
       | true =>
        have nn := next (by rw [sk, g1, g2, g3]; simp)
        rw [g3] at q3
        unfold e7S at nn ⊢
        exact .to mo_ [] [0, 2, 4, 7, 8, 9, 10] [0] 1 [E0, ye hx, .sel _ _ _ e1, ye q1, ye q2, na q3, nf, inc 34 i (by omega)] nn (by kernel_rfl)
       | false =>
        rw [g3] at q3
        rw [g1, g2, g3] at sk
        have ci := e_in7 (h.bv hpv) (h.bv hmd) (h.bv hnx) (h.bv hk) h.hb
        have eA := ld_at hpv
        have eB := ld_at hmd
        have eC := ld_at hnx
        have eK := ld_at hk
        cases hin : inB (ld L (cyc R (p + R.length - 1))) (ld L (md R p)) (ld L (cyc R (p + 1 + R.length))) (ld L (md R i)) with
        | false =>
         have nn := next (by rw [sk]; show (_ || !inB (ld L (cyc R (p + R.length - 1))) (ld L (md R p)) (ld L (cyc R (p + 1 + R.length))) (ld L (md R i))) = true; rw [hin]; rfl)
         rw [hin] at ci
         unfold e7S at nn ⊢
         exact .to mo_ [] [0, 2, 4, 7, 8, 9, 10] [0] 1 [E0, ye hx, .sel _ _ _ e1, ye q1, ye q2, ye q3, .sel _ _ _ eA, .sel _ _ _ eB, .sel _ _ _ eC, .sel _ _ _ eK, cl ci, nf, inc 34 i (by omega)] nn (by kernel_rfl)
        | true =>
         have hs : skip L R p (md R i) = false := by rw [sk]; show (_ || !inB (ld L (cyc R (p + R.length - 1))) (ld L (md R p)) (ld L (cyc R (p + 1 + R.length))) (ld L (md R i))) = false; rw [hin]; rfl
         rw [hin] at ci
         rw [ear_no h3 hs]
         unfold e7S
         exact fi [E0, ye hx, .sel _ _ _ e1, ye q1, ye q2, ye q3, .sel _ _ _ eA, .sel _ _ _ eB, .sel _ _ _ eC, .sel _ _ _ eK, cl ci, yt] (by kernel_rfl) (by kernel_rfl)
   · have : i = R.length := by omega
     subst this
     have hx : decide ((R.length : Int) < (R.length : Int)) = false := decide_eq_false (by omega)
     rw [ear_yes (by omega) hall]
     unfold e7S
     exact fi [E0, na hx] (by kernel_rfl) (by kernel_rfl)
noncomputable abbrev fw7 : Func := fnOf PP 200
theorem e_whole7 (n : Nat) (hn : n ≤ 1000) : Pure PP 200 [ni (n : Int)] (rsV (List.range n)) := by
 let X : Nat → St := fun k => at_ fw7 [(0, ni (n : Int)), (2, .lp 0 0), (3, .lp 1 0), (4, ni (k : Int))] [.bx 189 [.nl], .bx 189 [.ow 2], .rw 3 1 (zs (cI (List.range k)))]
 refine pf (by kernel_rfl) (.to mo_ [.oc 1 0 (.rw 3 1 [])] [0, 2, 3, 4] [0, 1, 2] 3 [] (td' := lp fw7 0) (σ' := X 0) ?_ (by kernel_rfl))
 refine Gd.loop X (fun k => k ≤ n) (fun k => n - k) ?_ 0 (Nat.zero_le _)
 intro k hk ih
 by_cases g : k < n
 · have hx : decide ((k : Int) < (n : Int)) = true := decide_eq_true (by omega)
   have nn := ih (k + 1) (by omega) (by omega)
   have hap := cI_app k
   have hlen := cI_len (List.range (k + 1))
   rw [List.length_range] at hlen
   simp only [X] at nn ⊢
   generalize zs (cI (List.range k)) = A at *
   generalize zs (cI (List.range (k + 1))) = B at *
   exact .to mo_ [.mv 2 4] [0, 2, 3, 4] [0, 1, 2] 3 [ye hx, .app A (zs [(k : Int)]) B 1000 hap (show 0 < 1 by decide) (by omega), inc 9 k (by omega)] nn (by kernel_rfl)
 · have : k = n := by omega
   subst this
   have hx : decide ((k : Int) < (k : Int)) = false := decide_eq_false (by omega)
   exact fi [na hx] (by kernel_rfl) (by kernel_rfl)
end
end Go.Proofs.YtlgnagnmoleeiaaGreat.E.Pc
