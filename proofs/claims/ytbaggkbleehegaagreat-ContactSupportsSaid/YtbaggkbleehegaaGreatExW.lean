/-
 CONTACT: the law ContactSupports, by the engine: the whole.
-/
import Derived.Test.YtbaggkbleehegaaGreatLawO
namespace Go.Proofs.YtbaggkbleehegaaGreat.E.Ct
open Go.RowKit
set_option linter.unusedVariables false
set_option linter.unusedSimpArgs false
def inK (S : List (Vc × Vc)) (x : Rat) (m : Nat) : Bool := (S.take m).any fun y => le0 y.1.1 x && le0 x y.2.1
section
variable {L : List Vc} {c PR QR : Vc} {r : Rat} {e : Int} {i k m : Nat} {l x : List Int} {S : List (Vc × Vc)}
theorem inK_succ {y : Vc × Vc} (h : S[m]? = some y) (a : Rat) : inK S a (m + 1) = (inK S a m || (le0 y.1.1 a && le0 a y.2.1)) := by
 unfold inK
 rw [List.take_add_one, h, List.any_append]
 simp
theorem su_0 (hS : ∀ y ∈ S, SegOk ⟨L, PR, QR, marQ e⟩ y ∧ Bv 100 y.1 ∧ Bv 100 y.2) (hn2 : S.length ≤ 1000) (hb : ∀ a ∈ L, Bv 8 a) (hn : 0 < L.length ∧ L.length ≤ 100) (bP : Bv 100 PR) (bQ : Bv 100 QR) (he : W.Is64 e) (next : GSu (rg fsu 20) (su1 L PR QR e [])) : GSu (lp fsu 0) (su1 L PR QR e [(11, .sl (sgR S)), (12, ni ((0 : Nat) : Int))]) := by
 have hl := sgR_len S
 refine Gd.loop (fun (i : Nat) => su1 L PR QR e [(11, .sl (sgR S)), (12, ni (i : Int))]) (fun i => i ≤ S.length) (fun i => S.length - i) ?_ 0 (Nat.zero_le _)
 intro i hi ih
 by_cases h : i < S.length
 · have nx := ih (i + 1) h (by omega)
   obtain ⟨y, hy, hm⟩ := get_of h
   obtain ⟨so, b1, b2⟩ := hS y hm
   have h2 : GSu (lp fsu 1) (su1 L PR QR e [(11, .sl (sgR S)), (12, ni (i : Int)), (13, ni 2)]) := .to mo_ [] [2, 7, 8, 11, 12] [0] 1 [nf, inc 53 i (by omega)] nx (by kernel_rfl)
   have h1 := su_j1 hy so hb hn bP bQ b1 b2 he h2
   have h0 := su_j0 hy so hb hn bP bQ b1 b2 he h1
   exact .to mo_ [] [2, 7, 8, 11, 12, 13] [0] 1 [.eqv 50 (ni ((sgR S).length : Int)) (ni (S.length : Int)) (by rw [hl]), ye (t := decide ((i : Int) < (S.length : Int))) (decide_eq_true (by omega))] h0 (by kernel_rfl)
 · have e2 : i = S.length := by omega
   have hx : decide ((i : Int) < (S.length : Int)) = false := decide_eq_false (by omega)
   exact .to mo_ [] [2, 7, 8] [0] 1 [.eqv 50 (ni ((sgR S).length : Int)) (ni (S.length : Int)) (by rw [hl]), na hx] next (by kernel_rfl)
noncomputable def su3 (L : List Vc) (PR QR : Vc) (S : List (Vc × Vc)) (k : Nat) : St := at_ fsu [(7, dL L), (8, .lp 0 0), (16, .lp 1 0), (18, .sl (sgR S)), (19, ni (k : Int))] [.bx 48 (dV PR ++ dV QR), .bx 43 (dV (Pg.box L).1)]
noncomputable def su4 (L : List Vc) (PR QR : Vc) (S : List (Vc × Vc)) (k : Nat) (c : Vc) (b : Bool) (m : Nat) : St := at_ fsu [(7, dL L), (8, .lp 0 0), (16, .lp 1 0), (18, .sl (sgR S)), (19, ni (k : Int)), (20, .lp 2 0), (21, bo b), (22, ni (m : Int))] [.bx 48 (dV PR ++ dV QR), .bx 43 (dV (Pg.box L).1), .bx 43 (dV c)]
/-- A corner is in a segment. -/
theorem su_3 (hc : Bv 8 c) (hS : ∀ y ∈ S, Bv 100 y.1 ∧ Bv 100 y.2) (hn : S.length ≤ 1000) (hk : k < 1000) (hin : inK S c.1 S.length = true) (next : GSu (lp fsu 2) (su3 L PR QR S (k + 1))) : GSu (lp fsu 3) (su4 L PR QR S k c false 0) := by
 have hl := sgR_len S
 have go : ∀ b m, m ≤ S.length → inK S c.1 m = b → GSu (lp fsu 3) (su4 L PR QR S k c b m) := fun b m hm hb => by
  refine Gd.loop (fun (q : Bool × Nat) => su4 L PR QR S k c q.1 q.2) (fun q => q.2 ≤ S.length ∧ inK S c.1 q.2 = q.1) (fun q => S.length - q.2) ?_ (b, m) ⟨hm, hb⟩
  rintro ⟨b, m⟩ ⟨hm, hb⟩ ih
  simp only at hm hb ih ⊢
  by_cases h : m < S.length
  · obtain ⟨y, hy, hmem⟩ := get_of h
    obtain ⟨b1, b2⟩ := hS y hmem
    have sa : (sgR S)[m]? = some (sgV y) := by unfold sgR; rw [List.getElem?_map, hy]; rfl
    have hs := inK_succ hy c.1
    rw [hb] at hs
    have c1 := e_rcmp b1.1 hc.1 (by omega)
    have c2 := e_rcmp hc.1 b2.1 (by omega)
    let F : List F_ := [.eqv 167 (ni ((sgR S).length : Int)) (ni (S.length : Int)) (by rw [hl]), ye (t := decide ((m : Int) < (S.length : Int))) (decide_eq_true (by omega))]
    have nx := fun b' hb' => ih (b', m + 1) ⟨h, hb'⟩ (by simp only; omega)
    obtain ⟨⟨y1, y2⟩, ⟨y3, y4⟩⟩ := y
    cases b with
    | true =>
     exact .to mo_ [] [7, 8, 16, 18, 19, 20, 21, 22] [0, 1, 2] 3 (F ++ [yt, inc 170 m (by omega)]) (nx true (by rw [hs]; rfl)) (by kernel_rfl)
    | false =>
     cases q1 : le0 y1 c.1 with
     | false =>
      exact .to mo_ [] [7, 8, 16, 18, 19, 20, 21, 22] [0, 1, 2] 3 (F ++ [nf, .sel _ _ _ sa, cl c1, na (t := le0 y1 c.1) q1, inc 170 m (by omega)]) (nx false (by rw [hs, q1]; rfl)) (by kernel_rfl)
     | true =>
      cases q2 : le0 c.1 y3 with
      | false => exact .to mo_ [] [7, 8, 16, 18, 19, 20, 21, 22] [0, 1, 2] 3 (F ++ [nf, .sel _ _ _ sa, cl c1, ye (t := le0 y1 c.1) q1, .sel _ _ _ sa, cl c2, .eqv 193 (bo (le0 c.1 y3)) (bo false) (by rw [q2]), inc 170 m (by omega)]) (nx false (by rw [hs, q1, q2]; rfl)) (by kernel_rfl)
      | true => exact .to mo_ [] [7, 8, 16, 18, 19, 20, 21, 22] [0, 1, 2] 3 (F ++ [nf, .sel _ _ _ sa, cl c1, ye (t := le0 y1 c.1) q1, .sel _ _ _ sa, cl c2, .eqv 193 (bo (le0 c.1 y3)) (bo true) (by rw [q2]), inc 170 m (by omega)]) (nx true (by rw [hs, q1, q2]; rfl)) (by kernel_rfl)
  · have e2 : m = S.length := by omega
    have hx : decide ((m : Int) < (S.length : Int)) = false := decide_eq_false (by omega)
    rw [e2, hin] at hb
    subst hb
    exact .to mo_ [] [7, 8, 16, 18, 19] [0, 1] 2 [.eqv 167 (ni ((sgR S).length : Int)) (ni (S.length : Int)) (by rw [hl]), na hx, nf, inc 135 k (by omega)] next (by kernel_rfl)
 exact go false 0 (Nat.zero_le _) rfl
/-- The corners are gone through. -/
theorem su_2 (hb : ∀ a ∈ L, Bv 8 a) (hn : 0 < L.length ∧ L.length ≤ 100) (bP : Bv 100 PR) (bQ : Bv 100 QR) : GSu (rg fsu 20) (su1 L PR QR e []) := by
 have so : (⟨L, PR, QR, 0⟩ : Su).Ok 100 := ⟨fun a ha => (hb a ha).mono (by omega), bP, bQ, Bq.zero (by omega), ⟨hn.1, by show L.length ≤ _; omega⟩, by omega⟩
 have c1 := (e_on so).ro
 have hsb := so.segs_bits
 have hsl : (⟨L, PR, QR, 0⟩ : Su).segs.length ≤ 1000 := by
  have := (⟨L, PR, QR, 0⟩ : Su).p2_len L.length
  show ((⟨L, PR, QR, 0⟩ : Su).p2 L.length).length ≤ 1000
  have h9 : (⟨L, PR, QR, 0⟩ : Su).L.length = L.length := rfl
  omega
 have hat := fun i (h1 : ∀ k, k < L.length → PR.2 ≤ (L.getD k (0, 0)).2) (hi : i < L.length) h2 h3 h4 => segs_at (u := ⟨L, PR, QR, 0⟩) (i := i) rfl h1 hi h2 h3 h4
 change Pure PP _ [dL L, .ag (dV PR ++ dV QR), .ag (dR 0)] _ at c1
 rw [dR_0] at c1
 have cb := e_box hb hn.2 (by omega)
 have blo : Bv 8 (Pg.box L).1 := by
  unfold Pg.box
  rw [if_neg (by omega)]
  exact lo_bits (fun i hi => getD_bv hb i hi) hn.1 _ (Nat.le_refl _)
 have hlo : ∀ k, k < L.length → (Pg.box L).1.2 ≤ (L.getD k (0, 0)).2 := fun k hk => (box_in _ (by rw [List.getD_eq_getElem?_getD, List.getElem?_eq_getElem hk]; exact List.getElem_mem _)).2.2.1
 generalize (⟨L, PR, QR, 0⟩ : Su).segs = S at *
 have hlen : (L.map dV).length = L.length := List.length_map ..
 refine .to mo_ [] [7, 8, 16, 18, 19] [0, 1] 2 [cl cb, cl c1] (td' := lp fsu 2) (σ' := su3 L PR QR S 0) ?_ (by kernel_rfl)
 refine Gd.loop (fun (k : Nat) => su3 L PR QR S k) (fun k => k ≤ L.length) (fun k => L.length - k) ?_ 0 (Nat.zero_le _)
 intro k hk ih
 let E0 : F_ := .eqv 123 (ni ((L.map dV).length : Int)) (ni (L.length : Int)) (by rw [hlen])
 have k1 := e_rcmp blo.2 bP.2 (by omega)
 by_cases h : k < L.length
 · have nx := ih (k + 1) h (by omega)
   by_cases g : PR.2 ≤ (Pg.box L).1.2
   · have g1 : decide (cmpQ (Pg.box L).1.2 PR.2 ≥ 0) = true := decide_eq_true (by unfold cmpQ; rw [if_neg (by grind)]; split <;> omega)
     have e1 : (L.map dV)[k]? = some (dV (L.getD k (0, 0))) := E.el h
     have bc : Bv 8 (L.getD k (0, 0)) := getD_bv hb k h
     have hat := hat k (fun k hk => Rat.le_trans g (hlo k hk)) h
     change (L.getD k (0, 0)).2 = PR.2 → PR.1 ≤ (L.getD k (0, 0)).1 → (L.getD k (0, 0)).1 ≤ QR.1 → ∃ y ∈ S, y.1.1 ≤ (L.getD k (0, 0)).1 ∧ (L.getD k (0, 0)).1 ≤ y.2.1 at hat
     generalize L.getD k (0, 0) = c at *
     have w3 := fun hin => su_3 (L := L) (PR := PR) (QR := QR) (k := k) bc hsb hsl (by omega) hin nx
     have s1 := e_psame c.2 PR.2
     have r2 := e_rcmp bc.1 bP.1 (by omega)
     have r3 := e_rcmp bc.1 bQ.1 (by omega)
     let F : List F_ := [E0, ye (t := decide ((k : Int) < (L.length : Int))) (decide_eq_true (by omega)), cl k1, ye g1, .sel _ _ _ e1, cl s1]
     unfold su3 at nx ⊢
     unfold su4 at w3
     generalize (Pg.box L).1 = lo at *
     cases q0 : decide (c.2 = PR.2) with
     | false => exact .to mo_ [] [7, 8, 16, 18, 19] [0, 1] 2 (F ++ [.eqv 145 (bo (decide (c.2 = PR.2))) (bo false) (by rw [q0]), yt, yt, yt, inc 135 k (by omega)]) nx (by kernel_rfl)
     | true =>
      cases q1 : decide (cmpQ c.1 PR.1 < 0) with
      | true => exact .to mo_ [] [7, 8, 16, 18, 19] [0, 1] 2 (F ++ [.eqv 145 (bo (decide (c.2 = PR.2))) (bo true) (by rw [q0]), nf, cl r2, ye q1, yt, inc 135 k (by omega)]) nx (by kernel_rfl)
      | false =>
       cases q2 : decide (cmpQ c.1 QR.1 > 0) with
       | true => exact .to mo_ [] [7, 8, 16, 18, 19] [0, 1] 2 (F ++ [.eqv 145 (bo (decide (c.2 = PR.2))) (bo true) (by rw [q0]), nf, cl r2, na q1, cl r3, ye q2, inc 135 k (by omega)]) nx (by kernel_rfl)
       | false =>
        have t1 : PR.1 ≤ c.1 := by
         have : ¬ lt0 c.1 PR.1 = true := by unfold lt0; rw [q1]; simp
         rw [lt0_iff] at this
         grind
        have t2 : c.1 ≤ QR.1 := by
         have : ¬ gt0 c.1 QR.1 = true := by unfold gt0; rw [q2]; simp
         rw [gt0_iff] at this
         grind
        obtain ⟨y, hy, y1, y2⟩ := hat (of_decide_eq_true q0) t1 t2
        have w3 := w3 (by
         unfold inK
         rw [List.take_length, List.any_eq_true]
         exact ⟨y, hy, by rw [Bool.and_eq_true, le0_iff, le0_iff]; exact ⟨y1, y2⟩⟩)
        exact .to mo_ [] [7, 8, 16, 18, 19, 20, 21, 22] [0, 1, 2] 3 (F ++ [.eqv 145 (bo (decide (c.2 = PR.2))) (bo true) (by rw [q0]), nf, cl r2, na q1, cl r3, na q2]) w3 (by kernel_rfl)
   · have g1 : decide (cmpQ (Pg.box L).1.2 PR.2 ≥ 0) = false := decide_eq_false (by unfold cmpQ; rw [if_pos (by grind)]; omega)
     unfold su3
     generalize (Pg.box L).1 = lo at *
     exact fi [E0, ye (t := decide ((k : Int) < (L.length : Int))) (decide_eq_true (by omega)), cl k1, na g1, cl e_lives] (by kernel_rfl) (by kernel_rfl)
 · have hx : decide ((k : Int) < (L.length : Int)) = false := decide_eq_false (by omega)
   exact fi [E0, na hx, nf, cl e_lives] (by kernel_rfl) (by kernel_rfl)
theorem su_7 (hb : ∀ a ∈ L, Bv 8 a) (hn : 0 < L.length ∧ L.length ≤ 100) (bP : Bv 100 PR) (bQ : Bv 100 QR) (hPQ : PR.1 ≤ QR.1) (he : W.Is64 e) : GSu (rg fsu 7) (su1 L PR QR e []) := by
 have so : (⟨L, PR, QR, marQ e⟩ : Su).Ok 100 := ⟨fun a ha => (hb a ha).mono (by omega), bP, bQ, mar_bits e, ⟨hn.1, by show L.length ≤ _; omega⟩, by omega⟩
 have c1 := (e_on so).ro
 have hsb := so.segs_bits
 have hsl : (⟨L, PR, QR, marQ e⟩ : Su).segs.length ≤ 1000 := by
  have := (⟨L, PR, QR, marQ e⟩ : Su).p2_len L.length
  show ((⟨L, PR, QR, marQ e⟩ : Su).p2 L.length).length ≤ 1000
  have h9 : (⟨L, PR, QR, marQ e⟩ : Su).L.length = L.length := rfl
  omega
 have h0 := su_0 (S := (⟨L, PR, QR, marQ e⟩ : Su).segs) (fun y hy => ⟨segs_ok hPQ y hy, hsb y hy⟩) hsl hb hn bP bQ he (su_2 hb hn bP bQ)
 have cm := e_margin he
 change Pure PP _ [dL L, .ag (dV PR ++ dV QR), .ag (dR (marQ e))] _ at c1
 generalize (⟨L, PR, QR, marQ e⟩ : Su).segs = S at *
 exact .to mo_ [] [2, 7, 8, 11, 12] [0] 1 [cl cm, cl c1] h0 (by kernel_rfl)
theorem l_supports (hl : ∀ a ∈ l, W.Is64 a) (hx : ∀ a ∈ x, W.Is64 a) (he : W.Is64 e) : Pure PP 8 [zl l, zl x, ni e] (bo true) := by
 have cs := (e_star hl).ro
 obtain ⟨s1, s2, s3⟩ := star_ok l
 generalize star l = L at *
 have q0 := e_prop hx 0 (by omega)
 have pb := prP_bits x 0
 have hPQ : (prP x 0).1 ≤ (prQ_ x 0).1 := by
  show Rat.divInt (prX x 0) 1 ≤ Rat.divInt (prX x 0 + atz x 1 8) 1
  have := atz_in x 1 8
  rw [Rat.divInt_eq_div, Rat.divInt_eq_div]
  have h1 : ((prX x 0 : Int) : Rat) ≤ ((prX x 0 + atz x 1 8 : Int) : Rat) := by exact_mod_cast (by omega : prX x 0 ≤ prX x 0 + atz x 1 8)
  rw [show ((1 : Int) : Rat) = 1 from rfl]
  grind
 have cb := e_box s1 (by omega) (by omega)
 have blo : Bv 8 (Pg.box L).1 := by
  unfold Pg.box
  rw [if_neg (by omega)]
  exact lo_bits (fun i hi => getD_bv s1 i hi) s2 _ (Nat.le_refl _)
 refine pf (by kernel_rfl) ?_
 cases hq : (Int.tmod e 2 == 0) with
 | false =>
  have n7 := su_7 (L := L) (PR := prP x 0) (QR := prQ_ x 0) s1 ⟨s2, by omega⟩ (pb.1.mono (by omega)) (pb.2.mono (by omega)) hPQ he
  exact .to mo_ [] [2, 7, 8] [0] 1 [cl cs, cl q0, na hq] n7 (by kernel_rfl)
 | true =>
  have n7 := su_7 (L := L) (PR := ((prP x 0).1, (Pg.box L).1.2)) (QR := ((prQ_ x 0).1, (Pg.box L).1.2)) s1 ⟨s2, by omega⟩ ⟨pb.1.1.mono (by omega), blo.2.mono (by omega)⟩ ⟨pb.2.1.mono (by omega), blo.2.mono (by omega)⟩ hPQ he
  exact .to mo_ [] [2, 7, 8] [0] 1 [cl cs, cl q0, ye hq, cl cb] n7 (by kernel_rfl)
end
end Go.Proofs.YtbaggkbleehegaaGreat.E.Ct
