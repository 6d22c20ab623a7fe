/-
 PIECE: the law PieceBytes, by the engine.
-/
import Derived.Test.YtlgnagnmoleeiaaGreatEpM
namespace Go.Proofs.YtlgnagnmoleeiaaGreat.E.Pc
open Go.RowKit
set_option linter.unusedVariables false
set_option linter.unusedSimpArgs false
noncomputable abbrev fPB : Func := fnOf PP 4
noncomputable abbrev GPB (td : List Item) (σ : St) : Prop := Gd PP 4 (.v (bo true)) td σ
noncomputable def pbS (how by_ : Int) (p : Ct.Pi) (E : List UInt8) (i : Nat) : St := at_ fPB [(1, ni how), (2, ni by_), (9, .ip p.v), (10, .sl (byL E)), (14, ni (i : Int))] []
section
variable {l : List Int} {how by_ z : Int} {after E : List UInt8} {p x : Ct.Pi} {q : Pr} {i : Nat}
/-- The beginning. -/
theorem pb_0 (cp : Pure PP 9 [zl l] (.ag p.v)) (en : Pure PP 15 [.ag p.v] (.o 5 1 (byL E))) (e12 : Pure PP 17 [.ag p.v] (.o 5 1 (byL E))) (h0 : 0 < E.length ∧ E.length ≤ 1000) (dec : Pure PP 18 [.sl (byL (E ++ after.take 40))] (.tu [.ag p.v, ni (E.length : Int), ni 0])) (s12 : Pure PP 20 [.ag p.v, .ag p.v] (bo true)) (next : GPB (lp fPB 0) (pbS how by_ p E 0)) : Pure PP 4 [zl l, ni how, ni by_, .sl (byL after)] (bo true) := by
 have sm := Go.Proofs.YtlgnagnmoleeiaaGreat.E.e_same1 E E (by omega)
 rw [decide_eq_true rfl] at sm
 have few := e_few1 after 40 (by omega)
 have hl := byL_len E
 have e48 : ni ((byL E).length : Int) = ni (E.length : Int) := by rw [hl]
 have hne : ((E.length : Int) != (E.length : Int)) = false := by simp
 have a := byL_app E (after.take 40)
 have h3 : (byL (E ++ after.take 40)).length ≤ 100000 := by rw [byL_len, List.length_append, List.length_take]; omega
 unfold pbS at next
 by_cases h : after.take 40 = []
 · rw [h] at few dec
   rw [List.append_nil] at dec
   have fe : Pure PP 19 [.sl (byL after), ni 40] (.v (.sl [])) := few.ro
   exact pf (by kernel_rfl) (.to mo_ [.fz 9, .fz 10] [1, 2, 9, 10, 14] [] 0 [cl cp, cl en, cl e12, cl sm, nf, .app [] (byL E) (byL E) 100000 rfl (by omega) (by omega), cl fe, .ape [] rfl, cl dec, nf, .eqv 48 _ _ e48, na hne, cl s12, nf] next (by kernel_rfl))
 · have h2 : 0 < (byL (after.take 40)).length := by rw [byL_len]; exact List.length_pos_iff.2 h
   exact pf (by kernel_rfl) (.to mo_ [.fz 9, .fz 10] [1, 2, 9, 10, 14] [] 0 [cl cp, cl en, cl e12, cl sm, nf, .app [] (byL E) (byL E) 100000 rfl (by omega) (by omega), cl few, .app _ _ _ 100000 a h2 h3, cl dec, nf, .eqv 48 _ _ e48, na hne, cl s12, nf] next (by kernel_rfl))
/-- No proper beginning is read. -/
theorem pb_1 (hE : E.length ≤ 1000) (dec : ∀ i, i < E.length → Pure PP 18 [.sl (byL (E.take i))] (.tu [.ag zP.v, ni 0, ni 2])) (next : GPB (lp fPB 0) (pbS how by_ p E E.length)) : GPB (lp fPB 0) (pbS how by_ p E 0) := by
 have hl := byL_len E
 have e59 : ni ((byL E).length : Int) = ni (E.length : Int) := by rw [hl]
 refine Gd.loop (pbS how by_ p E) (fun i => i ≤ E.length) (fun i => E.length - i) ?_ 0 (Nat.zero_le _)
 intro i hi ih
 by_cases g : i < E.length
 · have hx : decide ((i : Int) < (E.length : Int)) = true := decide_eq_true (by omega)
   have hs : ((byL E).take i).drop 0 = byL (E.take i) := by rw [List.drop_zero, byL_take]
   have nx := ih (i + 1) g (by omega)
   have d := dec i g
   unfold pbS at nx ⊢
   exact .to mo_ [] [1, 2, 9, 10, 14] [] 0 [.eqv 59 _ _ e59, ye hx, .slc (byL E) 0 i 1 (byL (E.take i)) hs (by omega) (byL_z _), cl d, nf, nf, inc 62 i (by omega)] nx (by kernel_rfl)
 · have e : i = E.length := by omega
   subst e
   exact next
/-- The end, where a number is none. -/
theorem pb_2 (cq : Pure PP 10 [.ag p.v, ni how, ni by_] (.ag q.v)) (num : Pure PP 21 [.ag q.v] (bo false)) : GPB (lp fPB 0) (pbS how by_ p E E.length) := by
 have hl := byL_len E
 have e59 : ni ((byL E).length : Int) = ni (E.length : Int) := by rw [hl]
 have hx : decide ((E.length : Int) < (E.length : Int)) = false := decide_eq_false (by omega)
 unfold pbS
 exact fi [.eqv 59 _ _ e59, na hx, cl cq, cl num, yt, cl e_lives] (by kernel_rfl) (by kernel_rfl)
/-- The end, otherwise. -/
theorem pb_3 {F : List UInt8} {rP : Ct.Pi} {k f : Int} (cq : Pure PP 10 [.ag p.v, ni how, ni by_] (.ag x.v)) (num : Pure PP 21 [.ag x.v] (bo true)) (en : Pure PP 15 [.ag x.v] (.o 5 1 (byL F))) (e12 : Pure PP 17 [.ag x.v] (.o 5 1 (byL F))) (hF : F.length ≤ 4000) (dec : Pure PP 18 [.sl (byL F)] (.tu [.ag rP.v, ni k, ni f])) (cv : Pure PP 13 [.ag x.v] (ni z)) (hz : (f = 0 ∧ z = 0 ∧ k = (F.length : Int)) ∨ (f = 2 ∧ z ≠ 0)) : GPB (lp fPB 0) (pbS how by_ p E E.length) := by
 have hl := byL_len E
 have e59 : ni ((byL E).length : Int) = ni (E.length : Int) := by rw [hl]
 have hx : decide ((E.length : Int) < (E.length : Int)) = false := decide_eq_false (by omega)
 have sm := Go.Proofs.YtlgnagnmoleeiaaGreat.E.e_same1 F F (by omega)
 rw [decide_eq_true rfl] at sm
 have hlF := byL_len F
 have e111 : ni ((byL F).length : Int) = ni (F.length : Int) := by rw [hlF]
 unfold pbS
 rcases hz with ⟨rfl, rfl, rfl⟩ | ⟨rfl, hz⟩
 · have hh : (((F.length : Int)) == ((F.length : Int))) = true := by simp
   exact fi [.eqv 59 _ _ e59, na hx, cl cq, cl num, nf, cl en, cl dec, cl e12, cl sm, yt, cl cv, yt, nf, .eqv 111 _ _ e111, ye hh, cl e_lives] (by kernel_rfl) (by kernel_rfl)
 · have e102 : bo (z == 0) = bo false := by rw [show (z == 0) = false by simpa using hz]
   exact fi [.eqv 59 _ _ e59, na hx, cl cq, cl num, nf, cl en, cl dec, cl e12, cl sm, yt, cl cv, .eqv 102 _ _ e102, yt, yt, yt, cl e_lives] (by kernel_rfl) (by kernel_rfl)
theorem dcO_at {B : List UInt8} {p : Ct.Pi} {n : Nat} {e : Int} (h : dcV B = (p, n, e)) : dcO B = .tu [.ag p.v, ni (n : Int), ni e] := by unfold dcO; rw [h]
theorem l_pbytes (hl : ∀ x ∈ l, W.Is64 x) (hw : W.Is64 how) (hy : W.Is64 by_) : Pure PP 4 [zl l, ni how, ni by_, .sl (byL after)] (bo true) := by
 have cp := Ct.e_piece12 hl
 obtain ⟨ok, le, _⟩ := p12_pr l
 have hlen := p12_len l
 obtain ⟨en, g1, g2⟩ := en_p12 l
 have hz := vz_p12 l
 generalize Ct.p12 l = pc at *
 have hv := vt_en en
 have n1 := en.nr
 have n2 := en.nw
 have n3 := en.nm
 have d1 := e_pdecA (encP pc ++ after.take 40) (by rw [List.length_append, List.length_take]; omega)
 rw [dcO_at (dc_enc hv hz)] at d1
 refine pb_0 cp (e_penc en) (e_penc12 en) ⟨by omega, by omega⟩ d1 (e_same12 pc (by omega) (by omega) (by omega)) (pb_1 (by omega) (fun i hi => ?_) ?_)
 · have d := e_pdecA ((encP pc).take i) (by rw [List.length_take]; omega)
   rw [dcO_at (dc_short hv hz hi)] at d
   exact d
 obtain ⟨q, okq, leq, cq⟩ := e_spoiltP ok le (by omega) hw hy
 obtain ⟨b, num, hb⟩ := e_numbers12 okq
 cases b with
 | false => exact pb_2 cq num
 | true =>
  obtain ⟨⟨r1, e1⟩, ⟨r2, e2⟩, ⟨r3, e3⟩, ⟨r4, e4⟩, ⟨r5, e5⟩⟩ := hb rfl
  obtain ⟨id, home, rim, worn, marks, a, b, c, d, e⟩ := q
  simp only at e1 e2 e3 e4 e5
  subst e1; subst e2; subst e3; subst e4; subst e5
  obtain ⟨x, hx⟩ : ∃ x : Ct.Pi, x = ⟨id, home, rim, worn, marks, r1, r2, r3, r4, r5⟩ := ⟨_, rfl⟩
  have okx : (prOf x).Ok := by subst hx; exact okq
  have lex : (prOf x).Le 6 := by subst hx; exact leq
  have cqx : Pure PP 10 [.ag pc.v, ni how, ni by_] (.ag x.v) := by subst hx; exact cq
  have numx : Pure PP 21 [.ag x.v] (bo true) := by subst hx; exact num
  obtain ⟨enx, k1⟩ := en_pr okx lex
  have hvx := vt_en enx
  obtain ⟨pk, hm⟩ := pk_enc hvx (by omega)
  have cv := (vz_ok pk hm).2
  have d2 := e_pdecA (encP x) (by omega)
  by_cases h0 : vz x = 0
  · have h := dc_enc (t := []) hvx h0
    rw [List.append_nil] at h
    rw [dcO_at h] at d2
    exact pb_3 cqx numx (e_penc enx) (e_penc12 enx) (by omega) d2 cv (.inl ⟨rfl, h0, rfl⟩)
  · rw [dcO_at (dc_bad hvx h0)] at d2
    exact pb_3 cqx numx (e_penc enx) (e_penc12 enx) (by omega) d2 cv (.inr ⟨rfl, h0⟩)
end
end Go.Proofs.YtlgnagnmoleeiaaGreat.E.Pc
