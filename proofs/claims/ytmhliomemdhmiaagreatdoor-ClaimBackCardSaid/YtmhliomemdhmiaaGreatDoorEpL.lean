/-
 THE LISTED VARIABLE of package claim: what the rows' condition gives.
-/
import Derived.Test.YtmhliomemdhmiaaGreatDoorEpM
import Derived.Test.YtmhliomemdhmiaaGreatDoorRows
import Derived.OpenShut
import Derived.LaidMore
import Derived.MakeChecks
import Derived.ChangeArms
namespace Go.Proofs.YtmhliomemdhmiaaGreatDoor.E.Ca
open Go.RowKit
set_option linter.unusedVariables false
set_option linter.unusedSimpArgs false
section
variable {more B : List UInt8} {how n : Int} {T O : List CM} {i j a : Nat} {l : List Int} {q r : CQ}
noncomputable abbrev fbk : Func := fnOf PP 7
abbrev GB (td : List Item) (σ : St) : Prop := Gd PP 7 (bo true) td σ
noncomputable def K1 (more : List UInt8) (how n : Int) (T : List CM) (i : Nat) : St := at_ fbk [(1, .sl (byL more)), (2, ni how), (3, ni n), (9, .sl (T.map dC)), (10, ni i)] []
noncomputable def K2 (more : List UInt8) (how n : Int) (T : List CM) (i : Nat) (B : List UInt8) (a : Nat) : St := at_ fbk [(1, .sl (byL more)), (2, ni how), (3, ni n), (9, .sl (T.map dC)), (10, ni i), (11, .sl (byL B)), (15, ni a)] []
noncomputable def K3 (more : List UInt8) (how n : Int) (T : List CM) (i : Nat) (B : List UInt8) (O : List CM) (j : Nat) : St := at_ fbk [(1, .sl (byL more)), (2, ni how), (3, ni n), (9, .sl (T.map dC)), (10, ni i), (11, .sl (byL B)), (19, .sl (O.map dC)), (20, ni j)] []
theorem same0 : Pure PP 22 [.ag zrC, .ag zrC] (bo true) := by
 have h := e_csame default default
 rw [zrC_eq] at h
 rwa [decide_eq_true (eqP_iff.2 rfl)] at h
theorem b_back (h : Sq q) : Pure PP 27 [.sl (byL (encC q ++ more.take 60))] (.tu [.ag (dQ q), ni ((encC q).length : Int), ni 0]) := by
 have hl := h.len
 have := e_cdec (encC q ++ more.take 60) (by rw [List.length_append, List.length_take]; omega)
 rwa [codecC.back q h.vc] at this
theorem b_short (h : Sq q) (ha : a < (encC q).length) : Pure PP 27 [.sl (byL ((encC q).take a))] (.tu [.ag zrC, ni 0, ni 3]) := by
 have hl := h.len
 have := e_cdec ((encC q).take a) (by rw [List.length_take]; omega)
 rw [decC_bad (codecC.short q h.vc a ha) (by decide), tuC_0] at this
 exact this
theorem str_eq (R B : List UInt8) : ((⟨R.toArray⟩ : ByteArray).toList == (⟨B.toArray⟩ : ByteArray).toList) = decide (R = B) := by
 rw [ByteArray.toList_eq, ByteArray.toList_eq]
 rw [Bool.eq_iff_iff]
 simp
theorem tm_at {L : List CM} {c : CM} (hi : i < L.length) (h : L.getD i c0 = c) : (L.map dC)[i]? = some (dC c) := by rw [← h]; exact elC hi
theorem b_in (hi : i < T.length) (hT : T.length ≤ 20) (hq : Gq (T.getD i c0) q) (hB : B = encC q) (hO : ∀ c ∈ O, ∃ r, Gq c r) (hOl : O.length ≤ 30) (next : GB (lp fbk 0) (K1 more how n T (i + 1))) : GB (lp fbk 2) (K3 more how n T i B O 0) := by
 have ei := tm_at hi hq.e
 refine Gd.loop (K3 more how n T i B O) (fun j => j ≤ O.length) (fun j => O.length - j) ?_ 0 (Nat.zero_le _)
 intro j hj ih
 by_cases h : j < O.length
 · have nx := ih (j + 1) h (by omega)
   obtain ⟨r, hr⟩ := hO (O.getD j c0) (by rw [List.getD_eq_getElem?_getD, List.getElem?_eq_getElem h]; exact List.getElem_mem _)
   have ej := tm_at h hr.e
   have sr := e_csame q r
   have cer := Pure.ro (e_cenc hr.s)
   have hx : (decide (eqP q r)) = decide (encC r = B) := by rw [hB]; exact decide_eq_decide.2 (same_code hq.s hr.s)
   generalize encC r = R at cer hx
   generalize decide (eqP q r) = x at sr hx
   exact .to mo_ [] [1, 2, 3, 9, 10, 11, 19, 20] [] 0 [ye (t := ltS O j) (ltS_t h), .sel _ _ _ ei, .sel _ _ _ ej, cl sr, .sel _ _ _ ej, cl cer, .str (byL R) R rfl, .str (byL B) B rfl, .eqv 126 (bo ((⟨R.toArray⟩ : ByteArray).toList == (⟨B.toArray⟩ : ByteArray).toList)) (bo x) (by rw [str_eq, hx]), .eqv 127 (bo (x != x)) (bo false) (by simp), nf, inc 108 j (by omega)] nx (by kernel_rfl)
 · exact .to mo_ [] [1, 2, 3, 9, 10] [] 0 [na (t := ltS O j) (ltS_f h), inc 31 i (by omega)] next (by kernel_rfl)
theorem b_at (hi : i < T.length) (hT : T.length ≤ 20) (hT2 : ∀ c ∈ T, ∃ q, Gq c q ∧ q.refs.length ≤ 10) (hg : ∀ c ∈ T, G64 c ∧ FB c) (hw : W.Is64 how) (hn : W.Is64 n) (hq : Gq (T.getD i c0) q) (hr : q.refs.length ≤ 10) (hB : B = encC q) (next : GB (lp fbk 0) (K1 more how n T (i + 1))) : GB (lp fbk 1) (K2 more how n T i B 0) := by
 have ei := tm_at hi hq.e
 have hBl := hq.s.len
 rw [← hB] at hBl
 refine Gd.loop (K2 more how n T i B) (fun a => a ≤ B.length) (fun a => B.length - a) ?_ 0 (Nat.zero_le _)
 intro a ha ih
 by_cases h : a < B.length
 · have nx := ih (a + 1) h (by omega)
   have cs := b_short (a := a) hq.s (by rw [← hB]; exact h)
   rw [← hB] at cs
   exact .to mo_ [] [1, 2, 3, 9, 10, 11, 15] [] 0 [ye (t := decide ((a : Int) < ((byL B).length : Int))) (decide_eq_true (by rw [byL_len]; omega)), .slc (byL B) 0 a 1 (byL (B.take a)) (by rw [List.drop_zero, byL_take]) (by rw [byL_len]; omega) (byL_z _), cl cs, nf, nf, cl same0, nf, inc 70 a (by omega)] nx (by kernel_rfl)
 · have hm : T.getD i c0 ∈ T := by rw [List.getD_eq_getElem?_getD, List.getElem?_eq_getElem hi]; exact List.getElem_mem _
   obtain ⟨g1, g2⟩ := hg _ hm
   obtain ⟨r, hrc⟩ := odd_q (q := q) (rnd how 11) n
   have co := e_odd (c := q.cm) (by show q.refs.length ≤ 100; omega) hw hn
   rw [hq.e] at g1 g2
   have hol := odd_len (c := q.cm) (n := n) (rnd how 11)
   have hgr : Gq r.cm r := gq_of (by rw [← hrc]; exact odd_64 g1 hn _) (by rw [← hrc]; exact g2.odd _ hn) rfl (by
    rw [hrc] at hol
    have h1 : r.refs.length ≤ q.refs.length + 1 := hol
    omega)
   rw [hrc] at co
   have hO : ∀ c ∈ r.cm :: T.take i, ∃ r, Gq c r := fun c hc => by
    rcases List.mem_cons.1 hc with rfl | hc
    · exact ⟨r, hgr⟩
    · obtain ⟨q, h1, _⟩ := hT2 c (List.mem_of_mem_take hc)
      exact ⟨q, h1⟩
   have fin := b_in (more := more) (how := how) (n := n) hi hT hq hB hO (by rw [List.length_cons, List.length_take]; omega) next
   have hs : ((T.map dC).take i).drop 0 = (T.take i).map dC := by rw [List.drop_zero, List.map_take]
   have hz : ∀ cs ∈ T.map dC, cs.length = 35 := fun cs h => (dC_ok T cs h).1
   have hTl : (T.map dC).length = T.length := List.length_map ..
   let F0 : List F_ := [na (t := decide ((a : Int) < ((byL B).length : Int))) (decide_eq_false (by rw [byL_len]; omega)), .sel _ _ _ ei, cl co, .slc (T.map dC) 0 i 35 ((T.take i).map dC) hs (by omega) hz]
   by_cases h0 : i = 0
   · have h1 : T.take i = [] := by rw [h0]; rfl
     have h2 : (T.take i).map dC = [] := by rw [h1]; rfl
     rw [h1] at fin
     exact .to mo_ [.fz 19] [1, 2, 3, 9, 10, 11, 19, 20] [] 0 (F0 ++ [.ape ((T.take i).map dC) h2]) fin (by kernel_rfl)
   · exact .to mo_ [.fz 19] [1, 2, 3, 9, 10, 11, 19, 20] [] 0 (F0 ++ [.aps [dC r.cm] ((T.take i).map dC) ((r.cm :: T.take i).map dC) 2000 35 rfl (by rw [List.length_map, List.length_take]; omega) (by rw [List.length_map, List.length_cons, List.length_take]; omega) (dC_ok _)]) fin (by kernel_rfl)
theorem l_back (hl : ∀ x ∈ l, W.Is64 x) (hw : W.Is64 how) (hn : W.Is64 n) : Pure PP 7 [zl l, .sl (byL more), ni how, ni n] (bo true) := by
 have hS := someL_len l
 have hG := goodL_len l
 have hT2 : ∀ c ∈ someL l ++ goodL l, ∃ q, Gq c q ∧ q.refs.length ≤ 10 := fun c hc => all_gq hc
 have hg : ∀ c ∈ someL l ++ goodL l, G64 c ∧ FB c := fun c hc => by
  rcases List.mem_append.1 hc with h | h
  · exact ⟨some_64 _ c h, some_fb _ c h⟩
  · exact ⟨goodL_64 c h, good_fb _ c h⟩
 have hTl : (someL l ++ goodL l).length ≤ 20 := by rw [List.length_append]; omega
 have hcat : (someL l).map dC ++ (goodL l).map dC = (someL l ++ goodL l).map dC := by rw [List.map_append]
 have eS : (someL l).length = (goodL l).length := by unfold someL; rw [some_len]
 have start : GB (lp fbk 0) (K1 more how n (someL l ++ goodL l) 0) := by
  generalize someL l ++ goodL l = T at hT2 hg hTl
  refine Gd.loop (K1 more how n T) (fun i => i ≤ T.length) (fun i => T.length - i) ?_ 0 (Nat.zero_le _)
  intro i hi ih
  by_cases h : i < T.length
  · have hm : T.getD i c0 ∈ T := by rw [List.getD_eq_getElem?_getD, List.getElem?_eq_getElem h]; exact List.getElem_mem _
    obtain ⟨q, hq, hr⟩ := hT2 _ hm
    have ei := tm_at h hq.e
    have hlen := hq.s.len
    have ce := Pure.ro (e_cenc hq.s)
    have cd := b_back (more := more) hq.s
    have sm := eB (e_csame q q) (decide_eq_true (eqP_iff.2 rfl))
    obtain ⟨B, hB⟩ : ∃ B, B = encC q := ⟨_, rfl⟩
    have mid := b_at (more := more) h hTl hT2 hg hw hn hq hr hB (ih (i + 1) h (by omega))
    rw [← hB] at ce cd hlen
    clear hB
    have hmr : (more.take 60).length ≤ 60 := by rw [List.length_take]; omega
    have cf := Pure.ro (e_few1 more 60 (by decide))
    let F0 : List F_ := [ye (t := ltS T i) (ltS_t h), .sel _ _ _ ei, cl ce, .aps [] (byL B) (byL B) 100000 1 rfl (by rw [byL_len]; omega) (by rw [byL_len]; omega) (byL_ok _), cl cf]
    let F1 : List F_ := [nf, .eqv 53 (ni ((byL B).length : Int)) (ni (B.length : Int)) (by rw [byL_len]), .eqv 54 (bo ((B.length : Int) != (B.length : Int))) (bo false) (by simp), nf, .sel _ _ _ ei, cl sm, nf]
    by_cases hm0 : more.take 60 = []
    · rw [hm0, List.append_nil] at cd
      have hby : byL (more.take 60) = [] := by rw [hm0]; rfl
      exact .to mo_ [] [1, 2, 3, 9, 10, 11, 15] [] 0 (F0 ++ [.ape (byL (more.take 60)) hby, cl cd] ++ F1) mid (by kernel_rfl)
    · have hp := List.length_pos_iff.2 hm0
      exact .to mo_ [] [1, 2, 3, 9, 10, 11, 15] [] 0 (F0 ++ [.aps (byL B) (byL (more.take 60)) (byL (B ++ more.take 60)) 100000 1 (byL_app _ _) (by rw [byL_len]; exact hp) (by rw [byL_len, List.length_append]; omega) (byL_ok _), cl cd] ++ F1) mid (by kernel_rfl)
  · exact fi [na (t := ltS T i) (ltS_f h), cl e_lives15] (by kernel_rfl) (by kernel_rfl)
 have cs := e_some hl
 have cg := Pure.ro (e_good hl)
 by_cases h0 : (goodL l).length = 0
 · have h1 : goodL l = [] := List.eq_nil_of_length_eq_zero h0
   have h2 : someL l = [] := List.eq_nil_of_length_eq_zero (by omega)
   rw [h1, h2] at start
   rw [h2] at cs
   rw [h1] at cg
   exact pf (by kernel_rfl) (.to mo_ [.fz 9] [1, 2, 3, 9, 10] [] 0 [cl cs, cl cg, .ape [] rfl] start (by kernel_rfl))
 · generalize someL l = S at *
   generalize goodL l = G at *
   exact pf (by kernel_rfl) (.to mo_ [.fz 9] [1, 2, 3, 9, 10] [] 0 [cl cs, cl cg, .aps (S.map dC) (G.map dC) ((S ++ G).map dC) 2000 35 hcat (by rw [List.length_map]; omega) (by rw [List.length_map]; omega) (dC_ok _)] start (by kernel_rfl))
end
end Go.Proofs.YtmhliomemdhmiaaGreatDoor.E.Ca
namespace Go.Proofs.YtmhliomemdhmiaaGreatDoor.E
open Go.RowKit
set_option linter.unusedVariables false
set_option linter.unusedSimpArgs false
theorem len4 {α : Type} : ∀ {l : List α}, l.length = 4 → ∃ a b c d, l = [a, b, c, d]
 | [a, b, c, d], _ => ⟨a, b, c, d, rfl⟩
 | [], h => by simp at h
 | [_], h => by simp at h
 | [_, _], h => by simp at h
 | [_, _, _], h => by simp at h
 | _ :: _ :: _ :: _ :: _ :: _, h => by simp at h
section
variable {H : Type} {enc : TypeId × Value → H} {w : World} {base : Nat} {spare : Nat → Bool} {held : Bool} {m : Nat} {cs : List Value} {ps : List MemPlace} {lo hi : Int} {f g : Bool}
theorem gN : Tryz.prog.globalNamed "sherd/claim.needs" = some 0 := by kernel_rfl
theorem tN : (Tryz.prog.globals[0]?).map (·.type) = some 84 := by kernel_rfl
abbrev rowD (H : Type) (lo hi : Int) (f g : Bool) : DataW H := .agg [.lit (.int .i64 lo), .lit (.int .i64 hi), .lit (.bool f), .lit (.bool g)]
theorem need_f : (Tryz.prog.fieldsOf 83).size = 4 := by kernel_rfl
theorem need_u : Tryz.prog.underlying 83 = some (.struct (Tryz.prog.fieldsOf 83)) := by kernel_rfl
theorem need_c : Tryz.prog.cellsOf 83 = 4 := by kernel_rfl
theorem int_c : Tryz.prog.cellsOf 3 = 1 := by kernel_rfl
theorem bool_c : Tryz.prog.cellsOf 4 = 1 := by kernel_rfl
noncomputable def nf_ (i : Nat) : Field := (Tryz.prog.fieldsOf 83)[i]?.getD default
theorem need_at (i : Nat) (h : i < 4) : (Tryz.prog.fieldsOf 83)[i]? = some (nf_ i) := by
 unfold nf_
 rw [Array.getElem?_eq_getElem (by rw [need_f]; exact h)]; rfl
theorem nt0 : (nf_ 0).type = 3 ∧ (nf_ 0).offset = 0 := ⟨by kernel_rfl, by kernel_rfl⟩
theorem nt1 : (nf_ 1).type = 3 ∧ (nf_ 1).offset = 1 := ⟨by kernel_rfl, by kernel_rfl⟩
theorem nt2 : (nf_ 2).type = 4 ∧ (nf_ 2).offset = 2 := ⟨by kernel_rfl, by kernel_rfl⟩
theorem nt3 : (nf_ 3).type = 4 ∧ (nf_ 3).offset = 3 := ⟨by kernel_rfl, by kernel_rfl⟩
theorem need_row (h : DataW.trod enc Tryz.prog w base spare held m 83 cs = some (rowD H lo hi f g, ps)) : cs = [.int .i64 lo, .int .i64 hi, .bool f, .bool g] := by
 obtain ⟨xs, n, _, hx, hl, hlen, hf⟩ := DataW.trod_struct need_u h
 rw [need_f] at hlen
 rw [need_c] at hl
 obtain ⟨y0, y1, y2, y3, rfl⟩ := len4 hlen
 simp only [List.map_cons, List.map_nil, Prod.mk.injEq, DataW.agg.injEq, List.cons.injEq, and_true] at hx
 obtain ⟨⟨e0, e1, e2, e3⟩, _⟩ := hx
 obtain ⟨a, b, c, d, rfl⟩ := len4 hl
 have g0 := hf 0 _ (need_at 0 (by omega))
 have g1 := hf 1 _ (need_at 1 (by omega))
 have g2 := hf 2 _ (need_at 2 (by omega))
 have g3 := hf 3 _ (need_at 3 (by omega))
 rw [nt0.1, nt0.2, int_c] at g0
 rw [nt1.1, nt1.2, int_c] at g1
 rw [nt2.1, nt2.2, bool_c] at g2
 rw [nt3.1, nt3.2, bool_c] at g3
 obtain ⟨v0, c0, x0, _⟩ := DataW.trod_int (k := .i64) Tryz.underlying3 (show _ = some y0 from g0)
 obtain ⟨v1, c1, x1, _⟩ := DataW.trod_int (k := .i64) Tryz.underlying3 (show _ = some y1 from g1)
 obtain ⟨v2, c2, x2⟩ := DataW.trod_bool Tryz.underlying4 (show _ = some y2 from g2)
 obtain ⟨v3, c3, x3⟩ := DataW.trod_bool Tryz.underlying4 (show _ = some y3 from g3)
 rw [x0] at e0
 rw [x1] at e1
 rw [x2] at e2
 rw [x3] at e3
 simp at c0 c1 c2 c3 e0 e1 e2 e3
 rw [c0, c1, c2, c3, e0, e1, e2, e3]
end
def needsL : List Value := [.int .i64 0, .int .i64 0, .bool false, .bool true, .int .i64 1, .int .i64 16, .bool true, .bool false, .int .i64 2, .int .i64 16, .bool false, .bool false, .int .i64 1, .int .i64 16, .bool false, .bool false]
theorem arr_u : Tryz.prog.underlying 84 = some (.array 4 83) := by kernel_rfl
theorem arr_c : Tryz.prog.cellsOf 84 = 16 := by kernel_rfl
theorem needs_all {w : World} {m : Nat} {cs : List Value} {ps : List MemPlace} (h : DataW.trod (fun _ => ()) Tryz.prog w 0 (fun _ => true) false m 84 cs = some (Rows.laid_sherd_claim_needs, ps)) : cs = needsL := by
 obtain ⟨xs, n, _, hx, hl, hlen, hel⟩ := DataW.trod_array arr_u h
 rw [arr_c] at hl
 obtain ⟨y0, y1, y2, y3, rfl⟩ := len4 hlen
 unfold Rows.laid_sherd_claim_needs at hx
 simp only [List.map_cons, List.map_nil, Prod.mk.injEq, DataW.agg.injEq, List.cons.injEq, and_true] at hx
 obtain ⟨⟨e0, e1, e2, e3⟩, _⟩ := hx
 have g0 := hel 0 (by omega)
 have g1 := hel 1 (by omega)
 have g2 := hel 2 (by omega)
 have g3 := hel 3 (by omega)
 rw [need_c] at g0 g1 g2 g3
 obtain ⟨d0, p0⟩ := y0
 obtain ⟨d1, p1⟩ := y1
 obtain ⟨d2, p2⟩ := y2
 obtain ⟨d3, p3⟩ := y3
 simp only at e0 e1 e2 e3
 subst e0; subst e1; subst e2; subst e3
 have r0 := need_row (show _ = some (rowD Unit 0 0 false true, p0) from g0)
 have r1 := need_row (show _ = some (rowD Unit 1 16 true false, p1) from g1)
 have r2 := need_row (show _ = some (rowD Unit 2 16 false false, p2) from g2)
 have r3 := need_row (show _ = some (rowD Unit 1 16 false false, p3) from g3)
 have hc : cs = (cs.drop (0 * 4)).take 4 ++ ((cs.drop (1 * 4)).take 4 ++ ((cs.drop (2 * 4)).take 4 ++ (cs.drop (3 * 4)).take 4)) := by
  apply List.ext_getElem?
  intro i
  simp only [List.getElem?_append, List.length_append, List.length_take, List.length_drop, List.getElem?_take, List.getElem?_drop, hl]
  by_cases h1 : i < 4
  · simp [h1]
  · by_cases h2 : i < 8
    · simp [h1, show i - 4 < 4 by omega, show 4 + (i - 4) = i by omega]
    · by_cases h3 : i < 12
      · simp [h1, show ¬ i - 4 < 4 by omega, show i - 4 - 4 < 4 by omega, show 8 + (i - 4 - 4) = i by omega]
      · by_cases h4 : i < 16
        · simp [h1, show ¬ i - 4 < 4 by omega, show ¬ i - 4 - 4 < 4 by omega, show i - 4 - 4 - 4 < 4 by omega, show 12 + (i - 4 - 4 - 4) = i by omega]
        · rw [List.getElem?_eq_none (by omega)]
          simp [h1, show ¬ i - 4 < 4 by omega, show ¬ i - 4 - 4 < 4 by omega, show ¬ i - 4 - 4 - 4 < 4 by omega]
 rw [hc, r0, r1, r2, r3]
 rfl
def laid1 : List (String × DataW Unit) := [("sherd/claim.needs", Rows.laid_sherd_claim_needs)]
theorem gl_eq : gl = [(0, needsL.map V.k)] := by kernel_rfl
theorem glo_of {W : World} (h : laidMetH Tryz.prog laid1 W) : Glo W (fun _ => False) := by
 rw [MakeChecks.laidMetH_plain _ _ _ (by kernel_rfl)] at h
 obtain ⟨ps, ⟨g0, t0, cs0, f0, p0, q0, hg0, ht0, hv0, hd0, _, _⟩, _, _⟩ := h
 obtain rfl := Option.some.inj (gN.symm.trans hg0)
 obtain rfl := Option.some.inj (tN.symm.trans ht0)
 have hcs := needs_all hd0
 have hcell : ∀ (j : Nat) (v : Value), needsL[j]? = some v → W.cell? ⟨0, j, none⟩ = some v := fun j v hj => by
  rw [World.var?_cell hg0 hv0 j, ← Array.getElem?_toList, hcs]
  exact hj
 intro p hp
 rw [gl_eq] at hp
 simp only [List.mem_cons, List.not_mem_nil, or_false] at hp
 subst hp
 refine .ip _ _ 0 _ (fun j => needsL.getD j undef) (fun h => h) (cb_of (hcell 0 _ rfl)) (fun j x hj => ?_) (fun j x hj => ?_)
 · simp only [List.getElem?_map, Option.map_eq_some_iff] at hj
   obtain ⟨v, hv, rfl⟩ := hj
   rw [Nat.zero_add, hcell j v hv, List.getD_eq_getElem?_getD, hv]; rfl
 · simp only [List.getElem?_map, Option.map_eq_some_iff] at hj
   obtain ⟨v, hv, rfl⟩ := hj
   rw [List.getD_eq_getElem?_getD, hv]
   exact .k _ _
end Go.Proofs.YtmhliomemdhmiaaGreatDoor.E
