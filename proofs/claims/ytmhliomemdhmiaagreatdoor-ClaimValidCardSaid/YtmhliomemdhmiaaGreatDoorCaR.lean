/-
 CLAIMS: what Good makes is valid (plain).
-/
import Derived.Test.YtmhliomemdhmiaaGreatDoorCaO
namespace Go.Proofs.YtmhliomemdhmiaaGreatDoor.E.Ca
open Go.RowKit
set_option linter.unusedVariables false
set_option linter.unusedSimpArgs false
/-- The example's bytes, with so many of the numbers behind them. -/
def encP (n : Nat) : List Int := [wis [0, 0, 1, 0, 5], wis [], wis [0, 0, 0, 0, 0]].flatten ++ (List.replicate n (by0 ++ by0)).flatten
def k0 : CM := ⟨0, 0, 1, 0, [], zF, 5⟩
noncomputable abbrev fen : Func := fnOf PP 26
theorem sm5 {l : List Int} (h : l.all (fun x => x == 0 || x == 1 || x == 5) = true) : ∀ x ∈ l, Sm x := fun x hx => by
 have := List.all_eq_true.1 h x hx
 simp only [Bool.or_eq_true, beq_iff_eq] at this
 rcases this with (h | h) | h
 · exact .inl h
 · exact .inr (.inl h)
 · exact .inr (.inr h)
noncomputable def fW (l : List Int) (hl : Sm (l.length : Int)) (hs : ∀ x ∈ l, Sm x) : F_ := .newr false true _ _ _ _ _ (e_wis hl hs) (ub_k _)
theorem e_enc0 : Pure PP 26 [.ag (dC k0)] (.o 5 1 (ub (encP 6))) := by
 refine pf (by kernel_rfl) (.to mo_ [] [1, 3, 4, 23, 24, 25] [0] 1 [fW [0, 0, 1, 0, 5] (.inr (.inr rfl)) (sm5 rfl)] (td' := lp fen 0) (σ' := at_ fen [(1, .lp 0 0), (3, .sl (ub (wis [0, 0, 1, 0, 5]))), (4, .nl), (23, .sl []), (24, ni 0), (25, ni 0)] [.bx 37 (dC k0)]) ?_ (by kernel_rfl))
 refine .to mo_ [.mv 1 3] [3, 49, 50] [1] 2 [nf, cl (e_whole zF), fW [] (.inl rfl) (sm5 rfl), .arr, fW [0, 0, 0, 0, 0] (.inr (.inr rfl)) (sm5 rfl), cl (e_concat (ls := [wis [0, 0, 1, 0, 5], wis [], wis [0, 0, 0, 0, 0]]) (by decide) (by decide) (by decide) (by decide)), cl (e_numbersC zF)] (td' := lp fen 1) (σ' := at_ fen [(3, .ow 1), (49, .ag (nuV zF)), (50, ni 0)] [.dead, .rw 5 1 (ub (encP 0))]) ?_ (by kernel_rfl)
 refine .to mo_ [.mv 1 4] [3, 49, 50] [1] 2 [yt, cl e_renc0, .app (ub (encP 0)) (ub (by0 ++ by0)) (ub (encP 1)) 1000 (by rw [ub_app]; rfl) (by decide) (by decide)] (td' := lp fen 1) (σ' := at_ fen [(3, .ow 1), (49, .ag (nuV zF)), (50, ni 1)] [.dead, .rw 5 1 (ub (encP 1))]) ?_ (by kernel_rfl)
 refine .to mo_ [.mv 1 4] [3, 49, 50] [1] 2 [yt, cl e_renc0, .app (ub (encP 1)) (ub (by0 ++ by0)) (ub (encP 2)) 1000 (by rw [ub_app]; rfl) (by decide) (by decide)] (td' := lp fen 1) (σ' := at_ fen [(3, .ow 1), (49, .ag (nuV zF)), (50, ni 2)] [.dead, .rw 5 1 (ub (encP 2))]) ?_ (by kernel_rfl)
 refine .to mo_ [.mv 1 4] [3, 49, 50] [1] 2 [yt, cl e_renc0, .app (ub (encP 2)) (ub (by0 ++ by0)) (ub (encP 3)) 1000 (by rw [ub_app]; rfl) (by decide) (by decide)] (td' := lp fen 1) (σ' := at_ fen [(3, .ow 1), (49, .ag (nuV zF)), (50, ni 3)] [.dead, .rw 5 1 (ub (encP 3))]) ?_ (by kernel_rfl)
 refine .to mo_ [.mv 1 4] [3, 49, 50] [1] 2 [yt, cl e_renc0, .app (ub (encP 3)) (ub (by0 ++ by0)) (ub (encP 4)) 1000 (by rw [ub_app]; rfl) (by decide) (by decide)] (td' := lp fen 1) (σ' := at_ fen [(3, .ow 1), (49, .ag (nuV zF)), (50, ni 4)] [.dead, .rw 5 1 (ub (encP 4))]) ?_ (by kernel_rfl)
 refine .to mo_ [.mv 1 4] [3, 49, 50] [1] 2 [yt, cl e_renc0, .app (ub (encP 4)) (ub (by0 ++ by0)) (ub (encP 5)) 1000 (by rw [ub_app]; rfl) (by decide) (by decide)] (td' := lp fen 1) (σ' := at_ fen [(3, .ow 1), (49, .ag (nuV zF)), (50, ni 5)] [.dead, .rw 5 1 (ub (encP 5))]) ?_ (by kernel_rfl)
 refine .to mo_ [.mv 1 4] [3, 49, 50] [1] 2 [yt, cl e_renc0, .app (ub (encP 5)) (ub (by0 ++ by0)) (ub (encP 6)) 1000 (by rw [ub_app]; rfl) (by decide) (by decide)] (td' := lp fen 1) (σ' := at_ fen [(3, .ow 1), (49, .ag (nuV zF)), (50, ni 6)] [.dead, .rw 5 1 (ub (encP 6))]) ?_ (by kernel_rfl)
 exact fi [nf] (by kernel_rfl) (by kernel_rfl)
noncomputable def k1 : CM := ⟨1, 0, 2, 1, [(0, 0)], (fitQ [] 0).fm, 0⟩
def k2 : CM := ⟨2, 0, 3, 3, [(0, 0)], zF, 0⟩
def k3 : CM := ⟨0, 1, 4, 3, [(2, 0)], zF, 0⟩
noncomputable def l4 : List CM := [k0, k1, k2, k3]
theorem e_four : Pure PP 56 [] (.sl (l4.map dC)) := tr [.ro, cl (e_fit (l := []) (fun x h => by cases h) 0 (by omega)), .ro, .ro] (by kernel_rfl)
section
variable {l : List Int} {i : Nat}
theorem one_turn (r : Int) : oneB (turnQ r).1 (turnQ r).2 = true := by
 unfold turnQ oneB
 split
 · decide +kernel
 · split
   · decide +kernel
   · split
     · decide +kernel
     · split
       · decide +kernel
       · split <;> decide +kernel
theorem cmp_add (r : Rat) {k : Int} (hk : 0 ≤ k) : decide (cmpQ r (r + Rat.divInt k 2) ≤ 0) = true := by
 have h1 : (0 : Rat) ≤ Rat.divInt k 2 := Rat.divInt_nonneg hk (by omega)
 have h : r ≤ r + Rat.divInt k 2 := by grind
 refine decide_eq_true ?_
 unfold cmpQ
 split
 · decide
 · rw [if_neg (by grind)]; decide
theorem cmp_self (r : Rat) : decide (cmpQ r r ≤ 0) = true := by
 refine decide_eq_true ?_
 unfold cmpQ
 rw [if_neg (by grind), if_neg (by grind)]; decide
theorem edge_in {x : Int} (h : 0 ≤ x ∧ x < 12) : edgeB x = true := by unfold edgeB; simp; omega
theorem fit_ok (l : List Int) (i : Nat) : fitsB (fitQ l i).fm true = true := by
 have h0 := atz_in l i 2
 have h1 := atz_in l (i + 1) 1
 have h2 := atz_in l (i + 2) 11
 have h3 := atz_in l (i + 3) 11
 have h4 := atz_in l (i + 4) 2
 have h8 := atz_in l (i + 8) 2
 have hB : (nu (fitQ l i).fm).any (badR true) = false := by
  rw [List.any_eq_false]
  intro n hn
  have : okB n = true := by
   simp only [nu, FQ.fm, List.mem_cons, List.not_mem_nil, or_false] at hn
   rcases hn with rfl | rfl | rfl | rfl | rfl | rfl <;> exact okB_ofR _
  simp [badR, this]
 unfold fitsB
 rw [hB]
 show needB _ = true
 simp only [needB, FQ.fm, q_ofR, fitQ, one_turn, cmp_self]
 rw [cmp_add _ h8.1, edge_in (by omega), edge_in (by omega), edge_in (by omega)]
 simp
 refine ⟨⟨⟨h0.1, decide_eq_true (by omega)⟩, decide_eq_true (by omega)⟩, by omega⟩
theorem zF_ok : fitsB zF false = true := by
 have hB : (nu zF).any (badR false) = false := by
  rw [List.any_eq_false]
  intro n hn
  have e : n = ofR 0 := by
   simp only [nu, zF, List.mem_cons, List.not_mem_nil, or_false] at hn
   rw [ofR_0]
   rcases hn with h | h | h | h | h | h <;> exact h
  subst e
  unfold badR
  rw [okB_ofR, q_ofR]
  decide
 unfold fitsB
 rw [hB]
 decide
theorem bq_bn {k : Nat} {r : Rat} (h : Bq k r) : Bn k (ofR r) := by
 refine ⟨fun _ => ?_, fun _ => ?_⟩
 · show I.Bd k (I.val (digs r.num.natAbs))
   rw [(digs_ok _).2]
   have := h.1
   unfold I.Bd at *
   simpa using this
 · show I.Bd k (I.val (digs (dq r).natAbs))
   rw [(digs_ok _).2]
   have := bd_dq h
   unfold I.Bd at *
   simpa using this
theorem turn_bits (r : Int) : Bq 7 (turnQ r).1 ∧ Bq 7 (turnQ r).2 := by
 have h : ∀ x y : Int, -100 ≤ x ∧ x ≤ 100 → 1 ≤ y ∧ y ≤ 100 → Bq 7 (Rat.divInt x y) := fun x y hx hy => Bq.divInt (bd7 hx.1 hx.2) (bd7 (by omega) hy.2) (by omega)
 have h0 : Bq 7 0 := by rw [show (0 : Rat) = Rat.divInt 0 1 from rfl]; exact h 0 1 (by omega) (by omega)
 unfold turnQ
 split
 · exact ⟨h 1 1 (by omega) (by omega), h0⟩
 · split
   · exact ⟨h0, h 1 1 (by omega) (by omega)⟩
   · split
     · exact ⟨h (-1) 1 (by omega) (by omega), h0⟩
     · split
       · exact ⟨h0, h (-1) 1 (by omega) (by omega)⟩
       · split
         · exact ⟨h 3 5 (by omega) (by omega), h 4 5 (by omega) (by omega)⟩
         · exact ⟨h (-5) 13 (by omega) (by omega), h 12 13 (by omega) (by omega)⟩
theorem Bq.up {j k : Nat} {r : Rat} (h : Bq j r) (hjk : j ≤ k) : Bq k r := h.mono hjk
theorem fit_bits (l : List Int) (i : Nat) : FBits 100 (fitQ l i).fm := by
 have h8 := atz_in l (i + 8) 2
 have t := turn_bits (rnd (atz l (i + 5) 5) 5)
 have s2 := small_bits (atz l (i + 6) 999)
 have s3 := small_bits (atz l (i + 7) 999)
 have s4 := s2.add (Bq.divInt (bd7 (x := atz l (i + 8) 2) (by omega) (by omega)) (bd7 (x := 2) (by omega) (by omega)) (by omega))
 intro n hn
 simp only [nu, FQ.fm, fitQ, List.mem_cons, List.not_mem_nil, or_false] at hn
 rcases hn with rfl | rfl | rfl | rfl | rfl | rfl
 · exact bq_bn (t.1.mono (by omega))
 · exact bq_bn (t.2.mono (by omega))
 · exact bq_bn (s2.mono (by omega))
 · exact bq_bn (s3.mono (by omega))
 · exact bq_bn (s4.mono (by omega))
 · exact bq_bn (s3.mono (by omega))
theorem zF_bits : FBits 100 zF := by
 intro n hn
 have e : n = ofR 0 := by
  simp only [nu, zF, List.mem_cons, List.not_mem_nil, or_false] at hn
  rw [ofR_0]
  rcases hn with h | h | h | h | h | h <;> exact h
 subst e
 exact bq_bn ((turn_bits 0).2.mono (by omega))
end
theorem v_of {c : CM} {fb nd : Bool} {lo hi : Int} {wt : Bool} (h : decide (((rfs c.refs).length : Int) > 16) = false) (g : headB c = false) (hk : (match c.kind with | 0 => okI (bodyP c.refs c.w (fitsB c.fit false) 0 0 true) | 1 => okI (bodyP c.refs c.w (fitsB c.fit true) 1 16 false) | 2 => okI (bodyP c.refs c.w (fitsB c.fit false) 2 16 false) | _ => okI (bodyP c.refs c.w (fitsB c.fit false) 1 16 false)) = 0) : validI c = 0 := by
 unfold validI
 rw [h, g]
 exact hk
theorem v_k0 : validI k0 = 0 := v_of (fb := true) (nd := true) (lo := 0) (hi := 0) (wt := true) rfl (by decide +kernel) (by show okI (bodyP [] 5 (fitsB zF false) 0 0 true) = 0; rw [zF_ok]; decide)
theorem v_k1 : validI k1 = 0 := v_of (fb := true) (nd := true) (lo := 0) (hi := 0) (wt := true) rfl (by decide +kernel) (by show okI (bodyP [(0, 0)] 0 (fitsB (fitQ [] 0).fm true) 1 16 false) = 0; rw [fit_ok]; decide)
theorem v_k2 : validI k2 = 0 := v_of (fb := true) (nd := true) (lo := 0) (hi := 0) (wt := true) rfl (by decide +kernel) (by show okI (bodyP [(0, 0)] 0 (fitsB zF false) 1 16 false) = 0; rw [zF_ok]; decide)
theorem v_k3 : validI k3 = 0 := v_of (fb := true) (nd := true) (lo := 0) (hi := 0) (wt := true) rfl (by decide +kernel) (by show okI (bodyP [(2, 0)] 0 (fitsB zF false) 1 16 false) = 0; rw [zF_ok]; decide)
noncomputable abbrev fsb : Func := fnOf PP 19
theorem e_sameB (a b : List Bool) (hn : a.length ≤ 1000) : Pure PP 19 [.sl (bV a), .sl (bV b)] (bo (decide (a = b))) := by
 by_cases hl : a.length = b.length
 · let X : Nat → St := fun i => at_ fsb [(0, .sl (bV a)), (1, .sl (bV b)), (5, ni i)] []
   refine pf (by kernel_rfl) (.to mo_ [] [0, 1, 5] [] 0 [na (t := ((bV a).length : Int) != ((bV b).length : Int)) (by simp [bV, hl])] (td' := lp fsb 0) (σ' := X 0) ?_ (by kernel_rfl))
   refine Gd.loop X (fun i => i ≤ a.length ∧ a.take i = b.take i) (fun i => a.length - i) ?_ 0 ⟨Nat.zero_le _, rfl⟩
   intro i ⟨hi, hI⟩ ih
   have hlt : ∀ h : i < a.length, decide ((i : Int) < ((bV a).length : Int)) = true := fun h => decide_eq_true (by rw [bV_len]; omega)
   by_cases h : i < a.length
   · obtain ⟨x, hx, _⟩ := get_of h
     obtain ⟨y, hy, _⟩ := get_of (l := b) (i := i) (by omega)
     by_cases e : x = y
     · exact .to mo_ [] [0, 1, 5] [] 0 [ye (hlt h), .sel _ _ _ (bV_at hx), .sel _ _ _ (bV_at hy), na (t := x != y) (by simp [e]), inc 16 i (by omega)] (ih (i + 1) ⟨h, take_step hI hx hy e⟩ (by omega)) (by kernel_rfl)
     · rw [show decide (a = b) = false from decide_eq_false (ne_at hx hy e)]
       exact fi [ye (hlt h), .sel _ _ _ (bV_at hx), .sel _ _ _ (bV_at hy), ye (t := x != y) (by simp [e])] (by kernel_rfl) (by kernel_rfl)
   · rw [show decide (a = b) = true from decide_eq_true (eq_of_take hI h hl)]
     exact fi [na (t := decide ((i : Int) < ((bV a).length : Int))) (decide_eq_false (by rw [bV_len]; omega))] (by kernel_rfl) (by kernel_rfl)
 · rw [show decide (a = b) = false from decide_eq_false fun e => hl (by rw [e])]
   exact tr [ye (t := ((bV a).length : Int) != ((bV b).length : Int)) (by simp [bV]; omega)] (by kernel_rfl)
theorem eV {f : FuncId} {ds : List V} {x y : Int} (h : Pure PP f ds (ni x)) (e : x = y) : Pure PP f ds (ni y) := e ▸ h
theorem eO {f : FuncId} {ds : List V} {T z : Nat} {x y : List Bool} (h : Pure PP f ds (.o T z (bV x))) (e : x = y) : Pure PP f ds (.o T z (bV y)) := e ▸ h
theorem bel4 : believedL l4 = [true, true, false, true] := by decide +kernel
theorem bel3 : believedL (l4.take 3) = [false, true, true] := by decide +kernel
noncomputable abbrev flv : Func := fnOf PP 17
theorem len35 : ∀ cs ∈ l4.map dC, cs.length = 35 := fun cs h => (dC_ok _ cs h).1
theorem e_lives15 : Pure PP 17 [] (bo true) := by
 let X : Nat → St := fun i => at_ flv [(1, .sl (l4.map dC)), (2, .sl (ub (encP 6))), (3, ni i)] []
 have s0 : (l4.map dC)[0]? = some (dC k0) := rfl
 have s1 : (l4.map dC)[1]? = some (dC k1) := rfl
 have s2 : (l4.map dC)[2]? = some (dC k2) := rfl
 have s3 : (l4.map dC)[3]? = some (dC k3) := rfl
 have w0 := eV (e_cvalid (c := k0) zF_bits (by omega)) v_k0
 have w1 := eV (e_cvalid (c := k1) (fit_bits [] 0) (by omega)) v_k1
 have w2 := eV (e_cvalid (c := k2) zF_bits (by omega)) v_k2
 have w3 := eV (e_cvalid (c := k3) zF_bits (by omega)) v_k3
 refine pf (by kernel_rfl) (.to mo_ [] [1, 2, 3] [] 0 [cl e_four, .sel _ _ _ s0, .newr false true _ _ _ _ _ e_enc0 (ub_k _)] (td' := lp flv 0) (σ' := X 0) ?_ (by kernel_rfl))
 refine .to mo_ [] [1, 2, 3] [] 0 [yt, .sel _ _ _ s0, cl w0, nf] (td' := lp flv 0) (σ' := X 1) ?_ (by kernel_rfl)
 refine .to mo_ [] [1, 2, 3] [] 0 [yt, .sel _ _ _ s1, cl w1, nf] (td' := lp flv 0) (σ' := X 2) ?_ (by kernel_rfl)
 refine .to mo_ [] [1, 2, 3] [] 0 [yt, .sel _ _ _ s2, cl w2, nf] (td' := lp flv 0) (σ' := X 3) ?_ (by kernel_rfl)
 refine .to mo_ [] [1, 2, 3] [] 0 [yt, .sel _ _ _ s3, cl w3, nf] (td' := lp flv 0) (σ' := X 4) ?_ (by kernel_rfl)
 exact fi [nf, cl (eO (e_believed (L := l4) (by decide)) bel4), cl (e_sameB [true, true, false, true] [true, true, false, true] (by decide)), yt, .slc (l4.map dC) 0 3 35 ((l4.take 3).map dC) rfl (by decide) len35, cl (eO (e_believed (L := l4.take 3) (by decide)) bel3), cl (e_sameB [false, true, true] [false, true, true] (by decide)), yt, yt, .slc (ub (encP 6)) 0 10 1 (byL [129, 5, 128, 128, 129, 1, 128, 129, 5, 128]) rfl (by decide) (fun cs h => (ub_ok _ cs h).1), .str _ [129, 5, 128, 128, 129, 1, 128, 129, 5, 128] rfl, yt, cl (e_find l4 (2, 0)), yt, .sel _ _ _ s2, .sel _ _ _ s3, cl (e_before k2 k3), yt, .sel _ _ _ s3, .sel _ _ _ s3, cl (e_before k3 k3)] (by kernel_rfl) (by kernel_rfl)
end Go.Proofs.YtmhliomemdhmiaaGreatDoor.E.Ca
namespace Go.Proofs.YtmhliomemdhmiaaGreatDoor.E.Ca
open Go.RowKit
set_option linter.unusedVariables false
set_option linter.unusedSimpArgs false
/-- Claims whose rational numbers are such, with few references. -/
def Qc (c : CM) : Prop := ∃ q : CQ, c = q.cm ∧ q.refs.length ≤ 10
theorem Qc.c0 : Qc c0 := ⟨⟨0, 0, 0, 0, [], zQ, 0⟩, by unfold CQ.cm; simp only [zQ_fm], by decide⟩
section
variable {l : List Int} {i : Nat} {b s t kd : Int} {rf : List (Int × Int)}
theorem clG_q (hr : rf.length ≤ 10) : Qc (clG l i b s t rf kd) := by
 unfold clG
 split
 · exact ⟨⟨b, s, t, 0, [], zQ, 1 + atz l (5 * i + 4) 8⟩, by unfold CQ.cm; simp only [zQ_fm], by simp⟩
 · exact ⟨⟨b, s, t, 1, rf, fitQ l (5 * i + 2), 0⟩, rfl, hr⟩
 · exact ⟨⟨b, s, t, kd, rf, zQ, 0⟩, by unfold CQ.cm; simp only [zQ_fm], hr⟩
theorem good_q : ∀ i, i ≤ 10 → ∀ c ∈ (goodF l i).1, Qc c
 | 0, _, c, hc => by cases hc
 | i + 1, hi, c, hc => by
  have ih := good_q i (by omega)
  have hl := good_len (l := l) i
  rcases List.mem_append.1 hc with h | h
  · exact ih c h
  · rw [List.mem_singleton] at h
    subst h
    refine clG_q ?_
    unfold rfG
    have := refsF_len (L := (goodF l i).1) (bits := bitsG l i) (goodF l i).1.length
    omega
theorem goodL_q : ∀ c ∈ goodL l, Qc c := good_q _ (Nat.min_le_left _ _)
end
section
variable {l : List Int} {how n : Int} {S : List CM} {i k j : Nat} {a : Bool}
theorem eB {f : FuncId} {ds : List V} {x y : Bool} (h : Pure PP f ds (bo x)) (e : x = y) : Pure PP f ds (bo y) := e ▸ h
def ltS (S : List CM) (i : Nat) : Bool := decide ((i : Int) < ((S.map dC).length : Int))
theorem ltS_t (h : i < S.length) : ltS S i = true := decide_eq_true (by rw [List.length_map]; omega)
theorem ltS_f (h : ¬ i < S.length) : ltS S i = false := decide_eq_false (by rw [List.length_map]; omega)
end
end Go.Proofs.YtmhliomemdhmiaaGreatDoor.E.Ca
namespace Go.Proofs.YtmhliomemdhmiaaGreatDoor.E.Ca
open Go.RowKit
set_option linter.unusedVariables false
set_option linter.unusedSimpArgs false
section
variable {p q r : Int × Int} {o : List (Int × Int)} {n : Int × Int} {L : List CM} {bits : Int} {i k : Nat} {l : List Int}
theorem less_iff : lessN p q = true ↔ (p.1 < q.1 ∨ p.1 = q.1 ∧ p.2 < q.2) := by
 unfold lessN
 simp
theorem less_no : lessN p q = false ↔ ¬ (p.1 < q.1 ∨ p.1 = q.1 ∧ p.2 < q.2) := by
 rw [← less_iff]; simp
theorem less_trans (h : lessN p q = true) (g : lessN q r = true) : lessN p r = true := by
 rw [less_iff] at *; omega
theorem less_of (h : lessN p q = false) (g : q ≠ p) : lessN q p = true := by
 rw [less_no] at h
 rw [less_iff]
 have : ¬ (q.1 = p.1 ∧ q.2 = p.2) := fun e => g (Prod.ext e.1 e.2)
 omega
/-- Increasing. -/
def Srt (o : List (Int × Int)) : Prop := o.Pairwise fun x y => lessN x y = true
theorem posN_hi : ∀ (k : Nat) (j : Nat), posN o n k ≤ j → j < k → lessN n (o.getD j (0, 0)) = true
 | 0, j, _, h => absurd h (Nat.not_lt_zero j)
 | k + 1, j, h1, h2 => by
  unfold posN at h1
  split at h1
  · rename_i hb
    by_cases e : j = k
    · subst e; exact hb
    · exact posN_hi k j h1 (by omega)
  · omega
theorem posN_lo : ∀ (k : Nat), 0 < posN o n k → lessN n (o.getD (posN o n k - 1) (0, 0)) = false
 | 0, h => absurd h (Nat.lt_irrefl 0)
 | k + 1, h => by
  unfold posN at h ⊢
  split
  · rename_i hb
    rw [if_pos hb] at h
    exact posN_lo k h
  · rename_i hb
    simpa using hb
theorem getD_mem {α : Type} {l : List α} {i : Nat} {d : α} (h : i < l.length) : l.getD i d ∈ l := by rw [List.getD_eq_getElem?_getD, List.getElem?_eq_getElem h]; exact List.getElem_mem _
theorem srt_at (h : Srt o) {a b : Nat} (hab : a < b) (hb : b < o.length) : lessN (o.getD a (0, 0)) (o.getD b (0, 0)) = true := by
 have := List.pairwise_iff_getElem.1 h a b (by omega) hb hab
 rw [List.getD_eq_getElem?_getD, List.getD_eq_getElem?_getD, List.getElem?_eq_getElem (by omega), List.getElem?_eq_getElem hb]
 exact this
theorem ins_srt (h : Srt o) (hn : n ∉ o) : Srt (insN o n) := by
 have hle := posN_le (o := o) (n := n) o.length
 have hhi := posN_hi (o := o) (n := n) o.length
 have hlo := posN_lo (o := o) (n := n) o.length
 unfold insN Srt
 generalize posN o n o.length = k at *
 have t1 : ∀ x ∈ o.take k, lessN x n = true := fun x hx => by
  obtain ⟨j, hj⟩ := List.getElem?_of_mem hx
  rw [List.getElem?_take] at hj
  split at hj
  · rename_i hjk
    have hl := (List.getElem?_eq_some_iff.1 hj).1
    have ex : x = o.getD j (0, 0) := by rw [List.getD_eq_getElem?_getD, hj]; rfl
    have hk1 : lessN (o.getD (k - 1) (0, 0)) n = true := less_of (hlo (by omega)) fun e => hn (e ▸ getD_mem (by omega))
    by_cases e : j = k - 1
    · rw [ex, e]; exact hk1
    · rw [ex]; exact less_trans (srt_at h (by omega : j < k - 1) (by omega)) hk1
  · cases hj
 have t2 : ∀ y ∈ o.drop k, lessN n y = true := fun y hy => by
  obtain ⟨j, hj⟩ := List.getElem?_of_mem hy
  rw [List.getElem?_drop] at hj
  have hl := (List.getElem?_eq_some_iff.1 hj).1
  have ey : y = o.getD (k + j) (0, 0) := by rw [List.getD_eq_getElem?_getD, hj]; rfl
  rw [ey]
  exact hhi (k + j) (by omega) hl
 rw [List.pairwise_append, List.pairwise_append]
 refine ⟨⟨h.sublist (List.take_sublist k o), List.pairwise_singleton _ _, fun x hx y hy => ?_⟩, h.sublist (List.drop_sublist k o), fun x hx y hy => ?_⟩
 · rw [List.mem_singleton] at hy
   subst hy
   exact t1 x hx
 · rcases List.mem_append.1 hx with h1 | h1
   · exact less_trans (t1 x h1) (t2 y hy)
   · rw [List.mem_singleton] at h1
     subst h1
     exact t2 y hy
theorem mem_ins {x : Int × Int} (h : x ∈ insN o n) : x = n ∨ x ∈ o := by
 unfold insN at h
 simp only [List.mem_append, List.mem_singleton] at h
 rcases h with (h | h) | h
 · exact .inr (List.mem_of_mem_take h)
 · exact .inl h
 · exact .inr (List.mem_of_mem_drop h)
theorem mem_refs {x : Int × Int} : ∀ i, x ∈ refsF L bits i → ∃ k, k < i ∧ x = (L.getD k c0).nm
 | 0, h => by cases h
 | i + 1, h => by
  unfold refsF at h
  split at h
  · rcases mem_ins h with e | h
    · exact ⟨i, by omega, e⟩
    · obtain ⟨k, hk, e⟩ := mem_refs i h
      exact ⟨k, by omega, e⟩
  · obtain ⟨k, hk, e⟩ := mem_refs i h
    exact ⟨k, by omega, e⟩
theorem refs_srt (hd : ∀ a b, a < b → b < L.length → (L.getD a c0).nm ≠ (L.getD b c0).nm) : ∀ i, i ≤ L.length → Srt (refsF L bits i)
 | 0, _ => List.Pairwise.nil
 | i + 1, hi => by
  have ih := refs_srt hd i (by omega)
  unfold refsF
  split
  · refine ins_srt ih fun h => ?_
    obtain ⟨k, hk, e⟩ := mem_refs i h
    exact hd k i hk (by omega) e.symm
  · exact ih
theorem refers_of {p : Int × Int} {rf : List (Int × Int)} (h1 : ∀ x ∈ rf, possB x = true ∧ x ≠ p) (h2 : Srt rf) : refersB p rf = true := by
 refine refers_yes (n := rf.length) (Nat.lt_irrefl _) fun t ht => ?_
 have hm := h1 _ (getD_mem (d := ((0 : Int), (0 : Int))) ht)
 unfold badAt
 rw [hm.1, decide_eq_false hm.2]
 by_cases h0 : t = 0
 · subst h0; rfl
 · rw [ord_ge, srt_at h2 (by omega : t - 1 < t) ht]
   simp
/-- What is true of all that was made so far. -/
structure GI (L : List CM) : Prop where
 by_ : ∀ c ∈ L, 0 ≤ c.by_ ∧ c.by_ ≤ 2
 seq : ∀ k, k < L.length → (L.getD k c0).seq = (seqG L (L.getD k c0).by_ k : Int)
 ok : ∀ c ∈ L, validI c = 0
theorem seq_mono (b : Int) : ∀ j k, k + j ≤ L.length → seqG L b k ≤ seqG L b (k + j)
 | 0, k, _ => Nat.le_refl _
 | j + 1, k, h => by
  have h1 := seq_mono b j k (by omega)
  have h2 := seq_step (L := L) (k := k + j) (by omega) b
  rw [show k + (j + 1) = k + j + 1 by omega, h2]
  split <;> omega
theorem GI.ne (h : GI L) : ∀ a b, a < b → b < L.length → (L.getD a c0).nm ≠ (L.getD b c0).nm := fun a b hab hb e => by
 unfold CM.nm at e
 injection e with e1 e2
 have sa := h.seq a (by omega)
 have sb := h.seq b hb
 rw [← e1] at sb
 have st := seq_step (L := L) (k := a) (by omega) (L.getD a c0).by_
 rw [if_pos (by simp)] at st
 have mo := seq_mono (L := L) (L.getD a c0).by_ (b - (a + 1)) (a + 1) (by omega)
 rw [show a + 1 + (b - (a + 1)) = b by omega] at mo
 omega
theorem GI.own (h : GI L) {b : Int} (k : Nat) (hk : k < L.length) : (L.getD k c0).nm ≠ (b, (seqG L b L.length : Int)) := fun e => by
 unfold CM.nm at e
 injection e with e1 e2
 have sa := h.seq k hk
 rw [e1] at sa
 have st := seq_step (L := L) (k := k) hk b
 rw [if_pos (by rw [e1]; simp)] at st
 have mo := seq_mono (L := L) b (L.length - (k + 1)) (k + 1) (by omega)
 rw [show k + 1 + (L.length - (k + 1)) = L.length by omega] at mo
 omega
theorem GI.poss (h : GI L) (hL : L.length ≤ 10) (k : Nat) (hk : k < L.length) : possB (L.getD k c0).nm = true := by
 have h1 := h.by_ _ (getD_mem (d := c0) hk)
 have h2 := h.seq k hk
 have h3 := seq_le L (L.getD k c0).by_ k
 generalize L.getD k c0 = c at *
 unfold possB CM.nm
 simp
 omega
theorem getD_app {c : CM} (hk : k < L.length) : (L ++ [c]).getD k c0 = L.getD k c0 := by
 rw [List.getD_eq_getElem?_getD, List.getD_eq_getElem?_getD, List.getElem?_append_left hk]
theorem seq_app {c : CM} (b : Int) (hk : k ≤ L.length) : seqG (L ++ [c]) b k = seqG L b k := by
 unfold seqG
 rw [List.take_append_of_le_length hk]
theorem GI.add (h : GI L) {c : CM} (h1 : 0 ≤ c.by_ ∧ c.by_ ≤ 2) (h2 : c.seq = (seqG L c.by_ L.length : Int)) (h3 : validI c = 0) : GI (L ++ [c]) where
 by_ d hd := by
  rcases List.mem_append.1 hd with g | g
  · exact h.by_ d g
  · rw [List.mem_singleton] at g; subst g; exact h1
 seq k hk := by
  rw [List.length_append, List.length_singleton] at hk
  by_cases g : k < L.length
  · rw [getD_app g, seq_app _ (by omega)]
    exact h.seq k g
  · have e : k = L.length := by omega
    subst e
    have e2 : (L ++ [c]).getD L.length c0 = c := by rw [List.getD_eq_getElem?_getD, List.getElem?_append_right (Nat.le_refl _)]; simp
    rw [e2, seq_app _ (Nat.le_refl _)]
    exact h2
 ok d hd := by
  rcases List.mem_append.1 hd with g | g
  · exact h.ok d g
  · rw [List.mem_singleton] at g; subst g; exact h3
/-- A claim of a kind is valid. -/
theorem clG_ok {b s t : Int} {rf : List (Int × Int)} {kd : Int} (hp : possB (b, s) = true) (ht : 0 ≤ t ∧ t ≤ 1000) (hk : kd = 0 ∨ kd = 1 ∨ kd = 2 ∨ kd = 3) (hr : refersB (b, s) rf = true) (hl : rf.length ≤ 10) : validI (clG l i b s t rf (kd2 kd rf)) = 0 := by
 have h8 := atz_in l (5 * i + 4) 8
 have hrl := rfs_len rf
 have r0 : refersB (b, s) [] = true := rfl
 have t1 : decide (t < 0) = false := decide_eq_false (by omega)
 have t2 : decide (t > 1048576) = false := decide_eq_false (by omega)
 have z0 : validI (clG l i b s t rf 0) = 0 := by
  have hV := v_0 (rf := []) (b := b) (s := s) (t := t) (ft := zF) (w := 1 + atz l (5 * i + 4) 8) rfl (by simp only [headB, CM.nm, hp, t1, t2, r0]; rfl)
  show validI ⟨b, s, t, 0, [], zF, 1 + atz l (5 * i + 4) 8⟩ = 0
  rw [hV, zF_ok]
  unfold bodyP
  rw [show decide (1 + atz l (5 * i + 4) 8 < 1) = false from decide_eq_false (by omega), show decide (1 + atz l (5 * i + 4) 8 > 1024) = false from decide_eq_false (by omega)]
  rfl
 have hlong : decide (((rfs rf).length : Int) > 16) = false := decide_eq_false (by omega)
 unfold kd2
 split
 · exact z0
 · rename_i hn
   have hpos : 0 < rf.length := by omega
   have g2 : decide (((rfs rf).length : Int) > 16) = false := hlong
   rcases hk with rfl | rfl | rfl | rfl
   · exact z0
   · have hV := v_1 (rf := rf) (b := b) (s := s) (t := t) (ft := (fitQ l (5 * i + 2)).fm) (w := 0) hlong (by simp only [headB, CM.nm, hp, t1, t2, hr]; rfl)
     show validI ⟨b, s, t, 1, rf, (fitQ l (5 * i + 2)).fm, 0⟩ = 0
     rw [hV, fit_ok]
     unfold bodyP
     rw [g2, show decide (((rfs rf).length : Int) < 1) = false from decide_eq_false (by omega)]
     rfl
   · have hV := v_2 (rf := rf) (b := b) (s := s) (t := t) (ft := zF) (w := 0) hlong (by simp only [headB, CM.nm, hp, t1, t2, hr]; rfl)
     show validI ⟨b, s, t, 2, rf, zF, 0⟩ = 0
     rw [hV, zF_ok]
     unfold bodyP
     rw [g2, show decide (((rfs rf).length : Int) < 2) = false from decide_eq_false (by omega)]
     rfl
   · have hV := v_3 (rf := rf) (b := b) (s := s) (t := t) (ft := zF) (w := 0) hlong (by simp only [headB, CM.nm, hp, t1, t2, hr]; rfl)
     show validI ⟨b, s, t, 3, rf, zF, 0⟩ = 0
     rw [hV, zF_ok]
     unfold bodyP
     rw [g2, show decide (((rfs rf).length : Int) < 1) = false from decide_eq_false (by omega)]
     rfl
theorem clG_by {b s t : Int} {rf : List (Int × Int)} {kd : Int} : (clG l i b s t rf kd).by_ = b ∧ (clG l i b s t rf kd).seq = s := by
 unfold clG
 split <;> exact ⟨rfl, rfl⟩
theorem good_gi : ∀ i, i ≤ 10 → GI (goodF l i).1
 | 0, _ => ⟨fun c h => (by cases h), fun k h => absurd h (Nat.not_lt_zero k), fun c h => (by cases h)⟩
 | i + 1, hi => by
  have ih := good_gi i (by omega)
  have hlen := good_len (l := l) i
  have htk := good_tick (l := l) i
  have hb := atz_in l (5 * i) 2
  have h2 := atz_in l (5 * i + 2) 1
  have hs := seq_le (goodF l i).1 (byG l i) (goodF l i).1.length
  have hrl := refsF_len (L := (goodF l i).1) (bits := bitsG l i) (goodF l i).1.length
  show GI ((goodF l i).1 ++ [_])
  refine ih.add ?_ ?_ ?_
  · rw [clG_by.1]; unfold byG; omega
  · rw [clG_by.1, clG_by.2]
  · refine clG_ok ?_ ?_ (kdG_in l i) ?_ (by unfold rfG; omega)
    · unfold possB byG
      unfold byG at hs
      simp
      omega
    · unfold tkG; omega
    · refine refers_of (fun x hx => ?_) (refs_srt ih.ne _ (Nat.le_refl _))
      obtain ⟨k, hk, rfl⟩ := mem_refs _ hx
      exact ⟨ih.poss (by omega) k hk, ih.own k hk⟩
theorem good_valid {c : CM} (h : c ∈ goodL l) : validI c = 0 := (good_gi (l := l) _ (Nat.min_le_left _ _)).ok c h
end
end Go.Proofs.YtmhliomemdhmiaaGreatDoor.E.Ca
