/-
 PIECE: the law PieceParses, by the engine.
-/
import Derived.Test.YtlgnagnmoleeiaaGreatFbM
import Derived.OpenShut
namespace Go.Proofs.YtlgnagnmoleeiaaGreat.E.Pc
open Go.RowKit
set_option linter.unusedVariables false
set_option linter.unusedSimpArgs false
noncomputable abbrev fPP : Func := fnOf PP 5
noncomputable abbrev GPP (td : List Item) (σ : St) : Prop := Gd PP 5 (.v (bo true)) td σ
noncomputable def ppA (m : List Int) (raw E C D Y : List UInt8) (i : Nat) : St := at_ fPP [(3, zl m), (4, .sl (byL raw)), (12, .sl (byL E)), (13, .sl (byL C)), (15, .sl (byL D)), (16, .ow 14), (17, ni (i : Int))] [.dead, .dead, .dead, .dead, .dead, .dead, .dead, .dead, .dead, .dead, .dead, .dead, .dead, .dead, .rw 5 1 (byL Y)]
noncomputable def ppB (R : List (List V)) (i : Nat) : St := at_ fPP [(18, .sl R), (19, ni (i : Int))] []
def ppQ (m : List Int) (i : Nat) : Rat := Rat.divInt (1 + atz m i 2) 1
def ppY (m : List Int) (Y : List UInt8) (i : Nat) : List UInt8 := Y ++ (List.range i).flatMap fun j => encQ (ppQ m j)
section
variable {l m : List Int} {raw E B C D Y X0 X1 X2 X3 : List UInt8} {R : List (List V)} {p : Ct.Pi} {i k1 k2 : Nat} {att : Int} {b c1 : UInt8}
/-- All of the lists. -/
theorem pp_2 (hR : ∀ (i : Nat) (cs : List V), R[i]? = some cs → ∃ B : List UInt8, B.length ≤ 1000 ∧ cs = [.sl (byL B)]) (hn : R.length ≤ 100) : GPP (lp fPP 1) (ppB R 0) := by
 refine Gd.loop (ppB R) (fun i => i ≤ R.length) (fun i => R.length - i) ?_ 0 (Nat.zero_le _)
 intro i hi ih
 by_cases g : i < R.length
 · have nx := ih (i + 1) g (by omega)
   obtain ⟨cs, hcs, _⟩ := Ct.get_of g
   have hx : decide ((i : Int) < (R.length : Int)) = true := decide_eq_true (by omega)
   obtain ⟨B, hB, rfl⟩ := hR i cs hcs
   have d1 := e_pdecA B (by omega)
   have d2 := e_pdec12 B (by omega)
   obtain ⟨q1, q2, q3, q4, q5⟩ := dc_ok B hB
   unfold dcO at d1 d2
   generalize dcV B = r at *
   obtain ⟨q, n, e⟩ := r
   simp only at d1 d2 q1 q2 q3 q4 q5
   have sm := e_same12 q (by omega) (by omega) (by omega)
   have hnn : ((n : Int) != (n : Int)) = false := by simp
   have hl := byL_len B
   have e141 : ni ((byL B).length : Int) = ni (B.length : Int) := by rw [hl]
   unfold ppB at nx ⊢
   rcases q5 with rfl | rfl
   · obtain ⟨h1, h2, h3⟩ := q4 rfl
     have en := e_penc h2
     have s1 := Go.Proofs.YtlgnagnmoleeiaaGreat.E.e_same1 (encP q) (B.take n) (by rw [h3, List.length_take]; omega)
     rw [decide_eq_true h3] at s1
     have hs : ((byL B).take n).drop 0 = byL (B.take n) := by rw [List.drop_zero, byL_take]
     have hgt : decide ((n : Int) > (B.length : Int)) = false := decide_eq_false (by omega)
     exact .to mo_ [] [18, 19] [] 0 [ye hx, .sel _ _ _ hcs, cl d1, .sel _ _ _ hcs, cl d2, nf, na hnn, cl sm, nf, yt, .sel _ _ _ hcs, .eqv 141 _ _ e141, na hgt, cl en, .sel _ _ _ hcs, .slc (byL B) 0 n 1 (byL (B.take n)) hs (by omega) (byL_z _), cl s1, nf, inc 100 i (by omega)] nx (by kernel_rfl)
   · exact .to mo_ [] [18, 19] [] 0 [ye hx, .sel _ _ _ hcs, cl d1, .sel _ _ _ hcs, cl d2, nf, na hnn, cl sm, nf, nf, nf, inc 100 i (by omega)] nx (by kernel_rfl)
 · have hx : decide ((i : Int) < (R.length : Int)) = false := decide_eq_false (by omega)
   unfold ppB
   exact fi [na hx, cl e_lives] (by kernel_rfl) (by kernel_rfl)
theorem ppQ_ok (m : List Int) (i : Nat) : Fs (ppQ m i) ∧ (encQ (ppQ m i)).length ≤ 54 ∧ 2 ≤ (encQ (ppQ m i)).length := by
 have a := atz_in m i 2
 have bq : Bq 8 (ppQ m i) := bq8 (x := 1 + atz m i 2) (y := 1) (by omega) (by omega)
 have d := digR (bn_gen (bq.mono (k := 20) (by omega))) p1
 have h := encQ_up d
 exact ⟨⟨by omega, by omega⟩, by omega, by omega⟩
theorem ppY_next (m : List Int) (Y : List UInt8) (i : Nat) : ppY m Y (i + 1) = ppY m Y i ++ encQ (ppQ m i) := by unfold ppY; rw [List.range_succ, List.flatMap_append]; simp
theorem ppY_len (m : List Int) (Y : List UInt8) : ∀ i, (ppY m Y i).length ≤ Y.length + 54 * i
 | 0 => by simp [ppY]
 | i + 1 => by
  have h := ppY_len m Y i
  have := (ppQ_ok m i).2
  rw [ppY_next, List.length_append]
  omega
/-- The numbers; the lists. -/
theorem pp_1 (hm : ∀ x ∈ m, W.Is64 x) (hE : 10 ≤ E.length ∧ E.length ≤ 504) (hC : C.length ≤ 504) (hD : D.length ≤ 504) (hY : Y.length ≤ 200) : GPP (lp fPP 0) (ppA m raw E C D Y 0) := by
 have h00 : ppY m Y 0 = Y := by simp [ppY]
 rw [← h00]
 refine Gd.loop (fun i => ppA m raw E C D (ppY m Y i) i) (fun i => i ≤ 5) (fun i => 5 - i) ?_ 0 (Nat.zero_le _)
 intro i hi ih
 by_cases g : i < 5
 · have nx := ih (i + 1) g (by omega)
   have hx : decide ((i : Int) < 5) = true := decide_eq_true (by omega)
   have a := atz_in m i 2
   obtain ⟨fs, h1, h2⟩ := ppQ_ok m i
   have er := e_renc fs.fq
   have hap : byL (ppY m Y i) ++ byL (encQ (ppQ m i)) = byL (ppY m Y (i + 1)) := by rw [ppY_next, byL_app]
   have hl : (byL (ppY m Y (i + 1))).length ≤ 100000 := by
    have := ppY_len m Y (i + 1)
    rw [byL_len]; omega
   have hp : 0 < (byL (encQ (ppQ m i))).length := by rw [byL_len]; omega
   have co : Pure PP 26 [ni (1 + atz m i 2), ni 1] (.ag (dR (ppQ m i))) := e_of4 (x := 1 + atz m i 2) (y := 1) ⟨by omega, by omega⟩ ⟨by decide, by decide⟩
   unfold ppA at nx ⊢
   generalize ppY m Y i = A at *
   generalize ppY m Y (i + 1) = A' at *
   exact .to mo_ [.mv 14 16] [3, 4, 12, 13, 15, 16, 17] [14] 15 [ye hx, cl (Go.Proofs.YtlgnagnmoleeiaaGreat.E.e_at hm i 2), wq 81 (1 + atz m i 2) (1 + atz m i 2) (by omega), cl co, cl er, .app _ _ _ 100000 hap hp hl, inc 76 i (by omega)] nx (by kernel_rfl)
 have e : i = 5 := by omega
 subst e
 have hYl := ppY_len m Y 5
 have f1 := (e_few1 raw 300 (by omega)).ro
 have f2 := e_few1 raw 3 (by omega)
 have hE0 : 0 < (byL E).length := by rw [byL_len]; omega
 have hgl : (byL (raw.take 3 ++ E)).length ≤ 100000 := by rw [byL_len, List.length_append, List.length_take]; omega
 have x := x_apq (P := PP) (T := 39) (e := 5) (b := 0) (j := 1) (n := 1) (bytes := 1) (N := 100000) (by kernel_rfl) (by kernel_rfl) (by decide) (byL_app (raw.take 3) E) hE0 hgl (by kernel_rfl) (byL_ok _)
 have nn := pp_2 (R := [[.sl (byL C)], [.sl (byL D)], [.sl (byL (ppY m Y 5))], [.sl (byL (raw.take 300))], [.sl (byL (raw.take 3 ++ E))]]) (fun i cs h => by
  match i with
  | 0 => injection h with h; exact ⟨C, by omega, h.symm⟩
  | 1 => injection h with h; exact ⟨D, by omega, h.symm⟩
  | 2 => injection h with h; exact ⟨ppY m Y 5, by omega, h.symm⟩
  | 3 => injection h with h; exact ⟨raw.take 300, by rw [List.length_take]; omega, h.symm⟩
  | 4 => injection h with h; exact ⟨raw.take 3 ++ E, by rw [List.length_append, List.length_take]; omega, h.symm⟩
  | n + 5 => simp at h) (Nat.le_of_ble_eq_true rfl)
 unfold ppA
 unfold ppB at nn
 change Pure PP _ _ (.v (.sl (byL (raw.take 300)))) at f1
 generalize ppY m Y 5 = A at *
 generalize raw.take 3 ++ E = G at *
 generalize raw.take 3 = F3 at *
 generalize raw.take 300 = k1 at *
 refine .to mo_ [.fz 16] [4, 12, 13, 15, 16] [] 0 [nf] (td' := rg fPP 15) (σ' := at_ fPP [(4, .sl (byL raw)), (12, .sl (byL E)), (13, .sl (byL C)), (15, .sl (byL D)), (16, .sl (byL A))] []) ?_ (by kernel_rfl)
 exact .to mo_ [.fz 18] [18, 19] [] 0 [cl f1, cl f2, .ext (some 93) _ _ _ _ _ x] nn (by kernel_rfl)
/-- The beginning. -/
theorem pp_0 (cp : Pure PP 9 [zl l] (.ag p.v)) (en : Pure PP 15 [.ag p.v] (.o 5 1 (byL E))) (hE : 10 ≤ E.length ∧ E.length ≤ 504) (ha : W.Is64 att) (hm : ∀ x ∈ m, W.Is64 x) : Pure PP 5 [zl l, ni att, .k (.int .u8 (b.toNat : Int)), zl m, .sl (byL raw)] (bo true) := by
 have hl := byL_len E
 have e31 : ni ((byL E).length : Int) = ni (E.length : Int) := by rw [hl]
 have h10 : decide ((E.length : Int) < 10) = false := decide_eq_false (by omega)
 have e38 : ni ((byL E).length : Int) = ni ((E.length - 1 + 1 : Nat) : Int) := by
  rw [hl]
  congr 2
  omega
 have t7 : -9223372036854775808 ≤ Int.tdiv att 7 ∧ Int.tdiv att 7 ≤ 9223372036854775807 := tdiv_64 ha 7 (by omega)
 have a1 := Go.Proofs.YtlgnagnmoleeiaaGreat.E.e_around ha (E.length - 1)
 have a2 := Go.Proofs.YtlgnagnmoleeiaaGreat.E.e_around (n := Int.tdiv att 7) ⟨t7.1, t7.2⟩ (E.length - 1)
 have r1 := rnd_in att (E.length - 1)
 have r2 := rnd_in (Int.tdiv att 7) (E.length - 1)
 obtain ⟨k1, hk1⟩ : ∃ k : Nat, rnd att (E.length - 1) = (k : Int) := ⟨(rnd att (E.length - 1)).toNat, by omega⟩
 obtain ⟨k2, hk2⟩ : ∃ k : Nat, rnd (Int.tdiv att 7) (E.length - 1) = (k : Int) := ⟨(rnd (Int.tdiv att 7) (E.length - 1)).toNat, by omega⟩
 rw [hk1] at a1
 rw [hk2] at a2
 have g1 : k1 < E.length := by omega
 have s1 := byL_at g1
 have k0 := (E.getD k1 0).toNat_lt
 have k3 := b.toNat_lt
 obtain ⟨c1, x1⟩ : ∃ c1 : UInt8, bits BinOp.xor IntKind.u8 ((E.getD k1 0).toNat : Int) (b.toNat : Int) = (c1.toNat : Int) := by
  have hx : (E.getD k1 0).toNat ^^^ b.toNat < 2 ^ 8 := Nat.xor_lt_two_pow k0 k3
  rw [u8_xor_nat _ _ k0 k3]
  exact u8_c ⟨by omega, by omega⟩
 have u1 := byL_set c1 g1
 obtain ⟨C, hC⟩ : ∃ C, C = E.set k1 c1 := ⟨_, rfl⟩
 rw [← hC] at u1
 have hCl : C.length = E.length := by rw [hC, List.length_set]
 have g2 : k2 < C.length := by omega
 have s2 := byL_at g2
 have u2 := byL_set b g2
 obtain ⟨D, hD⟩ : ∃ D, D = C.set k2 b := ⟨_, rfl⟩
 rw [← hD] at u2
 have hDl : D.length = C.length := by rw [hD, List.length_set]
 have hlC := byL_len C
 have e56 : ni ((byL C).length : Int) = ni ((E.length - 1 + 1 : Nat) : Int) := by
  rw [hlC]
  congr 2
  omega
 have o : ∀ x : Int, -100 ≤ x ∧ x ≤ 100 → W.Is64 x := fun x h => ⟨by omega, by omega⟩
 have w1 := e_wints (l := [1, 2]) (fun x hx => by
  simp only [List.mem_cons, List.not_mem_nil, or_false] at hx
  rcases hx with rfl | rfl <;> exact o _ (by omega)) (Nat.le_of_ble_eq_true rfl)
 have w4 := e_wints (l := [0, 1, 2]) (fun x hx => by
  simp only [List.mem_cons, List.not_mem_nil, or_false] at hx
  rcases hx with rfl | rfl | rfl <;> exact o _ (by omega)) (Nat.le_of_ble_eq_true rfl)
 have m8 : (m.take 8).length ≤ 8 := by rw [List.length_take]; omega
 have m3 : (m.take 3).length ≤ 3 := by rw [List.length_take]; omega
 have w2 := e_wints (l := m.take 8) (fun x hx => hm x (List.mem_of_mem_take hx)) (by omega)
 have w3 := e_wints (l := m.take 3) (fun x hx => hm x (List.mem_of_mem_take hx)) (by omega)
 have t8 := e_take1 m 8 (by omega)
 have t3 := e_take1 m 3 (by omega)
 have l0 := lenI2 [1, 2]
 have l1 := lenI2 (m.take 8)
 have l2 := lenI2 (m.take 3)
 have l3 := lenI2 [0, 1, 2]
 have z1 := (wl_ (m.take 8) (by omega)).1
 have z2 := (wl_ (m.take 3) (by omega)).1
 have z3 := (wl_ [0, 1, 2] (Nat.le_of_ble_eq_true rfl)).1
 simp only [List.length_cons, List.length_nil] at l0 l3
 generalize W.encI [1, 2] = X0 at *
 generalize W.encI (m.take 8) = X1 at *
 generalize W.encI (m.take 3) = X2 at *
 generalize W.encI [0, 1, 2] = X3 at *
 have p1 := byL_app X0 X1
 have p2 := byL_app (X0 ++ X1) X2
 have p3 := byL_app (X0 ++ X1 ++ X2) X3
 have next := pp_1 (m := m) (raw := raw) (E := E) (C := C) (D := D) (Y := X0 ++ X1 ++ X2 ++ X3) hm hE (by omega) (by omega) (by simp only [List.length_append]; omega)
 have n1 : (byL (X0 ++ X1)).length ≤ 100000 := by rw [byL_len]; simp only [List.length_append]; omega
 have n2 : (byL (X0 ++ X1 ++ X2)).length ≤ 100000 := by rw [byL_len]; simp only [List.length_append]; omega
 have n3 : (byL (X0 ++ X1 ++ X2 ++ X3)).length ≤ 100000 := by rw [byL_len]; simp only [List.length_append]; omega
 unfold ppA at next
 generalize X0 ++ X1 ++ X2 ++ X3 = Y3 at *
 generalize X0 ++ X1 ++ X2 = Y2 at *
 generalize X0 ++ X1 = Y1 at *
 generalize E.length - 1 + 1 = L at *
 exact pf (by kernel_rfl) (.to mo_ [.fz 12, .fz 13, .fz 15] [3, 4, 12, 13, 15, 16, 17] [14] 15 [cl cp, cl en, .eqv 31 _ _ e31, na h10, .app [] (byL E) (byL E) 100000 rfl (by omega) (by omega), .eqv 38 _ _ e38, cl a1, .sel _ _ _ s1, .sel _ _ _ s1, .eqv 47 (.k (.int .u8 (bits BinOp.xor IntKind.u8 ((E.getD k1 0).toNat : Int) (b.toNat : Int)))) (.k (.int .u8 (c1.toNat : Int))) (by rw [x1]), .sel _ _ _ s1, .upd _ _ _ _ _ s1 u1, .app [] (byL C) (byL C) 100000 rfl (by omega) (by omega), wq 54 (Int.tdiv att 7) (Int.tdiv att 7) ⟨rfl, t7.1, t7.2⟩, .eqv 56 _ _ e56, cl a2, .sel _ _ _ s2, .upd _ _ _ _ _ s2 u2, cl w1, cl t8, cl w2, .app _ _ _ 100000 p1 (by rw [byL_len]; omega) n1, cl t3, cl w3, .app _ _ _ 100000 p2 (by rw [byL_len]; omega) n2, cl w4, .app _ _ _ 100000 p3 (by rw [byL_len]; omega) n3] next (by kernel_rfl))
theorem l_pparses {by_ : Int} (hl : ∀ x ∈ l, W.Is64 x) (ha : W.Is64 att) (hb : 0 ≤ by_ ∧ by_ < 256) (hm : ∀ x ∈ m, W.Is64 x) : Pure PP 5 [zl l, ni att, .k (.int .u8 by_), zl m, .sl (byL raw)] (bo true) := by
 obtain ⟨b, rfl⟩ := u8_c hb
 have cp := Ct.e_piece12 hl
 obtain ⟨en, g1, g2⟩ := en_p12 l
 exact pp_0 cp (e_penc en) ⟨g2, g1⟩ ha hm
end
end Go.Proofs.YtlgnagnmoleeiaaGreat.E.Pc
namespace Go.Proofs.YtlgnagnmoleeiaaGreat.E
open Go.RowKit
theorem u8_of {n : Int} (h : (Lit.int .u8 n).wf = true) : 0 ≤ n ∧ n < 256 := by
 have := bounds_u8 h
 omega
end Go.Proofs.YtlgnagnmoleeiaaGreat.E
