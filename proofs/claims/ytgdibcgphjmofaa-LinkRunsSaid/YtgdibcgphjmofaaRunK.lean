/-
 THE WALK of LinkRuns: the law.
-/
import Derived.Test.YtgdibcgphjmofaaRunJ
namespace Go.Proofs.Ytgdibcgphjmofaa
set_option maxHeartbeats 4000000
open Go.RowKit
open Go.Maps
set_option linter.unusedVariables false
set_option maxRecDepth 100000 in
theorem law_runs (win key : Int) (A : Option Addr) (len cap : Nat) (zs : List Int) (w : World) (hw : W.Is64 win) (hkey : 0 ≤ key ∧ key < 18446744073709551616) (hz : IsI w A len cap zs) :
  Calls Try.prog 3 #[.int .i64 win, .int .u64 key, .slice A len cap] w fun e w' => e = .returned (.bool true) ∧ Below w.heap.size w w' := by
 obtain ⟨hr, rfl, hc, hm, hz64⟩ := hz
 have HR := Lib.hid hr; have H64 := Lib.hid hz64; have HK := Lib.hid hkey
 have h1 := Pr.win_rng win 0
 have h2 := Pr.win_rng win 1
 unfold Pr.win at h1 h2
 simp only [if_true] at h1
 rw [if_neg (by omega)] at h2
 have ha1 : ∀ w, Calls Try.prog 10 #[.int .i64 win, .int .i64 16] w _ := fun w => ar_any win 16 w hw (by omega) (by omega)
 have hw2 : W.Is64 (win.tdiv 16) := is64_tdiv hw 16 (by omega)
 have hq : IntKind.i64.wrap (win.tdiv 16) = win.tdiv 16 := by unfold W.Is64 at hw2; rw [IntKind.wrap_i64]; omega
 have ha2 : ∀ w, Calls Try.prog 10 #[.int .i64 (win.tdiv 16), .int .i64 16] w _ := fun w => ar_any (win.tdiv 16) 16 w hw2 (by omega) (by omega)
 have e1 : Pr.win win 0 = 1 + K.ar win 16 := by unfold Pr.win; rw [if_pos rfl]
 have e2 : Pr.win win 1 = 1 + K.ar (win.tdiv 16) 16 := by unfold Pr.win; rw [if_neg (by omega)]
 generalize hx1 : K.ar win 16 = x1 at *
 generalize hx2 : K.ar (win.tdiv 16) 16 = x2 at *
 have HA1 := Lib.hid ha1; have HA2 := Lib.hid ha2; have HE1 := Lib.hid e1; have HE2 := Lib.hid e2
 have he := ends_any win key w hw
 have HE := Lib.hid he
 obtain ⟨N, hN⟩ : ∃ N, N = zs.length := ⟨_, rfl⟩
 rw [← hN] at hc ⊢
 have HN := Lib.hid hN
 have hNb : N ≤ 9223372036854775807 := by unfold maxLen at hm; omega
 clear hr hz64 hkey he hw hN hm hc ha1 ha2 e1 e2 hx1 hx2 hw2
 go_enter Try.func3, Try.ntmps3
 go_wp2_with fail
 refine HE.out.mono ?_
 rintro e w1 ⟨ge, ef, rfl, hxe, hE, k2, hge⟩
 have HXE := Lib.hid hxe; have HEE := Lib.hid hE; have k3 := Lib.hid k2; have HGE := Lib.hid hge
 have hqe := Lib.run_eql_slice_nil (P := Try.prog) w1 24 35 (some ⟨ge, 0, none⟩) 2 2 0 0 Try.underlying24
 clear hxe hE k2 hge HE
 go_wp2_with fail
 refine (HA1.out _).mono ?_
 rintro e w1' ⟨rfl, rfl⟩
 go_wp2_with fail
 refine (HA2.out _).mono ?_
 rintro e w1' ⟨rfl, hw1'⟩
 subst hw1'
 go_upto_region 5 with fail
 generalize hW2 : ((w1.alloc (.cells _ 31)).alloc (.cells _ 31)).alloc (.cells _ 26) = w2
 obtain ⟨hx2, hg2, hm2, k0⟩ := box3 hW2
 have hgl : ge < w1.heap.size := HXE.out.lt
 have hs2 := hm2.lt
 have HM : Hid (Rn.Mem w.heap.size ge (w1.heap.size + 1 + 1) ef (fun k => if k = 0 then w1.heap.size else w1.heap.size + 1) w2 (fun k => [if k = 0 then w1.heap.size else w1.heap.size + 1]) (.slice none 0 0) (.slice none 0 0) (fun k => K.E0 (Pr.win win k) key) (Rn.R0 win key) [] []) := Lib.hid (by
  have hws : w.heap.size ≤ w1.heap.size := k3.out.size
  refine ⟨fun i j hi hj hij x hx hy => ?_, Rn.adds HEE.out k0 (fun k hk => ?_) (fun k hk => ?_), fun k hk => ?_, fun k hk x hx => ?_, HXE.out.below k0, hm2, ⟨HGE.out, by omega⟩, ⟨[], World.ownsRow_nil _ _ _ _, Vs.nil _⟩, World.ownsRow_nil _ _ _ _⟩
  ·rcases i with _ | _ | _ | _ | _ | _ | i <;> rcases j with _ | _ | _ | _ | _ | _ | j <;> first | omega | (simp [Rn.cp, ob, Value.ownBlock] at hx hy <;> omega)
  ·simp [Rn.ks, Rn.cp, ob, Value.ownBlock] at hk ⊢
   omega
  ·simp [Rn.ks, Rn.cp, ob, Value.ownBlock] at hk
   omega
  ·match k, hk with
   | 0, _ => exact Rn.R0_end (by rw [HE1.out]; exact hx2)
   | 1, _ => exact Rn.R0_end (by rw [HE2.out]; exact hg2)
  ·simp at hx
   split at hx <;> omega)
 have k4 := Lib.hid (Blw k3.out k0)
 obtain ⟨gm, hgm⟩ : ∃ g, g = w1.heap.size + 1 + 1 := ⟨_, rfl⟩
 rw [← hgm] at HM ⊢
 obtain ⟨mf, hmf⟩ : ∃ mf : Nat → Nat, mf = (fun k => if k = 0 then w1.heap.size else w1.heap.size + 1) := ⟨_, rfl⟩
 rw [← hmf] at HM
 have HI : Hid (Rn.All 0 (fun k => K.E0 (Pr.win win k) key) (Rn.R0 win key) [] []) := Lib.hid ⟨fun k hk => rfl, fun k hk => Rn.R0_inv HK.out k, ⟨rfl, Nat.le_refl _⟩, by simp, by simp⟩
 clear hW2 hx2 hg2 hm2 k0 hgl hs2 hgm hmf HXE HEE k3 hqe HGE HA1 HA2 HE1 HE2 h1 h2 hq
 go_wp2_with fail
 go_loopw [9, 10, 11] (fun s9 s10 s11 wr => ∃ (i : Nat) (Sf : Nat → K.E) (Rf : Nat → Rn.E) (ow : Nat → List Nat) (P : List (List UInt8)) (T : List Nat), i ≤ 60 ∧ s11 = .int .i64 (i : Int) ∧ Hid (Rn.Mem w.heap.size ge gm ef mf wr ow s9 s10 Sf Rf P T) ∧ Hid (Rn.All i Sf Rf P T) ∧ Hid (Below w.heap.size w wr)) (fun _ _ ix _ => (60 - (intOf ix).toNat))
 case atStart => exact ⟨0, _, _, _, _, _, by omega, rfl, HM, HI, k4⟩
 case round =>
  clear HM HI k4
  obtain ⟨i, Sf, Rf, ow, P, T, hi80, rfl, HM, HI, HB⟩ := hrel
  obtain ⟨wq, rfl⟩ : ∃ wq : World, wq = wr := ⟨_, rfl⟩
  by_cases hiN : i < N
  ·have hd1 := decide_eq_true (show (i : Int) < (N : Int) by omega)
   have hi3 : (i : Int) < (N : Int) := by omega
   have hi4 : (0 : Int) ≤ (i : Int) := by omega
   by_cases hi : i < 60
   ·have hd2 := decide_eq_true (show (i : Int) < 60 by omega)
    have hi5 : (i : Int) < 60 := by omega
    obtain ⟨b, o, rfl, hbw, hcell⟩ := HR.out (by have h := HN.out; simp [ic]; omega)
    obtain ⟨z, hz⟩ : ∃ z, zs[i]? = some z := ⟨_, List.getElem?_eq_getElem (by rw [← HN.out]; omega)⟩
    have hz64 := H64.out z (List.mem_of_getElem? hz)
    have f1 : wq.cell? ⟨b, o + i, none⟩ = some (.int .i64 z) := (HB.out.cell (p := ⟨b, o + i, none⟩) hbw).trans (hcell i _ (by simp [ic, hz]))
    have hq8 : IntKind.i64.wrap (z.tdiv 8) = z.tdiv 8 := by have h := is64_tdiv hz64 8 (by omega); unfold W.Is64 at h; rw [IntKind.wrap_i64]; omega
    obtain ⟨n, hn, hnb⟩ := K.ar_nat (z.tdiv 8) 1073741824 (by omega)
    obtain ⟨h, hh, hhb⟩ := K.ar_nat z 8 (by omega)
    have hn : K.ar (z.tdiv 8) 1073741824 = (n : Int) := hn
    have hh : K.ar z 8 = (h : Int) := hh
    have HA1 : Hid (∀ w, Calls Try.prog 10 #[.int .i64 (z.tdiv 8), .int .i64 1073741824] w fun e w' => e = .returned (.int .i64 (n : Int)) ∧ w = w') := Lib.hid (fun w => by
     have h := ar_any (z.tdiv 8) 1073741824 w (is64_tdiv hz64 8 (by omega)) (by omega) (by omega); rw [hn] at h; exact h)
    have HA2 : Hid (∀ w, Calls Try.prog 10 #[.int .i64 z, .int .i64 8] w fun e w' => e = .returned (.int .i64 (h : Int)) ∧ w = w') := Lib.hid (fun w => by
     have h := ar_any z 8 w hz64 (by omega) (by omega); rw [hh] at h; exact h)
    obtain ⟨k, hk, hk2, hk3, hk4⟩ : ∃ k : Nat, Int.tmod (n : Int) 2 = (k : Int) ∧ k < 2 ∧ (k : Int) < 2 ∧ (0 : Int) ≤ (k : Int) := ⟨n % 2, rem2 n, by omega, by omega, by omega⟩
    clear hcell hz hn hh
    go_wp2_with fail
    refine (HA1.out _).mono ?_
    rintro e w3 ⟨rfl, rfl⟩
    go_wp2_with fail
    refine (HA2.out _).mono ?_
    rintro e w3 ⟨rfl, rfl⟩
    clear HA1 HA2 hz64 f1 hq8
    go_upto_block 2 with fail
    go_cut [9, 10, 14, 15, 16, 17, 18, 19, 20, 21, 22, 23] from 44 to 256 (fun s9 s10 s14 s15 s16 s17 s18 s19 s20 s21 s22 s23 wx => ∃ (Sf : Nat → K.E) (Rf : Nat → Rn.E) (ow : Nat → List Nat) (P : List (List UInt8)) (T : List Nat), Hid (Rn.Mem w.heap.size ge gm ef mf wx ow s9 s10 Sf Rf P T) ∧ Hid (Rn.All (i + 1) Sf Rf P T) ∧ Hid (Below w.heap.size w wx))
    case first =>
     have hcase : h = 0 ∨ h = 1 ∨ h = 2 ∨ h = 3 ∨ 4 ≤ h := by omega
     rcases hcase with rfl | rfl | rfl | rfl | h4
     ·refine rn_send0 w wq ge gm i n k _ ef mf Sf Rf ow P T key u9 u10 HK hi hnb hk2 hk3 hk4 HM HI HB rfl _ _ _ _ _ _ _ _ _ _ _ _ _ _ _ _ _ _ _ _ _ _ _ _ _ _ _ _ _ _ _ _ _ _ _ _ _ _ _ _ _ _ _ _ _ _ _ _ _ _ _ _ _ _ _ _ _ _ _ _ _ _ _ _ _ _ _ _ _ _ _ _ _ _ _ _ _ _ _ _ _ _ _ _ _ _ _ _ _ _ _ _ _ _ _ _ _ _ _ _ _ _ _ _ _ _ _ _ _ _ _ _ _ _ _ _ _ _ _ _ _ _ _ _ _ _ _ _ _ _ _ _ _ _ _ _ _ _ _ _ _ _ _ _ _ _ _ _ _ _ _ _ _ _ _ _ _ _ _ _ _ _ _ _ _ _ _ _ _ _ _ _ _ _ _ _ _ _ _ _ _ _ _ _ _ _ _ _ _ _ _ _ _ _ _ _ _ _ _ _ _ _ _ _ _ _ _ _ _ _ _ _ _ _ _ _ _ _ _ _ _ _ _ _ _ _ _ _ _ _ _ _ _ _ _ _ _ _ _ _ _ _ _ _ _ _ _ _ _ ?_
      intros; rename_i hS_
      go_wp2
      go_meet
      exact hS_
     ·refine rn_send1 w wq ge gm i n k _ ef mf Sf Rf ow P T key u9 u10 HK hi hnb hk2 hk3 hk4 HM HI HB rfl _ _ _ _ _ _ _ _ _ _ _ _ _ _ _ _ _ _ _ _ _ _ _ _ _ _ _ _ _ _ _ _ _ _ _ _ _ _ _ _ _ _ _ _ _ _ _ _ _ _ _ _ _ _ _ _ _ _ _ _ _ _ _ _ _ _ _ _ _ _ _ _ _ _ _ _ _ _ _ _ _ _ _ _ _ _ _ _ _ _ _ _ _ _ _ _ _ _ _ _ _ _ _ _ _ _ _ _ _ _ _ _ _ _ _ _ _ _ _ _ _ _ _ _ _ _ _ _ _ _ _ _ _ _ _ _ _ _ _ _ _ _ _ _ _ _ _ _ _ _ _ _ _ _ _ _ _ _ _ _ _ _ _ _ _ _ _ _ _ _ _ _ _ _ _ _ _ _ _ _ _ _ _ _ _ _ _ _ _ _ _ _ _ _ _ _ _ _ _ _ _ _ _ _ _ _ _ _ _ _ _ _ _ _ _ _ _ _ _ _ _ _ _ _ _ _ _ _ _ _ _ _ _ _ _ _ _ _ _ _ _ _ _ _ _ _ _ _ _ ?_
      intros; rename_i hS_
      go_wp2
      go_meet
      exact hS_
     ·refine rn_out2 w wq ge gm i n k _ ef mf Sf Rf ow P T key u9 u10 HK hi hnb hk2 hk3 hk4 HM HI HB rfl _ _ _ _ _ _ _ _ _ _ _ _ _ _ _ _ _ _ _ _ _ _ _ _ _ _ _ _ _ _ _ _ _ _ _ _ _ _ _ _ _ _ _ _ _ _ _ _ _ _ _ _ _ _ _ _ _ _ _ _ _ _ _ _ _ _ _ _ _ _ _ _ _ _ _ _ _ _ _ _ _ _ _ _ _ _ _ _ _ _ _ _ _ _ _ _ _ _ _ _ _ _ _ _ _ _ _ _ _ _ _ _ _ _ _ _ _ _ _ _ _ _ _ _ _ _ _ _ _ _ _ _ _ _ _ _ _ _ _ _ _ _ _ _ _ _ _ _ _ _ _ _ _ _ _ _ _ _ _ _ _ _ _ _ _ _ _ _ _ _ _ _ _ _ _ _ _ _ _ _ _ _ _ _ _ _ _ _ _ _ _ _ _ _ _ _ _ _ _ _ _ _ _ _ _ _ _ _ _ _ _ _ _ _ _ _ _ _ _ _ _ _ _ _ _ _ _ _ _ _ _ _ _ _ _ _ _ _ _ _ _ _ _ _ _ _ _ _ _ ?_
      intros; rename_i hS_
      go_wp2
      go_meet
      exact hS_
     ·refine rn_out3 w wq ge gm i n k _ ef mf Sf Rf ow P T key u9 u10 HK hi hnb hk2 hk3 hk4 HM HI HB rfl _ _ _ _ _ _ _ _ _ _ _ _ _ _ _ _ _ _ _ _ _ _ _ _ _ _ _ _ _ _ _ _ _ _ _ _ _ _ _ _ _ _ _ _ _ _ _ _ _ _ _ _ _ _ _ _ _ _ _ _ _ _ _ _ _ _ _ _ _ _ _ _ _ _ _ _ _ _ _ _ _ _ _ _ _ _ _ _ _ _ _ _ _ _ _ _ _ _ _ _ _ _ _ _ _ _ _ _ _ _ _ _ _ _ _ _ _ _ _ _ _ _ _ _ _ _ _ _ _ _ _ _ _ _ _ _ _ _ _ _ _ _ _ _ _ _ _ _ _ _ _ _ _ _ _ _ _ _ _ _ _ _ _ _ _ _ _ _ _ _ _ _ _ _ _ _ _ _ _ _ _ _ _ _ _ _ _ _ _ _ _ _ _ _ _ _ _ _ _ _ _ _ _ _ _ _ _ _ _ _ _ _ _ _ _ _ _ _ _ _ _ _ _ _ _ _ _ _ _ _ _ _ _ _ _ _ _ _ _ _ _ _ _ _ _ _ _ _ _ ?_
      intros; rename_i hS_
      go_wp2
      go_meet
      exact hS_
     ·by_cases hp0 : P.length = 0
      ·have k6 : ((h : Int) == 0) = false := by rw [beq_eq_false_iff_ne]; omega
       have k2 : ((h : Int) == 1) = false := by rw [beq_eq_false_iff_ne]; omega
       have k0 : ((h : Int) == 2) = false := by rw [beq_eq_false_iff_ne]; omega
       have k7 : ((h : Int) == 3) = false := by rw [beq_eq_false_iff_ne]; omega
       obtain ⟨Aq, cq, rfl, hcq, hmq⟩ := HM.out.rp.form
       rw [hp0] at HM ⊢
       have HI6 := Lib.hid HI.out.skip
       clear hcq hmq hp0
       go_wp2
       exact ⟨⟨i + 1, Sf, Rf, ow, P, T, by omega, by go_num, HM, HI6, HB⟩, by simp [intOf]; omega⟩
      ·refine rn_in w wq ge gm i n k h ef mf Sf Rf ow P T key u9 u10 HK hi hnb hk2 hk3 hk4 HM HI HB h4 hp0 _ _ _ _ _ _ _ _ _ _ _ _ _ _ _ _ _ _ _ _ _ _ _ _ _ _ _ _ _ _ _ _ _ _ _ _ _ _ _ _ _ _ _ _ _ _ _ _ _ _ _ _ _ _ _ _ _ _ _ _ _ _ _ _ _ _ _ _ _ _ _ _ _ _ _ _ _ _ _ _ _ _ _ _ _ _ _ _ _ _ _ _ _ _ _ _ _ _ _ _ _ _ _ _ _ _ _ _ _ _ _ _ _ _ _ _ _ _ _ _ _ _ _ _ _ _ _ _ _ _ _ _ _ _ _ _ _ _ _ _ _ _ _ _ _ _ _ _ _ _ _ _ _ _ _ _ _ _ _ _ _ _ _ _ _ _ _ _ _ _ _ _ _ _ _ _ _ _ _ _ _ _ _ _ _ _ _ _ _ _ _ _ _ _ _ _ _ _ _ _ _ _ _ _ _ _ _ _ _ _ _ _ _ _ _ _ _ _ _ _ _ _ _ _ _ _ _ _ _ _ _ _ _ _ _ _ _ _ _ _ _ _ _ _ _ _ _ _ _ ?_
       intros; rename_i hS_
       go_wp2
       go_meet
       exact hS_
    case rest =>
     obtain ⟨Sf, Rf, ow, P, T, HM, HI, HB⟩ := hcut
     obtain ⟨w13, rfl⟩ : ∃ w13 : World, w13 = wc := ⟨_, rfl⟩
     go_wp2_with fail
     go_loopw [24] (fun s24 wr => ∃ j : Nat, j ≤ 2 ∧ s24 = .int .i64 (j : Int) ∧ Hid (Below w13.heap.size w13 wr)) (fun ix _ => (2 - (intOf ix).toNat))
     case atStart => exact ⟨0, by omega, rfl, Lib.hid (Below.refl _ _)⟩
     case round =>
      obtain ⟨j, hj2, rfl, HBJ⟩ := hrel
      obtain ⟨wo, rfl⟩ : ∃ wo : World, wo = wr := ⟨_, rfl⟩
      by_cases hj : j < 2
      ·have hjd := decide_eq_true (show (j : Int) < 2 by omega)
       have hj3 : (j : Int) < 2 := by omega
       have hj4 : (0 : Int) ≤ (j : Int) := by omega
       have hmj := HM.out.below HBJ.out
       have hwl := HI.out.wait hj
       have hfo := HI.out.forg hj
       have hsl := (HI.out.i j hj).s.1
       obtain ⟨sv, hv, us, vs, hx, hs, -⟩ := hmj.re j hj
       obtain ⟨As, cs, rfl, -⟩ := own_form hs
       unfold Rn.cells at hx
       obtain ⟨ns, hns⟩ : ∃ ns, ns = (Rf j).sent.length := ⟨_, rfl⟩
       obtain ⟨wl, hwe⟩ : ∃ wl, wl = (Sf j).wait.length := ⟨_, rfl⟩
       obtain ⟨fg, hfg⟩ : ∃ fg, fg = (Rf j).forged := ⟨_, rfl⟩
       obtain ⟨ak, hak⟩ : ∃ ak, ak = (Rf j).acked := ⟨_, rfl⟩
       rw [← hns, ← hfg, ← hak] at hx
       rw [← hns, ← hwe, ← hak] at hwl
       rw [← hfg] at hfo
       rw [← hns] at hsl
       have hwb : wl ≤ 100 := by
        have h1 := (HI.out.i j hj).a
        rw [← hns, ← hak] at h1
        omega
       have hsub3 : IntKind.i64.wrap ((ns : Int) - ak) = (wl : Int) := by rw [IntKind.wrap_i64]; omega
       have HCE : Hid (∀ wx, Below wo.heap.size wo wx → wx.cell? ⟨ge, j, none⟩ = some (.pointer (some ⟨ef j, 0, none⟩))) := Lib.hid (fun wx hb => (hmj.xe.below hb).cell (two_get (f := pv ef) hj))
       have HCM : Hid (∀ wx, Below wo.heap.size wo wx → wx.cell? ⟨gm, j, none⟩ = some (.pointer (some ⟨mf j, 0, none⟩))) := Lib.hid (fun wx hb => (hmj.xm.below hb).cell (two_get (f := pv mf) hj))
       have HF2 : Hid (∀ wx, Below wo.heap.size wo wx → wx.cell? ⟨mf j, 2, none⟩ = some (.slice As ns cs)) := Lib.hid (fun wx hb => (hx.below hb).cell rfl)
       have HF3 : Hid (∀ wx, Below wo.heap.size wo wx → wx.cell? ⟨mf j, 3, none⟩ = some (.int .i64 ak)) := Lib.hid (fun wx hb => (hx.below hb).cell rfl)
       have HF7 : Hid (∀ wx, Below wo.heap.size wo wx → wx.cell? ⟨mf j, 7, none⟩ = some (.int .i64 fg)) := Lib.hid (fun wx hb => (hx.below hb).cell rfl)
       have HWT : Hid (∀ wx, Below wo.heap.size wo wx → Calls Try.prog 21 #[.pointer (some ⟨ef j, 0, none⟩)] wx fun e w' => e = .returned (.int .i64 (wl : Int)) ∧ wx = w') := Lib.hid (fun wx hb => by
        have h := m_wait (hmj.below hb) (k := j) hj
        rwa [← hwe] at h)
       have HFG : Hid (∀ wx, Below wo.heap.size wo wx → Calls Try.prog 22 #[.pointer (some ⟨ef j, 0, none⟩)] wx fun e w' => e = .returned (.int .i64 fg) ∧ wx = w') := Lib.hid (fun wx hb => by
        have h := m_forg (hmj.below hb) (k := j) hj
        rwa [hfo] at h)
       clear hmj hwl hfo hsl hx hs hns hwe hfg hak hwb
       go_upto_region 45 with fail
       refine rn_reg45 wo ge gm j ns cs wl ef mf As ak fg hj3 hj4 hsub3 HCE HCM HF2 HF3 HF7 HWT HFG _ _ _ _ _ _ _ _ _ _ _ _ _ _ _ _ _ _ _ _ _ _ _ _ _ _ _ _ _ _ _ _ _ _ _ _ _ _ _ _ _ _ _ _ _ _ _ _ _ _ _ _ _ _ _ _ _ _ _ _ _ _ _ _ _ _ _ _ _ _ _ _ _ _ _ _ _ _ _ _ _ _ _ _ _ _ _ _ _ _ _ _ _ _ _ _ _ _ _ _ _ _ _ _ _ _ _ _ _ _ _ _ _ _ _ _ _ _ _ _ _ _ _ _ _ _ _ _ _ _ _ _ _ _ _ _ _ _ _ _ _ _ _ _ _ _ _ _ _ _ _ _ _ _ _ _ _ _ _ _ _ _ _ _ _ _ _ _ _ _ _ _ _ _ _ _ _ _ _ _ _ _ _ _ _ _ _ _ _ _ _ _ _ _ _ _ _ _ _ _ _ _ _ _ _ _ _ _ _ _ _ _ _ _ _ _ _ _ _ _ _ _ _ _ _ _ _ _ _ _ _ _ _ _ _ _ _ _ _ _ _ _ _ _ _ _ _ _ _ _ _ _ _ _ _ (fun val wx hBo => ?_)
       have k5 := Lib.hid (Blw HBJ.out hBo)
       clear hBo HCE HCM HF2 HF3 HF7 HWT HFG HBJ
       go_wp2
       exact ⟨⟨j + 1, by omega, by go_num, k5⟩, by simp [intOf]; omega⟩
      ·have hjd := decide_eq_false (show ¬ (j : Int) < 2 by omega)
       have HM9 := Lib.hid (HM.out.below HBJ.out)
       have k1 := Lib.hid (Blw HB.out HBJ.out)
       go_wp2
       exact ⟨⟨i + 1, Sf, Rf, ow, P, T, by omega, by go_num, HM9, HI, k1⟩, by simp [intOf]; omega⟩
   ·have hd2 := decide_eq_false (show ¬ (i : Int) < 60 by omega)
    have hi5 : ¬ (i : Int) < 60 := by omega
    go_wp2_with fail
    refine (lives_any _).mono ?_
    rintro e w16 ⟨rfl, hb⟩
    have k1 := Lib.hid (Blw HB.out hb)
    clear hb
    go_wp2
    go_ret
    exact ⟨rfl, k1.out⟩
  ·have hd1 := decide_eq_false (show ¬ (i : Int) < (N : Int) by omega)
   have hi3 : ¬ (i : Int) < (N : Int) := by omega
   go_wp2_with fail
   refine (lives_any _).mono ?_
   rintro e w16 ⟨rfl, hb⟩
   have k1 := Lib.hid (Blw HB.out hb)
   clear hb
   go_wp2
   go_ret
   exact ⟨rfl, k1.out⟩
end Go.Proofs.Ytgdibcgphjmofaa
