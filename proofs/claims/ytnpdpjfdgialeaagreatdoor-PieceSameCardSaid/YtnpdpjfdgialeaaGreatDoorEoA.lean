/-
 AN ITERATOR of package polygon, for the second engine.
-/
import Derived.Test.YtnpdpjfdgialeaaGreatDoorEyG
import Derived.Test.YtnpdpjfdgialeaaGreatDoorEyB
import Derived.Test.YtnpdpjfdgialeaaGreatDoorWalkPgK
import Derived.Sort.CutIn
import Derived.Test.YtnpdpjfdgialeaaGreatDoorEwB
namespace Go.Proofs.YtnpdpjfdgialeaaGreatDoor.E.Pc
open Go.RowKit
set_option linter.unusedVariables false
set_option linter.unusedSimpArgs false
section
variable {L : List Vc} {R : List Nat} {b p q m n i j : Nat} {k : Int} {A T : List (List Nat)}
theorem earP_lt (h : 0 < R.length) : earP L R < R.length := by
 unfold earP
 cases e : (List.range (R.length - 1)).find? (earB L R) with
 | none => show R.length - 1 < _; omega
 | some p => have := List.mem_range.1 (List.mem_of_find?_eq_some e); show p < _; omega
theorem app1 (A : List (List Nat)) (t : List Nat) {N : Nat} (h : A.length + 1 ≤ N) : (oR (A ++ [t])).length ≤ N := by
 have : (oR (A ++ [t])).length = (A ++ [t]).length := List.length_map ..
 rw [this, List.length_append]
 exact h
noncomputable def ctT (L : List Vc) (R : List Nat) (A : List (List V)) (p : Nat) : St := ctS L R A [(6, ni (p : Int))]
/-- The round, from the search for an ear on. -/
theorem ct_in (h : Rm L R b) (hd : R.Nodup) (h3 : 3 < R.length) (hA : A.length ≤ 1000) (next : GC T (lp fct 0) (ctS L (clearR L (R.eraseIdx (earP L R))) (oR (A ++ [[pv R (earP L R), md R (earP L R), nx R (earP L R)]])) [])) : GC T (lp fct 1) (ctT L R (oR A) 0) := by
 have hn := h.n
 refine Gd.loop (ctT L R (oR A)) (fun p => p ≤ R.length - 1 ∧ ∀ t, t < p → earB L R t = false) (fun p => R.length - p) ?_ 0 ⟨Nat.zero_le _, fun t ht => by omega⟩
 intro p ⟨hp, hall⟩ ih
 have hap := oR_app A [pv R p, md R p, nx R p]
 have hl := app1 A [pv R p, md R p, nx R p] (N := 2000) (by omega)
 have cc := e_cut h hd (p := p) (by omega) h3
 by_cases g : p < R.length - 1
 · have hx : decide ((p : Int) < ((R.length - 1 : Nat) : Int)) = true := decide_eq_true (by omega)
   have ce := e_ear h (p := p) (by omega)
   cases he : earB L R p with
   | false =>
     rw [he] at ce
     have nx := ih (p + 1) ⟨by omega, fun t ht => by
      rcases Nat.lt_or_ge t p with h5 | h5
      · exact hall t h5
      · have : t = p := by omega
        subst this
        exact he⟩ (by omega)
     unfold ctT ctS at nx ⊢
     unfold oA at nx ⊢
     generalize oR A = B at *
     exact .to mo_ [] [0, 4, 5, 6] [0, 1, 2] 3 [nL 20 0, .eqv 23 (ni ((zs (cI R)).length : Int)) (ni (R.length : Int)) (by rw [cI_len]), wq 24 ((R.length : Int) - 1) ((R.length - 1 : Nat) : Int) (by omega), ye hx, cl ce, yt, inc 33 p (by omega)] nx (by kernel_rfl)
   | true =>
     rw [he] at ce
     have hP : earP L R = p := by
      unfold earP
      rw [find_some g he hall]
      rfl
     rw [hP] at next
     rw [← hap] at next hl
     unfold ctT
     unfold ctS at next ⊢
     unfold oA at next cc ⊢
     unfold cA cB at cc
     generalize oR A = B at *
     generalize clearR L (R.eraseIdx p) = R' at *
     rcases cc with cc | cc
     · exact .to mo_ [.mv 1 5, .mv 2 7] [0, 4, 5] [0, 1, 2] 3 [nL 20 0, .eqv 23 (ni ((zs (cI R)).length : Int)) (ni (R.length : Int)) (by rw [cI_len]), wq 24 ((R.length : Int) - 1) ((R.length - 1 : Nat) : Int) (by omega), ye hx, cl ce, nf, .lend _ _ _ _ [0, 1] cc, .app B [trV R p] _ 2000 rfl (show 0 < 1 by decide) hl] next (by kernel_rfl)
     · exact .to mo_ [.mv 1 7, .mv 2 9] [0, 4, 5] [0, 1, 2] 3 [nL 20 0, .eqv 23 (ni ((zs (cI R)).length : Int)) (ni (R.length : Int)) (by rw [cI_len]), wq 24 ((R.length : Int) - 1) ((R.length - 1 : Nat) : Int) (by omega), ye hx, cl ce, nf, .lend _ _ _ _ [0, 1] cc, .app B [trV R p] _ 2000 rfl (show 0 < 1 by decide) hl] next (by kernel_rfl)
 · have hx : decide ((p : Int) < ((R.length - 1 : Nat) : Int)) = false := decide_eq_false (by omega)
   have hP : earP L R = p := by
    unfold earP
    have : (List.range (R.length - 1)).find? (earB L R) = none := find_none fun t ht => hall t (by omega)
    rw [this]
    show R.length - 1 = p
    omega
   rw [hP] at next
   rw [← hap] at next hl
   unfold ctT
   unfold ctS at next ⊢
   unfold oA at next cc ⊢
   unfold cA cB at cc
   generalize oR A = B at *
   generalize clearR L (R.eraseIdx p) = R' at *
   rcases cc with cc | cc
   · exact .to mo_ [.mv 1 5, .mv 2 7] [0, 4, 5] [0, 1, 2] 3 [nL 20 0, .eqv 23 (ni ((zs (cI R)).length : Int)) (ni (R.length : Int)) (by rw [cI_len]), wq 24 ((R.length : Int) - 1) ((R.length - 1 : Nat) : Int) (by omega), na hx, nf, .lend _ _ _ _ [0, 1] cc, .app B [trV R p] _ 2000 rfl (show 0 < 1 by decide) hl] next (by kernel_rfl)
   · exact .to mo_ [.mv 1 7, .mv 2 9] [0, 4, 5] [0, 1, 2] 3 [nL 20 0, .eqv 23 (ni ((zs (cI R)).length : Int)) (ni (R.length : Int)) (by rw [cI_len]), wq 24 ((R.length : Int) - 1) ((R.length - 1 : Nat) : Int) (by omega), na hx, nf, .lend _ _ _ _ [0, 1] cc, .app B [trV R p] _ 2000 rfl (show 0 < 1 by decide) hl] next (by kernel_rfl)
/-- All rounds. -/
theorem ct_loop : ∀ (n : Nat) (R : List Nat) (A : List (List Nat)), Rm L R b → R.Nodup → 3 ≤ R.length → R.length ≤ n + 3 → A.length + n ≤ 1000 → A ++ cutF L n R = T → GC T (lp fct 0) (ctS L R (oR A) []) := by
 intro n
 induction n with
 | zero =>
  intro R A h hd h3 hn hA hT
  have := ct_end (A := A) h (by omega) (by omega)
  rw [← hT]
  exact this
 | succ n ih =>
  intro R A h hd h3 hn hA hT
  by_cases g : 3 < R.length
  · have hp := earP_lt (L := L) (R := R) (by omega)
    obtain ⟨a1, a2, a3, a4⟩ := clear_inv (R.eraseIdx (earP L R)).length (R.eraseIdx (earP L R)) (h.erase hp (by omega)) (nd_erase hd) (by rw [List.length_eraseIdx_of_lt hp]; omega)
    have e : cutF L (n + 1) R = [pv R (earP L R), md R (earP L R), nx R (earP L R)] :: cutF L n (clearR L (R.eraseIdx (earP L R))) := by
     show (if 3 < R.length then _ else _) = _
     rw [if_pos g]
    have nx := ih (clearR L (R.eraseIdx (earP L R))) (A ++ [[pv R (earP L R), md R (earP L R), nx R (earP L R)]]) a1 a2 a3 (by
      have : (clearR L (R.eraseIdx (earP L R))).length ≤ _ := a4
      rw [List.length_eraseIdx_of_lt hp] at this
      omega) (by rw [List.length_append]; simp; omega) (by rw [← hT, e, List.append_assoc]; rfl)
    have nn := ct_in h hd g (by omega) nx
    have q := gt_3 R
    rw [decide_eq_true g] at q
    unfold ctT at nn
    unfold ctS at nn ⊢
    unfold oA at nn ⊢
    generalize oR A = B at *
    exact .to mo_ [] [0, 4, 5, 6] [0, 1, 2] 3 [nL 13 0, .eqv 16 (ni ((zs (cI R)).length : Int)) (ni (R.length : Int)) (by rw [cI_len]), ye q] nn (by kernel_rfl)
  · have e : cutF L (n + 1) R = [R] := by
     show (if 3 < R.length then _ else _) = _
     rw [if_neg g]
    have := ct_end (A := A) h (by omega) (by omega)
    rw [← hT, e]
    exact this
theorem e_cutL (hb : ∀ a ∈ L, Bv b a) (hk : 100 * b + 1000 ≤ 800000000000) (h3 : 3 ≤ L.length) (hn : L.length ≤ 900) (cv : Pure PP 75 [dL L] (bo true)) : Pure PP 119 [dL L] (.tu [.sl (oR (cutL L)), ni 0]) := by
 have hr : Rm L (List.range L.length) b := ⟨fun x hx => List.mem_range.1 hx, by rw [List.length_range]; omega, hb, hk⟩
 have loop := ct_loop (T := cutL L) L.length (List.range L.length) [] hr List.nodup_range (by rw [List.length_range]; omega) (by rw [List.length_range]; omega) (by simp; omega) rfl
 have ca := e_all (L := L) (by omega)
 unfold ctS at loop
 exact pf (by kernel_rfl) (.to mo_ [.ow 5 (.rw 154 3 [])] [0, 4, 5] [0, 1, 2] 3 [cl cv, nf, .lend _ _ _ _ [] ca] loop (by kernel_rfl))
end
end Go.Proofs.YtnpdpjfdgialeaaGreatDoor.E.Pc
namespace Go.Proofs.YtnpdpjfdgialeaaGreatDoor.E.Pc
open Go.RowKit
set_option linter.unusedVariables false
set_option linter.unusedSimpArgs false
def rowsL (Ls : List (List Vc)) : List (List V) := Ls.map fun K => [dL K]
def cutT (L : List Vc) : List (List Vc) := (cutL L).map fun t => t.map (ld L)
section
variable {L : List Vc} {R : List Nat} {b p q m n i j : Nat} {k : Int} {A T : List (List Nat)}
theorem cut_in : ∀ (n : Nat) (R : List Nat), Rm L R b → R.Nodup → 3 ≤ R.length → R.length ≤ n + 3 → ∀ t ∈ cutF L n R, t.length = 3 ∧ ∀ x ∈ t, x < L.length
 | 0, R, h, hd, h3, hn, t, ht => by
  simp only [cutF, List.mem_singleton] at ht
  subst ht
  exact ⟨by omega, h.r⟩
 | n + 1, R, h, hd, h3, hn, t, ht => by
  by_cases g : 3 < R.length
  · have hp := earP_lt (L := L) (R := R) (by omega)
    obtain ⟨a1, a2, a3, a4⟩ := clear_inv (R.eraseIdx (earP L R)).length (R.eraseIdx (earP L R)) (h.erase hp (by omega)) (nd_erase hd) (by rw [List.length_eraseIdx_of_lt hp]; omega)
    have e : cutF L (n + 1) R = [pv R (earP L R), md R (earP L R), nx R (earP L R)] :: cutF L n (clearR L (R.eraseIdx (earP L R))) := by
     show (if 3 < R.length then _ else _) = _
     rw [if_pos g]
    rw [e] at ht
    rcases List.mem_cons.1 ht with rfl | ht
    · refine ⟨rfl, fun x hx => ?_⟩
      simp only [List.mem_cons, List.not_mem_nil, or_false] at hx
      rcases hx with rfl | rfl | rfl
      · exact h.cyc _
      · exact h.md hp
      · exact h.cyc _
    · refine cut_in n (clearR L (R.eraseIdx (earP L R))) a1 a2 a3 ?_ t ht
      have : (clearR L (R.eraseIdx (earP L R))).length ≤ _ := a4
      rw [List.length_eraseIdx_of_lt hp] at this
      omega
  · have e : cutF L (n + 1) R = [R] := by
     show (if 3 < R.length then _ else _) = _
     rw [if_neg g]
    rw [e] at ht
    simp only [List.mem_singleton] at ht
    subst ht
    exact ⟨by omega, h.r⟩
theorem cut_len : ∀ (n : Nat) (R : List Nat), (cutF L n R).length ≤ n + 1
 | 0, R => Nat.le_refl _
 | n + 1, R => by
  unfold cutF
  split
  · rw [List.length_cons]
    have := cut_len n (clearR L (R.eraseIdx (earP L R)))
    omega
  · simp
noncomputable abbrev fof : Func := fnOf PP 76
theorem rowsL_app (Ls : List (List Vc)) (K : List Vc) : rowsL Ls ++ [[dL K]] = rowsL (Ls ++ [K]) := by unfold rowsL; rw [List.map_append]; rfl
theorem e_cof (hb : ∀ a ∈ L, Bv b a) (hk : 100 * b + 1000 ≤ 800000000000) (h3 : 3 ≤ L.length) (hn : L.length ≤ 900) (cv : Pure PP 75 [dL L] (bo true)) : PureT PP 76 [] [dL L] (.io 0 [.rw 90 1 (rowsL (cutT L))] (.tu [.ow 0, ni 0])) := by
 have cc := e_cutL hb hk h3 hn cv
 have hr : Rm L (List.range L.length) b := ⟨fun x hx => List.mem_range.1 hx, by rw [List.length_range]; omega, hb, hk⟩
 have hin := cut_in L.length (List.range L.length) hr List.nodup_range (by rw [List.length_range]; omega) (by rw [List.length_range]; omega)
 have hcl := cut_len (L := L) L.length (List.range L.length)
 have hlen : (oR (cutL L)).length = (cutL L).length := List.length_map ..
 have ht : ∀ t ∈ cutL L, t.length = 3 ∧ ∀ x ∈ t, x < L.length := hin
 have hle : (cutL L).length ≤ 1000 := by show (cutF L L.length _).length ≤ _; omega
 have hT : cutT L = (cutL L).map fun t => t.map (ld L) := rfl
 rw [hT]
 generalize cutL L = ts at *
 let X : Nat → St := fun k => at_ fof [(0, dL L), (5, ni 0), (6, .ow 0), (14, .sl (oR ts)), (15, ni (ts.length : Int)), (16, ni (k : Int))] [.rw 90 1 (rowsL ((ts.take k).map fun t => t.map (ld L)))]
 refine pfT (by kernel_rfl) (.to mo_ [.ow 6 (.rw 90 1 [])] [0, 5, 6, 14, 15, 16] [0] 1 [cl cc, .eqv 15 (ni ((oR ts).length : Int)) (ni (ts.length : Int)) (by rw [hlen])] (td' := lp fof 0) (σ' := X 0) ?_ (by kernel_rfl))
 refine Gd.loop X (fun k => k ≤ ts.length) (fun k => ts.length - k) ?_ 0 (Nat.zero_le _)
 intro k hk' ih
 by_cases g : k < ts.length
 · have hx : decide ((k : Int) < (ts.length : Int)) = true := decide_eq_true (by omega)
   have nx := ih (k + 1) (by omega) (by omega)
   obtain ⟨h1, h2⟩ := ht _ (List.getElem_mem g)
   have htk : ts.take (k + 1) = ts.take k ++ [ts[k]] := by rw [List.take_add_one, List.getElem?_eq_getElem g]; rfl
   have e0 : (oR ts)[k]? = some (ts[k].map fun (x : Nat) => ni (x : Int)) := by unfold oR; rw [List.getElem?_map, List.getElem?_eq_getElem g]; rfl
   simp only [X] at nx ⊢
   rw [htk, List.map_append] at nx
   have hap := rowsL_app ((ts.take k).map fun t => t.map (ld L)) (ts[k].map (ld L))
   have hl2 : (rowsL ((ts.take k).map (fun t => t.map (ld L)) ++ [ts[k].map (ld L)])).length ≤ 2000 := by
    have : (rowsL ((ts.take k).map (fun t => t.map (ld L)) ++ [ts[k].map (ld L)])).length = _ := List.length_map ..
    rw [this, List.length_append, List.length_map, List.length_take]
    simp
    omega
   rw [show List.map (fun t => t.map (ld L)) [ts[k]] = [ts[k].map (ld L)] from rfl] at nx
   rw [← hap] at nx hl2
   generalize rowsL ((ts.take k).map fun t => t.map (ld L)) = B at *
   generalize ts[k] = t at *
   obtain ⟨x, y, z, rfl⟩ := three_of h1
   have ex := ld_at (h2 x (by simp))
   have ey := ld_at (h2 y (by simp))
   have ez := ld_at (h2 z (by simp))
   exact .to mo_ [.mv 0 4] [0, 5, 6, 14, 15, 16] [0] 1 [ye hx, .sel _ _ _ e0, .sel _ _ _ ex, .sel _ _ _ ey, .sel _ _ _ ez, .ro, .app B [[dL [ld L x, ld L y, ld L z]]] _ 2000 rfl (show 0 < 1 by decide) hl2, inc 39 k (by omega)] nx (by kernel_rfl)
 · have : k = ts.length := by omega
   subst this
   have hx : decide ((ts.length : Int) < (ts.length : Int)) = false := decide_eq_false (by omega)
   simp only [X]
   rw [List.take_length]
   exact fi [na hx] (by kernel_rfl) (by kernel_rfl)
end
end Go.Proofs.YtnpdpjfdgialeaaGreatDoor.E.Pc
namespace Go.Proofs.YtnpdpjfdgialeaaGreatDoor.E
open Go.RowKit
set_option linter.unusedVariables false
section
variable {a b c d n p : Rat × Rat} {r q x : Rat} {i j k : Nat} {L : List (Rat × Rat)}
def z8 : List V := [bo false, .nl, bo false, .nl, bo false, .nl, bo false, .nl]
end
end Go.Proofs.YtnpdpjfdgialeaaGreatDoor.E
namespace Go.Proofs.YtnpdpjfdgialeaaGreatDoor
open Go.RowKit Go.Shelf
set_option linter.unusedVariables false
set_option linter.unusedSimpArgs false
theorem pre_bits {f : Rat × Rat → Rat × Rat → Rat} {K n k : Nat} {L : List (Rat × Rat)} (hf : ∀ a b, Bv k a → Bv k b → Bq K (f a b)) (hl : n = L.length) (hb : ∀ a ∈ L, Bv k a) (pre : List (Fin n)) (hp : pre.length ≤ 100) : Bq ((K + 1) * 100 + 1) (Pg.sum f (pre.map fun x => Pg.at_ L n x.1)) := by
 refine (Pg.sum_bits (k := K) _ (fun p hp => ?_)).mono (by rw [List.length_map]; exact Nat.add_le_add_right (Nat.mul_le_mul_left _ hp) 1)
 obtain ⟨y, hy, rfl⟩ := List.mem_map.1 hp
 exact hf _ _ (getD_bv hb _ (by have := y.2; omega)) (getD_bv hb _ (by have := Nat.mod_lt (y.1 + 1) (show 0 < n by have := y.2; omega); omega))
theorem third_bits : Bq 2 (Rat.divInt 1 3) := Bq.divInt (by unfold I.Bd; decide) (by unfold I.Bd; decide) (by omega)
theorem fx_bits {k : Nat} {a b : Rat × Rat} (ha : Bv k a) (hb : Bv k b) : Bv (6 * k + 2) (Pg.fx a b, Pg.fy a b) := ((ha.add hb).sca ((ha.crs hb).mono (show _ ≤ 4 * k + 1 by omega))).mono (by omega)
theorem crs_bits {k : Nat} {a b : Rat × Rat} (ha : Bv k a) (hb : Bv k b) : Bq (4 * k + 1) (vcrs a b) := (ha.crs hb).mono (by omega)
end Go.Proofs.YtnpdpjfdgialeaaGreatDoor
namespace Go.Proofs.YtnpdpjfdgialeaaGreatDoor
set_option maxHeartbeats 4000000
open Go.RowKit Go.Shelf
attribute [local go_sem] Oper.semAt_some
attribute [local go_sem] run_store_one
set_option linter.unusedVariables false
set_option linter.unusedSimpArgs false
end Go.Proofs.YtnpdpjfdgialeaaGreatDoor

namespace Go.Proofs.YtnpdpjfdgialeaaGreatDoor
set_option maxHeartbeats 4000000
open Go.RowKit Go.Shelf
attribute [local go_sem] Oper.semAt_some
attribute [local go_sem] run_store_one
set_option linter.unusedVariables false
set_option linter.unusedSimpArgs false
end Go.Proofs.YtnpdpjfdgialeaaGreatDoor


namespace Go.Proofs.YtnpdpjfdgialeaaGreatDoor
set_option maxHeartbeats 2000000
open Go.RowKit Go.Shelf
open E (KpG)
attribute [local go_sem] Oper.semAt_some
attribute [local go_sem] run_store_one
set_option linter.unusedVariables false
theorem cell_lt {w : World} {b o : Nat} {v : Value} (h : w.cell? ⟨b, o, none⟩ = some v) : b < w.heap.size := by
  unfold World.cell? at h
  split at h
  · rename_i hb
    exact (Array.getElem?_eq_some_iff.1 hb).1
  · cases h
set_option maxRecDepth 100000 in
theorem sides1K (nf : Nat) (hn : 1 ≤ nf) (l Bs q b o n c : Nat) (cs : Nat → Nat → Value) (hlen : n ≤ 1000) {G : Nat → Prop} (hGs : G Bs) (hGb : G b) (J Jx : List (Fin n) → World → Prop) (hone : ∀ i j, (cs i j).oneCell' = true)
    (hY : ∀ pre (x : Fin n) W, J pre W → pre.length < n → YieldAt Fence.wide (nf - 1) Tryz.prog l #[Pg.ag cs x.1, Pg.ag cs ((x.1 + 1) % n)] W fun e W' => (e = .returned (.bool true) ∧ J (pre ++ [x]) W' ∧ KpG G W W') ∨ (e = .returned (.bool false) ∧ Jx (pre ++ [x]) W'))
    (W : World) (hBc : W.cell? ⟨Bs, q, none⟩ = some (.slice (some ⟨b, o, none⟩) n c)) (hc : ∀ i, i < n → ∀ j, j < 8 → W.cell? ⟨b, o + i * 8 + j, none⟩ = some (cs i j)) (hJ : AbidesFrom W.heap.size J) (h0 : J [] W) :
    CallsIn Fence.wide nf Tryz.prog 161 #[.func (.yield l) #[] #[], .pointer (some ⟨Bs, q, none⟩)] W fun e W' => (∃ v, e = .returned v) ∧ (J (List.finRange n) W' ∨ ∃ k, k ≤ n ∧ Jx ((List.finRange n).take k) W') := by
  refine callsIn_of_wp Tryz.func161 rfl trivial ?_ rfl
  simp only [Tryz.ntmps161, List.size_toArray, List.length_cons, List.length_nil, Nat.reduceAdd, Nat.reduceSub, Array.replicate_succ, Array.replicate_zero, List.push_toArray, List.append_toArray, List.nil_append, List.cons_append]
  have HY := Lib.hid hY; have HC := Lib.hid hc; have HJ := Lib.hid hJ; have HBC := Lib.hid hBc
  have cB := hBc
  clear hY hc hJ hBc
  gi_wp2
  gi_loopw [7] (fun i wr => ∃ k : Nat, k ≤ n ∧ i = .int .i64 k ∧ J ((List.finRange n).take k) wr ∧ Hid (wr.cell? ⟨Bs, q, none⟩ = some (.slice (some ⟨b, o, none⟩) n c)) ∧ Hid (∀ i, i < n → ∀ j, j < 8 → wr.cell? ⟨b, o + i * 8 + j, none⟩ = some (cs i j))) (fun i _ => n - (intOf i).toNat)
  case atStart => exact ⟨0, Nat.zero_le _, rfl, by simpa using h0, HBC, HC⟩
  case round =>
    obtain ⟨k, hk, rfl, hJs, HBX, HCX⟩ := hrel
    clear cB
    by_cases hlt : k < n
    · have hcx : ∀ j, j < 8 → wr.cell? ⟨b, o + k * 8 + j, none⟩ = some (cs k j) := fun j hj => HCX.out k hlt j hj
      have c0 : wr.cell? ⟨b, o + k * 8, none⟩ = some (cs k 0) := hcx 0 (by omega); have c1 := hcx 1 (by omega); have c2 := hcx 2 (by omega); have c3 := hcx 3 (by omega); have c4 := hcx 4 (by omega); have c5 := hcx 5 (by omega); have c6 := hcx 6 (by omega); have c7 := hcx 7 (by omega)
      have q0 := hone k 0; have q1 := hone k 1; have q2 := hone k 2; have q3 := hone k 3; have q4 := hone k 4; have q5 := hone k 5; have q6 := hone k 6; have q7 := hone k 7
      clear hcx
      gi_wp2
      -- REGION 3
      have hm := HC.out
      obtain ⟨g, hg⟩ : ∃ g, g = wr.heap.size := ⟨_, rfl⟩
      obtain ⟨k1, hk1e⟩ : ∃ k1 : Nat, k1 = k + 1 := ⟨_, rfl⟩
      have hk1 : IntKind.i64.wrap ((k : Int) + 1) = (k1 : Int) := by rw [IntKind.wrap_i64]; omega
      obtain ⟨m, hme⟩ : ∃ m : Nat, m = k1 % n := ⟨_, rfl⟩
      have hmn : m < n := by rw [hme]; exact Nat.mod_lt _ (by omega)
      have hm1 : Int.tmod (k1 : Int) (n : Int) = (m : Int) := by rw [Int.tmod_eq_emod_of_nonneg (by omega), hme]; simp
      have hm3 : (m : Int) < (n : Int) := by omega
      have hm4 : (0 : Int) ≤ (m : Int) := by omega
      have hnz : ¬ n = 0 := by omega
      generalize hW3 : wr.alloc (.cells _ 84) = w3
      obtain ⟨hx3, k2⟩ := box1 hW3
      rw [← hg] at hx3 ⊢
      have hbs : Bs < wr.heap.size := cell_lt HBX.out
      have hbb : 0 < n → b < wr.heap.size := fun h => cell_lt (HCX.out 0 h 0 (by omega))
      have HX3 := Lib.hid (show w3.cell? ⟨Bs, q, none⟩ = some (.slice (some ⟨b, o, none⟩) n c) from (k2.cell (p := ⟨Bs, q, none⟩) hbs).trans HBX.out)
      have HCX3 := Lib.hid (show ∀ i, i < n → ∀ j, j < 8 → w3.cell? ⟨b, o + i * 8 + j, none⟩ = some (cs i j) from fun i hi j hj => (k2.cell (p := ⟨b, o + i * 8 + j, none⟩) (hbb (by omega))).trans (HCX.out i hi j hj))
      have hb3s := k2.size
      have hbs3 : Bs < w3.heap.size := by omega
      have hbb3 : 0 < n → b < w3.heap.size := fun h => by have := hbb h; omega
      have HS := Lib.hid (show ∀ wx, Below w3.heap.size w3 wx → wx.cell? ⟨Bs, q, none⟩ = some (.slice (some ⟨b, o, none⟩) n c) from fun wx h => (h.cell (p := ⟨Bs, q, none⟩) hbs3).trans HX3.out)
      have HG := Lib.hid (show ∀ wx, Below w3.heap.size w3 wx → wx.cell? ⟨g, 0, none⟩ = some (cs k 0) ∧ wx.cell? ⟨g, 1, none⟩ = some (cs k 1) ∧ wx.cell? ⟨g, 2, none⟩ = some (cs k 2) ∧ wx.cell? ⟨g, 3, none⟩ = some (cs k 3) ∧ wx.cell? ⟨g, 4, none⟩ = some (cs k 4) ∧ wx.cell? ⟨g, 5, none⟩ = some (cs k 5) ∧ wx.cell? ⟨g, 6, none⟩ = some (cs k 6) ∧ wx.cell? ⟨g, 7, none⟩ = some (cs k 7) from fun wx h => by
        have hx := hx3.below h
        exact ⟨hx.cell rfl, hx.cell rfl, hx.cell rfl, hx.cell rfl, hx.cell rfl, hx.cell rfl, hx.cell rfl, hx.cell rfl⟩)
      have HM := Lib.hid (show ∀ wx, Below w3.heap.size w3 wx → wx.cell? ⟨b, o + m * 8, none⟩ = some (cs m 0) ∧ wx.cell? ⟨b, o + m * 8 + 1, none⟩ = some (cs m 1) ∧ wx.cell? ⟨b, o + m * 8 + 2, none⟩ = some (cs m 2) ∧ wx.cell? ⟨b, o + m * 8 + 3, none⟩ = some (cs m 3) ∧ wx.cell? ⟨b, o + m * 8 + 4, none⟩ = some (cs m 4) ∧ wx.cell? ⟨b, o + m * 8 + 5, none⟩ = some (cs m 5) ∧ wx.cell? ⟨b, o + m * 8 + 6, none⟩ = some (cs m 6) ∧ wx.cell? ⟨b, o + m * 8 + 7, none⟩ = some (cs m 7) from fun wx h => by
        have hcx : ∀ j, j < 8 → wx.cell? ⟨b, o + m * 8 + j, none⟩ = some (cs m j) := fun j hj => (h.cell (p := ⟨b, o + m * 8 + j, none⟩) (hbb3 (by omega))).trans (HCX3.out m hmn j hj)
        exact ⟨hcx 0 (by omega), hcx 1 (by omega), hcx 2 (by omega), hcx 3 (by omega), hcx 4 (by omega), hcx 5 (by omega), hcx 6 (by omega), hcx 7 (by omega)⟩)
      have HJ3 := Lib.hid hJs; have k3 := Lib.hid k2
      have HCW := Lib.hid (show ∀ wx, Below w3.heap.size w3 wx → ∀ i, i < n → ∀ j, j < 8 → wx.cell? ⟨b, o + i * 8 + j, none⟩ = some (cs i j) from fun wx h i hi j hj => (h.cell (p := ⟨b, o + i * 8 + j, none⟩) (hbb3 (by omega))).trans (HCX3.out i hi j hj))
      have HME := Lib.hid (show m = (k + 1) % n by rw [hme, hk1e])
      clear hm c0 c1 c2 c3 c4 c5 c6 c7 hx3 hJs k2 hW3 hme hk1e hb3s
      generalize hW_3 : w3.drew = W_3
      refine gen_actI ?_
      intro F_ hF_
      have ev0 : F_.eval (.tmp 0) = .func (.yield l) #[] #[] := by rw [← hF_]; rfl
      have ev1 : F_.eval (.tmp 1) = .pointer (some ⟨Bs, q, none⟩) := by rw [← hF_]; rfl
      have ev3 : F_.eval (.tmp 3) = .int .i64 (k : Int) := by rw [← hF_]; rfl
      have ev4 : F_.eval (.tmp 4) = .pointer (some ⟨g, 0, none⟩) := by rw [← hF_]; rfl
      have hsz_ : ∀ d ∈ ([(12, []), (13, []), (14, []), (15, []), (16, [3]), (17, []), (18, [5]), (19, [4, 6]), (20, [2, 7]), (21, [8])] : List (Nat × List Nat)).map (·.1), d < F_.tmps.size := by rw [← hF_]; simp
      have HF_ := Lib.hid hF_; clear hF_
      refine wp_flow_tabGI (Fx := Fence.wide) (nf := nf) true hW_3 10 [(12, []), (13, []), (14, []), (15, []), (16, [3]), (17, []), (18, [5]), (19, [4, 6]), (20, [2, 7]), (21, [8])] [SC (.func (.yield l) #[] #[]), SC (.agg #[cs k 0, cs k 1, cs k 2, cs k 3, cs k 4, cs k 5, cs k 6, cs k 7]), SC (.slice (some ⟨b, o, none⟩) n c), SC (.int .i64 (k : Int)), SC (.int .i64 (k1 : Int)), SC (.slice (some ⟨b, o, none⟩) n c), SC (.int .i64 ((n : Nat) : Int)), SC (.int .i64 (m : Int)), SC (.pointer (some ⟨b, o + m * 8, none⟩)), SC (.agg #[cs m 0, cs m 1, cs m 2, cs m 3, cs m 4, cs m 5, cs m 6, cs m 7])] [false, false, false, false, false, false, false, false, false, false] (by kernel_rfl) WideF.wide (by kernel_rfl) (by kernel_rfl) (by kernel_rfl) (by kernel_rfl) (by kernel_rfl) hsz_ ⟨SC.mono _, SC.mono _, SC.mono _, SC.mono _, SC.mono _, SC.mono _, SC.mono _, SC.mono _, SC.mono _, SC.mono _, trivial⟩ ?_ ?_
      · intro kq hkq a wx hB hp hs
        have hBo : Below w3.heap.size w3 wx := dB hW_3 hB
        have hcase : kq = 0 ∨ kq = 1 ∨ kq = 2 ∨ kq = 3 ∨ kq = 4 ∨ kq = 5 ∨ kq = 6 ∨ kq = 7 ∨ kq = 8 ∨ kq = 9 := by omega
        rcases hcase with rfl | rfl | rfl | rfl | rfl | rfl | rfl | rfl | rfl | rfl
        · clear hp
          exact ⟨_, rfl, .inl ⟨wanted_none rfl, op_mv (s := SC _) rfl ((hs 0 rfl).trans ev0)⟩⟩
        · clear hp
          obtain ⟨g0, g1, g2, g3, g4, g5, g6, g7⟩ := HG.out wx hBo
          have b4 := (hs 4 rfl).trans ev4
          simp [Act.eval] at b4
          exact ⟨_, rfl, .inl ⟨wanted_none rfl, Does.val (by simp [execOp, Act.eval, b4, go_sem, g0, g1, g2, g3, g4, g5, g6, g7]) rfl⟩⟩
        · clear hp
          have b1 := (hs 1 rfl).trans ev1
          simp [Act.eval] at b1
          exact ⟨_, rfl, .inl ⟨wanted_none rfl, Does.val (by simp [execOp, Act.eval, b1, go_sem, HS.out wx hBo]) rfl⟩⟩
        · clear hp
          exact ⟨_, rfl, .inl ⟨wanted_none rfl, op_mv (s := SC _) rfl ((hs 3 rfl).trans ev3)⟩⟩
        · obtain ⟨k0, -⟩ := hp
          have e0 : a.eval (.tmp 15) = .int .i64 (k : Int) := k0
          simp [Act.eval] at e0
          exact ⟨_, rfl, .inl ⟨wanted_none rfl, Does.val (by simp [execOp, Act.eval, e0, go_sem, hk1]) rfl⟩⟩
        · clear hp
          have b1 := (hs 1 rfl).trans ev1
          simp [Act.eval] at b1
          exact ⟨_, rfl, .inl ⟨wanted_none rfl, Does.val (by simp [execOp, Act.eval, b1, go_sem, HS.out wx hBo]) rfl⟩⟩
        · obtain ⟨k0, -⟩ := hp
          have e0 : a.eval (.tmp 17) = .slice (some ⟨b, o, none⟩) n c := k0
          simp [Act.eval] at e0
          exact ⟨_, rfl, .inl ⟨wanted_none rfl, Does.val (by simp [execOp, Act.eval, e0, go_sem]) rfl⟩⟩
        · obtain ⟨k0, k4, -⟩ := hp
          have e0 : a.eval (.tmp 16) = .int .i64 (k1 : Int) := k0
          simp [Act.eval] at e0
          have e1 : a.eval (.tmp 18) = .int .i64 ((n : Nat) : Int) := k4
          simp [Act.eval] at e1
          exact ⟨_, rfl, .inl ⟨wanted_none rfl, Does.val (by simp [execOp, Act.eval, e0, e1, go_sem, hm1, hnz]) rfl⟩⟩
        · obtain ⟨k0, k4, -⟩ := hp
          have e0 : a.eval (.tmp 14) = .slice (some ⟨b, o, none⟩) n c := k0
          simp [Act.eval] at e0
          have e1 : a.eval (.tmp 19) = .int .i64 (m : Int) := k4
          simp [Act.eval] at e1
          exact ⟨_, rfl, .inl ⟨wanted_none rfl, Does.val (by simp [execOp, Act.eval, e0, e1, go_sem, hm3, hm4]) rfl⟩⟩
        · obtain ⟨k0, -⟩ := hp
          obtain ⟨g0, g1, g2, g3, g4, g5, g6, g7⟩ := HM.out wx hBo
          have e0 : a.eval (.tmp 20) = .pointer (some ⟨b, o + m * 8, none⟩) := k0
          simp [Act.eval] at e0
          exact ⟨_, rfl, .inl ⟨wanted_none rfl, Does.val (by simp [execOp, Act.eval, e0, go_sem, g0, g1, g2, g3, g4, g5, g6, g7]) rfl⟩⟩
      · intro val wx hB hsp hdis
        have hBo : Below w3.heap.size w3 wx := dB hW_3 hB
        have e0 : val 0 = .func (.yield l) #[] #[] := hsp 0 (by omega)
        have e1 : val 1 = .agg #[cs k 0, cs k 1, cs k 2, cs k 3, cs k 4, cs k 5, cs k 6, cs k 7] := hsp 1 (by omega)
        have e9 : val 9 = .agg #[cs m 0, cs m 1, cs m 2, cs m 3, cs m 4, cs m 5, cs m 6, cs m 7] := hsp 9 (by omega)
        rw [← HF_.out]
        change wpListIn _ _ _ _ _ [_, _] _ _
        simp only [puts_consT, puts_nilm, vals, List.map_cons, List.map_nil, Nat.zero_add, Nat.reduceAdd, e0, e1, e9, List.setIfInBounds_toArray, List.set_cons_succ, List.set_cons_zero]
        clear hsp hdis HF_ hsz_ hB hW_3 e0 e1 e9 ev0 ev1 ev3 ev4
        have HBO := Lib.hid hBo
        obtain ⟨fn, tmps, assign, body, hy, hR⟩ := HY.out _ ⟨k, hlt⟩ wx (HJ.out _ wr wx none HJ3.out (below_grown0 (k3.out.trans (hBo.mono k3.out.size))) (fun r e => by cases e)) (by rw [List.length_take, List.length_finRange]; omega)
        simp only [← HME.out, Pg.ag] at hy
        have HTK := Lib.hid (show (List.finRange n).take (k + 1) = (List.finRange n).take k ++ [⟨k, hlt⟩] from by
          rw [List.take_succ_eq_append_getElem (by simp; exact hlt)]
          simp)
        have HX4 := Lib.hid (HS.out wx hBo)
        have HC4 := Lib.hid (HCW.out wx hBo)
        have HGS := Lib.hid hGs; have HGB := Lib.hid hGb
        clear hBo HX3 HBX k3 HG HM HS HJ3 hk1 hm1 hm3 hm4 hmn hnz HCX HCX3 HCW hbs hbb hbs3 hbb3
        gi_wp2
        refine hR.mono ?_
        rintro e W4 (⟨rfl, k5, hk4⟩ | ⟨rfl, hJx4⟩)
        · have HJ4 := Lib.hid k5; have HK4 := Lib.hid hk4
          clear k5 hk4
          gi_wp2
          go_roundw
          case rel => exact ⟨k + 1, by omega, by simp, by rw [HTK.out]; exact HJ4.out, Lib.hid ((World.cell?_of_block (a := ⟨Bs, q, none⟩) (HK4.out Bs HGS.out)).trans HX4.out), Lib.hid fun i hi j hj => (World.cell?_of_block (a := ⟨b, o + i * 8 + j, none⟩) (HK4.out b HGB.out)).trans (HC4.out i hi j hj)⟩
          case measure => simp [intOf]; omega
        · gi_wp2
          refine bodyPost_ret (results_none rfl _ _ _) rfl ?_
          exact ⟨⟨_, rfl⟩, .inr ⟨k + 1, by omega, by rw [HTK.out]; exact hJx4⟩⟩
    · obtain rfl : k = n := by omega
      gi_wp2
      go_end0
      rw [List.take_of_length_le (by simp)] at hJs
      exact ⟨⟨_, rfl⟩, .inl hJs⟩
set_option maxRecDepth 100000 in
theorem sides1Kn (nf : Nat) (l Bs q : Nat) (A : Option Addr) (c : Nat) (J : List (Fin 0) → World → Prop) (W : World) (hBc : W.cell? ⟨Bs, q, none⟩ = some (.slice A 0 c)) (h0 : J [] W) :
    CallsIn Fence.wide nf Tryz.prog 161 #[.func (.yield l) #[] #[], .pointer (some ⟨Bs, q, none⟩)] W fun e W' => (∃ v, e = .returned v) ∧ J [] W' := by
  refine callsIn_of_wp Tryz.func161 rfl trivial ?_ rfl
  simp only [Tryz.ntmps161, List.size_toArray, List.length_cons, List.length_nil, Nat.reduceAdd, Nat.reduceSub, Array.replicate_succ, Array.replicate_zero, List.push_toArray, List.append_toArray, List.nil_append, List.cons_append]
  gi_wp2
  gi_loopw [7] (fun i wr => i = .int .i64 0 ∧ J [] wr) (fun _ _ => 0)
  case atStart => exact ⟨rfl, h0⟩
  case round =>
    obtain ⟨rfl, hJs⟩ := hrel
    gi_wp2
    go_end0
    exact ⟨⟨_, rfl⟩, hJs⟩
end Go.Proofs.YtnpdpjfdgialeaaGreatDoor
