/-
 CONTRACTS of the elder kind, by the engine.
-/
import Derived.Test.YtcfejkpadcccbaaGreatEnB2
namespace Go.Proofs.YtcfejkpadcccbaaGreat
open Go.RowKit
open E
set_option linter.unusedVariables false
theorem E.to_k {u : Value} {w w' : World} {e : Ending} (h : Rt (fun w v => Rep false w (fun _ => False) no v (.k u)) w e w') : e = .returned u ∧ Below w.heap.size w w' := by
 obtain ⟨v, rfl, h1, h2⟩ := h
 exact ⟨by rw [Rep.k_inv h1], h2⟩
theorem E.arg4 {s : Bool} {w : World} {A : Nat → Prop} {m : Nat → Option Value} {u v t q : Value} {x y z r : V} (h : Rep s w A m u x) (g : Rep s w A m v y) (i : Rep s w A m t z) (j : Rep s w A m q r) : Reps s w A m #[u, v, t, q] [x, y, z, r] := ⟨rfl, fun n a ha => by
 match n, ha with
 | 0, ha => simp at ha; subst ha; exact h
 | 1, ha => simp at ha; subst ha; exact g
 | 2, ha => simp at ha; subst ha; exact i
 | 3, ha => simp at ha; subst ha; exact j
 | n + 4, ha => simp at ha⟩
theorem radd_anyB (j k : Nat) (a0 a1 a2 a3 b0 b1 b2 b3 : Value) (r t : Rat) (w : World) (hr : RatV w a0 a1 a2 a3 r) (ht : RatV w b0 b1 b2 b3 t) (br : Bq j r) (bt : Bq k t) (hk : j + k + 1 ≤ 1000000000000) :
    Calls Tryz.prog 36 #[.agg #[a0, a1, a2, a3], .agg #[b0, b1, b2, b3]] w (RR (r + t) w) := by
 exact (back (e_radd br bt hk) (arg2 (rep_R ⟨_, _, _, _, rfl, hr⟩) (rep_R ⟨_, _, _, _, rfl, ht⟩))).mono fun _ _ => to_RR
theorem rmul_anyB (j k : Nat) (a0 a1 a2 a3 b0 b1 b2 b3 : Value) (r t : Rat) (w : World) (hr : RatV w a0 a1 a2 a3 r) (ht : RatV w b0 b1 b2 b3 t) (br : Bq j r) (bt : Bq k t) (hk : j + k ≤ 1000000000000) :
    Calls Tryz.prog 67 #[.agg #[a0, a1, a2, a3], .agg #[b0, b1, b2, b3]] w (RR (r * t) w) := by
 exact (back (e_rmul br bt hk) (arg2 (rep_R ⟨_, _, _, _, rfl, hr⟩) (rep_R ⟨_, _, _, _, rfl, ht⟩))).mono fun _ _ => to_RR
theorem rof_anyB (x y : Int) (w : World) (hx : W.Is64 x) (hy : W.Is64 y) : Calls Tryz.prog 68 #[.int .i64 x, .int .i64 y] w (RR (Rat.divInt x y) w) := by
 exact (back (e_rof hx hy) (arg2 (.k _ _) (.k _ _))).mono fun _ _ => to_RR
theorem vcrs_anyB (j k : Nat) (a0 a1 a2 a3 a4 a5 a6 a7 b0 b1 b2 b3 b4 b5 b6 b7 : Value) (v : Rat × Rat) (u : Rat × Rat) (w : World) (ha : VecV w a0 a1 a2 a3 a4 a5 a6 a7 v) (hb : VecV w b0 b1 b2 b3 b4 b5 b6 b7 u) (ba : Bv j v) (bb : Bv k u) (hk : 10 * (j + k) + 100 ≤ 800000000000) :
    Calls Tryz.prog 66 #[.agg #[a0, a1, a2, a3, a4, a5, a6, a7], .agg #[b0, b1, b2, b3, b4, b5, b6, b7]] w (RR (vcrs v u) w) := by
 exact (back (e_vcrs ba bb hk) (arg2 (rep_V ⟨_, _, _, _, _, _, _, _, rfl, ha⟩) (rep_V ⟨_, _, _, _, _, _, _, _, rfl, hb⟩))).mono fun _ _ => to_RR
theorem rdiv_anyB (j k : Nat) (a0 a1 a2 a3 b0 b1 b2 b3 : Value) (r t : Rat) (w : World) (hr : RatV w a0 a1 a2 a3 r) (ht : RatV w b0 b1 b2 b3 t) (br : Bq j r) (bt : Bq k t) (hk : j + k ≤ 1000000000000) :
    Calls Tryz.prog 72 #[.agg #[a0, a1, a2, a3], .agg #[b0, b1, b2, b3]] w (RR (r / t) w) := by
 exact (back (e_rdiv br bt hk) (arg2 (rep_R ⟨_, _, _, _, rfl, hr⟩) (rep_R ⟨_, _, _, _, rfl, ht⟩))).mono fun _ _ => to_RR
theorem vadd_anyB (j k : Nat) (a0 a1 a2 a3 a4 a5 a6 a7 b0 b1 b2 b3 b4 b5 b6 b7 : Value) (v : Rat × Rat) (u : Rat × Rat) (w : World) (ha : VecV w a0 a1 a2 a3 a4 a5 a6 a7 v) (hb : VecV w b0 b1 b2 b3 b4 b5 b6 b7 u) (ba : Bv j v) (bb : Bv k u) (hk : 10 * (j + k) + 100 ≤ 800000000000) :
    Calls Tryz.prog 38 #[.agg #[a0, a1, a2, a3, a4, a5, a6, a7], .agg #[b0, b1, b2, b3, b4, b5, b6, b7]] w (RV (vadd v u) w) := by
 exact (back (e_vadd ba bb hk) (arg2 (rep_V ⟨_, _, _, _, _, _, _, _, rfl, ha⟩) (rep_V ⟨_, _, _, _, _, _, _, _, rfl, hb⟩))).mono fun _ _ => to_RV
theorem vsca_anyB (j k : Nat) (a0 a1 a2 a3 a4 a5 a6 a7 b0 b1 b2 b3 : Value) (v : Rat × Rat) (q : Rat) (w : World) (ha : VecV w a0 a1 a2 a3 a4 a5 a6 a7 v) (hb : RatV w b0 b1 b2 b3 q) (ba : Bv j v) (bb : Bq k q) (hk : 10 * (j + k) + 100 ≤ 800000000000) :
    Calls Tryz.prog 39 #[.agg #[a0, a1, a2, a3, a4, a5, a6, a7], .agg #[b0, b1, b2, b3]] w (RV (vsca v q) w) := by
 exact (back (e_vsca ba bb hk) (arg2 (rep_V ⟨_, _, _, _, _, _, _, _, rfl, ha⟩) (rep_R ⟨_, _, _, _, rfl, hb⟩))).mono fun _ _ => to_RV
theorem on_anyB (k : Nat) (a0 a1 a2 a3 a4 a5 a6 a7 b0 b1 b2 b3 b4 b5 b6 b7 c0 c1 c2 c3 c4 c5 c6 c7 : Value) (u : Rat × Rat) (v : Rat × Rat) (x_ : Rat × Rat) (w : World) (ha : VecV w a0 a1 a2 a3 a4 a5 a6 a7 u) (hb : VecV w b0 b1 b2 b3 b4 b5 b6 b7 v) (hc : VecV w c0 c1 c2 c3 c4 c5 c6 c7 x_) (ba : Bv k u) (bb : Bv k v) (bc : Bv k x_) (hk : 100 * k + 1000 ≤ 800000000000) (c : Bool) (hv : c = Pg.on u v x_) :
    Calls Tryz.prog 77 #[.agg #[a0, a1, a2, a3, a4, a5, a6, a7], .agg #[b0, b1, b2, b3, b4, b5, b6, b7], .agg #[c0, c1, c2, c3, c4, c5, c6, c7]] w (fun e w' => e = .returned (.bool c) ∧ Below w.heap.size w w') := by
 subst hv
 exact (back (e_on ba bb bc hk) (arg3 (rep_V ⟨_, _, _, _, _, _, _, _, rfl, ha⟩) (rep_V ⟨_, _, _, _, _, _, _, _, rfl, hb⟩) (rep_V ⟨_, _, _, _, _, _, _, _, rfl, hc⟩))).mono fun _ _ => to_k
theorem rcmp_anyB (j k : Nat) (a0 a1 a2 a3 b0 b1 b2 b3 : Value) (r t : Rat) (w : World) (ha : RatV w a0 a1 a2 a3 r) (hb : RatV w b0 b1 b2 b3 t) (ba : Bq j r) (bb : Bq k t) (hk : 10 * (j + k) + 100 ≤ 800000000000) :
    Calls Tryz.prog 42 #[.agg #[a0, a1, a2, a3], .agg #[b0, b1, b2, b3]] w (fun e w' => e = .returned (.int .i64 (cmpQ r t)) ∧ Below w.heap.size w w') := by
 exact (back (e_rcmp ba bb (by omega)) (arg2 (rep_R ⟨_, _, _, _, rfl, ha⟩) (rep_R ⟨_, _, _, _, rfl, hb⟩))).mono fun _ _ => to_k
theorem vside_anyB (k : Nat) (a0 a1 a2 a3 a4 a5 a6 a7 b0 b1 b2 b3 b4 b5 b6 b7 c0 c1 c2 c3 c4 c5 c6 c7 : Value) (u : Rat × Rat) (v : Rat × Rat) (x_ : Rat × Rat) (w : World) (ha : VecV w a0 a1 a2 a3 a4 a5 a6 a7 u) (hb : VecV w b0 b1 b2 b3 b4 b5 b6 b7 v) (hc : VecV w c0 c1 c2 c3 c4 c5 c6 c7 x_) (ba : Bv k u) (bb : Bv k v) (bc : Bv k x_) (hk : 100 * k + 1000 ≤ 800000000000) :
    Calls Tryz.prog 55 #[.agg #[a0, a1, a2, a3, a4, a5, a6, a7], .agg #[b0, b1, b2, b3, b4, b5, b6, b7], .agg #[c0, c1, c2, c3, c4, c5, c6, c7]] w (fun e w' => e = .returned (.int .i64 (vside u v x_)) ∧ Below w.heap.size w w') := by
 exact (back (e_side ba bb bc hk) (arg3 (rep_V ⟨_, _, _, _, _, _, _, _, rfl, ha⟩) (rep_V ⟨_, _, _, _, _, _, _, _, rfl, hb⟩) (rep_V ⟨_, _, _, _, _, _, _, _, rfl, hc⟩))).mono fun _ _ => to_k
theorem meets_anyB (k : Nat) (a0 a1 a2 a3 a4 a5 a6 a7 b0 b1 b2 b3 b4 b5 b6 b7 c0 c1 c2 c3 c4 c5 c6 c7 d0 d1 d2 d3 d4 d5 d6 d7 : Value) (u : Rat × Rat) (v : Rat × Rat) (x_ : Rat × Rat) (y_ : Rat × Rat) (w : World) (ha : VecV w a0 a1 a2 a3 a4 a5 a6 a7 u) (hb : VecV w b0 b1 b2 b3 b4 b5 b6 b7 v) (hc : VecV w c0 c1 c2 c3 c4 c5 c6 c7 x_) (hd : VecV w d0 d1 d2 d3 d4 d5 d6 d7 y_) (ba : Bv k u) (bb : Bv k v) (bc : Bv k x_) (bd : Bv k y_) (hk : 100 * k + 1000 ≤ 800000000000) (c : Bool) (hv : c = Pg.meets u v x_ y_) :
    Calls Tryz.prog 34 #[.agg #[a0, a1, a2, a3, a4, a5, a6, a7], .agg #[b0, b1, b2, b3, b4, b5, b6, b7], .agg #[c0, c1, c2, c3, c4, c5, c6, c7], .agg #[d0, d1, d2, d3, d4, d5, d6, d7]] w (fun e w' => e = .returned (.bool c) ∧ Below w.heap.size w w') := by
 subst hv
 exact (back (e_meets ba bb bc bd hk) (arg4 (rep_V ⟨_, _, _, _, _, _, _, _, rfl, ha⟩) (rep_V ⟨_, _, _, _, _, _, _, _, rfl, hb⟩) (rep_V ⟨_, _, _, _, _, _, _, _, rfl, hc⟩) (rep_V ⟨_, _, _, _, _, _, _, _, rfl, hd⟩))).mono fun _ _ => to_k
theorem rsign_anyB (a0 a1 a2 a3 : Value) (r : Rat) (w : World) (hr : RatV w a0 a1 a2 a3 r) : Calls Tryz.prog 37 #[.agg #[a0, a1, a2, a3]] w fun e w' => e = .returned (.int .i64 (sgnZ r.num)) ∧ Below w.heap.size w w' := by
 exact (back (e_rsign r) (arg1 (rep_R ⟨_, _, _, _, rfl, hr⟩))).mono fun _ _ => to_k
theorem rvalid_anyB (k : Nat) (a0 a1 a2 a3 : Value) (r : Rat) (w : World) (hr : RatV w a0 a1 a2 a3 r) (bq : Bq k r) (hk : k ≤ 1000000000000) :
    Calls Tryz.prog 53 #[.agg #[a0, a1, a2, a3]] w fun e w' => e = .returned (.bool true) ∧ Below w.heap.size w w' := by
 exact (back (e_rvalid bq hk) (arg1 (rep_R ⟨_, _, _, _, rfl, hr⟩))).mono fun _ _ => to_k
end Go.Proofs.YtcfejkpadcccbaaGreat
