/-
 PACKAGE rat, by the engine.
-/
import Derived.Test.YtcfejkpadcccbaaGreatRef4A
import Derived.Test.YtcfejkpadcccbaaGreatFlowD
import Derived.Test.YtcfejkpadcccbaaGreatWalkPlB
import Derived.Test.YtcfejkpadcccbaaGreatEnK
import Derived.Test.YtcfejkpadcccbaaGreatWalkGcd
namespace Go.Proofs.YtcfejkpadcccbaaGreat
set_option maxHeartbeats 4000000
open Go.RowKit
attribute [local go_sem] run_store_one
set_option linter.unusedVariables false
set_option linter.unusedSimpArgs false
theorem q_div (r t : Rat) : Rat.divInt (r.num * t.den) (r.den * t.num) = r / t := by
 rw [← Rat.divInt_mul_divInt, Rat.num_divInt_den, Rat.div_def, Rat.inv_def]
end Go.Proofs.YtcfejkpadcccbaaGreat
namespace Go.Proofs.YtcfejkpadcccbaaGreat
set_option maxHeartbeats 4000000
open Go.RowKit
attribute [local go_sem] run_store_one
set_option linter.unusedVariables false
end Go.Proofs.YtcfejkpadcccbaaGreat
namespace Go.Proofs.YtcfejkpadcccbaaGreat
set_option maxHeartbeats 4000000
open Go.RowKit
attribute [local go_sem] run_store_one
set_option linter.unusedVariables false
end Go.Proofs.YtcfejkpadcccbaaGreat
namespace Go.Proofs.YtcfejkpadcccbaaGreat.E
open Go.RowKit
set_option linter.unusedVariables false
section
variable {s : Bool} {P : Program}
def ye {t : Bool} (h : t = true) : Fa s P := .dec t true h
def na {t : Bool} (h : t = false) : Fa s P := .dec t false h
end
theorem digs_z {x : Int} (h : x = 0) : digs x.natAbs = [] := by subst h; unfold digs; rfl
theorem digs_nz {x : Int} (h : x ≠ 0) : (digs x.natAbs).length ≠ 0 := by
 unfold digs
 rw [dif_neg (by omega)]
 simp
theorem len_z {x : Int} (h : x = 0) : (((digs x.natAbs).length : Int) == 0) = true := by rw [digs_z h]; rfl
theorem len_nz {x : Int} (h : x ≠ 0) : (((digs x.natAbs).length : Int) == 0) = false := by
 have := digs_nz h
 simp; exact fun e => this (by rw [e]; rfl)
theorem digs_one {x : Int} (h0 : ¬ x < 0) (h : (digs x.natAbs).length = 1) : digs x.natAbs = [x] := by
 have h2 := (digs_ok x.natAbs).2
 match hd : digs x.natAbs, h with
 | [d], _ =>
   rw [hd] at h2
   simp only [I.val] at h2
   congr 1
   omega
theorem digs_1 : digs (1 : Int).natAbs = [1] := by
 unfold digs; rw [dif_neg (by decide)]
 unfold digs; rfl
abbrev F_ := Fa false PP
noncomputable def yt : F_ := ye (t := true) rfl
noncomputable def nf : F_ := na (t := false) rfl
def bo (b : Bool) : V := .k (.bool b)
def ni (x : Int) : V := .k (.int .i64 x)
theorem rt_val {u : Value} {w w' : World} {e : Ending} (h : e = .returned u ∧ Below w.heap.size w w') : Rt (fun w v => Rep false w (fun _ => True) no v (.k u)) w e w' := ⟨u, h.1, .k _ _, h.2⟩
theorem RII.rt {x y : Int} {w w' : World} {e : Ending} (h : RII x y w e w') : Rt (fun w v => Rep false w (fun _ => True) no v (.tu [.ag (dI x), .ag (dI y)])) w e w' := by
 obtain ⟨a, b, c, d, rfl, h1, h2, h3⟩ := h
 refine ⟨_, rfl, .tu _ _ _ rfl fun j z hz => ?_, h3⟩
 match j, hz with
 | 0, hz => simp at hz; subst hz; exact rep_I ⟨a, b, rfl, h1⟩
 | 1, hz => simp at hz; subst hz; exact rep_I ⟨c, d, rfl, h2⟩
 | j + 2, hz => simp at hz
section
variable {x y : Int} {j k : Nat}
/-- Integers of the reference. -/
theorem e_of3 (hx : W.Is64 x) : Pure false PP 95 [ni x] (.ag (dI x)) :=
 o1 (by kernel_rfl) fun w u A h => by rw [Rep.k_inv h]; exact (rof3_any x w hx).mono fun _ _ => RI.rt
theorem e_neg3 (x : Int) : Pure false PP 123 [.ag (dI x)] (.ag (dI (-x))) :=
 oI (by kernel_rfl) fun w a b h => (rneg3_any a b x w h).mono fun _ _ => RI.rt
theorem e_sign3 (x : Int) : Pure false PP 100 [.ag (dI x)] (ni (sgnZ x)) :=
 oI (by kernel_rfl) fun w a b h => (rsign3_any a b x w h).mono fun _ _ => rt_val
theorem e_cmp3 (x y : Int) : Pure false PP 112 [.ag (dI x), .ag (dI y)] (ni (cmpZ x y)) :=
 oII (by kernel_rfl) fun w a b c d h g => (rcmp3_any a b c d x y w h g).mono fun _ _ => rt_val
theorem e_add3 (bx : I.Bd k x) (by_ : I.Bd k y) (hk : k ≤ 1000000000000) : Pure false PP 109 [.ag (dI x), .ag (dI y)] (.ag (dI (x + y))) :=
 oII (by kernel_rfl) fun w a b c d h g => (radd3_any k a b c d x y w h g bx by_ hk).mono fun _ _ => RI.rt
theorem e_mul3 (bx : I.Bd j x) (by_ : I.Bd k y) (hk : j + k ≤ 1000000000000) : Pure false PP 107 [.ag (dI x), .ag (dI y)] (.ag (dI (x * y))) :=
 oII (by kernel_rfl) fun w a b c d h g => (rmul3_any j k a b c d x y w h g bx by_ hk).mono fun _ _ => RI.rt
theorem e_div3 (bx : I.Bd k x) (by_ : I.Bd k y) (hk : k ≤ 800000000000) (h0 : y ≠ 0) : Pure false PP 122 [.ag (dI x), .ag (dI y)] (.tu [.ag (dI (x / y)), .ag (dI (x % y))]) :=
 oII (by kernel_rfl) fun w a b c d h g => (rdiv3_any k a b c d x y w h g bx by_ hk h0).mono fun _ _ => RII.rt
theorem e_gcd3 (bx : I.Bd k x) (by_ : I.Bd k y) (hk : k ≤ 800000000000) : Pure false PP 103 [.ag (dI x), .ag (dI y)] (.ag (dI (Int.gcd x y))) :=
 oII (by kernel_rfl) fun w a b c d h g => (rgcd3_any k a b c d x y w h g bx by_ hk).mono fun _ _ => RI.rt
theorem e_one4 (x : Int) : Pure false PP 102 [.ag (dI x)] (bo (decide (x = 1))) := by
 by_cases h0 : x < 0
 · rw [show decide (x = 1) = false from decide_eq_false (by omega)]
   exact tr [ye (decide_eq_true h0), yt] (by kernel_rfl)
 · by_cases h1 : (digs x.natAbs).length = 1
   · have hd := digs_one h0 h1
     exact tr [na (decide_eq_false h0), na (t := ((digs x.natAbs).length : Int) != 1) (by rw [h1]; rfl), .num (digs x.natAbs) 0 x (by rw [hd]; rfl)] (by kernel_rfl)
   · rw [show decide (x = 1) = false from decide_eq_false fun e => h1 (by rw [e, digs_1]; rfl)]
     exact tr [na (decide_eq_false h0), ye (t := ((digs x.natAbs).length : Int) != 1) (by simp; omega)] (by kernel_rfl)
/-- A rational of known parts. -/
theorem dR_of {r : Rat} {p q : Int} (h : r.num = p) (g : dq r = q) : dR r = [.k (.bool (decide (p < 0))), .dg (digs p.natAbs), .k (.bool (decide (q < 0))), .dg (digs q.natAbs)] := by subst h; subst g; rfl
theorem dR_whole {r : Rat} {p : Int} (h : r.num = p) (g : r.den = 1) : dR r = [.k (.bool (decide (p < 0))), .dg (digs p.natAbs), .k (.bool false), .dg []] := by
 rw [dR_of h (dq_one g), show digs (0 : Int).natAbs = [] from digs_z rfl]; rfl
theorem dR_0 : dR 0 = [.k (.bool false), .dg [], .k (.bool false), .dg []] := by
 rw [dR_whole (p := 0) rfl rfl, show digs (0 : Int).natAbs = [] from digs_z rfl]; rfl
variable {r t : Rat}
theorem e_den4 (r : Rat) : Pure false PP 108 [.ag (dR r)] (.ag (dI r.den)) := by
 by_cases h : r.den = 1
 · rw [show (r.den : Int) = 1 by omega]
   exact tr [ye (len_z (dq_one h)), cl (e_of3 (x := 1) ⟨by decide, by decide⟩)] (by kernel_rfl)
 · rw [← dq_more h]
   exact tr [na (len_nz (x := dq r) (by rw [dq_more h]; exact den_ne r))] (by kernel_rfl)
theorem e_make4 (bx : I.Bd k x) (by_ : I.Bd k y) (hk : k ≤ 800000000000) : Pure false PP 94 [.ag (dI x), .ag (dI y)] (.ag (dR (Rat.divInt x y))) := by
 by_cases hy : y = 0
 · rw [hy, Rat.divInt_zero, dR_0]
   exact tr [ye (len_z rfl), yt] (by kernel_rfl)
 by_cases hx : x = 0
 · rw [hx, Rat.zero_divInt, dR_0]
   exact tr [na (len_nz hy), ye (len_z rfl)] (by kernel_rfl)
 have hlow := divInt_low (x := x) hy
 have hgl := gcd_low (x := x) hy
 have hyg := low_ne (x := x) hy
 have hG := gcd_ne (x := x) hy
 have hbG : I.Bd k (Int.gcd x y : Int) := Bd.dvd by_ (by rw [Int.natAbs_natCast]; exact Int.gcd_dvd_natAbs_right x y) hy
 by_cases hn : y / (Int.gcd x y : Int) < 0
 · have hr := divInt_neg_ hn hgl
   rw [hlow] at hr
   by_cases h1 : -(y / (Int.gcd x y : Int)) = 1
   · rw [dR_whole hr.1 (by omega)]
     exact tr [na (len_nz hy), na (len_nz hx), cl (e_gcd3 bx by_ hk), cl (e_div3 bx hbG hk hG), cl (e_div3 by_ hbG hk hG), ye (decide_eq_true hn), cl (e_neg3 (x / (Int.gcd x y : Int))), cl (e_neg3 (y / (Int.gcd x y : Int))), cl (e_one4 (-(y / (Int.gcd x y : Int)))), ye (decide_eq_true h1)] (by kernel_rfl)
   · rw [dR_of hr.1 ((dq_more (by omega)).trans hr.2)]
     exact tr [na (len_nz hy), na (len_nz hx), cl (e_gcd3 bx by_ hk), cl (e_div3 bx hbG hk hG), cl (e_div3 by_ hbG hk hG), ye (decide_eq_true hn), cl (e_neg3 (x / (Int.gcd x y : Int))), cl (e_neg3 (y / (Int.gcd x y : Int))), cl (e_one4 (-(y / (Int.gcd x y : Int)))), na (decide_eq_false h1)] (by kernel_rfl)
 · have hr := divInt_pos (show 0 < y / (Int.gcd x y : Int) by omega) hgl
   rw [hlow] at hr
   by_cases h1 : y / (Int.gcd x y : Int) = 1
   · rw [dR_whole hr.1 (by omega)]
     exact tr [na (len_nz hy), na (len_nz hx), cl (e_gcd3 bx by_ hk), cl (e_div3 bx hbG hk hG), cl (e_div3 by_ hbG hk hG), na (decide_eq_false hn), cl (e_one4 (y / (Int.gcd x y : Int))), ye (decide_eq_true h1)] (by kernel_rfl)
   · rw [dR_of hr.1 ((dq_more (by omega)).trans hr.2)]
     exact tr [na (len_nz hy), na (len_nz hx), cl (e_gcd3 bx by_ hk), cl (e_div3 bx hbG hk hG), cl (e_div3 by_ hbG hk hG), na (decide_eq_false hn), cl (e_one4 (y / (Int.gcd x y : Int))), na (decide_eq_false h1)] (by kernel_rfl)
theorem e_of4 (hx : W.Is64 x) (hy : W.Is64 y) : Pure false PP 52 [ni x, ni y] (.ag (dR (Rat.divInt x y))) :=
 tr [cl (e_of3 hx), cl (e_of3 hy), cl (e_make4 (bd64 hx) (bd64 hy) (by omega))] (by kernel_rfl)
theorem e_add4 (br : Bq j r) (bt : Bq k t) (hk : j + k + 1 ≤ 800000000000) : Pure false PP 69 [.ag (dR r), .ag (dR t)] (.ag (dR (r + t))) := by
 rw [← q_add]
 have h1 := br.1.mul bt.2
 have h2 : I.Bd (j + k) (t.num * r.den) := by rw [Nat.add_comm]; exact bt.1.mul br.2
 exact tr [cl (e_den4 t), cl (e_mul3 br.1 bt.2 (by omega)), cl (e_den4 r), cl (e_mul3 bt.1 br.2 (by omega)), cl (e_add3 h1 h2 (by omega)), cl (e_den4 r), cl (e_den4 t), cl (e_mul3 br.2 bt.2 (by omega)), cl (e_make4 (h1.add' h2) ((br.2.mul bt.2).mono (by omega)) hk)] (by kernel_rfl)
theorem e_neg4 (r : Rat) : Pure false PP 110 [.ag (dR r)] (.ag (dR (-r))) := by
 rw [dR_of (Rat.neg_num ..) (show dq (-r) = dq r by unfold dq; rw [Rat.neg_den])]
 exact tr [cl (e_neg3 r.num)] (by kernel_rfl)
theorem e_sub4 (br : Bq j r) (bt : Bq k t) (hk : j + k + 1 ≤ 800000000000) : Pure false PP 71 [.ag (dR r), .ag (dR t)] (.ag (dR (r - t))) := by
 rw [Rat.sub_eq_add_neg]
 exact tr [cl (e_neg4 t), cl (e_add4 br bt.neg hk)] (by kernel_rfl)
theorem e_mul4 (br : Bq j r) (bt : Bq k t) (hk : j + k + 1 ≤ 800000000000) : Pure false PP 70 [.ag (dR r), .ag (dR t)] (.ag (dR (r * t))) := by
 rw [← q_mul]
 exact tr [cl (e_mul3 br.1 bt.1 (by omega)), cl (e_den4 r), cl (e_den4 t), cl (e_mul3 br.2 bt.2 (by omega)), cl (e_make4 (br.1.mul bt.1) (br.2.mul bt.2) (by omega))] (by kernel_rfl)
theorem e_div4 (br : Bq j r) (bt : Bq k t) (hk : j + k + 1 ≤ 800000000000) : Pure false PP 76 [.ag (dR r), .ag (dR t)] (.ag (dR (r / t))) := by
 rw [← q_div]
 exact tr [cl (e_den4 t), cl (e_mul3 br.1 bt.2 (by omega)), cl (e_den4 r), cl (e_mul3 br.2 bt.1 (by omega)), cl (e_make4 (br.1.mul bt.2) (br.2.mul bt.1) (by omega))] (by kernel_rfl)
theorem e_cmp4 (br : Bq j r) (bt : Bq k t) (hk : j + k + 1 ≤ 800000000000) : Pure false PP 78 [.ag (dR r), .ag (dR t)] (ni (cmpQ r t)) := by
 rw [← cmp_cross]
 exact tr [cl (e_den4 t), cl (e_mul3 br.1 bt.2 (by omega)), cl (e_den4 r), cl (e_mul3 bt.1 br.2 (by omega)), cl (e_cmp3 (r.num * t.den) (t.num * r.den))] (by kernel_rfl)
theorem e_sign4 (r : Rat) : Pure false PP 58 [.ag (dR r)] (ni (sgnZ r.num)) :=
 tr [cl (e_sign3 r.num)] (by kernel_rfl)
end
end Go.Proofs.YtcfejkpadcccbaaGreat.E
namespace Go.Proofs.YtcfejkpadcccbaaGreat.E
open Go.RowKit
set_option linter.unusedVariables false
section
variable {x y : Int} {j k : Nat}
theorem e_of (hx : W.Is64 x) : Pure false PP 88 [ni x] (.ag (dI x)) :=
 o1 (by kernel_rfl) fun w u A h => by rw [Rep.k_inv h]; exact (iof_any x w hx).mono fun _ _ => RI.rt
theorem e_neg (x : Int) : Pure false PP 86 [.ag (dI x)] (.ag (dI (-x))) :=
 oI (by kernel_rfl) fun w a b h => (ineg_any a b x w h).mono fun _ _ => RI.rt
theorem e_sign (x : Int) : Pure false PP 85 [.ag (dI x)] (ni (sgnZ x)) :=
 oI (by kernel_rfl) fun w a b h => (isign_any a b x w h).mono fun _ _ => rt_val
theorem e_cmp (x y : Int) : Pure false PP 87 [.ag (dI x), .ag (dI y)] (ni (cmpZ x y)) :=
 oII (by kernel_rfl) fun w a b c d h g => (icmp_any a b c d x y w h g).mono fun _ _ => rt_val
theorem e_add (bx : I.Bd k x) (by_ : I.Bd k y) (hk : k ≤ 1000000000000) : Pure false PP 81 [.ag (dI x), .ag (dI y)] (.ag (dI (x + y))) :=
 oII (by kernel_rfl) fun w a b c d h g => (iadd_any k a b c d x y w h g bx by_ hk).mono fun _ _ => RI.rt
theorem e_mul (bx : I.Bd j x) (by_ : I.Bd k y) (hk : j + k ≤ 1000000000000) : Pure false PP 84 [.ag (dI x), .ag (dI y)] (.ag (dI (x * y))) :=
 oII (by kernel_rfl) fun w a b c d h g => (imul_any j k a b c d x y w h g bx by_ hk).mono fun _ _ => RI.rt
theorem e_div (bx : I.Bd k x) (by_ : I.Bd k y) (hk : k ≤ 1000000000000) (h0 : y ≠ 0) : Pure false PP 119 [.ag (dI x), .ag (dI y)] (.tu [.ag (dI (x / y)), .ag (dI (x % y))]) :=
 oII (by kernel_rfl) fun w a b c d h g => (idiv_any k a b c d x y w h g bx by_ hk h0).mono fun _ _ => RII.rt
theorem e_gcd (bx : I.Bd k x) (by_ : I.Bd k y) (hk : k ≤ 1000000000000) : Pure false PP 98 [.ag (dI x), .ag (dI y)] (.ag (dI (Int.gcd x y))) :=
 oII (by kernel_rfl) fun w a b c d h g => (igcd_any k a b c d x y w h g bx by_ hk).mono fun _ _ => RI.rt
theorem e_unit (x : Int) : Pure false PP 97 [.ag (dI x)] (bo (decide (x = 1))) := by
 by_cases h0 : x < 0
 · rw [show decide (x = 1) = false from decide_eq_false (by omega)]
   exact tr [na (t := !decide (x < 0)) (by simp [h0]), nf] (by kernel_rfl)
 · by_cases h1 : (digs x.natAbs).length = 1
   · have hd := digs_one h0 h1
     exact tr [ye (t := !decide (x < 0)) (by simp [h0]), ye (t := ((digs x.natAbs).length : Int) == 1) (by rw [h1]; rfl), .num (digs x.natAbs) 0 x (by rw [hd]; rfl)] (by kernel_rfl)
   · rw [show decide (x = 1) = false from decide_eq_false fun e => h1 (by rw [e, digs_1]; rfl)]
     exact tr [ye (t := !decide (x < 0)) (by simp [h0]), na (t := ((digs x.natAbs).length : Int) == 1) (by simp; omega)] (by kernel_rfl)
theorem e_one : Pure false PP 118 [] (.ag (dI 1)) := tr [cl (e_of (x := 1) ⟨by decide, by decide⟩)] (by kernel_rfl)
variable {r t : Rat}
theorem e_den (r : Rat) : Pure false PP 82 [.ag (dR r)] (.ag (dI r.den)) := by
 by_cases h : r.den = 1
 · rw [show (r.den : Int) = 1 by omega]
   exact tr [ye (len_z (dq_one h)), cl e_one] (by kernel_rfl)
 · rw [← dq_more h]
   exact tr [na (len_nz (x := dq r) (by rw [dq_more h]; exact den_ne r))] (by kernel_rfl)
theorem e_rneg (r : Rat) : Pure false PP 40 [.ag (dR r)] (.ag (dR (-r))) := by
 rw [dR_of (Rat.neg_num ..) (show dq (-r) = dq r by unfold dq; rw [Rat.neg_den])]
 exact tr [cl (e_neg r.num)] (by kernel_rfl)
theorem e_rsign (r : Rat) : Pure false PP 37 [.ag (dR r)] (ni (sgnZ r.num)) := tr [cl (e_sign r.num)] (by kernel_rfl)
theorem e_low (hy : y ≠ 0) (hg : Int.gcd x y = 1) : Pure false PP 106 [.ag (dI x), .ag (dI y)] (.ag (dR (Rat.divInt x y))) := by
 by_cases hn : y < 0
 · have hr := divInt_neg_ hn hg
   by_cases h1 : -y = 1
   · rw [dR_whole hr.1 (by omega)]
     exact tr [ye (decide_eq_true hn), cl (e_neg x), cl (e_neg y), cl (e_unit (-y)), ye (decide_eq_true h1)] (by kernel_rfl)
   · rw [dR_of hr.1 ((dq_more (by omega)).trans hr.2)]
     exact tr [ye (decide_eq_true hn), cl (e_neg x), cl (e_neg y), cl (e_unit (-y)), na (decide_eq_false h1)] (by kernel_rfl)
 · have hr := divInt_pos (show 0 < y by omega) hg
   by_cases h1 : y = 1
   · rw [dR_whole hr.1 (by omega)]
     exact tr [na (decide_eq_false hn), cl (e_unit y), ye (decide_eq_true h1)] (by kernel_rfl)
   · rw [dR_of hr.1 ((dq_more (by omega)).trans hr.2)]
     exact tr [na (decide_eq_false hn), cl (e_unit y), na (decide_eq_false h1)] (by kernel_rfl)
theorem e_make (bx : I.Bd k x) (by_ : I.Bd k y) (hk : k ≤ 1000000000000) : Pure false PP 83 [.ag (dI x), .ag (dI y)] (.ag (dR (Rat.divInt x y))) := by
 by_cases hy : y = 0
 · rw [hy, Rat.divInt_zero, dR_0]
   exact tr [ye (len_z rfl), yt] (by kernel_rfl)
 by_cases hx : x = 0
 · rw [hx, Rat.zero_divInt, dR_0]
   exact tr [na (len_nz hy), ye (len_z rfl)] (by kernel_rfl)
 have hG := gcd_ne (x := x) hy
 have hbG : I.Bd k (Int.gcd x y : Int) := Bd.dvd by_ (by rw [Int.natAbs_natCast]; exact Int.gcd_dvd_natAbs_right x y) hy
 by_cases h1 : (Int.gcd x y : Int) = 1
 · exact tr [na (len_nz hy), na (len_nz hx), cl (e_gcd bx by_ hk), cl (e_unit (Int.gcd x y)), na (t := !decide ((Int.gcd x y : Int) = 1)) (by simp [h1]), cl (e_low (x := x) (y := y) hy (by omega))] (by kernel_rfl)
 · rw [← divInt_low (x := x) hy]
   exact tr [na (len_nz hy), na (len_nz hx), cl (e_gcd bx by_ hk), cl (e_unit (Int.gcd x y)), ye (t := !decide ((Int.gcd x y : Int) = 1)) (by simp [h1]), cl (e_div bx hbG hk hG), cl (e_div by_ hbG hk hG), cl (e_low (low_ne (x := x) hy) (gcd_low (x := x) hy))] (by kernel_rfl)
theorem e_rof (hx : W.Is64 x) (hy : W.Is64 y) : Pure false PP 68 [ni x, ni y] (.ag (dR (Rat.divInt x y))) :=
 tr [cl (e_of hx), cl (e_of hy), cl (e_make (bd64 hx) (bd64 hy) (by omega))] (by kernel_rfl)
theorem dq_nz {r : Rat} (h : r.den ≠ 1) : dq r ≠ 0 := by rw [dq_more h]; exact den_ne r
theorem whole_of {r : Rat} {p : Int} (h : r = Rat.divInt p 1) : r.num = p ∧ r.den = 1 := by
 have := divInt_pos (p := p) (q := 1) (by decide) (Int.gcd_one_right _)
 rw [← h] at this
 exact ⟨this.1, by omega⟩
theorem e_radd (br : Bq j r) (bt : Bq k t) (hk : j + k + 1 ≤ 1000000000000) : Pure false PP 36 [.ag (dR r), .ag (dR t)] (.ag (dR (r + t))) := by
 have h1 := br.1.mul bt.2
 have h2 : I.Bd (j + k) (t.num * r.den) := by rw [Nat.add_comm]; exact bt.1.mul br.2
 have h3 := (br.2.mul bt.2).mono (show j + k ≤ j + k + 1 by omega)
 by_cases hr : r.den = 1
 · by_cases ht : t.den = 1
   · have := whole_of (r := r + t) (p := r.num + t.num) (by rw [← q_add, hr, ht]; simp)
     rw [dR_whole this.1 this.2]
     exact tr [ye (len_z (dq_one hr)), ye (len_z (dq_one ht)), cl (e_add (br.1.mono (show j ≤ j + k by omega)) (bt.1.mono (by omega)) (by omega))] (by kernel_rfl)
   · by_cases r0 : r.num = 0
     · rw [show r + t = t by rw [num_zero.1 r0, Rat.zero_add]]
       exact tr [ye (len_z (dq_one hr)), na (len_nz (dq_nz ht)), ye (len_z r0)] (by kernel_rfl)
     · have t0 : t.num ≠ 0 := fun e => ht (by rw [num_zero.1 e]; rfl)
       rw [← q_add]
       exact tr [ye (len_z (dq_one hr)), na (len_nz (dq_nz ht)), na (len_nz r0), na (len_nz t0), cl (e_den r), cl (e_den t), cl (e_mul br.1 bt.2 (by omega)), cl (e_mul bt.1 br.2 (by omega)), cl (e_add h1 h2 (by omega)), cl (e_mul br.2 bt.2 (by omega)), cl (e_make (h1.add' h2) h3 hk)] (by kernel_rfl)
 · have r0 : r.num ≠ 0 := fun e => hr (by rw [num_zero.1 e]; rfl)
   by_cases t0 : t.num = 0
   · rw [show r + t = r by rw [num_zero.1 t0, Rat.add_zero]]
     exact tr [na (len_nz (dq_nz hr)), nf, na (len_nz r0), ye (len_z t0)] (by kernel_rfl)
   · rw [← q_add]
     exact tr [na (len_nz (dq_nz hr)), nf, na (len_nz r0), na (len_nz t0), cl (e_den r), cl (e_den t), cl (e_mul br.1 bt.2 (by omega)), cl (e_mul bt.1 br.2 (by omega)), cl (e_add h1 h2 (by omega)), cl (e_mul br.2 bt.2 (by omega)), cl (e_make (h1.add' h2) h3 hk)] (by kernel_rfl)
theorem e_rsub (br : Bq j r) (bt : Bq k t) (hk : j + k + 1 ≤ 1000000000000) : Pure false PP 129 [.ag (dR r), .ag (dR t)] (.ag (dR (r - t))) := by
 rw [Rat.sub_eq_add_neg]
 exact tr [cl (e_rneg t), cl (e_radd br bt.neg hk)] (by kernel_rfl)
theorem e_rmul (br : Bq j r) (bt : Bq k t) (hk : j + k ≤ 1000000000000) : Pure false PP 67 [.ag (dR r), .ag (dR t)] (.ag (dR (r * t))) := by
 by_cases r0 : r.num = 0
 · rw [num_zero.1 r0, Rat.zero_mul, dR_0]
   exact tr [ye (len_z rfl), yt] (by kernel_rfl)
 by_cases t0 : t.num = 0
 · rw [num_zero.1 t0, Rat.mul_zero, dR_0]
   exact tr [na (len_nz r0), ye (len_z rfl)] (by kernel_rfl)
 have hx := q_dvd (p := r.num) (q := t.den) (den_ne t)
 have hy := q_dvd (p := t.num) (q := r.den) (den_ne r)
 have b1 : I.Bd j (Rat.divInt r.num t.den).num := Bd.dvd br.1 (by simpa using hx.1) r0
 have b2 : I.Bd k (Rat.divInt t.num r.den).num := Bd.dvd bt.1 (by simpa using hy.1) t0
 have b3 : I.Bd k ((Rat.divInt r.num t.den).den : Int) := Bd.dvd bt.2 (by simpa using hx.2) (den_ne t)
 have b4 : I.Bd j ((Rat.divInt t.num r.den).den : Int) := Bd.dvd br.2 (by simpa using hy.2) (den_ne r)
 have hne : ((Rat.divInt r.num t.den).den : Int) * (Rat.divInt t.num r.den).den ≠ 0 := Int.mul_ne_zero (den_ne _) (den_ne _)
 have hd : Rat.divInt ((Rat.divInt r.num t.den).num * (Rat.divInt t.num r.den).num) ((Rat.divInt r.num t.den).den * (Rat.divInt t.num r.den).den) = r * t := by rw [q_mul, q_mulx]
 by_cases hr : r.den = 1
 · by_cases ht : t.den = 1
   · have := whole_of (r := r * t) (p := r.num * t.num) (by rw [← q_mul, hr, ht]; simp)
     rw [dR_whole this.1 this.2]
     exact tr [na (len_nz r0), na (len_nz t0), ye (len_z (dq_one hr)), ye (len_z (dq_one ht)), cl (e_mul br.1 bt.1 hk)] (by kernel_rfl)
   · rw [← hd]
     exact tr [na (len_nz r0), na (len_nz t0), ye (len_z (dq_one hr)), na (len_nz (dq_nz ht)), cl (e_den t), cl (e_make (br.1.mono (show j ≤ j + k by omega)) (bt.2.mono (by omega)) hk), cl (e_den r), cl (e_make (bt.1.mono (show k ≤ j + k by omega)) (br.2.mono (by omega)) hk), cl (e_mul b1 b2 hk), cl (e_den (Rat.divInt r.num t.den)), cl (e_den (Rat.divInt t.num r.den)), cl (e_mul b3 b4 (by omega)), cl (e_low hne (q_gcd r t))] (by kernel_rfl)
 · rw [← hd]
   exact tr [na (len_nz r0), na (len_nz t0), na (len_nz (dq_nz hr)), nf, cl (e_den t), cl (e_make (br.1.mono (show j ≤ j + k by omega)) (bt.2.mono (by omega)) hk), cl (e_den r), cl (e_make (bt.1.mono (show k ≤ j + k by omega)) (br.2.mono (by omega)) hk), cl (e_mul b1 b2 hk), cl (e_den (Rat.divInt r.num t.den)), cl (e_den (Rat.divInt t.num r.den)), cl (e_mul b3 b4 (by omega)), cl (e_low hne (q_gcd r t))] (by kernel_rfl)
theorem e_rcmp (br : Bq j r) (bt : Bq k t) (hk : j + k ≤ 1000000000000) : Pure false PP 42 [.ag (dR r), .ag (dR t)] (ni (cmpQ r t)) := by
 by_cases hd : sgnZ r.num = sgnZ t.num
 · by_cases hz : sgnZ r.num = 0
   · rw [← cmpQ_sgn (.inr hz)]
     exact tr [cl (e_rsign r), cl (e_rsign t), na (t := sgnZ r.num != sgnZ t.num) (by simp [hd]), ye (t := sgnZ r.num == 0) (by simp [hz]), cl (e_of (sgn64 r.num)), cl (e_of (sgn64 t.num)), cl (e_cmp (sgnZ r.num) (sgnZ t.num))] (by kernel_rfl)
   · rw [← cmp_cross]
     exact tr [cl (e_rsign r), cl (e_rsign t), na (t := sgnZ r.num != sgnZ t.num) (by simp [hd]), na (t := sgnZ r.num == 0) (by simp [hz]), cl (e_den t), cl (e_mul br.1 bt.2 (by omega)), cl (e_den r), cl (e_mul bt.1 br.2 (by omega)), cl (e_cmp (r.num * t.den) (t.num * r.den))] (by kernel_rfl)
 · rw [← cmpQ_sgn (.inl hd)]
   exact tr [cl (e_rsign r), cl (e_rsign t), ye (t := sgnZ r.num != sgnZ t.num) (by simp [hd]), yt, cl (e_of (sgn64 r.num)), cl (e_of (sgn64 t.num)), cl (e_cmp (sgnZ r.num) (sgnZ t.num))] (by kernel_rfl)
end
end Go.Proofs.YtcfejkpadcccbaaGreat.E
