/-
 THE WALKS of the generators: Around, At, Number, Vec, Turn.
-/
import Derived.Test.YtlgnagnmoleeiaaGreatWalkPlF
import Derived.Test.YtlgnagnmoleeiaaGreatEmY
import Derived.Test.YtlgnagnmoleeiaaGreatRef5G
import Derived.Test.YtlgnagnmoleeiaaGreatEmL
import Derived.Deep.DeepCutAuto
import Derived.LoopTactic
import Derived.Deep.LoopGhost
namespace Go.Proofs.YtlgnagnmoleeiaaGreat.E
open Go.RowKit
set_option linter.unusedVariables false
def dR (r : Rat) : List V := [.k (.bool (decide (r.num < 0))), dg r.num, .k (.bool (decide (dq r < 0))), dg (dq r)]
def dV (v : Rat × Rat) : List V := match dR v.1, dR v.2 with
 | [a, b, c, d], [e, f, g, h] => [a, b, c, d, e, f, g, h]
 | _, _ => []
theorem lz_z {x : Int} (h : x = 0) : (((zs (digs x.natAbs)).length : Int) == 0) = true := by rw [zs_len]; exact len_z h
theorem lz_nz {x : Int} (h : x ≠ 0) : (((zs (digs x.natAbs)).length : Int) == 0) = false := by rw [zs_len]; exact len_nz h
section
variable {x y : Int} {j k : Nat}
theorem e_one4 (x : Int) : Pure PP 138 [.ag (dI x)] (bo (decide (x = 1))) := by
 by_cases h0 : x < 0
 · rw [show decide (x = 1) = false from decide_eq_false (by omega)]
   exact tr [ye (decide_eq_true h0), yt] (by kernel_rfl)
 · by_cases h1 : (digs x.natAbs).length = 1
   · have hd := digs_one h0 h1
     exact tr [na (decide_eq_false h0), na (t := ((zs (digs x.natAbs)).length : Int) != 1) (by rw [zs_len, h1]; rfl), .sel (zs (digs x.natAbs)) 0 [ni x] (by rw [hd]; rfl)] (by kernel_rfl)
   · rw [show decide (x = 1) = false from decide_eq_false fun e => h1 (by rw [e, digs_1]; rfl)]
     exact tr [na (decide_eq_false h0), ye (t := ((zs (digs x.natAbs)).length : Int) != 1) (by rw [zs_len]; simp; omega)] (by kernel_rfl)
/-- A rational of known parts. -/
theorem dR_of {r : Rat} {p q : Int} (h : r.num = p) (g : dq r = q) : dR r = [.k (.bool (decide (p < 0))), .sl (zs (digs p.natAbs)), .k (.bool (decide (q < 0))), .sl (zs (digs q.natAbs))] := by subst h; subst g; rfl
theorem dR_whole {r : Rat} {p : Int} (h : r.num = p) (g : r.den = 1) : dR r = [.k (.bool (decide (p < 0))), .sl (zs (digs p.natAbs)), .k (.bool false), .sl []] := by
 rw [dR_of h (dq_one g), show digs (0 : Int).natAbs = [] from digs_z rfl]; rfl
theorem dR_0 : dR 0 = [.k (.bool false), .sl [], .k (.bool false), .sl []] := by
 rw [dR_whole (p := 0) rfl rfl, show digs (0 : Int).natAbs = [] from digs_z rfl]; rfl
variable {r t : Rat}
theorem e_den4 (r : Rat) : Pure PP 121 [.ag (dR r)] (.ag (dI r.den)) := by
 by_cases h : r.den = 1
 · rw [show (r.den : Int) = 1 by omega]
   exact tr [ye (lz_z (dq_one h)), cl (e_of3 (x := 1) ⟨by decide, by decide⟩)] (by kernel_rfl)
 · rw [← dq_more h]
   exact tr [na (lz_nz (x := dq r) (by rw [dq_more h]; exact den_ne r))] (by kernel_rfl)
theorem e_make4 (bx : I.Bd k x) (by_ : I.Bd k y) (hk : k ≤ 800000000000) : Pure PP 89 [.ag (dI x), .ag (dI y)] (.ag (dR (Rat.divInt x y))) := by
 by_cases hy : y = 0
 · rw [hy, Rat.divInt_zero, dR_0]
   exact tr [ye (lz_z rfl), yt] (by kernel_rfl)
 by_cases hx : x = 0
 · rw [hx, Rat.zero_divInt, dR_0]
   exact tr [na (lz_nz hy), ye (lz_z rfl)] (by kernel_rfl)
 have hlow := divInt_low (x := x) hy
 have hgl := gcd_low (x := x) hy
 have hyg := low_ne (x := x) hy
 have hG := gcd_ne (x := x) hy
 have hbG : I.Bd k (Int.gcd x y : Int) := Bd.dvd by_ (by rw [Int.natAbs_natCast]; exact Int.gcd_dvd_natAbs_right x y) hy
 by_cases hn : y / (Int.gcd x y : Int) < 0
 · have hr := divInt_neg_ hn hgl
   rw [hlow] at hr
   by_cases h1 : -(y / (Int.gcd x y : Int)) = 1
   · rw [dR_whole hr.1 (by omega)]
     exact tr [na (lz_nz hy), na (lz_nz hx), cl (e_gcd3 bx by_ hk), cl (e_div3 bx hbG hk hG), cl (e_div3 by_ hbG hk hG), ye (decide_eq_true hn), cl (e_neg3 (x / (Int.gcd x y : Int))), cl (e_neg3 (y / (Int.gcd x y : Int))), cl (e_one4 (-(y / (Int.gcd x y : Int)))), ye (decide_eq_true h1)] (by kernel_rfl)
   · rw [dR_of hr.1 ((dq_more (by omega)).trans hr.2)]
     exact tr [na (lz_nz hy), na (lz_nz hx), cl (e_gcd3 bx by_ hk), cl (e_div3 bx hbG hk hG), cl (e_div3 by_ hbG hk hG), ye (decide_eq_true hn), cl (e_neg3 (x / (Int.gcd x y : Int))), cl (e_neg3 (y / (Int.gcd x y : Int))), cl (e_one4 (-(y / (Int.gcd x y : Int)))), na (decide_eq_false h1)] (by kernel_rfl)
 · have hr := divInt_pos (show 0 < y / (Int.gcd x y : Int) by omega) hgl
   rw [hlow] at hr
   by_cases h1 : y / (Int.gcd x y : Int) = 1
   · rw [dR_whole hr.1 (by omega)]
     exact tr [na (lz_nz hy), na (lz_nz hx), cl (e_gcd3 bx by_ hk), cl (e_div3 bx hbG hk hG), cl (e_div3 by_ hbG hk hG), na (decide_eq_false hn), cl (e_one4 (y / (Int.gcd x y : Int))), ye (decide_eq_true h1)] (by kernel_rfl)
   · rw [dR_of hr.1 ((dq_more (by omega)).trans hr.2)]
     exact tr [na (lz_nz hy), na (lz_nz hx), cl (e_gcd3 bx by_ hk), cl (e_div3 bx hbG hk hG), cl (e_div3 by_ hbG hk hG), na (decide_eq_false hn), cl (e_one4 (y / (Int.gcd x y : Int))), na (decide_eq_false h1)] (by kernel_rfl)
theorem e_of4 (hx : W.Is64 x) (hy : W.Is64 y) : Pure PP 26 [ni x, ni y] (.ag (dR (Rat.divInt x y))) :=
 tr [cl (e_of3 hx), cl (e_of3 hy), cl (e_make4 (bd64 hx) (bd64 hy) (by omega))] (by kernel_rfl)
theorem e_add4 (br : Bq j r) (bt : Bq k t) (hk : j + k + 1 ≤ 800000000000) : Pure PP 59 [.ag (dR r), .ag (dR t)] (.ag (dR (r + t))) := by
 rw [← q_add]
 have h1 := br.1.mul bt.2
 have h2 : I.Bd (j + k) (t.num * r.den) := by rw [Nat.add_comm]; exact bt.1.mul br.2
 exact tr [cl (e_den4 t), cl (e_mul3 br.1 bt.2 (by omega)), cl (e_den4 r), cl (e_mul3 bt.1 br.2 (by omega)), cl (e_add3 h1 h2 (by omega)), cl (e_den4 r), cl (e_den4 t), cl (e_mul3 br.2 bt.2 (by omega)), cl (e_make4 (h1.add' h2) ((br.2.mul bt.2).mono (by omega)) hk)] (by kernel_rfl)
theorem e_neg4 (r : Rat) : Pure PP 77 [.ag (dR r)] (.ag (dR (-r))) := by
 rw [dR_of (Rat.neg_num ..) (show dq (-r) = dq r by unfold dq; rw [Rat.neg_den])]
 exact tr [cl (e_neg3 r.num)] (by kernel_rfl)
theorem e_sub4 (br : Bq j r) (bt : Bq k t) (hk : j + k + 1 ≤ 800000000000) : Pure PP 179 [.ag (dR r), .ag (dR t)] (.ag (dR (r - t))) := by
 rw [Rat.sub_eq_add_neg]
 exact tr [cl (e_neg4 t), cl (e_add4 br bt.neg hk)] (by kernel_rfl)
theorem e_mul4 (br : Bq j r) (bt : Bq k t) (hk : j + k + 1 ≤ 800000000000) : Pure PP 160 [.ag (dR r), .ag (dR t)] (.ag (dR (r * t))) := by
 rw [← q_mul]
 exact tr [cl (e_mul3 br.1 bt.1 (by omega)), cl (e_den4 r), cl (e_den4 t), cl (e_mul3 br.2 bt.2 (by omega)), cl (e_make4 (br.1.mul bt.1) (br.2.mul bt.2) (by omega))] (by kernel_rfl)
theorem e_cmp4 (br : Bq j r) (bt : Bq k t) (hk : j + k + 1 ≤ 800000000000) : Pure PP 73 [.ag (dR r), .ag (dR t)] (ni (cmpQ r t)) := by
 rw [← cmp_cross]
 exact tr [cl (e_den4 t), cl (e_mul3 br.1 bt.2 (by omega)), cl (e_den4 r), cl (e_mul3 bt.1 br.2 (by omega)), cl (e_cmp3 (r.num * t.den) (t.num * r.den))] (by kernel_rfl)
theorem e_sign4 (r : Rat) : Pure PP 72 [.ag (dR r)] (ni (sgnZ r.num)) :=
 tr [cl (e_sign3 r.num)] (by kernel_rfl)
end
end Go.Proofs.YtlgnagnmoleeiaaGreat.E
namespace Go.Proofs.YtlgnagnmoleeiaaGreat.E
open Go.RowKit
set_option linter.unusedVariables false
section
variable {x y : Int} {j k : Nat}
theorem e_unit (x : Int) : Pure PP 125 [.ag (dI x)] (bo (decide (x = 1))) := by
 by_cases h0 : x < 0
 · rw [show decide (x = 1) = false from decide_eq_false (by omega)]
   exact tr [na (t := !decide (x < 0)) (by simp [h0]), nf] (by kernel_rfl)
 · by_cases h1 : (digs x.natAbs).length = 1
   · have hd := digs_one h0 h1
     exact tr [ye (t := !decide (x < 0)) (by simp [h0]), ye (t := ((zs (digs x.natAbs)).length : Int) == 1) (by rw [zs_len, h1]; rfl), .sel (zs (digs x.natAbs)) 0 [ni x] (by rw [hd]; rfl)] (by kernel_rfl)
   · rw [show decide (x = 1) = false from decide_eq_false fun e => h1 (by rw [e, digs_1]; rfl)]
     exact tr [ye (t := !decide (x < 0)) (by simp [h0]), na (t := ((zs (digs x.natAbs)).length : Int) == 1) (by rw [zs_len]; simp; omega)] (by kernel_rfl)
theorem e_one : Pure PP 173 [] (.ag (dI 1)) := tr [cl (e_of (x := 1) ⟨by decide, by decide⟩)] (by kernel_rfl)
variable {r t : Rat}
theorem e_den (r : Rat) : Pure PP 105 [.ag (dR r)] (.ag (dI r.den)) := by
 by_cases h : r.den = 1
 · rw [show (r.den : Int) = 1 by omega]
   exact tr [ye (lz_z (dq_one h)), cl e_one] (by kernel_rfl)
 · rw [← dq_more h]
   exact tr [na (lz_nz (x := dq r) (by rw [dq_more h]; exact den_ne r))] (by kernel_rfl)
theorem e_rneg (r : Rat) : Pure PP 178 [.ag (dR r)] (.ag (dR (-r))) := by
 rw [dR_of (Rat.neg_num ..) (show dq (-r) = dq r by unfold dq; rw [Rat.neg_den])]
 exact tr [cl (e_neg r.num)] (by kernel_rfl)
theorem e_rsign (r : Rat) : Pure PP 64 [.ag (dR r)] (ni (sgnZ r.num)) := tr [cl (e_sign r.num)] (by kernel_rfl)
theorem e_low (hy : y ≠ 0) (hg : Int.gcd x y = 1) : Pure PP 175 [.ag (dI x), .ag (dI y)] (.ag (dR (Rat.divInt x y))) := by
 by_cases hn : y < 0
 · have hr := divInt_neg_ hn hg
   by_cases h1 : -y = 1
   · rw [dR_whole hr.1 (by omega)]
     exact tr [ye (decide_eq_true hn), cl (e_neg x), cl (e_neg y), cl (e_unit (-y)), ye (decide_eq_true h1)] (by kernel_rfl)
   · rw [dR_of hr.1 ((dq_more (by omega)).trans hr.2)]
     exact tr [ye (decide_eq_true hn), cl (e_neg x), cl (e_neg y), cl (e_unit (-y)), na (decide_eq_false h1)] (by kernel_rfl)
 · have hr := divInt_pos (show 0 < y by omega) hg
   by_cases h1 : y = 1
   · rw [dR_whole hr.1 (by omega)]
     exact tr [na (decide_eq_false hn), cl (e_unit y), ye (decide_eq_true h1)] (by kernel_rfl)
   · rw [dR_of hr.1 ((dq_more (by omega)).trans hr.2)]
     exact tr [na (decide_eq_false hn), cl (e_unit y), na (decide_eq_false h1)] (by kernel_rfl)
theorem e_make (bx : I.Bd k x) (by_ : I.Bd k y) (hk : k ≤ 1000000000000) : Pure PP 106 [.ag (dI x), .ag (dI y)] (.ag (dR (Rat.divInt x y))) := by
 by_cases hy : y = 0
 · rw [hy, Rat.divInt_zero, dR_0]
   exact tr [ye (lz_z rfl), yt] (by kernel_rfl)
 by_cases hx : x = 0
 · rw [hx, Rat.zero_divInt, dR_0]
   exact tr [na (lz_nz hy), ye (lz_z rfl)] (by kernel_rfl)
 have hG := gcd_ne (x := x) hy
 have hbG : I.Bd k (Int.gcd x y : Int) := Bd.dvd by_ (by rw [Int.natAbs_natCast]; exact Int.gcd_dvd_natAbs_right x y) hy
 by_cases h1 : (Int.gcd x y : Int) = 1
 · exact tr [na (lz_nz hy), na (lz_nz hx), cl (e_gcd bx by_ hk), cl (e_unit (Int.gcd x y)), na (t := !decide ((Int.gcd x y : Int) = 1)) (by simp [h1]), cl (e_low (x := x) (y := y) hy (by omega))] (by kernel_rfl)
 · rw [← divInt_low (x := x) hy]
   exact tr [na (lz_nz hy), na (lz_nz hx), cl (e_gcd bx by_ hk), cl (e_unit (Int.gcd x y)), ye (t := !decide ((Int.gcd x y : Int) = 1)) (by simp [h1]), cl (e_div bx hbG hk hG), cl (e_div by_ hbG hk hG), cl (e_low (low_ne (x := x) hy) (gcd_low (x := x) hy))] (by kernel_rfl)
theorem e_rof (hx : W.Is64 x) (hy : W.Is64 y) : Pure PP 65 [ni x, ni y] (.ag (dR (Rat.divInt x y))) :=
 tr [cl (e_of hx), cl (e_of hy), cl (e_make (bd64 hx) (bd64 hy) (by omega))] (by kernel_rfl)
theorem dq_nz {r : Rat} (h : r.den ≠ 1) : dq r ≠ 0 := by rw [dq_more h]; exact den_ne r
theorem whole_of {r : Rat} {p : Int} (h : r = Rat.divInt p 1) : r.num = p ∧ r.den = 1 := by
 have := divInt_pos (p := p) (q := 1) (by decide) (Int.gcd_one_right _)
 rw [← h] at this
 exact ⟨this.1, by omega⟩
theorem e_radd (br : Bq j r) (bt : Bq k t) (hk : j + k + 1 ≤ 1000000000000) : Pure PP 43 [.ag (dR r), .ag (dR t)] (.ag (dR (r + t))) := by
 have h1 := br.1.mul bt.2
 have h2 : I.Bd (j + k) (t.num * r.den) := by rw [Nat.add_comm]; exact bt.1.mul br.2
 have h3 := (br.2.mul bt.2).mono (show j + k ≤ j + k + 1 by omega)
 by_cases hr : r.den = 1
 · by_cases ht : t.den = 1
   · have := whole_of (r := r + t) (p := r.num + t.num) (by rw [← q_add, hr, ht]; simp)
     rw [dR_whole this.1 this.2]
     exact tr [ye (lz_z (dq_one hr)), ye (lz_z (dq_one ht)), cl (e_add (br.1.mono (show j ≤ j + k by omega)) (bt.1.mono (by omega)) (by omega))] (by kernel_rfl)
   · by_cases r0 : r.num = 0
     · rw [show r + t = t by rw [num_zero.1 r0, Rat.zero_add]]
       exact tr [ye (lz_z (dq_one hr)), na (lz_nz (dq_nz ht)), ye (lz_z r0)] (by kernel_rfl)
     · have t0 : t.num ≠ 0 := fun e => ht (by rw [num_zero.1 e]; rfl)
       rw [← q_add]
       exact tr [ye (lz_z (dq_one hr)), na (lz_nz (dq_nz ht)), na (lz_nz r0), na (lz_nz t0), cl (e_den r), cl (e_den t), cl (e_mul br.1 bt.2 (by omega)), cl (e_mul bt.1 br.2 (by omega)), cl (e_add h1 h2 (by omega)), cl (e_mul br.2 bt.2 (by omega)), cl (e_make (h1.add' h2) h3 hk)] (by kernel_rfl)
 · have r0 : r.num ≠ 0 := fun e => hr (by rw [num_zero.1 e]; rfl)
   by_cases t0 : t.num = 0
   · rw [show r + t = r by rw [num_zero.1 t0, Rat.add_zero]]
     exact tr [na (lz_nz (dq_nz hr)), nf, na (lz_nz r0), ye (lz_z t0)] (by kernel_rfl)
   · rw [← q_add]
     exact tr [na (lz_nz (dq_nz hr)), nf, na (lz_nz r0), na (lz_nz t0), cl (e_den r), cl (e_den t), cl (e_mul br.1 bt.2 (by omega)), cl (e_mul bt.1 br.2 (by omega)), cl (e_add h1 h2 (by omega)), cl (e_mul br.2 bt.2 (by omega)), cl (e_make (h1.add' h2) h3 hk)] (by kernel_rfl)
theorem e_rsub (br : Bq j r) (bt : Bq k t) (hk : j + k + 1 ≤ 1000000000000) : Pure PP 209 [.ag (dR r), .ag (dR t)] (.ag (dR (r - t))) := by
 rw [Rat.sub_eq_add_neg]
 exact tr [cl (e_rneg t), cl (e_radd br bt.neg hk)] (by kernel_rfl)
theorem e_rmul (br : Bq j r) (bt : Bq k t) (hk : j + k ≤ 1000000000000) : Pure PP 110 [.ag (dR r), .ag (dR t)] (.ag (dR (r * t))) := by
 by_cases r0 : r.num = 0
 · rw [num_zero.1 r0, Rat.zero_mul, dR_0]
   exact tr [ye (lz_z rfl), yt] (by kernel_rfl)
 by_cases t0 : t.num = 0
 · rw [num_zero.1 t0, Rat.mul_zero, dR_0]
   exact tr [na (lz_nz r0), ye (lz_z rfl)] (by kernel_rfl)
 have hx := q_dvd (p := r.num) (q := t.den) (den_ne t)
 have hy := q_dvd (p := t.num) (q := r.den) (den_ne r)
 have b1 : I.Bd j (Rat.divInt r.num t.den).num := Bd.dvd br.1 (by simpa using hx.1) r0
 have b2 : I.Bd k (Rat.divInt t.num r.den).num := Bd.dvd bt.1 (by simpa using hy.1) t0
 have b3 : I.Bd k ((Rat.divInt r.num t.den).den : Int) := Bd.dvd bt.2 (by simpa using hx.2) (den_ne t)
 have b4 : I.Bd j ((Rat.divInt t.num r.den).den : Int) := Bd.dvd br.2 (by simpa using hy.2) (den_ne r)
 have hne : ((Rat.divInt r.num t.den).den : Int) * (Rat.divInt t.num r.den).den ≠ 0 := Int.mul_ne_zero (den_ne _) (den_ne _)
 have hd : Rat.divInt ((Rat.divInt r.num t.den).num * (Rat.divInt t.num r.den).num) ((Rat.divInt r.num t.den).den * (Rat.divInt t.num r.den).den) = r * t := by rw [q_mul, q_mulx]
 by_cases hr : r.den = 1
 · by_cases ht : t.den = 1
   · have := whole_of (r := r * t) (p := r.num * t.num) (by rw [← q_mul, hr, ht]; simp)
     rw [dR_whole this.1 this.2]
     exact tr [na (lz_nz r0), na (lz_nz t0), ye (lz_z (dq_one hr)), ye (lz_z (dq_one ht)), cl (e_mul br.1 bt.1 hk)] (by kernel_rfl)
   · rw [← hd]
     exact tr [na (lz_nz r0), na (lz_nz t0), ye (lz_z (dq_one hr)), na (lz_nz (dq_nz ht)), cl (e_den t), cl (e_make (br.1.mono (show j ≤ j + k by omega)) (bt.2.mono (by omega)) hk), cl (e_den r), cl (e_make (bt.1.mono (show k ≤ j + k by omega)) (br.2.mono (by omega)) hk), cl (e_mul b1 b2 hk), cl (e_den (Rat.divInt r.num t.den)), cl (e_den (Rat.divInt t.num r.den)), cl (e_mul b3 b4 (by omega)), cl (e_low hne (q_gcd r t))] (by kernel_rfl)
 · rw [← hd]
   exact tr [na (lz_nz r0), na (lz_nz t0), na (lz_nz (dq_nz hr)), nf, cl (e_den t), cl (e_make (br.1.mono (show j ≤ j + k by omega)) (bt.2.mono (by omega)) hk), cl (e_den r), cl (e_make (bt.1.mono (show k ≤ j + k by omega)) (br.2.mono (by omega)) hk), cl (e_mul b1 b2 hk), cl (e_den (Rat.divInt r.num t.den)), cl (e_den (Rat.divInt t.num r.den)), cl (e_mul b3 b4 (by omega)), cl (e_low hne (q_gcd r t))] (by kernel_rfl)
theorem e_rcmp (br : Bq j r) (bt : Bq k t) (hk : j + k ≤ 1000000000000) : Pure PP 66 [.ag (dR r), .ag (dR t)] (ni (cmpQ r t)) := by
 by_cases hd : sgnZ r.num = sgnZ t.num
 · by_cases hz : sgnZ r.num = 0
   · rw [← cmpQ_sgn (.inr hz)]
     exact tr [cl (e_rsign r), cl (e_rsign t), na (t := sgnZ r.num != sgnZ t.num) (by simp [hd]), ye (t := sgnZ r.num == 0) (by simp [hz]), cl (e_of (sgn64 r.num)), cl (e_of (sgn64 t.num)), cl (e_cmp (sgnZ r.num) (sgnZ t.num))] (by kernel_rfl)
   · rw [← cmp_cross]
     exact tr [cl (e_rsign r), cl (e_rsign t), na (t := sgnZ r.num != sgnZ t.num) (by simp [hd]), na (t := sgnZ r.num == 0) (by simp [hz]), cl (e_den t), cl (e_mul br.1 bt.2 (by omega)), cl (e_den r), cl (e_mul bt.1 br.2 (by omega)), cl (e_cmp (r.num * t.den) (t.num * r.den))] (by kernel_rfl)
 · rw [← cmpQ_sgn (.inl hd)]
   exact tr [cl (e_rsign r), cl (e_rsign t), ye (t := sgnZ r.num != sgnZ t.num) (by simp [hd]), yt, cl (e_of (sgn64 r.num)), cl (e_of (sgn64 t.num)), cl (e_cmp (sgnZ r.num) (sgnZ t.num))] (by kernel_rfl)
end
end Go.Proofs.YtlgnagnmoleeiaaGreat.E
namespace Go.Proofs.YtlgnagnmoleeiaaGreat.E
open Go.RowKit
set_option linter.unusedVariables false
section
variable {x y : Int} {j k : Nat} {l : List Int}
theorem e_good {d : Int} (h0 : 0 ≤ d) (h1 : d < 1000000000) : Pure PP 185 [ni d] (bo false) := by
 have := e_bad d
 rwa [decide_eq_false (show ¬ (d < 0 ∨ d ≥ 1000000000) by omega)] at this
noncomputable abbrev fix : Func := fnOf PP 213
theorem e_index (hd : I.Dig l) : Pure PP 213 [zl l, .cl 185 []] (ni (-1)) := by
 refine .len 0 (l := zs l) (by kernel_rfl) rfl fun hm => ?_
 rw [zs_len] at hm
 unfold maxLen at hm
 let X : Nat → St := fun i => at_ fix [(0, zl l), (1, .cl 185 []), (7, ni l.length), (8, ni i)] []
 refine pf (by kernel_rfl) (.to mo_ [] [0, 1, 7, 8] [] 0 [.eqv 7 (ni ((zs l).length : Int)) (ni l.length) (by rw [zs_len])] (td' := lp fix 0) (σ' := X 0) ?_ (by kernel_rfl))
 refine Gd.loop X (fun i => i ≤ l.length) (fun i => l.length - i) ?_ 0 (Nat.zero_le _)
 intro i hi ih
 by_cases h : i < l.length
 · have e := num_el h
   generalize l.getD i 0 = d at e
   obtain ⟨d0, d1⟩ := hd.get e
   exact .to mo_ [] [0, 1, 7, 8] [] 0 [ye (t := decide ((i : Int) < (l.length : Int))) (decide_eq_true (by omega)), .sel _ _ _ (zs_at e), cl (e_good d0 d1), nf, inc 18 i (by omega)] (ih (i + 1) h (by omega)) (by kernel_rfl)
 · exact fi [na (t := decide ((i : Int) < (l.length : Int))) (decide_eq_false (by omega))] (by kernel_rfl) (by kernel_rfl)
theorem e_contains (hd : I.Dig l) : Pure PP 184 [zl l, .cl 185 []] (bo false) := tr [cl (e_index hd)] (by kernel_rfl)
theorem last_nz (h : x ≠ 0) : ∃ d, (digs x.natAbs)[(digs x.natAbs).length - 1]? = some d ∧ d ≠ 0 := by
 have hl := digs_nz h
 have e := num_el (l := digs x.natAbs) (i := (digs x.natAbs).length - 1) (by omega)
 exact ⟨_, e, (digs_ok x.natAbs).1.2 _ (by rw [List.getLast?_eq_getElem?]; exact e)⟩
theorem e_ivalid (x : Int) : Pure PP 124 [.ag (dI x)] (bo true) := by
 refine .lenI 0 (x := x) (by kernel_rfl) rfl fun hm => ?_
 unfold maxLen at hm
 have hc := e_contains (dig_ (x := x))
 by_cases h : x = 0
 · subst h
   rw [dI_0]
   rw [show zl (digs (0 : Int).natAbs) = .sl [] from dg_d0] at hc
   exact tr [cl hc, nf, yt, yt] (by kernel_rfl)
 · obtain ⟨d, e, hd⟩ := last_nz h
   have hl := digs_nz h
   exact tr [cl hc, nf, na (lz_nz h), nf, ye (t := decide (((zs (digs x.natAbs)).length : Int) > 0)) (by rw [zs_len]; exact decide_eq_true (by omega)), .eqv 25 (ni ((zs (digs x.natAbs)).length : Int)) (ni (digs x.natAbs).length) (by rw [zs_len]), wq 26 (((digs x.natAbs).length : Int) - 1) (((digs x.natAbs).length - 1 : Nat) : Int) (by omega), .sel _ _ _ (zs_at e), .eqv 29 (bo (d != 0)) (bo true) (by rw [show (d != 0) = true by simpa using hd])] (by kernel_rfl)
noncomputable abbrev fv3 : Func := fnOf PP 137
theorem e_ivalid3 (x : Int) : Pure PP 137 [.ag (dI x)] (bo true) := by
 refine .lenI 0 (x := x) (by kernel_rfl) rfl fun hm => ?_
 unfold maxLen at hm
 have dx := dig_ (x := x)
 let X : Nat → St := fun i => at_ fv3 [(1, .lp 0 0), (3, ni i)] [.bx 26 (dI x)]
 refine pf (by kernel_rfl) (.to mo_ [] [1, 3] [0] 1 [] (td' := lp fv3 0) (σ' := X 0) ?_ (by kernel_rfl))
 refine Gd.loop X (fun i => i ≤ (digs x.natAbs).length) (fun i => (digs x.natAbs).length - i) ?_ 0 (Nat.zero_le _)
 intro i hi ih
 by_cases h : i < (digs x.natAbs).length
 · have e := num_el h
   generalize (digs x.natAbs).getD i 0 = d at e
   obtain ⟨d0, d1⟩ := dx.get e
   exact .to mo_ [] [1, 3] [0] 1 [ye (t := decide ((i : Int) < ((zs (digs x.natAbs)).length : Int))) (decide_eq_true (by rw [zs_len]; omega)), .sel _ _ _ (zs_at e), na (t := decide (d < 0)) (decide_eq_false (by omega)), .sel _ _ _ (zs_at e), na (t := decide (d ≥ 1000000000)) (decide_eq_false (by omega)), inc 10 i (by omega)] (ih (i + 1) h (by omega)) (by kernel_rfl)
 · by_cases h0 : x = 0
   · subst h0
     have hz : X i = at_ fv3 [(1, .lp 0 0), (3, ni i)] [.bx 26 [bo false, .sl []]] := by simp only [X]; rw [dI_0]
     rw [hz]
     exact fi [na (t := decide ((i : Int) < ((([] : List (List V))).length : Int))) (decide_eq_false (by simp)), yt] (by kernel_rfl) (by kernel_rfl)
   · obtain ⟨d, e, hd⟩ := last_nz h0
     have hl := digs_nz h0
     exact fi [na (t := decide ((i : Int) < ((zs (digs x.natAbs)).length : Int))) (decide_eq_false (by rw [zs_len]; omega)), na (lz_nz h0), .eqv 36 (ni ((zs (digs x.natAbs)).length : Int)) (ni (digs x.natAbs).length) (by rw [zs_len]), wq 37 (((digs x.natAbs).length : Int) - 1) (((digs x.natAbs).length - 1 : Nat) : Int) (by omega), .sel _ _ _ (zs_at e), .eqv 40 (bo (d != 0)) (bo true) (by rw [show (d != 0) = true by simpa using hd])] (by kernel_rfl) (by kernel_rfl)
variable {r : Rat}
theorem bd_dq (br : Bq k r) : I.Bd k (dq r) := by
 unfold dq
 split
 · exact I.Bd.zero k
 · exact br.2
theorem dq_not1 (r : Rat) : dq r ≠ 1 := by
 unfold dq
 split <;> omega
theorem e_rvalid (br : Bq k r) (hk : k ≤ 1000000000000) : Pure PP 63 [.ag (dR r)] (bo true) := by
 have h0 := dq_nonneg r
 have h1 := dq_not1 r
 let F0 : List F_ := [cl (e_ivalid r.num), nf, cl (e_ivalid (dq r)), nf, na (t := decide (dq r < 0)) (decide_eq_false (by omega)), cl (e_unit (dq r)), na (t := decide (dq r = 1)) (decide_eq_false h1)]
 by_cases h : r.den = 1
 · exact tr (F0 ++ [ye (lz_z (dq_one h))]) (by kernel_rfl)
 · have hg := e_gcd br.1 (bd_dq br) hk
   have hr : Int.gcd r.num (dq r) = 1 := by rw [dq_more h]; exact r.reduced
   rw [hr] at hg
   have hu := e_unit ((1 : Nat) : Int)
   rw [decide_eq_true (show ((1 : Nat) : Int) = 1 from rfl)] at hu
   exact tr (F0 ++ [na (lz_nz (dq_nz h)), cl hg, cl hu]) (by kernel_rfl)
theorem e_valid4 (br : Bq k r) (hk : k ≤ 800000000000) : Pure PP 71 [.ag (dR r)] (bo true) := by
 have h0 := dq_nonneg r
 have h1 := dq_not1 r
 let F0 : List F_ := [cl (e_ivalid3 r.num), nf, cl (e_ivalid3 (dq r)), nf, na (t := decide (dq r < 0)) (decide_eq_false (by omega)), cl (e_one4 (dq r)), na (t := decide (dq r = 1)) (decide_eq_false h1)]
 by_cases h : r.den = 1
 · exact tr (F0 ++ [ye (lz_z (dq_one h))]) (by kernel_rfl)
 · have hg := e_gcd3 br.1 (bd_dq br) hk
   have hr : Int.gcd r.num (dq r) = 1 := by rw [dq_more h]; exact r.reduced
   rw [hr] at hg
   have hu := e_one4 ((1 : Nat) : Int)
   rw [decide_eq_true (show ((1 : Nat) : Int) = 1 from rfl)] at hu
   exact tr (F0 ++ [na (lz_nz (dq_nz h)), cl hg, cl hu]) (by kernel_rfl)
end
end Go.Proofs.YtlgnagnmoleeiaaGreat.E
namespace Go.Proofs.YtlgnagnmoleeiaaGreat
set_option maxHeartbeats 4000000
open Go.RowKit
attribute [local go_sem] run_store_one
set_option linter.unusedVariables false
end Go.Proofs.YtlgnagnmoleeiaaGreat
namespace Go.Proofs.YtlgnagnmoleeiaaGreat
set_option maxHeartbeats 2000000
open Go.RowKit
attribute [local go_sem] run_store_one
set_option linter.unusedVariables false
end Go.Proofs.YtlgnagnmoleeiaaGreat
namespace Go.Proofs.YtlgnagnmoleeiaaGreat
set_option maxHeartbeats 2000000
open Go.RowKit
attribute [local go_sem] run_store_one
set_option linter.unusedVariables false
end Go.Proofs.YtlgnagnmoleeiaaGreat
namespace Go.Proofs.YtlgnagnmoleeiaaGreat
set_option maxHeartbeats 4000000
open Go.RowKit
attribute [local go_sem] run_store_one
set_option linter.unusedVariables false
end Go.Proofs.YtlgnagnmoleeiaaGreat
namespace Go.Proofs.YtlgnagnmoleeiaaGreat
set_option maxHeartbeats 1000000
open Go.RowKit
attribute [local go_sem] run_store_one
set_option linter.unusedVariables false
/-- A slice of ints that came in: it reads as a list. -/
def Sr (w : World) (v : Value) (l : List Int) : Prop := ∃ A n c, v = .slice A n c ∧ n = l.length ∧ n ≤ c ∧ c ≤ maxLen ∧ Rd w w.heap.size A (il l)
theorem Sr.below {w w' : World} {v : Value} {l : List Int} (h : Sr w v l) (hb : Below w.heap.size w w') : Sr w' v l := by
 obtain ⟨A, n, c, h1, h2, h3, h4, h5⟩ := h
 exact ⟨A, n, c, h1, h2, h3, h4, fun hn => by
  obtain ⟨b, o, e, hlt, hc⟩ := h5.below hb (Nat.le_refl _) hn
  exact ⟨b, o, e, Nat.lt_of_lt_of_le hlt hb.size, hc⟩⟩
end Go.Proofs.YtlgnagnmoleeiaaGreat
