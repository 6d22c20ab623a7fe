/-
 VALID POLYGONS, PLAINLY: both ways of asking agree; motions and other beginnings change nothing.
-/
import Derived.Test.YtcfejkpadcccbaaGreatEoT
import Derived.Test.YtcfejkpadcccbaaGreatPgO
import Derived.Sort.CutIn
namespace Go.Proofs.YtcfejkpadcccbaaGreat.E
open Go.RowKit
set_option linter.unusedVariables false
section
variable {a b c d n p : Rat × Rat} {r q x : Rat} {i j k : Nat} {L : List (Rat × Rat)}
def dVV (a b : Rat × Rat) : V := .tu [.ag (dV a), .ag (dV b)]
def z8 : List V := [bo false, .nl, bo false, .nl, bo false, .nl, bo false, .nl]
theorem dV_0 : dV (0, 0) = [bo false, .sl [], bo false, .sl [], bo false, .sl [], bo false, .sl []] := by
 unfold dV; simp only [dR_0]; rfl
theorem less_comm (r x : Rat) : Pg.less x r = Pg.less r x := by unfold Pg.less; split <;> split <;> grind
theorem more_comm (r x : Rat) : Pg.more x r = Pg.more r x := by unfold Pg.more; split <;> split <;> grind
theorem box_0 (h : L.length = 0) : Pg.box L = ((0, 0), (0, 0)) := if_pos h
theorem box_1 (h : ¬ L.length = 0) : Pg.box L = (Pg.lo L L.length, Pg.hi L L.length) := if_neg h
theorem e_box (hb : ∀ a ∈ L, Bv k a) (hn : L.length ≤ 100) (hk : k ≤ 10000) : Pure PP 21 [dL L] (dVV (Pg.box L).1 (Pg.box L).2) := by
 have hl : (L.map dV).length = L.length := List.length_map ..
 by_cases h0 : L.length = 0
 · rw [box_0 h0, dVV, dV_0]
   exact pf (by kernel_rfl) (fiG [.wk 0, .wk 1] [ye (t := ((L.map dV).length : Int) == 0) (by simp [h0])] (by kernel_rfl) (by kernel_rfl))
 rw [box_1 h0]
 have hg : ∀ i, i < L.length → Bv k (L.getD i (0, 0)) := fun i hi => bel hb hi
 let X : Nat → St := fun i => at_ (fnOf PP 21) [(0, dL L), (2, .lp 0 0), (3, .lp 1 0), (4, .lp 2 0), (5, .lp 3 0), (19, dL L), (20, ni (L.map dV).length), (21, ni i)] [.bx 35 z8, .bx 35 z8, .bx 35 (dV (Pg.lo L i)), .bx 35 (dV (Pg.hi L i))]
 refine pf (by kernel_rfl) (.to mo_ [] [0, 2, 3, 4, 5, 19, 20, 21] [0, 1, 2, 3] 4 [na (t := ((L.map dV).length : Int) == 0) (by simp; intro e; exact h0 (by rw [e]; rfl)), .sel _ _ _ (el (L := L) (i := 0) (by omega)), .sel _ _ _ (el (L := L) (i := 0) (by omega))] (td' := lp (fnOf PP 21) 0) (σ' := X 0) ?_ (by kernel_rfl))
 refine Gd.loop X (fun i => i ≤ L.length) (fun i => L.length - i) ?_ _ (Nat.zero_le _)
 rintro i hi ih
 have bl := lo_bits hg (by omega) i hi
 have bh := hi_bits hg (by omega) i hi
 by_cases h : i < L.length
 · have ba := hg i h
   have w1 := e_wider bl.1 bh.1 ba.1 (by omega)
   have w2 := e_wider bl.2 bh.2 ba.2 (by omega)
   rw [less_comm, more_comm] at w1 w2
   exact .to mo_ [] [0, 2, 3, 4, 5, 19, 20, 21] [0, 1, 2, 3] 4 [ye (t := il_ i L) (il_t h), .sel _ _ _ (el h), cl w1, cl w2, inc 49 i (by omega)]
    (ih (i + 1) h (by omega)) (by kernel_rfl)
 · rw [show L.length = i by omega]
   exact fi [na (t := il_ i L) (il_f h)] (by kernel_rfl) (by kernel_rfl)
theorem fs_end {i : Nat} (h1 : 1 ≤ i) (h2 : ¬ i + 1 < L.length) (g : ¬ Pg.area L = 0) : vsca (Pg.fs L i) (Rat.divInt 1 1 / Pg.area L) = Pg.center L := by
 rw [← Pg.center_eq]
 unfold Pg.center6 Pg.fs
 rw [Pg.area_eq, if_neg g, List.take_of_length_le (by rw [fan_len]; omega)]
theorem e_center6 (hb : ∀ a ∈ L, Bv k a) (hn : L.length ≤ 100) (hk : k ≤ 10000) : Pure PP 28 [dL L] (.ag (dV (Pg.center L))) := by
 have ha := area_bits hb hn
 by_cases g : Pg.area L = 0
 · rw [show Pg.center L = (0, 0) by rw [← Pg.center_eq]; unfold Pg.center6; rw [Pg.area_eq, if_pos g], dV_0]
   exact pf (by kernel_rfl) (fiG [.wk 0] [cl (e_area6 hb hn hk), cl (e_sign4 (Pg.area L)), ye (t := sgnZ (Pg.area L).num == 0) (by rw [g]; rfl)] (by kernel_rfl) (by kernel_rfl))
 have hs : (sgnZ (Pg.area L).num == 0) = false := by
  have : (Pg.area L).num ≠ 0 := fun e => g (Rat.num_eq_zero.1 e)
  unfold sgnZ cmpZ
  rcases Int.lt_trichotomy (Pg.area L).num 0 with h | h | h
  · rw [if_pos h]; rfl
  · exact absurd h this
  · rw [if_neg (by omega), if_pos (by omega)]; rfl
 have hL : 0 < L.length := by
  rcases Nat.eq_zero_or_pos L.length with h | h
  · exact absurd (by rw [List.length_eq_zero_iff.1 h]; exact area_nil) g
  · exact h
 let X : Nat × List V → St := fun x => at_ (fnOf PP 28) [(0, dL L), (2, .lp 0 0), (3, .lp 1 0), (4, .lp 2 0), (5, ni x.1)] [.bx 35 z8, .bx 33 (dR (Pg.area L)), .bx 35 x.2]
 refine pf (by kernel_rfl) (.to mo_ [.wk 2] [0, 2, 3, 4, 5] [0, 1, 2] 3 [cl (e_area6 hb hn hk), cl (e_sign4 (Pg.area L)), na (t := sgnZ (Pg.area L).num == 0) hs] (td' := lp (fnOf PP 28) 0) (σ' := X (1, [bo false, .sl [], bo false, .sl [], bo false, .sl [], bo false, .sl []])) ?_ (by kernel_rfl))
 refine Gd.loop X (fun x => 1 ≤ x.1 ∧ x.1 ≤ L.length ∧ x.2 = dV (Pg.fs L x.1)) (fun x => L.length - x.1) ?_ _ ⟨Nat.le_refl _, hL, by rw [fs_one, dV_0]⟩
 rintro ⟨i, cs⟩ ⟨h1, hi, hcs⟩ ih
 simp only at h1 hi hcs
 subst hcs
 have hf := fs_bits hb hL hn i
 by_cases h : i + 1 < L.length
 · have b0 := bel hb hL
   have bi := bel hb (show i < L.length by omega)
   have b1 := bel hb h
   have bc := (bi.sub b0).crs (b1.sub b0)
   have bt : Bq (8 * k + 9) (vcrs (vsub (L.getD i (0, 0)) (L.getD 0 (0, 0))) (vsub (L.getD (i + 1) (0, 0)) (L.getD 0 (0, 0))) * Rat.divInt 1 6) := (bc.mul sixth_bits).mono (by omega)
   exact .to mo_ [] [0, 2, 3, 4, 5] [0, 1, 2] 3 [inc 14 i (by omega), ye (t := il_ (i + 1) L) (il_t h), .sel _ _ _ (el (L := L) (i := i) (by omega)), .sel _ _ _ (el hL), cl (e_vsub5 bi b0 (by omega)), inc 30 i (by omega), .sel _ _ _ (el h), .sel _ _ _ (el hL), cl (e_vsub5 b1 b0 (by omega)), cl (e_vcrs5 (bi.sub b0) (b1.sub b0) (by omega)), cl (e_of4 (x := 1) (y := 6) ⟨by decide, by decide⟩ ⟨by decide, by decide⟩), cl (e_mul4 bc sixth_bits (by omega)),
     .sel _ _ _ (el hL), .sel _ _ _ (el (L := L) (i := i) (by omega)), cl (e_vadd5 b0 bi (by omega)), inc 51 i (by omega), .sel _ _ _ (el h), cl (e_vadd5 (b0.add bi) b1 (by omega)), cl (e_vsca5 ((b0.add bi).add b1) bt (by omega)), cl (e_vadd5 hf (((b0.add bi).add b1).sca bt) (by omega)), inc 19 i (by omega)]
    (ih (i + 1, dV (vadd (Pg.fs L i) (vsca (vadd (vadd (L.getD 0 (0, 0)) (L.getD i (0, 0))) (L.getD (i + 1) (0, 0))) (vcrs (vsub (L.getD i (0, 0)) (L.getD 0 (0, 0))) (vsub (L.getD (i + 1) (0, 0)) (L.getD 0 (0, 0))) * Rat.divInt 1 6)))) ⟨by simp only; omega, by simp only; omega, by rw [fs_step h1 h]⟩ (by simp only; omega)) (by kernel_rfl)
 · rw [← fs_end h1 h g]
   exact fi [inc 14 i (by omega), na (t := il_ (i + 1) L) (il_f h), cl (e_of4 (x := 1) (y := 1) ⟨by decide, by decide⟩ ⟨by decide, by decide⟩), cl (e_div4 unit_bits ha (by omega)), cl (e_vsca5 hf (unit_bits.div ha (by omega)) (by omega))] (by kernel_rfl) (by kernel_rfl)
end
end Go.Proofs.YtcfejkpadcccbaaGreat.E
namespace Go.Proofs.YtcfejkpadcccbaaGreat
open Go.RowKit Go.Shelf
set_option linter.unusedVariables false
set_option linter.unusedSimpArgs false
theorem Tn.keeps {S : List Nat} {w w' : World} (t : Tn S w w') (hS : ∀ g ∈ S, ∃ T l, Bx w g T l) : KeepsOthers w w' := ⟨t.size, fun k o h hc => by
 by_cases hk : k ∈ S
 ·obtain ⟨T, l, hx⟩ := hS k hk
  unfold Bx at hx
  rw [hx] at h
  injection h with h
  subst h
  cases hc
 ·exact (t.block k (Array.getElem?_eq_some_iff.1 h).1 hk).trans h⟩
theorem Tn.k2 {S : List Nat} {n₀ Bs : Nat} {w w' : World} (t : Tn S w w') (hS : ∀ g ∈ S, n₀ ≤ g) (hn : n₀ ≤ w.heap.size) (hB : Bs ∉ S) : K2 n₀ Bs w w' :=
 ⟨Tn.below (Below.refl _ _) t hS hn, fun cs T fr e => (t.block Bs (Array.getElem?_eq_some_iff.1 e).1 hB).trans e⟩
theorem pre_bits {f : Rat × Rat → Rat × Rat → Rat} {K n k : Nat} {L : List (Rat × Rat)} (hf : ∀ a b, Bv k a → Bv k b → Bq K (f a b)) (hl : n = L.length) (hb : ∀ a ∈ L, Bv k a) (pre : List (Fin n)) (hp : pre.length ≤ 100) : Bq ((K + 1) * 100 + 1) (Pg.sum f (pre.map fun x => Pg.at_ L n x.1)) := by
 refine (Pg.sum_bits (k := K) _ (fun p hp => ?_)).mono (by rw [List.length_map]; exact Nat.add_le_add_right (Nat.mul_le_mul_left _ hp) 1)
 obtain ⟨y, hy, rfl⟩ := List.mem_map.1 hp
 exact hf _ _ (getD_bv hb _ (by have := y.2; omega)) (getD_bv hb _ (by have := Nat.mod_lt (y.1 + 1) (show 0 < n by have := y.2; omega); omega))
theorem third_bits : Bq 2 (Rat.divInt 1 3) := Bq.divInt (by unfold I.Bd; decide) (by unfold I.Bd; decide) (by omega)
theorem fx_bits {k : Nat} {a b : Rat × Rat} (ha : Bv k a) (hb : Bv k b) : Bv (6 * k + 2) (Pg.fx a b, Pg.fy a b) := ((ha.add hb).sca ((ha.crs hb).mono (show _ ≤ 4 * k + 1 by omega))).mono (by omega)
theorem crs_bits {k : Nat} {a b : Rat × Rat} (ha : Bv k a) (hb : Bv k b) : Bq (4 * k + 1) (vcrs a b) := (ha.crs hb).mono (by omega)
end Go.Proofs.YtcfejkpadcccbaaGreat
namespace Go.Proofs.YtcfejkpadcccbaaGreat
set_option maxHeartbeats 4000000
open Go.RowKit Go.Shelf
attribute [local go_sem] Oper.semAt_some
attribute [local go_sem] run_store_one
set_option linter.unusedVariables false
set_option linter.unusedSimpArgs false
/-- Whether a side turns the answer. -/
def Pg.up (a b p : Rat × Rat) : Bool := (decide (0 < cmpQ b.2 p.2) != decide (0 < cmpQ a.2 p.2)) && (decide (0 < vside a b p) == decide (0 < cmpQ b.2 p.2))
def Pg.ins (p : Rat × Rat) (ps : List ((Rat × Rat) × (Rat × Rat))) : Int := ps.foldl (fun s x => if Pg.up x.1 x.2 p then -s else s) (-1)
theorem Pg.ins_snoc (p : Rat × Rat) (ps : List ((Rat × Rat) × (Rat × Rat))) (x : (Rat × Rat) × (Rat × Rat)) : Pg.ins p (ps ++ [x]) = if Pg.up x.1 x.2 p then -Pg.ins p ps else Pg.ins p ps := by
 unfold Pg.ins
 rw [List.foldl_append]
 rfl
theorem Pg.ins_cases (p : Rat × Rat) (ps : List ((Rat × Rat) × (Rat × Rat))) : Pg.ins p ps = 1 ∨ Pg.ins p ps = -1 := by
 have h : ∀ (l : List ((Rat × Rat) × (Rat × Rat))) (s : Int), s = 1 ∨ s = -1 → l.foldl (fun s x => if Pg.up x.1 x.2 p then -s else s) s = 1 ∨ l.foldl (fun s x => if Pg.up x.1 x.2 p then -s else s) s = -1 := by
  intro l
  induction l with
  | nil => intro s h; exact h
  | cons x t ih =>
   intro s h
   rw [List.foldl_cons]
   apply ih
   split <;> omega
 exact h ps _ (.inr rfl)
def Pg.has (L : List (Rat × Rat)) (p : Rat × Rat) : Int := if (Pg.sides L).any (fun x => Pg.on x.1 x.2 p) then 0 else Pg.ins p (Pg.sides L)
end Go.Proofs.YtcfejkpadcccbaaGreat
namespace Go.Proofs.YtcfejkpadcccbaaGreat
open Go.RowKit
set_option linter.unusedSimpArgs false
/-- Of how many sides something holds, modulo two. -/
def Pg.parS (f : Rat × Rat → Rat × Rat → Bool) : List ((Rat × Rat) × (Rat × Rat)) → Bool
 | [] => false
 | x :: t => f x.1 x.2 != Pg.parS f t
theorem Pg.parS_xor (f g : Rat × Rat → Rat × Rat → Bool) : ∀ ps, Pg.parS (fun a b => f a b != g a b) ps = (Pg.parS f ps != Pg.parS g ps)
 | [] => rfl
 | x :: t => by
  show ((f x.1 x.2 != g x.1 x.2) != Pg.parS (fun a b => f a b != g a b) t) = ((f x.1 x.2 != Pg.parS f t) != (g x.1 x.2 != Pg.parS g t))
  rw [Pg.parS_xor f g t]
  cases f x.1 x.2 <;> cases g x.1 x.2 <;> cases Pg.parS f t <;> cases Pg.parS g t <;> rfl
theorem Pg.parS_congr {f g : Rat × Rat → Rat × Rat → Bool} : ∀ ps, (∀ x ∈ ps, f x.1 x.2 = g x.1 x.2) → Pg.parS f ps = Pg.parS g ps
 | [], _ => rfl
 | x :: t, h => by
  show (f x.1 x.2 != Pg.parS f t) = (g x.1 x.2 != Pg.parS g t)
  rw [h x (by simp), Pg.parS_congr t (fun y hy => h y (by simp [hy]))]
theorem Pg.parS_chain (g : Rat × Rat → Bool) : ∀ (t : List (Rat × Rat)) (a c : Rat × Rat), Pg.parS (fun a b => g a != g b) ((a :: t).zip (t ++ [c])) = (g a != g c)
 | [], a, c => by show ((g a != g c) != false) = _; cases g a <;> cases g c <;> rfl
 | b :: t, a, c => by
  rw [List.cons_append, List.zip_cons_cons]
  show ((g a != g b) != Pg.parS (fun a b => g a != g b) ((b :: t).zip (t ++ [c]))) = _
  rw [Pg.parS_chain g t b c]
  cases g a <;> cases g b <;> cases g c <;> rfl
/-- Around a closed chain nothing is left. -/
theorem Pg.parS_round (g : Rat × Rat → Bool) (l : List (Rat × Rat)) : Pg.parS (fun a b => g a != g b) (Pg.sides l) = false := by
 cases l with
 | nil => rfl
 | cons a t =>
  have := Pg.parS_chain g t a a
  unfold Pg.sides Pg.rot
  rw [this]
  cases g a <;> rfl
theorem Pg.bne_false {x y : Bool} (h : (x != y) = false) : x = y := by cases x <;> cases y <;> first | rfl | cases h
/-- The point is on no side. -/
def Pg.Off (L : List (Rat × Rat)) (p : Rat × Rat) : Prop := ∀ x ∈ Pg.sides L, ¬ Pg.On x.1 x.2 p
theorem Pg.par_two {L : List (Rat × Rat)} {p d e : Rat × Rat} (h : Pg.Off L p) (hk : 0 < vcrs d e) : Pg.parS (Pg.X d p) (Pg.sides L) = Pg.parS (Pg.X e p) (Pg.sides L) := by
 apply Pg.bne_false
 rw [← Pg.parS_xor, ← Pg.parS_round (fun a => Pg.Sec d e (vsub a p)) L]
 exact Pg.parS_congr _ fun x hx => Pg.X_sec hk (h x hx)
theorem Pg.crs_swap (d e : Rat × Rat) : vcrs d e = - vcrs e d := by unfold vcrs; grind
theorem Pg.par_ne {L : List (Rat × Rat)} {p d e : Rat × Rat} (h : Pg.Off L p) (hk : vcrs d e ≠ 0) : Pg.parS (Pg.X d p) (Pg.sides L) = Pg.parS (Pg.X e p) (Pg.sides L) := by
 rcases Pg.tri_ (vcrs d e) with g | g | g
 ·exact (Pg.par_two h (by rw [Pg.crs_swap]; grind)).symm
 ·exact absurd g hk
 ·exact Pg.par_two h g
theorem Pg.dot_pos {d : Rat × Rat} (hd : d ≠ (0, 0)) : 0 < vdot d d := Pg.not_le fun g => hd (Pg.ext (Pg.dot_self g).1 (Pg.dot_self g).2)
/-- Whether a point is inside does not depend on the direction. -/
theorem Pg.par_any {L : List (Rat × Rat)} {p d e : Rat × Rat} (h : Pg.Off L p) (hd : d ≠ (0, 0)) (he : e ≠ (0, 0)) : Pg.parS (Pg.X d p) (Pg.sides L) = Pg.parS (Pg.X e p) (Pg.sides L) := by
 by_cases hk : vcrs d e = 0
 ·have h1 := Pg.dot_pos hd
  have h2 := Pg.dot_pos he
  have e1 : vcrs d (Pg.turn d) = vdot d d := by unfold vcrs vdot Pg.turn; grind
  have e2 : vcrs e (Pg.turn d) = vdot d e := by unfold vcrs vdot Pg.turn; grind
  have e3 : vdot d e * vdot d e + vcrs d e * vcrs d e = vdot d d * vdot e e := by unfold vcrs vdot; grind
  have h3 : vdot d e ≠ 0 := fun g => by
   have := Rat.mul_pos h1 h2
   rw [g, hk] at e3
   grind
  exact (Pg.par_ne h (by rw [e1]; grind)).trans (Pg.par_ne h (by rw [e2]; exact h3)).symm
 ·exact Pg.par_ne h hk
theorem cmpQ_gt0 (r t : Rat) : decide (0 < cmpQ r t) = decide (t < r) := by
 rcases cmpQ_cases r t with ⟨h, g⟩ | ⟨h, g⟩ | ⟨h, g⟩ <;> rw [h] <;> by_cases k : t < r <;> simp [k] <;> grind
theorem Pg.dec_iff {p q : Prop} [Decidable p] [Decidable q] (h : p ↔ q) : decide p = decide q := by simp [h]
/-- What turns the program's answer is the ray to the right. -/
theorem Pg.up_X (a b p : Rat × Rat) : Pg.up a b p = Pg.X (1, 0) p a b := by
 unfold Pg.up Pg.X Pg.H
 rw [cmpQ_gt0, cmpQ_gt0, vside_cr, cmpQ_gt0, ← Pg.cr_rot p a b]
 have e : ∀ u : Rat × Rat, (0 < vcrs (1, 0) (vsub u p)) ↔ p.2 < u.2 := fun u => by unfold vcrs vsub; constructor <;> intro h <;> grind
 rw [Pg.dec_iff (e a), Pg.dec_iff (e b)]
 cases decide (p.2 < b.2) <;> cases decide (p.2 < a.2) <;> cases decide (0 < Pg.cr p a b) <;> rfl
theorem Pg.ins_par (p : Rat × Rat) : ∀ (ps : List ((Rat × Rat) × (Rat × Rat))) (s : Int), ps.foldl (fun s x => if Pg.up x.1 x.2 p then -s else s) s = if Pg.parS (Pg.X (1, 0) p) ps then -s else s
 | [], s => rfl
 | x :: t, s => by
  rw [List.foldl_cons, Pg.ins_par p t, Pg.up_X]
  show _ = if (Pg.X (1, 0) p x.1 x.2 != Pg.parS (Pg.X (1, 0) p) t) then -s else s
  cases Pg.X (1, 0) p x.1 x.2 <;> cases Pg.parS (Pg.X (1, 0) p) t <;> simp
/-- On a side: 0, inside: 1, outside: -1; inside by the ray in a direction. -/
def Pg.hasD (d : Rat × Rat) (L : List (Rat × Rat)) (p : Rat × Rat) : Int := if (Pg.sides L).any (fun x => Pg.on x.1 x.2 p) then 0 else if Pg.parS (Pg.X d p) (Pg.sides L) then 1 else -1
theorem Pg.has_D (L : List (Rat × Rat)) (p : Rat × Rat) : Pg.has L p = Pg.hasD (1, 0) L p := by
 unfold Pg.has Pg.hasD Pg.ins
 rw [Pg.ins_par]
 rfl
theorem Pg.off_of {L : List (Rat × Rat)} {p : Rat × Rat} (h : (Pg.sides L).any (fun x => Pg.on x.1 x.2 p) = false) : Pg.Off L p := fun x hx g => by
 have := (List.any_eq_false.1 h) x hx
 exact this ((on_iff _ _ _).2 g)
theorem Pg.hasD_any {d e : Rat × Rat} (L : List (Rat × Rat)) (p : Rat × Rat) (hd : d ≠ (0, 0)) (he : e ≠ (0, 0)) : Pg.hasD d L p = Pg.hasD e L p := by
 unfold Pg.hasD
 cases h : (Pg.sides L).any (fun x => Pg.on x.1 x.2 p)
 ·rw [Pg.par_any (Pg.off_of h) hd he]
 ·rfl
theorem Pg.par_range {f : Nat → Bool} {g : Rat × Rat → Rat × Rat → Bool} : ∀ (ps : List ((Rat × Rat) × (Rat × Rat))), (∀ i x, ps[i]? = some x → f i = g x.1 x.2) → Pg.par f ps.length = Pg.parS g ps := by
 have key : ∀ (ps : List ((Rat × Rat) × (Rat × Rat))) (f : Nat → Bool), Pg.par f (ps.length + 1) = (f 0 != Pg.par (fun i => f (i + 1)) ps.length) := by
  intro ps
  induction ps with
  | nil => intro f; show (false ^^ f 0) = (f 0 != false); cases f 0 <;> rfl
  | cons y t ih =>
   intro f
   show (Pg.par f (t.length + 1) ^^ f (t.length + 1)) = (f 0 != (Pg.par (fun i => f (i + 1)) t.length ^^ f (t.length + 1)))
   rw [ih f]
   cases f 0 <;> cases Pg.par (fun i => f (i + 1)) t.length <;> cases f (t.length + 1) <;> rfl
 intro ps
 induction ps generalizing f with
 | nil => intro _; rfl
 | cons x t ih =>
  intro h
  rw [List.length_cons, key t f, ih (f := fun i => f (i + 1)) (fun i y hy => h (i + 1) y (by rw [List.getElem?_cons_succ]; exact hy)), h 0 x rfl]
  rfl
theorem Pg.side_i (L : List (Rat × Rat)) (i : Nat) (hi : i < L.length) : (Pg.sides L)[i]? = some (L.getD i (0, 0), Pg.cor L (i + 1)) := by
 have h3 : (i + 1) % L.length < L.length := Nat.mod_lt _ (by omega)
 exact Pg.sides_get L i _ _ (by simp [List.getElem?_eq_getElem hi, List.getD_eq_getElem?_getD]) (by simp [Pg.cor, List.getElem?_eq_getElem h3, List.getD_eq_getElem?_getD])
theorem Pg.any_sides (L : List (Rat × Rat)) (f : Rat × Rat → Rat × Rat → Bool) : (List.range L.length).any (fun i => f (L.getD i (0, 0)) (Pg.cor L (i + 1))) = (Pg.sides L).any (fun x => f x.1 x.2) := by
 rw [Bool.eq_iff_iff, List.any_eq_true, List.any_eq_true]
 constructor
 ·rintro ⟨i, hi, h⟩
  exact ⟨_, List.mem_of_getElem? (Pg.side_i L i (List.mem_range.1 hi)), h⟩
 ·rintro ⟨x, hx, h⟩
  obtain ⟨i, hi⟩ := List.mem_iff_getElem?.1 hx
  have hl : i < L.length := by have := (List.getElem?_eq_some_iff.1 hi).1; rw [Pg.sides_len] at this; exact this
  rw [Pg.side_i L i hl] at hi
  injection hi with hi
  subst hi
  exact ⟨i, List.mem_range.2 hl, h⟩
end Go.Proofs.YtcfejkpadcccbaaGreat
namespace Go.Proofs.YtcfejkpadcccbaaGreat
set_option maxHeartbeats 4000000
open Go.RowKit Go.Shelf
attribute [local go_sem] Oper.semAt_some
attribute [local go_sem] run_store_one
set_option linter.unusedVariables false
set_option linter.unusedSimpArgs false
end Go.Proofs.YtcfejkpadcccbaaGreat
namespace Go.Proofs.YtcfejkpadcccbaaGreat
open Go.RowKit
set_option linter.unusedSimpArgs false
set_option linter.unusedVariables false
theorem Pg.Meet.symm {a b c d : Rat × Rat} (h : Pg.Meet a b c d) : Pg.Meet c d a b := by
 rcases h with ⟨h1, h2⟩ | h | h | h | h
 ·exact .inl ⟨h2, h1⟩
 ·exact .inr (.inr (.inr (.inl h)))
 ·exact .inr (.inr (.inr (.inr h)))
 ·exact .inr (.inl h)
 ·exact .inr (.inr (.inl h))
theorem Pg.On.symm {a b p : Rat × Rat} (h : Pg.On a b p) : Pg.On b a p := by
 obtain ⟨h1, h2⟩ := h
 refine ⟨by rw [Pg.cr_swap]; grind, ?_⟩
 have : vdot (vsub b p) (vsub a p) = vdot (vsub a p) (vsub b p) := by unfold vdot vsub; grind
 rw [this]; exact h2
theorem Pg.Meet.flip {a b c d : Rat × Rat} (h : Pg.Meet a b c d) : Pg.Meet b a c d := by
 rcases h with ⟨h1, h2⟩ | h | h | h | h
 ·refine .inl ⟨?_, ?_⟩
  ·rw [Pg.cr_swap b a c, Pg.cr_swap b a d]; grind
  ·grind
 ·exact .inr (.inl h.symm)
 ·exact .inr (.inr (.inl h.symm))
 ·exact .inr (.inr (.inr (.inr h)))
 ·exact .inr (.inr (.inr (.inl h)))
/-- How far apart two sides are. -/
def Pg.gap (n i k : Nat) : Nat := (k + n - i) % n
theorem Pg.gap_ge {n i k : Nat} (hi : i < n) (hk : k < n) (h : i ≤ k) : Pg.gap n i k = k - i := by
 unfold Pg.gap
 rw [show k + n - i = (k - i) + n by omega, Nat.add_mod_right, Nat.mod_eq_of_lt (by omega)]
theorem Pg.gap_lt {n i k : Nat} (hi : i < n) (hk : k < n) (h : k < i) : Pg.gap n i k = k + n - i := by
 unfold Pg.gap
 exact Nat.mod_eq_of_lt (by omega)
/-- Sides that are not neighbours do not meet. -/
def Pg.Simple (L : List (Rat × Rat)) : Prop := ∀ i k, i < L.length → k < L.length → 1 < Pg.gap L.length i k → Pg.gap L.length i k < L.length - 1 → ¬ Pg.Meet (Pg.cor L i) (Pg.cor L (i + 1)) (Pg.cor L k) (Pg.cor L (k + 1))
/-- No corner is flat. -/
def Pg.Bent (L : List (Rat × Rat)) : Prop := ∀ i, i < L.length → Pg.cr (Pg.cor L i) (Pg.cor L (i + 1)) (Pg.cor L (i + 2)) ≠ 0
def Pg.Right (L : List (Rat × Rat)) : Prop := 3 ≤ L.length ∧ L.length ≤ 12 ∧ Pg.Bent L ∧ Pg.Simple L ∧ 0 < Pg.area L
theorem Pg.cor_lt {L : List (Rat × Rat)} {i : Nat} (h : i < L.length) : L.getD i (0, 0) = Pg.cor L i := by unfold Pg.cor; rw [Nat.mod_eq_of_lt h]
theorem vside_zero (a b c : Rat × Rat) : (vside a b c == 0) = true ↔ Pg.cr a b c = 0 := by
 rw [vside_cr, beq_iff_eq]
 rcases cmpQ_cases (Pg.cr a b c) 0 with ⟨h, g⟩ | ⟨h, g⟩ | ⟨h, g⟩ <;> rw [h] <;> constructor <;> intro k <;> first | omega | grind
theorem Pg.area_sgn (r : Rat) : 0 < sgnZ r.num ↔ 0 < r := by
 rw [sgn_of]
 rcases cmpQ_cases r 0 with ⟨h, g⟩ | ⟨h, g⟩ | ⟨h, g⟩ <;> rw [h] <;> constructor <;> intro k <;> first | omega | grind
theorem not_any {n : Nat} {p : Nat → Bool} : (!(List.range n).any p) = true ↔ ∀ i, i < n → p i = false := by
 rw [Bool.not_eq_true', List.any_eq_false]
 constructor
 ·intro h i hi
  have := h i (List.mem_range.2 hi)
  simpa using this
 ·intro h i hi
  rw [h i (List.mem_range.1 hi)]
  simp
theorem valid6_iff (L : List (Rat × Rat)) : Pg.valid6 L = true ↔ Pg.Right L := by
 unfold Pg.valid6 Pg.Right
 simp only [Bool.and_eq_true, decide_eq_true_eq, not_any, Pg.area_sgn]
 constructor
 ·rintro ⟨⟨⟨h1, h2⟩, h3⟩, h4⟩
  refine ⟨h1, h2, fun i hi h0 => ?_, fun i k hi hk g1 g2 hm => ?_, h4⟩
  ·have := h3 i hi
   unfold Pg.bad6 Pg.flat at this
   rw [Pg.cor_lt hi, (vside_zero _ _ _).2 h0] at this
   simp at this
  ·have := h3 i hi
   unfold Pg.bad6 at this
   rw [Bool.or_eq_false_iff] at this
   have h5 := (List.any_eq_false.1 this.2) k (List.mem_range.2 hk)
   unfold Pg.p6 at h5
   rw [Pg.cor_lt hi, Pg.cor_lt hk, (meets6_iff _ _ _ _).2 hm] at h5
   unfold Pg.gap at g1 g2
   apply h5
   rw [Bool.and_true, Bool.and_eq_true, decide_eq_true_eq, decide_eq_true_eq]
   exact ⟨by omega, by omega⟩
 ·rintro ⟨h1, h2, h3, h4, h5⟩
  refine ⟨⟨⟨h1, h2⟩, fun i hi => ?_⟩, h5⟩
  unfold Pg.bad6
  rw [Bool.or_eq_false_iff]
  refine ⟨?_, ?_⟩
  ·unfold Pg.flat
   rw [Pg.cor_lt hi, ← Bool.not_eq_true, vside_zero]
   exact h3 i hi
  ·rw [List.any_eq_false]
   intro k hk
   have hk := List.mem_range.1 hk
   unfold Pg.p6
   rw [Pg.cor_lt hi, Pg.cor_lt hk, Bool.and_eq_true, Bool.and_eq_true, decide_eq_true_eq, decide_eq_true_eq, meets6_iff]
   rintro ⟨⟨g1, g2⟩, hm⟩
   exact h4 i k hi hk (by unfold Pg.gap; omega) (by unfold Pg.gap; omega) hm
theorem valid_iff (L : List (Rat × Rat)) : Pg.valid L = true ↔ Pg.Right L := by
 unfold Pg.valid Pg.Right
 simp only [Bool.and_eq_true, decide_eq_true_eq, not_any, Pg.area_sgn]
 constructor
 ·rintro ⟨⟨⟨h1, h2⟩, h3⟩, h4⟩
  have key : ∀ i k, i < L.length → k < L.length → i + 2 ≤ k → (k + 1) % L.length ≠ i → ¬ Pg.Meet (Pg.cor L i) (Pg.cor L (i + 1)) (Pg.cor L k) (Pg.cor L (k + 1)) := by
   intro i k hi hk g1 g2 hm
   have := h3 i hi
   unfold Pg.bad at this
   rw [Bool.or_eq_false_iff] at this
   have h5 := (List.any_eq_false.1 this.2) k (List.mem_range.2 hk)
   unfold Pg.q at h5
   apply h5
   rw [Bool.and_eq_true, Bool.and_eq_true, decide_eq_true_eq, meets_iff, bne_iff_ne]
   exact ⟨g1, by omega, hm⟩
  refine ⟨h1, h2, fun i hi h0 => ?_, fun i k hi hk g1 g2 hm => ?_, h4⟩
  ·have := h3 i hi
   unfold Pg.bad Pg.flatp at this
   rw [(vside_zero _ _ _).2 h0] at this
   simp at this
  ·rcases Nat.lt_or_ge k i with h | h
   ·rw [Pg.gap_lt hi hk h] at g1 g2
    refine key k i hk hi (by omega) ?_ hm.symm
    by_cases h6 : i + 1 = L.length
    ·rw [h6, Nat.mod_self]; omega
    ·rw [Nat.mod_eq_of_lt (by omega)]; omega
   ·rw [Pg.gap_ge hi hk h] at g1 g2
    refine key i k hi hk (by omega) ?_ hm
    by_cases h6 : k + 1 = L.length
    ·rw [h6, Nat.mod_self]; omega
    ·rw [Nat.mod_eq_of_lt (by omega)]; omega
 ·rintro ⟨h1, h2, h3, h4, h5⟩
  refine ⟨⟨⟨h1, h2⟩, fun i hi => ?_⟩, h5⟩
  unfold Pg.bad
  rw [Bool.or_eq_false_iff]
  refine ⟨?_, ?_⟩
  ·unfold Pg.flatp
   rw [← Bool.not_eq_true, vside_zero]
   exact h3 i hi
  ·rw [List.any_eq_false]
   intro k hk
   have hk := List.mem_range.1 hk
   unfold Pg.q
   rw [Bool.and_eq_true, Bool.and_eq_true, decide_eq_true_eq, meets_iff, bne_iff_ne]
   rintro ⟨g1, g2, hm⟩
   refine h4 i k hi hk ?_ ?_ hm
   ·rw [Pg.gap_ge hi hk (by omega)]; omega
   ·rw [Pg.gap_ge hi hk (by omega)]
    by_cases h6 : k + 1 = L.length
    ·rw [h6, Nat.mod_self] at g2; omega
    ·omega
/-- Both ways of asking whether a polygon is right agree. -/
theorem valid_eq (L : List (Rat × Rat)) : Pg.valid6 L = Pg.valid L := by rw [Bool.eq_iff_iff, valid6_iff, valid_iff]
/-- What keeps the sides of triangles and the products of differences. -/
structure Pg.Motion (g : Rat × Rat → Rat × Rat) : Prop where
 cr : ∀ a b c, Pg.cr (g a) (g b) (g c) = Pg.cr a b c
 dot : ∀ a b c, vdot (vsub (g a) (g c)) (vsub (g b) (g c)) = vdot (vsub a c) (vsub b c)
section
variable {g : Rat × Rat → Rat × Rat}
theorem Pg.Motion.on (h : Pg.Motion g) (a b p : Rat × Rat) : Pg.On (g a) (g b) (g p) ↔ Pg.On a b p := by unfold Pg.On; rw [h.cr, h.dot]
theorem Pg.Motion.meet (h : Pg.Motion g) (a b c d : Rat × Rat) : Pg.Meet (g a) (g b) (g c) (g d) ↔ Pg.Meet a b c d := by
 unfold Pg.Meet
 simp only [h.cr, h.on]
theorem Pg.cor_map (L : List (Rat × Rat)) (i : Nat) (h : 0 < L.length) : Pg.cor (L.map g) i = g (Pg.cor L i) := by
 unfold Pg.cor
 rw [List.length_map]
 have hi := Nat.mod_lt i h
 simp [List.getElem?_eq_getElem hi, List.getD_eq_getElem?_getD]
/-- The area by the triangles at the first corner. -/
theorem Pg.area_fan (o : Rat × Rat) (t : List (Rat × Rat)) : Pg.area (o :: t) = Pg.sum (fun a b => Pg.cr o a b) (t.zip t.tail) * Rat.divInt 1 2 := by
 unfold Pg.area
 congr 1
 cases t with
 | nil => unfold Pg.sides Pg.rot; simp [Pg.sum_cons, Pg.sum_nil]; unfold vcrs; grind
 | cons a t =>
  have h := Pg.sum_fan vcrs o Pg.crs_swap t a
  show Pg.sum vcrs ((o, a) :: (a :: t).zip (t ++ [o])) = Pg.sum _ ((a :: t).zip t)
  rw [Pg.sum_cons, h]
  exact Pg.sum_congr (fun x y => by unfold Pg.cr vcrs vsub; grind) _
theorem Pg.sum_map (f : Rat × Rat → Rat × Rat → Rat) : ∀ (s t : List (Rat × Rat)), Pg.sum f ((s.map g).zip (t.map g)) = Pg.sum (fun a b => f (g a) (g b)) (s.zip t)
 | [], _ => rfl
 | _ :: _, [] => rfl
 | a :: s, b :: t => by
  rw [List.map_cons, List.map_cons, List.zip_cons_cons, List.zip_cons_cons, Pg.sum_cons, Pg.sum_cons, Pg.sum_map f s t]
theorem Pg.Motion.area (h : Pg.Motion g) (L : List (Rat × Rat)) : Pg.area (L.map g) = Pg.area L := by
 cases L with
 | nil => rfl
 | cons o t =>
  rw [List.map_cons, Pg.area_fan, Pg.area_fan, ← List.map_tail, Pg.sum_map]
  congr 1
  exact Pg.sum_congr (fun a b => h.cr o a b) _
theorem Pg.Motion.bent (h : Pg.Motion g) (L : List (Rat × Rat)) : Pg.Bent (L.map g) ↔ Pg.Bent L := by
 unfold Pg.Bent
 rw [List.length_map]
 constructor
 ·intro k i hi
  have := k i hi
  rw [Pg.cor_map L _ (by omega), Pg.cor_map L _ (by omega), Pg.cor_map L _ (by omega), h.cr] at this
  exact this
 ·intro k i hi
  rw [Pg.cor_map L _ (by omega), Pg.cor_map L _ (by omega), Pg.cor_map L _ (by omega), h.cr]
  exact k i hi
theorem Pg.Motion.simple (h : Pg.Motion g) (L : List (Rat × Rat)) : Pg.Simple (L.map g) ↔ Pg.Simple L := by
 unfold Pg.Simple
 rw [List.length_map]
 constructor
 ·intro k i j hi hj g1 g2 hm
  refine k i j hi hj g1 g2 ?_
  rw [Pg.cor_map L _ (by omega), Pg.cor_map L _ (by omega), Pg.cor_map L _ (by omega), Pg.cor_map L _ (by omega), h.meet]
  exact hm
 ·intro k i j hi hj g1 g2 hm
  refine k i j hi hj g1 g2 ?_
  rw [Pg.cor_map L _ (by omega), Pg.cor_map L _ (by omega), Pg.cor_map L _ (by omega), Pg.cor_map L _ (by omega), h.meet] at hm
  exact hm
theorem Pg.Motion.right (h : Pg.Motion g) (L : List (Rat × Rat)) : Pg.Right (L.map g) ↔ Pg.Right L := by
 unfold Pg.Right
 rw [List.length_map, h.bent, h.simple, h.area]
theorem Pg.Motion.valid (h : Pg.Motion g) (L : List (Rat × Rat)) : Pg.valid (L.map g) = Pg.valid L := by rw [Bool.eq_iff_iff, valid_iff, valid_iff, h.right]
theorem Pg.Motion.convex (h : Pg.Motion g) (L : List (Rat × Rat)) : Pg.convex (L.map g) = Pg.convex L := by
 unfold Pg.convex
 rw [h.valid, List.length_map]
 congr 2
 rw [Bool.eq_iff_iff, List.any_eq_true, List.any_eq_true]
 have key : ∀ i, i < L.length → Pg.dent (L.map g) i = Pg.dent L i := by
  intro i hi
  unfold Pg.dent
  rw [Pg.cor_lt (by rw [List.length_map]; exact hi), Pg.cor_lt hi, Pg.cor_map L _ (by omega), Pg.cor_map L _ (by omega), Pg.cor_map L _ (by omega), vside_cr, vside_cr, h.cr]
 constructor
 ·rintro ⟨i, hi, h2⟩
  exact ⟨i, hi, by rw [← key i (List.mem_range.1 hi)]; exact h2⟩
 ·rintro ⟨i, hi, h2⟩
  exact ⟨i, hi, by rw [key i (List.mem_range.1 hi)]; exact h2⟩
end
theorem Pg.motion_add (t : Rat × Rat) : Pg.Motion (vadd t) := ⟨fun a b c => by unfold Pg.cr vcrs vsub vadd; grind, fun a b c => by unfold vdot vsub vadd; grind⟩
/-- What Polygon returns where its list is not right. -/
def Pg.kite (b : Rat × Rat) (m : Int) : List (Rat × Rat) := [b, vadd b (Rat.divInt 4 1, Rat.divInt 0 1), vadd b (Rat.divInt (1 + m) 1, Rat.divInt 3 1), vadd b (Rat.divInt 1 1, Rat.divInt 1 1)]
theorem kite_valid (b : Rat × Rat) {m : Int} (h0 : 0 ≤ m) (h1 : m < 2) : Pg.valid (Pg.kite b m) = true := by
 have e : Pg.kite b m = ([(0, 0), (Rat.divInt 4 1, Rat.divInt 0 1), (Rat.divInt (1 + m) 1, Rat.divInt 3 1), (Rat.divInt 1 1, Rat.divInt 1 1)] : List (Rat × Rat)).map (vadd b) := by
  unfold Pg.kite
  simp only [List.map_cons, List.map_nil]
  congr 1
  exact Pg.ext (by unfold vadd; grind) (by unfold vadd; grind)
 rw [e, (Pg.motion_add b).valid]
 have hm : m = 0 ∨ m = 1 := by omega
 rcases hm with rfl | rfl <;> decide +kernel
end Go.Proofs.YtcfejkpadcccbaaGreat
