/-
 THE WALK of polygon.Center.
-/
import Derived.Test.YtcfejkpadcccbaaGreatEnT
import Derived.Test.YtcfejkpadcccbaaGreatWalkPgK
import Derived.Test.YtcfejkpadcccbaaGreatWalkPgE
import Derived.Sort.CutIn
namespace Go.Proofs.YtcfejkpadcccbaaGreat.E
open Go.RowKit
set_option linter.unusedVariables false
section
variable {a b c d n p : Rat × Rat} {r q x : Rat} {i j k : Nat} {L : List (Rat × Rat)}
theorem e_has6 (hb : ∀ a ∈ L, Bv k a) (hn : L.length ≤ 100) (hk : k ≤ 100000000) (bp : Bv k p) : Pure false PP 31 [dL L, .ag (dV p)] (ni (Pg.has6 L p)) := by
 let f : Nat → Bool := fun i => Pg.up6 (L.getD i (0, 0)) (Pg.cor L (i + 1)) p
 let X : Nat → Bool → St := fun i c => at_ (fnOf PP 31) [(0, dL L), (3, .lp 0 0), (5, bo c), (6, ni i)] [.bx 35 (dV p)]
 let Y : Nat × Bool → St := fun x => X x.1 x.2
 refine pf (by kernel_rfl) (.to mo_ [] [0, 3, 5, 6] [0] 1 [] (td' := lp (fnOf PP 31) 0) (σ' := Y (0, false)) ?_ (by kernel_rfl))
 refine Gd.loop Y (fun x => x.1 ≤ L.length ∧ x.2 = Pg.par f x.1 ∧ ∀ t, t < x.1 → Pg.meets6 p p (L.getD t (0, 0)) (Pg.cor L (t + 1)) = false) (fun x => L.length - x.1) ?_ _ ⟨Nat.zero_le _, rfl, fun t ht => absurd ht (Nat.not_lt_zero t)⟩
 rintro ⟨i, s⟩ ⟨hi, hs, hI⟩ ih
 simp only at hi hs hI
 by_cases h : i < L.length
 · have ba := bel hb h
   have bb := bco hb (by omega) (i + 1)
   have hnx := e_next h (by omega : L.length ≤ 1000)
   have hfi : f i = Pg.up6 (L.getD i (0, 0)) (Pg.cor L (i + 1)) p := rfl
   generalize hea : L.getD i (0, 0) = a at ba hfi
   generalize heb : Pg.cor L (i + 1) = b at bb hfi hnx
   have hel : (L.map dV)[i]? = some (dV a) := by rw [← hea]; exact el h
   cases hm : Pg.meets6 p p a b with
   | true =>
     rw [show Pg.has6 L p = 0 by unfold Pg.has6; rw [any_true (i := i) h (by rw [hea, heb]; exact hm)]; rfl]
     exact fi [ye (t := il_ i L) (il_t h), .sel _ _ _ hel, cl hnx, cl (e_meets6 bp bp ba bb (by omega)), ye hm] (by kernel_rfl) (by kernel_rfl)
   | false =>
     have step : ∀ c : Bool, Pg.up6 a b p = c → Gd false PP 31 (ni (Pg.has6 L p)) (lp (fnOf PP 31) 0) (Y (i + 1, cond c (!s) s)) := by
       intro c hc
       have hJ : i + 1 ≤ L.length ∧ cond c (!s) s = Pg.par f (i + 1) ∧ ∀ t, t < i + 1 → Pg.meets6 p p (L.getD t (0, 0)) (Pg.cor L (t + 1)) = false := by
        refine ⟨h, ?_, fun t ht => ?_⟩
        · show _ = (Pg.par f i).xor (f i)
          rw [← hs, hfi, hc]
          cases c <;> cases s <;> rfl
        · by_cases e : t = i
          · subst e; rw [hea, heb]; exact hm
          · exact hI t (by omega)
       exact ih (i + 1, cond c (!s) s) hJ (Nat.sub_lt_sub_left h (Nat.lt_succ_self i))
     let pre : List F_ := [ye (t := il_ i L) (il_t h), .sel _ _ _ hel, cl hnx, cl (e_meets6 bp bp ba bb (by omega)), na hm, cl (e_cmp4 ba.1 bb.1 (by omega))]
     by_cases h0 : 0 < cmpQ a.1 b.1
     · have ho : Pg.up6 a b p = Pg.up6' b a p := if_pos h0
       let q : List F_ := pre ++ [ye (t := decide (0 < cmpQ a.1 b.1)) (decide_eq_true h0), .sel _ _ _ (el h)]
       cases u1 : decide (cmpQ b.1 p.1 ≤ 0) with
       | false =>
        exact .to mo_ [] [0, 3, 5, 6] [0] 1 (q ++ [cl (e_cmp4 bb.1 bp.1 (by omega)), na (t := decide (cmpQ b.1 p.1 ≤ 0)) u1, nf, nf, inc 14 i (by omega)]) (step false (by rw [ho]; unfold Pg.up6'; rw [u1]; rfl)) (by kernel_rfl)
       | true =>
        cases u2 : decide (cmpQ p.1 a.1 < 0) with
        | false =>
         exact .to mo_ [] [0, 3, 5, 6] [0] 1 (q ++ [cl (e_cmp4 bb.1 bp.1 (by omega)), ye (t := decide (cmpQ b.1 p.1 ≤ 0)) u1, cl (e_cmp4 bp.1 ba.1 (by omega)), na (t := decide (cmpQ p.1 a.1 < 0)) u2, nf, inc 14 i (by omega)]) (step false (by rw [ho]; unfold Pg.up6'; rw [u1, u2]; rfl)) (by kernel_rfl)
        | true =>
         cases u3 : decide (Go.Proofs.YtcfejkpadcccbaaGreat.vside b a p < 0) with
         | false =>
          exact .to mo_ [] [0, 3, 5, 6] [0] 1 (q ++ [cl (e_cmp4 bb.1 bp.1 (by omega)), ye (t := decide (cmpQ b.1 p.1 ≤ 0)) u1, cl (e_cmp4 bp.1 ba.1 (by omega)), ye (t := decide (cmpQ p.1 a.1 < 0)) u2, cl (e_side5 bb ba bp (by omega)), na (t := decide (Go.Proofs.YtcfejkpadcccbaaGreat.vside b a p < 0)) u3, inc 14 i (by omega)]) (step false (by rw [ho]; unfold Pg.up6'; rw [u1, u2, u3]; rfl)) (by kernel_rfl)
         | true =>
          exact .to mo_ [] [0, 3, 5, 6] [0] 1 (q ++ [cl (e_cmp4 bb.1 bp.1 (by omega)), ye (t := decide (cmpQ b.1 p.1 ≤ 0)) u1, cl (e_cmp4 bp.1 ba.1 (by omega)), ye (t := decide (cmpQ p.1 a.1 < 0)) u2, cl (e_side5 bb ba bp (by omega)), ye (t := decide (Go.Proofs.YtcfejkpadcccbaaGreat.vside b a p < 0)) u3, inc 14 i (by omega)]) (step true (by rw [ho]; unfold Pg.up6'; rw [u1, u2, u3]; rfl)) (by kernel_rfl)
     · have ho : Pg.up6 a b p = Pg.up6' a b p := if_neg h0
       let q : List F_ := pre ++ [na (t := decide (0 < cmpQ a.1 b.1)) (decide_eq_false h0)]
       cases u1 : decide (cmpQ a.1 p.1 ≤ 0) with
       | false =>
        exact .to mo_ [] [0, 3, 5, 6] [0] 1 (q ++ [cl (e_cmp4 ba.1 bp.1 (by omega)), na (t := decide (cmpQ a.1 p.1 ≤ 0)) u1, nf, nf, inc 14 i (by omega)]) (step false (by rw [ho]; unfold Pg.up6'; rw [u1]; rfl)) (by kernel_rfl)
       | true =>
        cases u2 : decide (cmpQ p.1 b.1 < 0) with
        | false =>
         exact .to mo_ [] [0, 3, 5, 6] [0] 1 (q ++ [cl (e_cmp4 ba.1 bp.1 (by omega)), ye (t := decide (cmpQ a.1 p.1 ≤ 0)) u1, cl (e_cmp4 bp.1 bb.1 (by omega)), na (t := decide (cmpQ p.1 b.1 < 0)) u2, nf, inc 14 i (by omega)]) (step false (by rw [ho]; unfold Pg.up6'; rw [u1, u2]; rfl)) (by kernel_rfl)
        | true =>
         cases u3 : decide (Go.Proofs.YtcfejkpadcccbaaGreat.vside a b p < 0) with
         | false =>
          exact .to mo_ [] [0, 3, 5, 6] [0] 1 (q ++ [cl (e_cmp4 ba.1 bp.1 (by omega)), ye (t := decide (cmpQ a.1 p.1 ≤ 0)) u1, cl (e_cmp4 bp.1 bb.1 (by omega)), ye (t := decide (cmpQ p.1 b.1 < 0)) u2, cl (e_side5 ba bb bp (by omega)), na (t := decide (Go.Proofs.YtcfejkpadcccbaaGreat.vside a b p < 0)) u3, inc 14 i (by omega)]) (step false (by rw [ho]; unfold Pg.up6'; rw [u1, u2, u3]; rfl)) (by kernel_rfl)
         | true =>
          exact .to mo_ [] [0, 3, 5, 6] [0] 1 (q ++ [cl (e_cmp4 ba.1 bp.1 (by omega)), ye (t := decide (cmpQ a.1 p.1 ≤ 0)) u1, cl (e_cmp4 bp.1 bb.1 (by omega)), ye (t := decide (cmpQ p.1 b.1 < 0)) u2, cl (e_side5 ba bb bp (by omega)), ye (t := decide (Go.Proofs.YtcfejkpadcccbaaGreat.vside a b p < 0)) u3, inc 14 i (by omega)]) (step true (by rw [ho]; unfold Pg.up6'; rw [u1, u2, u3]; rfl)) (by kernel_rfl)
 · have hz : Pg.has6 L p = if Pg.par f L.length then 1 else -1 := by unfold Pg.has6; rw [any_false fun t ht => hI t (by omega)]; rfl
   rw [hz]
   rw [show i = L.length by omega] at hs
   cases hq : Pg.par f L.length with
   | true =>
     rw [hq] at hs; subst hs
     exact fi [na (t := il_ i L) (il_f h), yt] (by kernel_rfl) (by kernel_rfl)
   | false =>
     rw [hq] at hs; subst hs
     exact fi [na (t := il_ i L) (il_f h), nf] (by kernel_rfl) (by kernel_rfl)
def dVV (a b : Rat × Rat) : V := .tu [.ag (dV a), .ag (dV b)]
def z8 : List V := [bo false, .nl true, bo false, .nl true, bo false, .nl true, bo false, .nl true]
theorem dV_0 : dV (0, 0) = [bo false, .dg [], bo false, .dg [], bo false, .dg [], bo false, .dg []] := by
 unfold dV; simp only [dR_0]; rfl
theorem less_comm (r x : Rat) : Pg.less x r = Pg.less r x := by unfold Pg.less; split <;> split <;> grind
theorem more_comm (r x : Rat) : Pg.more x r = Pg.more r x := by unfold Pg.more; split <;> split <;> grind
theorem box_0 (h : L.length = 0) : Pg.box L = ((0, 0), (0, 0)) := if_pos h
theorem box_1 (h : ¬ L.length = 0) : Pg.box L = (Pg.lo L L.length, Pg.hi L L.length) := if_neg h
theorem e_box (hb : ∀ a ∈ L, Bv k a) (hn : L.length ≤ 100) (hk : k ≤ 10000) : Pure false PP 21 [dL L] (dVV (Pg.box L).1 (Pg.box L).2) := by
 have hl : (L.map dV).length = L.length := List.length_map ..
 by_cases h0 : L.length = 0
 · rw [box_0 h0, dVV, dV_0]
   exact pf (by kernel_rfl) (fiG [.wk 0, .wk 1] [ye (t := ((L.map dV).length : Int) == 0) (by simp [h0])] (by kernel_rfl) (by kernel_rfl))
 rw [box_1 h0]
 have hg : ∀ i, i < L.length → Bv k (L.getD i (0, 0)) := fun i hi => bel hb hi
 let X : Nat → St := fun i => at_ (fnOf PP 21) [(0, dL L), (2, .lp 0 0), (3, .lp 1 0), (4, .lp 2 0), (5, .lp 3 0), (19, dL L), (20, ni (L.map dV).length), (21, ni i)] [.bx 35 z8, .bx 35 z8, .bx 35 (dV (Pg.lo L i)), .bx 35 (dV (Pg.hi L i))]
 refine pf (by kernel_rfl) (.to mo_ [] [0, 2, 3, 4, 5, 19, 20, 21] [0, 1, 2, 3] 4 [na (t := ((L.map dV).length : Int) == 0) (by simp; intro e; exact h0 (by rw [e]; rfl)), .sel _ _ _ (el (L := L) (i := 0) (by omega)), .sel _ _ _ (el (L := L) (i := 0) (by omega))] (td' := lp (fnOf PP 21) 0) (σ' := X 0) ?_ (by kernel_rfl))
 refine Gd.loop X (fun i => i ≤ L.length) (fun i => L.length - i) ?_ _ (Nat.zero_le _)
 rintro i hi ih
 have bl := lo_bits hg (by omega) i hi
 have bh := hi_bits hg (by omega) i hi
 by_cases h : i < L.length
 · have ba := hg i h
   have w1 := e_wider bl.1 bh.1 ba.1 (by omega)
   have w2 := e_wider bl.2 bh.2 ba.2 (by omega)
   rw [less_comm, more_comm] at w1 w2
   exact .to mo_ [] [0, 2, 3, 4, 5, 19, 20, 21] [0, 1, 2, 3] 4 [ye (t := il_ i L) (il_t h), .sel _ _ _ (el h), cl w1, cl w2, inc 49 i (by omega)]
    (ih (i + 1) h (by omega)) (by kernel_rfl)
 · rw [show L.length = i by omega]
   exact fi [na (t := il_ i L) (il_f h)] (by kernel_rfl) (by kernel_rfl)
theorem fs_end {i : Nat} (h1 : 1 ≤ i) (h2 : ¬ i + 1 < L.length) (g : ¬ Pg.area L = 0) : vsca (Pg.fs L i) (Rat.divInt 1 1 / Pg.area L) = Pg.center L := by
 rw [← Pg.center_eq]
 unfold Pg.center6 Pg.fs
 rw [Pg.area_eq, if_neg g, List.take_of_length_le (by rw [fan_len]; omega)]
theorem e_center6 (hb : ∀ a ∈ L, Bv k a) (hn : L.length ≤ 100) (hk : k ≤ 10000) : Pure false PP 28 [dL L] (.ag (dV (Pg.center L))) := by
 have ha := area_bits hb hn
 by_cases g : Pg.area L = 0
 · rw [show Pg.center L = (0, 0) by rw [← Pg.center_eq]; unfold Pg.center6; rw [Pg.area_eq, if_pos g], dV_0]
   exact pf (by kernel_rfl) (fiG [.wk 0] [cl (e_area6 hb hn hk), cl (e_sign4 (Pg.area L)), ye (t := sgnZ (Pg.area L).num == 0) (by rw [g]; rfl)] (by kernel_rfl) (by kernel_rfl))
 have hs : (sgnZ (Pg.area L).num == 0) = false := by
  have : (Pg.area L).num ≠ 0 := fun e => g (Rat.num_eq_zero.1 e)
  unfold sgnZ cmpZ
  rcases Int.lt_trichotomy (Pg.area L).num 0 with h | h | h
  · rw [if_pos h]; rfl
  · exact absurd h this
  · rw [if_neg (by omega), if_pos (by omega)]; rfl
 have hL : 0 < L.length := by
  rcases Nat.eq_zero_or_pos L.length with h | h
  · exact absurd (by rw [List.length_eq_zero_iff.1 h]; exact area_nil) g
  · exact h
 let X : Nat × List V → St := fun x => at_ (fnOf PP 28) [(0, dL L), (2, .lp 0 0), (3, .lp 1 0), (4, .lp 2 0), (5, ni x.1)] [.bx 35 z8, .bx 33 (dR (Pg.area L)), .bx 35 x.2]
 refine pf (by kernel_rfl) (.to mo_ [.wk 2] [0, 2, 3, 4, 5] [0, 1, 2] 3 [cl (e_area6 hb hn hk), cl (e_sign4 (Pg.area L)), na (t := sgnZ (Pg.area L).num == 0) hs] (td' := lp (fnOf PP 28) 0) (σ' := X (1, [bo false, .dg [], bo false, .dg [], bo false, .dg [], bo false, .dg []])) ?_ (by kernel_rfl))
 refine Gd.loop X (fun x => 1 ≤ x.1 ∧ x.1 ≤ L.length ∧ x.2 = dV (Pg.fs L x.1)) (fun x => L.length - x.1) ?_ _ ⟨Nat.le_refl _, hL, by rw [fs_one, dV_0]⟩
 rintro ⟨i, cs⟩ ⟨h1, hi, hcs⟩ ih
 simp only at h1 hi hcs
 subst hcs
 have hf := fs_bits hb hL hn i
 by_cases h : i + 1 < L.length
 · have b0 := bel hb hL
   have bi := bel hb (show i < L.length by omega)
   have b1 := bel hb h
   have bc := (bi.sub b0).crs (b1.sub b0)
   have bt : Bq (8 * k + 9) (vcrs (vsub (L.getD i (0, 0)) (L.getD 0 (0, 0))) (vsub (L.getD (i + 1) (0, 0)) (L.getD 0 (0, 0))) * Rat.divInt 1 6) := (bc.mul sixth_bits).mono (by omega)
   exact .to mo_ [] [0, 2, 3, 4, 5] [0, 1, 2] 3 [inc 14 i (by omega), ye (t := il_ (i + 1) L) (il_t h), .sel _ _ _ (el (L := L) (i := i) (by omega)), .sel _ _ _ (el hL), cl (e_vsub5 bi b0 (by omega)), inc 30 i (by omega), .sel _ _ _ (el h), .sel _ _ _ (el hL), cl (e_vsub5 b1 b0 (by omega)), cl (e_vcrs5 (bi.sub b0) (b1.sub b0) (by omega)), cl (e_of4 (x := 1) (y := 6) ⟨by decide, by decide⟩ ⟨by decide, by decide⟩), cl (e_mul4 bc sixth_bits (by omega)),
     .sel _ _ _ (el hL), .sel _ _ _ (el (L := L) (i := i) (by omega)), cl (e_vadd5 b0 bi (by omega)), inc 51 i (by omega), .sel _ _ _ (el h), cl (e_vadd5 (b0.add bi) b1 (by omega)), cl (e_vsca5 ((b0.add bi).add b1) bt (by omega)), cl (e_vadd5 hf (((b0.add bi).add b1).sca bt) (by omega)), inc 19 i (by omega)]
    (ih (i + 1, dV (vadd (Pg.fs L i) (vsca (vadd (vadd (L.getD 0 (0, 0)) (L.getD i (0, 0))) (L.getD (i + 1) (0, 0))) (vcrs (vsub (L.getD i (0, 0)) (L.getD 0 (0, 0))) (vsub (L.getD (i + 1) (0, 0)) (L.getD 0 (0, 0))) * Rat.divInt 1 6)))) ⟨by simp only; omega, by simp only; omega, by rw [fs_step h1 h]⟩ (by simp only; omega)) (by kernel_rfl)
 · rw [← fs_end h1 h g]
   exact fi [inc 14 i (by omega), na (t := il_ (i + 1) L) (il_f h), cl (e_of4 (x := 1) (y := 1) ⟨by decide, by decide⟩ ⟨by decide, by decide⟩), cl (e_div4 unit_bits ha (by omega)), cl (e_vsca5 hf (unit_bits.div ha (by omega)) (by omega))] (by kernel_rfl) (by kernel_rfl)
end
end Go.Proofs.YtcfejkpadcccbaaGreat.E
namespace Go.Proofs.YtcfejkpadcccbaaGreat
open Go.RowKit Go.Shelf
set_option linter.unusedVariables false
set_option linter.unusedSimpArgs false
theorem Tn.keeps {S : List Nat} {w w' : World} (t : Tn S w w') (hS : ∀ g ∈ S, ∃ T l, Bx w g T l) : KeepsOthers w w' := ⟨t.size, fun k o h hc => by
 by_cases hk : k ∈ S
 ·obtain ⟨T, l, hx⟩ := hS k hk
  unfold Bx at hx
  rw [hx] at h
  injection h with h
  subst h
  cases hc
 ·exact (t.block k (Array.getElem?_eq_some_iff.1 h).1 hk).trans h⟩
theorem Tn.k2 {S : List Nat} {n₀ Bs : Nat} {w w' : World} (t : Tn S w w') (hS : ∀ g ∈ S, n₀ ≤ g) (hn : n₀ ≤ w.heap.size) (hB : Bs ∉ S) : K2 n₀ Bs w w' :=
 ⟨Tn.below (Below.refl _ _) t hS hn, fun cs T fr e => (t.block Bs (Array.getElem?_eq_some_iff.1 e).1 hB).trans e⟩
theorem Tn.obj {S : List Nat} {D : Nat} {o : Obj} {w w' : World} (t : Tn S w w') (h : w.heap[D]? = some o) (hc : o.isCells = false) (hS : ∀ g ∈ S, ∃ T l, Bx w g T l) : w'.heap[D]? = some o := (t.keeps hS).same D o h hc
theorem pre_bits {f : Rat × Rat → Rat × Rat → Rat} {K n k : Nat} {L : List (Rat × Rat)} (hf : ∀ a b, Bv k a → Bv k b → Bq K (f a b)) (hl : n = L.length) (hb : ∀ a ∈ L, Bv k a) (pre : List (Fin n)) (hp : pre.length ≤ 100) : Bq ((K + 1) * 100 + 1) (Pg.sum f (pre.map fun x => Pg.at_ L n x.1)) := by
 refine (Pg.sum_bits (k := K) _ (fun p hp => ?_)).mono (by rw [List.length_map]; exact Nat.add_le_add_right (Nat.mul_le_mul_left _ hp) 1)
 obtain ⟨y, hy, rfl⟩ := List.mem_map.1 hp
 exact hf _ _ (getD_bv hb _ (by have := y.2; omega)) (getD_bv hb _ (by have := Nat.mod_lt (y.1 + 1) (show 0 < n by have := y.2; omega); omega))
theorem third_bits : Bq 2 (Rat.divInt 1 3) := Bq.divInt (by unfold I.Bd; decide) (by unfold I.Bd; decide) (by omega)
theorem fx_bits {k : Nat} {a b : Rat × Rat} (ha : Bv k a) (hb : Bv k b) : Bv (6 * k + 2) (Pg.fx a b, Pg.fy a b) := ((ha.add hb).sca ((ha.crs hb).mono (show _ ≤ 4 * k + 1 by omega))).mono (by omega)
theorem crs_bits {k : Nat} {a b : Rat × Rat} (ha : Bv k a) (hb : Bv k b) : Bq (4 * k + 1) (vcrs a b) := (ha.crs hb).mono (by omega)
end Go.Proofs.YtcfejkpadcccbaaGreat
namespace Go.Proofs.YtcfejkpadcccbaaGreat
set_option maxHeartbeats 4000000
open Go.RowKit Go.Shelf
attribute [local go_sem] Oper.semAt_some
attribute [local go_sem] run_store_one
set_option linter.unusedVariables false
set_option linter.unusedSimpArgs false
theorem bb_neq {o : Oper} {a : Act} {wx : World} {x y : Operand} {A B : Bool} (ho : o.op = .binOp .neq 4 x y 4) (e : a.eval x = .bool A) (e2 : a.eval y = .bool B) : Does Tryz.prog o (SC (.bool (A != B))) false a wx := by
 have h : ∀ ρ : Operand → Value, ρ x = .bool A → ρ y = .bool B → (execOp ρ o).run Tryz.prog wx = .ok (.value (.bool (A != B))) wx := by
  intro ρ h1 h2
  cases A <;> cases B <;> simp [execOp, ho, h1, h2, go_sem, Tryz.underlying4]
 exact Does.val (h _ e e2) rfl
theorem bb_eql {o : Oper} {a : Act} {wx : World} {x y : Operand} {A B : Bool} (ho : o.op = .binOp .eql 4 x y 4) (e : a.eval x = .bool A) (e2 : a.eval y = .bool B) : Does Tryz.prog o (SC (.bool (A == B))) false a wx := by
 have h : ∀ ρ : Operand → Value, ρ x = .bool A → ρ y = .bool B → (execOp ρ o).run Tryz.prog wx = .ok (.value (.bool (A == B))) wx := by
  intro ρ h1 h2
  cases A <;> cases B <;> simp [execOp, ho, h1, h2, go_sem, Tryz.underlying4]
 exact Does.val (h _ e e2) rfl
theorem alloc4s (w W0 : World) (l1 l2 l3 l4 : List Value) (T1 T2 T3 T4 : Nat) (hW : (((w.alloc (.cells l1.toArray T1)).alloc (.cells l2.toArray T2)).alloc (.cells l3.toArray T3)).alloc (.cells l4.toArray T4) = W0) :
  Bx W0 w.heap.size T1 l1 ∧ Bx W0 (w.heap.size + 1) T2 l2 ∧ Bx W0 (w.heap.size + 1 + 1) T3 l3 ∧ Bx W0 (w.heap.size + 1 + 1 + 1) T4 l4 ∧ Below w.heap.size w W0 ∧ W0.heap.size = w.heap.size + 4 := by
 subst hW
 refine ⟨(((Bx.at_ rfl).alloc _).alloc _).alloc _, ((Bx.at_ (by simp)).alloc _).alloc _, (Bx.at_ (by simp)).alloc _, Bx.at_ (by simp), ?_, by simp⟩
 exact ((((Below.refl _ _).alloc (by simp) _).alloc (by simp) _).alloc (by simp; omega) _).alloc (by simp; omega) _
/-- Whether a side turns the answer. -/
def Pg.up (a b p : Rat × Rat) : Bool := (decide (0 < cmpQ b.2 p.2) != decide (0 < cmpQ a.2 p.2)) && (decide (0 < vside a b p) == decide (0 < cmpQ b.2 p.2))
def Pg.ins (p : Rat × Rat) (ps : List ((Rat × Rat) × (Rat × Rat))) : Int := ps.foldl (fun s x => if Pg.up x.1 x.2 p then -s else s) (-1)
theorem Pg.ins_snoc (p : Rat × Rat) (ps : List ((Rat × Rat) × (Rat × Rat))) (x : (Rat × Rat) × (Rat × Rat)) : Pg.ins p (ps ++ [x]) = if Pg.up x.1 x.2 p then -Pg.ins p ps else Pg.ins p ps := by
 unfold Pg.ins
 rw [List.foldl_append]
 rfl
theorem Pg.ins_cases (p : Rat × Rat) (ps : List ((Rat × Rat) × (Rat × Rat))) : Pg.ins p ps = 1 ∨ Pg.ins p ps = -1 := by
 have h : ∀ (l : List ((Rat × Rat) × (Rat × Rat))) (s : Int), s = 1 ∨ s = -1 → l.foldl (fun s x => if Pg.up x.1 x.2 p then -s else s) s = 1 ∨ l.foldl (fun s x => if Pg.up x.1 x.2 p then -s else s) s = -1 := by
  intro l
  induction l with
  | nil => intro s h; exact h
  | cons x t ih =>
   intro s h
   rw [List.foldl_cons]
   apply ih
   split <;> omega
 exact h ps _ (.inr rfl)
def Pg.Offs (L : List (Rat × Rat)) (n : Nat) (pp : Rat × Rat) (pre : List (Fin n)) : Prop := ∀ x ∈ pre, Pg.on (Pg.at_ L n x.1).1 (Pg.at_ L n x.1).2 pp = false
def Pg.has (L : List (Rat × Rat)) (p : Rat × Rat) : Int := if (Pg.sides L).any (fun x => Pg.on x.1 x.2 p) then 0 else Pg.ins p (Pg.sides L)
end Go.Proofs.YtcfejkpadcccbaaGreat
namespace Go.Proofs.YtcfejkpadcccbaaGreat
open Go.RowKit
set_option linter.unusedSimpArgs false
/-- Of how many sides something holds, modulo two. -/
def Pg.parS (f : Rat × Rat → Rat × Rat → Bool) : List ((Rat × Rat) × (Rat × Rat)) → Bool
 | [] => false
 | x :: t => f x.1 x.2 != Pg.parS f t
theorem Pg.parS_xor (f g : Rat × Rat → Rat × Rat → Bool) : ∀ ps, Pg.parS (fun a b => f a b != g a b) ps = (Pg.parS f ps != Pg.parS g ps)
 | [] => rfl
 | x :: t => by
  show ((f x.1 x.2 != g x.1 x.2) != Pg.parS (fun a b => f a b != g a b) t) = ((f x.1 x.2 != Pg.parS f t) != (g x.1 x.2 != Pg.parS g t))
  rw [Pg.parS_xor f g t]
  cases f x.1 x.2 <;> cases g x.1 x.2 <;> cases Pg.parS f t <;> cases Pg.parS g t <;> rfl
theorem Pg.parS_congr {f g : Rat × Rat → Rat × Rat → Bool} : ∀ ps, (∀ x ∈ ps, f x.1 x.2 = g x.1 x.2) → Pg.parS f ps = Pg.parS g ps
 | [], _ => rfl
 | x :: t, h => by
  show (f x.1 x.2 != Pg.parS f t) = (g x.1 x.2 != Pg.parS g t)
  rw [h x (by simp), Pg.parS_congr t (fun y hy => h y (by simp [hy]))]
theorem Pg.parS_chain (g : Rat × Rat → Bool) : ∀ (t : List (Rat × Rat)) (a c : Rat × Rat), Pg.parS (fun a b => g a != g b) ((a :: t).zip (t ++ [c])) = (g a != g c)
 | [], a, c => by show ((g a != g c) != false) = _; cases g a <;> cases g c <;> rfl
 | b :: t, a, c => by
  rw [List.cons_append, List.zip_cons_cons]
  show ((g a != g b) != Pg.parS (fun a b => g a != g b) ((b :: t).zip (t ++ [c]))) = _
  rw [Pg.parS_chain g t b c]
  cases g a <;> cases g b <;> cases g c <;> rfl
/-- Around a closed chain nothing is left. -/
theorem Pg.parS_round (g : Rat × Rat → Bool) (l : List (Rat × Rat)) : Pg.parS (fun a b => g a != g b) (Pg.sides l) = false := by
 cases l with
 | nil => rfl
 | cons a t =>
  have := Pg.parS_chain g t a a
  unfold Pg.sides Pg.rot
  rw [this]
  cases g a <;> rfl
theorem Pg.bne_false {x y : Bool} (h : (x != y) = false) : x = y := by cases x <;> cases y <;> first | rfl | cases h
/-- The point is on no side. -/
def Pg.Off (L : List (Rat × Rat)) (p : Rat × Rat) : Prop := ∀ x ∈ Pg.sides L, ¬ Pg.On x.1 x.2 p
theorem Pg.par_two {L : List (Rat × Rat)} {p d e : Rat × Rat} (h : Pg.Off L p) (hk : 0 < vcrs d e) : Pg.parS (Pg.X d p) (Pg.sides L) = Pg.parS (Pg.X e p) (Pg.sides L) := by
 apply Pg.bne_false
 rw [← Pg.parS_xor, ← Pg.parS_round (fun a => Pg.Sec d e (vsub a p)) L]
 exact Pg.parS_congr _ fun x hx => Pg.X_sec hk (h x hx)
theorem Pg.crs_swap (d e : Rat × Rat) : vcrs d e = - vcrs e d := by unfold vcrs; grind
theorem Pg.par_ne {L : List (Rat × Rat)} {p d e : Rat × Rat} (h : Pg.Off L p) (hk : vcrs d e ≠ 0) : Pg.parS (Pg.X d p) (Pg.sides L) = Pg.parS (Pg.X e p) (Pg.sides L) := by
 rcases Pg.tri_ (vcrs d e) with g | g | g
 ·exact (Pg.par_two h (by rw [Pg.crs_swap]; grind)).symm
 ·exact absurd g hk
 ·exact Pg.par_two h g
theorem Pg.dot_pos {d : Rat × Rat} (hd : d ≠ (0, 0)) : 0 < vdot d d := Pg.not_le fun g => hd (Pg.ext (Pg.dot_self g).1 (Pg.dot_self g).2)
/-- Whether a point is inside does not depend on the direction. -/
theorem Pg.par_any {L : List (Rat × Rat)} {p d e : Rat × Rat} (h : Pg.Off L p) (hd : d ≠ (0, 0)) (he : e ≠ (0, 0)) : Pg.parS (Pg.X d p) (Pg.sides L) = Pg.parS (Pg.X e p) (Pg.sides L) := by
 by_cases hk : vcrs d e = 0
 ·have h1 := Pg.dot_pos hd
  have h2 := Pg.dot_pos he
  have e1 : vcrs d (Pg.turn d) = vdot d d := by unfold vcrs vdot Pg.turn; grind
  have e2 : vcrs e (Pg.turn d) = vdot d e := by unfold vcrs vdot Pg.turn; grind
  have e3 : vdot d e * vdot d e + vcrs d e * vcrs d e = vdot d d * vdot e e := by unfold vcrs vdot; grind
  have h3 : vdot d e ≠ 0 := fun g => by
   have := Rat.mul_pos h1 h2
   rw [g, hk] at e3
   grind
  exact (Pg.par_ne h (by rw [e1]; grind)).trans (Pg.par_ne h (by rw [e2]; exact h3)).symm
 ·exact Pg.par_ne h hk
theorem cmpQ_gt0 (r t : Rat) : decide (0 < cmpQ r t) = decide (t < r) := by
 rcases cmpQ_cases r t with ⟨h, g⟩ | ⟨h, g⟩ | ⟨h, g⟩ <;> rw [h] <;> by_cases k : t < r <;> simp [k] <;> grind
theorem cmpQ_le0 (r t : Rat) : decide (cmpQ r t ≤ 0) = decide (r ≤ t) := by
 rcases cmpQ_cases r t with ⟨h, g⟩ | ⟨h, g⟩ | ⟨h, g⟩ <;> rw [h] <;> by_cases k : r ≤ t <;> simp [k] <;> grind
theorem cmpQ_lt0 (r t : Rat) : decide (cmpQ r t < 0) = decide (r < t) := by
 rcases cmpQ_cases r t with ⟨h, g⟩ | ⟨h, g⟩ | ⟨h, g⟩ <;> rw [h] <;> by_cases k : r < t <;> simp [k] <;> grind
theorem Pg.dec_iff {p q : Prop} [Decidable p] [Decidable q] (h : p ↔ q) : decide p = decide q := by simp [h]
/-- What turns the program's answer is the ray to the right. -/
theorem Pg.up_X (a b p : Rat × Rat) : Pg.up a b p = Pg.X (1, 0) p a b := by
 unfold Pg.up Pg.X Pg.H
 rw [cmpQ_gt0, cmpQ_gt0, vside_cr, cmpQ_gt0, ← Pg.cr_rot p a b]
 have e : ∀ u : Rat × Rat, (0 < vcrs (1, 0) (vsub u p)) ↔ p.2 < u.2 := fun u => by unfold vcrs vsub; constructor <;> intro h <;> grind
 rw [Pg.dec_iff (e a), Pg.dec_iff (e b)]
 cases decide (p.2 < b.2) <;> cases decide (p.2 < a.2) <;> cases decide (0 < Pg.cr p a b) <;> rfl
theorem Pg.ins_par (p : Rat × Rat) : ∀ (ps : List ((Rat × Rat) × (Rat × Rat))) (s : Int), ps.foldl (fun s x => if Pg.up x.1 x.2 p then -s else s) s = if Pg.parS (Pg.X (1, 0) p) ps then -s else s
 | [], s => rfl
 | x :: t, s => by
  rw [List.foldl_cons, Pg.ins_par p t, Pg.up_X]
  show _ = if (Pg.X (1, 0) p x.1 x.2 != Pg.parS (Pg.X (1, 0) p) t) then -s else s
  cases Pg.X (1, 0) p x.1 x.2 <;> cases Pg.parS (Pg.X (1, 0) p) t <;> simp
/-- On a side: 0, inside: 1, outside: -1; inside by the ray in a direction. -/
def Pg.hasD (d : Rat × Rat) (L : List (Rat × Rat)) (p : Rat × Rat) : Int := if (Pg.sides L).any (fun x => Pg.on x.1 x.2 p) then 0 else if Pg.parS (Pg.X d p) (Pg.sides L) then 1 else -1
theorem Pg.has_D (L : List (Rat × Rat)) (p : Rat × Rat) : Pg.has L p = Pg.hasD (1, 0) L p := by
 unfold Pg.has Pg.hasD Pg.ins
 rw [Pg.ins_par]
 rfl
theorem Pg.off_of {L : List (Rat × Rat)} {p : Rat × Rat} (h : (Pg.sides L).any (fun x => Pg.on x.1 x.2 p) = false) : Pg.Off L p := fun x hx g => by
 have := (List.any_eq_false.1 h) x hx
 exact this ((on_iff _ _ _).2 g)
theorem Pg.hasD_any {d e : Rat × Rat} (L : List (Rat × Rat)) (p : Rat × Rat) (hd : d ≠ (0, 0)) (he : e ≠ (0, 0)) : Pg.hasD d L p = Pg.hasD e L p := by
 unfold Pg.hasD
 cases h : (Pg.sides L).any (fun x => Pg.on x.1 x.2 p)
 ·rw [Pg.par_any (Pg.off_of h) hd he]
 ·rfl
/-- The reference's line upwards. -/
theorem Pg.up6_X (a b p : Rat × Rat) (hn : ¬ Pg.On a b p) : Pg.up6 a b p = (Pg.X (0, -1) p a b != (Pg.H (0, -1) (vsub a p) != Pg.H (0, -1) (vsub b p))) := by
 have e : ∀ u : Rat × Rat, (0 < vcrs (0, -1) (vsub u p)) ↔ p.1 < u.1 := fun u => by unfold vcrs vsub; constructor <;> intro h <;> grind
 have hs : Pg.cr b a p = - Pg.cr a b p := Pg.cr_swap b a p
 have hz : a.1 ≤ p.1 → p.1 < b.1 → Pg.cr a b p ≠ 0 := by
  intro h1 h2 h0
  apply hn
  refine ⟨h0, ?_⟩
  have k : vdot (vsub a p) (vsub b p) * (b.1 - p.1) = (a.1 - p.1) * vdot (vsub b p) (vsub b p) - (b.2 - p.2) * Pg.cr a b p := by unfold Pg.cr vcrs vsub vdot; grind
  rw [h0] at k
  have k2 := Pg.np (x := a.1 - p.1) (y := vdot (vsub b p) (vsub b p)) (by grind) (by have := Pg.sq_nonneg (vsub b p).1; have := Pg.sq_nonneg (vsub b p).2; unfold vdot; grind)
  rcases Pg.tri_ (vdot (vsub a p) (vsub b p)) with g | g | g
  ·grind
  ·grind
  ·have := Rat.mul_pos g (show 0 < b.1 - p.1 by grind); grind
 unfold Pg.up6 Pg.up6' Pg.X Pg.H
 simp only [cmpQ_le0, cmpQ_lt0, vside_cr]
 rw [Pg.dec_iff (e a), Pg.dec_iff (e b), Pg.cr_rot p a b, hs]
 generalize Pg.cr a b p = s at *
 have hab : (0 < cmpQ a.1 b.1) ↔ b.1 < a.1 := by have := cmpQ_gt0 a.1 b.1; simpa using this
 by_cases ha : p.1 < a.1 <;> by_cases hb : p.1 < b.1
 ·simp only [ha, hb, decide_true, bne_self_eq_false, Bool.false_and, Bool.and_false]
  split
  ·rw [Pg.dF' (show ¬ b.1 ≤ p.1 by grind)]; rfl
  ·rw [Pg.dF' (show ¬ a.1 ≤ p.1 by grind)]; rfl
 ·rw [if_pos (hab.2 (by grind))]
  simp only [ha, hb, decide_true, decide_false, show b.1 ≤ p.1 by grind, Pg.dec_iff (show -s < 0 ↔ 0 < s by constructor <;> intro h <;> grind)]
  cases decide (0 < s) <;> rfl
 ·rw [if_neg (fun g => by have := hab.1 g; grind)]
  have h0 := hz (by grind) hb
  simp only [ha, hb, decide_true, decide_false, show a.1 ≤ p.1 by grind]
  rcases Pg.tri_ s with g | g | g
  ·rw [Pg.dT g, Pg.dF' (show ¬ 0 < s by grind)]; rfl
  ·exact absurd g h0
  ·rw [Pg.dT g, Pg.dF' (show ¬ s < 0 by grind)]; rfl
 ·simp only [ha, hb, decide_false, bne_self_eq_false, Bool.false_and, Bool.and_false]
  split <;> rfl
theorem Pg.meet_pp (p a b : Rat × Rat) : Pg.Meet p p a b ↔ Pg.On a b p := by
 have z : ∀ x, Pg.cr p p x = 0 := fun x => by unfold Pg.cr vcrs vsub; grind
 constructor
 ·rintro (⟨h, -⟩ | h | h | h | h)
  ·rw [z, z] at h; grind
  ·have := Pg.eq_of_sq h.2
   subst this
   exact ⟨by unfold Pg.cr vcrs vsub; grind, by unfold vdot vsub; grind⟩
  ·have := Pg.eq_of_sq h.2
   subst this
   exact ⟨by unfold Pg.cr vcrs vsub; grind, by unfold vdot vsub; grind⟩
  ·exact h
  ·exact h
 ·intro h
  exact .inr (.inr (.inr (.inl h)))
theorem Pg.par_range {f : Nat → Bool} {g : Rat × Rat → Rat × Rat → Bool} : ∀ (ps : List ((Rat × Rat) × (Rat × Rat))), (∀ i x, ps[i]? = some x → f i = g x.1 x.2) → Pg.par f ps.length = Pg.parS g ps := by
 have key : ∀ (ps : List ((Rat × Rat) × (Rat × Rat))) (f : Nat → Bool), Pg.par f (ps.length + 1) = (f 0 != Pg.par (fun i => f (i + 1)) ps.length) := by
  intro ps
  induction ps with
  | nil => intro f; show (false ^^ f 0) = (f 0 != false); cases f 0 <;> rfl
  | cons y t ih =>
   intro f
   show (Pg.par f (t.length + 1) ^^ f (t.length + 1)) = (f 0 != (Pg.par (fun i => f (i + 1)) t.length ^^ f (t.length + 1)))
   rw [ih f]
   cases f 0 <;> cases Pg.par (fun i => f (i + 1)) t.length <;> cases f (t.length + 1) <;> rfl
 intro ps
 induction ps generalizing f with
 | nil => intro _; rfl
 | cons x t ih =>
  intro h
  rw [List.length_cons, key t f, ih (f := fun i => f (i + 1)) (fun i y hy => h (i + 1) y (by rw [List.getElem?_cons_succ]; exact hy)), h 0 x rfl]
  rfl
theorem Pg.side_i (L : List (Rat × Rat)) (i : Nat) (hi : i < L.length) : (Pg.sides L)[i]? = some (L.getD i (0, 0), Pg.cor L (i + 1)) := by
 have h3 : (i + 1) % L.length < L.length := Nat.mod_lt _ (by omega)
 exact Pg.sides_get L i _ _ (by simp [List.getElem?_eq_getElem hi, List.getD_eq_getElem?_getD]) (by simp [Pg.cor, List.getElem?_eq_getElem h3, List.getD_eq_getElem?_getD])
theorem Pg.any_sides (L : List (Rat × Rat)) (f : Rat × Rat → Rat × Rat → Bool) : (List.range L.length).any (fun i => f (L.getD i (0, 0)) (Pg.cor L (i + 1))) = (Pg.sides L).any (fun x => f x.1 x.2) := by
 rw [Bool.eq_iff_iff, List.any_eq_true, List.any_eq_true]
 constructor
 ·rintro ⟨i, hi, h⟩
  exact ⟨_, List.mem_of_getElem? (Pg.side_i L i (List.mem_range.1 hi)), h⟩
 ·rintro ⟨x, hx, h⟩
  obtain ⟨i, hi⟩ := List.mem_iff_getElem?.1 hx
  have hl : i < L.length := by have := (List.getElem?_eq_some_iff.1 hi).1; rw [Pg.sides_len] at this; exact this
  rw [Pg.side_i L i hl] at hi
  injection hi with hi
  subst hi
  exact ⟨i, List.mem_range.2 hl, h⟩
/-- Both ways of asking whether a point is inside agree. -/
theorem has_eq (L : List (Rat × Rat)) (p : Rat × Rat) : Pg.has6 L p = Pg.has L p := by
 rw [Pg.has_D, Pg.hasD_any (e := (0, -1)) L p (by decide) (by decide)]
 unfold Pg.has6 Pg.hasD
 rw [Pg.any_sides L (fun a b => Pg.meets6 p p a b)]
 have h1 : (Pg.sides L).any (fun x => Pg.meets6 p p x.1 x.2) = (Pg.sides L).any (fun x => Pg.on x.1 x.2 p) := by
  congr 1
  funext x
  rw [Bool.eq_iff_iff, meets6_iff, Pg.meet_pp, on_iff]
 rw [h1]
 cases h : (Pg.sides L).any (fun x => Pg.on x.1 x.2 p)
 ·have hoff := Pg.off_of h
  have h2 : Pg.par (fun i => Pg.up6 (L.getD i (0, 0)) (Pg.cor L (i + 1)) p) L.length = Pg.parS (fun a b => Pg.up6 a b p) (Pg.sides L) := by
   have := Pg.par_range (f := fun i => Pg.up6 (L.getD i (0, 0)) (Pg.cor L (i + 1)) p) (g := fun a b => Pg.up6 a b p) (Pg.sides L) (fun i x hx => by
    have hl : i < L.length := by have := (List.getElem?_eq_some_iff.1 hx).1; rw [Pg.sides_len] at this; exact this
    rw [Pg.side_i L i hl] at hx
    injection hx with hx
    subst hx
    rfl)
   rw [Pg.sides_len] at this
   exact this
  rw [h2, Pg.parS_congr (f := fun a b => Pg.up6 a b p) (g := fun a b => Pg.X (0, -1) p a b != (Pg.H (0, -1) (vsub a p) != Pg.H (0, -1) (vsub b p))) _ (fun x hx => Pg.up6_X x.1 x.2 p (hoff x hx)), Pg.parS_xor, Pg.parS_round (fun a => Pg.H (0, -1) (vsub a p)) L]
  cases Pg.parS (Pg.X (0, -1) p) (Pg.sides L) <;> rfl
 ·rfl
end Go.Proofs.YtcfejkpadcccbaaGreat
namespace Go.Proofs.YtcfejkpadcccbaaGreat
set_option maxHeartbeats 4000000
open Go.RowKit Go.Shelf
attribute [local go_sem] Oper.semAt_some
attribute [local go_sem] run_store_one
set_option linter.unusedVariables false
set_option linter.unusedSimpArgs false
end Go.Proofs.YtcfejkpadcccbaaGreat
