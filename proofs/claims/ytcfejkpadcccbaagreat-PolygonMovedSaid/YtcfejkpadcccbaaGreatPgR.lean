/-
 POLYGONS that begin at another corner, and reversed ones: plain.
-/
import Derived.Test.YtcfejkpadcccbaaGreatLawE
import Derived.Test.YtcfejkpadcccbaaGreatPgZ
namespace Go.Proofs.YtcfejkpadcccbaaGreat.E
open Go.RowKit
set_option linter.unusedVariables false
/-- Where the change is. -/
def sk (L : List (Rat × Rat)) (by_ : Int) : Nat := (rnd by_ (L.length - 1)).toNat
def sMid (L : List (Rat × Rat)) (k : Nat) : Rat × Rat := Pg.mid (L.getD k (0, 0)) (Pg.cor L (k + 1))
def sNew (by_ : Int) : Rat × Rat := (Rat.divInt (rnd by_ 16 - 8) 1, Rat.divInt (rnd (by_.tdiv 17) 16 - 8) 1)
/-- What is changed, but for the fifth way. -/
def spo (L : List (Rat × Rat)) (by_ : Int) (c : Int) : List (Rat × Rat) :=
 if c = 0 then L.take (sk L by_) ++ L.drop (sk L by_ + 1)
 else if c = 1 then L.set (sk L by_) (sNew by_)
 else if c = 2 then L.set (sk L by_) (L.getD (sk L (by_.tdiv 16)) (0, 0))
 else if c = 3 then L.set (sk L by_) (sMid L (sk L by_))
 else if c = 4 then L.reverse
 else L.take (sk L by_) ++ [sMid L (sk L by_)] ++ L.drop (sk L by_)
/-- The fifth way: a denominator 1 that is written down. -/
def dR1 (r : Rat) : List V := [.k (.bool (decide (r.num < 0))), .dg (digs r.num.natAbs), .k (.bool false), .dg [1]]
def dV1 (v : Rat × Rat) : List V := dR1 v.1 ++ dR v.2
def spo5 (L : List (Rat × Rat)) (by_ : Int) : List (List V) := (L.map dV).set (sk L by_) (dV1 (L.getD (sk L by_) (0, 0)))
theorem dV_ok (L : List (Rat × Rat)) : ∀ cs ∈ L.map dV, cs.length = 8 ∧ cs.all one = true := fun cs h => by
 obtain ⟨a, _, rfl⟩ := List.mem_map.1 h
 exact ⟨rfl, rfl⟩
section
variable {L : List (Rat × Rat)} {k m i j : Nat} {how by_ : Int}
theorem sk_lt (h : 0 < L.length) (by_ : Int) : sk L by_ < L.length := by
 have := rnd_in by_ (L.length - 1)
 unfold sk; omega
theorem is64_div {x : Int} (h : W.Is64 x) {d : Int} (hd : 0 < d) : W.Is64 (x.tdiv d) := by
 unfold W.Is64 at h ⊢
 by_cases hx : x < 0
 · have h1 : x.tdiv d = -((-x).tdiv d) := by rw [Int.neg_tdiv, Int.neg_neg]
   have h2 : 0 ≤ (-x).tdiv d := Int.tdiv_nonneg (by omega) (by omega)
   have h3 : (-x).tdiv d ≤ -x := Int.tdiv_le_self _ (by omega)
   omega
 · have h2 : 0 ≤ x.tdiv d := Int.tdiv_nonneg (by omega) (by omega)
   have h3 : x.tdiv d ≤ x := Int.tdiv_le_self _ (by omega)
   omega
theorem set_map_dV (L : List (Rat × Rat)) (i : Nat) (v : Rat × Rat) : (L.map dV).set i (dV v) = (L.set i v).map dV := by rw [List.map_set]
/-- Half of it reversed. -/
def rto (L : List (Rat × Rat)) (i : Nat) : List (Rat × Rat) := (List.range L.length).map fun q => if q < i then L.getD (L.length - 1 - q) (0, 0) else L.getD q (0, 0)
theorem rto_len (L : List (Rat × Rat)) (i : Nat) : (rto L i).length = L.length := by unfold rto; simp
theorem rto_at (L : List (Rat × Rat)) (i : Nat) {q : Nat} (h : q < L.length) : (rto L i)[q]? = some (if q < i then L.getD (L.length - 1 - q) (0, 0) else L.getD q (0, 0)) := by
 unfold rto
 rw [List.getElem?_map, List.getElem?_range h]; rfl
theorem rto_ext {A B : List (Rat × Rat)} (hl : A.length = B.length) (h : ∀ q, q < A.length → A[q]? = B[q]?) : A = B := by
 apply List.ext_getElem?
 intro q
 by_cases hq : q < A.length
 · exact h q hq
 · rw [List.getElem?_eq_none (by omega), List.getElem?_eq_none (by omega)]
theorem rto_0 (L : List (Rat × Rat)) : rto L 0 = L := rto_ext (rto_len L 0) fun q hq => by
 rw [rto_len] at hq
 rw [rto_at L 0 hq, if_neg (by omega), getD_el hq]
theorem rto_n (L : List (Rat × Rat)) : rto L L.length = L.reverse := rto_ext (by rw [rto_len, List.length_reverse]) fun q hq => by
 rw [rto_len] at hq
 rw [rto_at L _ hq, if_pos hq, List.getElem?_reverse hq, getD_el (by omega)]
theorem rto_step (L : List (Rat × Rat)) {i : Nat} (h : i < L.length) : (rto L i).set i (L.getD (L.length - 1 - i) (0, 0)) = rto L (i + 1) := rto_ext (by rw [List.length_set, rto_len, rto_len]) fun q hq => by
 rw [List.length_set, rto_len] at hq
 rw [rto_at L _ hq]
 by_cases e : i = q
 · subst e; rw [List.getElem?_set_self (by rw [rto_len]; exact h), if_pos (by omega)]
 · rw [List.getElem?_set_ne e, rto_at L _ hq]
   by_cases h3 : q < i
   · rw [if_pos h3, if_pos (by omega)]
   · rw [if_neg h3, if_neg (by omega)]
theorem el_i (h : i < L.length) : (L.map dV)[i]? = some (dV (L.getD i (0, 0))) := el h
/-- The facts up to the choice. -/
noncomputable def sF (hL : L.length = m + 1) (hy : W.Is64 by_) (h0 : 0 < L.length) (hn : L.length ≤ 100) {c : Int} (hcc : Pure false PP 35 [ni how, ni 7] (ni c)) : List F_ :=
 [.aps [] (L.map dV) (L.map dV) 200 8 rfl (by rw [List.length_map]; exact h0) (by rw [List.length_map]; omega) (dV_ok L), na (t := ((L.map dV).length : Int) == 0) (by simp; intro e; rw [e] at h0; simp at h0), le_ 24 m hL, cl (e_around hy m), .eqv 25 (ni (rnd by_ m)) (ni (sk L by_ : Nat)) (by have := rnd_in by_ m; unfold sk; rw [show L.length - 1 = m by omega]; congr 2; omega), cl hcc]
theorem e_spoilt0 (h0 : 0 < L.length) (hn : L.length ≤ 100) (hw : W.Is64 how) (hy : W.Is64 by_) (hc : rnd how 6 = 0) : Pure false PP 12 [dL L, ni how, ni by_] (dL (spo L by_ 0)) := by
 obtain ⟨m, hm⟩ : ∃ m, L.length = m + 1 := ⟨L.length - 1, by omega⟩
 have hl : (L.map dV).length = L.length := List.length_map ..
 have hk1 := sk_lt h0 by_
 have hcc := e_around hw 6
 rw [hc] at hcc
 rw [show spo L by_ 0 = L.take (sk L by_) ++ L.drop (sk L by_ + 1) from if_pos rfl]
 by_cases h1 : sk L by_ + 1 < L.length
 · exact tr (sF hm hy h0 hn hcc ++ [yt, .slo (L.map dV) 0 (sk L by_) ⟨by omega, by omega⟩ (by omega), inc 54 (sk L by_) (by omega), .slo (L.map dV) (sk L by_ + 1) (L.map dV).length ⟨by omega, by omega⟩ (by omega),
    .apo (L.map dV) ((L.take (sk L by_) ++ L.drop (sk L by_ + 1)).map dV) (sk L by_) (sk L by_ + 1) (L.map dV).length 200 (by rw [List.take_of_length_le (Nat.le_refl _), List.map_append, List.map_take, List.map_drop]) (by omega) ⟨by omega, by omega⟩ (by rw [List.length_map, List.length_append, List.length_take, List.length_drop]; omega)]) (by kernel_rfl)
 · have h2 : sk L by_ + 1 = L.length := by omega
   rw [List.drop_of_length_le (by omega), List.append_nil]
   exact tr (sF hm hy h0 hn hcc ++ [yt, .slo (L.map dV) 0 (sk L by_) ⟨by omega, by omega⟩ (by omega), .eqv 54 (ni (IntKind.i64.wrap ((sk L by_ : Nat) + 1))) (ni ((L.map dV).length : Nat)) (by rw [inc_ (by omega), hl, h2]), .slo (L.map dV) (L.map dV).length (L.map dV).length ⟨by omega, by omega⟩ (by omega),
    .apf (L.map dV) ((L.take (sk L by_)).map dV) (sk L by_) (L.map dV).length (by rw [List.map_take]) (by omega) (by omega)]) (by kernel_rfl)
theorem e_spoilt1 (h0 : 0 < L.length) (hn : L.length ≤ 100) (hw : W.Is64 how) (hy : W.Is64 by_) (hc : rnd how 6 = 1) : Pure false PP 12 [dL L, ni how, ni by_] (dL (spo L by_ 1)) := by
 obtain ⟨m, hm⟩ : ∃ m, L.length = m + 1 := ⟨L.length - 1, by omega⟩
 have hk1 := sk_lt h0 by_
 have hcc := e_around hw 6
 rw [hc] at hcc
 have r1 := rnd_in by_ 16
 have r2 := rnd_in (by_.tdiv 17) 16
 have hd := is64_div hy (d := 17) (by omega)
 rw [show spo L by_ 1 = L.set (sk L by_) (sNew by_) from rfl]
 exact tr (sF hm hy h0 hn hcc ++ [nf, yt, cl (e_around hy 16), eq64 63 (rnd by_ 16 - 8) (i64 (by omega)), eq64 65 (by_.tdiv 17) hd, cl (e_around hd 16), eq64 67 (rnd (by_.tdiv 17) 16 - 8) (i64 (by omega)), cl (e_vof (x := rnd by_ 16 - 8) (y := rnd (by_.tdiv 17) 16 - 8) (i64 (by omega)) (i64 (by omega))),
  .sel (L.map dV) _ _ (el_i hk1), .upd (L.map dV) _ _ (dV (sNew by_)) ((L.set (sk L by_) (sNew by_)).map dV) (el_i hk1) (set_map_dV ..)]) (by kernel_rfl)
theorem e_spoilt2 (h0 : 0 < L.length) (hn : L.length ≤ 100) (hw : W.Is64 how) (hy : W.Is64 by_) (hc : rnd how 6 = 2) : Pure false PP 12 [dL L, ni how, ni by_] (dL (spo L by_ 2)) := by
 obtain ⟨m, hm⟩ : ∃ m, L.length = m + 1 := ⟨L.length - 1, by omega⟩
 have hk1 := sk_lt h0 by_
 have hk2 := sk_lt h0 (by_.tdiv 16)
 have hcc := e_around hw 6
 rw [hc] at hcc
 have hd := is64_div hy (d := 16) (by omega)
 have r2 := rnd_in (by_.tdiv 16) m
 rw [show spo L by_ 2 = L.set (sk L by_) (L.getD (sk L (by_.tdiv 16)) (0, 0)) from rfl]
 exact tr (sF hm hy h0 hn hcc ++ [nf, nf, yt, eq64 76 (by_.tdiv 16) hd, le_ 78 m hm, cl (e_around hd m), .eqv 79 (ni (rnd (by_.tdiv 16) m)) (ni (sk L (by_.tdiv 16) : Nat)) (by unfold sk; rw [show L.length - 1 = m by omega]; congr 2; omega),
  .sel (L.map dV) _ _ (el_i hk2), .sel (L.map dV) _ _ (el_i hk2), .sel (L.map dV) _ _ (el_i hk1), .upd (L.map dV) _ _ (dV (L.getD (sk L (by_.tdiv 16)) (0, 0))) ((L.set (sk L by_) (L.getD (sk L (by_.tdiv 16)) (0, 0))).map dV) (el_i hk1) (set_map_dV ..)]) (by kernel_rfl)
theorem e_spoilt3 (hb : ∀ a ∈ L, Bv k a) (hk : 20 * (k + k) + 200 ≤ 800000000000) (h0 : 0 < L.length) (hn : L.length ≤ 100) (hw : W.Is64 how) (hy : W.Is64 by_) (hc : rnd how 6 = 3) : Pure false PP 12 [dL L, ni how, ni by_] (dL (spo L by_ 3)) := by
 obtain ⟨m, hm⟩ : ∃ m, L.length = m + 1 := ⟨L.length - 1, by omega⟩
 have hk1 := sk_lt h0 by_
 have hcc := e_around hw 6
 rw [hc] at hcc
 have ba := bel hb hk1
 have bb := bco hb h0 (sk L by_ + 1)
 rw [show spo L by_ 3 = L.set (sk L by_) (sMid L (sk L by_)) from rfl]
 exact tr (sF hm hy h0 hn hcc ++ [nf, nf, nf, yt, .sel (L.map dV) _ _ (el_i hk1), cl (e_next hk1 (by omega)), cl (e_mid ba bb (by omega)), .sel (L.map dV) _ _ (el_i hk1), .upd (L.map dV) _ _ (dV (sMid L (sk L by_))) ((L.set (sk L by_) (sMid L (sk L by_))).map dV) (el_i hk1) (set_map_dV ..)]) (by kernel_rfl)
theorem e_spoilt4 (h0 : 0 < L.length) (hn : L.length ≤ 100) (hw : W.Is64 how) (hy : W.Is64 by_) (hc : rnd how 6 = 4) : Pure false PP 12 [dL L, ni how, ni by_] (dL L.reverse) := by
 obtain ⟨m, hm⟩ : ∃ m, L.length = m + 1 := ⟨L.length - 1, by omega⟩
 have hl : (L.map dV).length = L.length := List.length_map ..
 have hcc := e_around hw 6
 rw [hc] at hcc
 let X : Nat → St := fun i => at_ (fnOf PP 12) [(0, dL L), (7, .ow 0), (9, ni i), (27, ni 4)] [.rw 35 8 ((rto L i).map dV)]
 have loop : Gd false PP 12 (dL L.reverse) (lp (fnOf PP 12) 0) (X 0) := by
  refine Gd.loop X (fun i => i ≤ L.length) (fun i => L.length - i) ?_ _ (Nat.zero_le _)
  intro i hi ih
  by_cases h : i < L.length
  · have hri : i < (rto L i).length := by rw [rto_len]; exact h
    have w1 : IntKind.i64.wrap (((L.map dV).length : Int) - 1) = ((L.length - 1 : Nat) : Int) := by rw [hl, IntKind.wrap_i64]; omega
    have w2 : IntKind.i64.wrap (((L.length - 1 : Nat) : Int) - (i : Int)) = ((L.length - 1 - i : Nat) : Int) := by rw [IntKind.wrap_i64]; omega
    exact .to mo_ [] [0, 7, 9, 27] [0] 1 [ye (t := il_ i L) (il_t h), .eqv 109 (ni (IntKind.i64.wrap (((L.map dV).length : Int) - 1))) (ni (L.length - 1 : Nat)) (by rw [w1]), .eqv 111 (ni (IntKind.i64.wrap (((L.length - 1 : Nat) : Int) - (i : Int)))) (ni (L.length - 1 - i : Nat)) (by rw [w2]), .sel (L.map dV) _ _ (el_i (show L.length - 1 - i < L.length by omega)),
      .sel ((rto L i).map dV) i _ (el_i hri), .upd ((rto L i).map dV) i _ (dV (L.getD (L.length - 1 - i) (0, 0))) ((rto L (i + 1)).map dV) (el_i hri) (by rw [set_map_dV, rto_step L h]), inc 103 i (by omega)] (ih (i + 1) h (by omega)) (by kernel_rfl)
  · rw [← rto_n, show L.length = i by omega]
    exact fi [na (t := il_ i L) (il_f h)] (by kernel_rfl) (by kernel_rfl)
 have hx : X 0 = at_ (fnOf PP 12) [(0, dL L), (7, .ow 0), (9, ni 0), (27, ni 4)] [.rw 35 8 (L.map dV)] := by show at_ _ _ [.rw _ 8 ((rto L 0).map dV)] = _; rw [rto_0]; rfl
 rw [hx] at loop
 exact pf (by kernel_rfl) (.to mo_ [.mv 0 1] [0, 7, 9, 27] [0] 1 (sF hm hy h0 hn hcc ++ [nf, nf, nf, nf, yt]) loop (by kernel_rfl))
theorem e_spoilt6 (hb : ∀ a ∈ L, Bv k a) (hk : 20 * (k + k) + 200 ≤ 800000000000) (h0 : 0 < L.length) (hn : L.length ≤ 100) (hw : W.Is64 how) (hy : W.Is64 by_) (hc : rnd how 6 = 6) : Pure false PP 12 [dL L, ni how, ni by_] (dL (spo L by_ 6)) := by
 obtain ⟨m, hm⟩ : ∃ m, L.length = m + 1 := ⟨L.length - 1, by omega⟩
 have hl : (L.map dV).length = L.length := List.length_map ..
 have hk1 := sk_lt h0 by_
 have hcc := e_around hw 6
 rw [hc] at hcc
 have ba := bel hb hk1
 have bb := bco hb h0 (sk L by_ + 1)
 rw [show spo L by_ 6 = L.take (sk L by_) ++ [sMid L (sk L by_)] ++ L.drop (sk L by_) from rfl]
 have e1 : ((L.map dV).take (sk L by_)).drop 0 = (L.take (sk L by_)).map dV := by rw [List.drop_zero, List.map_take]
 have e2 : ((L.map dV).take (L.map dV).length).drop (sk L by_) = (L.drop (sk L by_)).map dV := by rw [List.take_of_length_le (Nat.le_refl _), List.map_drop]
 have hd : 0 < ((L.drop (sk L by_)).map dV).length := by rw [List.length_map, List.length_drop]; omega
 let B : List F_ := [.sel (L.map dV) _ _ (el_i hk1), cl (e_next hk1 (by omega)), cl (e_mid ba bb (by omega)), .app ((L.take (sk L by_)).map dV) [dV (sMid L (sk L by_))] ((L.take (sk L by_) ++ [sMid L (sk L by_)]).map dV) 200 (by rw [List.map_append]; rfl) (by simp) (by rw [List.length_map, List.length_append, List.length_take]; simp; omega),
  .slc (L.map dV) (sk L by_) (L.map dV).length 8 _ e2 (by omega) (fun cs h => (dV_ok L cs h).1), .aps ((L.take (sk L by_) ++ [sMid L (sk L by_)]).map dV) ((L.drop (sk L by_)).map dV) ((L.take (sk L by_) ++ [sMid L (sk L by_)] ++ L.drop (sk L by_)).map dV) 200 8 (by rw [List.map_append (l₁ := _ ++ _)]) hd (by rw [List.length_map, List.length_append, List.length_append, List.length_take, List.length_drop]; simp; omega) (dV_ok _)]
 by_cases hz : sk L by_ = 0
 · refine tr (sF hm hy h0 hn hcc ++ [nf, nf, nf, nf, nf, nf, .slc (L.map dV) 0 (sk L by_) 8 _ e1 (by omega) (fun cs h => (dV_ok L cs h).1), .ape ((L.take (sk L by_)).map dV) (by rw [hz]; rfl), .sel (L.map dV) _ _ (el_i hk1), cl (e_next hk1 (by omega)), cl (e_mid ba bb (by omega)), .app [] [dV (sMid L (sk L by_))] ((L.take (sk L by_) ++ [sMid L (sk L by_)]).map dV) 200 (by rw [hz]; rfl) (by simp) (by rw [hz]; simp),
    .slc (L.map dV) (sk L by_) (L.map dV).length 8 _ e2 (by omega) (fun cs h => (dV_ok L cs h).1), .aps ((L.take (sk L by_) ++ [sMid L (sk L by_)]).map dV) ((L.drop (sk L by_)).map dV) ((L.take (sk L by_) ++ [sMid L (sk L by_)] ++ L.drop (sk L by_)).map dV) 200 8 (by rw [List.map_append (l₁ := _ ++ _)]) hd (by rw [List.length_map, List.length_append, List.length_append, List.length_take, List.length_drop]; simp; omega) (dV_ok _)]) (by kernel_rfl)
 · exact tr (sF hm hy h0 hn hcc ++ [nf, nf, nf, nf, nf, nf, .slc (L.map dV) 0 (sk L by_) 8 _ e1 (by omega) (fun cs h => (dV_ok L cs h).1), .aps [] ((L.take (sk L by_)).map dV) ((L.take (sk L by_)).map dV) 200 8 rfl (by rw [List.length_map, List.length_take]; omega) (by rw [List.length_map, List.length_take]; omega) (dV_ok _)] ++ B) (by kernel_rfl)
end
end Go.Proofs.YtcfejkpadcccbaaGreat.E
namespace Go.Proofs.YtcfejkpadcccbaaGreat
open Go.RowKit
set_option linter.unusedVariables false
set_option linter.unusedSimpArgs false
def Pg.rt {α : Type} : List α → List α
 | [] => []
 | a :: t => t ++ [a]
theorem Pg.sides_rot (L : List (Rat × Rat)) : Pg.sides (Pg.rot L) = Pg.rt (Pg.sides L) := by
 match L with
 | [] => rfl
 | [a] => rfl
 | a :: b :: u =>
   show ((b :: u) ++ [a]).zip ((u ++ [a]) ++ [b]) = ((b :: u).zip (u ++ [a])) ++ [(a, b)]
   rw [List.zip_append (by simp)]
   rfl
theorem Pg.sum_rt (f : Rat × Rat → Rat × Rat → Rat) (ps) : Pg.sum f (Pg.rt ps) = Pg.sum f ps := by
 cases ps with
 | nil => rfl
 | cons a t => show Pg.sum f (t ++ [a]) = _; rw [Pg.sum_snoc, Pg.sum_cons]; grind
theorem Pg.parS_snoc (f : Rat × Rat → Rat × Rat → Bool) (x) : ∀ ps, Pg.parS f (ps ++ [x]) = (Pg.parS f ps != f x.1 x.2)
 | [] => by simp [Pg.parS]
 | y :: t => by rw [List.cons_append, Pg.parS, Pg.parS_snoc f x t, Pg.parS]; simp
theorem Pg.parS_rt (f : Rat × Rat → Rat × Rat → Bool) (ps) : Pg.parS f (Pg.rt ps) = Pg.parS f ps := by
 cases ps with
 | nil => rfl
 | cons a t =>
   show Pg.parS f (t ++ [a]) = _
   rw [Pg.parS_snoc, Pg.parS]
   cases Pg.parS f t <;> cases f a.1 a.2 <;> rfl
theorem Pg.any_rt {α : Type} (f : α → Bool) (ps : List α) : (Pg.rt ps).any f = ps.any f := by
 cases ps with
 | nil => rfl
 | cons a t =>
   show (t ++ [a]).any f = _
   rw [List.any_append, List.any_cons, List.any_cons, List.any_nil, Bool.or_false, Bool.or_comm]
theorem Pg.sum_rot (f : Rat × Rat → Rat × Rat → Rat) (L) : Pg.sum f (Pg.sides (Pg.rot L)) = Pg.sum f (Pg.sides L) := by rw [Pg.sides_rot, Pg.sum_rt]
theorem Pg.area_rot (L) : Pg.area (Pg.rot L) = Pg.area L := by unfold Pg.area; rw [Pg.sum_rot]
theorem Pg.center_rot (L) : Pg.center (Pg.rot L) = Pg.center L := by unfold Pg.center; rw [Pg.sum_rot, Pg.sum_rot, Pg.sum_rot]
theorem Pg.has_rot (L p) : Pg.has (Pg.rot L) p = Pg.has L p := by
 rw [Pg.has_D, Pg.has_D]
 unfold Pg.hasD
 rw [Pg.sides_rot, Pg.any_rt, Pg.parS_rt]
/-- Corners are counted around. -/
theorem Pg.cor_mod (L : List (Rat × Rat)) (i j : Nat) : Pg.cor L (i % L.length + j) = Pg.cor L (i + j) := by
 unfold Pg.cor; rw [Nat.mod_add_mod]
theorem Pg.cor_n (L : List (Rat × Rat)) (i : Nat) : Pg.cor L (i + L.length) = Pg.cor L i := by unfold Pg.cor; rw [Nat.add_mod_right]
theorem Pg.cor_rot (L : List (Rat × Rat)) (i : Nat) : Pg.cor (Pg.rot L) i = Pg.cor L (i + 1) := by
 by_cases h : 0 < L.length
 · unfold Pg.cor
   rw [Pg.rot_len, List.getD_eq_getElem?_getD, Pg.rot_get L _ (Nat.mod_lt _ h), Nat.mod_add_mod, ← List.getD_eq_getElem?_getD]
 · have : L = [] := List.length_eq_zero_iff.1 (by omega)
   subst this; rfl
theorem Pg.shift {n : Nat} (hn : 0 < n) {p : Nat → Prop} (hp : ∀ i, p (i + n) ↔ p i) : (∀ i, p (i + 1)) ↔ ∀ i, p i := by
 constructor
 · intro h i
   rw [← hp i, show i + n = (i + n - 1) + 1 by omega]
   exact h _
 · exact fun h i => h _
theorem Pg.below {n : Nat} (hn : 0 < n) {p : Nat → Prop} (hp : ∀ i, p (i % n) ↔ p i) : (∀ i, i < n → p i) ↔ ∀ i, p i :=
 ⟨fun h i => (hp i).1 (h _ (Nat.mod_lt _ hn)), fun h i _ => h i⟩
def Pg.bentA (L : List (Rat × Rat)) (i : Nat) : Prop := Pg.cr (Pg.cor L i) (Pg.cor L (i + 1)) (Pg.cor L (i + 2)) ≠ 0
theorem Pg.bent_all {L : List (Rat × Rat)} (hn : 0 < L.length) : Pg.Bent L ↔ ∀ i, Pg.bentA L i :=
 Pg.below (p := Pg.bentA L) hn fun i => by
  unfold Pg.bentA
  have h0 := Pg.cor_mod L i 0
  simp only [Nat.add_zero] at h0
  rw [h0, Pg.cor_mod, Pg.cor_mod]
theorem Pg.bent_rot {L : List (Rat × Rat)} (hn : 0 < L.length) : Pg.Bent (Pg.rot L) ↔ Pg.Bent L := by
 rw [Pg.bent_all hn, Pg.bent_all (by rw [Pg.rot_len]; exact hn), ← Pg.shift hn (p := Pg.bentA L)]
 · refine forall_congr' fun i => ?_
   unfold Pg.bentA
   rw [Pg.cor_rot, Pg.cor_rot, Pg.cor_rot]
 · intro i
   unfold Pg.bentA
   rw [show i + L.length + 1 = i + 1 + L.length by omega, show i + L.length + 2 = i + 2 + L.length by omega, Pg.cor_n, Pg.cor_n, Pg.cor_n]
def Pg.simA (L : List (Rat × Rat)) (i : Nat) : Prop := ∀ d, 1 < d → d < L.length - 1 → ¬ Pg.Meet (Pg.cor L i) (Pg.cor L (i + 1)) (Pg.cor L (i + d)) (Pg.cor L (i + d + 1))
theorem Pg.simple_all {L : List (Rat × Rat)} (hn : 0 < L.length) : Pg.Simple L ↔ ∀ i, Pg.simA L i := by
 have h0 := fun i => Pg.cor_mod L i 0
 simp only [Nat.add_zero] at h0
 rw [← Pg.below (p := Pg.simA L) hn]
 · constructor
   · intro h i hi d h1 h2
     have hg : Pg.gap L.length i ((i + d) % L.length) = d := by
      unfold Pg.gap
      by_cases hd : i + d < L.length
      · rw [Nat.mod_eq_of_lt hd, show i + d + L.length - i = d + L.length by omega, Nat.add_mod_right, Nat.mod_eq_of_lt (by omega)]
      · have e : (i + d) % L.length = i + d - L.length := by rw [Nat.mod_eq_sub_mod (by omega), Nat.mod_eq_of_lt (by omega)]
        rw [e, show i + d - L.length + L.length - i = d by omega, Nat.mod_eq_of_lt (by omega)]
     have := h i ((i + d) % L.length) hi (Nat.mod_lt _ hn) (by rw [hg]; exact h1) (by rw [hg]; exact h2)
     rwa [h0, Pg.cor_mod] at this
   · intro h i k hi hk h1 h2
     have hik : (i + Pg.gap L.length i k) % L.length = k := by
      by_cases hd : i ≤ k
      · rw [Pg.gap_ge hi hk hd, show i + (k - i) = k by omega, Nat.mod_eq_of_lt hk]
      · rw [Pg.gap_lt hi hk (by omega), show i + (k + L.length - i) = k + L.length by omega, Nat.add_mod_right, Nat.mod_eq_of_lt hk]
     have := h i hi _ h1 h2
     have e1 : Pg.cor L (i + Pg.gap L.length i k) = Pg.cor L k := by rw [← h0, hik]
     have e2 : Pg.cor L (i + Pg.gap L.length i k + 1) = Pg.cor L (k + 1) := by rw [← Pg.cor_mod, hik]
     rwa [e1, e2] at this
 · intro i
   unfold Pg.simA
   simp only [h0, Pg.cor_mod, Nat.add_assoc]
theorem Pg.simple_rot {L : List (Rat × Rat)} (hn : 0 < L.length) : Pg.Simple (Pg.rot L) ↔ Pg.Simple L := by
 rw [Pg.simple_all hn, Pg.simple_all (by rw [Pg.rot_len]; exact hn), ← Pg.shift hn (p := Pg.simA L)]
 · refine forall_congr' fun i => ?_
   unfold Pg.simA
   simp only [Pg.cor_rot, Pg.rot_len]
   simp only [Nat.add_right_comm _ 1]
 · intro i
   unfold Pg.simA
   have e : ∀ d, i + L.length + d = i + d + L.length := fun d => by omega
   have e3 : ∀ d, i + d + L.length + 1 = i + d + 1 + L.length := fun d => by omega
   simp only [e, e3, Pg.cor_n]
theorem Pg.valid_rot (L) : Pg.valid (Pg.rot L) = Pg.valid L := by
 rw [Bool.eq_iff_iff, valid_iff, valid_iff]
 unfold Pg.Right
 rw [Pg.rot_len, Pg.area_rot]
 by_cases hn : 0 < L.length
 · rw [Pg.bent_rot hn, Pg.simple_rot hn]
 · constructor <;> rintro ⟨h, _⟩ <;> omega
def Pg.denA (L : List (Rat × Rat)) (i : Nat) : Prop := ¬ vside (Pg.cor L i) (Pg.cor L (i + 1)) (Pg.cor L (i + 2)) < 0
theorem Pg.dent_all {L : List (Rat × Rat)} (hn : 0 < L.length) : (!(List.range L.length).any (Pg.dent L)) = true ↔ ∀ i, Pg.denA L i := by
 rw [not_any, ← Pg.below (p := Pg.denA L) hn]
 · refine forall_congr' fun i => forall_congr' fun hi => ?_
   unfold Pg.dent Pg.denA
   rw [Pg.cor_lt hi, decide_eq_false_iff_not]
 · intro i
   unfold Pg.denA
   have h0 := Pg.cor_mod L i 0
   simp only [Nat.add_zero] at h0
   rw [h0, Pg.cor_mod, Pg.cor_mod]
theorem Pg.dent_rot {L : List (Rat × Rat)} (hn : 0 < L.length) : (!(List.range (Pg.rot L).length).any (Pg.dent (Pg.rot L))) = (!(List.range L.length).any (Pg.dent L)) := by
 rw [Bool.eq_iff_iff, Pg.dent_all hn, Pg.dent_all (by rw [Pg.rot_len]; exact hn), ← Pg.shift hn (p := Pg.denA L)]
 · refine forall_congr' fun i => ?_
   unfold Pg.denA
   rw [Pg.cor_rot, Pg.cor_rot, Pg.cor_rot]
 · intro i
   unfold Pg.denA
   rw [show i + L.length + 1 = i + 1 + L.length by omega, show i + L.length + 2 = i + 2 + L.length by omega, Pg.cor_n, Pg.cor_n, Pg.cor_n]
theorem Pg.convex_rot (L) : Pg.convex (Pg.rot L) = Pg.convex L := by
 unfold Pg.convex
 rw [Pg.valid_rot]
 by_cases hn : 0 < L.length
 · rw [Pg.dent_rot hn]
 · rw [List.length_eq_zero_iff.1 (by omega : L.length = 0)]; rfl
/-- What only depends on which corners there are. -/
theorem Pg.less_le (r t : Rat) : Pg.less r t ≤ r ∧ Pg.less r t ≤ t ∧ (Pg.less r t = r ∨ Pg.less r t = t) := by unfold Pg.less; split <;> grind
theorem Pg.more_le (r t : Rat) : r ≤ Pg.more r t ∧ t ≤ Pg.more r t ∧ (Pg.more r t = r ∨ Pg.more r t = t) := by unfold Pg.more; split <;> grind
theorem Pg.lo_spec (L : List (Rat × Rat)) : ∀ i, ((∀ j, j < i → (Pg.lo L i).1 ≤ (L.getD j (0, 0)).1) ∧ ∃ j, (j = 0 ∨ j < i) ∧ (Pg.lo L i).1 = (L.getD j (0, 0)).1) ∧ (∀ j, j < i → (Pg.lo L i).2 ≤ (L.getD j (0, 0)).2) ∧ ∃ j, (j = 0 ∨ j < i) ∧ (Pg.lo L i).2 = (L.getD j (0, 0)).2
 | 0 => ⟨⟨fun j h => by omega, 0, .inl rfl, rfl⟩, fun j h => by omega, 0, .inl rfl, rfl⟩
 | i + 1 => by
  obtain ⟨⟨h1, j1, h2, h3⟩, h4, j2, h5, h6⟩ := Pg.lo_spec L i
  obtain ⟨a1, a2, a3⟩ := Pg.less_le (Pg.lo L i).1 (L.getD i (0, 0)).1
  obtain ⟨b1, b2, b3⟩ := Pg.less_le (Pg.lo L i).2 (L.getD i (0, 0)).2
  refine ⟨⟨fun j hj => ?_, ?_⟩, fun j hj => ?_, ?_⟩
  · show Pg.less _ _ ≤ _
    by_cases e : j = i
    · subst e; exact a2
    · exact Rat.le_trans a1 (h1 j (by omega))
  · show ∃ j, _ ∧ Pg.less _ _ = _
    rcases a3 with e | e
    · exact ⟨j1, by omega, by rw [e, h3]⟩
    · exact ⟨i, .inr (by omega), e⟩
  · show Pg.less _ _ ≤ _
    by_cases e : j = i
    · subst e; exact b2
    · exact Rat.le_trans b1 (h4 j (by omega))
  · show ∃ j, _ ∧ Pg.less _ _ = _
    rcases b3 with e | e
    · exact ⟨j2, by omega, by rw [e, h6]⟩
    · exact ⟨i, .inr (by omega), e⟩
theorem Pg.hi_spec (L : List (Rat × Rat)) : ∀ i, ((∀ j, j < i → (L.getD j (0, 0)).1 ≤ (Pg.hi L i).1) ∧ ∃ j, (j = 0 ∨ j < i) ∧ (Pg.hi L i).1 = (L.getD j (0, 0)).1) ∧ (∀ j, j < i → (L.getD j (0, 0)).2 ≤ (Pg.hi L i).2) ∧ ∃ j, (j = 0 ∨ j < i) ∧ (Pg.hi L i).2 = (L.getD j (0, 0)).2
 | 0 => ⟨⟨fun j h => by omega, 0, .inl rfl, rfl⟩, fun j h => by omega, 0, .inl rfl, rfl⟩
 | i + 1 => by
  obtain ⟨⟨h1, j1, h2, h3⟩, h4, j2, h5, h6⟩ := Pg.hi_spec L i
  obtain ⟨a1, a2, a3⟩ := Pg.more_le (Pg.hi L i).1 (L.getD i (0, 0)).1
  obtain ⟨b1, b2, b3⟩ := Pg.more_le (Pg.hi L i).2 (L.getD i (0, 0)).2
  refine ⟨⟨fun j hj => ?_, ?_⟩, fun j hj => ?_, ?_⟩
  · show _ ≤ Pg.more _ _
    by_cases e : j = i
    · subst e; exact a2
    · exact Rat.le_trans (h1 j (by omega)) a1
  · show ∃ j, _ ∧ Pg.more _ _ = _
    rcases a3 with e | e
    · exact ⟨j1, by omega, by rw [e, h3]⟩
    · exact ⟨i, .inr (by omega), e⟩
  · show _ ≤ Pg.more _ _
    by_cases e : j = i
    · subst e; exact b2
    · exact Rat.le_trans (h4 j (by omega)) b1
  · show ∃ j, _ ∧ Pg.more _ _ = _
    rcases b3 with e | e
    · exact ⟨j2, by omega, by rw [e, h6]⟩
    · exact ⟨i, .inr (by omega), e⟩
theorem Pg.getD_mem {L : List (Rat × Rat)} {i : Nat} (h : i < L.length) : L.getD i (0, 0) ∈ L := by
 rw [List.getD_eq_getElem?_getD, List.getElem?_eq_getElem h]; exact List.getElem_mem h
theorem Pg.mem_getD {L : List (Rat × Rat)} {a : Rat × Rat} (h : a ∈ L) : ∃ i, i < L.length ∧ L.getD i (0, 0) = a := by
 obtain ⟨i, hi, e⟩ := List.getElem_of_mem h
 exact ⟨i, hi, by rw [List.getD_eq_getElem?_getD, List.getElem?_eq_getElem hi, e]; rfl⟩
theorem Pg.box_spec {L : List (Rat × Rat)} (hn : 0 < L.length) : ((∀ a ∈ L, (Pg.box L).1.1 ≤ a.1 ∧ (Pg.box L).1.2 ≤ a.2 ∧ a.1 ≤ (Pg.box L).2.1 ∧ a.2 ≤ (Pg.box L).2.2) ∧
   (∃ a ∈ L, (Pg.box L).1.1 = a.1) ∧ (∃ a ∈ L, (Pg.box L).1.2 = a.2) ∧ (∃ a ∈ L, (Pg.box L).2.1 = a.1) ∧ ∃ a ∈ L, (Pg.box L).2.2 = a.2) := by
 have hb : Pg.box L = (Pg.lo L L.length, Pg.hi L L.length) := if_neg (by omega)
 rw [hb]
 obtain ⟨⟨h1, j1, g1, e1⟩, h2, j2, g2, e2⟩ := Pg.lo_spec L L.length
 obtain ⟨⟨h3, j3, g3, e3⟩, h4, j4, g4, e4⟩ := Pg.hi_spec L L.length
 refine ⟨fun a ha => ?_, ⟨_, Pg.getD_mem (by omega : j1 < L.length), e1⟩, ⟨_, Pg.getD_mem (by omega : j2 < L.length), e2⟩, ⟨_, Pg.getD_mem (by omega : j3 < L.length), e3⟩, _, Pg.getD_mem (by omega : j4 < L.length), e4⟩
 obtain ⟨i, hi, rfl⟩ := Pg.mem_getD ha
 exact ⟨h1 i hi, h2 i hi, h3 i hi, h4 i hi⟩
theorem Pg.box_same {L K : List (Rat × Rat)} (h : ∀ a, a ∈ L ↔ a ∈ K) : Pg.box L = Pg.box K := by
 by_cases hn : 0 < L.length
 · have hk : 0 < K.length := List.length_pos_of_mem ((h _).1 (List.getElem_mem hn))
   obtain ⟨h1, ⟨a1, m1, e1⟩, ⟨a2, m2, e2⟩, ⟨a3, m3, e3⟩, a4, m4, e4⟩ := Pg.box_spec hn
   obtain ⟨g1, ⟨b1, n1, f1⟩, ⟨b2, n2, f2⟩, ⟨b3, n3, f3⟩, b4, n4, f4⟩ := Pg.box_spec hk
   refine Prod.ext (Prod.ext ?_ ?_) (Prod.ext ?_ ?_)
   · exact Rat.le_antisymm (by rw [f1]; exact (h1 b1 ((h _).2 n1)).1) (by rw [e1]; exact (g1 a1 ((h _).1 m1)).1)
   · exact Rat.le_antisymm (by rw [f2]; exact (h1 b2 ((h _).2 n2)).2.1) (by rw [e2]; exact (g1 a2 ((h _).1 m2)).2.1)
   · exact Rat.le_antisymm (by rw [e3]; exact (g1 a3 ((h _).1 m3)).2.2.1) (by rw [f3]; exact (h1 b3 ((h _).2 n3)).2.2.1)
   · exact Rat.le_antisymm (by rw [e4]; exact (g1 a4 ((h _).1 m4)).2.2.2) (by rw [f4]; exact (h1 b4 ((h _).2 n4)).2.2.2)
 · have h0 : L = [] := List.length_eq_zero_iff.1 (by omega)
   subst h0
   rw [show K = [] from List.eq_nil_iff_forall_not_mem.2 fun a ha => by have := (h a).2 ha; simp at this]
/-- Beginning at the k-th corner. -/
def Pg.from_ (k : Nat) (L : List (Rat × Rat)) : List (Rat × Rat) := L.drop k ++ L.take k
theorem Pg.from_len {k : Nat} {L : List (Rat × Rat)} (h : k ≤ L.length) : (Pg.from_ k L).length = L.length := by unfold Pg.from_; rw [List.length_append, List.length_drop, List.length_take]; omega
theorem Pg.from_mem {k : Nat} {L : List (Rat × Rat)} (a) : a ∈ Pg.from_ k L ↔ a ∈ L := by
 unfold Pg.from_
 rw [List.mem_append, Or.comm, ← List.mem_append, List.take_append_drop]
theorem Pg.from_inv {α : Type} {F : List (Rat × Rat) → α} (hF : ∀ L, F (Pg.rot L) = F L) (L : List (Rat × Rat)) : ∀ k, k ≤ L.length → F (Pg.from_ k L) = F L
 | 0, _ => by unfold Pg.from_; simp
 | k + 1, h => by
  rw [← Pg.from_inv hF L k (by omega), ← hF (Pg.from_ k L)]
  congr 1
  unfold Pg.from_
  rw [List.drop_eq_getElem_cons (by omega : k < L.length), List.cons_append]
  show _ = (L.drop (k + 1) ++ L.take k) ++ [L[k]]
  rw [List.append_assoc, List.take_succ_eq_append_getElem (by omega : k < L.length)]
/-- Reversed. -/
def Pg.chn (a : Rat × Rat) (t : List (Rat × Rat)) (c : Rat × Rat) : List ((Rat × Rat) × (Rat × Rat)) := (a :: t).zip (t ++ [c])
theorem Pg.chn_snoc (a b c : Rat × Rat) (t : List (Rat × Rat)) : Pg.chn a (t ++ [b]) c = Pg.chn a t b ++ [(b, c)] := by
 unfold Pg.chn
 rw [← List.cons_append, List.zip_append (by simp)]
 rfl
theorem Pg.sum_rev {f : Rat × Rat → Rat × Rat → Rat} (hf : ∀ a b, f a b = - f b a) : ∀ (t : List (Rat × Rat)) (a c : Rat × Rat), Pg.sum f (Pg.chn c t.reverse a) = - Pg.sum f (Pg.chn a t c)
 | [], a, c => by show Pg.sum f [(c, a)] = - Pg.sum f [(a, c)]; rw [Pg.sum_cons, Pg.sum_cons, Pg.sum_nil]; have := hf a c; grind
 | b :: t, a, c => by
  rw [List.reverse_cons, Pg.chn_snoc, Pg.sum_snoc, Pg.sum_rev hf t b c]
  show _ = - Pg.sum f ((a, b) :: Pg.chn b t c)
  rw [Pg.sum_cons]
  have := hf a b
  grind
theorem Pg.sum_reverse {f : Rat × Rat → Rat × Rat → Rat} (hf : ∀ a b, f a b = - f b a) (L : List (Rat × Rat)) : Pg.sum f (Pg.sides L.reverse) = - Pg.sum f (Pg.sides L) := by
 cases L with
 | nil => show (0 : Rat) = - 0; grind
 | cons a t =>
   rw [List.reverse_cons, show t.reverse ++ [a] = Pg.rot (a :: t.reverse) from rfl, Pg.sum_rot]
   exact Pg.sum_rev hf t a a
theorem Pg.vcrs_odd (a b : Rat × Rat) : vcrs a b = - vcrs b a := by unfold vcrs; grind
theorem Pg.area_reverse (L : List (Rat × Rat)) : Pg.area L.reverse = - Pg.area L := by unfold Pg.area; rw [Pg.sum_reverse Pg.vcrs_odd]; grind
theorem Pg.div_neg (x y : Rat) : x / -y = -(x / y) := by
 by_cases h : y = 0
 · subst h; rw [show (-0 : Rat) = 0 by grind, Rat.div_def, Rat.inv_zero]; grind
 · grind
theorem Pg.center_reverse (L : List (Rat × Rat)) : Pg.center L.reverse = Pg.center L := by
 unfold Pg.center
 rw [Pg.sum_reverse Pg.fx_odd, Pg.sum_reverse Pg.fy_odd, Pg.sum_reverse Pg.vcrs_odd, Pg.div_neg]
 unfold vsca
 refine Prod.ext ?_ ?_ <;> grind
theorem Pg.valid_reverse {L : List (Rat × Rat)} (h : Pg.valid L = true) : Pg.valid L.reverse = false := by
 cases g : Pg.valid L.reverse with
 | false => rfl
 | true =>
   have h1 := ((valid_iff _).1 h).2.2.2.2
   have h2 := ((valid_iff _).1 g).2.2.2.2
   rw [Pg.area_reverse] at h2
   grind
end Go.Proofs.YtcfejkpadcccbaaGreat
