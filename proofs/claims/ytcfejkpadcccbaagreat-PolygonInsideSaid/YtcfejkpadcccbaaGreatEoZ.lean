/-
 THE REFERENCE'S Spoilt, by the engine (lists of a vector at least).
-/
import Derived.Test.YtcfejkpadcccbaaGreatEoC
import Derived.Test.YtcfejkpadcccbaaGreatWalkPgI
import Derived.Test.YtcfejkpadcccbaaGreatEmY
import Derived.Test.YtcfejkpadcccbaaGreatPgZ
namespace Go.Proofs.YtcfejkpadcccbaaGreat.E
open Go.RowKit
set_option linter.unusedVariables false
section
variable {L : List (Rat × Rat)} {k : Nat} {p : Rat × Rat}
noncomputable abbrev fha : Func := fnOf PP 30
noncomputable def haH (p : Rat × Rat) (s : Int) : List HO := [.bx 35 (dV p), .bx 3 [ni 0], .bx 3 [ni s]]
noncomputable def haS (L : List (Rat × Rat)) : List V := (at_ fha [(3, .lp 0 0), (4, .lp 1 0), (5, .lp 2 0), (10, .cl 104 [.ip [dL L]])] []).t
noncomputable def haA (L : List (Rat × Rat)) (i : Nat) : List V := (at_ fha [(3, .lp 0 0), (4, .lp 1 0), (5, .lp 2 0), (6, .ip (dV (L.getD i (0, 0)))), (7, .ip (dV (L.getD ((i + 1) % L.length) (0, 0)))), (10, .cl 104 [.ip [dL L]]), (11, .ag (dV (L.getD i (0, 0)))), (12, .ag (dV (L.getD ((i + 1) % L.length) (0, 0))))] []).t
theorem has_end (s : Int) (hs : Pg.has L p = s) : Gd PP 30 (ni (Pg.has L p)) (rf fha).2.2.2.2 ⟨haS L, haH p s⟩ := by
 rw [hs]
 exact fi [] (by kernel_rfl) (by kernel_rfl)
set_option maxRecDepth 10000 in
theorem e_has (hb : ∀ a ∈ L, Bv k a) (hbp : Bv k p) (hn : L.length ≤ 100) (hk : k ≤ 100000000) : Pure PP 30 [dL L, .ag (dV p)] (ni (Pg.has L p)) := by
 let at2 : Fin L.length → (Rat × Rat) × (Rat × Rat) := fun x => Pg.at_ L L.length x.1
 let si : List (Fin L.length) → Int := fun pre => Pg.ins p (pre.map at2)
 refine pf (by kernel_rfl) (.to mo_ [] [3, 4, 5, 10] [0, 1, 2] 3 [cl (e_sides L)] (td' := rfI fha) (σ' := ⟨haS L, haH p (-1)⟩) ?_ (by kernel_rfl))
 refine Gd.range mo_ (fn_of (f := 30) (by kernel_rfl)).1 (k := (rf fha).2.2.2.2) (σ := ⟨haS L, haH p (-1)⟩) (gf := 104) (caps := [.ip [dL L]]) (by kernel_rfl) (it_sides (L := L) (by omega)) (fun x => by kernel_rfl)
  (fun pre => haH p (si pre)) rfl (fun pre => ⟨rfl, fun b => ?_⟩) (fun x => haA L x.1) (fun x => by kernel_rfl) (fun pre x => .of [.fz 6, .fz 7] [] (by kernel_rfl)) (fun pre => ∀ x ∈ pre, Pg.on (at2 x).1 (at2 x).2 p = false) (fun _ h => by cases h)
  (fun e h' => e = .ret ∧ (∃ s, h' = haH p s) ∧ Pg.has L p = 0) ?hX (fun pre x hlt hj => ?_) (fun xs hS hj => ?_) ?hret (fun _ _ h => by cases h.1)
 case hX =>
  rintro e h' ⟨rfl, ⟨s, rfl⟩, h0⟩
  refine ⟨.inl rfl, rfl, fun b => ?_⟩
  match b with
  | 0 => rfl
  | 1 => rfl
  | 2 => rfl
  | b + 3 => rfl
 case hret =>
  rintro h' ⟨_, ⟨s, rfl⟩, h0⟩
  rw [h0]
  kernel_rfl
 · match b with
   | 0 => rfl
   | 1 => rfl
   | 2 => rfl
   | b + 3 => rfl
 · have hx := x.2
   have c1 := sel_bits hb hx
   have c2 := sel_bits hb (Nat.mod_lt (x.1 + 1) (show 0 < L.length by omega))
   have hsn : si (pre ++ [x]) = if Pg.up (L.getD x.1 (0, 0)) (L.getD ((x.1 + 1) % L.length) (0, 0)) p then -si pre else si pre := by
    simp only [si, List.map_append, List.map_cons, List.map_nil, Pg.ins_snoc, at2, Pg.at_]
   have hcs : si pre = 1 ∨ si pre = -1 := Pg.ins_cases _ _
   have hat : at2 x = (L.getD x.1 (0, 0), L.getD ((x.1 + 1) % L.length) (0, 0)) := rfl
   have hmem : at2 x ∈ Pg.sides L := by
    rw [← Pg.at_all L _ rfl]
    exact List.mem_map.2 ⟨x, List.mem_finRange x, rfl⟩
   show (_ ∧ ∃ t', Rn PP 3 _ ⟨haA L x.1, haH p (si pre)⟩ .normal ⟨t', haH p (si (pre ++ [x]))⟩) ∨ _
   have o1 := e_on c1 c2 hbp (by omega)
   have q1 := e_rcmp c2.2 hbp.2 (by omega)
   have q2 := e_rcmp c1.2 hbp.2 (by omega)
   have q3 := e_side c1 c2 hbp (by omega)
   by_cases hon : Pg.on (L.getD x.1 (0, 0)) (L.getD ((x.1 + 1) % L.length) (0, 0)) p = true
   · refine .inr ?_
    
     have h0 : Pg.has L p = 0 := by
      unfold Pg.has
      rw [if_pos (List.any_eq_true.2 ⟨at2 x, hmem, hon⟩)]
     obtain ⟨t', ht⟩ : ∃ t', Rn PP 3 (rf fha).2.2.2.1 ⟨haA L x.1, haH p (si pre)⟩ .ret ⟨t', haH p (si pre)⟩ := Rn.ofH [] [cl o1, ye hon] (by kernel_rfl)
     exact ⟨.ret, _, t', ⟨rfl, ⟨_, rfl⟩, h0⟩, ht⟩
   · have hon : Pg.on (L.getD x.1 (0, 0)) (L.getD ((x.1 + 1) % L.length) (0, 0)) p = false := by simpa using hon
     refine .inl ⟨fun y hy => ?_, ?_⟩
     · rcases List.mem_append.1 hy with h | h
       · exact hj y h
       · rw [List.mem_singleton.1 h]; exact hon
     · rw [hsn]
       generalize si pre = s at hcs
       generalize L.getD x.1 (0, 0) = A at *
       generalize L.getD ((x.1 + 1) % L.length) (0, 0) = B at *
       let F0 : List F_ := [cl o1, na hon, cl q1, cl q2]
       by_cases h1 : (decide (0 < cmpQ B.2 p.2) != decide (0 < cmpQ A.2 p.2)) = true
       · by_cases h2 : (decide (0 < Go.Proofs.YtcfejkpadcccbaaGreat.vside A B p) == decide (0 < cmpQ B.2 p.2)) = true
         · rw [show Pg.up A B p = true by unfold Pg.up; rw [h1, h2]; rfl, if_pos rfl]
           exact Rn.ofH [] (F0 ++ [ye h1, cl q3, ye h2, wq 41 (0 - s) (-s) (by omega)]) (by kernel_rfl)
         · have h2 := Bool.eq_false_iff.2 h2
           rw [show Pg.up A B p = false by unfold Pg.up; rw [h1, h2]; rfl, if_neg (by decide)]
           exact Rn.ofH [] (F0 ++ [ye h1, cl q3, na h2]) (by kernel_rfl)
       · have h1 := Bool.eq_false_iff.2 h1
         rw [show Pg.up A B p = false by unfold Pg.up; rw [h1]; rfl, if_neg (by decide)]
         exact Rn.ofH [] (F0 ++ [na h1, nf]) (by kernel_rfl)
 · subst hS
   have e1 : si (List.finRange L.length) = Pg.ins p (Pg.sides L) := by simp only [si, at2]; rw [Pg.at_all L _ rfl]
   have h0 : Pg.has L p = Pg.ins p (Pg.sides L) := by
    unfold Pg.has
    rw [if_neg]
    intro g
    obtain ⟨x, hx, hx2⟩ := List.any_eq_true.1 g
    rw [← Pg.at_all L _ rfl] at hx
    obtain ⟨y, hy, rfl⟩ := List.mem_map.1 hx
    have := hj y (List.mem_finRange y)
    rw [show at2 y = Pg.at_ L L.length y.1 from rfl] at this
    rw [this] at hx2
    cases hx2
   rw [← e1] at h0
   revert h0
   simp only
   generalize si (List.finRange L.length) = s
   intro h0
   exact has_end s h0
end
end Go.Proofs.YtcfejkpadcccbaaGreat.E
namespace Go.Proofs.YtcfejkpadcccbaaGreat.E
open Go.RowKit
set_option linter.unusedVariables false
section
variable {L : List (Rat × Rat)} {k m : Nat}
/-- The corner that comes at a number. -/
theorem e_vcor (hm : L.length = m + 1) (i : Nat) : Pure PP 54 [ni i, .ip [dL L], .ip [ni ((m + 1 : Nat) : Int)]] (.ag (dV (Pg.cor L i))) :=
 tr [rem_ 8 i m hm, .sel _ _ _ (elc (L := L) (by omega) i)] (by kernel_rfl)
noncomputable abbrev fva : Func := fnOf PP 14
/-- The boxes of the row and of its length, ahead of the corners' first call and behind it. -/
noncomputable def vaH (L : List (Rat × Rat)) (m : Nat) : Bool → List HO
 | false => [.bx 23 [dL L], .bx 3 [ni ((m + 1 : Nat) : Int)]]
 | true => [.fz (.ip [dL L]), .fz (.ip [ni ((m + 1 : Nat) : Int)])]
noncomputable def vaX (L : List (Rat × Rat)) (m i : Nat) (b : Bool) : St := at_ fva [(1, .lp 0 0), (3, .lp 1 0), (6, .cl 54 [.lp 0 0, .lp 1 0]), (35, ni ((m + 1 : Nat) : Int)), (36, ni i)] (vaH L m b)
/-- A round of the loop, to its inner loop: from both states. -/
theorem va_round (hm : L.length = m + 1) (hb : ∀ a ∈ L, Bv k a) (hn : L.length ≤ 12) (hk : k ≤ 10000) (b : Bool) {i : Nat} (hi : i < L.length) (hf : Go.Proofs.YtcfejkpadcccbaaGreat.vside (Pg.cor L i) (Pg.cor L (i + 1)) (Pg.cor L (i + 2)) ≠ 0) {D : RD}
  (h : Gd PP 14 D (lp fva 2) (at_ fva [(1, .lp 0 0), (3, .lp 1 0), (6, .cl 54 [.lp 0 0, .lp 1 0]), (7, ni i), (8, ni ((i + 2 : Nat) : Int)), (35, ni ((m + 1 : Nat) : Int)), (36, ni i)] (vaH L m true))) :
  Gd PP 14 D (lp fva 1) (vaX L m i b) := by
 have c0 := e_vcor hm i
 have c1 := e_vcor hm (i + 1)
 have c2 := e_vcor hm (i + 2)
 have b0 := bco hb (by omega) i
 have b1 := bco hb (by omega) (i + 1)
 have b2 := bco hb (by omega) (i + 2)
 have sd := e_side b0 b1 b2 (by omega)
 cases b <;> exact .to mo_ [] [1, 3, 6, 7, 8, 35, 36] [0, 1] 2 [ye (t := decide ((i : Int) < ((m + 1 : Nat) : Int))) (decide_eq_true (by omega)), cl c0, inc 44 i (by omega), cl c1, inc2 48 i (by omega), cl c2, cl sd, na (t := Go.Proofs.YtcfejkpadcccbaaGreat.vside (Pg.cor L i) (Pg.cor L (i + 1)) (Pg.cor L (i + 2)) == 0) (by simpa using hf), inc2 53 i (by omega)] h (by kernel_rfl)
def bi : Nat → Bool
 | 0 => false
 | _ + 1 => true
noncomputable def vaY (L : List (Rat × Rat)) (m i j : Nat) : St := at_ fva [(1, .lp 0 0), (3, .lp 1 0), (6, .cl 54 [.lp 0 0, .lp 1 0]), (7, ni i), (8, ni j), (35, ni ((m + 1 : Nat) : Int)), (36, ni i)] (vaH L m true)
theorem va_bad {i t : Nat} (h : Pg.bad L i = true) (hi : i < L.length) : Pg.valid L = false := by
 unfold Pg.valid
 rw [any_true hi h]; simp
/-- The inner loop. -/
theorem va_inner (hm : L.length = m + 1) (hb : ∀ a ∈ L, Bv k a) (hn : L.length ≤ 12) (hk : k ≤ 10000) {i : Nat} (hi : i < L.length) (hfl : Pg.flatp L i = false)
  (h : Pg.bad L i = false → Gd PP 14 (bo (Pg.valid L)) (lp fva 1) (vaX L m (i + 1) true)) :
  ∀ j, (∀ t, t < j → (decide (i + 2 ≤ t) && Pg.q L i t) = false) ∧ j ≤ L.length + 2 ∧ i + 2 ≤ j → Gd PP 14 (bo (Pg.valid L)) (lp fva 2) (vaY L m i j) := by
 refine Gd.loop (vaY L m i) _ (fun j => L.length + 3 - j) ?_
 rintro j ⟨hq, hj, hij⟩ ih
 by_cases hlt : j < L.length
 · have c0 := e_vcor hm i
   have c1 := e_vcor hm (i + 1)
   have c2 := e_vcor hm j
   have c3 := e_vcor hm (j + 1)
   have b0 := bco hb (by omega) i
   have b1 := bco hb (by omega) (i + 1)
   have b2 := bco hb (by omega) j
   have b3 := bco hb (by omega) (j + 1)
   have me := e_meets b0 b1 b2 b3 (by omega)
   let F0 : List F_ := [ye (t := decide ((j : Int) < ((m + 1 : Nat) : Int))) (decide_eq_true (by omega)), inc 60 j (by omega), rem_ 62 (j + 1) m hm]
   let F1 : List F_ := [cl c0, inc 71 i (by omega), cl c1, cl c2, inc 78 j (by omega), cl c3, cl me]
   have next : Pg.q L i j = false → Gd PP 14 (bo (Pg.valid L)) (lp fva 2) (vaY L m i (j + 1)) := fun hqj =>
    ih (j + 1) ⟨fun t ht => by
     by_cases e : t = j
     · subst e; rw [hqj]; simp
     · exact hq t (by omega), by omega, by omega⟩ (by omega)
   by_cases hne : (((j + 1) % L.length : Nat) : Int) != (i : Int)
   · by_cases hmt : Pg.meets (Pg.cor L i) (Pg.cor L (i + 1)) (Pg.cor L j) (Pg.cor L (j + 1)) = true
     · rw [va_bad (i := i) (t := 0) (by
        unfold Pg.bad
        rw [any_true hlt (by unfold Pg.q; rw [hne, hmt]; simp; omega)]; simp) hi]
       exact fi (F0 ++ [ye hne] ++ F1 ++ [ye hmt]) (by kernel_rfl) (by kernel_rfl)
     · have hmt := Bool.eq_false_iff.2 hmt
       exact .to mo_ [] [1, 3, 6, 7, 8, 35, 36] [0, 1] 2 (F0 ++ [ye hne] ++ F1 ++ [na hmt, inc 58 j (by omega)]) (next (by unfold Pg.q; rw [hmt]; simp)) (by kernel_rfl)
   · have hne := Bool.eq_false_iff.2 hne
     exact .to mo_ [] [1, 3, 6, 7, 8, 35, 36] [0, 1] 2 (F0 ++ [na hne, nf, inc 58 j (by omega)]) (next (by unfold Pg.q; rw [hne]; simp)) (by kernel_rfl)
 · exact .to mo_ [] [1, 3, 6, 35, 36] [0, 1] 2 [na (t := decide ((j : Int) < ((m + 1 : Nat) : Int))) (decide_eq_false (by omega)), inc 82 i (by omega)] (h (by
    unfold Pg.bad
    rw [hfl, any_false fun t ht => hq t (by omega)]; rfl)) (by kernel_rfl)
theorem va_outer (hm : L.length = m + 1) (hb : ∀ a ∈ L, Bv k a) (hn : 3 ≤ L.length ∧ L.length ≤ 12) (hk : k ≤ 10000) :
  ∀ i, i ≤ L.length ∧ (∀ t, t < i → Pg.bad L t = false) → Gd PP 14 (bo (Pg.valid L)) (lp fva 1) (vaX L m i (bi i)) := by
 refine Gd.loop (fun i => vaX L m i (bi i)) _ (fun i => L.length - i) ?_
 rintro i ⟨hi, hI⟩ ih
 by_cases h : i < L.length
 · cases hf : Pg.flatp L i with
   | true =>
     rw [va_bad (i := i) (t := 0) (by unfold Pg.bad; rw [hf]; rfl) h]
     have c0 := e_vcor hm i
     have c1 := e_vcor hm (i + 1)
     have c2 := e_vcor hm (i + 2)
     have sd := e_side (bco hb (by omega) i) (bco hb (by omega) (i + 1)) (bco hb (by omega) (i + 2)) (by omega)
     generalize bi i = bb
     cases bb <;> exact fi [ye (t := decide ((i : Int) < ((m + 1 : Nat) : Int))) (decide_eq_true (by omega)), cl c0, inc 44 i (by omega), cl c1, inc2 48 i (by omega), cl c2, cl sd, ye (t := Go.Proofs.YtcfejkpadcccbaaGreat.vside (Pg.cor L i) (Pg.cor L (i + 1)) (Pg.cor L (i + 2)) == 0) hf] (by kernel_rfl) (by kernel_rfl)
   | false =>
     refine va_round hm hb hn.2 hk _ h (by unfold Pg.flatp at hf; simpa using hf) (va_inner hm hb hn.2 hk h hf (fun hbad => ih (i + 1) ⟨h, fun t ht => ?_⟩ (by omega)) (i + 2) ⟨fun t ht => by
      rw [show decide (i + 2 ≤ t) = false from decide_eq_false (by omega)]; rfl, by omega, Nat.le_refl _⟩)
     by_cases e : t = i
     · subst e; exact hbad
     · exact hI t (by omega)
 · have hv : Pg.valid L = decide (0 < sgnZ (Pg.area L).num) := by
    unfold Pg.valid
    rw [any_false fun t ht => hI t (by omega), decide_eq_true hn.1, decide_eq_true hn.2]; rfl
   rw [hv]
   have ha := e_area hb (by omega) (by
    have := Nat.mul_le_mul (show 20 * k + 100 ≤ 200100 by omega) (show L.length + 2 ≤ 14 by omega)
    omega)
   obtain ⟨i', rfl⟩ : ∃ q, i = q + 1 := ⟨i - 1, by omega⟩
   exact fi [na (t := decide (((i' + 1 : Nat) : Int) < ((m + 1 : Nat) : Int))) (decide_eq_false (by omega)), cl ha, cl (e_rsign (Pg.area L))] (by kernel_rfl) (by kernel_rfl)
theorem va_rats (hm : L.length = m + 1) (hb : ∀ a ∈ L, Bv k a) (hn : 3 ≤ L.length ∧ L.length ≤ 12) (hk : k ≤ 10000) :
  ∀ i, i ≤ L.length → Gd PP 14 (bo (Pg.valid L)) (lp fva 0) (at_ fva [(1, .lp 0 0), (3, .lp 1 0), (17, dL L), (18, ni ((L.map dV).length : Int)), (19, ni i)] (vaH L m false)) := by
 refine Gd.loop (fun i : Nat => at_ fva [(1, .lp 0 0), (3, .lp 1 0), (17, dL L), (18, ni ((L.map dV).length : Int)), (19, ni i)] (vaH L m false)) _ (fun i => L.length - i) ?_
 intro i hi ih
 by_cases h : i < L.length
 · have b := bel hb h
   exact .to mo_ [] [1, 3, 17, 18, 19] [0, 1] 2 [ye (t := il_ i L) (il_t h), .sel _ _ _ (el h), cl (e_rvalid b.1 (by omega)), nf, cl (e_rvalid b.2 (by omega)), nf, inc 33 i (by omega)] (ih (i + 1) h (by omega)) (by kernel_rfl)
 · exact .to mo_ [] [1, 3, 6, 35, 36] [0, 1] 2 [na (t := il_ i L) (il_f h)] (va_outer hm hb hn hk 0 ⟨Nat.zero_le _, fun t ht => absurd ht (Nat.not_lt_zero t)⟩) (by kernel_rfl)
theorem e_valid (hb : ∀ a ∈ L, Bv k a) (hn : L.length ≤ 100) (hk : k ≤ 10000) : Pure PP 14 [dL L] (bo (Pg.valid L)) := by
 cases hc : L with
 | nil =>
   rw [show Pg.valid [] = false from rfl]
   exact tr [yt, yt] (by kernel_rfl)
 | cons a r =>
   rw [← hc]
   obtain ⟨m, hm⟩ : ∃ m, L.length = m + 1 := ⟨r.length, by rw [hc]; rfl⟩
   by_cases h3 : L.length < 3
   · rw [show Pg.valid L = false by unfold Pg.valid; rw [decide_eq_false (by omega)]; rfl]
     exact tr [le_ 10 m hm, ye (t := decide (((m + 1 : Nat) : Int) < 3)) (decide_eq_true (by omega)), yt] (by kernel_rfl)
   · by_cases h12 : L.length ≤ 12
     · exact pf (by kernel_rfl) (.to mo_ [] [1, 3, 17, 18, 19] [0, 1] 2 [le_ 10 m hm, na (t := decide (((m + 1 : Nat) : Int) < 3)) (decide_eq_false (by omega)), na (t := decide (((m + 1 : Nat) : Int) > 12)) (decide_eq_false (by omega))] (va_rats hm hb ⟨by omega, h12⟩ hk 0 (Nat.zero_le _)) (by kernel_rfl))
     · rw [show Pg.valid L = false by unfold Pg.valid; rw [decide_eq_false h12]; simp]
       exact tr [le_ 10 m hm, na (t := decide (((m + 1 : Nat) : Int) < 3)) (decide_eq_false (by omega)), ye (t := decide (((m + 1 : Nat) : Int) > 12)) (decide_eq_true (by omega))] (by kernel_rfl)
end
end Go.Proofs.YtcfejkpadcccbaaGreat.E
namespace Go.Proofs.YtcfejkpadcccbaaGreat.E
open Go.RowKit
set_option linter.unusedVariables false
section
variable {k i : Nat} {L : List (Rat × Rat)} {l m : List Int}
theorem e_convex (hb : ∀ a ∈ L, Bv k a) (hn : L.length ≤ 100) (hk : k ≤ 10000) : Pure PP 16 [dL L] (bo (Pg.convex L)) := by
 have hv := e_valid hb hn hk
 cases g : Pg.valid L with
 | false =>
   rw [show Pg.convex L = false by unfold Pg.convex; rw [g]; rfl]
   rw [g] at hv
   exact tr [cl hv, yt] (by kernel_rfl)
 | true =>
   rw [g] at hv
   have h3 := valid_three g
   obtain ⟨m, hm⟩ : ∃ m, L.length = m + 1 := ⟨L.length - 1, by omega⟩
   let X : Nat → St := fun i => at_ (fnOf PP 16) [(0, dL L), (8, ni (L.map dV).length), (9, ni i)] []
   refine pf (by kernel_rfl) (.to mo_ [] [0, 8, 9] [] 0 [cl hv, nf] (td' := lp (fnOf PP 16) 0) (σ' := X 0) ?_ (by kernel_rfl))
   refine Gd.loop X (fun i => i ≤ L.length ∧ ∀ t, t < i → Pg.dent L t = false) (fun i => L.length - i) ?_ _ ⟨Nat.zero_le _, fun t ht => absurd ht (Nat.not_lt_zero t)⟩
   rintro i ⟨hi, hI⟩ ih
   by_cases h : i < L.length
   · let F : List F_ := [ye (t := il_ i L) (il_t h), .sel _ _ _ (el h), inc 18 i (by omega), le_ 20 m hm, rem_ 21 (i + 1) m hm, .sel _ _ _ (elc (L := L) (by omega) (i + 1)), inc2 26 i (by omega), le_ 28 m hm, rem_ 29 (i + 2) m hm, .sel _ _ _ (elc (L := L) (by omega) (i + 2)), cl (e_side (bel hb h) (bco hb (by omega) (i + 1)) (bco hb (by omega) (i + 2)) (by omega))]
     cases hd : Pg.dent L i with
     | true =>
       rw [show Pg.convex L = false by unfold Pg.convex; rw [any_true h hd]; simp]
       exact fi (F ++ [ye (t := Pg.dent L i) hd]) (by kernel_rfl) (by kernel_rfl)
     | false => exact .to mo_ [] [0, 8, 9] [] 0 (F ++ [na (t := Pg.dent L i) hd, inc 34 i (by omega)]) (ih (i + 1) ⟨h, fun t ht => by
         by_cases e : t = i
         · subst e; exact hd
         · exact hI t (by omega)⟩ (by omega)) (by kernel_rfl)
   · rw [show Pg.convex L = true by unfold Pg.convex; rw [g, any_false fun t ht => hI t (by omega)]; rfl]
     exact fi [na (t := il_ i L) (il_f h)] (by kernel_rfl) (by kernel_rfl)
/-- The points of spots, as they are laid. -/
def sps (p q c : Rat × Rat) (L : List (Rat × Rat)) : Nat → List (Rat × Rat)
 | 0 => [p, q, c]
 | i + 1 => sps p q c L i ++ [L.getD i (0, 0), Pg.mid (L.getD i (0, 0)) (Pg.cor L (i + 1)), Pg.mid (Pg.mid (L.getD i (0, 0)) (Pg.cor L (i + 1))) p, (q.1, (L.getD i (0, 0)).2), ((L.getD i (0, 0)).1, q.2)]
theorem sps_len (p q c : Rat × Rat) (L : List (Rat × Rat)) : ∀ i, (sps p q c L i).length = 3 + 5 * i
 | 0 => rfl
 | i + 1 => by
  unfold sps
  rw [List.length_append, sps_len p q c L i]
  simp only [List.length_cons, List.length_nil]
  omega
theorem sps_0 (p q c : Rat × Rat) (L : List (Rat × Rat)) : ∀ i, (sps p q c L i)[0]? = some p ∧ (sps p q c L i)[1]? = some q
 | 0 => ⟨rfl, rfl⟩
 | i + 1 => by
  unfold sps
  have := sps_len p q c L i
  rw [List.getElem?_append_left (by omega), List.getElem?_append_left (by omega)]
  exact sps_0 p q c L i
theorem mid_bv {j k : Nat} {v u : Rat × Rat} (h : Bv j v) (g : Bv k u) : Bv (j + k + 3) (Pg.mid v u) := ((h.add g).sca half_bits).mono (by omega)
theorem sps_bits {p q c : Rat × Rat} (hb : ∀ a ∈ L, Bv k a) (hp : Bv 7 p) (hq : Bv 7 q) {K : Nat} (hc : Bv K c) (hK : 2 * k + 20 ≤ K) : ∀ i, i ≤ L.length → ∀ a ∈ sps p q c L i, Bv K a
 | 0, _ => fun a h => by
  simp only [sps, List.mem_cons, List.not_mem_nil, or_false] at h
  rcases h with rfl | rfl | rfl
  · exact hp.mono (by omega)
  · exact hq.mono (by omega)
  · exact hc
 | i + 1, hi => fun a h => by
  unfold sps at h
  have h1 := bel hb (show i < L.length by omega)
  have h2 := bco hb (by omega) (i + 1)
  rw [List.mem_append] at h
  rcases h with h | h
  · exact sps_bits hb hp hq hc hK i (by omega) a h
  · simp only [List.mem_cons, List.not_mem_nil, or_false] at h
    rcases h with rfl | rfl | rfl | rfl | rfl
    · exact h1.mono (by omega)
    · exact (mid_bv h1 h2).mono (by omega)
    · exact (mid_bv (mid_bv h1 h2) hp).mono (by omega)
    · exact ⟨hq.1.mono (by omega), h1.2.mono (by omega)⟩
    · exact ⟨h1.1.mono (by omega), hq.2.mono (by omega)⟩
def spsL (L : List (Rat × Rat)) (m : List Int) : List (Rat × Rat) := sps (spot m 0) (spot m 3) (Pg.center L) L L.length
theorem cen_bits (hb : ∀ a ∈ L, Bv k a) (hn : L.length ≤ 100) : Bv ((6 * k + 3) * 100 + 1 + (2 + ((4 * k + 2) * 100 + 1))) (Pg.center L) := by
 have h1 := pre_bits (n := L.length) (fun a b ha hb => (fx_bits (k := k) ha hb).1) rfl hb (List.finRange _) (by rw [List.length_finRange]; exact hn)
 have h2 := pre_bits (n := L.length) (fun a b ha hb => (fx_bits (k := k) ha hb).2) rfl hb (List.finRange _) (by rw [List.length_finRange]; exact hn)
 have h3 := pre_bits (n := L.length) (fun a b ha hb => crs_bits (k := k) ha hb) rfl hb (List.finRange _) (by rw [List.length_finRange]; exact hn)
 rw [Pg.at_all L _ rfl] at h1 h2 h3
 exact Bv.sca (v := (Pg.sum Pg.fx (Pg.sides L), Pg.sum Pg.fy (Pg.sides L))) ⟨h1, h2⟩ (third_bits.div h3 (by omega))
theorem spsL_bits (m : List Int) (hb : ∀ a ∈ L, Bv k a) (hn : L.length ≤ 100) : ∀ a ∈ spsL L m, Bv (1010 * k + 1000) a :=
 sps_bits hb (spot_bits m 0) (spot_bits m 3) ((cen_bits hb hn).mono (by omega)) (by omega) _ (Nat.le_refl _)
theorem e_spots (hb : ∀ a ∈ L, Bv k a) (hn : L.length ≤ 12) (hk : k ≤ 10000) (hm : ∀ x ∈ m, W.Is64 x) : Pure PP 29 [dL L, zl m] (dL (spsL L m)) := by
 have hp := spot_bits m 0
 have hq := spot_bits m 3
 let S : Nat → List (Rat × Rat) := sps (spot m 0) (spot m 3) (Pg.center L) L
 let X : Nat → St := fun i => at_ (fnOf PP 29) [(0, dL L), (5, .ow 0), (6, ni i)] [.rw 35 8 ((S i).map dV)]
 refine pf (by kernel_rfl) (.to mo_ [] [0, 5, 6] [0] 1 [cl (e_spot hm 0 (by omega)), cl (e_spot hm 3 (by omega)), cl (e_center6 hb (by omega) hk)] (td' := lp (fnOf PP 29) 0) (σ' := X 0) ?_ (by kernel_rfl))
 refine Gd.loop X (fun i => i ≤ L.length) (fun i => L.length - i) ?_ _ (Nat.zero_le _)
 intro i hi ih
 by_cases h : i < L.length
 · have ba := bel hb h
   have bb := bco hb (by omega) (i + 1)
   have s0 : ((S i).map dV)[0]? = some (dV (spot m 0)) := sel_map (sps_0 _ _ _ _ i).1
   have s1 : ((S i).map dV)[1]? = some (dV (spot m 3)) := sel_map (sps_0 _ _ _ _ i).2
   have hl := sps_len (spot m 0) (spot m 3) (Pg.center L) L i
   exact .to mo_ [.mv 0 3] [0, 5, 6] [0] 1 [ye (t := il_ i L) (il_t h), .sel _ _ _ (el h), cl (e_next h (by omega)), cl (e_mid ba bb (by omega)), .sel _ _ _ (el h), .sel _ _ _ s0, .sel _ _ _ s0, cl (e_mid (mid_bv ba bb) hp (by omega)), .sel _ _ _ s1, .sel _ _ _ s1, .sel _ _ _ (el h), .sel _ _ _ (el h), .sel _ _ _ s1, .sel _ _ _ s1,
      .app ((S i).map dV) [dV (L.getD i (0, 0)), dV (Pg.mid (L.getD i (0, 0)) (Pg.cor L (i + 1))), dV (Pg.mid (Pg.mid (L.getD i (0, 0)) (Pg.cor L (i + 1))) (spot m 0)), dV ((spot m 3).1, (L.getD i (0, 0)).2), dV ((L.getD i (0, 0)).1, (spot m 3).2)] ((S (i + 1)).map dV) 100 (by show _ = ((sps _ _ _ _ i) ++ _).map dV; rw [List.map_append]; rfl) (by simp) (by rw [List.length_map]; show (sps _ _ _ _ (i + 1)).length ≤ _; rw [sps_len]; omega), inc 20 i (by omega)]
    (ih (i + 1) h (by omega)) (by kernel_rfl)
 · rw [show spsL L m = S i by rw [show i = L.length by omega]; rfl]
   exact fi [na (t := il_ i L) (il_f h)] (by kernel_rfl) (by kernel_rfl)
/-- The first vectors of pairs of numbers. -/
def ofK (l : List Int) (k : Nat) : List (Rat × Rat) := (List.range k).map fun j => (Rat.divInt (l.getD (2 * j) 0) 1, Rat.divInt (l.getD (2 * j + 1) 0) 1)
theorem ofK_step (l : List Int) {i : Nat} (h : i % 2 = 0) : ofK l ((i + 2) / 2) = ofK l (i / 2) ++ [(Rat.divInt (l.getD i 0) 1, Rat.divInt (l.getD (i + 1) 0) 1)] := by
 unfold ofK
 rw [show (i + 2) / 2 = i / 2 + 1 by omega, List.range_succ, List.map_append, List.map_cons, List.map_nil, show 2 * (i / 2) = i by omega]
theorem ofK_len (l : List Int) (k : Nat) : (ofK l k).length = k := by simp [ofK]
theorem e_lof (hl : ∀ x ∈ l, W.Is64 x) (hn : l.length ≤ 100) : Pure PP 59 [zl l] (dL (ofK l (l.length / 2))) := by
 let X : Nat → St := fun i => at_ (fnOf PP 59) [(0, zl l), (3, .ow 0), (4, ni i)] [.rw 35 8 ((ofK l (i / 2)).map dV)]
 refine pf (by kernel_rfl) (.to mo_ [.ow 3 (.rw 35 8 [])] [0, 3, 4] [0] 1 [] (td' := lp (fnOf PP 59) 0) (σ' := X 0) ?_ (by kernel_rfl))
 refine Gd.loop X (fun i => i % 2 = 0 ∧ i ≤ l.length) (fun i => l.length - i) ?_ _ ⟨rfl, Nat.zero_le _⟩
 rintro i ⟨h2, hi⟩ ih
 have hx : ∀ i, i < l.length → W.Is64 (l.getD i 0) := fun i hi => hl _ (List.mem_of_getElem? (num_el hi))
 by_cases h : i + 1 < l.length
 · have hk := ofK_len l (i / 2)
   exact .to mo_ [.mv 0 2] [0, 3, 4] [0] 1 [inc 6 i (by omega), ye (t := decide (((i + 1 : Nat) : Int) < ((zs l).length : Int))) (decide_eq_true (by rw [zs_len]; omega)), .sel (zs l) i _ (zs_at (num_el (by omega))), inc 19 i (by omega), .sel (zs l) (i + 1) _ (zs_at (num_el h)), cl (e_vof (hx i (by omega)) (hx (i + 1) h)),
     .app ((ofK l (i / 2)).map dV) [dV (Rat.divInt (l.getD i 0) 1, Rat.divInt (l.getD (i + 1) 0) 1)] ((ofK l ((i + 2) / 2)).map dV) 100 (by rw [ofK_step l h2, List.map_append]; rfl) (by simp) (by rw [List.length_map, ofK_len]; omega), inc2 11 i (by omega)]
    (ih (i + 2) ⟨by omega, by omega⟩ (by omega)) (by kernel_rfl)
 · rw [show l.length / 2 = i / 2 by omega]
   exact fi [inc 6 i (by omega), na (t := decide (((i + 1 : Nat) : Int) < ((zs l).length : Int))) (decide_eq_false (by rw [zs_len]; omega))] (by kernel_rfl) (by kernel_rfl)
end
end Go.Proofs.YtcfejkpadcccbaaGreat.E
namespace Go.Proofs.YtcfejkpadcccbaaGreat.E
open Go.RowKit
set_option linter.unusedVariables false
def square : List (Rat × Rat) := [(0, 0), (4, 0), (4, 4), (0, 4)]
def angle : List (Rat × Rat) := [(0, 0), (4, 0), (4, 2), (2, 2), (2, 4), (0, 4)]
theorem lit64 {l : List Int} (h : l.all (fun x => decide (-1000 ≤ x) && decide (x ≤ 1000)) = true) : ∀ x ∈ l, W.Is64 x := fun x hx => by
 have := List.all_eq_true.1 h x hx
 simp at this
 exact i64 this
theorem bq7 {r : Rat} (h : decide (r.num.natAbs < 2 ^ 7) = true) (g : decide (r.den < 2 ^ 7) = true) : Bq 7 r := ⟨by unfold I.Bd; simpa using h, by unfold I.Bd; simpa using g⟩
theorem lit_bits {L : List (Rat × Rat)} (h : L.all (fun a => decide (a.1.num.natAbs < 2 ^ 7) && decide (a.1.den < 2 ^ 7) && (decide (a.2.num.natAbs < 2 ^ 7) && decide (a.2.den < 2 ^ 7))) = true) : ∀ a ∈ L, Bv 7 a := fun a ha => by
 have := List.all_eq_true.1 h a ha
 simp only [Bool.and_eq_true] at this
 exact ⟨bq7 this.1.1 this.1.2, bq7 this.2.1 this.2.2⟩
theorem sq_bits : ∀ a ∈ square, Bv 7 a := lit_bits (by decide +kernel)
theorem an_bits : ∀ a ∈ angle, Bv 7 a := lit_bits (by decide +kernel)
theorem ei {f : FuncId} {ds : List V} {x y : Int} (h : Pure PP f ds (ni x)) (e : x = y) : Pure PP f ds (ni y) := e ▸ h
theorem e_lives : Pure PP 18 [] (bo true) := by
 have cs : Pure PP 59 [zl [0, 0, 4, 0, 4, 4, 0, 4]] (dL square) := (show ofK [0, 0, 4, 0, 4, 4, 0, 4] 4 = square by decide +kernel) ▸ e_lof (l := [0, 0, 4, 0, 4, 4, 0, 4]) (lit64 rfl) (by decide)
 have ca : Pure PP 59 [zl [0, 0, 4, 0, 4, 2, 2, 2, 2, 4, 0, 4]] (dL angle) := (show ofK [0, 0, 4, 0, 4, 2, 2, 2, 2, 4, 0, 4] 6 = angle by decide +kernel) ▸ e_lof (l := [0, 0, 4, 0, 4, 2, 2, 2, 2, 4, 0, 4]) (lit64 rfl) (by decide)
 have c1 : Pure PP 16 [dL square] (bo true) := (show Pg.convex square = true by decide +kernel) ▸ e_convex sq_bits (by decide) (by decide)
 have c2 : Pure PP 14 [dL angle] (bo true) := (show Pg.valid angle = true by decide +kernel) ▸ e_valid an_bits (by decide) (by decide)
 have c3 : Pure PP 16 [dL angle] (bo false) := (show Pg.convex angle = false by decide +kernel) ▸ e_convex an_bits (by decide) (by decide)
 have c4 : Pure PP 14 [dL (square.take 2)] (bo false) := (show Pg.valid (square.take 2) = false by decide +kernel) ▸ e_valid (fun a ha => sq_bits a (List.mem_of_mem_take ha)) (by decide) (by decide)
 have c5 : Pure PP 23 [.ag (dR (Pg.area square)), .ag (dR (Rat.divInt 16 1))] (bo true) := (show decide (Pg.area square = Rat.divInt 16 1) = true by decide +kernel) ▸ e_same4 _ _
 have c6 : Pure PP 23 [.ag (dR (Pg.area angle)), .ag (dR (Rat.divInt 12 1))] (bo true) := (show decide (Pg.area angle = Rat.divInt 12 1) = true by decide +kernel) ▸ e_same4 _ _
 have c7 : Pure PP 26 [.ag (dV (Pg.center square)), .ag (dV (Rat.divInt 2 1, Rat.divInt 2 1))] (bo true) := (show decide (Pg.center square = (Rat.divInt 2 1, Rat.divInt 2 1)) = true by decide +kernel) ▸ e_vsame5 _ _
 have c8 : Pure PP 26 [.ag (dV (Pg.center angle)), .ag (dV (Rat.divInt 5 3, Rat.divInt 5 3))] (bo true) := (show decide (Pg.center angle = (Rat.divInt 5 3, Rat.divInt 5 3)) = true by decide +kernel) ▸ e_vsame5 _ _
 have c9 : Pure PP 26 [.ag (dV (Pg.box angle).1), .ag [bo false, .sl [], bo false, .sl [], bo false, .sl [], bo false, .sl []]] (bo true) := by
  have h : Pure PP 26 [.ag (dV (Pg.box angle).1), .ag (dV (0, 0))] (bo true) := (show decide ((Pg.box angle).1 = (0, 0)) = true by decide +kernel) ▸ e_vsame5 _ _
  rw [dV_0] at h
  exact h
 have c10 : Pure PP 26 [.ag (dV (Pg.box angle).2), .ag (dV (Rat.divInt 4 1, Rat.divInt 4 1))] (bo true) := (show decide ((Pg.box angle).2 = (Rat.divInt 4 1, Rat.divInt 4 1)) = true by decide +kernel) ▸ e_vsame5 _ _
 have sb : ∀ i, i < 4 → Bv 7 (square.getD i (0, 0)) := fun i hi => bel sq_bits hi
 have c11 : Pure PP 34 [.ag (dV (square.getD 0 (0, 0))), .ag (dV (square.getD 2 (0, 0))), .ag (dV (square.getD 1 (0, 0))), .ag (dV (square.getD 3 (0, 0)))] (bo true) := (show Pg.meets (square.getD 0 (0, 0)) (square.getD 2 (0, 0)) (square.getD 1 (0, 0)) (square.getD 3 (0, 0)) = true by decide +kernel) ▸ e_meets (sb 0 (by omega)) (sb 2 (by omega)) (sb 1 (by omega)) (sb 3 (by omega)) (by omega)
 have c12 : Pure PP 34 [.ag (dV (square.getD 0 (0, 0))), .ag (dV (square.getD 1 (0, 0))), .ag (dV (square.getD 2 (0, 0))), .ag (dV (square.getD 3 (0, 0)))] (bo false) := (show Pg.meets (square.getD 0 (0, 0)) (square.getD 1 (0, 0)) (square.getD 2 (0, 0)) (square.getD 3 (0, 0)) = false by decide +kernel) ▸ e_meets (sb 0 (by omega)) (sb 1 (by omega)) (sb 2 (by omega)) (sb 3 (by omega)) (by omega)
 have hs : ∀ (x y : Int), -100 ≤ x ∧ x ≤ 100 → -100 ≤ y ∧ y ≤ 100 → Pure PP 30 [dL square, .ag (dV (Rat.divInt x 1, Rat.divInt y 1))] (ni (Pg.has square (Rat.divInt x 1, Rat.divInt y 1))) := fun x y hx hy => e_has sq_bits (bv7 hx hy (by omega)) (by decide) (by decide)
 have d1 : Pure PP 30 [dL square, .ag (dV (Rat.divInt 2 1, Rat.divInt 2 1))] (ni 1) := ei (hs 2 2 (by omega) (by omega)) (by decide +kernel)
 have d2 : Pure PP 30 [dL square, .ag (dV (Rat.divInt 4 1, Rat.divInt 1 1))] (ni 0) := ei (hs 4 1 (by omega) (by omega)) (by decide +kernel)
 have d3 : Pure PP 30 [dL square, .ag (dV (Rat.divInt 5 1, Rat.divInt 1 1))] (ni (-1)) := ei (hs 5 1 (by omega) (by omega)) (by decide +kernel)
 have d4 : Pure PP 30 [dL angle, .ag (dV (Rat.divInt 3 1, Rat.divInt 3 1))] (ni (-1)) := ei (e_has an_bits (bv7 (by omega) (by omega) (by omega)) (by decide) (by decide)) (by decide +kernel)
 have of : ∀ x y : Int, -100 ≤ x ∧ x ≤ 100 → 1 ≤ y ∧ y ≤ 100 → Pure PP 52 [ni x, ni y] (.ag (dR (Rat.divInt x y))) := fun x y hx hy => e_of4 (i64 (by omega)) (i64 (by omega))
 have vo : ∀ x y : Int, -100 ≤ x ∧ x ≤ 100 → -100 ≤ y ∧ y ≤ 100 → Pure PP 49 [ni x, ni y] (.ag (dV (Rat.divInt x 1, Rat.divInt y 1))) := fun x y hx hy => e_vof (i64 (by omega)) (i64 (by omega))
 have el4 : ∀ i, i < 4 → (square.map dV)[i]? = some (dV (square.getD i (0, 0))) := fun i hi => el hi
 exact tr [cl cs, cl ca, cl (of 5 3 (by omega) (by omega)),
   cl c1, nf, cl c2, nf, cl c3, nf, .slc (square.map dV) 0 2 8 ((square.take 2).map dV) rfl (by decide) (by intro cs hc; obtain ⟨a, _, rfl⟩ := List.mem_map.1 hc; rfl), cl c4, nf,
   cl (e_area sq_bits (by decide) (by decide)), cl (of 16 1 (by omega) (by omega)), cl c5, nf, cl (e_area an_bits (by decide) (by decide)), cl (of 12 1 (by omega) (by omega)), cl c6, nf, cl (e_center sq_bits (by decide) (by decide)), cl (vo 2 2 (by omega) (by omega)), cl c7, nf, cl (e_center an_bits (by decide) (by decide)), cl c8, nf,
   cl (e_box an_bits (by decide) (by decide)), cl c9, nf, cl (vo 4 4 (by omega) (by omega)), cl c10, nf, .sel _ 0 _ (el4 0 (by omega)), .sel _ 2 _ (el4 2 (by omega)), .sel _ 1 _ (el4 1 (by omega)), .sel _ 3 _ (el4 3 (by omega)), cl c11, nf, .sel _ 0 _ (el4 0 (by omega)), .sel _ 1 _ (el4 1 (by omega)), .sel _ 2 _ (el4 2 (by omega)), .sel _ 3 _ (el4 3 (by omega)), cl c12, nf,
   cl (vo 2 2 (by omega) (by omega)), cl d1, yt, cl (vo 4 1 (by omega) (by omega)), cl d2, yt, cl (vo 5 1 (by omega) (by omega)), cl d3, yt, cl (vo 3 3 (by omega) (by omega)), cl d4] (by kernel_rfl)
section
variable {l m : List Int}
theorem polL_len (l : List Int) : 3 ≤ (polL l).length ∧ (polL l).length ≤ 12 := by
 have h := (valid_iff _).1 (polL_ok l).1
 exact ⟨h.1, h.2.1⟩
end
end Go.Proofs.YtcfejkpadcccbaaGreat.E
namespace Go.Proofs.YtcfejkpadcccbaaGreat.E
open Go.RowKit
set_option linter.unusedVariables false
section
variable {L : List (Rat × Rat)} {k m i j : Nat} {how by_ : Int}
end
end Go.Proofs.YtcfejkpadcccbaaGreat.E
