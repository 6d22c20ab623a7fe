/-
 CONTACT: the law ContactWeights, by the engine.
-/
import Derived.Test.YtbaggkbleehegaaGreatExR
namespace Go.Proofs.YtbaggkbleehegaaGreat.E
open Go.RowKit
set_option linter.unusedVariables false
section
variable {a b c d n p : Rat × Rat} {r q x : Rat} {i j k : Nat} {L : List (Rat × Rat)}
theorem e_boxW (hb : ∀ a ∈ L, Bv k a) (hn : L.length ≤ 100) (hk : k ≤ 100000000) : Pure PP 43 [dL L] (dVV (Pg.box L).1 (Pg.box L).2) := by
 have hl : (L.map dV).length = L.length := List.length_map ..
 by_cases h0 : L.length = 0
 · rw [box_0 h0, dVV, dV_0]
   exact pf (by kernel_rfl) (fiG [.wk 0, .wk 1] [ye (t := ((L.map dV).length : Int) == 0) (by simp [h0])] (by kernel_rfl) (by kernel_rfl))
 rw [box_1 h0]
 have hg : ∀ i, i < L.length → Bv k (L.getD i (0, 0)) := fun i hi => bel hb hi
 let X : Nat → St := fun i => at_ (fnOf PP 43) [(0, dL L), (2, .lp 0 0), (3, .lp 1 0), (4, .lp 2 0), (5, .lp 3 0), (19, dL L), (20, ni (L.map dV).length), (21, ni i)] [.bx 43 z8, .bx 43 z8, .bx 43 (dV (Pg.lo L i)), .bx 43 (dV (Pg.hi L i))]
 refine pf (by kernel_rfl) (.to mo_ [] [0, 2, 3, 4, 5, 19, 20, 21] [0, 1, 2, 3] 4 [na (t := ((L.map dV).length : Int) == 0) (by simp; intro e; exact h0 (by rw [e]; rfl)), .sel _ _ _ (el (L := L) (i := 0) (by omega)), .sel _ _ _ (el (L := L) (i := 0) (by omega))] (td' := lp (fnOf PP 43) 0) (σ' := X 0) ?_ (by kernel_rfl))
 refine Gd.loop X (fun i => i ≤ L.length) (fun i => L.length - i) ?_ _ (Nat.zero_le _)
 rintro i hi ih
 have bl := lo_bits hg (by omega) i hi
 have bh := hi_bits hg (by omega) i hi
 by_cases h : i < L.length
 · have ba := hg i h
   have w1 := e_wider bl.1 bh.1 ba.1 (by omega)
   have w2 := e_wider bl.2 bh.2 ba.2 (by omega)
   rw [less_comm, more_comm] at w1 w2
   exact .to mo_ [] [0, 2, 3, 4, 5, 19, 20, 21] [0, 1, 2, 3] 4 [ye (t := il_ i L) (il_t h), .sel _ _ _ (el h), cl w1, cl w2, inc 49 i (by omega)]
    (ih (i + 1) h (by omega)) (by kernel_rfl)
 · rw [show L.length = i by omega]
   exact fi [na (t := il_ i L) (il_f h)] (by kernel_rfl) (by kernel_rfl)
end
end Go.Proofs.YtbaggkbleehegaaGreat.E
namespace Go.Proofs.YtbaggkbleehegaaGreat.E.Ct
open Go.RowKit
set_option linter.unusedVariables false
set_option linter.unusedSimpArgs false
def dif (S : Rat) (B : List Rat) (i : Nat) : Rat := S - sumR (B.take i)
section
variable {l : List Int} {x y z : Int} {i j k m n b : Nat} {st gl : Int} {s : Sc} {F : List Ft} {rt : Nat → Int} {f : Nat → Rat} {p : Nat → Bool} {S : Rat} {B : List Rat}
theorem sumS_bits {M : Nat} : ∀ k, (∀ m, m < k → Bq M (f m)) → Bq ((M + 1) * k + 1) (sumS p f k)
 | 0, _ => Bq.zero (by omega)
 | k + 1, h => by
  have ih := sumS_bits k fun m hm => h m (by omega)
  have e : (M + 1) * (k + 1) + 1 = ((M + 1) * k + 1) + M + 1 := by rw [Nat.mul_succ]; omega
  rw [e]
  unfold sumS
  split
  · exact ih.add (h k (by omega))
  · exact ih.mono (by omega)
theorem dif_succ {t : Rat} (h : B[i]? = some t) : dif S B (i + 1) = dif S B i - t := by
 unfold dif
 rw [List.take_add_one, h]
 show S - sumR (B.take i ++ [t]) = _
 rw [sumR_app]
 grind
theorem dif_bits {M K : Nat} (hS : Bq M S) (hB : ∀ t ∈ B, Bq K t) : ∀ i, i ≤ B.length → Bq (M + (K + 1) * i) (dif S B i)
 | 0, _ => by
  have : dif S B 0 = S := by unfold dif; show S - 0 = S; grind
  rw [this]
  exact hS
 | i + 1, h => by
  have ih := dif_bits hS hB i (by omega)
  obtain ⟨t, ht, hm⟩ := get_of (show i < B.length by omega)
  rw [dif_succ ht]
  exact (ih.sub (hB t hm)).mono (by rw [Nat.mul_succ]; omega)
noncomputable abbrev flw : Func := fnOf PP 7
abbrev GW (td : List Item) (σ : St) : Prop := Gd PP 7 (.v (bo true)) td σ
/-- What stands in the body of the law. -/
structure Wt (s : Sc) (F : List Ft) (st gl : Int) (AL : List (List V)) : Prop where
 ok : ScOk s F
 pos : s.Pos
 al : AL.length = ((List.range s.L.length).filter (inB st)).length
noncomputable def w1S (s : Sc) (F : List Ft) (st gl : Int) (AL : List (List V)) (k : Nat) (a b : Rat) : St := at_ flw [(9, .lp 0 0), (10, ni st), (12, .sl (boR (bodF s (rtB st gl F)))), (13, zl (ownF s (rtB st gl F))), (16, .sl AL), (18, .lp 1 0), (19, .lp 2 0), (20, ni (((List.range k).filter (inB st)).length : Int)), (21, ni (k : Int))] [.bx 27 (scV s F), .bx 37 (dR a), .bx 37 (dR b)]
noncomputable def w2T (s : Sc) (F : List Ft) (st gl : Int) (AL : List (List V)) (i : Nat) (m : List (Nat × V)) : List V := (at_ flw ([(9, .lp 0 0), (12, .sl (boR (bodF s (rtB st gl F)))), (13, zl (ownF s (rtB st gl F))), (16, .sl AL), (18, .lp 1 0), (19, .lp 2 0), (20, ni (((List.range s.L.length).filter (inB st)).length : Int)), (22, ni (i : Int))] ++ m) []).t
theorem own_get (h : RtOk rt s.L.length) (hk : k < s.L.length) : (zs (ownF s rt))[k]? = some [ni (owF rt k)] := ow_at hk hk
theorem owF_eq (h : RtOk rt n) (hk : k < n) (hj : rt j = (j : Int)) (hjn : j < n) : (owF rt k == (pos rt j : Int)) = decide (rt k = (j : Int)) := by
 rcases h.ge k hk with e | ⟨r, h1, h2, h3⟩
 · rw [owF_out e, e, decide_eq_false (by omega)]
   simp
 · rw [owF_of h1, h1]
   by_cases e : r = j
   · subst e; simp
   · have hp : pos rt r ≠ pos rt j := fun e2 => e (by
      have a1 := rts_at h3 n (by omega)
      have a2 := rts_at hj n hjn
      rw [e2, a2] at a1
      exact (Option.some.inj a1).symm)
     rw [decide_eq_false (by omega)]
     simp
     omega
theorem cel_bits (ok : ScOk s F) : ∀ v ∈ ceL s rt j k, k ≤ s.L.length → Bv 300000 v := fun v hv hk => by
 unfold ceL at hv
 obtain ⟨m, hm, rfl⟩ := List.mem_map.1 hv
 have hm := List.mem_range.1 (List.mem_filter.1 hm).1
 exact ((ok.ok.g m (by omega)).cenV).mono (by omega)
/-- A body's centers are gathered. -/
theorem w_3 {AL : List (List V)} (w : Wt s F st gl AL) {X Y : Rat} (hi : i < 100) (hj : rtB st gl F j = (j : Int)) (hjn : j < s.L.length) (hpi : pos (rtB st gl F) j = i) (next : GW (rg flw 33) ⟨w2T s F st gl AL i [(23, .ow 3)], [.bx 27 (scV s F), .bx 37 (dR X), .bx 37 (dR Y), .rw 43 8 ((ceL s (rtB st gl F) j s.L.length).map dV)]⟩) : GW (lp flw 2) ⟨w2T s F st gl AL i [(23, .ow 3), (24, ni ((0 : Nat) : Int))], [.bx 27 (scV s F), .bx 37 (dR X), .bx 37 (dR Y), .rw 43 8 []]⟩ := by
 have hrt := rtB_ok (st := st) (gl := gl) w.ok.f
 have hpl := piR_len s.L
 have hn := w.ok.ok.n
 have hna := w.ok.a
 refine Gd.loop (fun (k : Nat) => (⟨w2T s F st gl AL i [(23, .ow 3), (24, ni (k : Int))], [.bx 27 (scV s F), .bx 37 (dR X), .bx 37 (dR Y), .rw 43 8 ((ceL s (rtB st gl F) j k).map dV)]⟩ : St)) (fun k => k ≤ s.L.length) (fun k => s.L.length - k) ?_ 0 (Nat.zero_le _)
 intro k hk ih
 by_cases h : k < s.L.length
 · have nx := ih (k + 1) h (by omega)
   have e0 := own_get hrt h
   have e1 := pi_at h
   have e2 := pl_at (s := s) (k := k) (by omega)
   have cc := e_pcen (w.ok.ok.g k h)
   have hq := owF_eq hrt h hj hjn
   rw [hpi] at hq
   have hs := ceL_succ (s := s) (rt := rtB st gl F) (j := j) (k := k)
   let E : List F_ := [.eqv 178 (ni ((piR s.L).length : Int)) (ni (s.L.length : Int)) (by rw [hpl]), ye (t := decide ((k : Int) < (s.L.length : Int))) (decide_eq_true (by omega)), .sel _ _ _ e0]
   by_cases g : rtB st gl F k = (j : Int)
   · rw [if_pos g] at hs
     have ap : (ceL s (rtB st gl F) j k).map dV ++ [dV (cenV (s.pi k) (s.pl k))] = (ceL s (rtB st gl F) j (k + 1)).map dV := by rw [hs, List.map_append]; rfl
     have hle : ((ceL s (rtB st gl F) j (k + 1)).map dV).length ≤ 1000 := by
      rw [List.length_map]
      unfold ceL
      rw [List.length_map]
      have := List.length_filter_le (fun m => decide (rtB st gl F m = (j : Int))) (List.range (k + 1))
      rw [List.length_range] at this
      omega
     rw [decide_eq_true g] at hq
     generalize (ceL s (rtB st gl F) j (k + 1)).map dV = R1 at *
     generalize (ceL s (rtB st gl F) j k).map dV = R0 at *
     generalize cenV (s.pi k) (s.pl k) = C at *
     exact .to mo_ [.mv 3 5] [9, 12, 13, 16, 18, 19, 20, 22, 23, 24] [0, 1, 2, 3] 4 (E ++ [ye (t := (owF (rtB st gl F) k == (i : Int))) hq, .sel _ _ _ e1, .sel _ _ _ e2, cl cc, .app _ _ _ 1000 ap Nat.zero_lt_one hle, inc 181 k (by omega)]) nx (by kernel_rfl)
   · rw [if_neg g, List.append_nil] at hs
     rw [hs] at nx
     rw [decide_eq_false g] at hq
     exact .to mo_ [] [9, 12, 13, 16, 18, 19, 20, 22, 23, 24] [0, 1, 2, 3] 4 (E ++ [na (t := (owF (rtB st gl F) k == (i : Int))) hq, inc 181 k (by omega)]) nx (by kernel_rfl)
 · have e : k = s.L.length := by omega
   have hx : decide ((k : Int) < (s.L.length : Int)) = false := decide_eq_false (by omega)
   rw [e] at hx ⊢
   exact .to mo_ [] [9, 12, 13, 16, 18, 19, 20, 22, 23] [0, 1, 2, 3] 4 [.eqv 178 (ni ((piR s.L).length : Int)) (ni (s.L.length : Int)) (by rw [hpl]), na hx] next (by kernel_rfl)
def lgB (s : Sc) (rt : Nat → Int) : List Rat := (bodF s rt).map (·.light)
def hvB (s : Sc) (rt : Nat → Int) : List Rat := (bodF s rt).map (·.heavy)
theorem bod_at (h : i < (rts rt s.L.length).length) : ∃ j, (rts rt s.L.length)[i]? = some j ∧ rt j = (j : Int) ∧ j < s.L.length ∧ pos rt j = i ∧ (bodF s rt)[i]? = some (acc s rt j s.L.length).fin := by
 have hj : (rts rt s.L.length)[i]? = some (rts rt s.L.length)[i] := List.getElem?_eq_getElem h
 generalize (rts rt s.L.length)[i] = j at hj
 obtain ⟨h1, h2⟩ := mem_rts.1 (List.mem_of_getElem? hj)
 exact ⟨j, hj, h2, h1, rts_inj (rts_at h2 _ h1) hj, by unfold bodF; rw [List.getElem?_map, hj]; rfl⟩
theorem bod_fin (ok : ScOk s F) (hj : j < s.L.length) : Bv 9000000000 (acc s rt j s.L.length).fin.c ∧ Bq 9000000000 (acc s rt j s.L.length).light ∧ Bq 9000000000 (acc s rt j s.L.length).heavy ∧ Bq 9000000000 (acc s rt j s.L.length).str := by
 have ab := acc_bits (s := s) (rt := rt) (j := j) (M := piM 100) (Sc.Ok.pib ok.ok hj).str s.L.length fun i hi => Sc.Ok.pib ok.ok hi
 have hn := ok.ok.n
 have hM : (piM 100 + 1) * s.L.length + 1 ≤ 4000000000 := by
  have h1 : piM 100 + 1 ≤ 30005001 := by unfold piM; omega
  have := Nat.mul_le_mul h1 (show s.L.length ≤ 100 by omega)
  omega
 have hM2 : piM 100 ≤ 9000000000 := by unfold piM; omega
 have h0 : 0 < (piM 100 + 1) * s.L.length + 1 := by omega
 generalize (piM 100 + 1) * s.L.length + 1 = K at *
 exact ⟨⟨(ab.c.1.div ab.w h0).mono (by omega), (ab.c.2.div ab.w h0).mono (by omega)⟩, ab.light.mono (by omega), ab.heavy.mono (by omega), ab.str.mono (by omega)⟩
end
end Go.Proofs.YtbaggkbleehegaaGreat.E.Ct
