/-
 THE LAWS by the engine, their arguments as they come in.
-/
import Derived.Test.YtcfejkpadcccbaaGreatEnO
import Derived.Test.YtcfejkpadcccbaaGreatEldB
import Derived.Test.YtcfejkpadcccbaaGreatPgZ
import Derived.Test.YtcfejkpadcccbaaGreatMemR
import Derived.OpenShut
namespace Go.Proofs.YtcfejkpadcccbaaGreat.E
open Go.RowKit
set_option linter.unusedVariables false
section
variable {w : World} {A : Nat → Prop} {u : Value} {L : List (Rat × Rat)} {k : Nat}
theorem sl_PV (h : Rep false w A no u (.sl (L.map dV))) (hn : L.length ≤ 1000) : ∃ a n c cs, u = .slice a n c ∧ PV w w.heap.size a n c cs L := by
 cases h with
 | sl _ a b o c z _ us h1 h2 h3 h4 h5 h6 =>
   have hl : (L.map dV).length = L.length := List.length_map ..
   have h8 : ∀ v : Rat × Rat, (dV v).length = 8 := fun v => rfl
   have hz : 0 < L.length → z = 8 := fun hp => by
    have := h4 (dV L[0]) (List.mem_map.2 ⟨_, List.getElem_mem hp, rfl⟩)
    rw [h8] at this
    exact this.symm
   have hcell : ∀ i v, L[i]? = some v → ∀ j x, (dV v)[j]? = some x → w.cell? ⟨b, o + i * z + j, none⟩ = some (us i j) ∧ Rep false w A no (us i j) x := fun i v hv j x hx =>
    ⟨h5 i j (dV v) x (sel_map hv) hx, h6 i j (dV v) x (sel_map hv) hx⟩
   let cs : Nat → Nat → Value := fun i j => if i < L.length ∧ j < 8 then us i j else .bool false
   have hcs : ∀ i j, i < L.length → j < 8 → cs i j = us i j := fun i j hi hj => if_pos ⟨hi, hj⟩
   have hone : ∀ (v : Rat × Rat) (x : V), x ∈ dV v → one x = true := fun v x hx => by
    have hl : (dV v).all one = true := rfl
    exact List.all_eq_true.1 hl x hx
   refine ⟨a, _, c, cs, rfl, ⟨hl, by omega, h1, h2, fun i j => ?_, fun hp => ?_, fun i v hv => ?_⟩⟩
   · by_cases hij : i < L.length ∧ j < 8
     · rw [hcs i j hij.1 hij.2]
       have hv := List.getElem?_eq_getElem hij.1
       have hj : j < (dV L[i]).length := by rw [h8]; exact hij.2
       have hx : (dV L[i])[j]? = some ((dV L[i])[j]'hj) := List.getElem?_eq_getElem hj
       exact one_cell (hcell i _ hv j _ hx).2 (hone _ _ (List.mem_of_getElem? hx))
     · show (if _ then _ else _ : Value).oneCell' = true
       rw [if_neg hij]; rfl
   · obtain ⟨e, hA, hB⟩ := h3 hp
     refine ⟨b, o, e, hB, fun i hi j hj => ?_⟩
     rw [hl] at hi
     rw [hcs i j hi hj, ← hz (by omega)]
     exact (hcell i _ (List.getElem?_eq_getElem hi) j _ (List.getElem?_eq_getElem (by rw [h8]; exact hj))).1
   · have hi := (List.getElem?_eq_some_iff.1 hv).1
     rw [hcs i 0 hi (by omega), hcs i 1 hi (by omega), hcs i 2 hi (by omega), hcs i 3 hi (by omega), hcs i 4 hi (by omega), hcs i 5 hi (by omega), hcs i 6 hi (by omega), hcs i 7 hi (by omega)]
     have hc := fun j x hx => (hcell i v hv j x hx).2
     exact ⟨⟨int_of (hc 0 _ rfl) (hc 1 _ rfl), int_of (hc 2 _ rfl) (hc 3 _ rfl)⟩, int_of (hc 4 _ rfl) (hc 5 _ rfl), int_of (hc 6 _ rfl) (hc 7 _ rfl)⟩
theorem e_area (hb : ∀ a ∈ L, Bv k a) (hn : L.length ≤ 100) (hk : (20 * k + 100) * (L.length + 2) ≤ 800000000000) : Pure false PP 24 [dL L] (.ag (dR (Pg.area L))) :=
 o1 (by kernel_rfl) fun w u A h => by
  obtain ⟨a, n, c, cs, rfl, hp⟩ := sl_PV h (by omega)
  exact (area_anyB k a n c cs L w hp hb (by rw [hp.len]; exact hk)).mono fun _ _ => RR.rt
theorem e_center (hb : ∀ a ∈ L, Bv k a) (hn : L.length ≤ 100) (hk : k ≤ 10000) : Pure false PP 27 [dL L] (.ag (dV (Pg.center L))) :=
 o1 (by kernel_rfl) fun w u A h => by
  obtain ⟨a, n, c, cs, rfl, hp⟩ := sl_PV h (by omega)
  exact (center_anyB a n c cs L k w hp hb (by rw [hp.len]; exact hn) hk).mono fun _ _ => RV.rt
theorem e_has {p : Rat × Rat} (hb : ∀ a ∈ L, Bv k a) (hbp : Bv k p) (hn : L.length ≤ 100) (hk : k ≤ 100000000) : Pure false PP 30 [dL L, .ag (dV p)] (ni (Pg.has L p)) :=
 o2 (by kernel_rfl) fun w u v A h g => by
  obtain ⟨a, n, c, cs, rfl, hp⟩ := sl_PV h (by omega)
  obtain ⟨q0, q1, q2, q3, q4, q5, q6, q7, e, hq⟩ := V_rep g
  subst e
  exact (has_anyB a n c cs L k q0 q1 q2 q3 q4 q5 q6 q7 p w hp hb (by rw [hp.len]; exact hn) hk hq hbp).mono fun _ _ => rt_val
end
section
variable {k i : Nat} {L : List (Rat × Rat)} {l m : List Int}
theorem e_valid (hb : ∀ a ∈ L, Bv k a) (hn : L.length ≤ 100) (hk : k ≤ 10000) : Pure false PP 14 [dL L] (bo (Pg.valid L)) :=
 o1 (by kernel_rfl) fun w u A h => by
  obtain ⟨a, n, c, cs, rfl, hp⟩ := sl_PV h (by omega)
  exact (valid_anyB a n c cs L k w hp hb (by rw [hp.len]; exact hn) hk).mono fun _ _ => rt_val
theorem e_convex (hb : ∀ a ∈ L, Bv k a) (hn : L.length ≤ 100) (hk : k ≤ 10000) : Pure false PP 16 [dL L] (bo (Pg.convex L)) := by
 have hv := e_valid hb hn hk
 cases g : Pg.valid L with
 | false =>
   rw [show Pg.convex L = false by unfold Pg.convex; rw [g]; rfl]
   rw [g] at hv
   exact tr [cl hv, yt] (by kernel_rfl)
 | true =>
   rw [g] at hv
   have h3 := valid_three g
   obtain ⟨m, hm⟩ : ∃ m, L.length = m + 1 := ⟨L.length - 1, by omega⟩
   let X : Nat → St := fun i => at_ (fnOf PP 16) [(0, dL L), (8, ni (L.map dV).length), (9, ni i)] []
   refine pf (by kernel_rfl) (.to mo_ [] [0, 8, 9] [] 0 [cl hv, nf] (td' := lp (fnOf PP 16) 0) (σ' := X 0) ?_ (by kernel_rfl))
   refine Gd.loop X (fun i => i ≤ L.length ∧ ∀ t, t < i → Pg.dent L t = false) (fun i => L.length - i) ?_ _ ⟨Nat.zero_le _, fun t ht => absurd ht (Nat.not_lt_zero t)⟩
   rintro i ⟨hi, hI⟩ ih
   by_cases h : i < L.length
   · let F : List F_ := [ye (t := il_ i L) (il_t h), .sel _ _ _ (el h), inc 18 i (by omega), le_ 20 m hm, rem_ 21 (i + 1) m hm, .sel _ _ _ (elc (L := L) (by omega) (i + 1)), inc2 26 i (by omega), le_ 28 m hm, rem_ 29 (i + 2) m hm, .sel _ _ _ (elc (L := L) (by omega) (i + 2)), cl (e_side (bel hb h) (bco hb (by omega) (i + 1)) (bco hb (by omega) (i + 2)) (by omega))]
     cases hd : Pg.dent L i with
     | true =>
       rw [show Pg.convex L = false by unfold Pg.convex; rw [any_true h hd]; simp]
       exact fi (F ++ [ye (t := Pg.dent L i) hd]) (by kernel_rfl) (by kernel_rfl)
     | false => exact .to mo_ [] [0, 8, 9] [] 0 (F ++ [na (t := Pg.dent L i) hd, inc 34 i (by omega)]) (ih (i + 1) ⟨h, fun t ht => by
         by_cases e : t = i
         · subst e; exact hd
         · exact hI t (by omega)⟩ (by omega)) (by kernel_rfl)
   · rw [show Pg.convex L = true by unfold Pg.convex; rw [g, any_false fun t ht => hI t (by omega)]; rfl]
     exact fi [na (t := il_ i L) (il_f h)] (by kernel_rfl) (by kernel_rfl)
/-- The points of spots, as they are laid. -/
def sps (p q c : Rat × Rat) (L : List (Rat × Rat)) : Nat → List (Rat × Rat)
 | 0 => [p, q, c]
 | i + 1 => sps p q c L i ++ [L.getD i (0, 0), Pg.mid (L.getD i (0, 0)) (Pg.cor L (i + 1)), Pg.mid (Pg.mid (L.getD i (0, 0)) (Pg.cor L (i + 1))) p, (q.1, (L.getD i (0, 0)).2), ((L.getD i (0, 0)).1, q.2)]
theorem sps_len (p q c : Rat × Rat) (L : List (Rat × Rat)) : ∀ i, (sps p q c L i).length = 3 + 5 * i
 | 0 => rfl
 | i + 1 => by
  unfold sps
  rw [List.length_append, sps_len p q c L i]
  simp only [List.length_cons, List.length_nil]
  omega
theorem sps_0 (p q c : Rat × Rat) (L : List (Rat × Rat)) : ∀ i, (sps p q c L i)[0]? = some p ∧ (sps p q c L i)[1]? = some q
 | 0 => ⟨rfl, rfl⟩
 | i + 1 => by
  unfold sps
  have := sps_len p q c L i
  rw [List.getElem?_append_left (by omega), List.getElem?_append_left (by omega)]
  exact sps_0 p q c L i
theorem mid_bv {j k : Nat} {v u : Rat × Rat} (h : Bv j v) (g : Bv k u) : Bv (j + k + 3) (Pg.mid v u) := ((h.add g).sca half_bits).mono (by omega)
theorem sps_bits {p q c : Rat × Rat} (hb : ∀ a ∈ L, Bv k a) (hp : Bv 7 p) (hq : Bv 7 q) {K : Nat} (hc : Bv K c) (hK : 2 * k + 20 ≤ K) : ∀ i, i ≤ L.length → ∀ a ∈ sps p q c L i, Bv K a
 | 0, _ => fun a h => by
  simp only [sps, List.mem_cons, List.not_mem_nil, or_false] at h
  rcases h with rfl | rfl | rfl
  · exact hp.mono (by omega)
  · exact hq.mono (by omega)
  · exact hc
 | i + 1, hi => fun a h => by
  unfold sps at h
  have h1 := bel hb (show i < L.length by omega)
  have h2 := bco hb (by omega) (i + 1)
  rw [List.mem_append] at h
  rcases h with h | h
  · exact sps_bits hb hp hq hc hK i (by omega) a h
  · simp only [List.mem_cons, List.not_mem_nil, or_false] at h
    rcases h with rfl | rfl | rfl | rfl | rfl
    · exact h1.mono (by omega)
    · exact (mid_bv h1 h2).mono (by omega)
    · exact (mid_bv (mid_bv h1 h2) hp).mono (by omega)
    · exact ⟨hq.1.mono (by omega), h1.2.mono (by omega)⟩
    · exact ⟨h1.1.mono (by omega), hq.2.mono (by omega)⟩
def spsL (L : List (Rat × Rat)) (m : List Int) : List (Rat × Rat) := sps (spot m 0) (spot m 3) (Pg.center L) L L.length
theorem cen_bits (hb : ∀ a ∈ L, Bv k a) (hn : L.length ≤ 100) : Bv ((6 * k + 3) * 100 + 1 + (2 + ((4 * k + 2) * 100 + 1))) (Pg.center L) := by
 have h1 := pre_bits (n := L.length) (fun a b ha hb => (fx_bits (k := k) ha hb).1) rfl hb (List.finRange _) (by rw [List.length_finRange]; exact hn)
 have h2 := pre_bits (n := L.length) (fun a b ha hb => (fx_bits (k := k) ha hb).2) rfl hb (List.finRange _) (by rw [List.length_finRange]; exact hn)
 have h3 := pre_bits (n := L.length) (fun a b ha hb => crs_bits (k := k) ha hb) rfl hb (List.finRange _) (by rw [List.length_finRange]; exact hn)
 rw [Pg.at_all L _ rfl] at h1 h2 h3
 exact Bv.sca (v := (Pg.sum Pg.fx (Pg.sides L), Pg.sum Pg.fy (Pg.sides L))) ⟨h1, h2⟩ (third_bits.div h3 (by omega))
theorem spsL_bits (m : List Int) (hb : ∀ a ∈ L, Bv k a) (hn : L.length ≤ 100) : ∀ a ∈ spsL L m, Bv (1010 * k + 1000) a :=
 sps_bits hb (spot_bits m 0) (spot_bits m 3) ((cen_bits hb hn).mono (by omega)) (by omega) _ (Nat.le_refl _)
theorem e_spots (hb : ∀ a ∈ L, Bv k a) (hn : L.length ≤ 12) (hk : k ≤ 10000) (hm : ∀ x ∈ m, W.Is64 x) : Pure false PP 29 [dL L, zl m] (dL (spsL L m)) := by
 have hp := spot_bits m 0
 have hq := spot_bits m 3
 let S : Nat → List (Rat × Rat) := sps (spot m 0) (spot m 3) (Pg.center L) L
 let X : Nat → St := fun i => at_ (fnOf PP 29) [(0, dL L), (5, .ow 0), (6, ni i)] [.rw 35 8 ((S i).map dV)]
 refine pf (by kernel_rfl) (.to mo_ [] [0, 5, 6] [0] 1 [cl (e_spot hm 0 (by omega)), cl (e_spot hm 3 (by omega)), cl (e_center6 hb (by omega) hk)] (td' := lp (fnOf PP 29) 0) (σ' := X 0) ?_ (by kernel_rfl))
 refine Gd.loop X (fun i => i ≤ L.length) (fun i => L.length - i) ?_ _ (Nat.zero_le _)
 intro i hi ih
 by_cases h : i < L.length
 · have ba := bel hb h
   have bb := bco hb (by omega) (i + 1)
   have s0 : ((S i).map dV)[0]? = some (dV (spot m 0)) := sel_map (sps_0 _ _ _ _ i).1
   have s1 : ((S i).map dV)[1]? = some (dV (spot m 3)) := sel_map (sps_0 _ _ _ _ i).2
   have hl := sps_len (spot m 0) (spot m 3) (Pg.center L) L i
   exact .to mo_ [.mv 0 3] [0, 5, 6] [0] 1 [ye (t := il_ i L) (il_t h), .sel _ _ _ (el h), cl (e_next h (by omega)), cl (e_mid ba bb (by omega)), .sel _ _ _ (el h), .sel _ _ _ s0, .sel _ _ _ s0, cl (e_mid (mid_bv ba bb) hp (by omega)), .sel _ _ _ s1, .sel _ _ _ s1, .sel _ _ _ (el h), .sel _ _ _ (el h), .sel _ _ _ s1, .sel _ _ _ s1,
      .app ((S i).map dV) [dV (L.getD i (0, 0)), dV (Pg.mid (L.getD i (0, 0)) (Pg.cor L (i + 1))), dV (Pg.mid (Pg.mid (L.getD i (0, 0)) (Pg.cor L (i + 1))) (spot m 0)), dV ((spot m 3).1, (L.getD i (0, 0)).2), dV ((L.getD i (0, 0)).1, (spot m 3).2)] ((S (i + 1)).map dV) 100 (by show _ = ((sps _ _ _ _ i) ++ _).map dV; rw [List.map_append]; rfl) (by simp) (by rw [List.length_map]; show (sps _ _ _ _ (i + 1)).length ≤ _; rw [sps_len]; omega), inc 20 i (by omega)]
    (ih (i + 1) h (by omega)) (by kernel_rfl)
 · rw [show spsL L m = S i by rw [show i = L.length by omega]; rfl]
   exact fi [na (t := il_ i L) (il_f h)] (by kernel_rfl) (by kernel_rfl)
/-- The first vectors of pairs of numbers. -/
def ofK (l : List Int) (k : Nat) : List (Rat × Rat) := (List.range k).map fun j => (Rat.divInt (l.getD (2 * j) 0) 1, Rat.divInt (l.getD (2 * j + 1) 0) 1)
theorem ofK_step (l : List Int) {i : Nat} (h : i % 2 = 0) : ofK l ((i + 2) / 2) = ofK l (i / 2) ++ [(Rat.divInt (l.getD i 0) 1, Rat.divInt (l.getD (i + 1) 0) 1)] := by
 unfold ofK
 rw [show (i + 2) / 2 = i / 2 + 1 by omega, List.range_succ, List.map_append, List.map_cons, List.map_nil, show 2 * (i / 2) = i by omega]
theorem ofK_len (l : List Int) (k : Nat) : (ofK l k).length = k := by simp [ofK]
theorem num_el {i : Nat} (h : i < l.length) : l[i]? = some (l.getD i 0) := by rw [List.getD_eq_getElem?_getD, List.getElem?_eq_getElem h]; rfl
theorem e_lof (hl : ∀ x ∈ l, W.Is64 x) (hn : l.length ≤ 100) : Pure false PP 59 [.dg l] (dL (ofK l (l.length / 2))) := by
 let X : Nat → St := fun i => at_ (fnOf PP 59) [(0, .dg l), (3, .ow 0), (4, ni i)] [.rw 35 8 ((ofK l (i / 2)).map dV)]
 refine pf (by kernel_rfl) (.to mo_ [.ow 3 (.rw 35 8 [])] [0, 3, 4] [0] 1 [] (td' := lp (fnOf PP 59) 0) (σ' := X 0) ?_ (by kernel_rfl))
 refine Gd.loop X (fun i => i % 2 = 0 ∧ i ≤ l.length) (fun i => l.length - i) ?_ _ ⟨rfl, Nat.zero_le _⟩
 rintro i ⟨h2, hi⟩ ih
 have hx : ∀ i, i < l.length → W.Is64 (l.getD i 0) := fun i hi => hl _ (List.mem_of_getElem? (num_el hi))
 by_cases h : i + 1 < l.length
 · have hk := ofK_len l (i / 2)
   exact .to mo_ [.mv 0 2] [0, 3, 4] [0] 1 [inc 6 i (by omega), ye (t := decide (((i + 1 : Nat) : Int) < (l.length : Int))) (decide_eq_true (by omega)), .num l i _ (num_el (by omega)), inc 19 i (by omega), .num l (i + 1) _ (num_el h), cl (e_vof (hx i (by omega)) (hx (i + 1) h)),
     .app ((ofK l (i / 2)).map dV) [dV (Rat.divInt (l.getD i 0) 1, Rat.divInt (l.getD (i + 1) 0) 1)] ((ofK l ((i + 2) / 2)).map dV) 100 (by rw [ofK_step l h2, List.map_append]; rfl) (by simp) (by rw [List.length_map, ofK_len]; omega), inc2 11 i (by omega)]
    (ih (i + 2) ⟨by omega, by omega⟩ (by omega)) (by kernel_rfl)
 · rw [show l.length / 2 = i / 2 by omega]
   exact fi [inc 6 i (by omega), na (t := decide (((i + 1 : Nat) : Int) < (l.length : Int))) (decide_eq_false (by omega))] (by kernel_rfl) (by kernel_rfl)
end
end Go.Proofs.YtcfejkpadcccbaaGreat.E
namespace Go.Proofs.YtcfejkpadcccbaaGreat.E
open Go.RowKit
set_option linter.unusedVariables false
def square : List (Rat × Rat) := [(0, 0), (4, 0), (4, 4), (0, 4)]
def angle : List (Rat × Rat) := [(0, 0), (4, 0), (4, 2), (2, 2), (2, 4), (0, 4)]
theorem lit64 {l : List Int} (h : l.all (fun x => decide (-1000 ≤ x) && decide (x ≤ 1000)) = true) : ∀ x ∈ l, W.Is64 x := fun x hx => by
 have := List.all_eq_true.1 h x hx
 simp at this
 exact i64 this
theorem bq7 {r : Rat} (h : decide (r.num.natAbs < 2 ^ 7) = true) (g : decide (r.den < 2 ^ 7) = true) : Bq 7 r := ⟨by unfold I.Bd; simpa using h, by unfold I.Bd; simpa using g⟩
theorem lit_bits {L : List (Rat × Rat)} (h : L.all (fun a => decide (a.1.num.natAbs < 2 ^ 7) && decide (a.1.den < 2 ^ 7) && (decide (a.2.num.natAbs < 2 ^ 7) && decide (a.2.den < 2 ^ 7))) = true) : ∀ a ∈ L, Bv 7 a := fun a ha => by
 have := List.all_eq_true.1 h a ha
 simp only [Bool.and_eq_true] at this
 exact ⟨bq7 this.1.1 this.1.2, bq7 this.2.1 this.2.2⟩
theorem sq_bits : ∀ a ∈ square, Bv 7 a := lit_bits (by decide +kernel)
theorem an_bits : ∀ a ∈ angle, Bv 7 a := lit_bits (by decide +kernel)
theorem ei {f : FuncId} {ds : List V} {x y : Int} (h : Pure false PP f ds (ni x)) (e : x = y) : Pure false PP f ds (ni y) := e ▸ h
theorem e_lives : Pure false PP 18 [] (bo true) := by
 have cs : Pure false PP 59 [.dg [0, 0, 4, 0, 4, 4, 0, 4]] (dL square) := (show ofK [0, 0, 4, 0, 4, 4, 0, 4] 4 = square by decide +kernel) ▸ e_lof (l := [0, 0, 4, 0, 4, 4, 0, 4]) (lit64 rfl) (by decide)
 have ca : Pure false PP 59 [.dg [0, 0, 4, 0, 4, 2, 2, 2, 2, 4, 0, 4]] (dL angle) := (show ofK [0, 0, 4, 0, 4, 2, 2, 2, 2, 4, 0, 4] 6 = angle by decide +kernel) ▸ e_lof (l := [0, 0, 4, 0, 4, 2, 2, 2, 2, 4, 0, 4]) (lit64 rfl) (by decide)
 have c1 : Pure false PP 16 [dL square] (bo true) := (show Pg.convex square = true by decide +kernel) ▸ e_convex sq_bits (by decide) (by decide)
 have c2 : Pure false PP 14 [dL angle] (bo true) := (show Pg.valid angle = true by decide +kernel) ▸ e_valid an_bits (by decide) (by decide)
 have c3 : Pure false PP 16 [dL angle] (bo false) := (show Pg.convex angle = false by decide +kernel) ▸ e_convex an_bits (by decide) (by decide)
 have c4 : Pure false PP 14 [dL (square.take 2)] (bo false) := (show Pg.valid (square.take 2) = false by decide +kernel) ▸ e_valid (fun a ha => sq_bits a (List.mem_of_mem_take ha)) (by decide) (by decide)
 have c5 : Pure false PP 23 [.ag (dR (Pg.area square)), .ag (dR (Rat.divInt 16 1))] (bo true) := (show decide (Pg.area square = Rat.divInt 16 1) = true by decide +kernel) ▸ e_same4 _ _
 have c6 : Pure false PP 23 [.ag (dR (Pg.area angle)), .ag (dR (Rat.divInt 12 1))] (bo true) := (show decide (Pg.area angle = Rat.divInt 12 1) = true by decide +kernel) ▸ e_same4 _ _
 have c7 : Pure false PP 26 [.ag (dV (Pg.center square)), .ag (dV (Rat.divInt 2 1, Rat.divInt 2 1))] (bo true) := (show decide (Pg.center square = (Rat.divInt 2 1, Rat.divInt 2 1)) = true by decide +kernel) ▸ e_vsame5 _ _
 have c8 : Pure false PP 26 [.ag (dV (Pg.center angle)), .ag (dV (Rat.divInt 5 3, Rat.divInt 5 3))] (bo true) := (show decide (Pg.center angle = (Rat.divInt 5 3, Rat.divInt 5 3)) = true by decide +kernel) ▸ e_vsame5 _ _
 have c9 : Pure false PP 26 [.ag (dV (Pg.box angle).1), .ag [bo false, .dg [], bo false, .dg [], bo false, .dg [], bo false, .dg []]] (bo true) := by
  have h : Pure false PP 26 [.ag (dV (Pg.box angle).1), .ag (dV (0, 0))] (bo true) := (show decide ((Pg.box angle).1 = (0, 0)) = true by decide +kernel) ▸ e_vsame5 _ _
  rw [dV_0] at h
  exact h
 have c10 : Pure false PP 26 [.ag (dV (Pg.box angle).2), .ag (dV (Rat.divInt 4 1, Rat.divInt 4 1))] (bo true) := (show decide ((Pg.box angle).2 = (Rat.divInt 4 1, Rat.divInt 4 1)) = true by decide +kernel) ▸ e_vsame5 _ _
 have sb : ∀ i, i < 4 → Bv 7 (square.getD i (0, 0)) := fun i hi => bel sq_bits hi
 have c11 : Pure false PP 34 [.ag (dV (square.getD 0 (0, 0))), .ag (dV (square.getD 2 (0, 0))), .ag (dV (square.getD 1 (0, 0))), .ag (dV (square.getD 3 (0, 0)))] (bo true) := (show Pg.meets (square.getD 0 (0, 0)) (square.getD 2 (0, 0)) (square.getD 1 (0, 0)) (square.getD 3 (0, 0)) = true by decide +kernel) ▸ e_meets (sb 0 (by omega)) (sb 2 (by omega)) (sb 1 (by omega)) (sb 3 (by omega)) (by omega)
 have c12 : Pure false PP 34 [.ag (dV (square.getD 0 (0, 0))), .ag (dV (square.getD 1 (0, 0))), .ag (dV (square.getD 2 (0, 0))), .ag (dV (square.getD 3 (0, 0)))] (bo false) := (show Pg.meets (square.getD 0 (0, 0)) (square.getD 1 (0, 0)) (square.getD 2 (0, 0)) (square.getD 3 (0, 0)) = false by decide +kernel) ▸ e_meets (sb 0 (by omega)) (sb 1 (by omega)) (sb 2 (by omega)) (sb 3 (by omega)) (by omega)
 have hs : ∀ (x y : Int), -100 ≤ x ∧ x ≤ 100 → -100 ≤ y ∧ y ≤ 100 → Pure false PP 30 [dL square, .ag (dV (Rat.divInt x 1, Rat.divInt y 1))] (ni (Pg.has square (Rat.divInt x 1, Rat.divInt y 1))) := fun x y hx hy => e_has sq_bits (bv7 hx hy (by omega)) (by decide) (by decide)
 have d1 : Pure false PP 30 [dL square, .ag (dV (Rat.divInt 2 1, Rat.divInt 2 1))] (ni 1) := ei (hs 2 2 (by omega) (by omega)) (by decide +kernel)
 have d2 : Pure false PP 30 [dL square, .ag (dV (Rat.divInt 4 1, Rat.divInt 1 1))] (ni 0) := ei (hs 4 1 (by omega) (by omega)) (by decide +kernel)
 have d3 : Pure false PP 30 [dL square, .ag (dV (Rat.divInt 5 1, Rat.divInt 1 1))] (ni (-1)) := ei (hs 5 1 (by omega) (by omega)) (by decide +kernel)
 have d4 : Pure false PP 30 [dL angle, .ag (dV (Rat.divInt 3 1, Rat.divInt 3 1))] (ni (-1)) := ei (e_has an_bits (bv7 (by omega) (by omega) (by omega)) (by decide) (by decide)) (by decide +kernel)
 have of : ∀ x y : Int, -100 ≤ x ∧ x ≤ 100 → 1 ≤ y ∧ y ≤ 100 → Pure false PP 52 [ni x, ni y] (.ag (dR (Rat.divInt x y))) := fun x y hx hy => e_of4 (i64 (by omega)) (i64 (by omega))
 have vo : ∀ x y : Int, -100 ≤ x ∧ x ≤ 100 → -100 ≤ y ∧ y ≤ 100 → Pure false PP 49 [ni x, ni y] (.ag (dV (Rat.divInt x 1, Rat.divInt y 1))) := fun x y hx hy => e_vof (i64 (by omega)) (i64 (by omega))
 have el4 : ∀ i, i < 4 → (square.map dV)[i]? = some (dV (square.getD i (0, 0))) := fun i hi => el hi
 exact tr [cl cs, cl ca, cl (of 5 3 (by omega) (by omega)),
   cl c1, nf, cl c2, nf, cl c3, nf, .slc (square.map dV) 0 2 8 ((square.take 2).map dV) rfl (by decide) (by intro cs hc; obtain ⟨a, _, rfl⟩ := List.mem_map.1 hc; rfl), cl c4, nf,
   cl (e_area sq_bits (by decide) (by decide)), cl (of 16 1 (by omega) (by omega)), cl c5, nf, cl (e_area an_bits (by decide) (by decide)), cl (of 12 1 (by omega) (by omega)), cl c6, nf, cl (e_center sq_bits (by decide) (by decide)), cl (vo 2 2 (by omega) (by omega)), cl c7, nf, cl (e_center an_bits (by decide) (by decide)), cl c8, nf,
   cl (e_box an_bits (by decide) (by decide)), cl c9, nf, cl (vo 4 4 (by omega) (by omega)), cl c10, nf, .sel _ 0 _ (el4 0 (by omega)), .sel _ 2 _ (el4 2 (by omega)), .sel _ 1 _ (el4 1 (by omega)), .sel _ 3 _ (el4 3 (by omega)), cl c11, nf, .sel _ 0 _ (el4 0 (by omega)), .sel _ 1 _ (el4 1 (by omega)), .sel _ 2 _ (el4 2 (by omega)), .sel _ 3 _ (el4 3 (by omega)), cl c12, nf,
   cl (vo 2 2 (by omega) (by omega)), cl d1, yt, cl (vo 4 1 (by omega) (by omega)), cl d2, yt, cl (vo 5 1 (by omega) (by omega)), cl d3, yt, cl (vo 3 3 (by omega) (by omega)), cl d4] (by kernel_rfl)
section
variable {l m : List Int}
theorem polL_len (l : List Int) : 3 ≤ (polL l).length ∧ (polL l).length ≤ 12 := by
 have h := (valid_iff _).1 (polL_ok l).1
 exact ⟨h.1, h.2.1⟩
end
end Go.Proofs.YtcfejkpadcccbaaGreat.E
namespace Go.Proofs.YtcfejkpadcccbaaGreat
open Go.RowKit
/-- What is told of a slice of ints that came in. -/
def IsI (w : World) (a : Option Addr) (len cap : Nat) (l : List Int) : Prop := Rd w w.heap.size a (il l) ∧ len = l.length ∧ len ≤ cap ∧ cap ≤ maxLen ∧ ∀ x ∈ l, W.Is64 x
theorem isI_of {w : World} {x : Addr} {len cap : Nat} {zs : List Int} (hl : len ≤ cap) (hm : cap ≤ maxLen) (hz : zs.length = cap) (hcell : ∀ i, i < zs.length → w.cell? (x.add i) = some (.int .i64 (zs.getD i 0))) (hwf : ∀ n ∈ zs, (Lit.int .i64 n).wf = true) :
  ∃ l, IsI w (some x) len cap l := by
 refine ⟨zs.take len, ?_, by simp; omega, hl, hm, ?_⟩
 ·intro hn
  simp at hn
  obtain ⟨b, o, rfl, hc⟩ := ints_at hcell (by omega)
  refine ⟨b, o, rfl, ?_, fun j u hu => ?_⟩
  ·exact World.block_lt_of_cell? w ⟨b, o + 0, none⟩ (hc 0 (by omega))
  ·have hj : j < (il (zs.take len)).length := (List.getElem?_eq_some_iff.1 hu).1
   simp at hj
   rw [hc j (by omega), ← hu]
   have hjz : j < zs.length := by omega
   simp only [il]
   rw [List.getElem?_map, List.getElem?_take, if_pos (by omega), List.getElem?_eq_getElem hjz]
   simp only [Option.map_some, List.getD, List.getElem?_eq_getElem hjz, Option.getD_some]
 ·intro n hn
  have hwj := hwf n (List.mem_of_mem_take hn)
  have := bounds_i64 hwj
  unfold W.Is64
  omega
theorem isI_nil (w : World) : IsI w none 0 0 [] := ⟨Rd.nil _ _ _, rfl, Nat.le_refl _, by decide, by simp⟩
theorem is64_of {n : Int} (h : (Lit.int .i64 n).wf = true) : W.Is64 n := by
 have := bounds_i64 h
 unfold W.Is64
 omega
end Go.Proofs.YtcfejkpadcccbaaGreat
namespace Go.Proofs.YtcfejkpadcccbaaGreat.E
open Go.RowKit
theorem rep_zl {w : World} {a : Option Addr} {len cap : Nat} {l : List Int} (h : Go.Proofs.YtcfejkpadcccbaaGreat.IsI w a len cap l) : Rep false w (fun _ => False) no (.slice a len cap) (zl l) := by
 obtain ⟨h1, rfl, h3, h4, _⟩ := h
 have hz : (zs l).length = l.length := List.length_map ..
 by_cases hp : 0 < l.length
 · obtain ⟨b, o, rfl, hb, hc⟩ := h1 (by simp; omega)
   have h2 : Rep false w (fun _ => False) no (.slice (some ⟨b, o, none⟩) (zs l).length cap) (.sl (zs l)) := by
    refine .sl _ _ b o cap 1 _ (fun i _ => .int .i64 (l.getD i 0)) (by omega) h4 (fun _ => ⟨rfl, fun e => e, hb⟩) (fun cs hc => ?_) (fun i j cs x hi hj => ?_) (fun i j cs x hi hj => ?_)
    · obtain ⟨y, _, rfl⟩ := List.mem_map.1 hc; rfl
    · have hlt := (List.getElem?_eq_some_iff.1 hi).1
      rw [hz] at hlt
      rw [zs_el hlt] at hi
      injection hi with hi
      subst hi
      match j, hj with
      | 0, hj =>
        have := hc i _ (il_at l (num_el hlt))
        simpa using this
      | j + 1, hj => simp at hj
    · have hlt := (List.getElem?_eq_some_iff.1 hi).1
      rw [hz] at hlt
      rw [zs_el hlt] at hi
      injection hi with hi
      subst hi
      match j, hj with
      | 0, hj => simp at hj; subst hj; exact .k _ _
      | j + 1, hj => simp at hj
   rw [hz] at h2
   exact h2
 · have h0 : l = [] := List.length_eq_zero_iff.1 (by omega)
   subst h0
   exact .sl _ a 0 0 cap 1 [] (fun _ _ => undef) (Nat.zero_le _) h4 (fun h => by simp at h) (fun _ h => by simp at h) (fun i j cs x h => by simp at h) (fun i j cs x h => by simp at h)
theorem to_tt {w w' : World} {e : Ending} (h : Rt (fun w v => Rep false w (fun _ => False) no v (bo true)) w e w') : e = .returned (.bool true) ∧ Below w.heap.size w w' := by
 obtain ⟨v, rfl, h1, h2⟩ := h
 exact ⟨by rw [Rep.k_inv h1], h2⟩
theorem reps_of {s : Bool} {w : World} {A : Nat → Prop} {m : Nat → Option Value} : ∀ {us : List Value} {ds : List V}, us.length = ds.length → (∀ j, j < ds.length → Rep s w A m (us.getD j undef) (ds.getD j .un)) → Reps s w A m us.toArray ds := fun {us ds} h h2 => by
 refine ⟨h, fun j x hx => ?_⟩
 have hlt := (List.getElem?_eq_some_iff.1 hx).1
 have := h2 j hlt
 rw [List.getD_eq_getElem?_getD (l := ds), hx] at this
 rw [← getD_toList]
 exact this
/-- A law of any arguments. -/
theorem lawG {f : FuncId} {us : List Value} {ds : List V} {w : World} (h : Pure false PP f ds (bo true)) (hl : us.length = ds.length) (hr : ∀ j, j < ds.length → Rep false w (fun _ => False) no (us.getD j undef) (ds.getD j .un)) :
    Calls PP f us.toArray w fun e w' => e = .returned (.bool true) ∧ Below w.heap.size w w' :=
 (back h (reps_of hl hr)).mono fun _ _ => to_tt
theorem all3 {p : Nat → Prop} (h0 : p 0) (h1 : p 1) (h2 : p 2) : ∀ j, j < 3 → p j := fun j hj => by
 match j, hj with
 | 0, _ => exact h0
 | 1, _ => exact h1
 | 2, _ => exact h2
theorem all4 {p : Nat → Prop} (h0 : p 0) (h1 : p 1) (h2 : p 2) (h3 : p 3) : ∀ j, j < 4 → p j := fun j hj => by
 match j, hj with
 | 0, _ => exact h0
 | 1, _ => exact h1
 | 2, _ => exact h2
 | 3, _ => exact h3
theorem all5 {p : Nat → Prop} (h0 : p 0) (h1 : p 1) (h2 : p 2) (h3 : p 3) (h4 : p 4) : ∀ j, j < 5 → p j := fun j hj => by
 match j, hj with
 | 0, _ => exact h0
 | 1, _ => exact h1
 | 2, _ => exact h2
 | 3, _ => exact h3
 | 4, _ => exact h4
end Go.Proofs.YtcfejkpadcccbaaGreat.E
