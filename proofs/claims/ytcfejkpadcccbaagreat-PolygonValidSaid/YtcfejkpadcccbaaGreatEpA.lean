/-
 ARGUMENTS OF A LAW, of any type without maps and interfaces: what they stand for.
-/
import Derived.Test.YtcfejkpadcccbaaGreatEqB
import Derived.Test.YtcfejkpadcccbaaGreatFlow
import Derived.OpenShut
import Derived.Test.YtcfejkpadcccbaaGreatEoRw
import Derived.Carry
namespace Go.Proofs.YtcfejkpadcccbaaGreat.E
open Go.RowKit
set_option linter.unusedVariables false
/-- A number as it should be, or with a denominator 1 that is written down. -/
def gN (k : Nat) (n : RN) (r : Rat) : Prop := Bq k r ∧ (n = ofR r ∨ (r.den = 1 ∧ n = ⟨decide (r.num < 0), digs r.num.natAbs, false, [1]⟩))
def gV (k : Nat) (v : RV) (a : Rat × Rat) : Prop := gN k v.1 a.1 ∧ gN k v.2 a.2
section
variable {C : List RV} {j k i m : Nat} {n p : RN} {r t : Rat} {u v : RV} {a b : Rat × Rat} {how by_ : Int}
theorem gN.mono (h : gN j n r) (hk : j ≤ k) : gN k n r := ⟨h.1.mono hk, h.2⟩
theorem gV.mono (h : gV j v a) (hk : j ≤ k) : gV k v a := ⟨h.1.mono hk, h.2.mono hk⟩
theorem gV_of (h : Bv k a) : gV k (oV a) a := ⟨⟨h.1, .inl rfl⟩, ⟨h.2, .inl rfl⟩⟩
theorem bd_digs {x : Int} (h : I.Bd k x) : I.Bd k (I.val (digs x.natAbs)) := by rw [(digs_ok _).2]; unfold I.Bd at *; simpa using h
theorem gN.bn (h : gN k n r) (hk : 1 ≤ k) : Bn k n := by
 obtain ⟨hb, rfl | ⟨_, rfl⟩⟩ := h
 · exact ⟨fun _ => bd_digs hb.1, fun _ => bd_digs (bd_dq hb)⟩
 · refine ⟨fun _ => bd_digs hb.1, fun _ => ?_⟩
   show I.Bd k (I.val [1])
   rw [can_one.2]
   unfold I.Bd
   have : 2 ^ 1 ≤ 2 ^ k := Nat.pow_le_pow_right (by omega) hk
   simp; omega
theorem gV.bw (h : gV k v a) (hk : 1 ≤ k) : Bw k v := ⟨h.1.bn hk, h.2.bn hk⟩
theorem gN.cells (h : gN k n r) : cN n = [.k (.bool (decide (r.num < 0))), dg r.num, bo n.t, zl n.m] := by
 obtain ⟨_, rfl | ⟨_, rfl⟩⟩ := h <;> rfl
theorem e_den4g (h : gN k n r) : Pure PP 108 [.ag [.k (.bool (decide (r.num < 0))), dg r.num, bo n.t, zl n.m]] (.ag (dI r.den)) := by
 rw [← h.cells]
 obtain ⟨_, rfl | ⟨hd, rfl⟩⟩ := h
 · exact e_den4 r
 · have d1 : dI (r.den : Int) = [bo false, .sl [[ni 1]]] := by rw [hd]; show dI 1 = _; unfold dI; rw [digs_1]; rfl
   rw [d1]
   show Pure PP _ [.ag [.k (.bool (decide (r.num < 0))), dg r.num, bo false, .sl [[ni 1]]]] _
   exact tr [nf] (by kernel_rfl)
theorem e_add4g (h : gN j n r) (g : gN k p t) (hk : j + k + 1 ≤ 800000000000) : Pure PP 69 [.ag (cN n), .ag (cN p)] (.ag (dR (r + t))) := by
 rw [← q_add, h.cells, g.cells]
 have h1 := h.1.1.mul g.1.2
 have h2 : I.Bd (j + k) (t.num * r.den) := by rw [Nat.add_comm]; exact g.1.1.mul h.1.2
 exact tr [cl (e_den4g g), cl (e_mul3 h.1.1 g.1.2 (by omega)), cl (e_den4g h), cl (e_mul3 g.1.1 h.1.2 (by omega)), cl (e_add3 h1 h2 (by omega)), cl (e_den4g h), cl (e_den4g g), cl (e_mul3 h.1.2 g.1.2 (by omega)), cl (e_make4 (h1.add' h2) ((h.1.2.mul g.1.2).mono (by omega)) hk)] (by kernel_rfl)
theorem gV.bv (h : gV k v a) : Bv k a := ⟨h.1.1, h.2.1⟩
theorem e_midg (h : gV j u a) (g : gV k v b) (hk : 20 * (j + k) + 200 ≤ 800000000000) : Pure PP 32 [.ag (cV2 u), .ag (cV2 v)] (.ag (dV (Pg.mid a b))) := by
 have ha : Pure PP 51 [.ag (cV2 u), .ag (cV2 v)] (.ag (dV (vadd a b))) := tr [cl (e_add4g h.1 g.1 (by omega)), cl (e_add4g h.2 g.2 (by omega))] (by kernel_rfl)
 exact tr [cl ha, cl (e_of4 (x := 1) (y := 2) ⟨by decide, by decide⟩ ⟨by decide, by decide⟩), cl (e_vsca5 (h.bv.add g.bv) half_bits (by omega))] (by kernel_rfl)
theorem e_nextg (h : i < C.length) (hn : C.length ≤ 1000) : ∃ v ∈ C, Pure PP 41 [rL C, ni i] (.ag (cV2 v)) := by
 by_cases g : i + 1 < C.length
 · have e : C[i + 1]? = some C[i + 1] := List.getElem?_eq_getElem g
   refine ⟨C[i + 1], List.getElem_mem g, ?_⟩
   generalize C[i + 1] = v at e
   exact tr [inc 6 i (by omega), ye (t := ir_ (i + 1) C) (ir_t g), inc 12 i (by omega), .sel _ _ _ (rel e)] (by kernel_rfl)
 · have h0 : 0 < C.length := by omega
   have e : C[0]? = some C[0] := List.getElem?_eq_getElem h0
   refine ⟨C[0], List.getElem_mem h0, ?_⟩
   generalize C[0] = v at e
   exact tr [inc 6 i (by omega), na (t := ir_ (i + 1) C) (ir_f g), .sel _ _ _ (rel e)] (by kernel_rfl)
theorem cV2_ok (C : List RV) : ∀ cs ∈ C.map cV2, cs.length = 8 ∧ cs.all one = true := fun cs h => by
 obtain ⟨a, _, rfl⟩ := List.mem_map.1 h
 exact ⟨rfl, rfl⟩
/-- A list of a vector at least, all of them as they should be or spoilt in the fifth way. -/
def gC (k : Nat) (C : List RV) : Prop := ∀ v ∈ C, ∃ a, gV k v a
theorem gC.mono (h : gC j C) (hk : j ≤ k) : gC k C := fun v hv => by
 obtain ⟨a, ha⟩ := h v hv
 exact ⟨a, ha.mono hk⟩
theorem gC.app {D : List RV} (h : gC k C) (g : gC k D) : gC k (C ++ D) := fun v hv => (List.mem_append.1 hv).elim (h v) (g v)
theorem gC.take (h : gC k C) (i : Nat) : gC k (C.take i) := fun v hv => h v (List.mem_of_mem_take hv)
theorem gC.drop (h : gC k C) (i : Nat) : gC k (C.drop i) := fun v hv => h v (List.mem_of_mem_drop hv)
theorem gC.one (h : gV k v a) : gC k [v] := fun u hu => by rw [List.mem_singleton.1 hu]; exact ⟨a, h⟩
theorem gC.set (h : gC k C) (i : Nat) (g : gV k v a) : gC k (C.set i v) := fun u hu => (List.mem_or_eq_of_mem_set hu).elim (h u) fun e => e ▸ ⟨a, g⟩
def Spo (k : Nat) (C : List RV) (how by_ : Int) : Prop := ∃ C', gC (k + k + 10) C' ∧ C'.length ≤ C.length + 1 ∧ C.length ≤ C'.length + 1 ∧ Pure PP 12 [rL C, ni how, ni by_] (rL C')
/-- The facts up to the choice. -/
noncomputable def sG (C : List RV) {kk : Nat} (hL : C.length = m + 1) (hn : C.length ≤ 100) (hy : W.Is64 by_) (hkk : rnd by_ m = kk) {c : Int} (hcc : Pure PP 35 [ni how, ni 7] (ni c)) : List F_ :=
 [.aps [] (C.map cV2) (C.map cV2) 200 8 rfl (by rw [List.length_map]; omega) (by rw [List.length_map]; omega) (cV2_ok C), na (t := ((C.map cV2).length : Int) == 0) (by simp; intro e; rw [e] at hL; simp at hL), .eqv 24 (ni ((C.map cV2).length : Int)) (ni ((m + 1 : Nat) : Int)) (by rw [List.length_map, hL]), cl (e_around hy m), .eqv 25 (ni (rnd by_ m)) (ni kk) (by rw [hkk]), cl hcc]
theorem e_spoiltG (hg : gC k C) (hk : k ≤ 1000) (h0 : 0 < C.length) (hn : C.length ≤ 100) (hw : W.Is64 how) (hy : W.Is64 by_) : Spo k C how by_ := by
 obtain ⟨m, hm⟩ : ∃ m, C.length = m + 1 := ⟨C.length - 1, by omega⟩
 have hl : (C.map cV2).length = C.length := List.length_map ..
 have hr := rnd_in by_ m
 obtain ⟨kk, hkk⟩ : ∃ kk : Nat, rnd by_ m = kk := ⟨(rnd by_ m).toNat, by omega⟩
 have hk1 : kk < C.length := by omega
 have ek : C[kk]? = some C[kk] := List.getElem?_eq_getElem hk1
 obtain ⟨a, ha⟩ := hg _ (List.getElem_mem hk1)
 generalize hcv : C[kk] = cv at ek ha
 have hg' : gC (k + k + 10) C := hg.mono (by omega)
 obtain ⟨nx, hnx, enx⟩ := e_nextg hk1 (by omega)
 obtain ⟨b, hb⟩ := hg _ hnx
 have emid := e_midg ha hb (by omega)
 have gmid : gV (k + k + 10) (oV (Pg.mid a b)) (Pg.mid a b) := gV_of ((mid_bv ha.bv hb.bv).mono (by omega))
 have hcc := e_around hw 6
 have h6 := rnd_in how 6
 generalize rnd how 6 = c at hcc h6
 have hset : ∀ v : RV, (C.map cV2).set kk (cV2 v) = (C.set kk v).map cV2 := fun v => by rw [List.map_set]
 have hs1 : ∀ v : RV, (C.set kk v).length ≤ C.length + 1 ∧ C.length ≤ (C.set kk v).length + 1 := fun v => by rw [List.length_set]; omega
 rcases (show c = 0 ∨ c = 1 ∨ c = 2 ∨ c = 3 ∨ c = 4 ∨ c = 5 ∨ c = 6 by omega) with rfl | rfl | rfl | rfl | rfl | rfl | rfl
 · by_cases h1 : kk + 1 < C.length
   · refine ⟨C.take kk ++ C.drop (kk + 1), (hg'.take kk).app (hg'.drop _), by rw [List.length_append, List.length_take, List.length_drop]; omega, by rw [List.length_append, List.length_take, List.length_drop]; omega, ?_⟩
     exact tr (sG C hm hn hy hkk hcc ++ [yt, .slo (C.map cV2) 0 kk ⟨by omega, by omega⟩ (by omega), inc 54 kk (by omega), .slo (C.map cV2) (kk + 1) (C.map cV2).length ⟨by omega, by omega⟩ (by omega),
      .apo (C.map cV2) ((C.take kk ++ C.drop (kk + 1)).map cV2) kk (kk + 1) (C.map cV2).length 200 (by rw [List.take_of_length_le (Nat.le_refl _), List.map_append, List.map_take, List.map_drop]) (by omega) ⟨by omega, by omega⟩ (by rw [List.length_map, List.length_append, List.length_take, List.length_drop]; omega)]) (by kernel_rfl)
   · have h2 : kk + 1 = C.length := by omega
     refine ⟨C.take kk, hg'.take kk, by rw [List.length_take]; omega, by rw [List.length_take]; omega, ?_⟩
     exact tr (sG C hm hn hy hkk hcc ++ [yt, .slo (C.map cV2) 0 kk ⟨by omega, by omega⟩ (by omega), .eqv 54 (ni (IntKind.i64.wrap ((kk : Nat) + 1))) (ni ((C.map cV2).length : Nat)) (by rw [inc_ (by omega), hl, h2]), .slo (C.map cV2) (C.map cV2).length (C.map cV2).length ⟨by omega, by omega⟩ (by omega),
      .apf (C.map cV2) ((C.take kk).map cV2) kk (C.map cV2).length (by rw [List.map_take]) (by omega) (by omega)]) (by kernel_rfl)
 · have r1 := rnd_in by_ 16
   have r2 := rnd_in (by_.tdiv 17) 16
   have hd := is64_div hy (d := 17) (by omega)
   have gN : gV (k + k + 10) (oV (sNew by_)) (sNew by_) := gV_of ((bv7 (x := rnd by_ 16 - 8) (y := rnd (by_.tdiv 17) 16 - 8) (z := 1) (by omega) (by omega) (by omega)).mono (by omega))
   refine ⟨C.set kk (oV (sNew by_)), hg'.set kk gN, (hs1 _).1, (hs1 _).2, ?_⟩
   exact tr (sG C hm hn hy hkk hcc ++ [nf, yt, cl (e_around hy 16), eq64 63 (rnd by_ 16 - 8) (i64 (by omega)), eq64 65 (by_.tdiv 17) hd, cl (e_around hd 16), eq64 67 (rnd (by_.tdiv 17) 16 - 8) (i64 (by omega)), cl (e_vof (x := rnd by_ 16 - 8) (y := rnd (by_.tdiv 17) 16 - 8) (i64 (by omega)) (i64 (by omega))),
    .sel (C.map cV2) _ _ (rel ek), .upd (C.map cV2) _ _ (cV2 (oV (sNew by_))) ((C.set kk (oV (sNew by_))).map cV2) (rel ek) (hset _)]) (by kernel_rfl)
 · have hd := is64_div hy (d := 16) (by omega)
   have r2 := rnd_in (by_.tdiv 16) m
   obtain ⟨k2, hk2⟩ : ∃ k2 : Nat, rnd (by_.tdiv 16) m = k2 := ⟨(rnd (by_.tdiv 16) m).toNat, by omega⟩
   have hk3 : k2 < C.length := by omega
   have e2 : C[k2]? = some C[k2] := List.getElem?_eq_getElem hk3
   obtain ⟨a2, ha2⟩ := hg' _ (List.getElem_mem hk3)
   generalize C[k2] = v2 at e2 ha2
   refine ⟨C.set kk v2, hg'.set kk ha2, (hs1 _).1, (hs1 _).2, ?_⟩
   exact tr (sG C hm hn hy hkk hcc ++ [nf, nf, yt, eq64 76 (by_.tdiv 16) hd, .eqv 78 (ni ((C.map cV2).length : Int)) (ni ((m + 1 : Nat) : Int)) (by rw [List.length_map, hm]), cl (e_around hd m), .eqv 79 (ni (rnd (by_.tdiv 16) m)) (ni k2) (by rw [hk2]),
    .sel (C.map cV2) _ _ (rel e2), .sel (C.map cV2) _ _ (rel e2), .sel (C.map cV2) _ _ (rel ek), .upd (C.map cV2) _ _ (cV2 v2) ((C.set kk v2).map cV2) (rel ek) (hset _)]) (by kernel_rfl)
 · refine ⟨C.set kk (oV (Pg.mid a b)), hg'.set kk gmid, (hs1 _).1, (hs1 _).2, ?_⟩
   exact tr (sG C hm hn hy hkk hcc ++ [nf, nf, nf, yt, .sel (C.map cV2) _ _ (rel ek), cl enx, cl emid, .sel (C.map cV2) _ _ (rel ek), .upd (C.map cV2) _ _ (cV2 (oV (Pg.mid a b))) ((C.set kk (oV (Pg.mid a b))).map cV2) (rel ek) (hset _)]) (by kernel_rfl)
 · let X : Nat × List RV → St := fun x => at_ (fnOf PP 12) [(0, rL C), (7, .ow 0), (9, ni x.1), (27, ni 4)] [.rw 35 8 (x.2.map cV2)]
   have loop : ∃ C', (gC (k + k + 10) C' ∧ C'.length = C.length) ∧ Gd PP 12 (rL C') (lp (fnOf PP 12) 0) (X (0, C)) := by
    refine Gd.loopE (R := fun D : List RV => (rL D : RD)) X (fun x => x.1 ≤ C.length ∧ gC (k + k + 10) x.2 ∧ x.2.length = C.length) (fun x => C.length - x.1) ?_ (0, C) ⟨Nat.zero_le _, hg', rfl⟩
    rintro ⟨i, D⟩ ⟨hi, hD, hDl⟩ ih
    simp only at hi hD hDl ih
    by_cases h : i < C.length
    · have w1 : IntKind.i64.wrap (((C.map cV2).length : Int) - 1) = ((C.length - 1 : Nat) : Int) := by rw [hl, IntKind.wrap_i64]; omega
      have w2 : IntKind.i64.wrap (((C.length - 1 : Nat) : Int) - (i : Int)) = ((C.length - 1 - i : Nat) : Int) := by rw [IntKind.wrap_i64]; omega
      have hj : C.length - 1 - i < C.length := by omega
      have ej : C[C.length - 1 - i]? = some C[C.length - 1 - i] := List.getElem?_eq_getElem hj
      obtain ⟨a2, ha2⟩ := hg' _ (List.getElem_mem hj)
      generalize C[C.length - 1 - i] = v2 at ej ha2
      have hiD : i < D.length := by omega
      have eD : D[i]? = some D[i] := List.getElem?_eq_getElem hiD
      generalize D[i] = d at eD
      obtain ⟨C', h1, h2⟩ := ih (i + 1, D.set i v2) ⟨h, hD.set i ha2, by rw [List.length_set]; exact hDl⟩ (by simp only; omega)
      exact ⟨C', h1, .to mo_ [] [0, 7, 9, 27] [0] 1 [ye (t := ir_ i C) (ir_t h), .eqv 109 (ni (IntKind.i64.wrap (((C.map cV2).length : Int) - 1))) (ni (C.length - 1 : Nat)) (by rw [w1]), .eqv 111 (ni (IntKind.i64.wrap (((C.length - 1 : Nat) : Int) - (i : Int)))) (ni (C.length - 1 - i : Nat)) (by rw [w2]), .sel (C.map cV2) _ _ (rel ej),
       .sel (D.map cV2) i _ (rel eD), .upd (D.map cV2) i _ (cV2 v2) ((D.set i v2).map cV2) (rel eD) (by rw [List.map_set]), inc 103 i (by omega)] h2 (by kernel_rfl)⟩
    · exact ⟨D, ⟨hD, hDl⟩, fi [na (t := ir_ i C) (ir_f h)] (by kernel_rfl) (by kernel_rfl)⟩
   obtain ⟨C', ⟨h1, h2⟩, h3⟩ := loop
   exact ⟨C', h1, by omega, by omega, pf (by kernel_rfl) (.to mo_ [.mv 0 1] [0, 7, 9, 27] [0] 1 (sG C hm hn hy hkk hcc ++ [nf, nf, nf, nf, yt]) h3 (by kernel_rfl))⟩
 · let nv : RV := (⟨cv.1.s, cv.1.l, false, [1]⟩, cv.2)
   have gnv : gV (k + k + 10) nv ((a.1.num : Rat), a.2) := by
    refine ⟨⟨⟨?_, ?_⟩, .inr ⟨rfl, ?_⟩⟩, ha.2.mono (by omega)⟩
    · exact ha.1.1.1.mono (by omega)
    · show I.Bd _ ((1 : Nat) : Int)
      unfold I.Bd
      have : 2 ^ 1 ≤ 2 ^ (k + k + 10) := Nat.pow_le_pow_right (by omega) (by omega)
      simp
    · obtain ⟨⟨_, e | ⟨_, e⟩⟩, _⟩ := ha <;> (show (⟨cv.1.s, cv.1.l, false, [1]⟩ : RN) = _; rw [e]; rfl)
   refine ⟨C.set kk nv, hg'.set kk gnv, (hs1 _).1, (hs1 _).2, ?_⟩
   exact tr (sG C hm hn hy hkk hcc ++ [nf, nf, nf, nf, nf, yt, .sel (C.map cV2) _ _ (rel ek), .sel (C.map cV2) _ _ (rel ek), .ro, .sel (C.map cV2) _ _ (rel ek), .upd (C.map cV2) _ _ (cV2 nv) ((C.set kk nv).map cV2) (rel ek) (hset _)]) (by kernel_rfl)
 · have e1 : ((C.map cV2).take kk).drop 0 = (C.take kk).map cV2 := by rw [List.drop_zero, List.map_take]
   have e2 : ((C.map cV2).take (C.map cV2).length).drop kk = (C.drop kk).map cV2 := by rw [List.take_of_length_le (Nat.le_refl _), List.map_drop]
   have hd : 0 < ((C.drop kk).map cV2).length := by rw [List.length_map, List.length_drop]; omega
   let M : RV := oV (Pg.mid a b)
   refine ⟨C.take kk ++ [M] ++ C.drop kk, ((hg'.take kk).app (gC.one gmid)).app (hg'.drop kk), by simp; omega, by simp; omega, ?_⟩
   let B : List F_ := [.slc (C.map cV2) kk (C.map cV2).length 8 _ e2 (by omega) (fun cs h => (cV2_ok C cs h).1), .aps ((C.take kk ++ [M]).map cV2) ((C.drop kk).map cV2) ((C.take kk ++ [M] ++ C.drop kk).map cV2) 200 8 (by rw [List.map_append (l₁ := _ ++ _)]) hd (by rw [List.length_map]; simp; omega) (cV2_ok _)]
   by_cases hz : kk = 0
   · exact tr (sG C hm hn hy hkk hcc ++ [nf, nf, nf, nf, nf, nf, .slc (C.map cV2) 0 kk 8 _ e1 (by omega) (fun cs h => (cV2_ok C cs h).1), .ape ((C.take kk).map cV2) (by rw [hz]; rfl), .sel (C.map cV2) _ _ (rel ek), cl enx, cl emid, .app [] [cV2 M] ((C.take kk ++ [M]).map cV2) 200 (by rw [hz]; rfl) (by simp) (by rw [hz]; simp)] ++ B) (by kernel_rfl)
   · exact tr (sG C hm hn hy hkk hcc ++ [nf, nf, nf, nf, nf, nf, .slc (C.map cV2) 0 kk 8 _ e1 (by omega) (fun cs h => (cV2_ok C cs h).1), .aps [] ((C.take kk).map cV2) ((C.take kk).map cV2) 200 8 rfl (by rw [List.length_map, List.length_take]; omega) (by rw [List.length_map, List.length_take]; omega) (cV2_ok _),
      .sel (C.map cV2) _ _ (rel ek), cl enx, cl emid, .app ((C.take kk).map cV2) [cV2 M] ((C.take kk ++ [M]).map cV2) 200 (by rw [List.map_append]; rfl) (by simp) (by rw [List.length_map]; simp; omega)] ++ B) (by kernel_rfl)
end
end Go.Proofs.YtcfejkpadcccbaaGreat.E
namespace Go.Proofs.YtcfejkpadcccbaaGreat
open Go.RowKit
theorem is64_of {n : Int} (h : (Lit.int .i64 n).wf = true) : W.Is64 n := by
 have := bounds_i64 h
 unfold W.Is64
 omega
end Go.Proofs.YtcfejkpadcccbaaGreat
namespace Go.Proofs.YtcfejkpadcccbaaGreat.E
open Go.RowKit
set_option linter.unusedVariables false
theorem cb_of {w : World} {b o : Nat} {v : Value} (h : w.cell? ⟨b, o, none⟩ = some v) : CB w b := by
 unfold World.cell? at h
 split at h
 · rename_i cs T fr hb
   exact ⟨cs, T, fr, hb⟩
 · cases h
def Rt (X : World → Value → Prop) (w : World) (e : Ending) (w' : World) : Prop := ∃ v, e = .returned v ∧ X w' v ∧ Below w.heap.size w w'
theorem back {P : Program} {f : FuncId} {ds : List V} {d : V} (h : Pure P f ds d) {w : World} {args : Array Value} (ha : Reps w (fun _ => False) no args ds) : Calls P f args w (Rt (fun w v => Rep w (fun _ => False) no v d) w) :=
 (h.2 w (fun _ => False) args (fun _ h => h.elim) ha).mono fun e w' h => h
theorem to_tt {w w' : World} {e : Ending} (h : Rt (fun w v => Rep w (fun _ => False) no v (bo true)) w e w') : e = .returned (.bool true) ∧ Below w.heap.size w w' := by
 obtain ⟨v, rfl, h1, h2⟩ := h
 exact ⟨by rw [Rep.k_inv h1], h2⟩
/-- A law of any arguments. -/
theorem lawG {f : FuncId} {us : List Value} {ds : List V} {w : World} (h : Pure PP f ds (bo true)) (hl : us.length = ds.length) (hr : ∀ j, j < ds.length → Rep w (fun _ => False) no (us.getD j undef) (ds.getD j .un)) :
    Calls PP f us.toArray w fun e w' => e = .returned (.bool true) ∧ Below w.heap.size w w' :=
 (back h (reps_of hl hr)).mono fun _ _ => to_tt
theorem all4 {p : Nat → Prop} (h0 : p 0) (h1 : p 1) (h2 : p 2) (h3 : p 3) : ∀ j, j < 4 → p j := fun j hj => by
 match j, hj with
 | 0, _ => exact h0
 | 1, _ => exact h1
 | 2, _ => exact h2
 | 3, _ => exact h3
end Go.Proofs.YtcfejkpadcccbaaGreat.E
namespace Go.Proofs.YtcfejkpadcccbaaGreat.E
open Go.RowKit
set_option linter.unusedVariables false
/-- The cells of a type. -/
inductive Sh where
 | bb
 | ii (k : IntKind)
 | ss
 | row (e : List Sh)
def shapeF (g : TypeId → Option (List Sh)) (c : TypeId → Nat) : Nat → List Field → Option (List Sh)
 | _, [] => some []
 | o, f :: r => match g f.type, shapeF g c (o + c f.type) r with
   | some l, some m => match Nat.beq f.offset o && Nat.beq l.length (c f.type) with
     | true => some (l ++ m)
     | false => none
   | _, _ => none
def shape (P : Program) : Nat → TypeId → Option (List Sh)
 | 0, _ => none
 | n + 1, t => match P.underlying t with
   | some .bool => some [.bb]
   | some (.int k) => some [.ii k]
   | some .string => some [.ss]
   | some (.slice e) => match shape P n e with
     | some l => match Nat.beq l.length (P.cellsOf e) && Nat.blt 0 l.length with
       | true => some [.row l]
       | false => none
     | none => none
   | some (.struct fs) => match shapeF (shape P n) P.cellsOf 0 fs.toList with
     | some l => match Nat.beq l.length (P.cellsOf t) with
       | true => some l
       | false => none
     | none => none
   | _ => none
/-- What stands in such a cell. -/
inductive Fit : Sh → V → Prop
 | b (x : Bool) : Fit .bb (.k (.bool x))
 | i (k : IntKind) (n : Int) (h : (Lit.int k n).wf = true) : Fit (.ii k) (.k (.int k n))
 | s (x : ByteArray) (h : x.size ≤ maxLen) : Fit .ss (.k (.string x))
 | row (e : List Sh) (l : List (List V)) (h0 : l.length ≤ maxLen) (h1 : ∀ cs ∈ l, cs.length = e.length) (h2 : ∀ cs ∈ l, ∀ (j : Nat) (sh : Sh) (x : V), e[j]? = some sh → cs[j]? = some x → Fit sh x) : Fit (.row e) (.sl l)
def FitL (e : List Sh) (xs : List V) : Prop := xs.length = e.length ∧ ∀ (j : Nat) (sh : Sh) (x : V), e[j]? = some sh → xs[j]? = some x → Fit sh x
abbrev FA : Nat → Prop := fun _ => False
def RepL (w : World) (cs : List Value) (xs : List V) : Prop := ∀ (j : Nat) (v : Value) (d : V), cs[j]? = some v → xs[j]? = some d → Rep w FA no v d
theorem FitL.nil : FitL [] [] := ⟨rfl, fun j sh x h => by simp at h⟩
theorem FitL.one {q : Sh} {x : V} (h : Fit q x) : FitL [q] [x] := ⟨rfl, fun j sh y h1 h2 => by
 match j with
 | 0 => simp at h1 h2; subst h1; subst h2; exact h
 | j + 1 => simp at h1⟩
theorem FitL.app {e f : List Sh} {xs ys : List V} (h : FitL e xs) (g : FitL f ys) : FitL (e ++ f) (xs ++ ys) := by
 refine ⟨by rw [List.length_append, List.length_append, h.1, g.1], fun j sh x h1 h2 => ?_⟩
 by_cases hj : j < e.length
 · rw [List.getElem?_append_left hj] at h1
   rw [List.getElem?_append_left (by rw [h.1]; exact hj)] at h2
   exact h.2 j sh x h1 h2
 · rw [List.getElem?_append_right (by omega)] at h1
   rw [List.getElem?_append_right (by rw [h.1]; omega), h.1] at h2
   exact g.2 _ sh x h1 h2
section
variable {H : Type} {enc : TypeId × Value → H} {P : Program} {w : World}
theorem fields_rep {g : TypeId → Option (List Sh)} {c : TypeId → Nat} {α : Type} {tr : TypeId → List Value → Option α} {cs : List Value} (hg : ∀ t cs' x l, tr t cs' = some x → g t = some l → cs'.length = l.length ∧ ∃ xs, FitL l xs ∧ RepL w cs' xs) :
  ∀ (r : List Field) (o : Nat) (l : List Sh), shapeF g c o r = some l → (∀ f ∈ r, ∃ x, tr f.type ((cs.drop f.offset).take (c f.type)) = some x) → ∃ xs, FitL l xs ∧ RepL w (cs.drop o) xs
 | [], o, l, h, _ => by
  simp only [shapeF, Option.some.injEq] at h
  subst h
  exact ⟨[], FitL.nil, fun j v d _ h => by simp at h⟩
 | f :: r, o, l, h, ht => by
  simp only [shapeF] at h
  split at h
  · rename_i l1 l2 e1 e2
    split at h
    · rename_i hc
      simp only [Bool.and_eq_true, Nat.beq_eq] at hc
      injection h with h
      subst h
      obtain ⟨x, hx⟩ := ht f (List.mem_cons_self ..)
      obtain ⟨h1, xs, h2, h3⟩ := hg _ _ _ _ hx e1
      obtain ⟨ys, h4, h5⟩ := fields_rep hg r _ _ e2 fun f hf => ht f (List.mem_cons_of_mem _ hf)
      refine ⟨xs ++ ys, h2.app h4, fun j v d hv hd => ?_⟩
      rw [hc.1] at h3
      by_cases hj : j < l1.length
      · rw [List.getElem?_append_left (by rw [h2.1]; exact hj)] at hd
        refine h3 j v d ?_ hd
        rw [List.getElem?_take, if_pos (by omega)]
        exact hv
      · rw [List.getElem?_append_right (by rw [h2.1]; omega), h2.1] at hd
        refine h5 (j - l1.length) v d ?_ hd
        rw [List.getElem?_drop] at hv ⊢
        rw [show o + c f.type + (j - l1.length) = o + j by omega]
        exact hv
    · cases h
  · cases h
theorem trod_rep : ∀ (fuel n : Nat) (t : TypeId) (cs : List Value) (x : DataW H × List MemPlace) (l : List Sh), DataW.trod enc P w 0 (fun _ => true) true fuel t cs = some x → shape P n t = some l → cs.length = l.length ∧ ∃ xs, FitL l xs ∧ RepL w cs xs := by
 intro fuel
 induction fuel with
 | zero => intro n t cs x l h; simp [DataW.trod] at h
 | succ fuel ih =>
  intro n t cs x l h hs
  cases n with
  | zero => cases hs
  | succ n =>
   have one : ∀ {q : Sh} {v : Value} {d : V}, Fit q d → Rep w FA no v d → [v].length = [q].length ∧ ∃ xs, FitL [q] xs ∧ RepL w [v] xs := fun {q v d} h1 h2 => ⟨rfl, [d], FitL.one h1, fun j v' d' e1 e2 => by
    match j with
    | 0 => simp at e1 e2; subst e1; subst e2; exact h2
    | j + 1 => simp at e1⟩
   unfold shape at hs
   split at hs
   · rename_i hu
     injection hs with hs; subst hs
     unfold DataW.trod at h
     rw [hu] at h
     split at h <;> simp_all
     exact one (.b _) (.k _ _)
   · rename_i k hu
     injection hs with hs; subst hs
     unfold DataW.trod at h
     rw [hu] at h
     split at h <;> simp_all
     obtain ⟨⟨rfl, h1⟩, _⟩ := h
     exact one (.i _ _ h1) (.k _ _)
   · rename_i hu
     injection hs with hs; subst hs
     unfold DataW.trod at h
     rw [hu] at h
     split at h <;> simp_all
     exact one (.s _ h.1) (.k _ _)
   · rename_i e hu
     split at hs
     · rename_i l' hl'
       split at hs
       · rename_i hc
         simp only [Bool.and_eq_true, Nat.beq_eq, Nat.blt_eq] at hc
         injection hs with hs; subst hs
         rcases DataW.trod_slice hu h with ⟨rfl, _⟩ | ⟨a, len, cap, elems, rest, n', hn', rfl, rfl, hb, hl, hm, hlen, hel, hsp, hns⟩
         · exact one (.row l' [] (by simp) (by simp) (by simp)) (.sl _ none 0 0 0 l'.length [] (fun _ _ => undef) (Nat.zero_le _) (Nat.zero_le _) (by simp) (by simp) (by simp) (by simp))
         · obtain rfl : fuel = n' := by omega
           have he : ∀ i, i < len → ∃ xs, FitL l' xs ∧ ∀ j d, xs[j]? = some d → ∃ v, w.cell? (a.add (i * P.cellsOf e) |>.add j) = some v ∧ Rep w FA no v d := by
            intro i hi
            have hq := hel i hi
            rw [List.getElem?_eq_getElem (by omega)] at hq
            obtain ⟨cs', h1, h2⟩ := Option.bind_eq_some_iff.1 hq
            obtain ⟨h3, xs, h4, h5⟩ := ih n e cs' _ l' h2 hl'
            obtain ⟨_, h6, h7⟩ := World.cells?_some h1
            refine ⟨xs, h4, fun j d hd => ?_⟩
            have hjl := (List.getElem?_eq_some_iff.1 hd).1
            rw [h4.1] at hjl
            have hv : cs'[j]? = some cs'[j] := List.getElem?_eq_getElem (by omega)
            exact ⟨_, (h7 j (by omega)).trans hv, h5 j _ d hv hd⟩
           by_cases h0 : len = 0
           · subst h0
             exact one (.row l' [] (by simp) (by simp) (by simp)) (.sl _ (some a) 0 0 cap l'.length [] (fun _ _ => undef) (Nat.zero_le _) hm (by simp) (by simp) (by simp) (by simp))
           · have hch : ∃ F : Nat → List V, ∀ i, i < len → FitL l' (F i) ∧ ∀ j d, (F i)[j]? = some d → ∃ v, w.cell? (a.add (i * P.cellsOf e) |>.add j) = some v ∧ Rep w FA no v d :=
              ⟨fun i => if h : i < len then (he i h).choose else [], fun i hi => by simp only [dif_pos hi]; exact (he i hi).choose_spec⟩
             obtain ⟨F, hF⟩ := hch
             obtain ⟨b, o, spot⟩ := a
             have hspot : spot = none := by
              obtain ⟨h1, h2⟩ := hF 0 (by omega)
              have hlt : 0 < (F 0).length := by rw [h1.1]; exact hc.2
              obtain ⟨v, h3, _⟩ := h2 0 _ (List.getElem?_eq_getElem hlt)
              simpa [Addr.add] using World.cell?_spot h3
             subst hspot
             have hadd : ∀ i j : Nat, ((⟨b, o, none⟩ : Addr).add (i * P.cellsOf e)).add j = ⟨b, o + i * l'.length + j, none⟩ := fun i j => by rw [hc.1, Go.WideShapes.add_plain, Go.WideShapes.add_plain]
             let L : List (List V) := (List.range len).map F
             have hL : L.length = len := by simp [L]
             have hLi : ∀ i cs, L[i]? = some cs → i < len ∧ cs = F i := fun i cs hi => by
              have hlt := (List.getElem?_eq_some_iff.1 hi).1
              rw [hL] at hlt
              simp only [L, List.getElem?_map, List.getElem?_range hlt, Option.map_some, Option.some.injEq] at hi
              exact ⟨hlt, hi.symm⟩
             have hmem : ∀ cs ∈ L, ∃ i, i < len ∧ cs = F i := fun cs hcs => by
              obtain ⟨i, hi⟩ := List.getElem?_of_mem hcs
              exact ⟨i, hLi i cs hi⟩
             have hr : Rep w FA no (.slice (some ⟨b, o, none⟩) L.length cap) (.sl L) := by
              refine .sl _ _ b o cap l'.length L (fun i j => (w.cell? ⟨b, o + i * l'.length + j, none⟩).getD undef) (by omega) hm (fun _ => ⟨rfl, fun e => e, ?_⟩) (fun cs hcs => ?_) (fun i j cs x hi hj => ?_) (fun i j cs x hi hj => ?_)
              · obtain ⟨h1, h2⟩ := hF 0 (by omega)
                have hlt : 0 < (F 0).length := by rw [h1.1]; exact hc.2
                obtain ⟨v, h3, _⟩ := h2 0 _ (List.getElem?_eq_getElem hlt)
                rw [hadd] at h3
                exact cb_of h3
              · obtain ⟨i, hi, rfl⟩ := hmem cs hcs
                exact (hF i hi).1.1
              · obtain ⟨hi', rfl⟩ := hLi i cs hi
                obtain ⟨v, h3, _⟩ := (hF i hi').2 j x hj
                rw [hadd] at h3
                rw [h3]; rfl
              · obtain ⟨hi', rfl⟩ := hLi i cs hi
                obtain ⟨v, h3, h4⟩ := (hF i hi').2 j x hj
                rw [hadd] at h3
                rw [h3]
                exact h4
             rw [hL] at hr
             refine one (.row l' L (by omega) (fun cs hcs => ?_) (fun cs hcs j sh x h1 h2 => ?_)) hr
             · obtain ⟨i, hi, rfl⟩ := hmem cs hcs
               exact (hF i hi).1.1
             · obtain ⟨i, hi, rfl⟩ := hmem cs hcs
               exact (hF i hi).1.2 j sh x h1 h2
       · cases hs
     · cases hs
   · rename_i fs hu
     split at hs
     · rename_i l' hl'
       split at hs
       · rename_i hc
         have hc := Nat.eq_of_beq_eq_true hc
         injection hs with hs; subst hs
         obtain ⟨xs, n', hn', _, h1, h2, h3⟩ := DataW.trod_struct hu h
         obtain rfl : fuel = n' := by omega
         obtain ⟨ys, h4, h5⟩ := fields_rep (w := w) (c := P.cellsOf) (tr := fun t cs => DataW.trod enc P w 0 (fun _ => true) true fuel t cs) (cs := cs) (fun t cs' x l a b => ih n t cs' x l a b) fs.toList 0 l' hl' (fun f hf => by
          obtain ⟨i, hi⟩ := List.getElem?_of_mem hf
          have hi2 : fs[i]? = some f := by simpa using hi
          have hlt := (Array.getElem?_eq_some_iff.1 hi2).1
          have h6 := h3 i f hi2
          rw [List.getElem?_eq_getElem (by omega)] at h6
          exact ⟨_, h6⟩)
         exact ⟨by omega, ys, h4, by simpa using h5⟩
       · cases hs
     · cases hs
   · cases hs
/-- An argument of one cell. -/
theorem arg_1 {n : Nat} {t : TypeId} {v : Value} {d : DataW H} {ps : List MemPlace} {q : Sh} (h : DataW.Trod enc P w 0 (fun _ => true) true t v d ps) (hv : v.cells = #[v]) (hs : shape P n t = some [q]) : ∃ x, Fit q x ∧ Rep w FA no v x := by
 obtain ⟨fuel, hf⟩ := h
 rw [hv] at hf
 obtain ⟨_, xs, h1, h2⟩ := trod_rep fuel n t _ _ _ hf hs
 match xs, h1 with
 | [x], h1 => exact ⟨x, h1.2 0 q x rfl rfl, h2 0 v x rfl rfl⟩
end
/-- A row of ints. -/
theorem Fit.ints {x : V} (h : Fit (.row [.ii .i64]) x) : ∃ l : List Int, x = zl l ∧ ∀ n ∈ l, W.Is64 n := by
 cases h with
 | row e l h0 h1 h2 =>
  clear h0
  suffices h : ∃ l' : List Int, l = zs l' ∧ ∀ n ∈ l', W.Is64 n by
   obtain ⟨l', rfl, h⟩ := h
   exact ⟨l', rfl, h⟩
  induction l with
  | nil => exact ⟨[], rfl, by simp⟩
  | cons a r ih =>
   obtain ⟨l', rfl, h3⟩ := ih (fun cs h => h1 cs (List.mem_cons_of_mem _ h)) (fun cs h => h2 cs (List.mem_cons_of_mem _ h))
   have hl := h1 a (List.mem_cons_self ..)
   have hf := h2 a (List.mem_cons_self ..)
   match a, hl with
   | [y], _ =>
    have hy := hf 0 _ y rfl rfl
    cases hy with
    | i k n hw => exact ⟨n :: l', rfl, fun m hm => by
      rcases List.mem_cons.1 hm with rfl | hm
      · exact is64_of hw
      · exact h3 m hm⟩
theorem FitL.inv {a : Sh} {r : List Sh} {xs : List V} (h : FitL (a :: r) xs) : ∃ x ys, xs = x :: ys ∧ Fit a x ∧ FitL r ys := by
 obtain ⟨h1, h2⟩ := h
 match xs, h1 with
 | x :: ys, h1 => exact ⟨x, ys, rfl, h2 0 a x rfl rfl, by simpa using h1, fun j sh y e1 e2 => h2 (j + 1) sh y (by simpa using e1) (by simpa using e2)⟩
theorem Fit.int {x : V} (h : Fit (.ii .i64) x) : ∃ n : Int, x = ni n ∧ W.Is64 n := by
 cases h with
 | i k n hw => exact ⟨n, rfl, is64_of hw⟩
theorem Fit.bool {x : V} (h : Fit .bb x) : ∃ b : Bool, x = bo b := by
 cases h with
 | b x => exact ⟨x, rfl⟩
end Go.Proofs.YtcfejkpadcccbaaGreat.E
