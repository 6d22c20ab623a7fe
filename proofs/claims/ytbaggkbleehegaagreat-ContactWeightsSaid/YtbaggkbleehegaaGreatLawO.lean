/-
 THE LAWS by the engine, their arguments as they come in.
-/
import Derived.Test.YtbaggkbleehegaaGreatExM
import Derived.Test.YtbaggkbleehegaaGreatFlow
import Derived.OpenShut
import Derived.Test.YtbaggkbleehegaaGreatWalkPgG
namespace Go.Proofs.YtbaggkbleehegaaGreat.E.Ct
open Go.RowKit
set_option linter.unusedVariables false
set_option linter.unusedSimpArgs false
def mvPl (c : Vc) (p : Pl) : Pl := (p.1, vadd p.2 c)
def Sc.mv (s : Sc) (c : Vc) : Sc := ⟨s.L, s.A.map (mvPl c)⟩
def Su.mv (s : Su) (c : Vc) : Su := ⟨s.L.map fun a => vadd a c, vadd s.P c, vadd s.Q c, s.e⟩
def sgM (c : Vc) (x : Vc × Vc) : Vc × Vc := (vadd x.1 c, vadd x.2 c)
def To.mv (c : Vc) (t : To) : To := ⟨t.a, t.b, vadd t.p c, vadd t.q c, t.n, t.r⟩
def Bo.mv (c : Vc) (b : Bo) : Bo := ⟨vadd b.c c, b.light, b.heavy, b.str⟩
section
variable {s : Sc} {st gl : Int} {l : List Ft} {u : Su} {c : Vc} {k j n b : Nat} {rt : Nat → Int}
theorem cmp_add (r t x : Rat) : cmpQ (r + x) (t + x) = cmpQ r t := by
 have h1 : (r + x < t + x) ↔ r < t := by grind
 have h2 : (t + x < r + x) ↔ t < r := by grind
 unfold cmpQ
 simp only [h1, h2]
theorem le_add (r t x : Rat) : le0 (r + x) (t + x) = le0 r t := by unfold le0; rw [cmp_add]
theorem gt_add (r t x : Rat) : gt0 (r + x) (t + x) = gt0 r t := by unfold gt0; rw [cmp_add]
theorem lt_add (r t x : Rat) : lt0 (r + x) (t + x) = lt0 r t := by unfold lt0; rw [cmp_add]
theorem near_add (y h e x : Rat) : nearB (y + x) (h + x) e = nearB y h e := by
 unfold nearB
 rw [show y + x - (h + x) = y - h by grind]
theorem Su.mv_len (u : Su) (c : Vc) : (u.mv c).L.length = u.L.length := List.length_map ..
theorem Su.mv_at (hk : k < u.L.length) : (u.mv c).at_ k = vadd (u.at_ k) c := by
 unfold Su.at_ Su.mv
 simp only
 rw [List.getD_eq_getElem?_getD, List.getD_eq_getElem?_getD, List.getElem?_map, List.getElem?_eq_getElem hk]
 rfl
theorem Su.mv_level (hk : k < u.L.length) : (u.mv c).level k = u.level k := by
 have hn : (u.mv c).nx k = u.nx k := by unfold Su.nx; rw [u.mv_len]
 have h2 : u.nx k < u.L.length := Nat.mod_lt _ (by omega)
 unfold Su.level Su.near
 rw [hn, Su.mv_at hk, Su.mv_at h2]
 show (gt0 ((u.at_ (u.nx k)).1 + c.1) ((u.at_ k).1 + c.1) && (nearB ((u.at_ k).2 + c.2) (u.P.2 + c.2) u.e && nearB ((u.at_ (u.nx k)).2 + c.2) (u.P.2 + c.2) u.e)) = _
 rw [gt_add, near_add, near_add]
theorem Su.mv_near (hk : k < u.L.length) : (u.mv c).near k = u.near k := by
 unfold Su.near
 rw [Su.mv_at hk]
 exact near_add _ _ _ _
theorem Su.mv_sg1 (hk : k < u.L.length) : (u.mv c).sg1 k = (u.sg1 k).map (sgM c) := by
 have hn : (u.mv c).nx k = u.nx k := by unfold Su.nx; rw [u.mv_len]
 have h2 : u.nx k < u.L.length := Nat.mod_lt _ (by omega)
 have hf : (u.mv c).from_ k = u.from_ k + c.1 := by
  unfold Su.from_
  rw [Su.mv_at hk]
  show (if lt0 ((u.at_ k).1 + c.1) (u.P.1 + c.1) = true then u.P.1 + c.1 else (u.at_ k).1 + c.1) = _
  rw [lt_add]
  split <;> rfl
 have ht : (u.mv c).to_ k = u.to_ k + c.1 := by
  unfold Su.to_
  rw [hn, Su.mv_at h2]
  show (if gt0 ((u.at_ (u.nx k)).1 + c.1) (u.Q.1 + c.1) = true then u.Q.1 + c.1 else (u.at_ (u.nx k)).1 + c.1) = _
  rw [gt_add]
  split <;> rfl
 unfold Su.sg1
 rw [Su.mv_level hk, hf, ht, le_add]
 split <;> rfl
theorem Su.mv_sg2 (hk : k < u.L.length) : (u.mv c).sg2 k = (u.sg2 k).map (sgM c) := by
 have hn : (u.mv c).nx k = u.nx k := by unfold Su.nx; rw [u.mv_len]
 have hb : (u.mv c).bf k = u.bf k := by unfold Su.bf; rw [u.mv_len]
 have h2 : u.nx k < u.L.length := Nat.mod_lt _ (by omega)
 have h3 : u.bf k < u.L.length := Nat.mod_lt _ (by omega)
 have e : (u.mv c).tip k = u.tip k := by
  unfold Su.tip
  rw [hn, hb, Su.mv_level hk, Su.mv_level h3, Su.mv_near hk, Su.mv_at hk, Su.mv_at h2, Su.mv_at h3]
  show (!(u.level k) && (!(u.level (u.bf k)) && (u.near k && (!(lt0 ((u.at_ k).1 + c.1) (u.P.1 + c.1)) && (!(gt0 ((u.at_ k).1 + c.1) (u.Q.1 + c.1)) && (!(lt0 ((u.at_ (u.bf k)).2 + c.2) ((u.at_ k).2 + c.2)) && !(lt0 ((u.at_ (u.nx k)).2 + c.2) ((u.at_ k).2 + c.2)))))))) = _
  rw [lt_add, gt_add, lt_add, lt_add]
 unfold Su.sg2
 rw [e, Su.mv_at hk]
 split <;> rfl
theorem flat_mv {α β : Type} {f : Nat → List α} {g : Nat → List β} {h : α → β} (hfg : ∀ i, i < n → g i = (f i).map h) : (List.range n).flatMap g = ((List.range n).flatMap f).map h := by
 rw [List.map_flatMap]
 have : ∀ L : List Nat, (∀ i ∈ L, i < n) → L.flatMap g = L.flatMap fun a => (f a).map h := fun L hL => by
  induction L with
  | nil => rfl
  | cons a L ih =>
   rw [List.flatMap_cons, List.flatMap_cons, hfg a (hL a (List.mem_cons_self ..)), ih fun i hi => hL i (List.mem_cons_of_mem _ hi)]
 exact this _ fun i hi => List.mem_range.1 hi
theorem Su.mv_segs (u : Su) (c : Vc) : (u.mv c).segs = u.segs.map (sgM c) := by
 unfold Su.segs Su.p2 Su.p1
 rw [u.mv_len, List.map_append, flat_mv (h := sgM c) fun i hi => Su.mv_sg1 hi, flat_mv (h := sgM c) fun i hi => Su.mv_sg2 hi]
theorem put_mv (c : Vc) (p : Pl) (a : Vc) : vput (mvPl c p) a = vadd (vput p a) c := by
 unfold vput mvPl vadd
 simp only [Prod.mk.injEq]
 constructor <;> grind
theorem plRim_mv (c : Vc) (p : Pi) (pl : Pl) : plRim p (mvPl c pl) = (plRim p pl).map fun a => vadd a c := by
 unfold plRim
 rw [List.map_map]
 exact List.map_congr_left fun a _ => put_mv c pl a
theorem Sc.mv_pl (s : Sc) (c : Vc) (hk : k < s.A.length) : (s.mv c).pl k = mvPl c (s.pl k) := by
 unfold Sc.pl Sc.mv
 simp only
 rw [List.getD_eq_getElem?_getD, List.getD_eq_getElem?_getD, List.getElem?_map, List.getElem?_eq_getElem hk]
 rfl
theorem Sc.mv_pi (s : Sc) (c : Vc) (k : Nat) : (s.mv c).pi k = s.pi k := rfl
theorem prs_mv (P Q : Vc) (hn : s.L.length ≤ s.A.length) : (s.mv c).prs st (vadd P c) (vadd Q c) s.L.length = (s.prs st P Q s.L.length).map (To.mv c) := by
 unfold Sc.prs
 refine flat_mv (h := To.mv c) fun k hk => ?_
 unfold Sc.pr1
 split
 · have e : (s.mv c).su (vadd P c) (vadd Q c) k = (s.su P Q k).mv c := by
    unfold Sc.su Su.mv
    rw [Sc.mv_pi, Sc.mv_pl s c (by omega), plRim_mv]
   rw [e, Su.mv_segs, List.map_map, List.map_map]
   refine List.map_congr_left fun x _ => ?_
   show prT k (s.pi k).rough (sgM c x) = To.mv c (prT k (s.pi k).rough x)
   have hw : wide (sgM c x) = wide x := by
    unfold wide sgM vadd
    simp only
    rw [show x.2.1 + c.1 - (x.1.1 + c.1) = x.2.1 - x.1.1 by grind]
   unfold prT To.mv
   rw [hw]
   rfl
 · rfl
theorem cn_mv {L : List Vc} (h : 0 < L.length) (i : Nat) : cn (L.map fun a => vadd a c) i = vadd (cn L i) c := by
 have hm : i % L.length < L.length := Nat.mod_lt _ h
 unfold cn
 rw [List.length_map, List.getD_eq_getElem?_getD, List.getD_eq_getElem?_getD, List.getElem?_map, List.getElem?_eq_getElem hm]
 rfl
theorem tch_mv (hf : ∀ f ∈ l, f.Ok s) (h : s.Ok b) : tch (s.mv c) st l = (tch s st l).map (To.mv c) := by
 have hn := h.n
 unfold tch
 rw [List.map_flatMap]
 have : ∀ L : List Ft, (∀ f ∈ L, f.Ok s) → L.flatMap (tch1 (s.mv c) st) = L.flatMap fun a => (tch1 s st a).map (To.mv c) := fun L hL => by
  induction L with
  | nil => rfl
  | cons f L ih =>
   rw [List.flatMap_cons, List.flatMap_cons, ih fun i hi => hL i (List.mem_cons_of_mem _ hi)]
   congr 1
   have fo := hL f (List.mem_cons_self ..)
   have g := h.g f.a fo.a
   unfold tch1
   split
   · rw [List.map_map]
     refine List.map_congr_left fun k _ => ?_
     show tT (s.mv c) f k = To.mv c (tT s f k)
     have hr : 0 < (plRim (s.pi f.a) (s.pl f.a)).length := by rw [plRim_len]; exact g.ok.n.1
     unfold tT To.mv
     rw [Sc.mv_pi, Sc.mv_pl s c (by have := fo.a; omega), plRim_mv, cn_mv hr, cn_mv hr]
     simp only
     have hv : ∀ p q : Vc, vsub (vadd p c) (vadd q c) = vsub p q := fun p q => by
      unfold vsub vadd
      simp only [Prod.mk.injEq]
      constructor <;> grind
     rw [hv]
     rfl
   · rfl
 exact this l hf
/-- All weigh something. -/
def Sc.Pos (s : Sc) : Prop := ∀ k, k < s.L.length → 0 < wt s k
theorem cw_mv (hk : k < s.A.length) : cw (s.mv c) k = vadd (cw s k) (vsca c (wt s k)) := by
 have hw : wt (s.mv c) k = wt s k := rfl
 unfold cw cenV
 rw [Sc.mv_pi, Sc.mv_pl s c hk, hw, put_mv]
 unfold vsca vadd
 simp only [Prod.mk.injEq]
 constructor <;> grind
theorem acc_mv (hn : s.L.length ≤ s.A.length) (j : Nat) : ∀ k, k ≤ s.L.length → acc (s.mv c) rt j k = ⟨vadd (acc s rt j k).c (vsca c (acc s rt j k).w), (acc s rt j k).light, (acc s rt j k).heavy, (acc s rt j k).str, (acc s rt j k).w⟩
 | 0, _ => by
  unfold acc ac0 vadd vsca
  rw [Sc.mv_pi]
  simp only [Rat.mul_zero, Rat.add_zero]
 | k + 1, hk => by
  have ih := acc_mv hn j k (by omega)
  unfold acc
  rw [ih]
  split
  · unfold acS
    rw [cw_mv (by omega), Sc.mv_pi]
    have hw : wt (s.mv c) k = wt s k := rfl
    rw [hw]
    unfold vadd vsca
    simp only [Ac.mk.injEq, Prod.mk.injEq, and_true]
    constructor <;> grind
  · rfl
theorem acc_pos (hp : s.Pos) (hj : rt j = (j : Int)) : ∀ k, k ≤ s.L.length → 0 ≤ (acc s rt j k).w ∧ (j < k → 0 < (acc s rt j k).w)
 | 0, _ => ⟨by unfold acc ac0; exact Rat.le_refl, fun h => by omega⟩
 | k + 1, hk => by
  obtain ⟨h1, h2⟩ := acc_pos hp hj k (by omega)
  have h3 := hp k (by omega)
  unfold acc
  split
  · unfold acS
    simp only
    exact ⟨by grind, fun _ => by grind⟩
  · rename_i hne
    refine ⟨h1, fun h => h2 ?_⟩
    have : j ≠ k := fun e => hne (by subst e; exact hj)
    omega
theorem bod_mv (hn : s.L.length ≤ s.A.length) (hp : s.Pos) : bodF (s.mv c) rt = (bodF s rt).map (Bo.mv c) := by
 unfold bodF
 rw [List.map_map]
 refine List.map_congr_left fun j hj => ?_
 obtain ⟨h1, h2⟩ := mem_rts.1 hj
 have hw := (acc_pos hp h2 s.L.length (Nat.le_refl _)).2 h1
 have hl : (s.mv c).L.length = s.L.length := rfl
 rw [hl, acc_mv hn j _ (Nat.le_refl _)]
 show Ac.fin _ = Bo.mv c (Ac.fin _)
 generalize acc s rt j s.L.length = A at *
 unfold Ac.fin Bo.mv vadd vsca
 simp only [Bo.mk.injEq, Prod.mk.injEq, and_true]
 have hw0 : A.w ≠ 0 := by grind
 constructor <;> grind
theorem Pi.Good.mv {p : Pi} {pl : Pl} (h : p.Good pl b) (hc : Bv b c) (hb : 3 * b + 3 ≤ 10000) : p.Good (mvPl c pl) (2 * b + 1) :=
 ⟨⟨h.ok.r, h.ok.n, h.ok.tol.mono (by omega), h.ok.light.mono (by omega), h.ok.heavy.mono (by omega), h.ok.str.mono (by omega), h.ok.rough.mono (by omega)⟩, fun a ha => (h.r a ha).mono (by omega), h.t.mono (by omega), (h.a.add hc).mono (by omega), h.n, by omega⟩
theorem Sc.Ok.mv (h : s.Ok b) (hc : Bv b c) (hb : 3 * b + 3 ≤ 10000) : (s.mv c).Ok (2 * b + 1) := ⟨fun k hk => by
 rw [Sc.mv_pi, Sc.mv_pl s c (by have := h.n; have hk : k < s.L.length := hk; omega)]
 exact (h.g k hk).mv hc hb, by
 have := h.n
 show s.L.length ≤ (s.A.map (mvPl c)).length ∧ _
 rw [List.length_map]
 exact this, by omega⟩
end
end Go.Proofs.YtbaggkbleehegaaGreat.E.Ct
namespace Go.Proofs.YtbaggkbleehegaaGreat.E.Ct
open Go.RowKit
set_option linter.unusedVariables false
set_option linter.unusedSimpArgs false
theorem dpos {x y : Int} (h : 0 < x) (g : 0 < y) : 0 < Rat.divInt x y := by
 rw [Rat.divInt_eq_div, Rat.div_def]
 have h1 : (0 : Rat) < (x : Rat) := by exact_mod_cast h
 have h2 : (0 : Rat) < (y : Rat) := by exact_mod_cast g
 exact Rat.mul_pos h1 (Rat.inv_pos.2 h2)
section
variable {l q x : List Int} {i g : Int} {k j b : Nat} {p r : Pl} {st gl : Int}
theorem sc_pos (l q : List Int) : (⟨scL l q, scA l q⟩ : Sc).Pos := by
 have a1 := atz_in l 11 5
 have a2 := atz_in l 12 3
 have pA : ∀ P l a, 0 < (mkP P l a).light + (mkP P l a).heavy := fun P l a => by
  have h := atz_in l a 2
  have h1 := dpos (x := 1) (y := 1) (by omega) (by omega)
  have h2 := dpos (x := 1 + atz l a 2) (y := 1) (by omega) (by omega)
  show 0 < Rat.divInt 1 1 + Rat.divInt (1 + atz l a 2) 1
  grind
 have pC : 0 < (p12 l).light + (p12 l).heavy := by
  have h1 : 0 < pLight l := dpos (by omega) (by omega)
  have h2 : 0 ≤ Rat.divInt (atz l 12 3) 2 := (Rat.divInt_nonneg_iff_of_pos_right (by omega)).2 (by omega)
  have e1 : (p12 l).light = pLight l := rfl
  have e2 : (p12 l).heavy = pLight l + Rat.divInt (atz l 12 3) 2 := rfl
  rw [e1, e2]
  grind
 intro k hk
 unfold scL scA at hk ⊢
 cases h : (atz l 31 2 == 0) with
 | false =>
  rw [h, if_neg (by simp)] at hk
  rw [if_neg (by simp), if_neg (by simp)]
  have hk : k < 2 := hk
  match k, hk with
  | 0, _ => exact pA _ _ _
  | 1, _ => exact pA _ _ _
 | true =>
  rw [h, if_pos rfl] at hk
  rw [if_pos rfl, if_pos rfl]
  generalize p12 l = C at *
  have hk : k < 3 := hk
  match k, hk with
  | 0, _ => exact pA _ _ _
  | 1, _ => exact pA _ _ _
  | 2, _ => exact pC
theorem e_madeP (hl : ∀ x ∈ l, W.Is64 x) : ∃ s F, ScOk s F ∧ s.Pos ∧ Pure PP 10 [zl l] (.ag [.sl (piR s.L), .sl (plR s.A), .sl (ftR F)]) := by
 obtain ⟨q, _, _, cp⟩ := e_pair hl
 exact ⟨_, _, sc_ok l q, sc_pos l q, e_madeQ hl cp⟩
theorem e_still : Pure PP 35 [] (.ag (dV stillV)) := by
 unfold stillV
 rw [dV_0]
 exact tr [cl (e_rof (x := 1) (y := 1) is1_ is1_)] (by kernel_rfl)
theorem e_aft {v u : Vc} (b1 : Bv j v) (b2 : Bv k u) (hk : Li j k) : Pure PP 88 [.ag (dV v), .ag (dV u)] (.ag (dV (vrot v u))) := tr [cl (e_vrot b1 b2 hk)] (by kernel_rfl)
def cmpP (p r : Pl) : Pl := (vrot p.1 r.1, vput p r.2)
theorem e_comp (b1 : Bv j p.1) (b2 : Bv j p.2) (b3 : Bv k r.1) (b4 : Bv k r.2) (hk : 40 * (j + k) + 100 ≤ 800000000000) : Pure PP 34 [.ag (dPl p), .ag (dPl r)] (.ag (dPl (cmpP p r))) := tr [cl (e_aft b1 b3 (by omega)), cl (e_mover p), cl (e_mover1 b1 b2 b4 hk)] (by kernel_rfl)
theorem comp_still (c : Vc) (r : Pl) : cmpP (stillV, c) r = mvPl c r := by
 have h1 : (Rat.divInt 1 1 : Rat) = 1 := by decide +kernel
 unfold cmpP mvPl vput vrot vadd stillV
 rw [h1]
 simp only [Rat.one_mul, Rat.zero_mul, Rat.zero_add, Rat.add_zero, Rat.sub_eq_add_neg, Rat.neg_zero]
/-- Sherdref05's Number and Vec. -/
def numQ (n : Nat) : Rat := Rat.divInt (((n % 25 : Nat) : Int) - 12) ((1 + n / 25 : Nat) : Int)
theorem e_number (n : Nat) (hn : n < 100) : Pure PP 87 [ni n] (.ag (dR (numQ n))) := by
 have hc := e_around (n := (n : Int)) (i64_ (by omega)) 99
 rw [rnd_id (m := 99) (by omega)] at hc
 have q1 : Int.tmod (n : Int) 25 = ((n % 25 : Nat) : Int) := tmod_ n 25
 have q2 : Int.tdiv (n : Int) 25 = ((n / 25 : Nat) : Int) := tdiv_ n 25
 exact tr [cl hc, .eqv 7 (ni (Int.tmod (n : Int) 25)) (ni ((n % 25 : Nat) : Int)) (by rw [q1]), wq 8 (((n % 25 : Nat) : Int) - 12) (((n % 25 : Nat) : Int) - 12) (by omega), .eqv 10 (ni (IntKind.i64.wrap (Int.tdiv (n : Int) 25))) (ni ((n / 25 : Nat) : Int)) (by rw [q2, wr_ (by unfold W.Is64; omega)]), wq 11 (1 + ((n / 25 : Nat) : Int)) ((1 + n / 25 : Nat) : Int) (by omega), cl (e_of4 (x := ((n % 25 : Nat) : Int) - 12) (y := ((1 + n / 25 : Nat) : Int)) (i64_ (by omega)) (i64_ (by omega)))] (by kernel_rfl)
theorem num_bits (n : Nat) (hn : n < 100) : Bq 8 (numQ n) := bq8 (by omega) (by omega)
def vecQ (l : List Int) (a : Nat) : Vc := (numQ (atz l a 99).toNat, numQ (atz l (a + 1) 99).toNat)
theorem vec_bits (l : List Int) (a : Nat) : Bv 8 (vecQ l a) := by
 have h0 := atz_in l a 99
 have h1 := atz_in l (a + 1) 99
 exact ⟨num_bits _ (by omega), num_bits _ (by omega)⟩
theorem e_vec5 (hl : ∀ x ∈ l, W.Is64 x) (a : Nat) (ha : a ≤ 100000) : Pure PP 33 [zl l, ni a] (.ag (dV (vecQ l a))) := by
 have h0 := atz_in l a 99
 have h1 := atz_in l (a + 1) 99
 have e0 : atz l a 99 = ((atz l a 99).toNat : Int) := by omega
 have e1 : atz l (a + 1) 99 = ((atz l (a + 1) 99).toNat : Int) := by omega
 have c0 := e_at hl a 99
 have c1 := e_at hl (a + 1) 99
 rw [e0] at c0
 rw [e1] at c1
 exact tr [cl c0, cl (e_number (atz l a 99).toNat (by omega)), wq 11 ((a : Int) + 1) ((a + 1 : Nat) : Int) (by omega), cl c1, cl (e_number (atz l (a + 1) 99).toNat (by omega))] (by kernel_rfl)
end
end Go.Proofs.YtbaggkbleehegaaGreat.E.Ct
namespace Go.Proofs.YtbaggkbleehegaaGreat.E.Ct
open Go.RowKit
set_option linter.unusedVariables false
set_option linter.unusedSimpArgs false
section
variable {l x : List Int} {i g : Int} {k j b : Nat} {st gl : Int} {s : Sc} {F : List Ft} {c P Q : Vc}
theorem pl_app {A : List Pl} {p : Pl} (h : A[k]? = some p) : plR ((A.take k).map (mvPl c)) ++ [dPl (mvPl c p)] = plR ((A.take (k + 1)).map (mvPl c)) := by
 unfold plR
 rw [List.take_add_one, h, List.map_append, List.map_append]
 rfl
theorem Su.Ok.segs_bits {u : Su} (h : u.Ok b) : ∀ x ∈ u.segs, Bv b x.1 ∧ Bv b x.2 := fun x hx => by
 unfold Su.segs Su.p2 Su.p1 at hx
 rcases List.mem_append.1 hx with hx | hx
 · obtain ⟨k, hk, h2⟩ := List.mem_flatMap.1 hx
   have hk := List.mem_range.1 hk
   unfold Su.sg1 at h2
   split at h2
   · simp only [List.mem_singleton] at h2
     subst h2
     have b1 := (h.at_ hk).1
     have b2 := (h.at_ (Su.nx_lt h k)).1
     have f : Bq b (u.from_ k) := by unfold Su.from_; split; exact h.p.1; exact b1
     have t : Bq b (u.to_ k) := by unfold Su.to_; split; exact h.q.1; exact b2
     exact ⟨⟨f, h.p.2⟩, t, h.p.2⟩
   · cases h2
 · obtain ⟨k, hk, h2⟩ := List.mem_flatMap.1 hx
   have hk := List.mem_range.1 hk
   unfold Su.sg2 at h2
   split at h2
   · simp only [List.mem_singleton] at h2
     subst h2
     have b1 := (h.at_ hk).1
     exact ⟨⟨b1, h.p.2⟩, b1, h.p.2⟩
   · cases h2
noncomputable abbrev flm : Func := fnOf PP 6
abbrev GMv (td : List Item) (σ : St) : Prop := Gd PP 6 (.v (bo true)) td σ
noncomputable def mo1S (l : List Int) (s : Sc) (F : List Ft) (c : Vc) (st gl : Int) (k : Nat) : St := at_ flm [(0, zl l), (9, .lp 0 0), (10, ni st), (11, ni gl), (12, .lp 1 0), (13, .ow 2), (14, ni (k : Int))] [.bx 27 (scV s F), .bx 43 (dV c), .rw 45 16 (plR ((s.A.take k).map (mvPl c)))]
noncomputable def mo2S (s : Sc) (F : List Ft) (c : Vc) (st gl : Int) (T : List To) (k : Nat) : St := at_ flm [(9, .lp 0 0), (10, ni st), (11, ni gl), (12, .lp 1 0), (13, .sl (plR (s.mv c).A)), (17, .sl (toR T)), (18, .sl (toR (T.map (To.mv c)))), (19, ni (k : Int))] [.bx 27 (scV s F), .bx 43 (dV c)]
noncomputable def mo3S (c : Vc) (B : List Bo) (k : Nat) : St := at_ flm [(12, .lp 1 0), (21, .ow 2), (23, .sl (boR (B.map (Bo.mv c)))), (25, ni (k : Int))] [.dead, .bx 43 (dV c), .rw 83 20 (boR ((B.take k).map (Bo.mv c) ++ B.drop k))]
theorem mo_3 {B : List Bo} {K : Nat} (hB : ∀ t ∈ B, Bv K t.c) (hn : B.length ≤ 1000) (hc : Bv 100 c) (hK : Li K 100) : GMv (lp flm 2) (mo3S c B 0) := by
 refine Gd.loop (fun (k : Nat) => mo3S c B k) (fun k => k ≤ B.length) (fun k => B.length - k) ?_ 0 (Nat.zero_le _)
 intro k hk ih
 have hl : (boR ((B.take k).map (Bo.mv c) ++ B.drop k)).length = B.length := by rw [boR_len]; simp; omega
 by_cases h : k < B.length
 · have nx := ih (k + 1) h (by omega)
   obtain ⟨t, ht, hm⟩ := get_of h
   have hd : B.drop k = t :: B.drop (k + 1) := by
    rw [List.drop_eq_getElem_cons h]
    congr 1
    rw [List.getElem?_eq_getElem h] at ht
    exact Option.some.inj ht
   have hlk : ((B.take k).map (Bo.mv c)).length = k := by rw [List.length_map, List.length_take]; omega
   have e1 : (boR ((B.take k).map (Bo.mv c) ++ B.drop k))[k]? = some t.v := by
    unfold boR
    rw [List.getElem?_map, List.getElem?_append_right (by omega), hlk, Nat.sub_self, hd]
    rfl
   have e2 : (boR ((B.take k).map (Bo.mv c) ++ B.drop k)).set k (Bo.mv c t).v = boR ((B.take (k + 1)).map (Bo.mv c) ++ B.drop (k + 1)) := by
    unfold boR
    rw [← List.map_set]
    congr 1
    rw [List.set_append_right _ _ (by omega), hlk, Nat.sub_self, hd, List.take_add_one, ht, List.map_append, List.append_assoc]
    rfl
   have ca := e_vadd (hB t hm) hc hK
   unfold mo3S at nx ⊢
   generalize boR ((B.take (k + 1)).map (Bo.mv c) ++ B.drop (k + 1)) = R1 at *
   generalize boR ((B.take k).map (Bo.mv c) ++ B.drop k) = R0 at *
   exact .to mo_ [] [12, 21, 23, 25] [1, 2] 3 [.eqv 165 (ni (R0.length : Int)) (ni (B.length : Int)) (by rw [hl]), ye (t := decide ((k : Int) < (B.length : Int))) (decide_eq_true (by omega)), .sel _ _ _ e1, .sel _ _ _ e1, cl ca, .sel _ _ _ e1, .upd _ _ _ _ _ e1 e2, inc 168 k (by omega)] nx (by kernel_rfl)
 · have e : k = B.length := by omega
   have hx : decide ((k : Int) < (B.length : Int)) = false := decide_eq_false (by omega)
   have hR : boR ((B.take k).map (Bo.mv c) ++ B.drop k) = boR (B.map (Bo.mv c)) := by rw [e, List.take_length, List.drop_length, List.append_nil]
   have cs := e_sbodies (B.map (Bo.mv c)) (by rw [List.length_map]; omega)
   unfold mo3S
   rw [hR] at hl ⊢
   generalize boR (B.map (Bo.mv c)) = R0 at *
   exact fi [.eqv 165 (ni (R0.length : Int)) (ni (B.length : Int)) (by rw [hl]), na hx, cl cs, yt, cl e_lives] (by kernel_rfl) (by kernel_rfl)
theorem mo_2 (ok : ScOk s F) (hp : s.Pos) (hc : Bv 8 c) {T : List To} (hT : T.length ≤ 1000) (hb : ∀ t ∈ T, Bv 4000 t.p ∧ Bv 4000 t.q) : GMv (lp flm 1) (mo2S s F c st gl T 0) := by
 have hfl := ok.flen
 have hn3 := ok.n
 have k0 : Bv 100 c := hc.mono (by omega)
 have okm := ok.ok.mv k0 (by omega)
 have fm : ∀ f ∈ F, f.Ok (s.mv c) := fun f hf => by
  have := ok.f f hf
  exact ⟨this.a, this.b, this.ea, this.many⟩
 have b1 := e_bodiesO (st := st) (gl := gl) ok.ok ok.f (by omega) (by omega)
 have b2 := e_bodies (st := st) (gl := gl) okm fm (by omega) (by show 0 < s.L.length; omega)
 have hbm : bodF (s.mv c) (rtB st gl F) = (bodF s (rtB st gl F)).map (Bo.mv c) := bod_mv ok.ok.n.1 hp
 have hom : ownF (s.mv c) (rtB st gl F) = ownF s (rtB st gl F) := rfl
 rw [hbm, hom] at b2
 have hol : (ownF s (rtB st gl F)).length = s.L.length := ow_len _ _
 have hbl : (bodF s (rtB st gl F)).length ≤ 3 := by
  unfold bodF
  rw [List.length_map]
  have := rts_len (rtB st gl F) s.L.length
  omega
 have hbb : ∀ t ∈ bodF s (rtB st gl F), Bv 9000000000 t.c := fun t ht => by
  obtain ⟨j, hj, rfl⟩ := List.mem_map.1 ht
  have hj := (mem_rts.1 hj).1
  have ab := acc_bits (s := s) (rt := rtB st gl F) (j := j) (M := piM 100) (Sc.Ok.pib ok.ok hj).str s.L.length fun i hi => Sc.Ok.pib ok.ok hi
  have hM : (piM 100 + 1) * s.L.length + 1 ≤ 4000000000 := by
   have h1 : piM 100 + 1 ≤ 30005001 := by unfold piM; omega
   have := Nat.mul_le_mul h1 (show s.L.length ≤ 100 by omega)
   omega
  generalize (piM 100 + 1) * s.L.length + 1 = K at *
  generalize acc s (rtB st gl F) j s.L.length = A at *
  by_cases h0 : 0 < K
  · exact ⟨(ab.c.1.div ab.w h0).mono (by omega), (ab.c.2.div ab.w h0).mono (by omega)⟩
  · have hK : K = 0 := by omega
    subst hK
    exact ⟨((ab.c.1.mono (by omega : 0 ≤ 1)).div ab.w (by omega)).mono (by omega), ((ab.c.2.mono (by omega : 0 ≤ 1)).div ab.w (by omega)).mono (by omega)⟩
 have n3 := mo_3 (B := bodF s (rtB st gl F)) (c := c) hbb (by omega) k0 (by show 10 * (_ + _) + _ ≤ _; omega)
 have cs := e_sints (ownF s (rtB st gl F)) (by omega)
 have hlB : (boR (bodF s (rtB st gl F))).length = (boR ((bodF s (rtB st gl F)).map (Bo.mv c))).length := by rw [boR_len, boR_len, List.length_map]
 refine Gd.loop (fun (k : Nat) => mo2S s F c st gl T k) (fun k => k ≤ T.length) (fun k => T.length - k) ?_ 0 (Nat.zero_le _)
 intro k hk ih
 have hl := toR_len T
 by_cases h : k < T.length
 · have nx := ih (k + 1) h (by omega)
   obtain ⟨t, ht, hm⟩ := get_of h
   have e1 := to_at ht
   have e2 : (toR (T.map (To.mv c)))[k]? = some (To.mv c t).v := by
    unfold toR
    rw [List.getElem?_map, List.getElem?_map, ht]
    rfl
   obtain ⟨d1, d2⟩ := hb t hm
   have c1 := e_vadd d1 k0 (by show 10 * (_ + _) + _ ≤ _; omega)
   have c2 := e_vadd d2 k0 (by show 10 * (_ + _) + _ ≤ _; omega)
   have c3 := e_stouch (To.mv c t)
   unfold mo2S at nx ⊢
   generalize toR (T.map (To.mv c)) = R2 at *
   exact .to mo_ [] [9, 10, 11, 12, 13, 17, 18, 19] [0, 1] 2 [.eqv 104 (ni ((toR T).length : Int)) (ni (T.length : Int)) (by rw [hl]), ye (t := decide ((k : Int) < (T.length : Int))) (decide_eq_true (by omega)), .sel _ _ _ e1, cl c1, cl c2, .sel _ _ _ e2, cl c3, nf, inc 107 k (by omega)] nx (by kernel_rfl)
 · have e : k = T.length := by omega
   have hx : decide ((k : Int) < (T.length : Int)) = false := decide_eq_false (by omega)
   unfold mo2S
   unfold mo3S at n3
   rw [List.take_zero, List.drop_zero, List.map_nil, List.nil_append] at n3
   have hLm : (s.mv c).L = s.L := rfl
   rw [hLm] at b2
   generalize boR ((bodF s (rtB st gl F)).map (Bo.mv c)) = BR2 at *
   generalize boR (bodF s (rtB st gl F)) = BR1 at *
   generalize ownF s (rtB st gl F) = own at *
   refine .to mo_ [] [12, 21, 23, 25] [1, 2] 3 [.eqv 104 (ni ((toR T).length : Int)) (ni (T.length : Int)) (by rw [hl]), na hx, .lend 27 [] _ _ [] b1, cl b2, .eqv 153 (ni (BR1.length : Int)) (ni (BR2.length : Int)) (by rw [hlB]), na (t := ((BR2.length : Int) != (BR2.length : Int))) (by simp), cl cs, nf] n3 (by kernel_rfl)
theorem l_moved (hl : ∀ a ∈ l, W.Is64 a) (hi : W.Is64 i) (hg : W.Is64 g) (hx : ∀ a ∈ x, W.Is64 a) : Pure PP 6 [zl l, ni i, ni g, zl x] (bo true) := by
 obtain ⟨s, F, ok, hp, cm⟩ := e_madeP hl
 obtain ⟨st, gl, cs⟩ := e_sets ok hi hg
 have hfl := ok.flen
 have hn3 := ok.n
 have hna := ok.a
 have cv := e_vec5 hx 0 (by omega)
 have bv := vec_bits x 0
 generalize hcc : vecQ x 0 = c at *
 have k0 : Bv 100 c := bv.mono (by omega)
 have okm := ok.ok.mv k0 (by omega)
 have fm : ∀ f ∈ F, f.Ok (s.mv c) := fun f hf => by
  have := ok.f f hf
  exact ⟨this.a, this.b, this.ea, this.many⟩
 have p0 := e_prop hl 0 (by omega)
 have pb := prP_bits l 0
 have d1 := e_vadd pb.1 bv (by show 10 * (_ + _) + _ ≤ _; omega)
 have d2 := e_vadd pb.2 bv (by show 10 * (_ + _) + _ ≤ _; omega)
 have t1 := e_touches (st := st) ok.ok ok.f (by omega)
 have t2 := (e_props (st := st) ok.ok (P := prP l 0) (Q := prQ_ l 0) (pb.1.mono (by omega)) (pb.2.mono (by omega))).ro
 have t3 := e_touches (st := st) okm fm (by omega)
 have t4 := (e_props (st := st) okm (P := vadd (prP l 0) c) (Q := vadd (prQ_ l 0) c) ((pb.1.add bv).mono (by omega)) ((pb.2.add bv).mono (by omega))).ro
 have lm : (s.mv c).L = s.L := rfl
 rw [lm, prs_mv _ _ ok.ok.n.1] at t4
 rw [lm, tch_mv ok.f ok.ok] at t3
 have hta := ok.tlen st
 have hpa := ok.plen st (prP l 0) (prQ_ l 0)
 -- the bits of touches
 have hAb : ∀ t ∈ tch s st F, Bv 4000 t.p ∧ Bv 4000 t.q := fun t ht => by
  obtain ⟨f, h1, h2⟩ := List.mem_flatMap.1 ht
  unfold tch1 at h2
  split at h2
  · obtain ⟨m, _, rfl⟩ := List.mem_map.1 h2
    have g := ok.ok.g f.a (ok.f f h1).a
    have hr : 0 < (plRim (s.pi f.a) (s.pl f.a)).length := by rw [plRim_len]; exact g.ok.n.1
    have hcn : ∀ i, Bv 4000 (cn (plRim (s.pi f.a) (s.pl f.a)) i) := fun i => (g.bits _ (by unfold cn; rw [List.getD_eq_getElem?_getD, List.getElem?_eq_getElem (Nat.mod_lt _ hr)]; exact List.getElem_mem _)).mono (by omega)
    exact ⟨hcn _, hcn _⟩
  · cases h2
 have hPb : ∀ t ∈ s.prs st (prP l 0) (prQ_ l 0) s.L.length, Bv 4000 t.p ∧ Bv 4000 t.q := fun t ht => by
  obtain ⟨m, h1, h2⟩ := List.mem_flatMap.1 ht
  have h1 := List.mem_range.1 h1
  unfold Sc.pr1 at h2
  split at h2
  · obtain ⟨y, hy, rfl⟩ := List.mem_map.1 h2
    have so := Sc.suOk ok.ok (pb.1.mono (by omega : 8 ≤ 100)) (pb.2.mono (by omega : 8 ≤ 100)) h1
    have hb := so.segs_bits y hy
    exact ⟨hb.1.mono (by omega), hb.2.mono (by omega)⟩
  · cases h2
 generalize hA : tch s st F = A at *
 generalize hB : s.prs st (prP l 0) (prQ_ l 0) s.L.length = B at *
 have hTb : ∀ t ∈ A ++ B, Bv 4000 t.p ∧ Bv 4000 t.q := fun t ht => (List.mem_append.1 ht).elim (hAb t) (hPb t)
 have n2 := mo_2 (st := st) (gl := gl) ok hp bv (T := A ++ B) (by rw [List.length_append]; omega) hTb
 have ap1 : toR A ++ toR B = toR (A ++ B) := toR_app A B
 have ap2 : toR (A.map (To.mv c)) ++ toR (B.map (To.mv c)) = toR ((A ++ B).map (To.mv c)) := by rw [List.map_append]; exact toR_app _ _
 have l1 : (toR (A ++ B)).length ≤ 1000 := by rw [toR_len, List.length_append]; omega
 have l2 : (toR ((A ++ B).map (To.mv c))).length ≤ 1000 := by rw [toR_len, List.length_map, List.length_append]; omega
 have le : (toR (A ++ B)).length = (toR ((A ++ B).map (To.mv c))).length := by rw [toR_len, toR_len, List.length_map]
 refine pf (by kernel_rfl) (.to mo_ [.ow 13 (.rw 45 16 [])] [0, 9, 10, 11, 12, 13, 14] [0, 1, 2] 3 [cl cm, cl cs, cl cv] (td' := lp flm 0) (σ' := mo1S l s F c st gl 0) ?_ (by kernel_rfl))
 refine Gd.loop (fun (k : Nat) => mo1S l s F c st gl k) (fun k => k ≤ s.A.length) (fun k => s.A.length - k) ?_ 0 (Nat.zero_le _)
 intro k hk ih
 have hpl : (plR s.A).length = s.A.length := List.length_map ..
 by_cases h : k < s.A.length
 · have nx := ih (k + 1) h (by omega)
   have e1 := pl_at (s := s) h
   have ea : s.A[k]? = some (s.pl k) := by unfold Sc.pl; rw [List.getD_eq_getElem?_getD, List.getElem?_eq_getElem h]; rfl
   have gk := ok.ok.g k (by omega)
   have cc := e_comp (p := (stillV, c)) (r := s.pl k) (j := 8) still_bits bv gk.t gk.a (by omega)
   rw [comp_still] at cc
   have ap := pl_app (c := c) ea
   have hle : (plR ((s.A.take (k + 1)).map (mvPl c))).length ≤ 1000 := by unfold plR; rw [List.length_map, List.length_map, List.length_take]; have := ok.ok.n; omega
   unfold mo1S at nx ⊢
   generalize plR ((s.A.take (k + 1)).map (mvPl c)) = R1 at *
   generalize plR ((s.A.take k).map (mvPl c)) = R0 at *
   exact .to mo_ [.mv 2 4] [0, 9, 10, 11, 12, 13, 14] [0, 1, 2] 3 [.eqv 40 (ni ((plR s.A).length : Int)) (ni (s.A.length : Int)) (by rw [hpl]), ye (t := decide ((k : Int) < (s.A.length : Int))) (decide_eq_true (by omega)), cl e_still, .sel _ _ _ e1, cl cc, .app _ _ _ 1000 ap Nat.zero_lt_one hle, inc 43 k (by omega)] nx (by kernel_rfl)
 · have e : k = s.A.length := by omega
   have hx : decide ((k : Int) < (s.A.length : Int)) = false := decide_eq_false (by omega)
   have hR : plR ((s.A.take k).map (mvPl c)) = plR (s.mv c).A := by rw [e, List.take_length]; rfl
   unfold mo1S
   unfold mo2S at n2
   rw [hR]
   -- the row of places is only read from here on
   refine .to mo_ [.fz 13] [0, 9, 10, 11, 12, 13] [0, 1] 2 [.eqv 40 (ni ((plR s.A).length : Int)) (ni (s.A.length : Int)) (by rw [hpl]), na hx] (td' := rg flm 9) (σ' := at_ flm [(0, zl l), (9, .lp 0 0), (10, ni st), (11, ni gl), (12, .lp 1 0), (13, .sl (plR (s.mv c).A))] [.bx 27 (scV s F), .bx 43 (dV c)]) ?_ (by kernel_rfl)
   by_cases h0 : 0 < B.length
   · have g1 : 0 < (toR B).length := by rw [toR_len]; exact h0
     have g2 : 0 < (toR (B.map (To.mv c))).length := by rw [toR_len, List.length_map]; exact h0
     exact .to mo_ [.fz 17, .fz 18] [9, 10, 11, 12, 13, 17, 18, 19] [0, 1] 2 [cl p0, cl d1, cl d2, cl t1, cl t2, .aps _ _ _ 1000 30 ap1 g1 l1 (to_one B), cl t3, cl t4, .aps _ _ _ 1000 30 ap2 g2 l2 (to_one _), .eqv 98 (ni ((toR (A ++ B)).length : Int)) (ni ((toR ((A ++ B).map (To.mv c))).length : Int)) (by rw [le]), na (t := (((toR ((A ++ B).map (To.mv c))).length : Int) != ((toR ((A ++ B).map (To.mv c))).length : Int))) (by simp)] n2 (by kernel_rfl)
   · have hB0 : B = [] := List.length_eq_zero_iff.1 (by omega)
     subst hB0
     have g1 : toR ([] : List To) = [] := rfl
     have g2 : toR (([] : List To).map (To.mv c)) = [] := rfl
     rw [List.append_nil] at n2 le
     exact .to mo_ [.fz 17, .fz 18] [9, 10, 11, 12, 13, 17, 18, 19] [0, 1] 2 [cl p0, cl d1, cl d2, cl t1, cl t2, .ape _ g1, cl t3, cl t4, .ape _ g2, .eqv 98 (ni ((toR A).length : Int)) (ni ((toR (A.map (To.mv c))).length : Int)) (by rw [le]), na (t := (((toR (A.map (To.mv c))).length : Int) != ((toR (A.map (To.mv c))).length : Int))) (by simp)] n2 (by kernel_rfl)
end
end Go.Proofs.YtbaggkbleehegaaGreat.E.Ct
namespace Go.Proofs.YtbaggkbleehegaaGreat
open Go.RowKit
theorem is64_of {n : Int} (h : (Lit.int .i64 n).wf = true) : W.Is64 n := by
 have := bounds_i64 h
 unfold W.Is64
 omega
end Go.Proofs.YtbaggkbleehegaaGreat
namespace Go.Proofs.YtbaggkbleehegaaGreat.E
open Go.RowKit
set_option linter.unusedVariables false
theorem cb_of {w : World} {b o : Nat} {v : Value} (h : w.cell? ⟨b, o, none⟩ = some v) : CB w b := by
 unfold World.cell? at h
 split at h
 · rename_i cs T fr hb
   exact ⟨cs, T, fr, hb⟩
 · cases h
def Rt (X : World → Value → Prop) (w : World) (e : Ending) (w' : World) : Prop := ∃ v, e = .returned v ∧ X w' v ∧ Below w.heap.size w w'
theorem back {P : Program} {f : FuncId} {ds : List V} {d : V} (h : Pure P f ds d) {w : World} {args : Array Value} (ha : Reps w (fun _ => False) no args ds) : Calls P f args w (Rt (fun w v => Rep w (fun _ => False) no v d) w) :=
 (h.2 w (fun _ => False) args (fun _ h => h.elim) ha).mono fun e w' h => h
theorem to_tt {w w' : World} {e : Ending} (h : Rt (fun w v => Rep w (fun _ => False) no v (bo true)) w e w') : e = .returned (.bool true) ∧ Below w.heap.size w w' := by
 obtain ⟨v, rfl, h1, h2⟩ := h
 exact ⟨by rw [Rep.k_inv h1], h2⟩
/-- A law of any arguments. -/
theorem lawG {f : FuncId} {us : List Value} {ds : List V} {w : World} (h : Pure PP f ds (bo true)) (hg : Glo w (fun _ => False)) (hl : us.length = ds.length) (hr : ∀ j, j < ds.length → Rep w (fun _ => False) no (us.getD j undef) (ds.getD j .un)) :
    Calls PP f us.toArray w fun e w' => e = .returned (.bool true) ∧ Below w.heap.size w w' :=
 (back h (reps_of hl hg hr)).mono fun _ _ => to_tt
theorem all4 {p : Nat → Prop} (h0 : p 0) (h1 : p 1) (h2 : p 2) (h3 : p 3) : ∀ j, j < 4 → p j := fun j hj => by
 match j, hj with
 | 0, _ => exact h0
 | 1, _ => exact h1
 | 2, _ => exact h2
 | 3, _ => exact h3
end Go.Proofs.YtbaggkbleehegaaGreat.E
