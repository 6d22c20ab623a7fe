/-
 THE SECOND ENGINE, 14: code by itself (the rounds of a loop over a function).
-/
import Derived.Test.YtbaggkbleehegaaGreatEoT
import Derived.Test.YtbaggkbleehegaaGreatPgP
import Derived.Sort.CutIn
import Derived.Test.YtbaggkbleehegaaGreatWalkUns
namespace Go.Proofs.YtbaggkbleehegaaGreat.E
open Go.RowKit
set_option linter.unusedVariables false
section
variable {a b c d n p : Rat × Rat} {r q x : Rat} {i j k : Nat} {L : List (Rat × Rat)}
def z8 : List V := [bo false, .nl, bo false, .nl, bo false, .nl, bo false, .nl]
theorem dV_0 : dV (0, 0) = [bo false, .sl [], bo false, .sl [], bo false, .sl [], bo false, .sl []] := by
 unfold dV; simp only [dR_0]; rfl
theorem fs_end {i : Nat} (h1 : 1 ≤ i) (h2 : ¬ i + 1 < L.length) (g : ¬ Pg.area L = 0) : vsca (Pg.fs L i) (Rat.divInt 1 1 / Pg.area L) = Pg.center L := by
 rw [← Pg.center_eq]
 unfold Pg.center6 Pg.fs
 rw [Pg.area_eq, if_neg g, List.take_of_length_le (by rw [fan_len]; omega)]
theorem e_center6 (hb : ∀ a ∈ L, Bv k a) (hn : L.length ≤ 100) (hk : k ≤ 10000) : Pure PP 143 [dL L] (.ag (dV (Pg.center L))) := by
 have ha := area_bits hb hn
 by_cases g : Pg.area L = 0
 · rw [show Pg.center L = (0, 0) by rw [← Pg.center_eq]; unfold Pg.center6; rw [Pg.area_eq, if_pos g], dV_0]
   exact pf (by kernel_rfl) (fiG [.wk 0] [cl (e_area6 hb hn hk), cl (e_sign4 (Pg.area L)), ye (t := sgnZ (Pg.area L).num == 0) (by rw [g]; rfl)] (by kernel_rfl) (by kernel_rfl))
 have hs : (sgnZ (Pg.area L).num == 0) = false := by
  have : (Pg.area L).num ≠ 0 := fun e => g (Rat.num_eq_zero.1 e)
  unfold sgnZ cmpZ
  rcases Int.lt_trichotomy (Pg.area L).num 0 with h | h | h
  · rw [if_pos h]; rfl
  · exact absurd h this
  · rw [if_neg (by omega), if_pos (by omega)]; rfl
 have hL : 0 < L.length := by
  rcases Nat.eq_zero_or_pos L.length with h | h
  · exact absurd (by rw [List.length_eq_zero_iff.1 h]; exact area_nil) g
  · exact h
 let X : Nat × List V → St := fun x => at_ (fnOf PP 143) [(0, dL L), (2, .lp 0 0), (3, .lp 1 0), (4, .lp 2 0), (5, ni x.1)] [.bx 43 z8, .bx 37 (dR (Pg.area L)), .bx 43 x.2]
 refine pf (by kernel_rfl) (.to mo_ [.wk 2] [0, 2, 3, 4, 5] [0, 1, 2] 3 [cl (e_area6 hb hn hk), cl (e_sign4 (Pg.area L)), na (t := sgnZ (Pg.area L).num == 0) hs] (td' := lp (fnOf PP 143) 0) (σ' := X (1, [bo false, .sl [], bo false, .sl [], bo false, .sl [], bo false, .sl []])) ?_ (by kernel_rfl))
 refine Gd.loop X (fun x => 1 ≤ x.1 ∧ x.1 ≤ L.length ∧ x.2 = dV (Pg.fs L x.1)) (fun x => L.length - x.1) ?_ _ ⟨Nat.le_refl _, hL, by rw [fs_one, dV_0]⟩
 rintro ⟨i, cs⟩ ⟨h1, hi, hcs⟩ ih
 simp only at h1 hi hcs
 subst hcs
 have hf := fs_bits hb hL hn i
 by_cases h : i + 1 < L.length
 · have b0 := bel hb hL
   have bi := bel hb (show i < L.length by omega)
   have b1 := bel hb h
   have bc := (bi.sub b0).crs (b1.sub b0)
   have bt : Bq (8 * k + 9) (vcrs (vsub (L.getD i (0, 0)) (L.getD 0 (0, 0))) (vsub (L.getD (i + 1) (0, 0)) (L.getD 0 (0, 0))) * Rat.divInt 1 6) := (bc.mul sixth_bits).mono (by omega)
   exact .to mo_ [] [0, 2, 3, 4, 5] [0, 1, 2] 3 [inc 14 i (by omega), ye (t := il_ (i + 1) L) (il_t h), .sel _ _ _ (el (L := L) (i := i) (by omega)), .sel _ _ _ (el hL), cl (e_vsub5 bi b0 (by omega)), inc 30 i (by omega), .sel _ _ _ (el h), .sel _ _ _ (el hL), cl (e_vsub5 b1 b0 (by omega)), cl (e_vcrs5 (bi.sub b0) (b1.sub b0) (by omega)), cl (e_of4 (x := 1) (y := 6) ⟨by decide, by decide⟩ ⟨by decide, by decide⟩), cl (e_mul4 bc sixth_bits (by omega)),
     .sel _ _ _ (el hL), .sel _ _ _ (el (L := L) (i := i) (by omega)), cl (e_vadd5 b0 bi (by omega)), inc 51 i (by omega), .sel _ _ _ (el h), cl (e_vadd5 (b0.add bi) b1 (by omega)), cl (e_vsca5 ((b0.add bi).add b1) bt (by omega)), cl (e_vadd5 hf (((b0.add bi).add b1).sca bt) (by omega)), inc 19 i (by omega)]
    (ih (i + 1, dV (vadd (Pg.fs L i) (vsca (vadd (vadd (L.getD 0 (0, 0)) (L.getD i (0, 0))) (L.getD (i + 1) (0, 0))) (vcrs (vsub (L.getD i (0, 0)) (L.getD 0 (0, 0))) (vsub (L.getD (i + 1) (0, 0)) (L.getD 0 (0, 0))) * Rat.divInt 1 6)))) ⟨by simp only; omega, by simp only; omega, by rw [fs_step h1 h]⟩ (by simp only; omega)) (by kernel_rfl)
 · rw [← fs_end h1 h g]
   exact fi [inc 14 i (by omega), na (t := il_ (i + 1) L) (il_f h), cl (e_of4 (x := 1) (y := 1) ⟨by decide, by decide⟩ ⟨by decide, by decide⟩), cl (e_div4 unit_bits ha (by omega)), cl (e_vsca5 hf (unit_bits.div ha (by omega)) (by omega))] (by kernel_rfl) (by kernel_rfl)
end
end Go.Proofs.YtbaggkbleehegaaGreat.E
namespace Go.Proofs.YtbaggkbleehegaaGreat
open Go.RowKit Go.Shelf
set_option linter.unusedVariables false
set_option linter.unusedSimpArgs false
theorem Tn.keeps {S : List Nat} {w w' : World} (t : Tn S w w') (hS : ∀ g ∈ S, ∃ T l, Bx w g T l) : KeepsOthers w w' := ⟨t.size, fun k o h hc => by
 by_cases hk : k ∈ S
 ·obtain ⟨T, l, hx⟩ := hS k hk
  unfold Bx at hx
  rw [hx] at h
  injection h with h
  subst h
  cases hc
 ·exact (t.block k (Array.getElem?_eq_some_iff.1 h).1 hk).trans h⟩
theorem Tn.k2 {S : List Nat} {n₀ Bs : Nat} {w w' : World} (t : Tn S w w') (hS : ∀ g ∈ S, n₀ ≤ g) (hn : n₀ ≤ w.heap.size) (hB : Bs ∉ S) : K2 n₀ Bs w w' :=
 ⟨Tn.below (Below.refl _ _) t hS hn, fun cs T fr e => (t.block Bs (Array.getElem?_eq_some_iff.1 e).1 hB).trans e⟩
theorem pre_bits {f : Rat × Rat → Rat × Rat → Rat} {K n k : Nat} {L : List (Rat × Rat)} (hf : ∀ a b, Bv k a → Bv k b → Bq K (f a b)) (hl : n = L.length) (hb : ∀ a ∈ L, Bv k a) (pre : List (Fin n)) (hp : pre.length ≤ 100) : Bq ((K + 1) * 100 + 1) (Pg.sum f (pre.map fun x => Pg.at_ L n x.1)) := by
 refine (Pg.sum_bits (k := K) _ (fun p hp => ?_)).mono (by rw [List.length_map]; exact Nat.add_le_add_right (Nat.mul_le_mul_left _ hp) 1)
 obtain ⟨y, hy, rfl⟩ := List.mem_map.1 hp
 exact hf _ _ (getD_bv hb _ (by have := y.2; omega)) (getD_bv hb _ (by have := Nat.mod_lt (y.1 + 1) (show 0 < n by have := y.2; omega); omega))
theorem third_bits : Bq 2 (Rat.divInt 1 3) := Bq.divInt (by unfold I.Bd; decide) (by unfold I.Bd; decide) (by omega)
theorem fx_bits {k : Nat} {a b : Rat × Rat} (ha : Bv k a) (hb : Bv k b) : Bv (6 * k + 2) (Pg.fx a b, Pg.fy a b) := ((ha.add hb).sca ((ha.crs hb).mono (show _ ≤ 4 * k + 1 by omega))).mono (by omega)
theorem crs_bits {k : Nat} {a b : Rat × Rat} (ha : Bv k a) (hb : Bv k b) : Bq (4 * k + 1) (vcrs a b) := (ha.crs hb).mono (by omega)
end Go.Proofs.YtbaggkbleehegaaGreat
namespace Go.Proofs.YtbaggkbleehegaaGreat
set_option maxHeartbeats 4000000
open Go.RowKit Go.Shelf
attribute [local go_sem] Oper.semAt_some
attribute [local go_sem] run_store_one
set_option linter.unusedVariables false
set_option linter.unusedSimpArgs false
/-- Whether a side turns the answer. -/
def Pg.up (a b p : Rat × Rat) : Bool := (decide (0 < cmpQ b.2 p.2) != decide (0 < cmpQ a.2 p.2)) && (decide (0 < vside a b p) == decide (0 < cmpQ b.2 p.2))
def Pg.ins (p : Rat × Rat) (ps : List ((Rat × Rat) × (Rat × Rat))) : Int := ps.foldl (fun s x => if Pg.up x.1 x.2 p then -s else s) (-1)
def Pg.has (L : List (Rat × Rat)) (p : Rat × Rat) : Int := if (Pg.sides L).any (fun x => Pg.on x.1 x.2 p) then 0 else Pg.ins p (Pg.sides L)
end Go.Proofs.YtbaggkbleehegaaGreat
namespace Go.Proofs.YtbaggkbleehegaaGreat
open Go.RowKit
set_option linter.unusedSimpArgs false
theorem Pg.crs_swap (d e : Rat × Rat) : vcrs d e = - vcrs e d := by unfold vcrs; grind
end Go.Proofs.YtbaggkbleehegaaGreat
namespace Go.Proofs.YtbaggkbleehegaaGreat
set_option maxHeartbeats 4000000
open Go.RowKit Go.Shelf
attribute [local go_sem] Oper.semAt_some
attribute [local go_sem] run_store_one
set_option linter.unusedVariables false
set_option linter.unusedSimpArgs false
end Go.Proofs.YtbaggkbleehegaaGreat
namespace Go.Proofs.YtbaggkbleehegaaGreat
open Go.RowKit
set_option linter.unusedSimpArgs false
set_option linter.unusedVariables false
theorem Pg.Meet.symm {a b c d : Rat × Rat} (h : Pg.Meet a b c d) : Pg.Meet c d a b := by
 rcases h with ⟨h1, h2⟩ | h | h | h | h
 ·exact .inl ⟨h2, h1⟩
 ·exact .inr (.inr (.inr (.inl h)))
 ·exact .inr (.inr (.inr (.inr h)))
 ·exact .inr (.inl h)
 ·exact .inr (.inr (.inl h))
theorem Pg.On.symm {a b p : Rat × Rat} (h : Pg.On a b p) : Pg.On b a p := by
 obtain ⟨h1, h2⟩ := h
 refine ⟨by rw [Pg.cr_swap]; grind, ?_⟩
 have : vdot (vsub b p) (vsub a p) = vdot (vsub a p) (vsub b p) := by unfold vdot vsub; grind
 rw [this]; exact h2
theorem Pg.Meet.flip {a b c d : Rat × Rat} (h : Pg.Meet a b c d) : Pg.Meet b a c d := by
 rcases h with ⟨h1, h2⟩ | h | h | h | h
 ·refine .inl ⟨?_, ?_⟩
  ·rw [Pg.cr_swap b a c, Pg.cr_swap b a d]; grind
  ·grind
 ·exact .inr (.inl h.symm)
 ·exact .inr (.inr (.inl h.symm))
 ·exact .inr (.inr (.inr (.inr h)))
 ·exact .inr (.inr (.inr (.inl h)))
/-- How far apart two sides are. -/
def Pg.gap (n i k : Nat) : Nat := (k + n - i) % n
/-- Sides that are not neighbours do not meet. -/
def Pg.Simple (L : List (Rat × Rat)) : Prop := ∀ i k, i < L.length → k < L.length → 1 < Pg.gap L.length i k → Pg.gap L.length i k < L.length - 1 → ¬ Pg.Meet (Pg.cor L i) (Pg.cor L (i + 1)) (Pg.cor L k) (Pg.cor L (k + 1))
/-- No corner is flat. -/
def Pg.Bent (L : List (Rat × Rat)) : Prop := ∀ i, i < L.length → Pg.cr (Pg.cor L i) (Pg.cor L (i + 1)) (Pg.cor L (i + 2)) ≠ 0
def Pg.Right (L : List (Rat × Rat)) : Prop := 3 ≤ L.length ∧ L.length ≤ 12 ∧ Pg.Bent L ∧ Pg.Simple L ∧ 0 < Pg.area L
theorem Pg.cor_lt {L : List (Rat × Rat)} {i : Nat} (h : i < L.length) : L.getD i (0, 0) = Pg.cor L i := by unfold Pg.cor; rw [Nat.mod_eq_of_lt h]
/-- What keeps the sides of triangles and the products of differences. -/
structure Pg.Motion (g : Rat × Rat → Rat × Rat) : Prop where
 cr : ∀ a b c, Pg.cr (g a) (g b) (g c) = Pg.cr a b c
 dot : ∀ a b c, vdot (vsub (g a) (g c)) (vsub (g b) (g c)) = vdot (vsub a c) (vsub b c)
section
variable {g : Rat × Rat → Rat × Rat}
theorem Pg.Motion.on (h : Pg.Motion g) (a b p : Rat × Rat) : Pg.On (g a) (g b) (g p) ↔ Pg.On a b p := by unfold Pg.On; rw [h.cr, h.dot]
theorem Pg.Motion.meet (h : Pg.Motion g) (a b c d : Rat × Rat) : Pg.Meet (g a) (g b) (g c) (g d) ↔ Pg.Meet a b c d := by
 unfold Pg.Meet
 simp only [h.cr, h.on]
theorem Pg.cor_map (L : List (Rat × Rat)) (i : Nat) (h : 0 < L.length) : Pg.cor (L.map g) i = g (Pg.cor L i) := by
 unfold Pg.cor
 rw [List.length_map]
 have hi := Nat.mod_lt i h
 simp [List.getElem?_eq_getElem hi, List.getD_eq_getElem?_getD]
/-- The area by the triangles at the first corner. -/
theorem Pg.area_fan (o : Rat × Rat) (t : List (Rat × Rat)) : Pg.area (o :: t) = Pg.sum (fun a b => Pg.cr o a b) (t.zip t.tail) * Rat.divInt 1 2 := by
 unfold Pg.area
 congr 1
 cases t with
 | nil => unfold Pg.sides Pg.rot; simp [Pg.sum_cons, Pg.sum_nil]; unfold vcrs; grind
 | cons a t =>
  have h := Pg.sum_fan vcrs o Pg.crs_swap t a
  show Pg.sum vcrs ((o, a) :: (a :: t).zip (t ++ [o])) = Pg.sum _ ((a :: t).zip t)
  rw [Pg.sum_cons, h]
  exact Pg.sum_congr (fun x y => by unfold Pg.cr vcrs vsub; grind) _
theorem Pg.sum_map (f : Rat × Rat → Rat × Rat → Rat) : ∀ (s t : List (Rat × Rat)), Pg.sum f ((s.map g).zip (t.map g)) = Pg.sum (fun a b => f (g a) (g b)) (s.zip t)
 | [], _ => rfl
 | _ :: _, [] => rfl
 | a :: s, b :: t => by
  rw [List.map_cons, List.map_cons, List.zip_cons_cons, List.zip_cons_cons, Pg.sum_cons, Pg.sum_cons, Pg.sum_map f s t]
theorem Pg.Motion.area (h : Pg.Motion g) (L : List (Rat × Rat)) : Pg.area (L.map g) = Pg.area L := by
 cases L with
 | nil => rfl
 | cons o t =>
  rw [List.map_cons, Pg.area_fan, Pg.area_fan, ← List.map_tail, Pg.sum_map]
  congr 1
  exact Pg.sum_congr (fun a b => h.cr o a b) _
theorem Pg.Motion.bent (h : Pg.Motion g) (L : List (Rat × Rat)) : Pg.Bent (L.map g) ↔ Pg.Bent L := by
 unfold Pg.Bent
 rw [List.length_map]
 constructor
 ·intro k i hi
  have := k i hi
  rw [Pg.cor_map L _ (by omega), Pg.cor_map L _ (by omega), Pg.cor_map L _ (by omega), h.cr] at this
  exact this
 ·intro k i hi
  rw [Pg.cor_map L _ (by omega), Pg.cor_map L _ (by omega), Pg.cor_map L _ (by omega), h.cr]
  exact k i hi
theorem Pg.Motion.simple (h : Pg.Motion g) (L : List (Rat × Rat)) : Pg.Simple (L.map g) ↔ Pg.Simple L := by
 unfold Pg.Simple
 rw [List.length_map]
 constructor
 ·intro k i j hi hj g1 g2 hm
  refine k i j hi hj g1 g2 ?_
  rw [Pg.cor_map L _ (by omega), Pg.cor_map L _ (by omega), Pg.cor_map L _ (by omega), Pg.cor_map L _ (by omega), h.meet]
  exact hm
 ·intro k i j hi hj g1 g2 hm
  refine k i j hi hj g1 g2 ?_
  rw [Pg.cor_map L _ (by omega), Pg.cor_map L _ (by omega), Pg.cor_map L _ (by omega), Pg.cor_map L _ (by omega), h.meet] at hm
  exact hm
theorem Pg.Motion.right (h : Pg.Motion g) (L : List (Rat × Rat)) : Pg.Right (L.map g) ↔ Pg.Right L := by
 unfold Pg.Right
 rw [List.length_map, h.bent, h.simple, h.area]
end
end Go.Proofs.YtbaggkbleehegaaGreat
namespace Go.Proofs.YtbaggkbleehegaaGreat.E
open Go.RowKit
set_option linter.unusedVariables false
section
variable {n : Int} {l : List Int} {i m : Nat} {P : Program}
def spot (l : List Int) (a : Nat) : Rat × Rat := if atz l (a + 2) 1 = 0 then (Rat.divInt (atz l a 16 - 8) 1, Rat.divInt (atz l (a + 1) 16 - 8) 1) else (Rat.divInt (atz l a 32 - 16) 2, Rat.divInt (atz l (a + 1) 32 - 16) 2)
/-- The directions. -/
def wy : List (Int × Int) := [(4, 0), (4, 2), (3, 3), (2, 4), (0, 4), (-2, 4), (-3, 3), (-4, 2), (-4, 0), (-4, -2), (-3, -3), (-2, -4), (0, -4), (2, -4), (3, -3), (4, -2)]
def ways : List (List V) := wy.map fun p => [ni p.1, ni p.2]
end
end Go.Proofs.YtbaggkbleehegaaGreat.E
namespace Go.Proofs.YtbaggkbleehegaaGreat.E
open Go.RowKit
set_option linter.unusedVariables false
section
variable {P : Program}
/-- Code without loops, from a state to the way in which it is left. -/
noncomputable def runC (P : Program) : Nat → Code → St → List (Fa P) → Option (Exit × St × List (Fa P) × Ks)
 | 0, _, _, _ => none
 | n + 1, c, σ, sc => match c with
   | .skip => some (.normal, σ, sc, [])
   | .label _ => some (.normal, σ, sc, [])
   | .ret => some (.ret, σ, sc, [])
   | .exit id => some (.exit id, σ, sc, [])
   | .region i ops dr => match regR P ops ops.toList [] σ sc with
     | some (σ', fps, sc', k1) => match nodef ops && (!dr || (backB ops && (depOk ops && (dstOk ops && confOk ops fps 0)))) with
       | true => some (.normal, σ', sc', k1)
       | false => none
     | none => none
   | .seq a b => match runC P n a σ sc with
     | some (.normal, σ1, sc1, k1) => match runC P n b σ1 sc1 with
       | some (e, σ2, sc2, k2) => some (e, σ2, sc2, k1 ++ k2)
       | none => none
     | r => r
   | .cond c a b => match σ.ev c, sc with
     | .k (.bool t), .dec t0 b0 _ :: sc => match runC P n (match b0 with | true => a | false => b) σ sc with
       | some (e, σ, sc, k) => some (e, σ, sc, ([.k (.bool t)], [.k (.bool t0)]) :: k)
       | none => none
     | _, _ => none
   | .block id c => match runC P n c σ sc with
     | some (.exit i, σ, sc, k) => match Nat.beq i id with
       | true => some (.normal, σ, sc, k)
       | false => some (.exit i, σ, sc, k)
     | r => r
   | _ => none
variable {B : Nat → Prop} {M : Nat → Prop} {w0 : World} {Fx : Fence} {nf : Nat}
/-- How code is left. -/
def PostC (B : Nat → Prop) (M : Nat → Prop) (w0 : World) (E : World → (Nat → Prop) → (Nat → Option Value) → Prop) (dfs : List Deferred) (e : Exit) (σ : St) : Exit → Act → World → Prop := fun e' a w => e' = e ∧ ∃ m, SOk B M w0 σ a m w ∧ E w (Av M σ.ho m) m ∧ a.defers = dfs
theorem runC_ok (hm : P.follows .mixedOrders = true) (hFx : WideF Fx) (E : World → (Nat → Prop) → (Nat → Option Value) → Prop) (hE : ∀ w A m w' A' m', E w A m → Mo w A m w' A' m' → E w' A' m') {dfs : List Deferred} : ∀ (n : Nat) (c : Code) (σ σ' : St) (sc sc' : List (Fa P)) (ks : Ks) (e : Exit) (a : Act) (m : Nat → Option Value) (w : World),
  runC P n c σ sc = some (e, σ', sc', ks) → (∀ p ∈ ks, p.1 = p.2) → SOk B M w0 σ a m w → E w (Av M σ.ho m) m → a.defers = dfs → c.wpIn Fx nf P (PostC B M w0 E dfs e σ') a w := by
 intro n
 induction n with
 | zero => intro c σ σ' sc sc' ks e a m w h; cases h
 | succ n ih =>
  intro c σ σ' sc sc' ks e a m w h hk H hE0 hds
  cases c with
  | skip =>
   simp only [runC, Option.some.injEq, Prod.mk.injEq] at h
   obtain ⟨rfl, rfl, rfl, rfl⟩ := h
   exact wpIn_skip ⟨rfl, m, H, hE0, hds⟩
  | label l =>
   simp only [runC, Option.some.injEq, Prod.mk.injEq] at h
   obtain ⟨rfl, rfl, rfl, rfl⟩ := h
   exact wpIn_label ⟨rfl, m, H, hE0, hds⟩
  | ret =>
   simp only [runC, Option.some.injEq, Prod.mk.injEq] at h
   obtain ⟨rfl, rfl, rfl, rfl⟩ := h
   exact wpIn_ret ⟨rfl, m, H, hE0, hds⟩
  | exit id =>
   simp only [runC, Option.some.injEq, Prod.mk.injEq] at h
   obtain ⟨rfl, rfl, rfl, rfl⟩ := h
   exact wpIn_exit ⟨rfl, m, H, hE0, hds⟩
  | region i ops dr =>
   simp only [runC] at h
   split at h
   · rename_i σ1 fps sc1 k1 hr
     split at h
     · rename_i hc
       simp only [Option.some.injEq, Prod.mk.injEq] at h
       obtain ⟨rfl, rfl, rfl, rfl⟩ := h
       exact region_ok hm hFx hr hk hc E hE H hE0 hds
     · cases h
   · cases h
  | seq x y =>
   simp only [runC] at h
   split at h
   · rename_i σ1 sc1 k1 h1
     split at h
     · rename_i e2 σ2 sc2 k2 h2
       simp only [Option.some.injEq, Prod.mk.injEq] at h
       obtain ⟨rfl, rfl, rfl, rfl⟩ := h
       refine wpIn_seq (wpIn_mono (ih _ _ _ _ _ _ _ _ _ _ h1 (fun p hp => hk p (List.mem_append.2 (.inl hp))) H hE0 hds) ?_)
       rintro e' a' w' ⟨rfl, m', H', hE1, hd1⟩
       exact ih _ _ _ _ _ _ _ _ _ _ h2 (fun p hp => hk p (List.mem_append.2 (.inr hp))) H' hE1 hd1
     · cases h
   · rename_i hnn
     refine wpIn_seq (wpIn_mono (ih _ _ _ _ _ _ _ _ _ _ h hk H hE0 hds) ?_)
     rintro e' a' w' ⟨rfl, m', H', hE1, hd1⟩
     cases e' with
     | normal => exact absurd h (hnn _ _ _)
     | _ => exact ⟨rfl, m', H', hE1, hd1⟩
  | cond c x y =>
   simp only [runC] at h
   split at h
   · rename_i t t0 b0 hb sc1 hc
     split at h
     · rename_i e2 σ2 sc2 k2 h2
       simp only [Option.some.injEq, Prod.mk.injEq] at h
       obtain ⟨rfl, rfl, rfl, rfl⟩ := h
       have hkey := hk _ (List.mem_cons_self ..)
       simp only [List.cons.injEq, V.k.injEq, Value.bool.injEq, and_true] at hkey
       subst hkey
       have hv := ev_rep (a := a) (x := c) (σ := σ) (w := w) (A := Av M σ.ho m) (m := m) H.K.gl fun t0 _ => H.slot t0
       rw [hc] at hv
       refine wpIn_cond (Rep.k_inv hv) ?_
       have h3 := ih _ _ _ _ _ _ _ _ _ _ h2 (fun p hp => hk p (List.mem_cons_of_mem _ hp)) H hE0 hds
       rw [hb]
       cases b0 <;> exact h3
     · cases h
   · cases h
  | block id c =>
   simp only [runC] at h
   split at h
   · rename_i i σ1 sc1 k1 h1
     split at h
     · rename_i hi
       simp only [Option.some.injEq, Prod.mk.injEq] at h
       obtain ⟨rfl, rfl, rfl, rfl⟩ := h
       have := Nat.eq_of_beq_eq_true hi
       subst this
       refine wpIn_block (wpIn_mono (ih _ _ _ _ _ _ _ _ _ _ h1 hk H hE0 hds) ?_)
       rintro e' a' w' ⟨rfl, m', H', hE1, hd1⟩
       simp only [Exit.inBlock, if_true]
       exact ⟨rfl, m', H', hE1, hd1⟩
     · rename_i hi
       simp only [Option.some.injEq, Prod.mk.injEq] at h
       obtain ⟨rfl, rfl, rfl, rfl⟩ := h
       refine wpIn_block (wpIn_mono (ih _ _ _ _ _ _ _ _ _ _ h1 hk H hE0 hds) ?_)
       rintro e' a' w' ⟨rfl, m', H', hE1, hd1⟩
       have hne : i ≠ id := fun e => by rw [e] at hi; rw [Nat.beq_refl] at hi; cases hi
       simp only [Exit.inBlock, if_neg hne]
       exact ⟨rfl, m', H', hE1, hd1⟩
   · rename_i hnn
     refine wpIn_block (wpIn_mono (ih _ _ _ _ _ _ _ _ _ _ h hk H hE0 hds) ?_)
     rintro e' a' w' ⟨rfl, m', H', hE1, hd1⟩
     cases e' with
     | exit i => exact absurd h (hnn _ _ _ _)
     | _ => exact ⟨rfl, m', H', hE1, hd1⟩
  | _ => simp [runC] at h
end
end Go.Proofs.YtbaggkbleehegaaGreat.E
