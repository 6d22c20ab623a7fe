/-
 THE SECOND ENGINE, 14: code by itself (the rounds of a loop over a function).
-/
import Derived.Test.YtbaggkbleehegaaGreatWalkPgM
import Derived.Test.YtbaggkbleehegaaGreatWalkUns
namespace Go.Proofs.YtbaggkbleehegaaGreat
open Go.RowKit
set_option linter.unusedSimpArgs false
set_option linter.unusedVariables false
theorem Pg.Meet.symm {a b c d : Rat × Rat} (h : Pg.Meet a b c d) : Pg.Meet c d a b := by
 rcases h with ⟨h1, h2⟩ | h | h | h | h
 ·exact .inl ⟨h2, h1⟩
 ·exact .inr (.inr (.inr (.inl h)))
 ·exact .inr (.inr (.inr (.inr h)))
 ·exact .inr (.inl h)
 ·exact .inr (.inr (.inl h))
theorem Pg.On.symm {a b p : Rat × Rat} (h : Pg.On a b p) : Pg.On b a p := by
 obtain ⟨h1, h2⟩ := h
 refine ⟨by rw [Pg.cr_swap]; grind, ?_⟩
 have : vdot (vsub b p) (vsub a p) = vdot (vsub a p) (vsub b p) := by unfold vdot vsub; grind
 rw [this]; exact h2
theorem Pg.Meet.flip {a b c d : Rat × Rat} (h : Pg.Meet a b c d) : Pg.Meet b a c d := by
 rcases h with ⟨h1, h2⟩ | h | h | h | h
 ·refine .inl ⟨?_, ?_⟩
  ·rw [Pg.cr_swap b a c, Pg.cr_swap b a d]; grind
  ·grind
 ·exact .inr (.inl h.symm)
 ·exact .inr (.inr (.inl h.symm))
 ·exact .inr (.inr (.inr (.inr h)))
 ·exact .inr (.inr (.inr (.inl h)))
/-- How far apart two sides are. -/
def Pg.gap (n i k : Nat) : Nat := (k + n - i) % n
/-- Sides that are not neighbours do not meet. -/
def Pg.Simple (L : List (Rat × Rat)) : Prop := ∀ i k, i < L.length → k < L.length → 1 < Pg.gap L.length i k → Pg.gap L.length i k < L.length - 1 → ¬ Pg.Meet (Pg.cor L i) (Pg.cor L (i + 1)) (Pg.cor L k) (Pg.cor L (k + 1))
/-- No corner is flat. -/
def Pg.Bent (L : List (Rat × Rat)) : Prop := ∀ i, i < L.length → Pg.cr (Pg.cor L i) (Pg.cor L (i + 1)) (Pg.cor L (i + 2)) ≠ 0
def Pg.Right (L : List (Rat × Rat)) : Prop := 3 ≤ L.length ∧ L.length ≤ 12 ∧ Pg.Bent L ∧ Pg.Simple L ∧ 0 < Pg.area L
theorem Pg.cor_lt {L : List (Rat × Rat)} {i : Nat} (h : i < L.length) : L.getD i (0, 0) = Pg.cor L i := by unfold Pg.cor; rw [Nat.mod_eq_of_lt h]
/-- What keeps the sides of triangles and the products of differences. -/
structure Pg.Motion (g : Rat × Rat → Rat × Rat) : Prop where
 cr : ∀ a b c, Pg.cr (g a) (g b) (g c) = Pg.cr a b c
 dot : ∀ a b c, vdot (vsub (g a) (g c)) (vsub (g b) (g c)) = vdot (vsub a c) (vsub b c)
section
variable {g : Rat × Rat → Rat × Rat}
theorem Pg.Motion.on (h : Pg.Motion g) (a b p : Rat × Rat) : Pg.On (g a) (g b) (g p) ↔ Pg.On a b p := by unfold Pg.On; rw [h.cr, h.dot]
theorem Pg.Motion.meet (h : Pg.Motion g) (a b c d : Rat × Rat) : Pg.Meet (g a) (g b) (g c) (g d) ↔ Pg.Meet a b c d := by
 unfold Pg.Meet
 simp only [h.cr, h.on]
theorem Pg.cor_map (L : List (Rat × Rat)) (i : Nat) (h : 0 < L.length) : Pg.cor (L.map g) i = g (Pg.cor L i) := by
 unfold Pg.cor
 rw [List.length_map]
 have hi := Nat.mod_lt i h
 simp [List.getElem?_eq_getElem hi, List.getD_eq_getElem?_getD]
/-- The area by the triangles at the first corner. -/
theorem Pg.area_fan (o : Rat × Rat) (t : List (Rat × Rat)) : Pg.area (o :: t) = Pg.sum (fun a b => Pg.cr o a b) (t.zip t.tail) * Rat.divInt 1 2 := by
 unfold Pg.area
 congr 1
 cases t with
 | nil => unfold Pg.sides Pg.rot; simp [Pg.sum_cons, Pg.sum_nil]; unfold vcrs; grind
 | cons a t =>
  have h := Pg.sum_fan vcrs o Pg.crs_swap t a
  show Pg.sum vcrs ((o, a) :: (a :: t).zip (t ++ [o])) = Pg.sum _ ((a :: t).zip t)
  rw [Pg.sum_cons, h]
  exact Pg.sum_congr (fun x y => by unfold Pg.cr vcrs vsub; grind) _
theorem Pg.sum_map (f : Rat × Rat → Rat × Rat → Rat) : ∀ (s t : List (Rat × Rat)), Pg.sum f ((s.map g).zip (t.map g)) = Pg.sum (fun a b => f (g a) (g b)) (s.zip t)
 | [], _ => rfl
 | _ :: _, [] => rfl
 | a :: s, b :: t => by
  rw [List.map_cons, List.map_cons, List.zip_cons_cons, List.zip_cons_cons, Pg.sum_cons, Pg.sum_cons, Pg.sum_map f s t]
theorem Pg.Motion.area (h : Pg.Motion g) (L : List (Rat × Rat)) : Pg.area (L.map g) = Pg.area L := by
 cases L with
 | nil => rfl
 | cons o t =>
  rw [List.map_cons, Pg.area_fan, Pg.area_fan, ← List.map_tail, Pg.sum_map]
  congr 1
  exact Pg.sum_congr (fun a b => h.cr o a b) _
theorem Pg.Motion.bent (h : Pg.Motion g) (L : List (Rat × Rat)) : Pg.Bent (L.map g) ↔ Pg.Bent L := by
 unfold Pg.Bent
 rw [List.length_map]
 constructor
 ·intro k i hi
  have := k i hi
  rw [Pg.cor_map L _ (by omega), Pg.cor_map L _ (by omega), Pg.cor_map L _ (by omega), h.cr] at this
  exact this
 ·intro k i hi
  rw [Pg.cor_map L _ (by omega), Pg.cor_map L _ (by omega), Pg.cor_map L _ (by omega), h.cr]
  exact k i hi
theorem Pg.Motion.simple (h : Pg.Motion g) (L : List (Rat × Rat)) : Pg.Simple (L.map g) ↔ Pg.Simple L := by
 unfold Pg.Simple
 rw [List.length_map]
 constructor
 ·intro k i j hi hj g1 g2 hm
  refine k i j hi hj g1 g2 ?_
  rw [Pg.cor_map L _ (by omega), Pg.cor_map L _ (by omega), Pg.cor_map L _ (by omega), Pg.cor_map L _ (by omega), h.meet]
  exact hm
 ·intro k i j hi hj g1 g2 hm
  refine k i j hi hj g1 g2 ?_
  rw [Pg.cor_map L _ (by omega), Pg.cor_map L _ (by omega), Pg.cor_map L _ (by omega), Pg.cor_map L _ (by omega), h.meet] at hm
  exact hm
theorem Pg.Motion.right (h : Pg.Motion g) (L : List (Rat × Rat)) : Pg.Right (L.map g) ↔ Pg.Right L := by
 unfold Pg.Right
 rw [List.length_map, h.bent, h.simple, h.area]
end
end Go.Proofs.YtbaggkbleehegaaGreat
namespace Go.Proofs.YtbaggkbleehegaaGreat.E
open Go.RowKit
set_option linter.unusedVariables false
section
variable {n : Int} {l : List Int} {i m : Nat} {P : Program}
def spot (l : List Int) (a : Nat) : Rat × Rat := if atz l (a + 2) 1 = 0 then (Rat.divInt (atz l a 16 - 8) 1, Rat.divInt (atz l (a + 1) 16 - 8) 1) else (Rat.divInt (atz l a 32 - 16) 2, Rat.divInt (atz l (a + 1) 32 - 16) 2)
/-- The directions. -/
def wy : List (Int × Int) := [(4, 0), (4, 2), (3, 3), (2, 4), (0, 4), (-2, 4), (-3, 3), (-4, 2), (-4, 0), (-4, -2), (-3, -3), (-2, -4), (0, -4), (2, -4), (3, -3), (4, -2)]
def ways : List (List V) := wy.map fun p => [ni p.1, ni p.2]
end
end Go.Proofs.YtbaggkbleehegaaGreat.E
namespace Go.Proofs.YtbaggkbleehegaaGreat.E
open Go.RowKit
set_option linter.unusedVariables false
section
variable {P : Program}
/-- Code without loops, from a state to the way in which it is left. -/
noncomputable def runC (P : Program) : Nat → Code → St → List (Fa P) → Option (Exit × St × List (Fa P) × Ks)
 | 0, _, _, _ => none
 | n + 1, c, σ, sc => match c with
   | .skip => some (.normal, σ, sc, [])
   | .label _ => some (.normal, σ, sc, [])
   | .ret => some (.ret, σ, sc, [])
   | .exit id => some (.exit id, σ, sc, [])
   | .region i ops dr => match regR P ops ops.toList [] σ sc with
     | some (σ', fps, sc', k1) => match nodef ops && (!dr || (backB ops && (depOk ops && (dstOk ops && confOk ops fps 0)))) with
       | true => some (.normal, σ', sc', k1)
       | false => none
     | none => none
   | .seq a b => match runC P n a σ sc with
     | some (.normal, σ1, sc1, k1) => match runC P n b σ1 sc1 with
       | some (e, σ2, sc2, k2) => some (e, σ2, sc2, k1 ++ k2)
       | none => none
     | r => r
   | .cond c a b => match σ.ev c, sc with
     | .k (.bool t), .dec t0 b0 _ :: sc => match runC P n (match b0 with | true => a | false => b) σ sc with
       | some (e, σ, sc, k) => some (e, σ, sc, ([.k (.bool t)], [.k (.bool t0)]) :: k)
       | none => none
     | _, _ => none
   | .block id c => match runC P n c σ sc with
     | some (.exit i, σ, sc, k) => match Nat.beq i id with
       | true => some (.normal, σ, sc, k)
       | false => some (.exit i, σ, sc, k)
     | r => r
   | _ => none
variable {B : Nat → Prop} {M : Nat → Prop} {w0 : World} {Fx : Fence} {nf : Nat}
/-- How code is left. -/
def PostC (B : Nat → Prop) (M : Nat → Prop) (w0 : World) (E : World → (Nat → Prop) → (Nat → Option Value) → Prop) (dfs : List Deferred) (e : Exit) (σ : St) : Exit → Act → World → Prop := fun e' a w => e' = e ∧ ∃ m, SOk B M w0 σ a m w ∧ E w (Av M σ.ho m) m ∧ a.defers = dfs
theorem runC_ok (hm : P.follows .mixedOrders = true) (hFx : WideF Fx) (E : World → (Nat → Prop) → (Nat → Option Value) → Prop) (hE : ∀ w A m w' A' m', E w A m → Mo w A m w' A' m' → E w' A' m') {dfs : List Deferred} : ∀ (n : Nat) (c : Code) (σ σ' : St) (sc sc' : List (Fa P)) (ks : Ks) (e : Exit) (a : Act) (m : Nat → Option Value) (w : World),
  runC P n c σ sc = some (e, σ', sc', ks) → (∀ p ∈ ks, p.1 = p.2) → SOk B M w0 σ a m w → E w (Av M σ.ho m) m → a.defers = dfs → c.wpIn Fx nf P (PostC B M w0 E dfs e σ') a w := by
 intro n
 induction n with
 | zero => intro c σ σ' sc sc' ks e a m w h; cases h
 | succ n ih =>
  intro c σ σ' sc sc' ks e a m w h hk H hE0 hds
  cases c with
  | skip =>
   simp only [runC, Option.some.injEq, Prod.mk.injEq] at h
   obtain ⟨rfl, rfl, rfl, rfl⟩ := h
   exact wpIn_skip ⟨rfl, m, H, hE0, hds⟩
  | label l =>
   simp only [runC, Option.some.injEq, Prod.mk.injEq] at h
   obtain ⟨rfl, rfl, rfl, rfl⟩ := h
   exact wpIn_label ⟨rfl, m, H, hE0, hds⟩
  | ret =>
   simp only [runC, Option.some.injEq, Prod.mk.injEq] at h
   obtain ⟨rfl, rfl, rfl, rfl⟩ := h
   exact wpIn_ret ⟨rfl, m, H, hE0, hds⟩
  | exit id =>
   simp only [runC, Option.some.injEq, Prod.mk.injEq] at h
   obtain ⟨rfl, rfl, rfl, rfl⟩ := h
   exact wpIn_exit ⟨rfl, m, H, hE0, hds⟩
  | region i ops dr =>
   simp only [runC] at h
   split at h
   · rename_i σ1 fps sc1 k1 hr
     split at h
     · rename_i hc
       simp only [Option.some.injEq, Prod.mk.injEq] at h
       obtain ⟨rfl, rfl, rfl, rfl⟩ := h
       exact region_ok hm hFx hr hk hc E hE H hE0 hds
     · cases h
   · cases h
  | seq x y =>
   simp only [runC] at h
   split at h
   · rename_i σ1 sc1 k1 h1
     split at h
     · rename_i e2 σ2 sc2 k2 h2
       simp only [Option.some.injEq, Prod.mk.injEq] at h
       obtain ⟨rfl, rfl, rfl, rfl⟩ := h
       refine wpIn_seq (wpIn_mono (ih _ _ _ _ _ _ _ _ _ _ h1 (fun p hp => hk p (List.mem_append.2 (.inl hp))) H hE0 hds) ?_)
       rintro e' a' w' ⟨rfl, m', H', hE1, hd1⟩
       exact ih _ _ _ _ _ _ _ _ _ _ h2 (fun p hp => hk p (List.mem_append.2 (.inr hp))) H' hE1 hd1
     · cases h
   · rename_i hnn
     refine wpIn_seq (wpIn_mono (ih _ _ _ _ _ _ _ _ _ _ h hk H hE0 hds) ?_)
     rintro e' a' w' ⟨rfl, m', H', hE1, hd1⟩
     cases e' with
     | normal => exact absurd h (hnn _ _ _)
     | _ => exact ⟨rfl, m', H', hE1, hd1⟩
  | cond c x y =>
   simp only [runC] at h
   split at h
   · rename_i t t0 b0 hb sc1 hc
     split at h
     · rename_i e2 σ2 sc2 k2 h2
       simp only [Option.some.injEq, Prod.mk.injEq] at h
       obtain ⟨rfl, rfl, rfl, rfl⟩ := h
       have hkey := hk _ (List.mem_cons_self ..)
       simp only [List.cons.injEq, V.k.injEq, Value.bool.injEq, and_true] at hkey
       subst hkey
       have hv := ev_rep (a := a) (x := c) (σ := σ) (w := w) (A := Av M σ.ho m) (m := m) H.K.gl fun t0 _ => H.slot t0
       rw [hc] at hv
       refine wpIn_cond (Rep.k_inv hv) ?_
       have h3 := ih _ _ _ _ _ _ _ _ _ _ h2 (fun p hp => hk p (List.mem_cons_of_mem _ hp)) H hE0 hds
       rw [hb]
       cases b0 <;> exact h3
     · cases h
   · cases h
  | block id c =>
   simp only [runC] at h
   split at h
   · rename_i i σ1 sc1 k1 h1
     split at h
     · rename_i hi
       simp only [Option.some.injEq, Prod.mk.injEq] at h
       obtain ⟨rfl, rfl, rfl, rfl⟩ := h
       have := Nat.eq_of_beq_eq_true hi
       subst this
       refine wpIn_block (wpIn_mono (ih _ _ _ _ _ _ _ _ _ _ h1 hk H hE0 hds) ?_)
       rintro e' a' w' ⟨rfl, m', H', hE1, hd1⟩
       simp only [Exit.inBlock, if_true]
       exact ⟨rfl, m', H', hE1, hd1⟩
     · rename_i hi
       simp only [Option.some.injEq, Prod.mk.injEq] at h
       obtain ⟨rfl, rfl, rfl, rfl⟩ := h
       refine wpIn_block (wpIn_mono (ih _ _ _ _ _ _ _ _ _ _ h1 hk H hE0 hds) ?_)
       rintro e' a' w' ⟨rfl, m', H', hE1, hd1⟩
       have hne : i ≠ id := fun e => by rw [e] at hi; rw [Nat.beq_refl] at hi; cases hi
       simp only [Exit.inBlock, if_neg hne]
       exact ⟨rfl, m', H', hE1, hd1⟩
   · rename_i hnn
     refine wpIn_block (wpIn_mono (ih _ _ _ _ _ _ _ _ _ _ h hk H hE0 hds) ?_)
     rintro e' a' w' ⟨rfl, m', H', hE1, hd1⟩
     cases e' with
     | exit i => exact absurd h (hnn _ _ _ _)
     | _ => exact ⟨rfl, m', H', hE1, hd1⟩
  | _ => simp [runC] at h
end
end Go.Proofs.YtbaggkbleehegaaGreat.E
