/-
 THE LAWS by the engine, their arguments as they come in.
-/
import Derived.Test.YtmhliomemdhmiaaGreatDoorCaR
import Derived.Test.YtmhliomemdhmiaaGreatDoorMemI
import Derived.OpenShut
import Derived.Test.YtmhliomemdhmiaaGreatDoorEqA
namespace Go.Proofs.YtmhliomemdhmiaaGreatDoor.E.Ca
open Go.RowKit
set_option linter.unusedVariables false
set_option linter.unusedSimpArgs false
section
variable {L G : List CM} {i k : Nat} {l : List Int} {bits : Int}
theorem bvB_fix (h : i < L.length) : bvB L i = !(List.range L.length).any fun k => rfB L i k && bvB L k := by
 obtain ⟨a, ha, rfl⟩ := od_ex h
 exact believed_fix ha
theorem bvB_of {b : Bool} (h : i < L.length) (g : ((List.range L.length).any fun k => rfB L i k && bvB L k) = !b) : bvB L i = b := by
 rw [bvB_fix h, g]; simp
theorem clG_tick {b s t kd : Int} {rf : List (Int × Int)} : (clG l i b s t rf kd).tick = t := by
 unfold clG
 split <;> rfl
/-- Later claims have later ticks. -/
structure TI (L : List CM) (t : Int) : Prop where
 hi : ∀ c ∈ L, c.tick ≤ t
 up : ∀ a b, a < b → b < L.length → (L.getD a c0).tick < (L.getD b c0).tick
theorem TI.add {t t' : Int} (h : TI L t) {c : CM} (hc : c.tick = t') (ht : t < t') : TI (L ++ [c]) t' where
 hi d hd := by
  rcases List.mem_append.1 hd with g | g
  · have := h.hi d g; omega
  · rw [List.mem_singleton] at g; subst g; omega
 up a b hab hb := by
  rw [List.length_append, List.length_singleton] at hb
  rw [getD_app (by omega : a < L.length)]
  by_cases g : b < L.length
  · rw [getD_app g]; exact h.up a b hab g
  · have e : b = L.length := by omega
    subst e
    have e2 : (L ++ [c]).getD L.length c0 = c := by rw [List.getD_eq_getElem?_getD, List.getElem?_append_right (Nat.le_refl _)]; simp
    rw [e2]
    have := h.hi _ (getD_mem (d := c0) (by omega : a < L.length))
    omega
theorem good_ti : ∀ i, TI (goodF l i).1 (goodF l i).2
 | 0 => ⟨fun c h => (by cases h), fun a b _ h => absurd h (Nat.not_lt_zero b)⟩
 | i + 1 => by
  have ih := good_ti i
  have h2 := atz_in l (5 * i + 2) 1
  show TI ((goodF l i).1 ++ [_]) (tkG (goodF l i).2 l i)
  exact ih.add clG_tick (by unfold tkG; omega)
/-- What is wanted of the claims. -/
structure GP (G : List CM) : Prop where
 len : G.length ≤ 10
 by_ : ∀ c ∈ G, 0 ≤ c.by_ ∧ c.by_ ≤ 2
 tick : ∀ c ∈ G, c.tick ≤ 20
 up : ∀ a b, a < b → b < G.length → (G.getD a c0).tick < (G.getD b c0).tick
 ne : ∀ a b, a < b → b < G.length → (G.getD a c0).nm ≠ (G.getD b c0).nm
theorem good_gp (l : List Int) : GP (goodL l) := by
 have hn : numG l ≤ 10 := Nat.min_le_left _ _
 have h1 := good_gi (l := l) _ hn
 have h2 := good_ti (l := l) (numG l)
 have h3 := good_tick (l := l) (numG l)
 exact ⟨goodL_len l, h1.by_, fun c hc => by have := h2.hi c hc; omega, h2.up, h1.ne⟩
def bitN (bits : Int) (i : Nat) : Bool := (bits.fdiv (2 ^ min (IntKind.u64.wrap (i : Int)).toNat IntKind.i64.bits)).tmod 2 != 0
def rfR (G : List CM) (bits : Int) : Nat → List (Int × Int)
 | 0 => []
 | i + 1 => if bitN bits i = true then rfR G bits i ++ [(G.getD i c0).nm] else rfR G bits i
def plB (G : List CM) (bits : Int) : Nat → Bool
 | 0 => true
 | i + 1 => if bitN bits i = true then plB G bits i && ((G.getD i c0).kind != 3) else plB G bits i
def laB (G : List CM) : Nat → Bool
 | 0 => true
 | j + 1 => laB G j && ((G.getD (G.length - 1 - j) c0).kind != 3)
def cR (G : List CM) (bits : Int) : CM := ⟨4, 0, 100, 3, rfR G bits G.length, zF, 0⟩
def cA : CM := ⟨3, 0, 101, 3, [(4, 0)], zF, 0⟩
theorem rfR_mem {x : Int × Int} : ∀ n, x ∈ rfR G bits n ↔ ∃ k, k < n ∧ bitN bits k = true ∧ x = (G.getD k c0).nm
 | 0 => by simp [rfR]
 | n + 1 => by
  have ih := rfR_mem (x := x) n
  unfold rfR
  by_cases h : bitN bits n = true
  · rw [if_pos h, List.mem_append, List.mem_singleton, ih]
    constructor
    · rintro (⟨k, h1, h2, h3⟩ | h1)
      · exact ⟨k, by omega, h2, h3⟩
      · exact ⟨n, by omega, h, h1⟩
    · rintro ⟨k, h1, h2, h3⟩
      by_cases e : k = n
      · subst e; exact .inr h3
      · exact .inl ⟨k, by omega, h2, h3⟩
  · rw [if_neg h, ih]
    constructor
    · rintro ⟨k, h1, h2, h3⟩; exact ⟨k, by omega, h2, h3⟩
    · rintro ⟨k, h1, h2, h3⟩
      by_cases e : k = n
      · subst e; exact absurd h2 h
      · exact ⟨k, by omega, h2, h3⟩
theorem GP.inj (h : GP G) {a b : Nat} (ha : a < G.length) (hb : b < G.length) (e : (G.getD a c0).nm = (G.getD b c0).nm) : a = b := by
 by_cases h1 : a < b
 · exact absurd e (h.ne a b h1 hb)
 · by_cases h2 : b < a
   · exact absurd e.symm (h.ne b a h2 ha)
   · omega
theorem GP.named (h : GP G) (hi : i < G.length) : ((rfR G bits G.length).any fun q => decide ((G.getD i c0).nm = q)) = bitN bits i := by
 rw [Bool.eq_iff_iff, List.any_eq_true]
 constructor
 · rintro ⟨q, hq, e⟩
   obtain ⟨k, h1, h2, h3⟩ := (rfR_mem _).1 hq
   have := h.inj hi h1 ((of_decide_eq_true e).trans h3)
   subst this
   exact h2
 · intro hb
   exact ⟨_, (rfR_mem _).2 ⟨i, hi, hb, rfl⟩, decide_eq_true rfl⟩
theorem plB_of : ∀ n, plB G bits n = true → ∀ k, k < n → bitN bits k = true → (G.getD k c0).kind ≠ 3
 | 0, _, k, h, _ => absurd h (Nat.not_lt_zero k)
 | n + 1, hp, k, hk, hb => by
  unfold plB at hp
  by_cases h : bitN bits n = true
  · rw [if_pos h, Bool.and_eq_true] at hp
    by_cases e : k = n
    · subst e; simpa using hp.2
    · exact plB_of n hp.1 k (by omega) hb
  · rw [if_neg h] at hp
    by_cases e : k = n
    · subst e; exact absurd hb h
    · exact plB_of n hp k (by omega) hb
theorem laB_of : ∀ j, j ≤ G.length → laB G j = true → ∀ k, G.length - j ≤ k → k < G.length → (G.getD k c0).kind ≠ 3
 | 0, _, _, k, h1, h2 => by omega
 | j + 1, hj, hp, k, h1, h2 => by
  unfold laB at hp
  rw [Bool.and_eq_true] at hp
  by_cases e : k = G.length - 1 - j
  · subst e; simpa using hp.2
  · exact laB_of j (by omega) hp.1 k (by omega) h2
/-- A claim is refuted by later ones alone. -/
theorem GP.later (h : GP G) (hi : i < G.length) (hk : k < G.length) (hr : rfB G i k = true) : i < k ∧ (G.getD k c0).kind = 3 := by
 unfold rfB at hr
 simp only [Bool.and_eq_true, beq_iff_eq] at hr
 obtain ⟨⟨h1, h2⟩, _⟩ := hr
 refine ⟨?_, h1⟩
 rw [bef_iff] at h2
 by_cases e : i < k
 · exact e
 · by_cases e2 : i = k
   · subst e2; omega
   · have := h.up k i (by omega) hi
     omega
theorem GP.last (h : GP G) (hi : i < G.length) (hl : laB G (G.length - 1 - i) = true) : bvB G i = true := by
 refine bvB_of hi ?_
 rw [List.any_eq_false.2 fun k hk => by
  have hk := List.mem_range.1 hk
  intro e
  rw [Bool.and_eq_true] at e
  obtain ⟨h1, h2⟩ := h.later hi hk e.1
  exact laB_of _ (by omega) hl k (by omega) hk h2]
 rfl
-- behind a refutation
theorem at1 (hi : i < G.length) {c : CM} : (G ++ [c]).getD i c0 = G.getD i c0 := getD_app hi
theorem at1n {c : CM} : (G ++ [c]).getD G.length c0 = c := by rw [List.getD_eq_getElem?_getD, List.getElem?_append_right (Nat.le_refl _)]; simp
theorem any_succ (f : Nat → Bool) (n : Nat) : (List.range (n + 1)).any f = ((List.range n).any f || f n) := by rw [List.range_succ, List.any_append]; simp
theorem any_cong {f g : Nat → Bool} {n : Nat} (h : ∀ k, k < n → f k = g k) : (List.range n).any f = (List.range n).any g := by
 rw [Bool.eq_iff_iff, List.any_eq_true, List.any_eq_true]
 constructor
 · rintro ⟨k, h1, h2⟩; exact ⟨k, h1, by rw [← h k (List.mem_range.1 h1)]; exact h2⟩
 · rintro ⟨k, h1, h2⟩; exact ⟨k, h1, by rw [h k (List.mem_range.1 h1)]; exact h2⟩
def L1 (G : List CM) (bits : Int) : List CM := G ++ [cR G bits]
theorem L1_len : (L1 G bits).length = G.length + 1 := by unfold L1; simp
theorem r1_in (hi : i < G.length) (hk : k < G.length) : rfB (L1 G bits) i k = rfB G i k := by
 unfold rfB L1
 rw [at1 hi, at1 hk]
theorem GP.r1_n (h : GP G) (hi : i < G.length) : rfB (L1 G bits) i G.length = bitN bits i := by
 have ht := h.tick _ (getD_mem (d := c0) hi)
 unfold rfB L1
 rw [at1 hi, at1n]
 have hb : befB (G.getD i c0) (cR G bits) = true := by
  rw [bef_iff]
  exact .inl (by show (G.getD i c0).tick < 100; omega)
 rw [hb]
 show ((3 : Int) == 3 && true && ((rfR G bits G.length).any fun q => decide ((G.getD i c0).nm = q))) = _
 rw [h.named hi]
 rfl
theorem GP.r1_r (h : GP G) (hk : k < (L1 G bits).length) : rfB (L1 G bits) G.length k = false := by
 unfold rfB
 have hb : befB ((L1 G bits).getD G.length c0) ((L1 G bits).getD k c0) = false := by
  unfold L1
  rw [at1n, bef_no]
  rw [L1_len] at hk
  by_cases e : k < G.length
  · rw [at1 e]
    have := h.tick _ (getD_mem (d := c0) e)
    have h100 : (cR G bits).tick = 100 := rfl
    omega
  · have e2 : k = G.length := by omega
    subst e2
    rw [at1n]
    omega
 rw [hb]
 simp
theorem GP.aft_r (h : GP G) : bvB (L1 G bits) G.length = true := by
 refine bvB_of (by rw [L1_len]; omega) ?_
 rw [List.any_eq_false.2 fun k hk => by rw [h.r1_r (List.mem_range.1 hk)]; simp]
 rfl
theorem GP.aft_no (h : GP G) (hi : i < G.length) (hb : bitN bits i = true) : bvB (L1 G bits) i = false := by
 refine bvB_of (by rw [L1_len]; omega) ?_
 rw [L1_len, any_succ, h.r1_n hi, h.aft_r, hb]
 simp
theorem GP.aft_eq (h : GP G) (hp : plB G bits G.length = true) : ∀ (m i : Nat), G.length - i ≤ m → i < G.length → bitN bits i = false → bvB (L1 G bits) i = bvB G i
 | 0, i, hm, hi, _ => by omega
 | m + 1, i, hm, hi, hb => by
  rw [bvB_fix (L := L1 G bits) (by rw [L1_len]; omega), bvB_fix hi, L1_len, any_succ, h.r1_n hi, hb]
  rw [any_cong (g := fun k => rfB G i k && bvB G k) fun k hk => by
   rw [r1_in hi hk]
   cases hr : rfB G i k with
   | false => rfl
   | true =>
    obtain ⟨h1, h2⟩ := h.later hi hk hr
    have hbk : bitN bits k = false := by
     cases e : bitN bits k with
     | false => rfl
     | true => exact absurd h2 (plB_of _ hp k hk e)
    rw [h.aft_eq hp m k (by omega) hk hbk]]
  simp
def L2 (G : List CM) (bits : Int) : List CM := cA :: (G ++ [cR G bits])
theorem L2_len : (L2 G bits).length = G.length + 2 := by unfold L2; simp
theorem at2_0 : (L2 G bits).getD 0 c0 = cA := rfl
theorem at2_s (i : Nat) : (L2 G bits).getD (i + 1) c0 = (L1 G bits).getD i c0 := by unfold L2 L1; simp [List.getD_eq_getElem?_getD]
theorem r2_s (i k : Nat) : rfB (L2 G bits) (i + 1) (k + 1) = rfB (L1 G bits) i k := by unfold rfB; rw [at2_s, at2_s]
theorem any_first (f : Nat → Bool) (n : Nat) : (List.range (n + 1)).any f = (f 0 || (List.range n).any fun k => f (k + 1)) := by
 rw [List.range_succ_eq_map, List.any_cons, List.any_map]; rfl
theorem GP.bk_0 (h : GP G) : bvB (L2 G bits) 0 = true := by
 refine bvB_of (by rw [L2_len]; omega) ?_
 rw [List.any_eq_false.2 fun k hk => ?_]
 · rfl
 · have hk := List.mem_range.1 hk
   rw [L2_len] at hk
   have hb : befB ((L2 G bits).getD 0 c0) ((L2 G bits).getD k c0) = false := by
    rw [bef_no, at2_0]
    have h1 : cA.tick = 101 := rfl
    have h2 : cA.by_ = 3 := rfl
    have h3 : cA.seq = 0 := rfl
    have ht : ((L2 G bits).getD k c0).tick ≤ 101 ∧ (((L2 G bits).getD k c0).tick = 101 → k = 0) := by
     cases k with
     | zero => exact ⟨by rw [at2_0]; exact Int.le_refl _, fun _ => rfl⟩
     | succ k =>
      rw [at2_s]
      unfold L1
      by_cases e : k < G.length
      · rw [at1 e]
        have := h.tick _ (getD_mem (d := c0) e)
        omega
      · have e2 : k = G.length := by omega
        subst e2
        rw [at1n]
        have : (cR G bits).tick = 100 := rfl
        omega
    intro hx
    rcases hx with hx | ⟨hx, hy⟩
    · omega
    · have := ht.2 (by omega)
      subst this
      rw [at2_0] at hy
      omega
   unfold rfB
   rw [hb]
   simp
theorem GP.bk_r (h : GP G) : bvB (L2 G bits) (G.length + 1) = false := by
 refine bvB_of (by rw [L2_len]; omega) ?_
 rw [L2_len, any_first, h.bk_0]
 have : rfB (L2 G bits) (G.length + 1) 0 = true := by
  unfold rfB
  rw [at2_s, at2_0]
  unfold L1
  rw [at1n]
  rfl
 rw [this]
 rfl
theorem GP.bk_eq (h : GP G) : ∀ (m i : Nat), G.length - i ≤ m → i < G.length → bvB (L2 G bits) (i + 1) = bvB G i
 | 0, i, hm, hi => by omega
 | m + 1, i, hm, hi => by
  have hby := h.by_ _ (getD_mem (d := c0) hi)
  have r0 : rfB (L2 G bits) (i + 1) 0 = false := by
   unfold rfB
   rw [at2_s, at2_0]
   unfold L1
   rw [at1 hi]
   have : (cA.refs.any fun q => decide ((G.getD i c0).nm = q)) = false := by
    show ([((4 : Int), (0 : Int))].any fun q => decide ((G.getD i c0).nm = q)) = false
    simp only [List.any_cons, List.any_nil, Bool.or_false]
    refine decide_eq_false fun e => ?_
    unfold CM.nm at e
    injection e with e1 e2
    omega
   rw [this]
   simp
  rw [bvB_fix (L := L2 G bits) (by rw [L2_len]; omega), bvB_fix hi, L2_len, any_first, r0, any_succ, h.bk_r]
  rw [any_cong (g := fun k => rfB G i k && bvB G k) fun k hk => by
   rw [r2_s, r1_in hi hk]
   cases hr : rfB G i k with
   | false => rfl
   | true =>
    obtain ⟨h1, h2⟩ := h.later hi hk hr
    rw [h.bk_eq m k (by omega) hk]]
  simp
end
end Go.Proofs.YtmhliomemdhmiaaGreatDoor.E.Ca
namespace Go.Proofs.YtmhliomemdhmiaaGreatDoor.E.Ca
open Go.RowKit
set_option linter.unusedVariables false
set_option linter.unusedSimpArgs false
section
variable {G : List CM} {bits : Int} {i j : Nat} {l : List Int} {pl : Bool}
noncomputable abbrev fcf : Func := fnOf PP 5
def was (G : List CM) : List (List V) := bV (believedL G)
/-- The refutation, while its references are written. -/
def boxR : List V := [ni 4, ni 0, ni 100, ni 3, .ow 3, ni 0, ni 0, ni 0, ni 0, ni 0, bo false, .sl [], bo false, .sl [], bo false, .sl [], bo false, .sl [], bo false, .sl [], bo false, .sl [], bo false, .sl [], bo false, .sl [], bo false, .sl [], bo false, .sl [], bo false, .sl [], bo false, .sl [], ni 0]
noncomputable def R1 (G : List CM) (bits : Int) (i : Nat) : St := at_ fcf [(1, ni bits), (5, .sl (G.map dC)), (6, .sl (was G)), (7, .lp 0 0), (8, .lp 2 0), (9, bo (plB G bits i)), (10, ni i)] [.bx 37 boxR, .dead, .bx 37 (dC cA), .rw 52 2 (rfs (rfR G bits i))]
noncomputable def R2 (G : List CM) (bits : Int) (pl : Bool) : St := at_ fcf [(1, ni bits), (5, .sl (G.map dC)), (6, .sl (was G)), (7, .ip (dC (cR G bits))), (8, .ip (dC cA)), (9, bo pl)] []
noncomputable def R3 (G : List CM) (bits : Int) (pl la : Bool) (i : Int) : St := at_ fcf [(1, ni bits), (5, .sl (G.map dC)), (6, .sl (was G)), (9, bo pl), (11, .sl (was (L1 G bits))), (12, .sl (was (L2 G bits))), (13, bo la), (14, ni i)] []
abbrev GR (td : List Item) (σ : St) : Prop := Gd PP 5 (bo true) td σ
theorem was_len (L : List CM) : (was L).length = L.length := by unfold was believedL; rw [bV_len, belF_len]
theorem was_at {L : List CM} (h : i < L.length) {b : Bool} (e : bvB L i = b) : (was L)[i]? = some [bo b] := by
 subst e
 unfold was bvB
 exact bV_at (getb (by unfold believedL; rw [belF_len]; exact h))
theorem r_first (h : GP G) (hp : 0 < G.length) (next : GR (rg fcf 14) (R2 G bits (plB G bits G.length))) : GR (lp fcf 0) (R1 G bits 0) := by
 have hlen := h.len
 refine Gd.loop (R1 G bits) (fun i => i ≤ G.length) (fun i => G.length - i) ?_ 0 (Nat.zero_le _)
 intro i hi ih
 by_cases hlt : i < G.length
 · have nx := ih (i + 1) hlt (by omega)
   have e := elC hlt
   have hcap : (rfR G bits i).length ≤ i := by
    clear ih nx e hlt hi
    induction i with
    | zero => exact Nat.le_refl _
    | succ i ih =>
     unfold rfR
     split
     · simp; omega
     · omega
   cases hb : bitN bits i with
   | false =>
    have e1 : plB G bits (i + 1) = plB G bits i := by show (if _ then _ else _) = _; rw [if_neg (by rw [hb]; exact Bool.false_ne_true)]
    have e2 : rfR G bits (i + 1) = rfR G bits i := by show (if _ then _ else _) = _; rw [if_neg (by rw [hb]; exact Bool.false_ne_true)]
    unfold R1 at nx
    rw [e1, e2] at nx
    exact .to mo_ [] [1, 5, 6, 7, 8, 9, 10] [0, 2, 3] 4 [ye (t := ltS G i) (ltS_t hlt), na (t := bitN bits i) hb, inc 47 i (by omega)] nx (by kernel_rfl)
   | true =>
    have e1 : plB G bits (i + 1) = (plB G bits i && ((G.getD i c0).kind != 3)) := by show (if _ then _ else _) = _; rw [if_pos hb]
    have e2 : rfR G bits (i + 1) = rfR G bits i ++ [(G.getD i c0).nm] := by show (if _ then _ else _) = _; rw [if_pos hb]
    have ha : rfs (rfR G bits i) ++ rfs [(G.getD i c0).nm] = rfs (rfR G bits (i + 1)) := by rw [rfs_app, e2]
    have hl2 : (rfs (rfR G bits (i + 1))).length ≤ 2000 := by rw [rfs_len, e2]; simp; omega
    have hl3 : 0 < (rfs [(G.getD i c0).nm]).length := by simp [rfs]
    generalize G.getD i c0 = c at e e1 ha hl3
    let F : List F_ := [ye (t := ltS G i) (ltS_t hlt), ye (t := bitN bits i) hb, .sel _ _ _ e, .sel _ _ _ e, .app (rfs (rfR G bits i)) (rfs [c.nm]) (rfs (rfR G bits (i + 1))) 2000 ha hl3 hl2]
    cases hq : plB G bits i with
    | false =>
     rw [hq] at e1
     have hX : R1 G bits i = at_ fcf [(1, ni bits), (5, .sl (G.map dC)), (6, .sl (was G)), (7, .lp 0 0), (8, .lp 2 0), (9, bo false), (10, ni i)] [.bx 37 boxR, .dead, .bx 37 (dC cA), .rw 52 2 (rfs (rfR G bits i))] := by unfold R1; rw [hq]
     rw [hX]
     exact .to mo_ [.mv 3 5] [1, 5, 6, 7, 8, 9, 10] [0, 2, 3] 4 (F ++ [nf, .eqv 78 (bo false) (bo (plB G bits (i + 1))) (by rw [e1]; rfl), inc 47 i (by omega)]) nx (by kernel_rfl)
    | true =>
     rw [hq] at e1
     have hX : R1 G bits i = at_ fcf [(1, ni bits), (5, .sl (G.map dC)), (6, .sl (was G)), (7, .lp 0 0), (8, .lp 2 0), (9, bo true), (10, ni i)] [.bx 37 boxR, .dead, .bx 37 (dC cA), .rw 52 2 (rfs (rfR G bits i))] := by unfold R1; rw [hq]
     rw [hX]
     exact .to mo_ [.mv 3 5] [1, 5, 6, 7, 8, 9, 10] [0, 2, 3] 4 (F ++ [yt, .sel _ _ _ e, .eqv 78 (bo (c.kind != 3)) (bo (plB G bits (i + 1))) (by rw [e1]; rfl), inc 47 i (by omega)]) nx (by kernel_rfl)
 · have e : i = G.length := by omega
   subst e
   exact .to mo_ [.fz 7, .fz 8] [1, 5, 6, 7, 8, 9] [] 0 [na (t := ltS G G.length) (ltS_f (by omega))] next (by kernel_rfl)
theorem gl_eq1 (G : List CM) : (G.map dC).length = G.length := List.length_map ..
theorem r_mid (h : GP G) (hp : 0 < G.length) (next : GR (lp fcf 1) (R3 G bits pl true ((G.length - 1 : Nat) : Int))) : GR (rg fcf 14) (R2 G bits pl) := by
 have hlen := h.len
 have hg := gl_eq1 G
 have l1 := was_len (L1 G bits)
 have l2 := was_len (L2 G bits)
 rw [L1_len] at l1
 rw [L2_len] at l2
 have b1 := Pure.ro (e_believed (L := L1 G bits) (by rw [L1_len]; omega))
 have b2 := Pure.ro (e_believed (L := L2 G bits) (by rw [L2_len]; omega))
 have s1 := was_at (L := L1 G bits) (by rw [L1_len]; omega) h.aft_r
 have s2 := was_at (L := L2 G bits) (by rw [L2_len]; omega) h.bk_r
 have s3 := was_at (L := L2 G bits) (by rw [L2_len]; omega) h.bk_0
 exact .to mo_ [] [1, 5, 6, 9, 11, 12, 13, 14] [] 0 [.aps [] (G.map dC) (G.map dC) 2000 35 rfl (by rw [hg]; exact hp) (by rw [hg]; omega) (dC_ok _), .app (G.map dC) [dC (cR G bits)] ((L1 G bits).map dC) 2000 (by unfold L1; simp) (by simp) (by rw [List.length_map, L1_len]; omega), cl b1,
   .aps [dC cA] (G.map dC) ((cA :: G).map dC) 2000 35 rfl (by rw [hg]; exact hp) (by simp; omega) (dC_ok _), .app ((cA :: G).map dC) [dC (cR G bits)] ((L2 G bits).map dC) 2000 (by unfold L2; simp) (by simp) (by rw [List.length_map, L2_len]; omega), cl b2,
   .eqv 97 (ni ((G.map dC).length : Int)) (ni (G.length : Int)) (by rw [hg]), inc 98 G.length (by omega), na (t := ((was (L1 G bits)).length : Int) != ((G.length + 1 : Nat) : Int)) (by rw [l1]; simp),
   .eqv 104 (ni ((G.map dC).length : Int)) (ni (G.length : Int)) (by rw [hg]), wq 105 ((G.length : Int) + 2) ((G.length + 2 : Nat) : Int) (by omega), na (t := ((was (L2 G bits)).length : Int) != ((G.length + 2 : Nat) : Int)) (by rw [l2]; simp),
   .eqv 111 (ni ((G.map dC).length : Int)) (ni (G.length : Int)) (by rw [hg]), .sel _ _ _ s1, nf, .eqv 119 (ni ((G.map dC).length : Int)) (ni (G.length : Int)) (by rw [hg]), inc 120 G.length (by omega), .sel _ _ _ s2, nf, .sel _ 0 _ s3, nf,
   .eqv 131 (ni ((G.map dC).length : Int)) (ni (G.length : Int)) (by rw [hg]), wq 132 ((G.length : Int) - 1) ((G.length - 1 : Nat) : Int) (by omega)] next (by kernel_rfl)
def wq_ok (x y : Int) : Prop := x - 1 = y ∧ -9223372036854775808 ≤ y ∧ y ≤ 9223372036854775807
theorem r_last (h : GP G) (hp : plB G bits G.length = pl) (j : Nat) (hj : j < G.length) (nx : GR (lp fcf 1) (R3 G bits pl (laB G (j + 1)) ((G.length : Int) - 1 - ((j + 1 : Nat) : Int)))) : GR (lp fcf 1) (R3 G bits pl (laB G j) ((G.length - 1 - j : Nat) : Int)) := by
 have hlen := h.len
 have hla : laB G (j + 1) = (laB G j && ((G.getD (G.length - 1 - j) c0).kind != 3)) := rfl
 have hlast := fun g : laB G j = true => h.last (i := G.length - 1 - j) (by omega) (by rw [show G.length - 1 - (G.length - 1 - j) = j by omega]; exact g)
 have hi : G.length - 1 - j < G.length := by omega
 have hnx : wq_ok ((G.length - 1 - j : Nat) : Int) ((G.length : Int) - 1 - ((j + 1 : Nat) : Int)) := by unfold wq_ok; omega
 generalize hI : G.length - 1 - j = i at hla hlast hi hnx
 have e := elC hi
 have a1 := fun b => h.aft_no (bits := bits) (i := i) hi (b)
 have a2 := fun b1 b2 => h.aft_eq (bits := bits) b1 (G.length - i) i (Nat.le_refl _) hi b2
 have a3 := h.bk_eq (bits := bits) (G.length - i) i (Nat.le_refl _) hi
 have hge : decide ((i : Int) ≥ 0) = true := decide_eq_true (by omega)
 generalize G.getD i c0 = c at e hla
 have W0 : ∀ {w : Bool}, bvB G i = w → (was G)[i]? = some [bo w] := fun e => was_at hi e
 have W1 : ∀ {w : Bool}, bvB (L1 G bits) i = w → (was (L1 G bits))[i]? = some [bo w] := fun e => was_at (by rw [L1_len]; omega) e
 have W2 : ∀ {w : Bool}, bvB G i = w → (was (L2 G bits))[i + 1]? = some [bo w] := fun e => was_at (by rw [L2_len]; omega) (a3.trans e)
 cases hb : bitN bits i with
 | true =>
  cases hg : laB G j with
  | true =>
   have hw := hlast hg
   exact .to mo_ [] [1, 5, 6, 9, 11, 12, 13, 14] [] 0 [ye (t := decide ((i : Int) ≥ 0)) hge, .eqv 142 (bo (bitN bits i)) (bo true) (by rw [hb]), yt, .sel _ _ _ (W1 (a1 hb)), nf, nf, nf, nf, inc 171 i (by omega), .sel _ _ _ (W2 hw), .sel _ _ _ (W0 hw), nf, yt, .sel _ _ _ (W0 hw), nf, yt, .sel _ _ _ e, .eqv 198 (bo (c.kind != 3)) (bo (laB G (j + 1))) (by rw [hla, hg]; rfl), wq 136 ((i : Int) - 1) ((G.length : Int) - 1 - ((j + 1 : Nat) : Int)) hnx] nx (by kernel_rfl)
  | false =>
   cases hw : bvB G i with
   | true => exact .to mo_ [] [1, 5, 6, 9, 11, 12, 13, 14] [] 0 [ye (t := decide ((i : Int) ≥ 0)) hge, .eqv 142 (bo (bitN bits i)) (bo true) (by rw [hb]), yt, .sel _ _ _ (W1 (a1 hb)), nf, nf, nf, nf, inc 171 i (by omega), .sel _ _ _ (W2 hw), .sel _ _ _ (W0 hw), nf, nf, nf, nf, .eqv 198 (bo false) (bo (laB G (j + 1))) (by rw [hla, hg]; rfl), wq 136 ((i : Int) - 1) ((G.length : Int) - 1 - ((j + 1 : Nat) : Int)) hnx] nx (by kernel_rfl)
   | false => exact .to mo_ [] [1, 5, 6, 9, 11, 12, 13, 14] [] 0 [ye (t := decide ((i : Int) ≥ 0)) hge, .eqv 142 (bo (bitN bits i)) (bo true) (by rw [hb]), yt, .sel _ _ _ (W1 (a1 hb)), nf, nf, nf, nf, inc 171 i (by omega), .sel _ _ _ (W2 hw), .sel _ _ _ (W0 hw), nf, nf, nf, nf, .eqv 198 (bo false) (bo (laB G (j + 1))) (by rw [hla, hg]; rfl), wq 136 ((i : Int) - 1) ((G.length : Int) - 1 - ((j + 1 : Nat) : Int)) hnx] nx (by kernel_rfl)
 | false =>
  cases pl with
  | true =>
   cases hg : laB G j with
   | true =>
    have hw := hlast hg
    exact .to mo_ [] [1, 5, 6, 9, 11, 12, 13, 14] [] 0 [ye (t := decide ((i : Int) ≥ 0)) hge, .eqv 142 (bo (bitN bits i)) (bo false) (by rw [hb]), nf, nf, yt, yt, .sel _ _ _ (W1 ((a2 hp hb).trans hw)), .sel _ _ _ (W0 hw), nf, inc 171 i (by omega), .sel _ _ _ (W2 hw), .sel _ _ _ (W0 hw), nf, yt, .sel _ _ _ (W0 hw), nf, yt, .sel _ _ _ e, .eqv 198 (bo (c.kind != 3)) (bo (laB G (j + 1))) (by rw [hla, hg]; rfl), wq 136 ((i : Int) - 1) ((G.length : Int) - 1 - ((j + 1 : Nat) : Int)) hnx] nx (by kernel_rfl)
   | false =>
    cases hw : bvB G i with
    | true => exact .to mo_ [] [1, 5, 6, 9, 11, 12, 13, 14] [] 0 [ye (t := decide ((i : Int) ≥ 0)) hge, .eqv 142 (bo (bitN bits i)) (bo false) (by rw [hb]), nf, nf, yt, yt, .sel _ _ _ (W1 ((a2 hp hb).trans hw)), .sel _ _ _ (W0 hw), nf, inc 171 i (by omega), .sel _ _ _ (W2 hw), .sel _ _ _ (W0 hw), nf, nf, nf, nf, .eqv 198 (bo false) (bo (laB G (j + 1))) (by rw [hla, hg]; rfl), wq 136 ((i : Int) - 1) ((G.length : Int) - 1 - ((j + 1 : Nat) : Int)) hnx] nx (by kernel_rfl)
    | false => exact .to mo_ [] [1, 5, 6, 9, 11, 12, 13, 14] [] 0 [ye (t := decide ((i : Int) ≥ 0)) hge, .eqv 142 (bo (bitN bits i)) (bo false) (by rw [hb]), nf, nf, yt, yt, .sel _ _ _ (W1 ((a2 hp hb).trans hw)), .sel _ _ _ (W0 hw), nf, inc 171 i (by omega), .sel _ _ _ (W2 hw), .sel _ _ _ (W0 hw), nf, nf, nf, nf, .eqv 198 (bo false) (bo (laB G (j + 1))) (by rw [hla, hg]; rfl), wq 136 ((i : Int) - 1) ((G.length : Int) - 1 - ((j + 1 : Nat) : Int)) hnx] nx (by kernel_rfl)
  | false =>
   cases hg : laB G j with
   | true =>
    have hw := hlast hg
    exact .to mo_ [] [1, 5, 6, 9, 11, 12, 13, 14] [] 0 [ye (t := decide ((i : Int) ≥ 0)) hge, .eqv 142 (bo (bitN bits i)) (bo false) (by rw [hb]), nf, nf, yt, nf, nf, inc 171 i (by omega), .sel _ _ _ (W2 hw), .sel _ _ _ (W0 hw), nf, yt, .sel _ _ _ (W0 hw), nf, yt, .sel _ _ _ e, .eqv 198 (bo (c.kind != 3)) (bo (laB G (j + 1))) (by rw [hla, hg]; rfl), wq 136 ((i : Int) - 1) ((G.length : Int) - 1 - ((j + 1 : Nat) : Int)) hnx] nx (by kernel_rfl)
   | false =>
    cases hw : bvB G i with
    | true => exact .to mo_ [] [1, 5, 6, 9, 11, 12, 13, 14] [] 0 [ye (t := decide ((i : Int) ≥ 0)) hge, .eqv 142 (bo (bitN bits i)) (bo false) (by rw [hb]), nf, nf, yt, nf, nf, inc 171 i (by omega), .sel _ _ _ (W2 hw), .sel _ _ _ (W0 hw), nf, nf, nf, nf, .eqv 198 (bo false) (bo (laB G (j + 1))) (by rw [hla, hg]; rfl), wq 136 ((i : Int) - 1) ((G.length : Int) - 1 - ((j + 1 : Nat) : Int)) hnx] nx (by kernel_rfl)
    | false => exact .to mo_ [] [1, 5, 6, 9, 11, 12, 13, 14] [] 0 [ye (t := decide ((i : Int) ≥ 0)) hge, .eqv 142 (bo (bitN bits i)) (bo false) (by rw [hb]), nf, nf, yt, nf, nf, inc 171 i (by omega), .sel _ _ _ (W2 hw), .sel _ _ _ (W0 hw), nf, nf, nf, nf, .eqv 198 (bo false) (bo (laB G (j + 1))) (by rw [hla, hg]; rfl), wq 136 ((i : Int) - 1) ((G.length : Int) - 1 - ((j + 1 : Nat) : Int)) hnx] nx (by kernel_rfl)
theorem l_refuted (hl : ∀ x ∈ l, W.Is64 x) (ht : W.Is64 bits) : Pure PP 5 [zl l, ni bits] (bo true) := by
 have h := good_gp l
 have c1 := Pure.ro (e_good hl)
 have c2 := Pure.ro (e_believed (L := goodL l) (by have := h.len; omega))
 generalize goodL l = G at *
 have hg := gl_eq1 G
 have hw : ((bV (believedL G)).length : Int) = ((G.map dC).length : Int) := by
  have := was_len G
  unfold was at this
  rw [this, hg]
 by_cases h0 : G.length = 0
 · exact tr [cl c1, cl c2, na (t := ((bV (believedL G)).length : Int) != ((G.map dC).length : Int)) (by simp [hw]), ye (t := ((G.map dC).length : Int) == 0) (by rw [hg, h0]; rfl), ye (t := ((bV (believedL G)).length : Int) == ((G.map dC).length : Int)) (by simp [hw]), cl e_lives15] (by kernel_rfl)
 · have hp : 0 < G.length := by omega
   refine pf (by kernel_rfl) (.to mo_ [.oc 0 4 (.rw 52 2 []), .wk 0, .wk 2] [1, 5, 6, 7, 8, 9, 10] [0, 2, 3] 4 [cl c1, cl c2, na (t := ((bV (believedL G)).length : Int) != ((G.map dC).length : Int)) (by simp [hw]), na (t := ((G.map dC).length : Int) == 0) (by rw [hg]; exact beq_eq_false_iff_ne.2 (by omega)), .ro] (td' := lp fcf 0) (σ' := R1 G bits 0) ?_ (by kernel_rfl))
   refine r_first h hp (r_mid h hp ?_)
   have hs : ((G.length - 1 : Nat) : Int) = (G.length : Int) - 1 - ((0 : Nat) : Int) := by omega
   rw [hs]
   refine Gd.loop (fun j => R3 G bits (plB G bits G.length) (laB G j) ((G.length : Int) - 1 - (j : Int))) (fun j => j ≤ G.length) (fun j => G.length - j) ?_ 0 (Nat.zero_le _)
   intro j hj ih
   by_cases g : j < G.length
   · have e : (G.length : Int) - 1 - (j : Int) = ((G.length - 1 - j : Nat) : Int) := by omega
     simp only [e]
     exact r_last h rfl j g (ih (j + 1) g (by omega))
   · have e : (G.length : Int) - 1 - (j : Int) = -1 := by omega
     simp only [e]
     exact fi [nf, cl e_lives15] (by kernel_rfl) (by kernel_rfl)
end
end Go.Proofs.YtmhliomemdhmiaaGreatDoor.E.Ca
namespace Go.Proofs.YtmhliomemdhmiaaGreatDoor
open Go.RowKit
theorem is64_of {n : Int} (h : (Lit.int .i64 n).wf = true) : W.Is64 n := by
 have := bounds_i64 h
 unfold W.Is64
 omega
end Go.Proofs.YtmhliomemdhmiaaGreatDoor
namespace Go.Proofs.YtmhliomemdhmiaaGreatDoor.E
open Go.RowKit
set_option linter.unusedVariables false
theorem cb_of {w : World} {b o : Nat} {v : Value} (h : w.cell? ⟨b, o, none⟩ = some v) : CB w b := by
 unfold World.cell? at h
 split at h
 · rename_i cs T fr hb
   exact ⟨cs, T, fr, hb⟩
 · cases h
def Rt (X : World → Value → Prop) (w : World) (e : Ending) (w' : World) : Prop := ∃ v, e = .returned v ∧ X w' v ∧ Below w.heap.size w w'
theorem back {P : Program} {f : FuncId} {ds : List V} {d : V} (h : Pure P f ds d) {w : World} {args : Array Value} (ha : Reps w (fun _ => False) no args ds) : Calls P f args w (Rt (fun w v => Rep w (fun _ => False) no v d) w) :=
 (h.2 w (fun _ => False) args (fun _ h => h.elim) ha).mono fun e w' h => h
theorem to_tt {w w' : World} {e : Ending} (h : Rt (fun w v => Rep w (fun _ => False) no v (bo true)) w e w') : e = .returned (.bool true) ∧ Below w.heap.size w w' := by
 obtain ⟨v, rfl, h1, h2⟩ := h
 exact ⟨by rw [Rep.k_inv h1], h2⟩
/-- A law of any arguments. -/
theorem lawG {f : FuncId} {us : List Value} {ds : List V} {w : World} (h : Pure PP f ds (bo true)) (hg : Glo w (fun _ => False)) (hl : us.length = ds.length) (hr : ∀ j, j < ds.length → Rep w (fun _ => False) no (us.getD j undef) (ds.getD j .un)) :
    Calls PP f us.toArray w fun e w' => e = .returned (.bool true) ∧ Below w.heap.size w w' :=
 (back h (reps_of hl hg hr)).mono fun _ _ => to_tt
theorem all2 {p : Nat → Prop} (h0 : p 0) (h1 : p 1) : ∀ j, j < 2 → p j := fun j hj => by
 match j, hj with
 | 0, _ => exact h0
 | 1, _ => exact h1
end Go.Proofs.YtmhliomemdhmiaaGreatDoor.E
