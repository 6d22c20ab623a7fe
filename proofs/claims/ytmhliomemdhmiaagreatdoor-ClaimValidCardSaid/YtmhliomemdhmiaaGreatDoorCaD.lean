/-
 CLAIMS: Same, by the engine (printed by gen/cad.py).
-/
import Derived.Test.YtmhliomemdhmiaaGreatDoorCaB
namespace Go.Proofs.YtmhliomemdhmiaaGreatDoor.E.Ca
open Go.RowKit
set_option linter.unusedVariables false
set_option linter.unusedSimpArgs false
section
variable {α : Type}
theorem get_of {l : List α} {i : Nat} (h : i < l.length) : ∃ a, l[i]? = some a ∧ a ∈ l := ⟨l[i], List.getElem?_eq_getElem h, List.getElem_mem h⟩
theorem take_step {l m : List α} {i : Nat} {a b : α} (h : l.take i = m.take i) (ha : l[i]? = some a) (hb : m[i]? = some b) (e : a = b) : l.take (i + 1) = m.take (i + 1) := by
 rw [List.take_add_one, List.take_add_one, h, ha, hb, e]
theorem eq_of_take {l m : List α} {i : Nat} (h : l.take i = m.take i) (hi : ¬ i < l.length) (hl : l.length = m.length) : l = m := by
 rwa [List.take_of_length_le (by omega), List.take_of_length_le (by omega)] at h
theorem ne_at {l m : List α} {i : Nat} {a b : α} (ha : l[i]? = some a) (hb : m[i]? = some b) (e : a ≠ b) : l ≠ m := fun h => by
 subst h
 rw [ha] at hb
 injection hb with hb
 exact e hb
/-- The first that is so, or -1. -/
def fidx (bad : α → Bool) (l : List α) : Int := match l.findIdx? bad with
 | some i => i
 | none => -1
theorem fidx_at {bad : α → Bool} {l : List α} {i : Nat} {a : α} (h : ∀ t b, t < i → l[t]? = some b → bad b = false) (ha : l[i]? = some a) (hb : bad a = true) : fidx bad l = i := by
 have hi := (List.getElem?_eq_some_iff.1 ha).1
 have : l.findIdx? bad = some i := by
  rw [List.findIdx?_eq_some_iff_getElem]
  refine ⟨hi, ?_, fun j hj => ?_⟩
  · have := (List.getElem?_eq_some_iff.1 ha).2; rw [this]; exact hb
  · have := h j _ hj (List.getElem?_eq_getElem (by omega)); simp [this]
 unfold fidx
 rw [this]
theorem fidx_no {bad : α → Bool} {l : List α} {i : Nat} (h : ∀ t b, t < i → l[t]? = some b → bad b = false) (hi : ¬ i < l.length) : fidx bad l = -1 := by
 have : l.findIdx? bad = none := by
  rw [List.findIdx?_eq_none_iff]
  intro x hx
  obtain ⟨t, ht⟩ := List.getElem?_of_mem hx
  exact h t x (by have := (List.getElem?_eq_some_iff.1 ht).1; omega) ht
 unfold fidx
 rw [this]
theorem fidx_any (bad : α → Bool) (l : List α) : decide (fidx bad l ≥ 0) = l.any bad := by
 unfold fidx
 cases h : l.findIdx? bad with
 | none =>
  rw [List.findIdx?_eq_none_iff] at h
  rw [List.any_eq_false.2 fun x hx => by simp [h x hx]]
  rfl
 | some i =>
  rw [List.findIdx?_eq_some_iff_getElem] at h
  obtain ⟨h1, h2, _⟩ := h
  rw [List.any_eq_true.2 ⟨_, List.getElem_mem h1, h2⟩]
  simp
theorem no_step {bad : α → Bool} {l : List α} {i : Nat} {a : α} (h : ∀ t b, t < i → l[t]? = some b → bad b = false) (ha : l[i]? = some a) (hb : bad a = false) : ∀ t b, t < i + 1 → l[t]? = some b → bad b = false := fun t b ht e => by
 by_cases g : t = i
 · subst g; rw [ha] at e; injection e with e; rw [← e]; exact hb
 · exact h t b (by omega) e
theorem no_zero {bad : α → Bool} {l : List α} : ∀ t b, t < 0 → l[t]? = some b → bad b = false := fun t b h => absurd h (Nat.not_lt_zero t)
end
abbrev ci (x : Int) : List V := [ni x]
noncomputable abbrev fe_eqInts : Func := fnOf PP 118
theorem e_eqInts (l m : List Int) : Pure PP 118 [.sl (l.map ci), .sl (m.map ci)] (bo (decide (l = m))) := by
 refine .len 0 (l := l.map ci) (by kernel_rfl) rfl fun hm => ?_
 rw [List.length_map] at hm
 unfold maxLen at hm
 by_cases hl : l.length = m.length
 · let X : Nat → St := fun i => at_ fe_eqInts [(0, .sl (l.map ci)), (1, .sl (m.map ci)), (12, ni ((l.map ci).length : Int)), (13, ni i)] []
   refine pf (by kernel_rfl) (.to mo_ [] [0, 1, 12, 13] [] 0 [na (t := ((l.map ci).length : Int) != ((m.map ci).length : Int)) (by simp [hl])] (td' := lp fe_eqInts 0) (σ' := X 0) ?_ (by kernel_rfl))
   refine Gd.loop X (fun i => i ≤ l.length ∧ l.take i = m.take i) (fun i => l.length - i) ?_ 0 ⟨Nat.zero_le _, rfl⟩
   intro i ⟨hi, hI⟩ ih
   by_cases h : i < l.length
   · obtain ⟨a, ha, _⟩ := get_of h
     obtain ⟨b, hb, _⟩ := get_of (l := m) (i := i) (by omega)
     have hlt : decide ((i : Int) < ((l.map ci).length : Int)) = true := decide_eq_true (by rw [List.length_map]; omega)
     by_cases e : a = b
     · exact .to mo_ [] [0, 1, 12, 13] [] 0 ([ye hlt, .sel _ _ _ (sel_map (f := ci) ha), .sel _ _ _ (sel_map (f := ci) hb)] ++ [na (t := a != b) (by simp [e]), inc 25 i (by omega)]) (ih (i + 1) ⟨h, take_step hI ha hb e⟩ (by omega)) (by kernel_rfl)
     · rw [show decide (l = m) = false from decide_eq_false (ne_at ha hb e)]
       exact fi ([ye hlt, .sel _ _ _ (sel_map (f := ci) ha), .sel _ _ _ (sel_map (f := ci) hb)] ++ [ye (t := a != b) (by simp [e])]) (by kernel_rfl) (by kernel_rfl)
   · rw [show decide (l = m) = true from decide_eq_true (eq_of_take hI h hl)]
     exact fi [na (t := decide ((i : Int) < ((l.map ci).length : Int))) (decide_eq_false (by rw [List.length_map]; omega))] (by kernel_rfl) (by kernel_rfl)
 · rw [show decide (l = m) = false from decide_eq_false fun e => hl (by rw [e])]
   exact tr [ye (t := ((l.map ci).length : Int) != ((m.map ci).length : Int)) (by simp; omega)] (by kernel_rfl)
theorem e_sameR1 (x y : Int) : Pure PP 117 [.ag (dI x), .ag (dI y)] (bo (decide (x = y))) := by
 have hd : decide (x = y) = ((decide (x < 0) == decide (y < 0)) && decide (digs x.natAbs = digs y.natAbs)) := by
  by_cases h : x = y
  · subst h; simp
  · rw [decide_eq_false h]
    by_cases h1 : digs x.natAbs = digs y.natAbs
    · have h2 : (x.natAbs : Int) = y.natAbs := by rw [← (digs_ok x.natAbs).2, ← (digs_ok y.natAbs).2, h1]
      have h3 : (decide (x < 0) == decide (y < 0)) = false := by
       rw [beq_eq_false_iff_ne]
       intro e
       have := decide_eq_decide.1 e
       omega
      rw [h3]; rfl
    · rw [decide_eq_false h1, Bool.and_false]
 rw [hd]
 cases h : (decide (x < 0) == decide (y < 0)) with
 | true => exact tr [ye (t := decide (x < 0) == decide (y < 0)) h, cl (e_eqInts (digs x.natAbs) (digs y.natAbs))] (by kernel_rfl)
 | false => exact tr [na (t := decide (x < 0) == decide (y < 0)) h] (by kernel_rfl)
theorem e_rsame (r t : Rat) : Pure PP 52 [.ag (dR r), .ag (dR t)] (bo (decide (r = t))) := by
 by_cases h : r.num = t.num
 · rw [show decide (r = t) = decide (dq r = dq t) from decide_eq_decide.2 ⟨fun e => by rw [e], dq_inj h⟩]
   exact tr [cl (e_sameR1 r.num t.num), ye (decide_eq_true h), cl (e_sameR1 (dq r) (dq t))] (by kernel_rfl)
 · rw [show decide (r = t) = false from decide_eq_false fun e => h (by rw [e])]
   exact tr [cl (e_sameR1 r.num t.num), na (decide_eq_false h)] (by kernel_rfl)
noncomputable abbrev fe_idxR : Func := fnOf PP 154
theorem e_idxR {G : FuncId} {c0 : List V} {bad : RN → Bool} (L : List RN) (hc : ∀ a ∈ L, Pure PP G [.ag (cN a), .ip c0] (bo (bad a))) : Pure PP 154 [.sl (L.map cN), .cl G [.ip c0]] (ni (fidx bad L)) := by
 refine .len 0 (l := L.map cN) (by kernel_rfl) rfl fun hm => ?_
 rw [List.length_map] at hm
 unfold maxLen at hm
 let X : Nat → St := fun i => at_ fe_idxR [(0, .sl (L.map cN)), (1, .cl G [.ip c0]), (7, ni ((L.map cN).length : Int)), (8, ni i)] []
 refine pf (by kernel_rfl) (.to mo_ [] [0, 1, 7, 8] [] 0 [] (td' := lp fe_idxR 0) (σ' := X 0) ?_ (by kernel_rfl))
 refine Gd.loop X (fun i => i ≤ L.length ∧ ∀ t b, t < i → L[t]? = some b → bad b = false) (fun i => L.length - i) ?_ 0 ⟨Nat.zero_le _, no_zero⟩
 intro i ⟨hi, hI⟩ ih
 by_cases h : i < L.length
 · obtain ⟨a, ha, hma⟩ := get_of h
   have hlt : decide ((i : Int) < ((L.map cN).length : Int)) = true := decide_eq_true (by rw [List.length_map]; omega)
   have hcc := hc a hma
   cases hb : bad a with
   | true =>
     rw [hb] at hcc
     rw [fidx_at hI ha hb]
     exact fi [ye hlt, .sel _ _ _ (sel_map (f := cN) ha), cl hcc, yt] (by kernel_rfl) (by kernel_rfl)
   | false =>
     rw [hb] at hcc
     exact .to mo_ [] [0, 1, 7, 8] [] 0 [ye hlt, .sel _ _ _ (sel_map (f := cN) ha), cl hcc, nf, inc 18 i (by omega)] (ih (i + 1) ⟨h, no_step hI ha hb⟩ (by omega)) (by kernel_rfl)
 · rw [fidx_no hI h]
   exact fi [na (t := decide ((i : Int) < ((L.map cN).length : Int))) (decide_eq_false (by rw [List.length_map]; omega))] (by kernel_rfl) (by kernel_rfl)
theorem e_idxRC {G : FuncId} {c0 : List V} {bad : RN → Bool} (L : List RN) (hc : ∀ a ∈ L, Pure PP G [.ag (cN a), .ip c0] (bo (bad a))) : Pure PP 104 [.sl (L.map cN), .cl G [.ip c0]] (bo (L.any bad)) := by
 rw [← fidx_any]
 exact tr [cl (e_idxR L hc)] (by kernel_rfl)
noncomputable abbrev fe_idxC : Func := fnOf PP 97
theorem e_idxC {G : FuncId} {c0 : List V} {bad : CM → Bool} (L : List CM) (hc : ∀ a ∈ L, Pure PP G [.ag (dC a), .ip c0] (bo (bad a))) : Pure PP 97 [.sl (L.map dC), .cl G [.ip c0]] (ni (fidx bad L)) := by
 refine .len 0 (l := L.map dC) (by kernel_rfl) rfl fun hm => ?_
 rw [List.length_map] at hm
 unfold maxLen at hm
 let X : Nat → St := fun i => at_ fe_idxC [(0, .sl (L.map dC)), (1, .cl G [.ip c0]), (7, ni ((L.map dC).length : Int)), (8, ni i)] []
 refine pf (by kernel_rfl) (.to mo_ [] [0, 1, 7, 8] [] 0 [] (td' := lp fe_idxC 0) (σ' := X 0) ?_ (by kernel_rfl))
 refine Gd.loop X (fun i => i ≤ L.length ∧ ∀ t b, t < i → L[t]? = some b → bad b = false) (fun i => L.length - i) ?_ 0 ⟨Nat.zero_le _, no_zero⟩
 intro i ⟨hi, hI⟩ ih
 by_cases h : i < L.length
 · obtain ⟨a, ha, hma⟩ := get_of h
   have hlt : decide ((i : Int) < ((L.map dC).length : Int)) = true := decide_eq_true (by rw [List.length_map]; omega)
   have hcc := hc a hma
   cases hb : bad a with
   | true =>
     rw [hb] at hcc
     rw [fidx_at hI ha hb]
     exact fi [ye hlt, .sel _ _ _ (sel_map (f := dC) ha), cl hcc, yt] (by kernel_rfl) (by kernel_rfl)
   | false =>
     rw [hb] at hcc
     exact .to mo_ [] [0, 1, 7, 8] [] 0 [ye hlt, .sel _ _ _ (sel_map (f := dC) ha), cl hcc, nf, inc 18 i (by omega)] (ih (i + 1) ⟨h, no_step hI ha hb⟩ (by omega)) (by kernel_rfl)
 · rw [fidx_no hI h]
   exact fi [na (t := decide ((i : Int) < ((L.map dC).length : Int))) (decide_eq_false (by rw [List.length_map]; omega))] (by kernel_rfl) (by kernel_rfl)
noncomputable abbrev fixn : Func := fnOf PP 128
theorem e_idxN (L : List (Int × Int)) (p : Int × Int) : Pure PP 128 [.sl (L.map nm), .ag (nm p)] (ni (fidx (fun q => decide (p = q)) L)) := by
 refine .len 0 (l := L.map nm) (by kernel_rfl) rfl fun hm => ?_
 rw [List.length_map] at hm
 unfold maxLen at hm
 let X : Nat → St := fun i => at_ fixn [(0, .sl (L.map nm)), (3, .lp 0 0), (7, ni ((L.map nm).length : Int)), (8, ni i)] [.bx 52 (nm p)]
 refine pf (by kernel_rfl) (.to mo_ [] [0, 3, 7, 8] [0] 1 [] (td' := lp fixn 0) (σ' := X 0) ?_ (by kernel_rfl))
 refine Gd.loop X (fun i => i ≤ L.length ∧ ∀ t b, t < i → L[t]? = some b → decide (p = b) = false) (fun i => L.length - i) ?_ 0 ⟨Nat.zero_le _, no_zero (bad := fun q => decide (p = q))⟩
 intro i ⟨hi, hI⟩ ih
 by_cases h : i < L.length
 · obtain ⟨a, ha, hma⟩ := get_of h
   have hlt : decide ((i : Int) < ((L.map nm).length : Int)) = true := decide_eq_true (by rw [List.length_map]; omega)
   cases hb : decide (p = a) with
   | true =>
     rw [fidx_at (bad := fun q => decide (p = q)) hI ha hb]
     exact fi [ye hlt, .sel _ _ _ (sel_map (f := nm) ha), fEq p a, ye (t := decide (p = a)) hb] (by kernel_rfl) (by kernel_rfl)
   | false =>
     exact .to mo_ [] [0, 3, 7, 8] [0] 1 [ye hlt, .sel _ _ _ (sel_map (f := nm) ha), fEq p a, na (t := decide (p = a)) hb, inc 18 i (by omega)] (ih (i + 1) ⟨h, no_step (bad := fun q => decide (p = q)) hI ha hb⟩ (by omega)) (by kernel_rfl)
 · rw [fidx_no (bad := fun q => decide (p = q)) hI h]
   exact fi [na (t := decide ((i : Int) < ((L.map nm).length : Int))) (decide_eq_false (by rw [List.length_map]; omega))] (by kernel_rfl) (by kernel_rfl)
theorem e_containsN (L : List (Int × Int)) (p : Int × Int) : Pure PP 62 [.sl (L.map nm), .ag (nm p)] (bo (L.any fun q => decide (p = q))) := by
 rw [← fidx_any]
 exact tr [cl (e_idxN L p)] (by kernel_rfl)
end Go.Proofs.YtmhliomemdhmiaaGreatDoor.E.Ca
namespace Go.Proofs.YtmhliomemdhmiaaGreatDoor.E.Ca
open Go.RowKit
set_option linter.unusedVariables false
set_option linter.unusedSimpArgs false
/-- A fit whose rational numbers are such. -/
structure FQ where
 a : Int
 b : Int
 ea : Int
 eb : Int
 many : Int
 r0 : Rat
 r1 : Rat
 r2 : Rat
 r3 : Rat
 r4 : Rat
 r5 : Rat
structure CQ where
 by_ : Int
 seq : Int
 tick : Int
 kind : Int
 refs : List (Int × Int)
 fit : FQ
 w : Int
def FQ.fm (f : FQ) : FM := ⟨f.a, f.b, f.ea, f.eb, f.many, ofR f.r0, ofR f.r1, ofR f.r2, ofR f.r3, ofR f.r4, ofR f.r5⟩
def CQ.cm (c : CQ) : CM := ⟨c.by_, c.seq, c.tick, c.kind, c.refs, c.fit.fm, c.w⟩
def FQ.qs (f : FQ) : List Rat := [f.r0, f.r1, f.r2, f.r3, f.r4, f.r5]
def FQ.wh (f : FQ) : List Int := [f.a, f.b, f.ea, f.eb, f.many]
def fP (f g : FQ) : Prop := f.wh = g.wh ∧ f.qs = g.qs
def eqP (c d : CQ) : Prop := c.by_ = d.by_ ∧ c.seq = d.seq ∧ c.tick = d.tick ∧ c.kind = d.kind ∧ c.w = d.w ∧ c.refs = d.refs ∧ fP c.fit d.fit
instance (f g : FQ) : Decidable (fP f g) := by unfold fP; infer_instance
instance (c d : CQ) : Decidable (eqP c d) := by unfold eqP; infer_instance
section
variable {c d : CQ} {f g : FQ}
end
end Go.Proofs.YtmhliomemdhmiaaGreatDoor.E.Ca
