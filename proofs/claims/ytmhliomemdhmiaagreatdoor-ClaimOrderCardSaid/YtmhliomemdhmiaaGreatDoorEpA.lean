/-
 ARGUMENTS OF A LAW, of any type without maps and interfaces: what they stand for.
-/
import Derived.Test.YtmhliomemdhmiaaGreatDoorCaP
import Derived.Test.YtmhliomemdhmiaaGreatDoorMemI
import Derived.OpenShut
import Derived.Test.YtmhliomemdhmiaaGreatDoorEpN
import Derived.Carry
namespace Go.Proofs.YtmhliomemdhmiaaGreatDoor.E.Ca
open Go.RowKit
set_option linter.unusedVariables false
set_option linter.unusedSimpArgs false
theorem bef_iff (c d : CM) : befB c d = true ↔ (c.tick < d.tick ∨ c.tick = d.tick ∧ (c.by_ < d.by_ ∨ c.by_ = d.by_ ∧ c.seq < d.seq)) := by
 rw [← bef6]
 unfold befB6 lessN CM.nm
 simp
theorem bef_no (c d : CM) : befB c d = false ↔ ¬ (c.tick < d.tick ∨ c.tick = d.tick ∧ (c.by_ < d.by_ ∨ c.by_ = d.by_ ∧ c.seq < d.seq)) := by
 rw [← bef_iff]; simp
/-- Claims whose rational numbers are such, with few references. -/
def Qc (c : CM) : Prop := ∃ q : CQ, c = q.cm ∧ q.refs.length ≤ 10
theorem Qc.c0 : Qc c0 := ⟨⟨0, 0, 0, 0, [], zQ, 0⟩, by unfold CQ.cm; simp only [zQ_fm], by decide⟩
section
variable {l : List Int} {i : Nat} {b s t kd : Int} {rf : List (Int × Int)}
theorem clG_q (hr : rf.length ≤ 10) : Qc (clG l i b s t rf kd) := by
 unfold clG
 split
 · exact ⟨⟨b, s, t, 0, [], zQ, 1 + atz l (5 * i + 4) 8⟩, by unfold CQ.cm; simp only [zQ_fm], by simp⟩
 · exact ⟨⟨b, s, t, 1, rf, fitQ l (5 * i + 2), 0⟩, rfl, hr⟩
 · exact ⟨⟨b, s, t, kd, rf, zQ, 0⟩, by unfold CQ.cm; simp only [zQ_fm], hr⟩
theorem good_q : ∀ i, i ≤ 10 → ∀ c ∈ (goodF l i).1, Qc c
 | 0, _, c, hc => by cases hc
 | i + 1, hi, c, hc => by
  have ih := good_q i (by omega)
  have hl := good_len (l := l) i
  rcases List.mem_append.1 hc with h | h
  · exact ih c h
  · rw [List.mem_singleton] at h
    subst h
    refine clG_q ?_
    unfold rfG
    have := refsF_len (L := (goodF l i).1) (bits := bitsG l i) (goodF l i).1.length
    omega
theorem goodL_q : ∀ c ∈ goodL l, Qc c := good_q _ (Nat.min_le_left _ _)
theorem getD_q {L : List CM} (h : ∀ c ∈ L, Qc c) (i : Nat) : Qc (L.getD i c0) := by
 rw [List.getD_eq_getElem?_getD]
 cases e : L[i]? with
 | none => exact Qc.c0
 | some c => exact h c (List.mem_of_getElem? e)
theorem someC_q {c : CM} (h : Qc c) : Qc (someC l i c) := by
 obtain ⟨q, rfl, hq⟩ := h
 unfold someC
 split
 · exact ⟨⟨q.by_, atz l (5 * i + 2) 2, atz l (5 * i + 3) 3, 3, [(atz l (5 * i + 3) 2, atz l (5 * i + 1) 2), (atz l (5 * i) 1, (atz l (5 * i + 4) 3).tdiv 2)], q.fit, q.w⟩, rfl, by simp⟩
 · exact ⟨⟨q.by_, atz l (5 * i + 2) 2, atz l (5 * i + 3) 3, q.kind, q.refs, q.fit, q.w⟩, rfl, hq⟩
theorem some_q : ∀ i, ∀ c ∈ someF l i, Qc c
 | 0, c, hc => by cases hc
 | i + 1, c, hc => by
  rcases List.mem_append.1 hc with h | h
  · exact some_q i c h
  · rw [List.mem_singleton] at h
    subst h
    exact someC_q (getD_q goodL_q i)
theorem someL_len (l : List Int) : (someL l).length ≤ 10 := by unfold someL; rw [some_len]; exact goodL_len l
theorem odd_q {q : CQ} (h n : Int) : ∃ p : CQ, oddF q.cm h n = p.cm := by
 unfold oddF
 by_cases e0 : h = 0
 · rw [if_pos e0]; exact ⟨{ q with by_ := n }, rfl⟩
 rw [if_neg e0]
 by_cases e1 : h = 1
 · rw [if_pos e1]; exact ⟨{ q with seq := n }, rfl⟩
 rw [if_neg e1]
 by_cases e2 : h = 2
 · rw [if_pos e2]; exact ⟨{ q with tick := n }, rfl⟩
 rw [if_neg e2]
 by_cases e3 : h = 3
 · rw [if_pos e3]; exact ⟨{ q with kind := n }, rfl⟩
 rw [if_neg e3]
 by_cases e4 : h = 4
 · rw [if_pos e4]; exact ⟨{ q with w := n }, rfl⟩
 rw [if_neg e4]
 by_cases e5 : h = 5
 · rw [if_pos e5]; exact ⟨{ q with refs := q.refs ++ [(n, n)] }, rfl⟩
 rw [if_neg e5]
 by_cases e6 : h = 6
 · rw [if_pos e6]; exact ⟨{ q with refs := q.refs ++ [(q.by_, q.seq)] }, rfl⟩
 rw [if_neg e6]
 by_cases e7 : h = 7
 · rw [if_pos e7]; exact ⟨{ q with fit := { q.fit with many := n } }, rfl⟩
 rw [if_neg e7]
 by_cases e8 : h = 8
 · rw [if_pos e8]; exact ⟨{ q with fit := { q.fit with a := n } }, rfl⟩
 rw [if_neg e8]
 by_cases e9 : h = 9
 · rw [if_pos e9]; exact ⟨{ q with fit := { q.fit with r0 := Rat.divInt n 7 } }, rfl⟩
 rw [if_neg e9]
 by_cases e10 : h = 10
 · rw [if_pos e10]; exact ⟨{ q with fit := { q.fit with r2 := Rat.divInt n 2 } }, rfl⟩
 rw [if_neg e10]
 exact ⟨{ q with fit := { q.fit with eb := n } }, rfl⟩
end
section
variable {l : List Int} {how n : Int} {S : List CM} {i k j : Nat} {a : Bool}
noncomputable abbrev fco : Func := fnOf PP 6
noncomputable def X1 (S : List CM) (how n : Int) (i : Nat) : St := at_ fco [(1, ni how), (2, ni n), (7, .sl (S.map dC)), (8, ni i)] []
noncomputable def X2 (S : List CM) (how n : Int) (i k : Nat) : St := at_ fco [(1, ni how), (2, ni n), (7, .sl (S.map dC)), (8, ni i), (10, ni k)] []
noncomputable def X3 (S : List CM) (how n : Int) (i k : Nat) (a : Bool) (j : Nat) : St := at_ fco [(1, ni how), (2, ni n), (7, .sl (S.map dC)), (8, ni i), (10, ni k), (11, bo a), (14, ni j)] []
abbrev GO (td : List Item) (σ : St) : Prop := Gd PP 6 (bo true) td σ
theorem eB {f : FuncId} {ds : List V} {x y : Bool} (h : Pure PP f ds (bo x)) (e : x = y) : Pure PP f ds (bo y) := e ▸ h
def ltS (S : List CM) (i : Nat) : Bool := decide ((i : Int) < ((S.map dC).length : Int))
theorem ltS_t (h : i < S.length) : ltS S i = true := decide_eq_true (by rw [List.length_map]; omega)
theorem ltS_f (h : ¬ i < S.length) : ltS S i = false := decide_eq_false (by rw [List.length_map]; omega)
/-- The inner loop. -/
theorem o_in (hS : S.length ≤ 10) (hi : i < S.length) (hk : k < S.length) (ha : befB (S.getD i c0) (S.getD k c0) = a) (next : GO (lp fco 1) (X2 S how n i (k + 1))) : GO (lp fco 2) (X3 S how n i k a 0) := by
 refine Gd.loop (X3 S how n i k a) (fun j => j ≤ S.length) (fun j => S.length - j) ?_ 0 (Nat.zero_le _)
 intro j hj ih
 by_cases h : j < S.length
 · have nx := ih (j + 1) h (by omega)
   have ei := elC hi
   have ek := elC hk
   have ej := elC h
   have b1 := e_before (S.getD k c0) (S.getD j c0)
   have b2 := e_before (S.getD i c0) (S.getD j c0)
   cases a with
   | false => exact .to mo_ [] [1, 2, 7, 8, 10, 11, 14] [] 0 [ye (t := ltS S j) (ltS_t h), nf, nf, nf, inc 167 j (by omega)] nx (by kernel_rfl)
   | true =>
    cases h1 : befB (S.getD k c0) (S.getD j c0) with
    | false =>
     rw [h1] at b1
     exact .to mo_ [] [1, 2, 7, 8, 10, 11, 14] [] 0 [ye (t := ltS S j) (ltS_t h), yt, .sel _ _ _ ek, .sel _ _ _ ej, cl b1, nf, nf, inc 167 j (by omega)] nx (by kernel_rfl)
    | true =>
     rw [h1] at b1
     have b3 := eB b2 (show befB (S.getD i c0) (S.getD j c0) = true by rw [bef_iff] at *; omega)
     exact .to mo_ [] [1, 2, 7, 8, 10, 11, 14] [] 0 [ye (t := ltS S j) (ltS_t h), yt, .sel _ _ _ ek, .sel _ _ _ ej, cl b1, yt, .sel _ _ _ ei, .sel _ _ _ ej, cl b3, nf, inc 167 j (by omega)] nx (by kernel_rfl)
 · exact .to mo_ [] [1, 2, 7, 8, 10] [] 0 [na (t := ltS S j) (ltS_f h), inc 60 k (by omega)] next (by kernel_rfl)
theorem o_mid (hS : S.length ≤ 10) (hq : ∀ c ∈ S, Qc c) (hi : i < S.length) (next : GO (lp fco 0) (X1 S how n (i + 1))) : GO (lp fco 1) (X2 S how n i 0) := by
 refine Gd.loop (X2 S how n i) (fun k => k ≤ S.length) (fun k => S.length - k) ?_ 0 (Nat.zero_le _)
 intro k hk ih
 by_cases h : k < S.length
 · have nx := ih (k + 1) h (by omega)
   have ei := elC hi
   have ek := elC h
   have inn := fun a ha => o_in (how := how) (n := n) (a := a) hS hi h ha nx
   obtain ⟨p, hp, _⟩ := getD_q hq i
   obtain ⟨q, hq2, _⟩ := getD_q hq k
   generalize hci : S.getD i c0 = c at ei inn hp
   generalize hck : S.getD k c0 = d at ek inn hq2
   subst hp
   subst hq2
   have ba := e_before p.cm q.cm
   have bb := e_before q.cm p.cm
   have b6 := e_before6 p.cm q.cm
   have cs := e_csame p q
   have c6 := e_csame6 p q
   let F0 : List F_ := [ye (t := ltS S k) (ltS_t h), .sel _ _ _ ei, .sel _ _ _ ek]
   let D : List F_ := [.sel _ _ _ ei, .sel _ _ _ ek, cl cs, .sel _ _ _ ei, .sel _ _ _ ek, cl c6, na (t := decide (eqP p q) != decide (eqP p q)) (by simp)]
   cases ha : befB p.cm q.cm with
   | true =>
    have hb : befB q.cm p.cm = false := by rw [bef_no]; rw [bef_iff] at ha; omega
    rw [ha] at ba b6
    rw [hb] at bb
    have fin := inn true ha
    let R : List F_ := [.sel _ _ _ ei, .sel _ _ _ ek, cl b6, nf, yt, nf, yt, nf] ++ D
    cases t1 : (p.tick != q.tick) with
    | true => exact .to mo_ [] [1, 2, 7, 8, 10, 11, 14] [] 0 (F0 ++ [cl ba, .sel _ _ _ ek, .sel _ _ _ ei, cl bb, .sel _ _ _ ei, .sel _ _ _ ek, ye (t := p.tick != q.tick) t1, yt] ++ R) fin (by kernel_rfl)
    | false =>
     cases t2 : (p.by_ != q.by_) with
     | true => exact .to mo_ [] [1, 2, 7, 8, 10, 11, 14] [] 0 (F0 ++ [cl ba, .sel _ _ _ ek, .sel _ _ _ ei, cl bb, .sel _ _ _ ei, .sel _ _ _ ek, na (t := p.tick != q.tick) t1, .sel _ _ _ ei, .sel _ _ _ ek, ye (t := p.by_ != q.by_) t2] ++ R) fin (by kernel_rfl)
     | false =>
      have t3 : (p.seq != q.seq) = true := by
       rw [bef_iff] at ha
       simp only [bne_eq_false_iff_eq, bne_iff_ne] at *
       have : p.cm.tick = q.cm.tick := t1
       have : p.cm.by_ = q.cm.by_ := t2
       have : p.cm.seq < q.cm.seq := by omega
       have h3 : p.seq < q.seq := this
       omega
      exact .to mo_ [] [1, 2, 7, 8, 10, 11, 14] [] 0 (F0 ++ [cl ba, .sel _ _ _ ek, .sel _ _ _ ei, cl bb, .sel _ _ _ ei, .sel _ _ _ ek, na (t := p.tick != q.tick) t1, .sel _ _ _ ei, .sel _ _ _ ek, na (t := p.by_ != q.by_) t2, .sel _ _ _ ei, .sel _ _ _ ek, .eqv 115 (bo (p.seq != q.seq)) (bo true) (by rw [t3])] ++ R) fin (by kernel_rfl)
   | false =>
    cases hb : befB q.cm p.cm with
    | true =>
     rw [ha] at ba b6
     rw [hb] at bb
     have fin := inn false ha
     let R : List F_ := [.sel _ _ _ ei, .sel _ _ _ ek, cl b6, nf, nf, nf, nf, nf] ++ D
     cases t1 : (p.tick != q.tick) with
     | true => exact .to mo_ [] [1, 2, 7, 8, 10, 11, 14] [] 0 (F0 ++ [cl ba, .sel _ _ _ ek, .sel _ _ _ ei, cl bb, .sel _ _ _ ei, .sel _ _ _ ek, ye (t := p.tick != q.tick) t1, yt] ++ R) fin (by kernel_rfl)
     | false =>
      cases t2 : (p.by_ != q.by_) with
      | true => exact .to mo_ [] [1, 2, 7, 8, 10, 11, 14] [] 0 (F0 ++ [cl ba, .sel _ _ _ ek, .sel _ _ _ ei, cl bb, .sel _ _ _ ei, .sel _ _ _ ek, na (t := p.tick != q.tick) t1, .sel _ _ _ ei, .sel _ _ _ ek, ye (t := p.by_ != q.by_) t2] ++ R) fin (by kernel_rfl)
      | false =>
       have t3 : (p.seq != q.seq) = true := by
        rw [bef_iff] at hb
        simp only [bne_eq_false_iff_eq, bne_iff_ne] at *
        have : p.cm.tick = q.cm.tick := t1
        have : p.cm.by_ = q.cm.by_ := t2
        have : q.cm.seq < p.cm.seq := by omega
        have h3 : q.seq < p.seq := this
        omega
       exact .to mo_ [] [1, 2, 7, 8, 10, 11, 14] [] 0 (F0 ++ [cl ba, .sel _ _ _ ek, .sel _ _ _ ei, cl bb, .sel _ _ _ ei, .sel _ _ _ ek, na (t := p.tick != q.tick) t1, .sel _ _ _ ei, .sel _ _ _ ek, na (t := p.by_ != q.by_) t2, .sel _ _ _ ei, .sel _ _ _ ek, .eqv 115 (bo (p.seq != q.seq)) (bo true) (by rw [t3])] ++ R) fin (by kernel_rfl)
    | false =>
     rw [ha] at ba b6
     rw [hb] at bb
     have fin := inn false ha
     have he : p.tick = q.tick ∧ p.by_ = q.by_ ∧ p.seq = q.seq := by
      rw [bef_no] at ha hb
      have h1 : p.cm.tick = q.cm.tick := by omega
      have h2 : p.cm.by_ = q.cm.by_ := by omega
      have h3 : p.cm.seq = q.cm.seq := by omega
      exact ⟨h1, h2, h3⟩
     exact .to mo_ [] [1, 2, 7, 8, 10, 11, 14] [] 0 (F0 ++ [cl ba, .sel _ _ _ ek, .sel _ _ _ ei, cl bb, .sel _ _ _ ei, .sel _ _ _ ek, na (t := p.tick != q.tick) (by simp [he.1]), .sel _ _ _ ei, .sel _ _ _ ek, na (t := p.by_ != q.by_) (by simp [he.2.1]), .sel _ _ _ ei, .sel _ _ _ ek, .eqv 115 (bo (p.seq != q.seq)) (bo false) (by rw [he.2.2]; simp)] ++ [.sel _ _ _ ei, .sel _ _ _ ek, cl b6, nf, nf, nf, nf, nf] ++ D) fin (by kernel_rfl)
 · exact .to mo_ [] [1, 2, 7, 8] [] 0 [na (t := ltS S k) (ltS_f h), inc 22 i (by omega)] next (by kernel_rfl)
theorem l_order (hl : ∀ x ∈ l, W.Is64 x) (hw : W.Is64 how) (hn : W.Is64 n) : Pure PP 6 [zl l, ni how, ni n] (bo true) := by
 have hS := someL_len l
 have hq : ∀ c ∈ someL l, Qc c := some_q (l := l) _
 refine pf (by kernel_rfl) (.to mo_ [.fz 7] [1, 2, 7, 8] [] 0 [cl (e_some hl)] (td' := lp fco 0) (σ' := X1 (someL l) how n 0) ?_ (by kernel_rfl))
 generalize someL l = S at hS hq
 refine Gd.loop (X1 S how n) (fun i => i ≤ S.length) (fun i => S.length - i) ?_ 0 (Nat.zero_le _)
 intro i hi ih
 by_cases h : i < S.length
 · have ei := elC h
   have mid := o_mid (how := how) (n := n) hS hq h (ih (i + 1) h (by omega))
   obtain ⟨p, hp, hr⟩ := getD_q hq i
   rw [hp] at ei
   obtain ⟨r, hr2⟩ := odd_q (q := p) (rnd how 11) n
   have ho := e_odd (c := p.cm) (by show p.refs.length ≤ 100; omega) hw hn
   rw [hr2] at ho
   have cpp := eB (e_csame p p) (decide_eq_true (⟨rfl, rfl, rfl, rfl, rfl, rfl, rfl, rfl⟩ : eqP p p))
   exact .to mo_ [] [1, 2, 7, 8, 10] [] 0 [ye (t := ltS S i) (ltS_t h), .sel _ _ _ ei, cl ho, .sel _ _ _ ei, cl (e_csame p r), .sel _ _ _ ei, cl (e_csame6 p r), na (t := decide (eqP p r) != decide (eqP p r)) (by simp), .sel _ _ _ ei, .sel _ _ _ ei, cl cpp, nf] mid (by kernel_rfl)
 · exact fi [na (t := ltS S i) (ltS_f h), cl e_lives15] (by kernel_rfl) (by kernel_rfl)
end
end Go.Proofs.YtmhliomemdhmiaaGreatDoor.E.Ca
namespace Go.Proofs.YtmhliomemdhmiaaGreatDoor
open Go.RowKit
theorem is64_of {n : Int} (h : (Lit.int .i64 n).wf = true) : W.Is64 n := by
 have := bounds_i64 h
 unfold W.Is64
 omega
end Go.Proofs.YtmhliomemdhmiaaGreatDoor
namespace Go.Proofs.YtmhliomemdhmiaaGreatDoor.E
open Go.RowKit
set_option linter.unusedVariables false
theorem cb_of {w : World} {b o : Nat} {v : Value} (h : w.cell? ⟨b, o, none⟩ = some v) : CB w b := by
 unfold World.cell? at h
 split at h
 · rename_i cs T fr hb
   exact ⟨cs, T, fr, hb⟩
 · cases h
def Rt (X : World → Value → Prop) (w : World) (e : Ending) (w' : World) : Prop := ∃ v, e = .returned v ∧ X w' v ∧ Below w.heap.size w w'
theorem back {P : Program} {f : FuncId} {ds : List V} {d : V} (h : Pure P f ds d) {w : World} {args : Array Value} (ha : Reps w (fun _ => False) no args ds) : Calls P f args w (Rt (fun w v => Rep w (fun _ => False) no v d) w) :=
 (h.2 w (fun _ => False) args (fun _ h => h.elim) ha).mono fun e w' h => h
theorem to_tt {w w' : World} {e : Ending} (h : Rt (fun w v => Rep w (fun _ => False) no v (bo true)) w e w') : e = .returned (.bool true) ∧ Below w.heap.size w w' := by
 obtain ⟨v, rfl, h1, h2⟩ := h
 exact ⟨by rw [Rep.k_inv h1], h2⟩
/-- A law of any arguments. -/
theorem lawG {f : FuncId} {us : List Value} {ds : List V} {w : World} (h : Pure PP f ds (bo true)) (hg : Glo w (fun _ => False)) (hl : us.length = ds.length) (hr : ∀ j, j < ds.length → Rep w (fun _ => False) no (us.getD j undef) (ds.getD j .un)) :
    Calls PP f us.toArray w fun e w' => e = .returned (.bool true) ∧ Below w.heap.size w w' :=
 (back h (reps_of hl hg hr)).mono fun _ _ => to_tt
theorem all3 {p : Nat → Prop} (h0 : p 0) (h1 : p 1) (h2 : p 2) : ∀ j, j < 3 → p j := fun j hj => by
 match j, hj with
 | 0, _ => exact h0
 | 1, _ => exact h1
 | 2, _ => exact h2
end Go.Proofs.YtmhliomemdhmiaaGreatDoor.E
namespace Go.Proofs.YtmhliomemdhmiaaGreatDoor.E
open Go.RowKit
set_option linter.unusedVariables false
/-- The cells of a type. -/
inductive Sh where
 | bb
 | ii (k : IntKind)
 | ss
 | row (e : List Sh)
def shapeF (g : TypeId → Option (List Sh)) (c : TypeId → Nat) : Nat → List Field → Option (List Sh)
 | _, [] => some []
 | o, f :: r => match g f.type, shapeF g c (o + c f.type) r with
   | some l, some m => match Nat.beq f.offset o && Nat.beq l.length (c f.type) with
     | true => some (l ++ m)
     | false => none
   | _, _ => none
def shape (P : Program) : Nat → TypeId → Option (List Sh)
 | 0, _ => none
 | n + 1, t => match P.underlying t with
   | some .bool => some [.bb]
   | some (.int k) => some [.ii k]
   | some .string => some [.ss]
   | some (.slice e) => match shape P n e with
     | some l => match Nat.beq l.length (P.cellsOf e) && Nat.blt 0 l.length with
       | true => some [.row l]
       | false => none
     | none => none
   | some (.struct fs) => match shapeF (shape P n) P.cellsOf 0 fs.toList with
     | some l => match Nat.beq l.length (P.cellsOf t) with
       | true => some l
       | false => none
     | none => none
   | _ => none
/-- What stands in such a cell. -/
inductive Fit : Sh → V → Prop
 | b (x : Bool) : Fit .bb (.k (.bool x))
 | i (k : IntKind) (n : Int) (h : (Lit.int k n).wf = true) : Fit (.ii k) (.k (.int k n))
 | s (x : ByteArray) (h : x.size ≤ maxLen) : Fit .ss (.k (.string x))
 | row (e : List Sh) (l : List (List V)) (h0 : l.length ≤ maxLen) (h1 : ∀ cs ∈ l, cs.length = e.length) (h2 : ∀ cs ∈ l, ∀ (j : Nat) (sh : Sh) (x : V), e[j]? = some sh → cs[j]? = some x → Fit sh x) : Fit (.row e) (.sl l)
def FitL (e : List Sh) (xs : List V) : Prop := xs.length = e.length ∧ ∀ (j : Nat) (sh : Sh) (x : V), e[j]? = some sh → xs[j]? = some x → Fit sh x
abbrev FA : Nat → Prop := fun _ => False
def RepL (w : World) (cs : List Value) (xs : List V) : Prop := ∀ (j : Nat) (v : Value) (d : V), cs[j]? = some v → xs[j]? = some d → Rep w FA no v d
theorem FitL.nil : FitL [] [] := ⟨rfl, fun j sh x h => by simp at h⟩
theorem FitL.one {q : Sh} {x : V} (h : Fit q x) : FitL [q] [x] := ⟨rfl, fun j sh y h1 h2 => by
 match j with
 | 0 => simp at h1 h2; subst h1; subst h2; exact h
 | j + 1 => simp at h1⟩
theorem FitL.app {e f : List Sh} {xs ys : List V} (h : FitL e xs) (g : FitL f ys) : FitL (e ++ f) (xs ++ ys) := by
 refine ⟨by rw [List.length_append, List.length_append, h.1, g.1], fun j sh x h1 h2 => ?_⟩
 by_cases hj : j < e.length
 · rw [List.getElem?_append_left hj] at h1
   rw [List.getElem?_append_left (by rw [h.1]; exact hj)] at h2
   exact h.2 j sh x h1 h2
 · rw [List.getElem?_append_right (by omega)] at h1
   rw [List.getElem?_append_right (by rw [h.1]; omega), h.1] at h2
   exact g.2 _ sh x h1 h2
section
variable {H : Type} {enc : TypeId × Value → H} {P : Program} {w : World}
theorem fields_rep {g : TypeId → Option (List Sh)} {c : TypeId → Nat} {α : Type} {tr : TypeId → List Value → Option α} {cs : List Value} (hg : ∀ t cs' x l, tr t cs' = some x → g t = some l → cs'.length = l.length ∧ ∃ xs, FitL l xs ∧ RepL w cs' xs) :
  ∀ (r : List Field) (o : Nat) (l : List Sh), shapeF g c o r = some l → (∀ f ∈ r, ∃ x, tr f.type ((cs.drop f.offset).take (c f.type)) = some x) → ∃ xs, FitL l xs ∧ RepL w (cs.drop o) xs
 | [], o, l, h, _ => by
  simp only [shapeF, Option.some.injEq] at h
  subst h
  exact ⟨[], FitL.nil, fun j v d _ h => by simp at h⟩
 | f :: r, o, l, h, ht => by
  simp only [shapeF] at h
  split at h
  · rename_i l1 l2 e1 e2
    split at h
    · rename_i hc
      simp only [Bool.and_eq_true, Nat.beq_eq] at hc
      injection h with h
      subst h
      obtain ⟨x, hx⟩ := ht f (List.mem_cons_self ..)
      obtain ⟨h1, xs, h2, h3⟩ := hg _ _ _ _ hx e1
      obtain ⟨ys, h4, h5⟩ := fields_rep hg r _ _ e2 fun f hf => ht f (List.mem_cons_of_mem _ hf)
      refine ⟨xs ++ ys, h2.app h4, fun j v d hv hd => ?_⟩
      rw [hc.1] at h3
      by_cases hj : j < l1.length
      · rw [List.getElem?_append_left (by rw [h2.1]; exact hj)] at hd
        refine h3 j v d ?_ hd
        rw [List.getElem?_take, if_pos (by omega)]
        exact hv
      · rw [List.getElem?_append_right (by rw [h2.1]; omega), h2.1] at hd
        refine h5 (j - l1.length) v d ?_ hd
        rw [List.getElem?_drop] at hv ⊢
        rw [show o + c f.type + (j - l1.length) = o + j by omega]
        exact hv
    · cases h
  · cases h
theorem trod_rep : ∀ (fuel n : Nat) (t : TypeId) (cs : List Value) (x : DataW H × List MemPlace) (l : List Sh), DataW.trod enc P w 0 (fun _ => true) true fuel t cs = some x → shape P n t = some l → cs.length = l.length ∧ ∃ xs, FitL l xs ∧ RepL w cs xs := by
 intro fuel
 induction fuel with
 | zero => intro n t cs x l h; simp [DataW.trod] at h
 | succ fuel ih =>
  intro n t cs x l h hs
  cases n with
  | zero => cases hs
  | succ n =>
   have one : ∀ {q : Sh} {v : Value} {d : V}, Fit q d → Rep w FA no v d → [v].length = [q].length ∧ ∃ xs, FitL [q] xs ∧ RepL w [v] xs := fun {q v d} h1 h2 => ⟨rfl, [d], FitL.one h1, fun j v' d' e1 e2 => by
    match j with
    | 0 => simp at e1 e2; subst e1; subst e2; exact h2
    | j + 1 => simp at e1⟩
   unfold shape at hs
   split at hs
   · rename_i hu
     injection hs with hs; subst hs
     unfold DataW.trod at h
     rw [hu] at h
     split at h <;> simp_all
     exact one (.b _) (.k _ _)
   · rename_i k hu
     injection hs with hs; subst hs
     unfold DataW.trod at h
     rw [hu] at h
     split at h <;> simp_all
     obtain ⟨⟨rfl, h1⟩, _⟩ := h
     exact one (.i _ _ h1) (.k _ _)
   · rename_i hu
     injection hs with hs; subst hs
     unfold DataW.trod at h
     rw [hu] at h
     split at h <;> simp_all
     exact one (.s _ h.1) (.k _ _)
   · rename_i e hu
     split at hs
     · rename_i l' hl'
       split at hs
       · rename_i hc
         simp only [Bool.and_eq_true, Nat.beq_eq, Nat.blt_eq] at hc
         injection hs with hs; subst hs
         rcases DataW.trod_slice hu h with ⟨rfl, _⟩ | ⟨a, len, cap, elems, rest, n', hn', rfl, rfl, hb, hl, hm, hlen, hel, hsp, hns⟩
         · exact one (.row l' [] (by simp) (by simp) (by simp)) (.sl _ none 0 0 0 l'.length [] (fun _ _ => undef) (Nat.zero_le _) (Nat.zero_le _) (by simp) (by simp) (by simp) (by simp))
         · obtain rfl : fuel = n' := by omega
           have he : ∀ i, i < len → ∃ xs, FitL l' xs ∧ ∀ j d, xs[j]? = some d → ∃ v, w.cell? (a.add (i * P.cellsOf e) |>.add j) = some v ∧ Rep w FA no v d := by
            intro i hi
            have hq := hel i hi
            rw [List.getElem?_eq_getElem (by omega)] at hq
            obtain ⟨cs', h1, h2⟩ := Option.bind_eq_some_iff.1 hq
            obtain ⟨h3, xs, h4, h5⟩ := ih n e cs' _ l' h2 hl'
            obtain ⟨_, h6, h7⟩ := World.cells?_some h1
            refine ⟨xs, h4, fun j d hd => ?_⟩
            have hjl := (List.getElem?_eq_some_iff.1 hd).1
            rw [h4.1] at hjl
            have hv : cs'[j]? = some cs'[j] := List.getElem?_eq_getElem (by omega)
            exact ⟨_, (h7 j (by omega)).trans hv, h5 j _ d hv hd⟩
           by_cases h0 : len = 0
           · subst h0
             exact one (.row l' [] (by simp) (by simp) (by simp)) (.sl _ (some a) 0 0 cap l'.length [] (fun _ _ => undef) (Nat.zero_le _) hm (by simp) (by simp) (by simp) (by simp))
           · have hch : ∃ F : Nat → List V, ∀ i, i < len → FitL l' (F i) ∧ ∀ j d, (F i)[j]? = some d → ∃ v, w.cell? (a.add (i * P.cellsOf e) |>.add j) = some v ∧ Rep w FA no v d :=
              ⟨fun i => if h : i < len then (he i h).choose else [], fun i hi => by simp only [dif_pos hi]; exact (he i hi).choose_spec⟩
             obtain ⟨F, hF⟩ := hch
             obtain ⟨b, o, spot⟩ := a
             have hspot : spot = none := by
              obtain ⟨h1, h2⟩ := hF 0 (by omega)
              have hlt : 0 < (F 0).length := by rw [h1.1]; exact hc.2
              obtain ⟨v, h3, _⟩ := h2 0 _ (List.getElem?_eq_getElem hlt)
              simpa [Addr.add] using World.cell?_spot h3
             subst hspot
             have hadd : ∀ i j : Nat, ((⟨b, o, none⟩ : Addr).add (i * P.cellsOf e)).add j = ⟨b, o + i * l'.length + j, none⟩ := fun i j => by rw [hc.1, Go.WideShapes.add_plain, Go.WideShapes.add_plain]
             let L : List (List V) := (List.range len).map F
             have hL : L.length = len := by simp [L]
             have hLi : ∀ i cs, L[i]? = some cs → i < len ∧ cs = F i := fun i cs hi => by
              have hlt := (List.getElem?_eq_some_iff.1 hi).1
              rw [hL] at hlt
              simp only [L, List.getElem?_map, List.getElem?_range hlt, Option.map_some, Option.some.injEq] at hi
              exact ⟨hlt, hi.symm⟩
             have hmem : ∀ cs ∈ L, ∃ i, i < len ∧ cs = F i := fun cs hcs => by
              obtain ⟨i, hi⟩ := List.getElem?_of_mem hcs
              exact ⟨i, hLi i cs hi⟩
             have hr : Rep w FA no (.slice (some ⟨b, o, none⟩) L.length cap) (.sl L) := by
              refine .sl _ _ b o cap l'.length L (fun i j => (w.cell? ⟨b, o + i * l'.length + j, none⟩).getD undef) (by omega) hm (fun _ => ⟨rfl, fun e => e, ?_⟩) (fun cs hcs => ?_) (fun i j cs x hi hj => ?_) (fun i j cs x hi hj => ?_)
              · obtain ⟨h1, h2⟩ := hF 0 (by omega)
                have hlt : 0 < (F 0).length := by rw [h1.1]; exact hc.2
                obtain ⟨v, h3, _⟩ := h2 0 _ (List.getElem?_eq_getElem hlt)
                rw [hadd] at h3
                exact cb_of h3
              · obtain ⟨i, hi, rfl⟩ := hmem cs hcs
                exact (hF i hi).1.1
              · obtain ⟨hi', rfl⟩ := hLi i cs hi
                obtain ⟨v, h3, _⟩ := (hF i hi').2 j x hj
                rw [hadd] at h3
                rw [h3]; rfl
              · obtain ⟨hi', rfl⟩ := hLi i cs hi
                obtain ⟨v, h3, h4⟩ := (hF i hi').2 j x hj
                rw [hadd] at h3
                rw [h3]
                exact h4
             rw [hL] at hr
             refine one (.row l' L (by omega) (fun cs hcs => ?_) (fun cs hcs j sh x h1 h2 => ?_)) hr
             · obtain ⟨i, hi, rfl⟩ := hmem cs hcs
               exact (hF i hi).1.1
             · obtain ⟨i, hi, rfl⟩ := hmem cs hcs
               exact (hF i hi).1.2 j sh x h1 h2
       · cases hs
     · cases hs
   · rename_i fs hu
     split at hs
     · rename_i l' hl'
       split at hs
       · rename_i hc
         have hc := Nat.eq_of_beq_eq_true hc
         injection hs with hs; subst hs
         obtain ⟨xs, n', hn', _, h1, h2, h3⟩ := DataW.trod_struct hu h
         obtain rfl : fuel = n' := by omega
         obtain ⟨ys, h4, h5⟩ := fields_rep (w := w) (c := P.cellsOf) (tr := fun t cs => DataW.trod enc P w 0 (fun _ => true) true fuel t cs) (cs := cs) (fun t cs' x l a b => ih n t cs' x l a b) fs.toList 0 l' hl' (fun f hf => by
          obtain ⟨i, hi⟩ := List.getElem?_of_mem hf
          have hi2 : fs[i]? = some f := by simpa using hi
          have hlt := (Array.getElem?_eq_some_iff.1 hi2).1
          have h6 := h3 i f hi2
          rw [List.getElem?_eq_getElem (by omega)] at h6
          exact ⟨_, h6⟩)
         exact ⟨by omega, ys, h4, by simpa using h5⟩
       · cases hs
     · cases hs
   · cases hs
/-- An argument of one cell. -/
theorem arg_1 {n : Nat} {t : TypeId} {v : Value} {d : DataW H} {ps : List MemPlace} {q : Sh} (h : DataW.Trod enc P w 0 (fun _ => true) true t v d ps) (hv : v.cells = #[v]) (hs : shape P n t = some [q]) : ∃ x, Fit q x ∧ Rep w FA no v x := by
 obtain ⟨fuel, hf⟩ := h
 rw [hv] at hf
 obtain ⟨_, xs, h1, h2⟩ := trod_rep fuel n t _ _ _ hf hs
 match xs, h1 with
 | [x], h1 => exact ⟨x, h1.2 0 q x rfl rfl, h2 0 v x rfl rfl⟩
end
/-- A row of ints. -/
theorem Fit.ints {x : V} (h : Fit (.row [.ii .i64]) x) : ∃ l : List Int, x = zl l ∧ ∀ n ∈ l, W.Is64 n := by
 cases h with
 | row e l h0 h1 h2 =>
  clear h0
  suffices h : ∃ l' : List Int, l = zs l' ∧ ∀ n ∈ l', W.Is64 n by
   obtain ⟨l', rfl, h⟩ := h
   exact ⟨l', rfl, h⟩
  induction l with
  | nil => exact ⟨[], rfl, by simp⟩
  | cons a r ih =>
   obtain ⟨l', rfl, h3⟩ := ih (fun cs h => h1 cs (List.mem_cons_of_mem _ h)) (fun cs h => h2 cs (List.mem_cons_of_mem _ h))
   have hl := h1 a (List.mem_cons_self ..)
   have hf := h2 a (List.mem_cons_self ..)
   match a, hl with
   | [y], _ =>
    have hy := hf 0 _ y rfl rfl
    cases hy with
    | i k n hw => exact ⟨n :: l', rfl, fun m hm => by
      rcases List.mem_cons.1 hm with rfl | hm
      · exact is64_of hw
      · exact h3 m hm⟩
theorem Fit.int {x : V} (h : Fit (.ii .i64) x) : ∃ n : Int, x = ni n ∧ W.Is64 n := by
 cases h with
 | i k n hw => exact ⟨n, rfl, is64_of hw⟩
theorem Fit.bool {x : V} (h : Fit .bb x) : ∃ b : Bool, x = bo b := by
 cases h with
 | b x => exact ⟨x, rfl⟩
end Go.Proofs.YtmhliomemdhmiaaGreatDoor.E
