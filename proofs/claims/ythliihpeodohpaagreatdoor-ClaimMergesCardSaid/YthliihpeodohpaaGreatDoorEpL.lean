/-
 THE LISTED VARIABLE of package claim: what the rows' condition gives.
-/
import Derived.Test.YthliihpeodohpaaGreatDoorDsN
import Derived.Test.YthliihpeodohpaaGreatDoorMemR
import Derived.OpenShut
import Derived.Test.YthliihpeodohpaaGreatDoorEqA
import Derived.Carry
import Derived.Test.YthliihpeodohpaaGreatDoorRows
import Derived.LaidMore
import Derived.MakeChecks
import Derived.ChangeArms
namespace Go.Proofs.YthliihpeodohpaaGreatDoor.E.Ca
open Go.RowKit
set_option linter.unusedVariables false
set_option linter.unusedSimpArgs false
section
variable {q r : CQ} {A B C L S O : List CQ} {a i k n : Nat} {l m : List Int} {turn : Int}
theorem find_map (L : List CQ) : L.map dQ = (L.map CQ.cm).map dC := by rw [List.map_map]; rfl
theorem e_findQ (L : List CQ) (p : Int × Int) : Pure PP 10 [slQ L, .ag (E.nm p)] (ni (fidx (fun c : CM => decide (c.nm = p)) (L.map CQ.cm))) := by
 have h := e_find (L.map CQ.cm) p
 rw [← find_map] at h
 exact h
theorem find_in (h : r ∈ L) (e : r.cm.nm = q.cm.nm) : decide (fidx (fun c : CM => decide (c.nm = q.cm.nm)) (L.map CQ.cm) < 0) = false := by
 have h1 := fidx_any (fun c : CM => decide (c.nm = q.cm.nm)) (L.map CQ.cm)
 have h2 : (L.map CQ.cm).any (fun c : CM => decide (c.nm = q.cm.nm)) = true := List.any_eq_true.2 ⟨r.cm, List.mem_map.2 ⟨r, h, rfl⟩, decide_eq_true e⟩
 rw [h2] at h1
 have h3 := of_decide_eq_true h1
 exact decide_eq_false (by omega)
theorem find_at (h : S[i]? = some q) (pw : S.Pairwise fun a b => cmp2 a b < 0) (nm : ∀ a ∈ S, ∀ b ∈ S, a.cm.nm = b.cm.nm → a = b) : fidx (fun c : CM => decide (c.nm = q.cm.nm)) (S.map CQ.cm) = (i : Int) := by
 refine fidx_at (a := q.cm) (fun t b ht hb => ?_) (by rw [List.getElem?_map, h]; rfl) (decide_eq_true rfl)
 rw [List.getElem?_map] at hb
 cases hx : S[t]? with
 | none => rw [hx] at hb; cases hb
 | some x =>
  rw [hx] at hb
  injection hb with hb
  subst hb
  refine decide_eq_false fun e => ?_
  have := nm x (List.mem_of_getElem? hx) q (List.mem_of_getElem? h) e
  subst this
  obtain ⟨l1, g1⟩ := List.getElem?_eq_some_iff.1 hx
  obtain ⟨l2, g2⟩ := List.getElem?_eq_some_iff.1 h
  have := List.pairwise_iff_getElem.1 pw t i l1 l2 ht
  rw [g1, g2, cmp2_cmp.refl] at this
  omega
theorem ml_5 (h : ∀ q ∈ C, Sq q) (hO : ∀ q ∈ O, Sq q) (hn : C.length ≤ 40) (hl : O.length ≤ 80) (e : sorted O = sorted C) (next : GML (lp fML 1) (mS4 C (sorted C) 0)) : GML (rg fML 14) (mS3 C (sorted C) O) := by
 have c1 := e_sortR hO (by omega)
 have c2 := e_sortR (L := sorted C) (fun q hq => h q (sorted_sub hq)) (by have := sorted_le C; omega)
 rw [e] at c1
 rw [sorted_idem h] at c2
 have sm := e_sameAll (sorted C)
 unfold mS4 at next
 unfold mS3
 unfold slQ at *
 generalize (sorted C).map dQ = R at *
 exact .to mo_ [] [9, 10, 16] [] 0 [cl c1, cl sm, nf, cl sm, nf, cl sm, nf, cl c2, cl sm, nf] next (by kernel_rfl)
theorem sorted_nm (L : List CQ) : ∀ x ∈ sorted L, ∀ y ∈ sorted L, x.cm.nm = y.cm.nm → x = y := fun x hx y hy e => by
 have hx := (srt_mem cmp2).1 hx
 have hy := (srt_mem cmp2).1 hy
 have pw := List.pairwise_iff_getElem.1 (cpt_nm L)
 obtain ⟨i, hi, rfl⟩ := List.getElem_of_mem hx
 obtain ⟨j, hj, rfl⟩ := List.getElem_of_mem hy
 have e1 : ordN (cpt (srt cmp1 L))[i].cm.nm (cpt (srt cmp1 L))[j].cm.nm = 0 := by rw [e]; exact ordN_cmp.refl _
 have e2 : ordN (cpt (srt cmp1 L))[j].cm.nm (cpt (srt cmp1 L))[i].cm.nm = 0 := by rw [e]; exact ordN_cmp.refl _
 rcases Nat.lt_trichotomy i j with h | h | h
 · have := pw i j hi hj h; omega
 · subst h; rfl
 · have := pw j i hj hi h; omega
theorem ml_6 (hn : C.length ≤ 40) (next : GML (lp fML 2) (mS5 C (sorted C) 0)) : GML (lp fML 1) (mS4 C (sorted C) 0) := by
 have hl := sorted_le C
 have pw := sorted_pw C
 have nm := sorted_nm C
 have sub : ∀ q, q ∈ sorted C → q ∈ C := fun q hq => sorted_sub hq
 have ll : ((sorted C).map dQ).length = (sorted C).length := List.length_map ..
 refine Gd.loop (mS4 C (sorted C)) (fun k => k ≤ (sorted C).length) (fun k => (sorted C).length - k) ?_ 0 (Nat.zero_le _)
 intro k hk ih
 by_cases h : k < (sorted C).length
 · have lt : decide ((k : Int) < (((sorted C).map dQ).length : Int)) = true := decide_eq_true (by omega)
   obtain ⟨q, hq⟩ : ∃ q, (sorted C)[k]? = some q := ⟨_, List.getElem?_eq_getElem h⟩
   have s1 := dQ_at hq
   have f1 := e_findQ (sorted C) q.cm.nm
   rw [find_at hq pw nm] at f1
   have f2 := e_findQ C q.cm.nm
   have d2 := find_in (sub q (List.mem_of_getElem? hq)) rfl
   have ne : ((k : Int) != (k : Int)) = false := by simp
   have nx := ih (k + 1) h (by omega)
   generalize fidx (fun c : CM => decide (c.nm = q.cm.nm)) (C.map CQ.cm) = x at f2 d2
   by_cases h0 : k = 0
   · subst h0
     have gt : decide (((0 : Nat) : Int) > 0) = false := decide_eq_false (by omega)
     unfold mS4 at nx ⊢
     unfold slQ at *
     exact .to mo_ [] [9, 10, 16] [] 0 [ye lt, .sel _ _ _ s1, .sel _ _ _ s1, cl f1, na ne, cl f2, na d2, na gt, nf, inc 94 0 (by omega)] nx (by kernel_rfl)
   · have gt : decide ((k : Int) > 0) = true := decide_eq_true (by omega)
     obtain ⟨r, hr⟩ : ∃ r, (sorted C)[k - 1]? = some r := ⟨_, List.getElem?_eq_getElem (by omega)⟩
     have s2 := dQ_at hr
     have bf := e_before r.cm q.cm
     have hb : befB r.cm q.cm = true := by
      obtain ⟨l1, g1⟩ := List.getElem?_eq_some_iff.1 hq
      obtain ⟨l2, g2⟩ := List.getElem?_eq_some_iff.1 hr
      have := List.pairwise_iff_getElem.1 pw (k - 1) k l2 l1 (by omega)
      rw [g1, g2] at this
      exact decide_eq_true this
     rw [hb] at bf
     unfold mS4 at nx ⊢
     unfold slQ at *
     exact .to mo_ [] [9, 10, 16] [] 0 [ye lt, .sel _ _ _ s1, .sel _ _ _ s1, cl f1, na ne, cl f2, na d2, ye gt, wq 123 ((k : Int) - 1) ((k - 1 : Nat) : Int) (by omega), .sel _ _ _ s2, .sel _ _ _ s1, cl bf, nf, inc 94 k (by omega)] nx (by kernel_rfl)
 · have lt : decide ((k : Int) < (((sorted C).map dQ).length : Int)) = false := decide_eq_false (by omega)
   unfold mS5 at next
   unfold mS4
   unfold slQ at *
   exact .to mo_ [] [9, 10, 18] [] 0 [na lt] next (by kernel_rfl)
theorem ml_7 (hn : C.length ≤ 40) : GML (lp fML 2) (mS5 C (sorted C) 0) := by
 have ll : (C.map dQ).length = C.length := List.length_map ..
 refine Gd.loop (mS5 C (sorted C)) (fun k => k ≤ C.length) (fun k => C.length - k) ?_ 0 (Nat.zero_le _)
 intro k hk ih
 by_cases h : k < C.length
 · have lt : decide ((k : Int) < ((C.map dQ).length : Int)) = true := decide_eq_true (by omega)
   obtain ⟨q, hq⟩ : ∃ q, C[k]? = some q := ⟨_, List.getElem?_eq_getElem h⟩
   have s1 := dQ_at hq
   have f1 := e_findQ (sorted C) q.cm.nm
   obtain ⟨a, ha, ea, _⟩ := sorted_cov (List.mem_of_getElem? hq)
   have d1 := find_in ha ea
   have nx := ih (k + 1) h (by omega)
   generalize fidx (fun c : CM => decide (c.nm = q.cm.nm)) ((sorted C).map CQ.cm) = x at f1 d1
   unfold mS5 at nx ⊢
   unfold slQ at *
   exact .to mo_ [] [9, 10, 18] [] 0 [ye lt, .sel _ _ _ s1, .sel _ _ _ s1, cl f1, na d1, inc 139 k (by omega)] nx (by kernel_rfl)
 · have lt : decide ((k : Int) < ((C.map dQ).length : Int)) = false := decide_eq_false (by omega)
   unfold mS5
   unfold slQ
   exact fi [na lt, cl e_lives15] (by kernel_rfl) (by kernel_rfl)
theorem l_merges (hl : ∀ x ∈ l, W.Is64 x) (hm : ∀ x ∈ m, W.Is64 x) (ht : W.Is64 turn) : Pure PP 4 [zl l, zl m, ni turn] (bo true) := by
 obtain ⟨A, a1, a2, a3⟩ := some_cq l
 obtain ⟨B, b1, b2, b3⟩ := some_cq m
 have sl := someL_len l
 have sm := someL_len m
 have hab : ∀ q ∈ A ++ B, Sq q := fun q hq => (List.mem_append.1 hq).elim (a3 q) (b3 q)
 have hn : (A ++ B).length ≤ 40 := by rw [List.length_append]; omega
 refine ml_0 hl hm a1 b1 hn (ml_1 hab hn ht fun a ha => ml_2 hn (ml_3 hn ha (ml_4 a3 b3 rfl hn ?_)))
 refine ml_5 hab (fun q hq => ?_) hn ?_ (sorted_other hab a) (ml_6 hn (ml_7 hn))
 · rcases List.mem_append.1 hq with hq | hq
   · exact hab q (List.mem_reverse.1 hq)
   · exact hab q (List.mem_of_mem_drop hq)
 · rw [List.length_append, List.length_reverse, List.length_drop]; omega
end
end Go.Proofs.YthliihpeodohpaaGreatDoor.E.Ca
namespace Go.Proofs.YthliihpeodohpaaGreatDoor
open Go.RowKit
theorem is64_of {n : Int} (h : (Lit.int .i64 n).wf = true) : W.Is64 n := by
 have := bounds_i64 h
 unfold W.Is64
 omega
end Go.Proofs.YthliihpeodohpaaGreatDoor
namespace Go.Proofs.YthliihpeodohpaaGreatDoor.E
open Go.RowKit
set_option linter.unusedVariables false
theorem cb_of {w : World} {b o : Nat} {v : Value} (h : w.cell? ⟨b, o, none⟩ = some v) : CB w b := by
 unfold World.cell? at h
 split at h
 · rename_i cs T fr hb
   exact ⟨cs, T, fr, hb⟩
 · cases h
def Rt (X : World → Value → Prop) (w : World) (e : Ending) (w' : World) : Prop := ∃ v, e = .returned v ∧ X w' v ∧ Below w.heap.size w w'
theorem back {P : Program} {f : FuncId} {ds : List V} {d : V} (h : Pure P f ds d) {w : World} {args : Array Value} (ha : Reps w (fun _ => False) no args ds) : Calls P f args w (Rt (fun w v => Rep w (fun _ => False) no v d) w) :=
 (h.2 w (fun _ => False) args (fun _ h => h.elim) ha).mono fun e w' h => h
theorem to_tt {w w' : World} {e : Ending} (h : Rt (fun w v => Rep w (fun _ => False) no v (bo true)) w e w') : e = .returned (.bool true) ∧ Below w.heap.size w w' := by
 obtain ⟨v, rfl, h1, h2⟩ := h
 exact ⟨by rw [Rep.k_inv h1], h2⟩
/-- A law of any arguments. -/
theorem lawG {f : FuncId} {us : List Value} {ds : List V} {w : World} (h : Pure PP f ds (bo true)) (hg : Glo w (fun _ => False)) (hl : us.length = ds.length) (hr : ∀ j, j < ds.length → Rep w (fun _ => False) no (us.getD j undef) (ds.getD j .un)) :
    Calls PP f us.toArray w fun e w' => e = .returned (.bool true) ∧ Below w.heap.size w w' :=
 (back h (reps_of hl hg hr)).mono fun _ _ => to_tt
theorem all3 {p : Nat → Prop} (h0 : p 0) (h1 : p 1) (h2 : p 2) : ∀ j, j < 3 → p j := fun j hj => by
 match j, hj with
 | 0, _ => exact h0
 | 1, _ => exact h1
 | 2, _ => exact h2
end Go.Proofs.YthliihpeodohpaaGreatDoor.E
namespace Go.Proofs.YthliihpeodohpaaGreatDoor.E
open Go.RowKit
set_option linter.unusedVariables false
/-- The cells of a type. -/
inductive Sh where
 | bb
 | ii (k : IntKind)
 | ss
 | row (e : List Sh)
def shapeF (g : TypeId → Option (List Sh)) (c : TypeId → Nat) : Nat → List Field → Option (List Sh)
 | _, [] => some []
 | o, f :: r => match g f.type, shapeF g c (o + c f.type) r with
   | some l, some m => match Nat.beq f.offset o && Nat.beq l.length (c f.type) with
     | true => some (l ++ m)
     | false => none
   | _, _ => none
def shape (P : Program) : Nat → TypeId → Option (List Sh)
 | 0, _ => none
 | n + 1, t => match P.underlying t with
   | some .bool => some [.bb]
   | some (.int k) => some [.ii k]
   | some .string => some [.ss]
   | some (.slice e) => match shape P n e with
     | some l => match Nat.beq l.length (P.cellsOf e) && Nat.blt 0 l.length with
       | true => some [.row l]
       | false => none
     | none => none
   | some (.struct fs) => match shapeF (shape P n) P.cellsOf 0 fs.toList with
     | some l => match Nat.beq l.length (P.cellsOf t) with
       | true => some l
       | false => none
     | none => none
   | _ => none
/-- What stands in such a cell. -/
inductive Fit : Sh → V → Prop
 | b (x : Bool) : Fit .bb (.k (.bool x))
 | i (k : IntKind) (n : Int) (h : (Lit.int k n).wf = true) : Fit (.ii k) (.k (.int k n))
 | s (x : ByteArray) (h : x.size ≤ maxLen) : Fit .ss (.k (.string x))
 | row (e : List Sh) (l : List (List V)) (h0 : l.length ≤ maxLen) (h1 : ∀ cs ∈ l, cs.length = e.length) (h2 : ∀ cs ∈ l, ∀ (j : Nat) (sh : Sh) (x : V), e[j]? = some sh → cs[j]? = some x → Fit sh x) : Fit (.row e) (.sl l)
def FitL (e : List Sh) (xs : List V) : Prop := xs.length = e.length ∧ ∀ (j : Nat) (sh : Sh) (x : V), e[j]? = some sh → xs[j]? = some x → Fit sh x
abbrev FA : Nat → Prop := fun _ => False
def RepL (w : World) (cs : List Value) (xs : List V) : Prop := ∀ (j : Nat) (v : Value) (d : V), cs[j]? = some v → xs[j]? = some d → Rep w FA no v d
theorem FitL.nil : FitL [] [] := ⟨rfl, fun j sh x h => by simp at h⟩
theorem FitL.one {q : Sh} {x : V} (h : Fit q x) : FitL [q] [x] := ⟨rfl, fun j sh y h1 h2 => by
 match j with
 | 0 => simp at h1 h2; subst h1; subst h2; exact h
 | j + 1 => simp at h1⟩
theorem FitL.app {e f : List Sh} {xs ys : List V} (h : FitL e xs) (g : FitL f ys) : FitL (e ++ f) (xs ++ ys) := by
 refine ⟨by rw [List.length_append, List.length_append, h.1, g.1], fun j sh x h1 h2 => ?_⟩
 by_cases hj : j < e.length
 · rw [List.getElem?_append_left hj] at h1
   rw [List.getElem?_append_left (by rw [h.1]; exact hj)] at h2
   exact h.2 j sh x h1 h2
 · rw [List.getElem?_append_right (by omega)] at h1
   rw [List.getElem?_append_right (by rw [h.1]; omega), h.1] at h2
   exact g.2 _ sh x h1 h2
section
variable {H : Type} {enc : TypeId × Value → H} {P : Program} {w : World}
theorem fields_rep {g : TypeId → Option (List Sh)} {c : TypeId → Nat} {α : Type} {tr : TypeId → List Value → Option α} {cs : List Value} (hg : ∀ t cs' x l, tr t cs' = some x → g t = some l → cs'.length = l.length ∧ ∃ xs, FitL l xs ∧ RepL w cs' xs) :
  ∀ (r : List Field) (o : Nat) (l : List Sh), shapeF g c o r = some l → (∀ f ∈ r, ∃ x, tr f.type ((cs.drop f.offset).take (c f.type)) = some x) → ∃ xs, FitL l xs ∧ RepL w (cs.drop o) xs
 | [], o, l, h, _ => by
  simp only [shapeF, Option.some.injEq] at h
  subst h
  exact ⟨[], FitL.nil, fun j v d _ h => by simp at h⟩
 | f :: r, o, l, h, ht => by
  simp only [shapeF] at h
  split at h
  · rename_i l1 l2 e1 e2
    split at h
    · rename_i hc
      simp only [Bool.and_eq_true, Nat.beq_eq] at hc
      injection h with h
      subst h
      obtain ⟨x, hx⟩ := ht f (List.mem_cons_self ..)
      obtain ⟨h1, xs, h2, h3⟩ := hg _ _ _ _ hx e1
      obtain ⟨ys, h4, h5⟩ := fields_rep hg r _ _ e2 fun f hf => ht f (List.mem_cons_of_mem _ hf)
      refine ⟨xs ++ ys, h2.app h4, fun j v d hv hd => ?_⟩
      rw [hc.1] at h3
      by_cases hj : j < l1.length
      · rw [List.getElem?_append_left (by rw [h2.1]; exact hj)] at hd
        refine h3 j v d ?_ hd
        rw [List.getElem?_take, if_pos (by omega)]
        exact hv
      · rw [List.getElem?_append_right (by rw [h2.1]; omega), h2.1] at hd
        refine h5 (j - l1.length) v d ?_ hd
        rw [List.getElem?_drop] at hv ⊢
        rw [show o + c f.type + (j - l1.length) = o + j by omega]
        exact hv
    · cases h
  · cases h
theorem trod_rep : ∀ (fuel n : Nat) (t : TypeId) (cs : List Value) (x : DataW H × List MemPlace) (l : List Sh), DataW.trod enc P w 0 (fun _ => true) true fuel t cs = some x → shape P n t = some l → cs.length = l.length ∧ ∃ xs, FitL l xs ∧ RepL w cs xs := by
 intro fuel
 induction fuel with
 | zero => intro n t cs x l h; simp [DataW.trod] at h
 | succ fuel ih =>
  intro n t cs x l h hs
  cases n with
  | zero => cases hs
  | succ n =>
   have one : ∀ {q : Sh} {v : Value} {d : V}, Fit q d → Rep w FA no v d → [v].length = [q].length ∧ ∃ xs, FitL [q] xs ∧ RepL w [v] xs := fun {q v d} h1 h2 => ⟨rfl, [d], FitL.one h1, fun j v' d' e1 e2 => by
    match j with
    | 0 => simp at e1 e2; subst e1; subst e2; exact h2
    | j + 1 => simp at e1⟩
   unfold shape at hs
   split at hs
   · rename_i hu
     injection hs with hs; subst hs
     unfold DataW.trod at h
     rw [hu] at h
     split at h <;> simp_all
     exact one (.b _) (.k _ _)
   · rename_i k hu
     injection hs with hs; subst hs
     unfold DataW.trod at h
     rw [hu] at h
     split at h <;> simp_all
     obtain ⟨⟨rfl, h1⟩, _⟩ := h
     exact one (.i _ _ h1) (.k _ _)
   · rename_i hu
     injection hs with hs; subst hs
     unfold DataW.trod at h
     rw [hu] at h
     split at h <;> simp_all
     exact one (.s _ h.1) (.k _ _)
   · rename_i e hu
     split at hs
     · rename_i l' hl'
       split at hs
       · rename_i hc
         simp only [Bool.and_eq_true, Nat.beq_eq, Nat.blt_eq] at hc
         injection hs with hs; subst hs
         rcases DataW.trod_slice hu h with ⟨rfl, _⟩ | ⟨a, len, cap, elems, rest, n', hn', rfl, rfl, hb, hl, hm, hlen, hel, hsp, hns⟩
         · exact one (.row l' [] (by simp) (by simp) (by simp)) (.sl _ none 0 0 0 l'.length [] (fun _ _ => undef) (Nat.zero_le _) (Nat.zero_le _) (by simp) (by simp) (by simp) (by simp))
         · obtain rfl : fuel = n' := by omega
           have he : ∀ i, i < len → ∃ xs, FitL l' xs ∧ ∀ j d, xs[j]? = some d → ∃ v, w.cell? (a.add (i * P.cellsOf e) |>.add j) = some v ∧ Rep w FA no v d := by
            intro i hi
            have hq := hel i hi
            rw [List.getElem?_eq_getElem (by omega)] at hq
            obtain ⟨cs', h1, h2⟩ := Option.bind_eq_some_iff.1 hq
            obtain ⟨h3, xs, h4, h5⟩ := ih n e cs' _ l' h2 hl'
            obtain ⟨_, h6, h7⟩ := World.cells?_some h1
            refine ⟨xs, h4, fun j d hd => ?_⟩
            have hjl := (List.getElem?_eq_some_iff.1 hd).1
            rw [h4.1] at hjl
            have hv : cs'[j]? = some cs'[j] := List.getElem?_eq_getElem (by omega)
            exact ⟨_, (h7 j (by omega)).trans hv, h5 j _ d hv hd⟩
           by_cases h0 : len = 0
           · subst h0
             exact one (.row l' [] (by simp) (by simp) (by simp)) (.sl _ (some a) 0 0 cap l'.length [] (fun _ _ => undef) (Nat.zero_le _) hm (by simp) (by simp) (by simp) (by simp))
           · have hch : ∃ F : Nat → List V, ∀ i, i < len → FitL l' (F i) ∧ ∀ j d, (F i)[j]? = some d → ∃ v, w.cell? (a.add (i * P.cellsOf e) |>.add j) = some v ∧ Rep w FA no v d :=
              ⟨fun i => if h : i < len then (he i h).choose else [], fun i hi => by simp only [dif_pos hi]; exact (he i hi).choose_spec⟩
             obtain ⟨F, hF⟩ := hch
             obtain ⟨b, o, spot⟩ := a
             have hspot : spot = none := by
              obtain ⟨h1, h2⟩ := hF 0 (by omega)
              have hlt : 0 < (F 0).length := by rw [h1.1]; exact hc.2
              obtain ⟨v, h3, _⟩ := h2 0 _ (List.getElem?_eq_getElem hlt)
              simpa [Addr.add] using World.cell?_spot h3
             subst hspot
             have hadd : ∀ i j : Nat, ((⟨b, o, none⟩ : Addr).add (i * P.cellsOf e)).add j = ⟨b, o + i * l'.length + j, none⟩ := fun i j => by rw [hc.1, Go.WideShapes.add_plain, Go.WideShapes.add_plain]
             let L : List (List V) := (List.range len).map F
             have hL : L.length = len := by simp [L]
             have hLi : ∀ i cs, L[i]? = some cs → i < len ∧ cs = F i := fun i cs hi => by
              have hlt := (List.getElem?_eq_some_iff.1 hi).1
              rw [hL] at hlt
              simp only [L, List.getElem?_map, List.getElem?_range hlt, Option.map_some, Option.some.injEq] at hi
              exact ⟨hlt, hi.symm⟩
             have hmem : ∀ cs ∈ L, ∃ i, i < len ∧ cs = F i := fun cs hcs => by
              obtain ⟨i, hi⟩ := List.getElem?_of_mem hcs
              exact ⟨i, hLi i cs hi⟩
             have hr : Rep w FA no (.slice (some ⟨b, o, none⟩) L.length cap) (.sl L) := by
              refine .sl _ _ b o cap l'.length L (fun i j => (w.cell? ⟨b, o + i * l'.length + j, none⟩).getD undef) (by omega) hm (fun _ => ⟨rfl, fun e => e, ?_⟩) (fun cs hcs => ?_) (fun i j cs x hi hj => ?_) (fun i j cs x hi hj => ?_)
              · obtain ⟨h1, h2⟩ := hF 0 (by omega)
                have hlt : 0 < (F 0).length := by rw [h1.1]; exact hc.2
                obtain ⟨v, h3, _⟩ := h2 0 _ (List.getElem?_eq_getElem hlt)
                rw [hadd] at h3
                exact cb_of h3
              · obtain ⟨i, hi, rfl⟩ := hmem cs hcs
                exact (hF i hi).1.1
              · obtain ⟨hi', rfl⟩ := hLi i cs hi
                obtain ⟨v, h3, _⟩ := (hF i hi').2 j x hj
                rw [hadd] at h3
                rw [h3]; rfl
              · obtain ⟨hi', rfl⟩ := hLi i cs hi
                obtain ⟨v, h3, h4⟩ := (hF i hi').2 j x hj
                rw [hadd] at h3
                rw [h3]
                exact h4
             rw [hL] at hr
             refine one (.row l' L (by omega) (fun cs hcs => ?_) (fun cs hcs j sh x h1 h2 => ?_)) hr
             · obtain ⟨i, hi, rfl⟩ := hmem cs hcs
               exact (hF i hi).1.1
             · obtain ⟨i, hi, rfl⟩ := hmem cs hcs
               exact (hF i hi).1.2 j sh x h1 h2
       · cases hs
     · cases hs
   · rename_i fs hu
     split at hs
     · rename_i l' hl'
       split at hs
       · rename_i hc
         have hc := Nat.eq_of_beq_eq_true hc
         injection hs with hs; subst hs
         obtain ⟨xs, n', hn', _, h1, h2, h3⟩ := DataW.trod_struct hu h
         obtain rfl : fuel = n' := by omega
         obtain ⟨ys, h4, h5⟩ := fields_rep (w := w) (c := P.cellsOf) (tr := fun t cs => DataW.trod enc P w 0 (fun _ => true) true fuel t cs) (cs := cs) (fun t cs' x l a b => ih n t cs' x l a b) fs.toList 0 l' hl' (fun f hf => by
          obtain ⟨i, hi⟩ := List.getElem?_of_mem hf
          have hi2 : fs[i]? = some f := by simpa using hi
          have hlt := (Array.getElem?_eq_some_iff.1 hi2).1
          have h6 := h3 i f hi2
          rw [List.getElem?_eq_getElem (by omega)] at h6
          exact ⟨_, h6⟩)
         exact ⟨by omega, ys, h4, by simpa using h5⟩
       · cases hs
     · cases hs
   · cases hs
/-- An argument of one cell. -/
theorem arg_1 {n : Nat} {t : TypeId} {v : Value} {d : DataW H} {ps : List MemPlace} {q : Sh} (h : DataW.Trod enc P w 0 (fun _ => true) true t v d ps) (hv : v.cells = #[v]) (hs : shape P n t = some [q]) : ∃ x, Fit q x ∧ Rep w FA no v x := by
 obtain ⟨fuel, hf⟩ := h
 rw [hv] at hf
 obtain ⟨_, xs, h1, h2⟩ := trod_rep fuel n t _ _ _ hf hs
 match xs, h1 with
 | [x], h1 => exact ⟨x, h1.2 0 q x rfl rfl, h2 0 v x rfl rfl⟩
end
/-- A row of ints. -/
theorem Fit.ints {x : V} (h : Fit (.row [.ii .i64]) x) : ∃ l : List Int, x = zl l ∧ ∀ n ∈ l, W.Is64 n := by
 cases h with
 | row e l h0 h1 h2 =>
  clear h0
  suffices h : ∃ l' : List Int, l = zs l' ∧ ∀ n ∈ l', W.Is64 n by
   obtain ⟨l', rfl, h⟩ := h
   exact ⟨l', rfl, h⟩
  induction l with
  | nil => exact ⟨[], rfl, by simp⟩
  | cons a r ih =>
   obtain ⟨l', rfl, h3⟩ := ih (fun cs h => h1 cs (List.mem_cons_of_mem _ h)) (fun cs h => h2 cs (List.mem_cons_of_mem _ h))
   have hl := h1 a (List.mem_cons_self ..)
   have hf := h2 a (List.mem_cons_self ..)
   match a, hl with
   | [y], _ =>
    have hy := hf 0 _ y rfl rfl
    cases hy with
    | i k n hw => exact ⟨n :: l', rfl, fun m hm => by
      rcases List.mem_cons.1 hm with rfl | hm
      · exact is64_of hw
      · exact h3 m hm⟩
end Go.Proofs.YthliihpeodohpaaGreatDoor.E
namespace Go.Proofs.YthliihpeodohpaaGreatDoor.E
open Go.RowKit
set_option linter.unusedVariables false
set_option linter.unusedSimpArgs false
theorem len4 {α : Type} : ∀ {l : List α}, l.length = 4 → ∃ a b c d, l = [a, b, c, d]
 | [a, b, c, d], _ => ⟨a, b, c, d, rfl⟩
 | [], h => by simp at h
 | [_], h => by simp at h
 | [_, _], h => by simp at h
 | [_, _, _], h => by simp at h
 | _ :: _ :: _ :: _ :: _ :: _, h => by simp at h
section
variable {H : Type} {enc : TypeId × Value → H} {w : World} {base : Nat} {spare : Nat → Bool} {held : Bool} {m : Nat} {cs : List Value} {ps : List MemPlace} {lo hi : Int} {f g : Bool}
theorem gN : Tryz.prog.globalNamed "sherd/claim.needs" = some 0 := by kernel_rfl
theorem tN : (Tryz.prog.globals[0]?).map (·.type) = some 95 := by kernel_rfl
abbrev rowD (H : Type) (lo hi : Int) (f g : Bool) : DataW H := .agg [.lit (.int .i64 lo), .lit (.int .i64 hi), .lit (.bool f), .lit (.bool g)]
theorem need_f : (Tryz.prog.fieldsOf 94).size = 4 := by kernel_rfl
theorem need_u : Tryz.prog.underlying 94 = some (.struct (Tryz.prog.fieldsOf 94)) := by kernel_rfl
theorem need_c : Tryz.prog.cellsOf 94 = 4 := by kernel_rfl
theorem int_c : Tryz.prog.cellsOf 3 = 1 := by kernel_rfl
theorem bool_c : Tryz.prog.cellsOf 4 = 1 := by kernel_rfl
noncomputable def nf_ (i : Nat) : Field := (Tryz.prog.fieldsOf 94)[i]?.getD default
theorem need_at (i : Nat) (h : i < 4) : (Tryz.prog.fieldsOf 94)[i]? = some (nf_ i) := by
 unfold nf_
 rw [Array.getElem?_eq_getElem (by rw [need_f]; exact h)]; rfl
theorem nt0 : (nf_ 0).type = 3 ∧ (nf_ 0).offset = 0 := ⟨by kernel_rfl, by kernel_rfl⟩
theorem nt1 : (nf_ 1).type = 3 ∧ (nf_ 1).offset = 1 := ⟨by kernel_rfl, by kernel_rfl⟩
theorem nt2 : (nf_ 2).type = 4 ∧ (nf_ 2).offset = 2 := ⟨by kernel_rfl, by kernel_rfl⟩
theorem nt3 : (nf_ 3).type = 4 ∧ (nf_ 3).offset = 3 := ⟨by kernel_rfl, by kernel_rfl⟩
theorem need_row (h : DataW.trod enc Tryz.prog w base spare held m 94 cs = some (rowD H lo hi f g, ps)) : cs = [.int .i64 lo, .int .i64 hi, .bool f, .bool g] := by
 obtain ⟨xs, n, _, hx, hl, hlen, hf⟩ := DataW.trod_struct need_u h
 rw [need_f] at hlen
 rw [need_c] at hl
 obtain ⟨y0, y1, y2, y3, rfl⟩ := len4 hlen
 simp only [List.map_cons, List.map_nil, Prod.mk.injEq, DataW.agg.injEq, List.cons.injEq, and_true] at hx
 obtain ⟨⟨e0, e1, e2, e3⟩, _⟩ := hx
 obtain ⟨a, b, c, d, rfl⟩ := len4 hl
 have g0 := hf 0 _ (need_at 0 (by omega))
 have g1 := hf 1 _ (need_at 1 (by omega))
 have g2 := hf 2 _ (need_at 2 (by omega))
 have g3 := hf 3 _ (need_at 3 (by omega))
 rw [nt0.1, nt0.2, int_c] at g0
 rw [nt1.1, nt1.2, int_c] at g1
 rw [nt2.1, nt2.2, bool_c] at g2
 rw [nt3.1, nt3.2, bool_c] at g3
 obtain ⟨v0, c0, x0, _⟩ := DataW.trod_int (k := .i64) Tryz.underlying3 (show _ = some y0 from g0)
 obtain ⟨v1, c1, x1, _⟩ := DataW.trod_int (k := .i64) Tryz.underlying3 (show _ = some y1 from g1)
 obtain ⟨v2, c2, x2⟩ := DataW.trod_bool Tryz.underlying4 (show _ = some y2 from g2)
 obtain ⟨v3, c3, x3⟩ := DataW.trod_bool Tryz.underlying4 (show _ = some y3 from g3)
 rw [x0] at e0
 rw [x1] at e1
 rw [x2] at e2
 rw [x3] at e3
 simp at c0 c1 c2 c3 e0 e1 e2 e3
 rw [c0, c1, c2, c3, e0, e1, e2, e3]
end
def needsL : List Value := [.int .i64 0, .int .i64 0, .bool false, .bool true, .int .i64 1, .int .i64 16, .bool true, .bool false, .int .i64 2, .int .i64 16, .bool false, .bool false, .int .i64 1, .int .i64 16, .bool false, .bool false]
theorem arr_u : Tryz.prog.underlying 95 = some (.array 4 94) := by kernel_rfl
theorem arr_c : Tryz.prog.cellsOf 95 = 16 := by kernel_rfl
theorem needs_all {w : World} {m : Nat} {cs : List Value} {ps : List MemPlace} (h : DataW.trod (fun _ => ()) Tryz.prog w 0 (fun _ => true) false m 95 cs = some (Rows.laid_sherd_claim_needs, ps)) : cs = needsL := by
 obtain ⟨xs, n, _, hx, hl, hlen, hel⟩ := DataW.trod_array arr_u h
 rw [arr_c] at hl
 obtain ⟨y0, y1, y2, y3, rfl⟩ := len4 hlen
 unfold Rows.laid_sherd_claim_needs at hx
 simp only [List.map_cons, List.map_nil, Prod.mk.injEq, DataW.agg.injEq, List.cons.injEq, and_true] at hx
 obtain ⟨⟨e0, e1, e2, e3⟩, _⟩ := hx
 have g0 := hel 0 (by omega)
 have g1 := hel 1 (by omega)
 have g2 := hel 2 (by omega)
 have g3 := hel 3 (by omega)
 rw [need_c] at g0 g1 g2 g3
 obtain ⟨d0, p0⟩ := y0
 obtain ⟨d1, p1⟩ := y1
 obtain ⟨d2, p2⟩ := y2
 obtain ⟨d3, p3⟩ := y3
 simp only at e0 e1 e2 e3
 subst e0; subst e1; subst e2; subst e3
 have r0 := need_row (show _ = some (rowD Unit 0 0 false true, p0) from g0)
 have r1 := need_row (show _ = some (rowD Unit 1 16 true false, p1) from g1)
 have r2 := need_row (show _ = some (rowD Unit 2 16 false false, p2) from g2)
 have r3 := need_row (show _ = some (rowD Unit 1 16 false false, p3) from g3)
 have hc : cs = (cs.drop (0 * 4)).take 4 ++ ((cs.drop (1 * 4)).take 4 ++ ((cs.drop (2 * 4)).take 4 ++ (cs.drop (3 * 4)).take 4)) := by
  apply List.ext_getElem?
  intro i
  simp only [List.getElem?_append, List.length_append, List.length_take, List.length_drop, List.getElem?_take, List.getElem?_drop, hl]
  by_cases h1 : i < 4
  · simp [h1]
  · by_cases h2 : i < 8
    · simp [h1, show i - 4 < 4 by omega, show 4 + (i - 4) = i by omega]
    · by_cases h3 : i < 12
      · simp [h1, show ¬ i - 4 < 4 by omega, show i - 4 - 4 < 4 by omega, show 8 + (i - 4 - 4) = i by omega]
      · by_cases h4 : i < 16
        · simp [h1, show ¬ i - 4 < 4 by omega, show ¬ i - 4 - 4 < 4 by omega, show i - 4 - 4 - 4 < 4 by omega, show 12 + (i - 4 - 4 - 4) = i by omega]
        · rw [List.getElem?_eq_none (by omega)]
          simp [h1, show ¬ i - 4 < 4 by omega, show ¬ i - 4 - 4 < 4 by omega, show ¬ i - 4 - 4 - 4 < 4 by omega]
 rw [hc, r0, r1, r2, r3]
 rfl
def laid1 : List (String × DataW Unit) := [("sherd/claim.needs", Rows.laid_sherd_claim_needs)]
theorem gl_eq : gl = [(0, needsL.map V.k)] := by kernel_rfl
theorem glo_of {W : World} (h : laidMetH Tryz.prog laid1 W) : Glo W (fun _ => False) := by
 rw [MakeChecks.laidMetH_plain _ _ _ (by kernel_rfl)] at h
 obtain ⟨ps, ⟨g0, t0, cs0, f0, p0, q0, hg0, ht0, hv0, hd0, _, _⟩, _, _⟩ := h
 obtain rfl := Option.some.inj (gN.symm.trans hg0)
 obtain rfl := Option.some.inj (tN.symm.trans ht0)
 have hcs := needs_all hd0
 have hcell : ∀ (j : Nat) (v : Value), needsL[j]? = some v → W.cell? ⟨0, j, none⟩ = some v := fun j v hj => by
  rw [World.var?_cell hg0 hv0 j, ← Array.getElem?_toList, hcs]
  exact hj
 intro p hp
 rw [gl_eq] at hp
 simp only [List.mem_cons, List.not_mem_nil, or_false] at hp
 subst hp
 refine .ip _ _ 0 _ (fun j => needsL.getD j undef) (fun h => h) (cb_of (hcell 0 _ rfl)) (fun j x hj => ?_) (fun j x hj => ?_)
 · simp only [List.getElem?_map, Option.map_eq_some_iff] at hj
   obtain ⟨v, hv, rfl⟩ := hj
   rw [Nat.zero_add, hcell j v hv, List.getD_eq_getElem?_getD, hv]; rfl
 · simp only [List.getElem?_map, Option.map_eq_some_iff] at hj
   obtain ⟨v, hv, rfl⟩ := hj
   rw [List.getD_eq_getElem?_getD, hv]
   exact .k _ _
end Go.Proofs.YthliihpeodohpaaGreatDoor.E
